/- The walk of R.walk. -/
import Derived.Test.YtcfmimfkaabmkaaE4
set_option linter.unusedVariables false
set_option linter.unusedSimpArgs false
namespace Go.Proofs.Ytcfmimfkaabmkaa
open Go.RowKit
attribute [local go_sem] Oper.semAt_some
attribute [local irreducible] num
def WalkI (F : Nat) (l : List UInt8) (en : Int) (N : Nat) (W0 : World) (a : Int) (L : List (Int × List UInt8)) (v1 v2 : Value) (wr : World) : Prop :=
  (∃ f : Nat, 8192 - a < (f : Int) ∧ walkS l en F 8 = L ++ walkS l en f a) ∧ (L.length : Int) * 8 ≤ a ∧ OP wr N v1 (psOf L) ∧ OS wr N v2 (bsOf L) ∧ Below N W0 wr
def WalkPost (its : List (Int × List UInt8)) (w : World) (e : Ending) (w' : World) : Prop :=
  ∃ v1 v2, e = .returned (.tuple #[v1, v2]) ∧ OP w' w.heap.size v1 (psOf its) ∧ OS w' w.heap.size v2 (bsOf its) ∧ Below w.heap.size w w'
theorem walkS_stop (l : List UInt8) (en a : Int) (f : Nat) (h : ¬ (0 ≤ a ∧ a + 8 ≤ en ∧ en ≤ l.length)) : walkS l en f a = [] := by
  cases f <;> unfold walkS
  · rfl
  · rw [if_neg h]
theorem ext_sl (l : List UInt8) (i j : Nat) : (⟨l.toArray⟩ : ByteArray).extract i j = ⟨(sl l i j).toArray⟩ := by
  apply ByteArray.ext
  simp [sl, ByteArray.data_extract]
theorem rup_below (n : Int) (w : World) (h0 : 0 ≤ n) (h1 : n ≤ 100000000000) : Calls Try.prog 67 #[.int .i64 n] w fun e w' => e = .returned (.int .i64 (upZ n)) ∧ Below w.heap.size w w' :=
  (rup_any n w h0 h1).mono fun _ _ h => ⟨h.1, by rw [← h.2]; exact Below.refl _ _⟩
theorem num_str (l : List UInt8) (i : Int) (w : World) (h0 : 0 ≤ i) (h1 : i + 4 ≤ l.length) (h2 : l.length ≤ 8192) : Calls Try.prog 81 #[.string ⟨l.toArray⟩, .int .i64 i] w fun e w' => e = .returned (.int .i64 (num l i.toNat)) ∧ Below w.heap.size w w' := by
  have := rnumber_any ⟨l.toArray⟩ i w h0 h1 h2
  exact this
set_option maxHeartbeats 2000000 in
set_option maxRecDepth 100000 in
theorem walk_any (l : List UInt8) (w : World) (F : Nat) (hF : 8192 < F) (h1 : 16 ≤ l.length) (h2 : l.length ≤ 8192) : Calls Try.prog 86 #[.string ⟨l.toArray⟩] w (WalkPost (walkS l (8 + num l 0) F 8) w) := by
  have hnum := num_bd l 0
  obtain ⟨hnum1, hnum2⟩ := hnum
  go_enter Try.func86, Try.ntmps86
  go_wp2_with fail
  refine (num_str l 0 _ (by omega) (by omega) (by omega)).mono ?_
  rintro e w1 ⟨rfl, hb1⟩
  rw [show (0 : Int).toNat = 0 from rfl]
  generalize num l 0 = x at *
  have hbw : Below w.heap.size w w1 := (((Below.refl w.heap.size w).alloc (Nat.le_refl _) _).alloc (by simp) _).trans (hb1.mono (by simp; omega))
  have hI0 : Hid (WalkI F l (8 + x) w.heap.size w1 8 [] (.slice (some ⟨w.heap.size, 0, none⟩) 0 0) (.slice (some ⟨w.heap.size + 1, 0, none⟩) 0 0) w1) := by
    refine ⟨⟨F, by omega, rfl⟩, by decide, ?_, ?_, Below.refl _ _⟩
    · exact (op_new w w.heap.size (Nat.le_refl _)).below (((Below.refl (w.heap.size + 1) _).alloc (by simp) _).trans (hb1.mono (by simp)) |>.mono (by simp))
    · have h := os_new (w.alloc (.cells #[] 37)) w.heap.size (by simp)
      rw [World.size_alloc] at h
      exact h.below hb1
  have HB1 := hid hb1
  have HBW := hid hbw
  have hz1 : w.heap.size ≤ w1.heap.size := hbw.size
  clear hb1 hbw
  go_wp2_with fail
  obtain ⟨en, hen⟩ : ∃ en, 8 + x = en := ⟨_, rfl⟩
  rw [hen] at hI0 ⊢
  have hen8 : 8 ≤ en := by omega
  have HEN := hid hen; clear hen
  go_loopw [4, 5, 6] (fun v1 v2 p wr => ∃ (a : Int) (L : List (Int × List UInt8)), p = .int .i64 a ∧ 8 ≤ a ∧ a ≤ 20000 ∧ Hid (WalkI F l en w.heap.size w1 a L v1 v2 wr)) (fun _ _ p _ => (20000 - intOf p).toNat)
  case atStart => exact ⟨8, [], rfl, by omega, by omega, hI0⟩
  case round =>
    clear hI0
    obtain ⟨a, L, rfl, ha0, ha1, HI⟩ := hrel
    have hret : ∀ W, Below wr.heap.size wr W → (walkS l en F 8 = L) → Hid (OP W w.heap.size u4 (psOf (walkS l en F 8)) ∧ OS W w.heap.size u5 (bsOf (walkS l en F 8)) ∧ Below w.heap.size w W) := fun W hW hE => by
      obtain ⟨-, -, h1, h2, h3⟩ := HI.out
      rw [hE]
      exact ⟨h1.below hW, h2.below hW, HBW.out.trans (h3.trans (hW.mono (by have := h3.size; omega)))⟩
    have HRET := hid hret; clear hret
    have hstop : ∀ f : Nat, 8192 - a < (f : Int) → walkS l en F 8 = L ++ walkS l en f a → ¬ (a + 8 ≤ en ∧ en ≤ l.length) → walkS l en F 8 = L := fun f hf he hn => by
      rw [he, walkS_stop l en a f (fun h => hn ⟨h.2.1, h.2.2⟩), List.append_nil]
    have HSTOP := hid hstop; clear hstop
    have g0 : decide (0 ≤ a) = true := by simp; omega
    by_cases hc1 : a + 8 ≤ en
    · have g1 : decide (a + 8 ≤ en) = true := by simpa using hc1
      by_cases hc2 : en ≤ (l.length : Int)
      · have g2 : decide (en ≤ (l.length : Int)) = true := by simpa using hc2
        have hstep : ∀ f : Nat, 8192 - a < (f : Int) → walkS l en F 8 = L ++ walkS l en f a → walkS l en F 8 = L ++ (if num l a.toNat > l.length then [] else if num l (a.toNat + 4) = 1 then (if a + 8 + num l a.toNat > l.length then [] else (a + 8, sl l (a.toNat + 8) (a.toNat + 8 + (num l a.toNat).toNat)) :: walkS l en (f - 1) (a + 8 + upZ (num l a.toNat))) else walkS l en (f - 1) (a + 8 + upZ (num l a.toNat))) := fun f hf he => by
          rw [he]
          obtain ⟨g, rfl⟩ : ∃ g, f = g + 1 := ⟨f - 1, by omega⟩
          rw [walkS, if_pos ⟨by omega, hc1, hc2⟩, Nat.add_sub_cancel]
        have HSTEP := hid hstep; clear hstep
        have hs0 := num_bd l a.toNat
        obtain ⟨hs0, hs1⟩ := hs0
        have hup := upZ_bd (num l a.toNat) hs0
        obtain ⟨hup0, hup1⟩ := hup
        have HN1 := fun W => hid (num_str l a W (by omega) (by omega) (by omega))
        have HN2 := fun W => hid (num_str l (a + 4) W (by omega) (by omega) (by omega))
        rw [show (a + 4).toNat = a.toNat + 4 by omega] at HN2
        have HN1 := hid HN1
        have HN2 := hid HN2
        obtain ⟨sz, hsz⟩ : ∃ sz, num l a.toNat = sz := ⟨_, rfl⟩
        obtain ⟨mk, hmk⟩ : ∃ mk, num l (a.toNat + 4) = mk := ⟨_, rfl⟩
        rw [hsz] at HSTEP hs0 hs1 hup0 hup1 HN1
        rw [hmk] at HSTEP HN2
        clear hsz hmk
        obtain ⟨⟨f, hf, he⟩, hLl, hop, hos, hbw⟩ := HI.out
        have HST := hid (HSTEP.out f hf he)
        have HOP := hid hop
        have HOS := hid hos
        have HBR := hid hbw
        have hz2 := hbw.size
        have hf1 : 8192 - (a + 8) < ((f - 1 : Nat) : Int) := by omega
        have HF1 := hid hf1
        clear he hf hf1 hop hos hbw HSTEP
        go_wp2_with fail
        refine (HN1.out _).out.mono ?_
        rintro e w2 ⟨rfl, hb2⟩
        have HB2 := hid hb2
        have hz3 := hb2.size
        clear hb2
        by_cases h3 : (l.length : Int) < sz
        · have g3 : decide ((l.length : Int) < sz) = true := by simpa using h3
          have HF := HRET.out w2 HB2.out (by rw [HST.out, if_pos h3, List.append_nil])
          go_wp2_with fail
          go_ret2
          try rw [HEN.out]
          exact ⟨_, _, rfl, HF.out⟩
        have g3 : decide ((l.length : Int) < sz) = false := by simpa using h3
        go_wp2_with fail
        refine (HN2.out _).out.mono ?_
        rintro e w3 ⟨rfl, hb3⟩
        have HB3 := hid hb3
        have hz4 := hb3.size
        clear hb3
        have HB23 : Hid (Below wr.heap.size wr w3) := below_step HB3.out HB2.out
        by_cases h4 : mk = 1
        · have g4 : (mk == 1) = true := by simpa using h4
          have HM := hid h4; clear h4
          by_cases h5 : (l.length : Int) < a + 8 + sz
          · have g5 : decide ((l.length : Int) < a + 8 + sz) = true := by simpa using h5
            have HF := HRET.out w3 HB23.out (by rw [HST.out, if_neg (by omega), if_pos HM.out, if_pos h5, List.append_nil])
            go_wp2_with fail
            go_ret2
            try rw [HEN.out]
            exact ⟨_, _, rfl, HF.out⟩
          have g5 : decide ((l.length : Int) < a + 8 + sz) = false := by simpa using h5
          have HST2 : Hid (walkS l en F 8 = (L ++ [(a + 8, sl l (a.toNat + 8) (a.toNat + 8 + sz.toNat))]) ++ walkS l en (f - 1) (a + 8 + upZ sz)) := by
            unfold Hid; rw [HST.out, if_neg (by omega), if_pos HM.out, if_neg (by omega), List.append_assoc]; rfl
          have hLl2 : L.length ≤ 20000 := by omega
          have HOP0 : Hid (OP w3 w.heap.size u4 (psOf L)) := HOP.out.below HB23.out
          have HOS0 : Hid (OS w3 w.heap.size u5 (bsOf L)) := HOS.out.below HB23.out
          have hz5 : w.heap.size ≤ w3.heap.size := by omega
          go_upto_region 13 with (at_builtin; refine app_piece rfl _ _ rfl (w.heap.size) _ (psOf (L)) (a + 8, sz) _ _ rfl rfl (HOP0.out.below ((Below.refl _ _).alloc (Nat.le_refl _) _)) (cell_new _ _ _ 0 _ rfl) (cell_new _ _ _ 1 _ rfl) (by rw [psOf_length]; first | omega | (simp only [List.length_append, List.length_singleton]; omega)) (by simp; omega) ?_)
          intro v7 w7 hop7 hg7
          obtain ⟨hos7, hb7⟩ := after_piece ((Below.refl _ _).alloc (Nat.le_refl _) _) HOP0.out HOS0.out (by omega) hg7
          have HOP7 := hid hop7; have HOS7 := hid hos7; have HB7 := hid hb7; have hz7 := hb7.size; clear hop7 hos7 hb7 hg7
          have HX : Hid (strV (sl l (a.toNat + 8) (a.toNat + 8 + sz.toNat)) = .string ((⟨l.toArray⟩ : ByteArray).extract (a + 8).toNat (a + 8 + sz).toNat)) := by unfold Hid strV; rw [ext_sl, show (a + 8).toNat = a.toNat + 8 by omega, show (a + 8 + sz).toNat = a.toNat + 8 + sz.toNat by omega]
          have HXL : Hid (((sl l (a.toNat + 8) (a.toNat + 8 + sz.toNat)).length : Int) = sz) := by unfold Hid; rw [sl_length (by omega)]; omega
          go_upto_region 14 with (at_builtin; refine app_str rfl _ _ rfl (w.heap.size) _ (bsOf (L)) (sl l (a.toNat + 8) (a.toNat + 8 + sz.toNat)) _ _ rfl rfl (HOS7.out.below ((Below.refl _ _).alloc (Nat.le_refl _) _)) (by rw [HX.out]; exact cell_new _ _ _ 0 _ rfl) (by rw [bsOf_length]; first | omega | (simp only [List.length_append, List.length_singleton]; omega)) (by simp; omega) ?_)
          intro v8 w8 hos8 hg8
          obtain ⟨hop8, hb8⟩ := after_str ((Below.refl _ _).alloc (Nat.le_refl _) _) HOP7.out HOS7.out (by omega) hg8
          have HOP8 := hid hop8; have HOS8 := hid hos8; have HB8 := hid hb8; have hz8 := hb8.size; clear hop8 hos8 hb8 hg8
          have HOP9 : Hid (OP w8 w.heap.size v7 (psOf (L ++ [(a + 8, sl l (a.toNat + 8) (a.toNat + 8 + sz.toNat))]))) := by unfold Hid; rw [psOf_snoc]; simp only; rw [HXL.out]; exact HOP8.out
          have HOS9 : Hid (OS w8 w.heap.size v8 (bsOf (L ++ [(a + 8, sl l (a.toNat + 8) (a.toNat + 8 + sz.toNat))]))) := by unfold Hid; rw [bsOf_snoc]; exact HOS8.out
          clear g0 g1 g2 g3 g4 g5
          go_wp2_with fail
          refine (rup_any sz _ (by omega) (by omega)).mono ?_
          rintro e w9 ⟨rfl, rfl⟩
          go_wp2_with fail
          go_roundw
          case rel => exact ⟨a + 8 + upZ sz, _, by go_num, by omega, by omega, ⟨⟨f - 1, by have := HF1.out; omega, HST2.out⟩, by simp only [List.length_append, List.length_singleton]; omega, HOP9.out, HOS9.out, HBR.out.trans ((HB23.out.mono (by omega)).trans (HB7.out.trans HB8.out))⟩⟩
          case measure => simp [intOf]; omega
        · have g4 : (mk == 1) = false := by rw [beq_eq_false_iff_ne]; exact h4
          have HST2 : Hid (walkS l en F 8 = L ++ walkS l en (f - 1) (a + 8 + upZ sz)) := by unfold Hid; rw [HST.out, if_neg (by omega), if_neg h4]
          clear h4
          go_wp2_with fail
          refine (rup_any sz _ (by omega) (by omega)).mono ?_
          rintro e w9 ⟨rfl, rfl⟩
          go_wp2_with fail
          go_roundw
          case rel => exact ⟨a + 8 + upZ sz, L, by go_num, by omega, by omega, ⟨⟨f - 1, by have := HF1.out; omega, HST2.out⟩, by omega, HOP.out.below HB23.out, HOS.out.below HB23.out, HBR.out.trans (HB23.out.mono (by omega))⟩⟩
          case measure => simp [intOf]; omega
      · have g2 : decide (en ≤ (l.length : Int)) = false := by simpa using hc2
        have HF := HRET.out wr (Below.refl _ _) (by obtain ⟨⟨f, hf, he⟩, -⟩ := HI.out; exact HSTOP.out f hf he (fun h => hc2 h.2))
        clear hc2
        go_wp2_with fail
        go_ret2
        try rw [HEN.out]
        exact ⟨_, _, rfl, HF.out⟩
    · have g1 : decide (a + 8 ≤ en) = false := by simpa using hc1
      have HF := HRET.out wr (Below.refl _ _) (by obtain ⟨⟨f, hf, he⟩, -⟩ := HI.out; exact HSTOP.out f hf he (fun h => hc1 h.1))
      clear hc1
      go_wp2_with fail
      go_ret2
      try rw [HEN.out]
      exact ⟨_, _, rfl, HF.out⟩
theorem cons_bd {r : List (Int × List UInt8)} {f n : Nat} {x : Int × List UInt8} (h : r.length ≤ f ∧ ∀ x ∈ r, x.2.length ≤ n) (hx : x.2.length ≤ n) : (x :: r).length ≤ f + 1 ∧ ∀ y ∈ x :: r, y.2.length ≤ n :=
  ⟨Nat.succ_le_succ h.1, fun y hy => (List.mem_cons.1 hy).elim (fun e => by rw [e]; exact hx) (h.2 y)⟩
theorem nil_bd (f n : Nat) : ([] : List (Int × List UInt8)).length ≤ f ∧ ∀ y ∈ ([] : List (Int × List UInt8)), y.2.length ≤ n := ⟨Nat.zero_le _, fun x hx => by cases hx⟩
theorem sl_le (l : List UInt8) (i j : Nat) : (sl l i j).length ≤ l.length := by simp only [sl, List.length_take, List.length_drop]; omega
theorem walkS_bd (l : List UInt8) (en : Int) : ∀ (f : Nat) (a : Int), (walkS l en f a).length ≤ f ∧ ∀ x ∈ walkS l en f a, x.2.length ≤ l.length
  | 0, a => nil_bd _ _
  | f + 1, a => by
    have ih := walkS_bd l en f (a + 8 + upZ (num l a.toNat))
    unfold walkS
    split
    · split
      · exact nil_bd _ _
      · split
        · split
          · exact nil_bd _ _
          · exact cons_bd ih (sl_le _ _ _)
        · exact ⟨Nat.le_succ_of_le ih.1, ih.2⟩
    · exact nil_bd _ _
end Go.Proofs.Ytcfmimfkaabmkaa
