/- The walk of R.walk. -/
import Derived.Test.YtcfmimfkaabmkaaXE
import Derived.Test.YtcfmimfkaabmkaaE5
set_option linter.unusedVariables false
set_option linter.unusedSimpArgs false
namespace Go.Proofs.Ytcfmimfkaabmkaa
open Go.RowKit
attribute [local go_sem] Oper.semAt_some
attribute [local irreducible] num
def WalkI (F : Nat) (l : List UInt8) (en : Int) (N : Nat) (W0 : World) (a : Int) (L : List (Int × List UInt8)) (v1 v2 : Value) (wr : World) : Prop :=
  (∃ f : Nat, 8192 - a < (f : Int) ∧ walkS l en F 8 = L ++ walkS l en f a) ∧ (L.length : Int) * 8 ≤ a ∧ OP wr N v1 (psOf L) ∧ OS wr N v2 (bsOf L) ∧ Below N W0 wr
def WalkPost (its : List (Int × List UInt8)) (w : World) (e : Ending) (w' : World) : Prop :=
  ∃ v1 v2, e = .returned (.tuple #[v1, v2]) ∧ OP w' w.heap.size v1 (psOf its) ∧ OS w' w.heap.size v2 (bsOf its) ∧ Below w.heap.size w w'
theorem walkS_stop (l : List UInt8) (en a : Int) (f : Nat) (h : ¬ (0 ≤ a ∧ a + 8 ≤ en ∧ en ≤ l.length)) : walkS l en f a = [] := by
  cases f <;> unfold walkS
  · rfl
  · rw [if_neg h]
theorem ext_sl (l : List UInt8) (i j : Nat) : (⟨l.toArray⟩ : ByteArray).extract i j = ⟨(sl l i j).toArray⟩ := by
  apply ByteArray.ext
  simp [sl, ByteArray.data_extract]
theorem num_str (l : List UInt8) (i : Int) (w : World) (h0 : 0 ≤ i) (h1 : i + 4 ≤ l.length) (h2 : l.length ≤ 8192) : Calls Try.prog 81 #[.string ⟨l.toArray⟩, .int .i64 i] w fun e w' => e = .returned (.int .i64 (num l i.toNat)) ∧ Below w.heap.size w w' := by
  have := rnumber_any ⟨l.toArray⟩ i w h0 h1 h2
  exact this
set_option maxHeartbeats 2000000 in
set_option maxRecDepth 100000 in
theorem walk_any (l : List UInt8) (w : World) (F : Nat) (hF : 8192 < F) (h1 : 16 ≤ l.length) (h2 : l.length ≤ 8192) : Calls Try.prog 86 #[.string ⟨l.toArray⟩] w (WalkPost (walkS l (8 + num l 0) F 8) w) := by
  have hnum := num_bd l 0
  obtain ⟨hnum1, hnum2⟩ := hnum
  go_enter Try.func86, Try.ntmps86
  go_wp2_with fail
  refine (num_str l 0 _ (by omega) (by omega) (by omega)).mono ?_
  rintro e w1 ⟨rfl, hb1⟩
  rw [show (0 : Int).toNat = 0 from rfl]
  generalize num l 0 = x at *
  have hbw : Below w.heap.size w w1 := (((Below.refl w.heap.size w).alloc (Nat.le_refl _) _).alloc (by simp) _).trans (hb1.mono (by simp; omega))
  have hI0 : Hid (WalkI F l (8 + x) w.heap.size w1 8 [] (.slice (some ⟨w.heap.size, 0, none⟩) 0 0) (.slice (some ⟨w.heap.size + 1, 0, none⟩) 0 0) w1) := by
    refine ⟨⟨F, by omega, rfl⟩, by decide, ?_, ?_, Below.refl _ _⟩
    · exact (op_new w w.heap.size (Nat.le_refl _)).below (((Below.refl (w.heap.size + 1) _).alloc (by simp) _).trans (hb1.mono (by simp)) |>.mono (by simp))
    · have h := os_new (w.alloc (.cells #[] 37)) w.heap.size (by simp)
      rw [World.size_alloc] at h
      exact h.below hb1
  have HB1 := hid hb1
  have HBW := hid hbw
  have hz1 : w.heap.size ≤ w1.heap.size := hbw.size
  clear hb1 hbw
  go_wp2_with fail
  obtain ⟨en, hen⟩ : ∃ en, 8 + x = en := ⟨_, rfl⟩
  rw [hen] at hI0 ⊢
  have hen8 : 8 ≤ en := by omega
  have HEN := hid hen; clear hen
  go_loopw [4, 5, 6] (fun v1 v2 p wr => ∃ (a : Int) (L : List (Int × List UInt8)), p = .int .i64 a ∧ 8 ≤ a ∧ a ≤ 20000 ∧ Hid (WalkI F l en w.heap.size w1 a L v1 v2 wr)) (fun _ _ p _ => (20000 - intOf p).toNat)
  case atStart => exact ⟨8, [], rfl, by omega, by omega, hI0⟩
  case round =>
    clear hI0
    obtain ⟨a, L, rfl, ha0, ha1, HI⟩ := hrel
    have hret : ∀ W, Below wr.heap.size wr W → (walkS l en F 8 = L) → Hid (OP W w.heap.size u4 (psOf (walkS l en F 8)) ∧ OS W w.heap.size u5 (bsOf (walkS l en F 8)) ∧ Below w.heap.size w W) := fun W hW hE => by
      obtain ⟨-, -, h1, h2, h3⟩ := HI.out
      rw [hE]
      exact ⟨h1.below hW, h2.below hW, HBW.out.trans (h3.trans (hW.mono (by have := h3.size; omega)))⟩
    have HRET := hid hret; clear hret
    have hstop : ∀ f : Nat, 8192 - a < (f : Int) → walkS l en F 8 = L ++ walkS l en f a → ¬ (a + 8 ≤ en ∧ en ≤ l.length) → walkS l en F 8 = L := fun f hf he hn => by
      rw [he, walkS_stop l en a f (fun h => hn ⟨h.2.1, h.2.2⟩), List.append_nil]
    have HSTOP := hid hstop; clear hstop
    have g0 : decide (0 ≤ a) = true := by simp; omega
    by_cases hc1 : a + 8 ≤ en
    · have g1 : decide (a + 8 ≤ en) = true := by simpa using hc1
      by_cases hc2 : en ≤ (l.length : Int)
      · have g2 : decide (en ≤ (l.length : Int)) = true := by simpa using hc2
        have hstep : ∀ f : Nat, 8192 - a < (f : Int) → walkS l en F 8 = L ++ walkS l en f a → walkS l en F 8 = L ++ (if num l a.toNat > l.length then [] else if num l (a.toNat + 4) = 1 then (if a + 8 + num l a.toNat > l.length then [] else (a + 8, sl l (a.toNat + 8) (a.toNat + 8 + (num l a.toNat).toNat)) :: walkS l en (f - 1) (a + 8 + upZ (num l a.toNat))) else walkS l en (f - 1) (a + 8 + upZ (num l a.toNat))) := fun f hf he => by
          rw [he]
          obtain ⟨g, rfl⟩ : ∃ g, f = g + 1 := ⟨f - 1, by omega⟩
          rw [walkS, if_pos ⟨by omega, hc1, hc2⟩, Nat.add_sub_cancel]
        have HSTEP := hid hstep; clear hstep
        have hs0 := num_bd l a.toNat
        obtain ⟨hs0, hs1⟩ := hs0
        have hup := upZ_bd (num l a.toNat) hs0
        obtain ⟨hup0, hup1⟩ := hup
        have HN1 := fun W => hid (num_str l a W (by omega) (by omega) (by omega))
        have HN2 := fun W => hid (num_str l (a + 4) W (by omega) (by omega) (by omega))
        rw [show (a + 4).toNat = a.toNat + 4 by omega] at HN2
        have HN1 := hid HN1
        have HN2 := hid HN2
        obtain ⟨sz, hsz⟩ : ∃ sz, num l a.toNat = sz := ⟨_, rfl⟩
        obtain ⟨mk, hmk⟩ : ∃ mk, num l (a.toNat + 4) = mk := ⟨_, rfl⟩
        rw [hsz] at HSTEP hs0 hs1 hup0 hup1 HN1
        rw [hmk] at HSTEP HN2
        clear hsz hmk
        obtain ⟨⟨f, hf, he⟩, hLl, hop, hos, hbw⟩ := HI.out
        have HST := hid (HSTEP.out f hf he)
        have HOP := hid hop
        have HOS := hid hos
        have HBR := hid hbw
        have hz2 := hbw.size
        have hf1 : 8192 - (a + 8) < ((f - 1 : Nat) : Int) := by omega
        have HF1 := hid hf1
        clear he hf hf1 hop hos hbw HSTEP
        go_wp2_with fail
        refine (HN1.out _).out.mono ?_
        rintro e w2 ⟨rfl, hb2⟩
        have HB2 := hid hb2
        have hz3 := hb2.size
        clear hb2
        by_cases h3 : (l.length : Int) < sz
        · have g3 : decide ((l.length : Int) < sz) = true := by simpa using h3
          have HF := HRET.out w2 HB2.out (by rw [HST.out, if_pos h3, List.append_nil])
          go_wp2_with fail
          go_ret2
          try rw [HEN.out]
          exact ⟨_, _, rfl, HF.out⟩
        have g3 : decide ((l.length : Int) < sz) = false := by simpa using h3
        go_wp2_with fail
        refine (HN2.out _).out.mono ?_
        rintro e w3 ⟨rfl, hb3⟩
        have HB3 := hid hb3
        have hz4 := hb3.size
        clear hb3
        have HB23 : Hid (Below wr.heap.size wr w3) := below_step HB3.out HB2.out
        by_cases h4 : mk = 1
        · have g4 : (mk == 1) = true := by simpa using h4
          have HM := hid h4; clear h4
          by_cases h5 : (l.length : Int) < a + 8 + sz
          · have g5 : decide ((l.length : Int) < a + 8 + sz) = true := by simpa using h5
            have HF := HRET.out w3 HB23.out (by rw [HST.out, if_neg (by omega), if_pos HM.out, if_pos h5, List.append_nil])
            go_wp2_with fail
            go_ret2
            try rw [HEN.out]
            exact ⟨_, _, rfl, HF.out⟩
          have g5 : decide ((l.length : Int) < a + 8 + sz) = false := by simpa using h5
          have HST2 : Hid (walkS l en F 8 = (L ++ [(a + 8, sl l (a.toNat + 8) (a.toNat + 8 + sz.toNat))]) ++ walkS l en (f - 1) (a + 8 + upZ sz)) := by
            unfold Hid; rw [HST.out, if_neg (by omega), if_pos HM.out, if_neg (by omega), List.append_assoc]; rfl
          have hLl2 : L.length ≤ 20000 := by omega
          have HOP0 : Hid (OP w3 w.heap.size u4 (psOf L)) := HOP.out.below HB23.out
          have HOS0 : Hid (OS w3 w.heap.size u5 (bsOf L)) := HOS.out.below HB23.out
          have hz5 : w.heap.size ≤ w3.heap.size := by omega
          go_upto_region 13 with (at_builtin; refine app_piece rfl _ _ rfl (w.heap.size) _ (psOf (L)) (a + 8, sz) _ _ rfl rfl (HOP0.out.below ((Below.refl _ _).alloc (Nat.le_refl _) _)) (cell_new _ _ _ 0 _ rfl) (cell_new _ _ _ 1 _ rfl) (by rw [psOf_length]; first | omega | (simp only [List.length_append, List.length_singleton]; omega)) (by simp; omega) ?_)
          intro v7 w7 hop7 hg7
          obtain ⟨hos7, hb7⟩ := after_piece ((Below.refl _ _).alloc (Nat.le_refl _) _) HOP0.out HOS0.out (by omega) hg7
          have HOP7 := hid hop7; have HOS7 := hid hos7; have HB7 := hid hb7; have hz7 := hb7.size; clear hop7 hos7 hb7 hg7
          have HX : Hid (strV (sl l (a.toNat + 8) (a.toNat + 8 + sz.toNat)) = .string ((⟨l.toArray⟩ : ByteArray).extract (a + 8).toNat (a + 8 + sz).toNat)) := by unfold Hid strV; rw [ext_sl, show (a + 8).toNat = a.toNat + 8 by omega, show (a + 8 + sz).toNat = a.toNat + 8 + sz.toNat by omega]
          have HXL : Hid (((sl l (a.toNat + 8) (a.toNat + 8 + sz.toNat)).length : Int) = sz) := by unfold Hid; rw [sl_length (by omega)]; omega
          go_upto_region 14 with (at_builtin; refine app_str rfl _ _ rfl (w.heap.size) _ (bsOf (L)) (sl l (a.toNat + 8) (a.toNat + 8 + sz.toNat)) _ _ rfl rfl (HOS7.out.below ((Below.refl _ _).alloc (Nat.le_refl _) _)) (by rw [HX.out]; exact cell_new _ _ _ 0 _ rfl) (by rw [bsOf_length]; first | omega | (simp only [List.length_append, List.length_singleton]; omega)) (by simp; omega) ?_)
          intro v8 w8 hos8 hg8
          obtain ⟨hop8, hb8⟩ := after_str ((Below.refl _ _).alloc (Nat.le_refl _) _) HOP7.out HOS7.out (by omega) hg8
          have HOP8 := hid hop8; have HOS8 := hid hos8; have HB8 := hid hb8; have hz8 := hb8.size; clear hop8 hos8 hb8 hg8
          have HOP9 : Hid (OP w8 w.heap.size v7 (psOf (L ++ [(a + 8, sl l (a.toNat + 8) (a.toNat + 8 + sz.toNat))]))) := by unfold Hid; rw [psOf_snoc]; simp only; rw [HXL.out]; exact HOP8.out
          have HOS9 : Hid (OS w8 w.heap.size v8 (bsOf (L ++ [(a + 8, sl l (a.toNat + 8) (a.toNat + 8 + sz.toNat))]))) := by unfold Hid; rw [bsOf_snoc]; exact HOS8.out
          clear g0 g1 g2 g3 g4 g5
          go_wp2_with fail
          refine (rup_any sz _ (by omega) (by omega)).mono ?_
          rintro e w9 ⟨rfl, rfl⟩
          go_wp2_with fail
          go_roundw
          case rel => exact ⟨a + 8 + upZ sz, _, by go_num, by omega, by omega, ⟨⟨f - 1, by have := HF1.out; omega, HST2.out⟩, by simp only [List.length_append, List.length_singleton]; omega, HOP9.out, HOS9.out, HBR.out.trans ((HB23.out.mono (by omega)).trans (HB7.out.trans HB8.out))⟩⟩
          case measure => simp [intOf]; omega
        · have g4 : (mk == 1) = false := by rw [beq_eq_false_iff_ne]; exact h4
          have HST2 : Hid (walkS l en F 8 = L ++ walkS l en (f - 1) (a + 8 + upZ sz)) := by unfold Hid; rw [HST.out, if_neg (by omega), if_neg h4]
          clear h4
          go_wp2_with fail
          refine (rup_any sz _ (by omega) (by omega)).mono ?_
          rintro e w9 ⟨rfl, rfl⟩
          go_wp2_with fail
          go_roundw
          case rel => exact ⟨a + 8 + upZ sz, L, by go_num, by omega, by omega, ⟨⟨f - 1, by have := HF1.out; omega, HST2.out⟩, by omega, HOP.out.below HB23.out, HOS.out.below HB23.out, HBR.out.trans (HB23.out.mono (by omega))⟩⟩
          case measure => simp [intOf]; omega
      · have g2 : decide (en ≤ (l.length : Int)) = false := by simpa using hc2
        have HF := HRET.out wr (Below.refl _ _) (by obtain ⟨⟨f, hf, he⟩, -⟩ := HI.out; exact HSTOP.out f hf he (fun h => hc2 h.2))
        clear hc2
        go_wp2_with fail
        go_ret2
        try rw [HEN.out]
        exact ⟨_, _, rfl, HF.out⟩
    · have g1 : decide (a + 8 ≤ en) = false := by simpa using hc1
      have HF := HRET.out wr (Below.refl _ _) (by obtain ⟨⟨f, hf, he⟩, -⟩ := HI.out; exact HSTOP.out f hf he (fun h => hc1 h.1))
      clear hc1
      go_wp2_with fail
      go_ret2
      try rw [HEN.out]
      exact ⟨_, _, rfl, HF.out⟩
theorem cons_bd {r : List (Int × List UInt8)} {f n : Nat} {x : Int × List UInt8} (h : r.length ≤ f ∧ ∀ x ∈ r, x.2.length ≤ n) (hx : x.2.length ≤ n) : (x :: r).length ≤ f + 1 ∧ ∀ y ∈ x :: r, y.2.length ≤ n :=
  ⟨Nat.succ_le_succ h.1, fun y hy => (List.mem_cons.1 hy).elim (fun e => by rw [e]; exact hx) (h.2 y)⟩
theorem nil_bd (f n : Nat) : ([] : List (Int × List UInt8)).length ≤ f ∧ ∀ y ∈ ([] : List (Int × List UInt8)), y.2.length ≤ n := ⟨Nat.zero_le _, fun x hx => by cases hx⟩
theorem sl_le (l : List UInt8) (i j : Nat) : (sl l i j).length ≤ l.length := by simp only [sl, List.length_take, List.length_drop]; omega
theorem walkS_bd (l : List UInt8) (en : Int) : ∀ (f : Nat) (a : Int), (walkS l en f a).length ≤ f ∧ ∀ x ∈ walkS l en f a, x.2.length ≤ l.length
  | 0, a => nil_bd _ _
  | f + 1, a => by
    have ih := walkS_bd l en f (a + 8 + upZ (num l a.toNat))
    unfold walkS
    split
    · split
      · exact nil_bd _ _
      · split
        · split
          · exact nil_bd _ _
          · exact cons_bd ih (sl_le _ _ _)
        · exact ⟨Nat.le_succ_of_le ih.1, ih.2⟩
    · exact nil_bd _ _
end Go.Proofs.Ytcfmimfkaabmkaa
/- The walk of R.parts. -/
set_option linter.unusedVariables false
set_option linter.unusedSimpArgs false
namespace Go.Proofs.Ytcfmimfkaabmkaa
open Go.RowKit
attribute [local go_sem] Oper.semAt_some
attribute [local irreducible] num
def nilS : Value := .slice none 0 0
def PartsBad (w : World) (e : Ending) (w' : World) : Prop := e = .returned (.tuple #[.slice none 0 0, .slice none 0 0, .int .i64 120]) ∧ Below w.heap.size w w'
def PartsOk (lay : Lay) (w : World) (e : Ending) (w' : World) : Prop :=
  ∃ v1 v2, e = .returned (.tuple #[v1, v2, .int .i64 0]) ∧ OP w' w.heap.size v1 (psOf (itsOf lay)) ∧ OS w' w.heap.size v2 (bsOf (itsOf lay)) ∧ Below w.heap.size w w'
set_option maxHeartbeats 2000000 in
set_option maxRecDepth 100000 in
theorem rparts_size (l : List UInt8) (w : World) (h : l.length < 16 ∨ 8192 < l.length) (hl : l.length ≤ maxLen) : Calls Try.prog 66 #[.string ⟨l.toArray⟩] w (PartsBad w) := by
  unfold maxLen at hl
  rcases h with h | h
  · go_enter Try.func66, Try.ntmps66
    go_wp2_with fail
    go_ret3
    exact ⟨rfl, Below.refl _ _⟩
  · have h' : ¬ l.length < 16 := by omega
    go_enter Try.func66, Try.ntmps66
    go_wp2_with fail
    go_ret3
    exact ⟨rfl, Below.refl _ _⟩
set_option maxHeartbeats 2000000 in
set_option maxRecDepth 100000 in
theorem rparts_lay (l : List UInt8) (lay : Lay) (w : World) (hA : Area l lay) : Calls Try.prog 66 #[.string ⟨l.toArray⟩] w (PartsOk lay w) := by
  have h1 := hA.1
  have h2 := hA.2.1
  obtain ⟨F, hF, hF2⟩ : ∃ F : Nat, 8192 < F ∧ F ≤ 10000 := ⟨9000, by decide, by decide⟩
  have hW := fun w => walk_any l w F hF h1 h2
  rw [walkS_area hA F hF] at hW
  have HW := hid hW; clear hW
  have HP := hid (parts_area hA)
  have hlen : lay.length ≤ 8192 := (area_num4 hA).2
  have hts : ∀ t ∈ bsOf (itsOf lay), t.length ≤ 10000000 := fun t ht => by
    obtain ⟨x, hx, rfl⟩ := List.mem_map.1 ht
    obtain ⟨y, hy, rfl⟩ := List.mem_map.1 hx
    have := ends_le lay _ _ hA.2.2.1 y hy
    have := hA.2.2.2.1
    have := upN_bd y.2.length
    simp only; omega
  have HB := fun (v1 v2 : Value) (w : World) (hR : RP w v1 (psOf (itsOf lay))) (hT : RS w v2 (bsOf (itsOf lay))) => build_any l.length v1 v2 _ _ w hR hT (by rw [psOf_length]; simp [itsOf]; omega) (by rw [bsOf_length]; simp [itsOf]; omega) hts
  have HB := hid HB
  clear hA hts
  go_enter Try.func66, Try.ntmps66
  go_wp2_with fail
  refine (HW.out _).mono ?_
  rintro e w1 ⟨v1, v2, rfl, hop, hos, hb1⟩
  have HOP := hid hop
  have HOS := hid hos
  have HB1 := hid hb1
  clear hop hos hb1
  go_wp2_with fail
  refine (HB.out v1 v2 w1 HOP.out.rp HOS.out.rs).mono ?_
  rintro e w2 ⟨rfl, hb2⟩
  have HB2 := hid hb2; clear hb2
  rw [HP.out]
  unfold strV
  go_wp2_with fail
  go_ret3
  exact ⟨_, _, rfl, HOP.out.below HB2.out, HOS.out.below HB2.out, below_step HB2.out HB1.out⟩
set_option maxHeartbeats 2000000 in
set_option maxRecDepth 100000 in
theorem rparts_no (l : List UInt8) (w : World) (h1 : 16 ≤ l.length) (h2 : l.length ≤ 8192) (hA : openS l = false) : Calls Try.prog 66 #[.string ⟨l.toArray⟩] w (PartsBad w) := by
  obtain ⟨F, hF, hF2⟩ : ∃ F : Nat, 8192 < F ∧ F ≤ 10000 := ⟨9000, by decide, by decide⟩
  have hW := fun w => walk_any l w F hF h1 h2
  have hbd := walkS_bd l (8 + num l 0) F 8
  have hP := fun its => parts_bad hA h1 h2 its
  generalize walkS l (8 + num l 0) F 8 = its at hW hbd
  have HW := hid hW; clear hW
  have hPi := hP its
  clear hP hA
  have hts : ∀ t ∈ bsOf its, t.length ≤ 10000000 := fun t ht => by
    obtain ⟨x, hx, rfl⟩ := List.mem_map.1 ht
    have := hbd.2 x hx
    show x.2.length ≤ _; omega
  have HB := fun (v1 v2 : Value) (w : World) (hR : RP w v1 (psOf its)) (hT : RS w v2 (bsOf its)) => build_any l.length v1 v2 _ _ w hR hT (by rw [psOf_length]; omega) (by rw [bsOf_length]; omega) hts
  have HB := hid HB
  clear hts hbd
  obtain ⟨⟨r, c⟩, hr⟩ : ∃ r, buildS l.length (psOf its) (bsOf its) = r := ⟨_, rfl⟩
  rw [hr] at hPi
  have HR := hid hr; clear hr
  have HPi := hid hPi; clear hPi
  go_enter Try.func66, Try.ntmps66
  go_wp2_with fail
  refine (HW.out _).mono ?_
  rintro e w1 ⟨v1, v2, rfl, hop, hos, hb1⟩
  have HOP := hid hop
  have HOS := hid hos
  have HB1 := hid hb1
  clear hop hos hb1
  go_wp2_with fail
  refine (HB.out v1 v2 w1 HOP.out.rp HOS.out.rs).mono ?_
  rintro e w2 ⟨rfl, hb2⟩
  have HB2 := hid hb2; clear hb2
  rw [HR.out]
  unfold strV
  have HF : Hid (PartsBad w (.returned (.tuple #[.slice none 0 0, .slice none 0 0, .int .i64 120])) w2) := ⟨rfl, below_step HB2.out HB1.out⟩
  by_cases hc : c = 0
  · have hne : ¬ r = l := fun h => HPi.out (by rw [h, hc])
    have hne1 : (r == l) = false := by rw [beq_eq_false_iff_ne]; exact hne
    have HNE := hid hne
    clear hne
    subst hc
    go_wp2_with fail
    go_ret3
    exact HF.out
  · have g1 : (c == 0) = false := by rw [beq_eq_false_iff_ne]; exact hc
    have g2 : (c != 0) = true := by rw [bne_iff_ne]; exact hc
    clear hc
    go_wp2_with fail
    go_ret3
    exact HF.out
/-- R.parts refuses what is no area. -/
theorem rparts_bad (l : List UInt8) (w : World) (hl : l.length ≤ maxLen) (hA : openS l = false) : Calls Try.prog 66 #[.string ⟨l.toArray⟩] w (PartsBad w) := by
  by_cases h : l.length < 16 ∨ 8192 < l.length
  · exact rparts_size l w h hl
  · exact rparts_no l w (by omega) (by omega) hA
end Go.Proofs.Ytcfmimfkaabmkaa
/- The walk of R.Alloc. -/
set_option linter.unusedVariables false
set_option linter.unusedSimpArgs false
namespace Go.Proofs.Ytcfmimfkaabmkaa
open Go.RowKit
attribute [local go_sem] Oper.semAt_some
attribute [local irreducible] num
set_option maxHeartbeats 2000000 in
set_option maxRecDepth 100000 in
theorem ralloc_bad (l : List UInt8) (n : Int) (w : World) (hl : l.length ≤ maxLen) (hA : openS l = false) : Calls Try.prog 21 #[.string ⟨l.toArray⟩, .int .i64 n] w (TriPost ([], 0, 120) w) := by
  have HP := hid (fun w => rparts_bad l w hl hA)
  clear hA hl
  go_enter Try.func21, Try.ntmps21
  go_wp2_with fail
  refine (HP.out _).mono ?_
  rintro e w1 ⟨rfl, hb1⟩
  have HB1 := hid hb1; clear hb1
  go_wp2_with fail
  go_ret3
  exact ⟨rfl, HB1.out⟩
set_option maxHeartbeats 2000000 in
set_option maxRecDepth 100000 in
theorem ralloc_arg (l : List UInt8) (n : Int) (lay : Lay) (w : World) (hA : Area l lay) (hn : n < 1 ∨ 8192 < n) : Calls Try.prog 21 #[.string ⟨l.toArray⟩, .int .i64 n] w (TriPost ([], 0, 1) w) := by
  have HP := hid (fun w => rparts_lay l lay w hA)
  clear hA
  rcases hn with hn | hn
  all_goals
    first | (have hd1 : decide (n < 1) = true := by simpa using hn) | (have hd1 : decide (n < 1) = false := by simp; omega)
    try have hd2 : decide (8192 < n) = true := by simpa using hn
    clear hn
    go_enter Try.func21, Try.ntmps21
    go_wp2_with fail
    refine (HP.out _).mono ?_
    rintro e w1 ⟨v1, v2, rfl, hop, hos, hb1⟩
    have HB1 := hid hb1; clear hb1 hop hos
    go_wp2_with fail
    go_ret3
    exact ⟨rfl, HB1.out⟩
def TinyP (ps : List (Int × Int)) : Prop := ps.length ≤ 100000 ∧ ∀ (i : Nat) (p : Int × Int), ps[i]? = some p → 0 ≤ p.1 ∧ p.1 ≤ 100000 ∧ 0 ≤ p.2 ∧ p.2 ≤ 100000
theorem TinyP.small {ps : List (Int × Int)} (h : TinyP ps) : SmallP ps := ⟨h.1, fun i p hp => by have := h.2 i p hp; omega⟩
theorem tries_small {l : List UInt8} {lay : Lay} (hA : Area l lay) : TinyP (psOf (itsOf lay)) := by
  have hlen := (area_num4 hA).2
  refine ⟨by rw [psOf_length]; simp [itsOf]; omega, fun i p hp => ?_⟩
  obtain ⟨x, hx, rfl⟩ := List.mem_map.1 (List.mem_of_getElem? hp)
  obtain ⟨y, hy, rfl⟩ := List.mem_map.1 hx
  have := ends_le lay _ _ hA.2.2.1 y hy
  have := hA.2.2.2.1
  have := hA.2.1
  have := upN_bd y.2.length
  simp only
  omega
theorem tiny_bytes {its : List (Int × List UInt8)} (h : TinyP (psOf its)) : ∀ x ∈ its, x.2.length ≤ 100000 := fun x hx => by
  obtain ⟨i, hi⟩ := List.mem_iff_getElem?.1 hx
  have := h.2 i (x.1, (x.2.length : Int)) (by unfold psOf; rw [List.getElem?_map, hi]; rfl)
  simp only at this
  omega
theorem insS_bd (b : Int × List UInt8) : ∀ (its : List (Int × List UInt8)), (insS b its).length = its.length + 1 ∧ ∀ x ∈ insS b its, x = b ∨ x ∈ its
  | [] => ⟨rfl, fun x hx => by simp only [insS, List.mem_singleton] at hx; exact .inl hx⟩
  | y :: r => by
    have ih := insS_bd b r
    unfold insS
    split
    · exact ⟨rfl, fun x hx => (List.mem_cons.1 hx).imp id id⟩
    · refine ⟨by simp only [List.length_cons, ih.1], fun x hx => ?_⟩
      rcases List.mem_cons.1 hx with rfl | hx
      · exact .inr (List.mem_cons_self ..)
      · exact (ih.2 x hx).imp id (List.mem_cons_of_mem _)
theorem find_snoc {α : Type} (f : α → Bool) (l : List α) (k : Nat) (x : α) (h : l[k]? = some x) (h0 : (l.take k).find? f = none) (h1 : f x = false) : (l.take (k + 1)).find? f = none := by
  rw [List.take_add_one, h]; simp only [Option.toList_some, List.find?_append, h0, Option.none_or, List.find?_cons, h1, List.find?_nil]
theorem find_hit {α : Type} (f : α → Bool) (l : List α) (k : Nat) (x : α) (h : l[k]? = some x) (h0 : (l.take k).find? f = none) (h1 : f x = true) : l.find? f = some x := by
  have h2 : l = l.take k ++ (x :: l.drop (k + 1)) := by
    have := drop_at h
    conv => lhs; rw [← List.take_append_drop k l, this]
  rw [h2, List.find?_append, h0, Option.none_or, List.find?_cons, h1]
set_option maxHeartbeats 4000000 in
set_option maxRecDepth 100000 in
theorem ralloc_main (l : List UInt8) (n : Int) (lay : Lay) (w : World) (hA : Area l lay) (hn1 : 1 ≤ n) (hn2 : n ≤ 8192) : Calls Try.prog 21 #[.string ⟨l.toArray⟩, .int .i64 n] w (TriPost (rallocS l.length (itsOf lay) n) w) := by
  have hl1 := hA.1
  have hl2 := hA.2.1
  have HP := hid (fun w => rparts_lay l lay w hA)
  have HSm := hid (tries_small hA)
  have hlen : lay.length ≤ 8192 := (area_num4 hA).2
  obtain ⟨its, hits⟩ : ∃ its, itsOf lay = its := ⟨_, rfl⟩
  unfold PartsOk at HP
  rw [hits] at HP HSm ⊢
  have hilen : its.length ≤ 8192 := by rw [← hits]; simpa [itsOf] using hlen
  clear hits hA hlen
  have d1 : decide (n < 1) = false := by simp; omega
  have d2 : decide (8192 < n) = false := by simp; omega
  go_enter Try.func21, Try.ntmps21
  go_wp2_with fail
  refine (HP.out _).mono ?_
  rintro e w1 ⟨v1, v2, rfl, hop, hos, hb1⟩
  have hrp := hop.rp
  obtain ⟨o, cap, rfl, hc⟩ := hop.rp
  obtain ⟨m, hm⟩ : ∃ m, (psOf its).length = m := ⟨_, rfl⟩
  rw [hm] at hrp ⊢
  have HRP := hid hrp
  have HC := hid hc
  have HRS := hid hos.rs
  have hmm : m ≤ 8192 := by rw [← hm, psOf_length]; exact hilen
  have HM := hid hm
  have HB1 := hid hb1; have hz1 := hb1.size
  clear hb1 hop hos hrp hc hm
  have HTL : Hid ((tries (psOf its)).length = m + 1) := by unfold Hid tries; rw [List.length_cons, List.length_map, HM.out]
  go_wp2_with fail
  go_loopw [10, 11] (fun p q wr => ∃ at_ i : Int, p = .int .i64 at_ ∧ q = .int .i64 i ∧ -1 ≤ i ∧ i ≤ m ∧ (i = -1 → at_ = 16) ∧ Hid (((tries (psOf its)).take (i + 1).toNat).find? (fun c => roomS l.length (psOf its) (c, n)) = none) ∧ Hid (Below w1.heap.size w1 wr)) (fun _ q _ => (m - intOf q).toNat)
  case atStart => exact ⟨16, -1, rfl, rfl, by omega, by omega, fun _ => rfl, rfl, Below.refl _ _⟩
  case round =>
    obtain ⟨at_, i, rfl, rfl, hi0, hi1, hat, HF, HBR⟩ := hrel
    have HAT := hid hat; clear hat
    by_cases hlt : i < m
    · obtain ⟨c, hc⟩ : ∃ c, (tries (psOf its))[(i + 1).toNat]? = some c := ⟨_, List.getElem?_eq_getElem (by have := HTL.out; omega)⟩
      have HCC := hid hc
      go_upto_if 39 with (fail)
      go_cut [10] (fun p wx => p = .int .i64 c ∧ 0 ≤ c ∧ c ≤ 1000000000 ∧ Hid (Below w1.heap.size w1 wx))
      case first =>
        by_cases h0 : i = -1
        · have hcv : c = 16 := by
            subst h0
            rw [show ((-1 : Int) + 1).toNat = 0 from rfl] at hc
            simpa [tries] using hc.symm
          have hav := HAT.out h0
          subst hcv
          subst hav
          subst h0
          clear hc
          go_wp2_with fail
          go_meet
          case rel => exact ⟨rfl, by omega, by omega, HBR⟩
        · obtain ⟨j, rfl⟩ := Int.eq_ofNat_of_zero_le (show 0 ≤ i by omega)
          obtain ⟨q, hq⟩ : ∃ q, (psOf its)[j]? = some q := ⟨_, List.getElem?_eq_getElem (by have := HM.out; omega)⟩
          have hcv : c = q.1 + upZ q.2 + 8 := by
            rw [show ((j : Int) + 1).toNat = j + 1 by omega] at hc
            simp only [tries, List.getElem?_cons_succ, List.getElem?_map, hq, Option.map_some, Option.some.injEq] at hc
            exact hc.symm
          obtain ⟨s0, s1, s2, s3⟩ := HSm.out.2 j q hq
          rcases HC.out with hc' | ⟨b, off, rfl, hbl, hc'⟩
          · rw [hc'] at hq; simp at hq
          obtain ⟨e0, e1⟩ := hc' j q hq
          have e0 := keepc HBR.out e0
          have e1 := keepc HBR.out e1
          clear hc hc' hq
          obtain ⟨q0, q1⟩ := q
          simp only at s0 s1 s2 s3 e0 e1 hcv
          have huq := upZ_bd q1 s2
          obtain ⟨huq, huq'⟩ := huq
          have HCV := hid hcv
          have hcb : 0 ≤ c ∧ c ≤ 1000000000 := by omega
          clear hcv
          have hw1 : IntKind.i64.wrap (q0 + upZ q1) = q0 + upZ q1 := IntWalk.i64_in _ ⟨by omega, by omega⟩
          have hw2 : IntKind.i64.wrap (q0 + upZ q1 + 8) = q0 + upZ q1 + 8 := IntWalk.i64_in _ ⟨by omega, by omega⟩
          clear h0
          go_wp2_with fail
          go_quiet ((go_at_call 67; exact Calls.quiet_of_same ((rup_any _ _ (by omega) (by omega)).mono (fun _ _ h => ⟨h.1, h.2.symm⟩))))
          go_wp2_with fail
          go_meet
          case rel => exact ⟨by rw [HCV.out], hcb.1, hcb.2, below_drewN HBR.out _⟩
      case rest =>
        obtain ⟨rfl, hc0, hc1, HBX⟩ := hcut
        have hz2 := HBX.out.size
        have HWW : Hid (Below w.heap.size w wc) := HB1.out.trans (HBX.out.mono hz1)
        go_wp2_with fail
        refine (room_any _ _ _ c n _ (HRP.out.below (HBX.out.alloc hz2 _)) HSm.out.small hc0 hc1 (by omega) (by omega)).mono ?_
        rintro e w2 ⟨rfl, hb2⟩
        obtain ⟨rm, hrm⟩ : ∃ rm, roomS l.length (psOf its) (c, n) = rm := ⟨_, rfl⟩
        rw [hrm]
        have HRM := hid hrm; clear hrm
        have c0 : w2.cell? ⟨wc.heap.size, 0, none⟩ = some (.int .i64 c) := keepc hb2 (cell_new _ _ _ 0 _ rfl)
        have c1 : w2.cell? ⟨wc.heap.size, 1, none⟩ = some (.int .i64 n) := keepc hb2 (cell_new _ _ _ 1 _ rfl)
        have HBY : Hid (Below w1.heap.size w1 w2) := (HBX.out.alloc hz2 _).trans (hb2.mono (by simp; omega))
        clear hb2
        cases rm with
        | false =>
          have HF2 := hid (find_snoc (fun c => roomS l.length (psOf its) (c, n)) _ _ _ HCC.out HF.out HRM.out)
          go_wp2_with fail
          go_roundw
          case rel => exact ⟨c, i + 1, rfl, by go_num, by omega, by omega, fun h => by omega, by rw [show (i + 1 + 1).toNat = (i + 1).toNat + 1 by omega]; exact HF2.out, HBY.out⟩
          case measure => simp [intOf]; omega
        | true =>
          have HF2 := hid (find_hit (fun c => roomS l.length (psOf its) (c, n)) _ _ _ HCC.out HF.out HRM.out)
          go_upto_region 14 with (fail)
          have hzl : (n : Int) = ((zs n.toNat).length : Int) := by rw [zs_length]; omega
          have HZL := hid hzl; clear hzl
          go_region_held3 (fun w' => Below w2.heap.size w2 w' ∧ w'.cell? ⟨wc.heap.size, 0, none⟩ = some (.int .i64 c) ∧ w'.cell? ⟨wc.heap.size, 1, none⟩ = some (.int .i64 n))
            ((refine (fun hS => ⟨hS, keepc hS c0, keepc hS c1⟩ : Below w2.heap.size w2 _ → _) ?_; first | exact (Below.refl _ _).drew | exact below_step hb3 (And.left (by assumption)) | exact below_step hb3 (by assumption) | exact below_step hb4 (And.left (by assumption)) | exact below_step hb4 (by assumption)))
            (first
              | (go_at_call 70; refine (rzeros_str _ _ (by omega) (by omega)).mono ?_; rintro e w3 ⟨rfl, hb3⟩)
              | (go_at_call 69; have hq : Below w2.heap.size w2 w3 := And.left (by assumption); refine (insert_any _ _ its c n (zs n.toNat) _ (HRP.out.below (HBY.out.trans (hq.mono HBY.out.size))) (HRS.out.below (HBY.out.trans (hq.mono HBY.out.size))) (by omega) HZL.out).mono ?_; rintro e w4 ⟨v3, v4, rfl, hop, hos, hb4⟩))
          have HOPI := hid hop
          have HOSI := hid hos
          have HB4 := hid hb4
          have HQ := hid hq
          clear hop hos hb4
          have hb : Below w2.heap.size w2 w4 := below_step HB4.out HQ.out
          have HWF : Hid (Below w.heap.size w w4) := HB1.out.trans ((HBY.out.trans (hb.mono HBY.out.size)).mono hz1)
          clear hb
          have hil := insS_bd (c, zs n.toNat) its
          have HTB := hid (tiny_bytes HSm.out)
          have hz8 : (zs n.toNat).length ≤ 10000 := by rw [zs_length]; omega
          have hbt : ∀ t ∈ bsOf (insS (c, zs n.toNat) its), t.length ≤ 10000000 := fun t ht => by
            obtain ⟨x, hx, rfl⟩ := List.mem_map.1 ht
            rcases hil.2 x hx with rfl | hx
            · show (zs n.toNat).length ≤ _; omega
            · have := HTB.out x hx; show x.2.length ≤ _; omega
          have HBF := build_any (l.length : Int) v3 v4 _ _ w4 HOPI.out.rp HOSI.out.rs (by rw [psOf_length]; omega) (by rw [bsOf_length]; omega) hbt
          have HBF := hid HBF
          have HRES : Hid (rallocS l.length its n = ((buildS l.length (psOf (insS (c, zs n.toNat) its)) (bsOf (insS (c, zs n.toNat) its))).1, c, (buildS l.length (psOf (insS (c, zs n.toNat) its)) (bsOf (insS (c, zs n.toNat) its))).2)) := by
            unfold Hid rallocS; rw [HF2.out]
          obtain ⟨r, hr⟩ : ∃ r, buildS l.length (psOf (insS (c, zs n.toNat) its)) (bsOf (insS (c, zs n.toNat) its)) = r := ⟨_, rfl⟩
          rw [hr] at HBF HRES
          clear hr hbt HTB hil hz8
          go_wp2_with fail
          refine HBF.out.mono ?_
          rintro e w5 ⟨rfl, hb5⟩
          have HB5 := hid hb5; clear hb5
          go_wp2_with fail
          go_ret3
          exact ⟨by rw [HRES.out]; rfl, below_step HB5.out HWF.out⟩
    · have him : i = m := by omega
      have HRES : Hid (rallocS l.length its n = ([], 0, 121)) := by
        have h := HF.out
        rw [List.take_of_length_le (by have := HTL.out; omega)] at h
        unfold Hid rallocS; rw [h]
      have HWF : Hid (Below w.heap.size w wr) := HB1.out.trans (HBR.out.mono hz1)
      clear him
      go_wp2_with fail
      go_ret3
      exact ⟨by rw [HRES.out]; rfl, HWF.out⟩
/-- The contract of R.Alloc. -/
theorem ralloc_any (l : List UInt8) (n : Int) (lay : Lay) (w : World) (hA : Area l lay) : Calls Try.prog 21 #[.string ⟨l.toArray⟩, .int .i64 n] w (TriPost (allocA l.length lay n) w) := by
  by_cases hn : n < 1 ∨ 8192 < n
  · unfold allocA; rw [if_pos hn]; exact ralloc_arg l n lay w hA hn
  · obtain ⟨k, rfl⟩ := Int.eq_ofNat_of_zero_le (show 0 ≤ n by omega)
    rw [← ralloc_lay hA.1 hA.2.1 (by omega) (by omega) hA.2.2.1 hA.2.2.2.1]
    exact ralloc_main l k lay w hA (by omega) (by omega)
end Go.Proofs.Ytcfmimfkaabmkaa
/- The walk of R.Free. -/
set_option linter.unusedVariables false
set_option linter.unusedSimpArgs false
namespace Go.Proofs.Ytcfmimfkaabmkaa
open Go.RowKit
attribute [local go_sem] Oper.semAt_some
attribute [local irreducible] num
set_option maxHeartbeats 2000000 in
set_option maxRecDepth 100000 in
theorem rfree_bad (l : List UInt8) (p : Int) (w : World) (hl : l.length ≤ maxLen) (hA : openS l = false) : Calls Try.prog 23 #[.string ⟨l.toArray⟩, .int .i64 p] w (StrPost ([], 120) w) := by
  have HP := hid (fun w => rparts_bad l w hl hA)
  clear hA hl
  go_enter Try.func23, Try.ntmps23
  go_wp2_with fail
  refine (HP.out _).mono ?_
  rintro e w1 ⟨rfl, hb1⟩
  have HB1 := hid hb1; clear hb1
  go_wp2_with fail
  go_ret2
  exact ⟨rfl, HB1.out⟩
def keepF (p : Int) (x : Int × List UInt8) : Bool := !decide (x.1 = p)
def RFreeI (p : Int) (its : List (Int × List UInt8)) (N : Nat) (W0 : World) (k : Nat) (L : List (Int × List UInt8)) (v1 v2 : Value) (wr : World) : Prop :=
  L = (its.take k).filter (keepF p) ∧ OP wr N v1 (psOf L) ∧ OS wr N v2 (bsOf L) ∧ Below N W0 wr
theorem filter_snoc {its : List (Int × List UInt8)} {k : Nat} {y : Int × List UInt8} (p : Int) (h : its[k]? = some y) : (its.take (k + 1)).filter (keepF p) = (its.take k).filter (keepF p) ++ (if y.1 = p then [] else [y]) := by
  rw [List.take_add_one, h]
  simp only [Option.toList_some, List.filter_append, List.filter_cons, List.filter_nil, keepF]
  by_cases hy : y.1 = p <;> simp [hy]
set_option maxHeartbeats 4000000 in
set_option maxRecDepth 100000 in
theorem rfree_main (l : List UInt8) (p : Int) (lay : Lay) (w : World) (hA : Area l lay) : Calls Try.prog 23 #[.string ⟨l.toArray⟩, .int .i64 p] w (StrPost (rfreeS l.length (itsOf lay) p) w) := by
  have hl1 := hA.1
  have hl2 := hA.2.1
  have HP := hid (fun w => rparts_lay l lay w hA)
  have HSm := hid (tries_small hA)
  have hlen : lay.length ≤ 8192 := (area_num4 hA).2
  obtain ⟨its, hits⟩ : ∃ its, itsOf lay = its := ⟨_, rfl⟩
  unfold PartsOk at HP
  rw [hits] at HP HSm ⊢
  have hilen : its.length ≤ 8192 := by rw [← hits]; simpa [itsOf] using hlen
  clear hits hA hlen
  obtain ⟨m, hm⟩ : ∃ m, its.length = m := ⟨_, rfl⟩
  rw [hm] at hilen
  have HM := hid hm; clear hm
  go_enter Try.func23, Try.ntmps23
  go_wp2_with fail
  refine (HP.out _).mono ?_
  rintro e w1 ⟨v1, v2, rfl, hop, hos, hb1⟩
  obtain ⟨o, cap, rfl, hc⟩ := hop.rp
  obtain ⟨o2, cap2, rfl, hc2⟩ := hos.rs
  rw [psOf_length, bsOf_length, HM.out]
  have HC := hid hc
  have HC2 := hid hc2
  have HB1 := hid hb1; have hz1 := hb1.size
  clear hb1 hop hos hc hc2
  go_wp2_with fail
  have hI0 : Hid (RFreeI p its w1.heap.size w1 0 [] (.slice (some ⟨w1.heap.size, 0, none⟩) 0 0) (.slice (some ⟨w1.heap.size + 1, 0, none⟩) 0 0) ((w1.alloc (.cells #[] 37)).alloc (.cells #[] 9))) := by
    refine ⟨rfl, ?_, ?_, ((Below.refl _ _).alloc (Nat.le_refl _) _).alloc (by simp) _⟩
    · exact (op_new w1 w1.heap.size (Nat.le_refl _)).below ((Below.refl _ _).alloc (Nat.le_refl _) _)
    · have h := os_new (w1.alloc (.cells #[] 37)) w1.heap.size (by simp)
      rw [World.size_alloc] at h
      exact h
  go_loopw [9, 10, 11] (fun v1 v2 q wr => ∃ (k : Nat) (L : List (Int × List UInt8)), q = .int .i64 k ∧ k ≤ m ∧ Hid (RFreeI p its w1.heap.size w1 k L v1 v2 wr)) (fun _ _ q _ => m - (intOf q).toNat)
  case atStart => exact ⟨0, [], rfl, Nat.zero_le _, hI0⟩
  case round =>
    clear hI0
    obtain ⟨k, L, rfl, hk, HI⟩ := hrel
    obtain ⟨hL, hop, hos, hbw⟩ := HI.out
    have hLl : L.length ≤ 20000 := by
      rw [hL]
      have := List.length_filter_le (keepF p) (its.take k)
      have := List.length_take_le k its
      omega
    have HL := hid hL
    have HOP := hid hop
    have HOS := hid hos
    have HBW := hid hbw
    have hbw0 := hbw.size
    clear hL hop hos hbw HI
    by_cases hlt : k < m
    · obtain ⟨y, hy⟩ : ∃ y, its[k]? = some y := ⟨_, List.getElem?_eq_getElem (by have := HM.out; omega)⟩
      have hyp : (psOf its)[k]? = some (y.1, (y.2.length : Int)) := by unfold psOf; rw [List.getElem?_map, hy]; rfl
      have hyb : (bsOf its)[k]? = some y.2 := by unfold bsOf; rw [List.getElem?_map, hy]; rfl
      have hc := HC.out
      have hc2 := HC2.out
      rcases hc with hc | ⟨b, off, rfl, hbl, hc⟩
      · rw [hc] at hyp; simp at hyp
      rcases hc2 with hc2 | ⟨bb, off2, rfl, hbl2, hc2⟩
      · rw [hc2] at hyb; simp at hyb
      have d0 := keepB HBW.out (by dsimp only; omega) (hc k _ hyp).1
      have d1 := keepB HBW.out (by dsimp only; omega) (hc k _ hyp).2
      have d2 := keepB HBW.out (by dsimp only; omega) (hc2 k _ hyb)
      unfold strV at d2
      have HFS := hid (filter_snoc p hy)
      clear hc hc2 hyp hyb hy
      by_cases hyq : y.1 = p
      · have g1 : (y.1 == p) = true := by rw [beq_iff_eq]; exact hyq
        have g2 : (y.1 != p) = false := by rw [bne_eq_false_iff_eq]; exact hyq
        have HL2 : Hid (L = (its.take (k + 1)).filter (keepF p)) := by unfold Hid; rw [HFS.out, if_pos hyq, List.append_nil]; exact HL.out
        clear hyq
        go_wp2_with fail
        go_roundw
        case rel => exact ⟨k + 1, L, by go_num, by omega, HL2.out, HOP.out, HOS.out, HBW.out⟩
        case measure => simp [intOf]; omega
      · have g1 : (y.1 == p) = false := by rw [beq_eq_false_iff_ne]; exact hyq
        have g2 : (y.1 != p) = true := by rw [bne_iff_ne]; exact hyq
        have HL2 : Hid (L ++ [y] = (its.take (k + 1)).filter (keepF p)) := by unfold Hid; rw [HFS.out, if_neg hyq, HL.out]
        clear hyq
        go_upto_region 11 with (at_builtin; refine app_piece rfl _ _ rfl (w1.heap.size) _ (psOf (L)) (y.1, (y.2.length : Int)) _ _ rfl rfl (HOP.out.below ((Below.refl _ _).alloc (Nat.le_refl _) _)) (cell_new _ _ _ 0 _ rfl) (cell_new _ _ _ 1 _ rfl) (by rw [psOf_length]; first | omega | (simp only [List.length_append, List.length_singleton]; omega)) (by simp; omega) ?_)
        intro v3 w3 hop3 hg3
        obtain ⟨hos3, hb3⟩ := after_piece ((Below.refl _ _).alloc (Nat.le_refl _) _) HOP.out HOS.out (by omega) hg3
        have d2 := keepB hb3 (by dsimp only; omega) d2
        have HOP3 := hid hop3; have HOS3 := hid hos3; have HB3 := hid hb3; have hz3 := hb3.size; clear hop3 hos3 hb3 hg3
        go_upto_region 8 with (at_builtin; refine app_str rfl _ _ rfl (w1.heap.size) _ (bsOf (L)) y.2 _ _ rfl rfl (HOS3.out.below ((Below.refl _ _).alloc (Nat.le_refl _) _)) (cell_new _ _ _ 0 _ rfl) (by rw [bsOf_length]; first | omega | (simp only [List.length_append, List.length_singleton]; omega)) (by simp; omega) ?_)
        intro v4 w4 hos4 hg4
        obtain ⟨hop4, hb4⟩ := after_str ((Below.refl _ _).alloc (Nat.le_refl _) _) HOP3.out HOS3.out (by omega) hg4
        have HOP4 := hid hop4; have HOS4 := hid hos4; have HB4 := hid hb4; have hz4 := hb4.size; clear hop4 hos4 hb4 hg4
        go_wp2_with fail
        go_roundw
        case rel => exact ⟨k + 1, L ++ [y], by go_num, by omega, HL2.out, (by have h := HOP4.out; rw [psOf_snoc]; exact h), (by have h := HOS4.out; rw [bsOf_snoc]; exact h), HBW.out.trans (HB3.out.trans HB4.out)⟩
        case measure => simp [intOf]; omega
    · have hkm : k = m := by omega
      have HLF : Hid (L = its.filter (keepF p)) := by have h := HL.out; rwa [List.take_of_length_le (by have := HM.out; omega)] at h
      have HWF : Hid (Below w.heap.size w wr) := HB1.out.trans (HBW.out.mono hz1)
      obtain ⟨o3, cap3, rfl, -⟩ := HOP.out.rp
      obtain ⟨o4, cap4, rfl, -⟩ := HOS.out.rs
      have hRL : rfreeS l.length its p = if L.length = its.length then ([], 122) else buildS l.length (psOf L) (bsOf L) := by
        unfold rfreeS; rw [HLF.out]; rfl
      have HRL := hid hRL
      clear hRL hkm
      by_cases hq : L.length = m
      · have g1 : ((L.length : Int) == (m : Int)) = true := by rw [beq_iff_eq]; omega
        have HRES : Hid (rfreeS l.length its p = ([], 122)) := by unfold Hid; rw [HRL.out, if_pos (by rw [HM.out]; exact hq)]
        have HPL := hid (psOf_length L)
        rw [HPL.out]
        clear hq
        go_wp2_with fail
        go_ret2
        exact ⟨by rw [HRES.out]; rfl, HWF.out⟩
      · have g1 : ((L.length : Int) == (m : Int)) = false := by rw [beq_eq_false_iff_ne]; omega
        have HRES : Hid (rfreeS l.length its p = buildS l.length (psOf L) (bsOf L)) := by unfold Hid; rw [HRL.out, if_neg (by rw [HM.out]; exact hq)]
        have hbt : ∀ t ∈ bsOf L, t.length ≤ 10000000 := fun t ht => by
          obtain ⟨x, hx, rfl⟩ := List.mem_map.1 ht
          rw [HLF.out] at hx
          have := tiny_bytes HSm.out x (List.mem_filter.1 hx).1
          show x.2.length ≤ _; omega
        have HBF := build_any (l.length : Int) _ _ _ _ wr HOP.out.rp HOS.out.rs (by rw [psOf_length]; omega) (by rw [bsOf_length]; omega) hbt
        have HBF := hid HBF
        rw [psOf_length, bsOf_length] at HBF
        rw [psOf_length, bsOf_length]
        clear hq hbt
        go_wp2_with fail
        refine HBF.out.mono ?_
        rintro e w5 ⟨rfl, hb5⟩
        have HB5 := hid hb5; clear hb5
        go_wp2_with fail
        go_ret2
        exact ⟨by rw [HRES.out]; rfl, below_step HB5.out HWF.out⟩
/-- The contract of R.Free. -/
theorem rfree_any (l : List UInt8) (p : Int) (lay : Lay) (w : World) (hA : Area l lay) : Calls Try.prog 23 #[.string ⟨l.toArray⟩, .int .i64 p] w (StrPost (freeA l.length lay p) w) := by
  rw [← rfree_lay hA.1 hA.2.1 hA.2.2.1 hA.2.2.2.1]
  exact rfree_main l p lay w hA
end Go.Proofs.Ytcfmimfkaabmkaa
/- The walk of sane: the examples of the chapter hold. -/
set_option linter.unusedVariables false
set_option linter.unusedSimpArgs false
namespace Go.Proofs.Ytcfmimfkaabmkaa
open Go.RowKit
attribute [local go_sem] Oper.semAt_some
attribute [local irreducible] num
theorem alloc_any (l : List UInt8) (n : Int) (lay : Lay) (w : World) (h : Area l lay) : Calls Try.prog 20 #[.string ⟨l.toArray⟩, .int .i64 n] w (TriPost (allocA l.length lay n) w) :=
  alloc_lay ⟨l.toArray⟩ n lay w (by have := h.2.1; show l.length ≤ maxLen; unfold maxLen; omega) h
theorem free_any (l : List UInt8) (p : Int) (lay : Lay) (w : World) (h : Area l lay) : Calls Try.prog 22 #[.string ⟨l.toArray⟩, .int .i64 p] w (StrPost (freeA l.length lay p) w) :=
  free_lay ⟨l.toArray⟩ p lay w (by have := h.2.1; show l.length ≤ maxLen; unfold maxLen; omega) h
def lay1 : Lay := [(16, zs 5)]
def lay2 : Lay := [(16, zs 5), (32, zs 8)]
def lay3 : Lay := [(32, zs 8)]
theorem sane0 : Area (zs 64) [] := area_render (lay := []) (n := 64) (by decide) (by decide) (by decide) (by decide)
theorem sane1 : Area (render 64 lay1) lay1 := area_render (by decide) (by decide) (by decide) (by decide)
theorem sane2 : Area (render 64 lay2) lay2 := area_render (by decide) (by decide) (by decide) (by decide)
theorem sane3 : Area (render 64 lay3) lay3 := area_render (by decide) (by decide) (by decide) (by decide)
theorem saneA1 : allocA (zs 64).length [] 5 = (render 64 lay1, 16, 0) := by kernel_rfl
theorem saneA2 : allocA (render 64 lay1).length lay1 8 = (render 64 lay2, 32, 0) := by kernel_rfl
theorem saneF1 : freeA (render 64 lay2).length lay2 16 = (render 64 lay3, 0) := by kernel_rfl
theorem saneA3 : allocA (render 64 lay2).length lay2 17 = ([], 0, 121) := by kernel_rfl
theorem saneF2 : freeA (render 64 lay3).length lay3 32 = (zs 64, 0) := by kernel_rfl
def SanePost (w : World) (e : Ending) (w' : World) : Prop := e = .returned (.bool true) ∧ Below w.heap.size w w'
set_option maxHeartbeats 2000000 in
set_option maxRecDepth 100000 in
theorem sane_any (w : World) : Calls Try.prog 19 #[] w (SanePost w) := by
  have hn : ∀ w, Calls Try.prog 27 #[.int .i64 64] w (fun e w' => e = .returned (.tuple #[.string ⟨(zs 64).toArray⟩, .int .i64 0]) ∧ Below w.heap.size w w') := fun w => new_any 64 w
  have ha1 : ∀ w, Calls Try.prog 20 #[.string ⟨(zs 64).toArray⟩, .int .i64 5] w (fun e w' => e = .returned (.tuple #[.string ⟨(render 64 lay1).toArray⟩, .int .i64 16, .int .i64 0]) ∧ Below w.heap.size w w') := fun w => by
    have := alloc_any _ 5 _ w sane0; rwa [saneA1] at this
  have ha2 : ∀ w, Calls Try.prog 20 #[.string ⟨(render 64 lay1).toArray⟩, .int .i64 8] w (fun e w' => e = .returned (.tuple #[.string ⟨(render 64 lay2).toArray⟩, .int .i64 32, .int .i64 0]) ∧ Below w.heap.size w w') := fun w => by
    have := alloc_any _ 8 _ w sane1; rwa [saneA2] at this
  have hf1 : ∀ w, Calls Try.prog 22 #[.string ⟨(render 64 lay2).toArray⟩, .int .i64 16] w (fun e w' => e = .returned (.tuple #[.string ⟨(render 64 lay3).toArray⟩, .int .i64 0]) ∧ Below w.heap.size w w') := fun w => by
    have := free_any _ 16 _ w sane2; rwa [saneF1] at this
  have ha3 : ∀ w, Calls Try.prog 20 #[.string ⟨(render 64 lay2).toArray⟩, .int .i64 17] w (fun e w' => e = .returned (.tuple #[.string ⟨#[]⟩, .int .i64 0, .int .i64 121]) ∧ Below w.heap.size w w') := fun w => by
    have := alloc_any _ 17 _ w sane2; rwa [saneA3] at this
  have hf2 : ∀ w, Calls Try.prog 22 #[.string ⟨(render 64 lay3).toArray⟩, .int .i64 32] w (fun e w' => e = .returned (.tuple #[.string ⟨(zs 64).toArray⟩, .int .i64 0]) ∧ Below w.heap.size w w') := fun w => by
    have := free_any _ 32 _ w sane3; rwa [saneF2] at this
  have l0 : (zs 64).length = 64 := by decide
  have l1 : (render 64 lay1).length = 64 := by kernel_rfl
  have l3 : (render 64 lay3).length = 64 := by kernel_rfl
  have s0 : sl (render 64 lay1) 0 16 = [0, 0, 0, 16, 0, 0, 0, 1, 0, 0, 0, 5, 0, 0, 0, 1] := by kernel_rfl
  have b3 : byt (render 64 lay3) 3 = 32 := by kernel_rfl
  have b15 : byt (render 64 lay3) 15 = 2 := by kernel_rfl
  generalize zs 64 = A0 at *
  generalize render 64 lay1 = A1 at *
  generalize render 64 lay2 = A2 at *
  generalize render 64 lay3 = A3 at *
  have s1 : ((⟨A1.toArray⟩ : ByteArray).extract 0 16).toList = [0, 0, 0, 16, 0, 0, 0, 1, 0, 0, 0, 5, 0, 0, 0, 1] := by rw [ext_sl, s0]; simp [go_sem]
  have hx3 : ∀ w, (Instr.index 9 (.string ⟨A3.toArray⟩) (.int .i64 3)).run Try.prog w = .ok (.int .u8 32) w := fun w => by
    have := str_at ⟨A3.toArray⟩ 3 .i64 (by omega) (by show (3 : Int) < (A3.length : Int); omega) w
    rw [this]; exact congrArg (fun z => Result.ok (Value.int .u8 z) w) b3
  have hx15 : ∀ w, (Instr.index 9 (.string ⟨A3.toArray⟩) (.int .i64 15)).run Try.prog w = .ok (.int .u8 2) w := fun w => by
    have := str_at ⟨A3.toArray⟩ 15 .i64 (by omega) (by show (15 : Int) < (A3.length : Int); omega) w
    rw [this]; exact congrArg (fun z => Result.ok (Value.int .u8 z) w) b15
  have HN := hid hn; have HA1 := hid ha1; have HA2 := hid ha2; have HF1 := hid hf1; have HA3 := hid ha3; have HF2 := hid hf2
  clear hn ha1 ha2 hf1 ha3 hf2 b3 b15 s0
  go_enter Try.func19, Try.ntmps19
  go_wp2_with fail
  refine (HN.out _).mono ?_
  rintro e w1 ⟨rfl, hb1⟩
  have HB1 := hid hb1; clear hb1
  go_wp2_with fail
  refine (HA1.out _).mono ?_
  rintro e w2 ⟨rfl, hb2⟩
  have HB2 := hid hb2; clear hb2
  go_wp2_with fail
  refine (HA2.out _).mono ?_
  rintro e w3 ⟨rfl, hb3⟩
  have HB3 := hid hb3; clear hb3
  go_wp2_with fail
  refine (HF1.out _).mono ?_
  rintro e w4 ⟨rfl, hb4⟩
  have HB4 := hid hb4; clear hb4
  go_wp2_with fail
  refine (HA3.out _).mono ?_
  rintro e w5 ⟨rfl, hb5⟩
  have HB5 := hid hb5; clear hb5
  go_wp2_with fail
  refine (HF2.out _).mono ?_
  rintro e w6 ⟨rfl, hb6⟩
  have HB6 := hid hb6; clear hb6
  go_wp2_with fail
  go_ret
  exact ⟨rfl, below_step HB6.out (below_step HB5.out (below_step HB4.out (below_step HB3.out (below_step HB2.out HB1.out))))⟩
end Go.Proofs.Ytcfmimfkaabmkaa
