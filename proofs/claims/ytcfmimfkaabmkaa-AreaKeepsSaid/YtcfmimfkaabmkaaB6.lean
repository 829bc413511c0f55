/- The walk of area.Free. Printed by gen/afree.py. -/
import Derived.Test.YtcfmimfkaabmkaaB5
set_option linter.unusedVariables false
set_option linter.unusedSimpArgs false
namespace Go.Proofs.Ytcfmimfkaabmkaa
open Go.RowKit
attribute [local go_sem] Oper.semAt_some
attribute [local irreducible] num
def freeAct (s : ByteArray) (p : Int) (N N1 b l : Nat) (Bx : Nat) (u : Int × Int × Int) : Act := { tmps := #[.string s, .int .i64 p, undef, .pointer (some ⟨N, 0, none⟩), .string ⟨#[]⟩, .int .i64 0, .slice (some ⟨b, 0, none⟩) l l, .bool true, .pointer (some ⟨N1, 0, none⟩), .pointer (some ⟨N1 + 1, 0, none⟩), .pointer (some ⟨N1 + 1 + 1, 0, none⟩), .pointer (some ⟨N1 + 1 + 1 + 1, 0, none⟩), .pointer (some ⟨Bx, 0, none⟩), .tuple #[.slice (some ⟨b, 0, none⟩) l l, .bool true], .string s, .tuple #[.slice (some ⟨b, 0, none⟩) l l, .bool true], .slice (some ⟨b, 0, none⟩) l l, .bool true, .bool true, .bool false, .agg #[.int .i64 0, .int .i64 0, .int .i64 0], .slice (some ⟨b, 0, none⟩) l l, .func (.func 84) #[] #[.pointer (some ⟨N1 + 1 + 1 + 1 + 1, 0, none⟩)], .agg #[.int .i64 u.1, .int .i64 u.2.1, .int .i64 u.2.2], undef, undef, undef, undef, undef, undef, undef, undef, undef, undef, undef, undef, undef, undef, undef, undef, undef, undef, undef, undef, undef, undef, undef, undef, undef, undef, undef, undef, undef, undef, undef, undef, undef, undef, undef, undef, undef, undef, undef, undef, undef, undef, undef, undef, undef, undef, undef, undef, undef, undef, undef, undef, undef, undef, undef, undef, undef, undef, undef, undef, undef, undef, undef, undef, undef], defers := [] }
theorem byt_over (l : List UInt8) (k : Nat) (m : List UInt8) (i : Nat) (hi : i < k) (hk : k ≤ l.length) : byt (over l k m) i = byt l i := by
  unfold byt over
  rw [List.append_assoc, List.getElem?_append_left (by simp; omega), List.getElem?_take_of_lt hi]
theorem num_over (l : List UInt8) (k : Nat) (m : List UInt8) (i : Nat) (hi : i + 4 ≤ k) (hk : k ≤ l.length) : num (over l k m) i = num l i := by
  unfold num; rw [byt_over _ _ _ _ (by omega) hk, byt_over _ _ _ _ (by omega) hk, byt_over _ _ _ _ (by omega) hk, byt_over _ _ _ _ (by omega) hk]
/-- The boxes of area.Free hold the state. -/
def FreeF (N1 : Nat) (s : Int × Int × Bool × Int × Int × Int) (W : World) : Prop :=
  W.cell? ⟨N1, 0, none⟩ = some (.int .i64 s.1) ∧ W.cell? ⟨N1 + 1, 0, none⟩ = some (.int .i64 s.2.1) ∧ W.cell? ⟨N1 + 2, 0, none⟩ = some (.bool s.2.2.1) ∧
  W.cell? ⟨N1 + 3, 0, none⟩ = some (.int .i64 s.2.2.2.1) ∧ W.cell? ⟨N1 + 3, 1, none⟩ = some (.int .i64 s.2.2.2.2.1) ∧ W.cell? ⟨N1 + 3, 2, none⟩ = some (.int .i64 s.2.2.2.2.2)
def FreeO (N1 : Nat) (W : World) : Prop :=
  OwnC W ⟨N1, 0, none⟩ ∧ OwnC W ⟨N1 + 1, 0, none⟩ ∧ OwnC W ⟨N1 + 2, 0, none⟩ ∧ OwnC W ⟨N1 + 3, 0, none⟩ ∧ OwnC W ⟨N1 + 3, 1, none⟩ ∧ OwnC W ⟨N1 + 3, 2, none⟩
def FreeI (p : Int) (us : List (Int × Int × Int)) (W0 : World) (N1 b l : Nat) (k : Nat) (W : World) : Prop :=
  Below N1 W0 W ∧ W.cell? ⟨N1 + 4, 0, none⟩ = some (.slice (some ⟨b, 0, none⟩) l l) ∧ FreeF N1 (freeS p (us.take k)) W ∧ FreeO N1 W
theorem ownF_f (B N1 : Nat) (g : Nat → Int × Int × Bool × Int × Int × Int) : OwnFrom B (fun k W => FreeF N1 (g k) W) :=
  OwnFrom.and (ownF_cell _ _) (OwnFrom.and (ownF_cell _ _) (OwnFrom.and (ownF_cell _ _) (OwnFrom.and (ownF_cell _ _) (OwnFrom.and (ownF_cell _ _) (ownF_cell _ _)))))
theorem ownF_o (B N1 : Nat) : OwnFrom B (fun (_ : Nat) W => FreeO N1 W) :=
  OwnFrom.and (ownF_ownc _) (OwnFrom.and (ownF_ownc _) (OwnFrom.and (ownF_ownc _) (OwnFrom.and (ownF_ownc _) (OwnFrom.and (ownF_ownc _) (ownF_ownc _)))))
theorem freeI_own (p : Int) (us : List (Int × Int × Int)) (W0 : World) (N1 b l B : Nat) (h0 : N1 ≤ W0.heap.size) (h : N1 ≤ B) : OwnFrom B (FreeI p us W0 N1 b l) :=
  OwnFrom.and (ownFrom_below h0 h) (OwnFrom.and (ownF_cell _ _) (OwnFrom.and (ownF_f _ _ _) (ownF_o _ _)))
theorem FreeF.below {N1 : Nat} {s : Int × Int × Bool × Int × Int × Int} {W W1 : World} (h : FreeF N1 s W) (hb : Below W.heap.size W W1) : FreeF N1 s W1 :=
  ⟨keepc hb h.1, keepc hb h.2.1, keepc hb h.2.2.1, keepc hb h.2.2.2.1, keepc hb h.2.2.2.2.1, keepc hb h.2.2.2.2.2⟩
theorem FreeO.below {N1 : Nat} {W W1 : World} (h : FreeO N1 W) (hb : Below W.heap.size W W1) : FreeO N1 W1 :=
  ⟨keepOwn hb h.1, keepOwn hb h.2.1, keepOwn hb h.2.2.1, keepOwn hb h.2.2.2.1, keepOwn hb h.2.2.2.2.1, keepOwn hb h.2.2.2.2.2⟩
set_option maxHeartbeats 8000000 in
set_option maxRecDepth 100000 in
theorem free_bad (s : ByteArray) (n : Int) (w : World) (hs : s.size ≤ maxLen) (h : openS s.data.toList = false) : Calls Try.prog 22 #[.string s, .int .i64 n] w (DuoPost ([], 120) w) := by
  have HO := fun w => open_any s w hs
  have HO := hid HO
  have HH := hid h; clear h
  go_enter Try.func22, Try.ntmps22
  go_wp2_with fail
  refine (HO.out _).mono ?_
  rintro e w1 ⟨hb, hx⟩
  rw [HH.out, if_neg (by simp)] at hx
  obtain ⟨o, k, c, rfl⟩ := hx
  have HBW : Hid (Below w.heap.size w w1) := (((Below.refl w.heap.size w).alloc (Nat.le_refl _) _)).trans (hb.mono (by simp))
  clear hb
  go_wp2_with fail
  refine bodyPost_ret (v := .tuple #[.string ⟨#[]⟩, .int .i64 120]) (by simp [results, Try.results22, go_sem]) rfl ⟨rfl, HBW.out⟩
set_option maxHeartbeats 8000000 in
set_option maxRecDepth 100000 in
theorem free_main (s : ByteArray) (p : Int) (us : List (Int × Int × Int)) (l : List UInt8) (w : World) (hs : s.size ≤ maxLen) (hl : s.data.toList = l) (h : openS l = true)
    (hu : UL l (8 + num l 0) 8 us) (h1 : 16 ≤ l.length) (h2 : l.length ≤ 8192) (h3 : 8 + num l 0 ≤ l.length) (h4 : num l 4 ≤ 8192) (h5 : (freeS p us).2.2.1 = true → 1 ≤ num l 4) :
    Calls Try.prog 22 #[.string s, .int .i64 p] w (DuoPost (freeRaw l us p) w) := by
  have HO := fun w => open_any s w hs
  rw [hl] at HO
  have HO := hid HO
  have HH := hid h; clear h hl hs
  have HBD := hid (us_bd hu (by omega))
  have HFB := hid (freeS_bd (p := p) hu (-1, -1, false, 0, 0, 0) (by simp) (by simp))
  have HU := hid hu; clear hu
  have H5 := hid h5; clear h5
  have hn0 := num_bd l 0
  have hn4 := num_bd l 4
  have hen : 8 + num l 0 ≤ 8192 := by omega
  refine (callsIn_wide (n := 0)).1 (callsIn_of_wp_marks Try.func22 rfl trivial ?_ rfl)
  simp only [Try.ntmps22, List.size_toArray, List.length_cons, List.length_nil, Nat.reduceAdd, Nat.reduceSub, Array.replicate_succ, Array.replicate_zero, List.push_toArray, List.append_toArray, List.nil_append, List.cons_append]
  gi_wp2_with fail
  refine ⟨trivial, rfl, ?_⟩
  refine (callsIn_wide.2 (HO.out _)).mono ?_
  rintro e w1 ⟨hb, hx⟩
  rw [HH.out, if_pos rfl] at hx
  obtain ⟨b, rfl, hB, hBl⟩ := hx
  have hbw : Below w.heap.size w w1 := ((Below.refl w.heap.size w).alloc (Nat.le_refl _) _).trans (hb.mono (by simp))
  have hz0 : w.heap.size < w1.heap.size := by have := hb.size; simp at this; omega
  have hbl : w.heap.size < b := by simp at hBl; omega
  have hblt : b < w1.heap.size := hB.lt
  have c0 : w1.cell? ⟨w.heap.size, 0, none⟩ = some (.int .i64 p) := keepc hb (by go_simp)
  clear hb hBl HO HH
  have HBW := hid hbw; clear hbw
  have HB := hid hB; clear hB
  have hbz : w.heap.size ≤ b := by omega
  gi_wp2_with fail
  refine ⟨trivial, rfl, ?_⟩
  refine (callsIn_wide.2 (units_any _ _ _ _ rfl _)).mono ?_
  rintro e w2 ⟨rfl, rfl⟩
  gi_wp2_with fail
  obtain ⟨W0, hW0⟩ : ∃ W0, W0 = (((((w1.alloc (.cells #[.int .i64 (-1)] 3)).alloc (.cells #[.int .i64 (-1)] 3)).alloc (.cells #[.bool false] 4)).alloc (.cells #[.int .i64 0, .int .i64 0, .int .i64 0] 88)).alloc (.cells #[.slice (some ⟨b, 0, none⟩) l.length l.length] 79)) := ⟨_, rfl⟩
  rw [← hW0]
  have hz5 : w1.heap.size + 4 < W0.heap.size := by rw [hW0]; simp
  have hz6 : W0.heap.size ≤ w1.heap.size + 5 := by rw [hW0]; simp
  have hb0 : Below w1.heap.size w1 W0 := by rw [hW0]; exact (((((Below.refl w1.heap.size w1).alloc (Nat.le_refl _) _).alloc (by simp) _).alloc (by simp; omega) _).alloc (by simp; omega) _).alloc (by simp; omega) _
  have hF0 : FreeF w1.heap.size (freeS p (us.take 0)) W0 := by
    rw [List.take_zero]; unfold FreeF freeS; rw [hW0]; refine ⟨?_, ?_, ?_, ?_, ?_, ?_⟩ <;> go_simp
  have hO0 : FreeO w1.heap.size W0 := by
    unfold FreeO OwnC; rw [hW0]; refine ⟨⟨⟨.int .i64 (-1), ?_⟩, ?_⟩, ⟨⟨.int .i64 (-1), ?_⟩, ?_⟩, ⟨⟨.bool false, ?_⟩, ?_⟩, ⟨⟨.int .i64 0, ?_⟩, ?_⟩, ⟨⟨.int .i64 0, ?_⟩, ?_⟩, ⟨⟨.int .i64 0, ?_⟩, ?_⟩⟩ <;> go_simp
  have cr : W0.cell? ⟨w1.heap.size + 4, 0, none⟩ = some (.slice (some ⟨b, 0, none⟩) l.length l.length) := by rw [hW0]; go_simp
  clear hW0
  have hB0 : Bytes W0 b l := HB.out.below hb0 hblt
  have hbw0 : Below w.heap.size w W0 := HBW.out.trans (hb0.mono (by omega))
  have c0 : W0.cell? ⟨w.heap.size, 0, none⟩ = some (.int .i64 p) := keepc hb0 c0
  have HW0 := hid hbw0; clear hbw0 HBW HB hb0
  refine wp_range (us := us.map encU) (R := Reads b (w1.heap.size + 4) l) rfl (enters_of Try.func84 (by kernel_rfl) rfl) (units_seq b (w1.heap.size + 4) l us HU.out h1 h2 h3) ?hps
    (FreeI p us W0 w1.heap.size b l.length) (fun _ _ _ => False) (UBox W0.heap.size us (freeAct s p w.heap.size w1.heap.size b l.length) (FreeI p us W0 w1.heap.size b l.length))
    ?hI ?hIx ?hAx ?hR ?h0 ?hassign ?hbody ?hdone ?hstop
  case hps =>
    intro k x hx
    obtain ⟨u, _, rfl⟩ := map_some hx
    rfl
  case hI => exact freeI_own _ _ _ _ _ _ _ (by omega) (by omega)
  case hIx => exact fun c => ownF_pure _
  case hAx => exact ubox_own (freeI_own _ _ _ _ _ _ _ (by omega) (by omega))
  case hR => exact fun k W hi => ⟨hB0.below hi.1 hblt, hi.2.1⟩
  case h0 => exact ⟨Below.refl _ _, cr, hF0, hO0⟩
  case hassign =>
    intro lp k x W hx hi hsz
    obtain ⟨u, hu1, rfl⟩ := map_some hx
    simp only [encU]
    go_simp
    gi_wp2_with fail
    have hb := (Below.refl W.heap.size W).alloc (Nat.le_refl _) (Obj.cells #[.int .i64 u.1, .int .i64 u.2.1, .int .i64 u.2.2] 88)
    exact ubox_new hu1 (by omega) rfl ⟨hi.1.alloc (by omega) _, keepc hb hi.2.1, hi.2.2.1.below hb, hi.2.2.2.below hb⟩
  case hbody =>
    rintro lp k x a₁ W hx ⟨Bx, u, ⟨hu1, hBx, rfl⟩, q0, q1, q2, hbw, hcr, hF, hO⟩ hsz
    have HBK := hid hbw
    have d0 := (hbw.cell (p := ⟨w.heap.size, 0, none⟩) (by dsimp only; omega)).trans c0
    have hub := HBD.out u (List.mem_of_getElem? hu1)
    have hnx : freeS p (us.take (k + 1)) = freeStep p (freeS p (us.take k)) u := by
      unfold freeS; rw [List.take_add_one, hu1, Option.toList_some, List.foldl_append]; rfl
    have HNX := hid hnx
    generalize freeS p (us.take k) = st at hF HNX
    clear hnx hx hu1 hbw c0 cr hB0 hF0 hO0
    obtain ⟨a, s', m⟩ := u
    obtain ⟨f, t, d, la, ls, lm⟩ := st
    simp only at q0 q1 q2 hub
    obtain ⟨hub0, hub1, hub2⟩ := hub
    have hup := upZ_bd s' hub1
    have hlt0 : Bx < W.heap.size := World.block_lt_of_cell? _ _ q0
    have hltr : w1.heap.size + 4 < W.heap.size := World.block_lt_of_cell? _ _ hcr
    have hbb : Below w1.heap.size W W := Below.refl _ _
    have qf := hF.1
    have qt := hF.2.1
    have qd := hF.2.2.1
    have qa := hF.2.2.2.1
    have qs := hF.2.2.2.2.1
    have qm := hF.2.2.2.2.2
    have of := hO.1
    have ot := hO.2.1
    have od := hO.2.2.1
    have oa := hO.2.2.2.1
    have os := hO.2.2.2.2.1
    have om := hO.2.2.2.2.2
    simp only at qf qt qd qa qs qm
    clear hF hO
    have hfin : ∀ W2, Rnd W0.heap.size W W2 → Below w1.heap.size W W2 → W2.cell? ⟨w1.heap.size + 4, 0, none⟩ = some (.slice (some ⟨b, 0, none⟩) l.length l.length) → FreeF w1.heap.size (freeStep p (f, t, d, la, ls, lm) (a, s', m)) W2 → FreeO w1.heap.size W2 →
        Rnd W0.heap.size W W2 ∧ FreeI p us W0 w1.heap.size b l.length (k + 1) W2 := fun W2 h2 h3 h4 h5 h6 => ⟨h2, HBK.out.trans h3, h4, by rw [HNX.out]; exact h5, h6⟩
    have HF := hid hfin; clear hfin
    unfold freeAct
    by_cases hm : m = 1
    · subst hm
      have hm1 : ((1 : Int) == 1) = true := rfl
      have hm2 : ((1 : Int) == 2) = false := rfl
      by_cases hp : a + 8 = p
      · have hp1 : (a + 8 == p) = true := by simpa using hp
        by_cases hlm : lm = 2
        · subst hlm
          have hl2 : ((2 : Int) == 2) = true := rfl
          have HST : Hid (freeStep p (f, t, d, la, ls, 2) (a, s', 1) = (la, a + 8 + upZ s', true, a, s', 1)) := by unfold freeStep Hid; rw [if_pos ⟨rfl, hp⟩]; simp
          clear hp
          gi_wp2_with fail
          refine wpIn_region_freeL (open_round lp) (by kernel_rfl) (by kernel_rfl) (fun L w' => Below w1.heap.size W w' ∧ Rnd W0.heap.size W w' ∧ w'.cell? ⟨w.heap.size, 0, none⟩ = some (.int .i64 p) ∧ w'.cell? ⟨Bx, 0, none⟩ = some (.int .i64 a) ∧ w'.cell? ⟨Bx, 1, none⟩ = some (.int .i64 s') ∧ w'.cell? ⟨Bx, 2, none⟩ = some (.int .i64 1) ∧ w'.cell? ⟨w1.heap.size + 4, 0, none⟩ = some (.slice (some ⟨b, 0, none⟩) l.length l.length) ∧ w'.cell? ⟨w1.heap.size, 0, none⟩ = some (.int .i64 f) ∧ w'.cell? ⟨w1.heap.size + 1, 0, none⟩ = some (.int .i64 t) ∧ w'.cell? ⟨w1.heap.size + 2, 0, none⟩ = some (.bool d) ∧ w'.cell? ⟨w1.heap.size + 3, 0, none⟩ = some (.int .i64 la) ∧ w'.cell? ⟨w1.heap.size + 3, 1, none⟩ = some (.int .i64 ls) ∧ w'.cell? ⟨w1.heap.size + 3, 2, none⟩ = some (.int .i64 2) ∧ OwnC w' ⟨w1.heap.size, 0, none⟩ ∧ OwnC w' ⟨w1.heap.size + 1, 0, none⟩ ∧ OwnC w' ⟨w1.heap.size + 2, 0, none⟩ ∧ OwnC w' ⟨w1.heap.size + 3, 0, none⟩ ∧ OwnC w' ⟨w1.heap.size + 3, 1, none⟩ ∧ OwnC w' ⟨w1.heap.size + 3, 2, none⟩) ⟨(hbb).drew, ((Rnd.refl W0.heap.size W)).drew, d0, q0, q1, q2, hcr, qf, qt, qd, qa, qs, qm, of, ot, od, oa, os, om⟩ ?_
          refine wpFreeL_val rfl (fun _ _ _ h => h) (fun K hK => ?_); apply Exists.intro; refine ⟨fun L w' hS => ?_, ?_⟩; (have hb := hS.1; have hr := hS.2.1; have g0 := hS.2.2.1; have g1 := hS.2.2.2.1; have g2 := hS.2.2.2.2.1; have g3 := hS.2.2.2.2.2.1; have g4 := hS.2.2.2.2.2.2.1; have g5 := hS.2.2.2.2.2.2.2.1; have g6 := hS.2.2.2.2.2.2.2.2.1; have g7 := hS.2.2.2.2.2.2.2.2.2.1; have g8 := hS.2.2.2.2.2.2.2.2.2.2.1; have g9 := hS.2.2.2.2.2.2.2.2.2.2.2.1; have g10 := hS.2.2.2.2.2.2.2.2.2.2.2.2.1; have o0 := hS.2.2.2.2.2.2.2.2.2.2.2.2.2.1; have o1 := hS.2.2.2.2.2.2.2.2.2.2.2.2.2.2.1; have o2 := hS.2.2.2.2.2.2.2.2.2.2.2.2.2.2.2.1; have o3 := hS.2.2.2.2.2.2.2.2.2.2.2.2.2.2.2.2.1; have o4 := hS.2.2.2.2.2.2.2.2.2.2.2.2.2.2.2.2.2.1; have o5 := hS.2.2.2.2.2.2.2.2.2.2.2.2.2.2.2.2.2.2; clear hS; go_simp; rfl); (go_simp; refine hK _ ?_; clear hK K)
          refine wpFreeL_val rfl (fun _ _ _ h => h) (fun K hK => ?_); apply Exists.intro; refine ⟨fun L w' hS => ?_, ?_⟩; (have hb := hS.1; have hr := hS.2.1; have g0 := hS.2.2.1; have g1 := hS.2.2.2.1; have g2 := hS.2.2.2.2.1; have g3 := hS.2.2.2.2.2.1; have g4 := hS.2.2.2.2.2.2.1; have g5 := hS.2.2.2.2.2.2.2.1; have g6 := hS.2.2.2.2.2.2.2.2.1; have g7 := hS.2.2.2.2.2.2.2.2.2.1; have g8 := hS.2.2.2.2.2.2.2.2.2.2.1; have g9 := hS.2.2.2.2.2.2.2.2.2.2.2.1; have g10 := hS.2.2.2.2.2.2.2.2.2.2.2.2.1; have o0 := hS.2.2.2.2.2.2.2.2.2.2.2.2.2.1; have o1 := hS.2.2.2.2.2.2.2.2.2.2.2.2.2.2.1; have o2 := hS.2.2.2.2.2.2.2.2.2.2.2.2.2.2.2.1; have o3 := hS.2.2.2.2.2.2.2.2.2.2.2.2.2.2.2.2.1; have o4 := hS.2.2.2.2.2.2.2.2.2.2.2.2.2.2.2.2.2.1; have o5 := hS.2.2.2.2.2.2.2.2.2.2.2.2.2.2.2.2.2.2; clear hS; go_simp; rfl); (go_simp; refine hK _ ?_; clear hK K)
          refine wpFreeL_val rfl (fun _ _ _ h => h) (fun K hK => ?_); apply Exists.intro; refine ⟨fun L w' hS => ?_, ?_⟩; (have hb := hS.1; have hr := hS.2.1; have g0 := hS.2.2.1; have g1 := hS.2.2.2.1; have g2 := hS.2.2.2.2.1; have g3 := hS.2.2.2.2.2.1; have g4 := hS.2.2.2.2.2.2.1; have g5 := hS.2.2.2.2.2.2.2.1; have g6 := hS.2.2.2.2.2.2.2.2.1; have g7 := hS.2.2.2.2.2.2.2.2.2.1; have g8 := hS.2.2.2.2.2.2.2.2.2.2.1; have g9 := hS.2.2.2.2.2.2.2.2.2.2.2.1; have g10 := hS.2.2.2.2.2.2.2.2.2.2.2.2.1; have o0 := hS.2.2.2.2.2.2.2.2.2.2.2.2.2.1; have o1 := hS.2.2.2.2.2.2.2.2.2.2.2.2.2.2.1; have o2 := hS.2.2.2.2.2.2.2.2.2.2.2.2.2.2.2.1; have o3 := hS.2.2.2.2.2.2.2.2.2.2.2.2.2.2.2.2.1; have o4 := hS.2.2.2.2.2.2.2.2.2.2.2.2.2.2.2.2.2.1; have o5 := hS.2.2.2.2.2.2.2.2.2.2.2.2.2.2.2.2.2.2; clear hS; go_simp; rfl); (go_simp; refine hK _ ?_; clear hK K)
          refine wpFreeL_val rfl (fun _ _ _ h => h) (fun K hK => ?_); apply Exists.intro; refine ⟨fun L w' hS => ?_, ?_⟩; (have hb := hS.1; have hr := hS.2.1; have g0 := hS.2.2.1; have g1 := hS.2.2.2.1; have g2 := hS.2.2.2.2.1; have g3 := hS.2.2.2.2.2.1; have g4 := hS.2.2.2.2.2.2.1; have g5 := hS.2.2.2.2.2.2.2.1; have g6 := hS.2.2.2.2.2.2.2.2.1; have g7 := hS.2.2.2.2.2.2.2.2.2.1; have g8 := hS.2.2.2.2.2.2.2.2.2.2.1; have g9 := hS.2.2.2.2.2.2.2.2.2.2.2.1; have g10 := hS.2.2.2.2.2.2.2.2.2.2.2.2.1; have o0 := hS.2.2.2.2.2.2.2.2.2.2.2.2.2.1; have o1 := hS.2.2.2.2.2.2.2.2.2.2.2.2.2.2.1; have o2 := hS.2.2.2.2.2.2.2.2.2.2.2.2.2.2.2.1; have o3 := hS.2.2.2.2.2.2.2.2.2.2.2.2.2.2.2.2.1; have o4 := hS.2.2.2.2.2.2.2.2.2.2.2.2.2.2.2.2.2.1; have o5 := hS.2.2.2.2.2.2.2.2.2.2.2.2.2.2.2.2.2.2; clear hS; go_simp; rfl); (go_simp; refine hK _ ?_; clear hK K)
          refine wpFreeL_val rfl (fun _ _ _ h => h) (fun K hK => ?_); apply Exists.intro; refine ⟨fun L w' hS => ?_, ?_⟩; (have hb := hS.1; have hr := hS.2.1; have g0 := hS.2.2.1; have g1 := hS.2.2.2.1; have g2 := hS.2.2.2.2.1; have g3 := hS.2.2.2.2.2.1; have g4 := hS.2.2.2.2.2.2.1; have g5 := hS.2.2.2.2.2.2.2.1; have g6 := hS.2.2.2.2.2.2.2.2.1; have g7 := hS.2.2.2.2.2.2.2.2.2.1; have g8 := hS.2.2.2.2.2.2.2.2.2.2.1; have g9 := hS.2.2.2.2.2.2.2.2.2.2.2.1; have g10 := hS.2.2.2.2.2.2.2.2.2.2.2.2.1; have o0 := hS.2.2.2.2.2.2.2.2.2.2.2.2.2.1; have o1 := hS.2.2.2.2.2.2.2.2.2.2.2.2.2.2.1; have o2 := hS.2.2.2.2.2.2.2.2.2.2.2.2.2.2.2.1; have o3 := hS.2.2.2.2.2.2.2.2.2.2.2.2.2.2.2.2.1; have o4 := hS.2.2.2.2.2.2.2.2.2.2.2.2.2.2.2.2.2.1; have o5 := hS.2.2.2.2.2.2.2.2.2.2.2.2.2.2.2.2.2.2; clear hS; go_simp; rfl); (go_simp; refine hK _ ?_; clear hK K)
          refine wpFreeL_gen rfl (fun K hK => ?_); apply Exists.intro; refine ⟨fun L w' hcl hL hdep hS => ?_, ?_⟩
          · have hb := hS.1; have hr := hS.2.1; have g0 := hS.2.2.1; have g1 := hS.2.2.2.1; have g2 := hS.2.2.2.2.1; have g3 := hS.2.2.2.2.2.1; have g4 := hS.2.2.2.2.2.2.1; have g5 := hS.2.2.2.2.2.2.2.1; have g6 := hS.2.2.2.2.2.2.2.2.1; have g7 := hS.2.2.2.2.2.2.2.2.2.1; have g8 := hS.2.2.2.2.2.2.2.2.2.2.1; have g9 := hS.2.2.2.2.2.2.2.2.2.2.2.1; have g10 := hS.2.2.2.2.2.2.2.2.2.2.2.2.1; have o0 := hS.2.2.2.2.2.2.2.2.2.2.2.2.2.1; have o1 := hS.2.2.2.2.2.2.2.2.2.2.2.2.2.2.1; have o2 := hS.2.2.2.2.2.2.2.2.2.2.2.2.2.2.2.1; have o3 := hS.2.2.2.2.2.2.2.2.2.2.2.2.2.2.2.2.1; have o4 := hS.2.2.2.2.2.2.2.2.2.2.2.2.2.2.2.2.2.1; have o5 := hS.2.2.2.2.2.2.2.2.2.2.2.2.2.2.2.2.2.2; go_simp; refine (piece_any a s' 1 _ (by omega) (by omega)).mono ?_; rintro e w1 ⟨rfl, hb1⟩; exact ⟨rfl, ⟨hb.trans (hb1.mono (by have := hb.size; omega)), hr.below hb1, keepc hb1 g0, keepc hb1 g1, keepc hb1 g2, keepc hb1 g3, keepc hb1 g4, keepc hb1 g5, keepc hb1 g6, keepc hb1 g7, keepc hb1 g8, keepc hb1 g9, keepc hb1 g10, keepOwn hb1 o0, keepOwn hb1 o1, keepOwn hb1 o2, keepOwn hb1 o3, keepOwn hb1 o4, keepOwn hb1 o5⟩⟩
          go_simp; refine hK _ ?_; clear hK K
          refine wpFreeL_val rfl (fun _ _ _ h => h) (fun K hK => ?_); apply Exists.intro; refine ⟨fun L w' hS => ?_, ?_⟩; (have hb := hS.1; have hr := hS.2.1; have g0 := hS.2.2.1; have g1 := hS.2.2.2.1; have g2 := hS.2.2.2.2.1; have g3 := hS.2.2.2.2.2.1; have g4 := hS.2.2.2.2.2.2.1; have g5 := hS.2.2.2.2.2.2.2.1; have g6 := hS.2.2.2.2.2.2.2.2.1; have g7 := hS.2.2.2.2.2.2.2.2.2.1; have g8 := hS.2.2.2.2.2.2.2.2.2.2.1; have g9 := hS.2.2.2.2.2.2.2.2.2.2.2.1; have g10 := hS.2.2.2.2.2.2.2.2.2.2.2.2.1; have o0 := hS.2.2.2.2.2.2.2.2.2.2.2.2.2.1; have o1 := hS.2.2.2.2.2.2.2.2.2.2.2.2.2.2.1; have o2 := hS.2.2.2.2.2.2.2.2.2.2.2.2.2.2.2.1; have o3 := hS.2.2.2.2.2.2.2.2.2.2.2.2.2.2.2.2.1; have o4 := hS.2.2.2.2.2.2.2.2.2.2.2.2.2.2.2.2.2.1; have o5 := hS.2.2.2.2.2.2.2.2.2.2.2.2.2.2.2.2.2.2; clear hS; go_simp; rfl); (go_simp; refine hK _ ?_; clear hK K)
          refine wpFreeL_val rfl (fun _ _ _ h => h) (fun K hK => ?_); apply Exists.intro; refine ⟨fun L w' hS => ?_, ?_⟩; (have hb := hS.1; have hr := hS.2.1; have g0 := hS.2.2.1; have g1 := hS.2.2.2.1; have g2 := hS.2.2.2.2.1; have g3 := hS.2.2.2.2.2.1; have g4 := hS.2.2.2.2.2.2.1; have g5 := hS.2.2.2.2.2.2.2.1; have g6 := hS.2.2.2.2.2.2.2.2.1; have g7 := hS.2.2.2.2.2.2.2.2.2.1; have g8 := hS.2.2.2.2.2.2.2.2.2.2.1; have g9 := hS.2.2.2.2.2.2.2.2.2.2.2.1; have g10 := hS.2.2.2.2.2.2.2.2.2.2.2.2.1; have o0 := hS.2.2.2.2.2.2.2.2.2.2.2.2.2.1; have o1 := hS.2.2.2.2.2.2.2.2.2.2.2.2.2.2.1; have o2 := hS.2.2.2.2.2.2.2.2.2.2.2.2.2.2.2.1; have o3 := hS.2.2.2.2.2.2.2.2.2.2.2.2.2.2.2.2.1; have o4 := hS.2.2.2.2.2.2.2.2.2.2.2.2.2.2.2.2.2.1; have o5 := hS.2.2.2.2.2.2.2.2.2.2.2.2.2.2.2.2.2.2; clear hS; go_simp; rfl); (go_simp; refine hK _ ?_; clear hK K)
          refine wpFreeL_val rfl (fun _ _ _ h => h) (fun K hK => ?_); apply Exists.intro; refine ⟨fun L w' hS => ?_, ?_⟩; (have hb := hS.1; have hr := hS.2.1; have g0 := hS.2.2.1; have g1 := hS.2.2.2.1; have g2 := hS.2.2.2.2.1; have g3 := hS.2.2.2.2.2.1; have g4 := hS.2.2.2.2.2.2.1; have g5 := hS.2.2.2.2.2.2.2.1; have g6 := hS.2.2.2.2.2.2.2.2.1; have g7 := hS.2.2.2.2.2.2.2.2.2.1; have g8 := hS.2.2.2.2.2.2.2.2.2.2.1; have g9 := hS.2.2.2.2.2.2.2.2.2.2.2.1; have g10 := hS.2.2.2.2.2.2.2.2.2.2.2.2.1; have o0 := hS.2.2.2.2.2.2.2.2.2.2.2.2.2.1; have o1 := hS.2.2.2.2.2.2.2.2.2.2.2.2.2.2.1; have o2 := hS.2.2.2.2.2.2.2.2.2.2.2.2.2.2.2.1; have o3 := hS.2.2.2.2.2.2.2.2.2.2.2.2.2.2.2.2.1; have o4 := hS.2.2.2.2.2.2.2.2.2.2.2.2.2.2.2.2.2.1; have o5 := hS.2.2.2.2.2.2.2.2.2.2.2.2.2.2.2.2.2.2; clear hS; go_simp; rfl); (go_simp; refine hK _ ?_; clear hK K)
          refine wpFreeL_val rfl (fun _ _ _ h => h) (fun K hK => ?_); apply Exists.intro; refine ⟨fun L w' hS => ?_, ?_⟩; (have hb := hS.1; have hr := hS.2.1; have g0 := hS.2.2.1; have g1 := hS.2.2.2.1; have g2 := hS.2.2.2.2.1; have g3 := hS.2.2.2.2.2.1; have g4 := hS.2.2.2.2.2.2.1; have g5 := hS.2.2.2.2.2.2.2.1; have g6 := hS.2.2.2.2.2.2.2.2.1; have g7 := hS.2.2.2.2.2.2.2.2.2.1; have g8 := hS.2.2.2.2.2.2.2.2.2.2.1; have g9 := hS.2.2.2.2.2.2.2.2.2.2.2.1; have g10 := hS.2.2.2.2.2.2.2.2.2.2.2.2.1; have o0 := hS.2.2.2.2.2.2.2.2.2.2.2.2.2.1; have o1 := hS.2.2.2.2.2.2.2.2.2.2.2.2.2.2.1; have o2 := hS.2.2.2.2.2.2.2.2.2.2.2.2.2.2.2.1; have o3 := hS.2.2.2.2.2.2.2.2.2.2.2.2.2.2.2.2.1; have o4 := hS.2.2.2.2.2.2.2.2.2.2.2.2.2.2.2.2.2.1; have o5 := hS.2.2.2.2.2.2.2.2.2.2.2.2.2.2.2.2.2.2; clear hS; go_simp; rfl); (go_simp; refine hK _ ?_; clear hK K)
          refine wpFreeL_val rfl (fun _ _ _ h => h) (fun K hK => ?_); apply Exists.intro; refine ⟨fun L w' hS => ?_, ?_⟩; (have hb := hS.1; have hr := hS.2.1; have g0 := hS.2.2.1; have g1 := hS.2.2.2.1; have g2 := hS.2.2.2.2.1; have g3 := hS.2.2.2.2.2.1; have g4 := hS.2.2.2.2.2.2.1; have g5 := hS.2.2.2.2.2.2.2.1; have g6 := hS.2.2.2.2.2.2.2.2.1; have g7 := hS.2.2.2.2.2.2.2.2.2.1; have g8 := hS.2.2.2.2.2.2.2.2.2.2.1; have g9 := hS.2.2.2.2.2.2.2.2.2.2.2.1; have g10 := hS.2.2.2.2.2.2.2.2.2.2.2.2.1; have o0 := hS.2.2.2.2.2.2.2.2.2.2.2.2.2.1; have o1 := hS.2.2.2.2.2.2.2.2.2.2.2.2.2.2.1; have o2 := hS.2.2.2.2.2.2.2.2.2.2.2.2.2.2.2.1; have o3 := hS.2.2.2.2.2.2.2.2.2.2.2.2.2.2.2.2.1; have o4 := hS.2.2.2.2.2.2.2.2.2.2.2.2.2.2.2.2.2.1; have o5 := hS.2.2.2.2.2.2.2.2.2.2.2.2.2.2.2.2.2.2; clear hS; go_simp; rfl); (go_simp; refine hK _ ?_; clear hK K)
          refine wpFreeL_nil (fun L w' hL hS => ?_)
          have hb := hS.1; have hr := hS.2.1; have g0 := hS.2.2.1; have g1 := hS.2.2.2.1; have g2 := hS.2.2.2.2.1; have g3 := hS.2.2.2.2.2.1; have g4 := hS.2.2.2.2.2.2.1; have g5 := hS.2.2.2.2.2.2.2.1; have g6 := hS.2.2.2.2.2.2.2.2.1; have g7 := hS.2.2.2.2.2.2.2.2.2.1; have g8 := hS.2.2.2.2.2.2.2.2.2.2.1; have g9 := hS.2.2.2.2.2.2.2.2.2.2.2.1; have g10 := hS.2.2.2.2.2.2.2.2.2.2.2.2.1; have o0 := hS.2.2.2.2.2.2.2.2.2.2.2.2.2.1; have o1 := hS.2.2.2.2.2.2.2.2.2.2.2.2.2.2.1; have o2 := hS.2.2.2.2.2.2.2.2.2.2.2.2.2.2.2.1; have o3 := hS.2.2.2.2.2.2.2.2.2.2.2.2.2.2.2.2.1; have o4 := hS.2.2.2.2.2.2.2.2.2.2.2.2.2.2.2.2.2.1; have o5 := hS.2.2.2.2.2.2.2.2.2.2.2.2.2.2.2.2.2.2
          clear hL hS
          have d0 := g0; have q0 := g1; have q1 := g2; have q2 := g3; have hcr := g4; have qf := g5; have qt := g6; have qd := g7; have qa := g8; have qs := g9; have qm := g10; have of := o0; have ot := o1; have od := o2; have oa := o3; have os := o4; have om := o5
          have hlt0 : Bx < w'.heap.size := World.block_lt_of_cell? _ _ q0
          have hltr : w1.heap.size + 4 < w'.heap.size := World.block_lt_of_cell? _ _ hcr
          have hlz : w.heap.size < w'.heap.size := World.block_lt_of_cell? _ _ d0
          have hlr0 : w1.heap.size < w'.heap.size := by omega
          have hlr1 : w1.heap.size + 1 < w'.heap.size := by omega
          have hlr2 : w1.heap.size + 2 < w'.heap.size := by omega
          have hlr3 : w1.heap.size + 3 < w'.heap.size := by omega
          have kf := of.2; have kt := ot.2; have kd := od.2; have ka := oa.2; have ks := os.2; have km := om.2
          have HB8 := hid hb; clear hb; have HR8 := hid hr; clear hr
          clear g0 g1 g2 g3 g4 g5 g6 g7 g8 g9 g10 o0 o1 o2 o3 o4 o5
          gi_wp2_with fail
          clear kf kt kd ka ks km
          refine wpIn_region_freeL (open_round lp) (by kernel_rfl) (by kernel_rfl) (fun L w' => Below w1.heap.size W w' ∧ Rnd W0.heap.size W w' ∧ w'.cell? ⟨w.heap.size, 0, none⟩ = some (.int .i64 p) ∧ w'.cell? ⟨Bx, 0, none⟩ = some (.int .i64 a) ∧ w'.cell? ⟨Bx, 1, none⟩ = some (.int .i64 s') ∧ w'.cell? ⟨Bx, 2, none⟩ = some (.int .i64 1) ∧ w'.cell? ⟨w1.heap.size + 4, 0, none⟩ = some (.slice (some ⟨b, 0, none⟩) l.length l.length) ∧ w'.cell? ⟨w1.heap.size + 3, 0, none⟩ = some (.int .i64 la) ∧ w'.cell? ⟨w1.heap.size + 3, 1, none⟩ = some (.int .i64 ls) ∧ w'.cell? ⟨w1.heap.size + 3, 2, none⟩ = some (.int .i64 2) ∧ OwnC w' ⟨w1.heap.size, 0, none⟩ ∧ OwnC w' ⟨w1.heap.size + 1, 0, none⟩ ∧ OwnC w' ⟨w1.heap.size + 2, 0, none⟩ ∧ OwnC w' ⟨w1.heap.size + 3, 0, none⟩ ∧ OwnC w' ⟨w1.heap.size + 3, 1, none⟩ ∧ OwnC w' ⟨w1.heap.size + 3, 2, none⟩ ∧ (L 4 = true → w'.cell? ⟨w1.heap.size, 0, none⟩ = some (.int .i64 a)) ∧ (L 5 = true → w'.cell? ⟨w1.heap.size + 1, 0, none⟩ = some (.int .i64 (a + 8 + upZ s'))) ∧ (L 6 = true → w'.cell? ⟨w1.heap.size + 2, 0, none⟩ = some (.bool true))) ⟨(HB8.out).drew, (HR8.out).drew, d0, q0, q1, q2, hcr, qa, qs, qm, of, ot, od, oa, os, om, fun h => absurd h (by decide), fun h => absurd h (by decide), fun h => absurd h (by decide)⟩ ?_
          refine wpFreeL_val rfl (fun _ _ _ h => h) (fun K hK => ?_); apply Exists.intro; refine ⟨fun L w' hS => ?_, ?_⟩; (have hb := hS.1; have hr := hS.2.1; have g0 := hS.2.2.1; have g1 := hS.2.2.2.1; have g2 := hS.2.2.2.2.1; have g3 := hS.2.2.2.2.2.1; have g4 := hS.2.2.2.2.2.2.1; have g5 := hS.2.2.2.2.2.2.2.1; have g6 := hS.2.2.2.2.2.2.2.2.1; have g7 := hS.2.2.2.2.2.2.2.2.2.1; have o0 := hS.2.2.2.2.2.2.2.2.2.2.1; have o1 := hS.2.2.2.2.2.2.2.2.2.2.2.1; have o2 := hS.2.2.2.2.2.2.2.2.2.2.2.2.1; have o3 := hS.2.2.2.2.2.2.2.2.2.2.2.2.2.1; have o4 := hS.2.2.2.2.2.2.2.2.2.2.2.2.2.2.1; have o5 := hS.2.2.2.2.2.2.2.2.2.2.2.2.2.2.2.1; clear hS; go_simp; rfl); (go_simp; refine hK _ ?_; clear hK K)
          refine wpFreeL_val rfl (fun _ _ _ h => h) (fun K hK => ?_); apply Exists.intro; refine ⟨fun L w' hS => ?_, ?_⟩; (have hb := hS.1; have hr := hS.2.1; have g0 := hS.2.2.1; have g1 := hS.2.2.2.1; have g2 := hS.2.2.2.2.1; have g3 := hS.2.2.2.2.2.1; have g4 := hS.2.2.2.2.2.2.1; have g5 := hS.2.2.2.2.2.2.2.1; have g6 := hS.2.2.2.2.2.2.2.2.1; have g7 := hS.2.2.2.2.2.2.2.2.2.1; have o0 := hS.2.2.2.2.2.2.2.2.2.2.1; have o1 := hS.2.2.2.2.2.2.2.2.2.2.2.1; have o2 := hS.2.2.2.2.2.2.2.2.2.2.2.2.1; have o3 := hS.2.2.2.2.2.2.2.2.2.2.2.2.2.1; have o4 := hS.2.2.2.2.2.2.2.2.2.2.2.2.2.2.1; have o5 := hS.2.2.2.2.2.2.2.2.2.2.2.2.2.2.2.1; clear hS; go_simp; rfl); (go_simp; refine hK _ ?_; clear hK K)
          refine wpFreeL_val rfl (fun _ _ _ h => h) (fun K hK => ?_); apply Exists.intro; refine ⟨fun L w' hS => ?_, ?_⟩; (have hb := hS.1; have hr := hS.2.1; have g0 := hS.2.2.1; have g1 := hS.2.2.2.1; have g2 := hS.2.2.2.2.1; have g3 := hS.2.2.2.2.2.1; have g4 := hS.2.2.2.2.2.2.1; have g5 := hS.2.2.2.2.2.2.2.1; have g6 := hS.2.2.2.2.2.2.2.2.1; have g7 := hS.2.2.2.2.2.2.2.2.2.1; have o0 := hS.2.2.2.2.2.2.2.2.2.2.1; have o1 := hS.2.2.2.2.2.2.2.2.2.2.2.1; have o2 := hS.2.2.2.2.2.2.2.2.2.2.2.2.1; have o3 := hS.2.2.2.2.2.2.2.2.2.2.2.2.2.1; have o4 := hS.2.2.2.2.2.2.2.2.2.2.2.2.2.2.1; have o5 := hS.2.2.2.2.2.2.2.2.2.2.2.2.2.2.2.1; clear hS; go_simp; rfl); (go_simp; refine hK _ ?_; clear hK K)
          refine wpFreeL_gen rfl (fun K hK => ?_); apply Exists.intro; refine ⟨fun L w' hcl hL hdep hS => ?_, ?_⟩
          · have hb := hS.1; have hr := hS.2.1; have g0 := hS.2.2.1; have g1 := hS.2.2.2.1; have g2 := hS.2.2.2.2.1; have g3 := hS.2.2.2.2.2.1; have g4 := hS.2.2.2.2.2.2.1; have g5 := hS.2.2.2.2.2.2.2.1; have g6 := hS.2.2.2.2.2.2.2.2.1; have g7 := hS.2.2.2.2.2.2.2.2.2.1; have o0 := hS.2.2.2.2.2.2.2.2.2.2.1; have o1 := hS.2.2.2.2.2.2.2.2.2.2.2.1; have o2 := hS.2.2.2.2.2.2.2.2.2.2.2.2.1; have o3 := hS.2.2.2.2.2.2.2.2.2.2.2.2.2.1; have o4 := hS.2.2.2.2.2.2.2.2.2.2.2.2.2.2.1; have o5 := hS.2.2.2.2.2.2.2.2.2.2.2.2.2.2.2.1; have s0 := hS.2.2.2.2.2.2.2.2.2.2.2.2.2.2.2.2.1; have s1 := hS.2.2.2.2.2.2.2.2.2.2.2.2.2.2.2.2.2.1; have s2 := hS.2.2.2.2.2.2.2.2.2.2.2.2.2.2.2.2.2.2; go_simp; refine (end_any a s' 1 _ (by omega) (by omega) (by omega) (by omega)).mono ?_; rintro e w1 ⟨rfl, hb1⟩; exact ⟨rfl, ⟨hb.trans (hb1.mono (by have := hb.size; omega)), hr.below hb1, keepc hb1 g0, keepc hb1 g1, keepc hb1 g2, keepc hb1 g3, keepc hb1 g4, keepc hb1 g5, keepc hb1 g6, keepc hb1 g7, keepOwn hb1 o0, keepOwn hb1 o1, keepOwn hb1 o2, keepOwn hb1 o3, keepOwn hb1 o4, keepOwn hb1 o5, fun h => keepc hb1 (s0 h), fun h => keepc hb1 (s1 h), fun h => keepc hb1 (s2 h)⟩⟩
          go_simp; refine hK _ ?_; clear hK K
          refine wpFreeL_gen rfl (fun K hK => ?_); refine ⟨undef, fun L w' _ hL hdep hS => ?_, ?_⟩
          · have hb := hS.1; have hr := hS.2.1; have g0 := hS.2.2.1; have g1 := hS.2.2.2.1; have g2 := hS.2.2.2.2.1; have g3 := hS.2.2.2.2.2.1; have g4 := hS.2.2.2.2.2.2.1; have g5 := hS.2.2.2.2.2.2.2.1; have g6 := hS.2.2.2.2.2.2.2.2.1; have g7 := hS.2.2.2.2.2.2.2.2.2.1; have o0 := hS.2.2.2.2.2.2.2.2.2.2.1; have o1 := hS.2.2.2.2.2.2.2.2.2.2.2.1; have o2 := hS.2.2.2.2.2.2.2.2.2.2.2.2.1; have o3 := hS.2.2.2.2.2.2.2.2.2.2.2.2.2.1; have o4 := hS.2.2.2.2.2.2.2.2.2.2.2.2.2.2.1; have o5 := hS.2.2.2.2.2.2.2.2.2.2.2.2.2.2.2.1; have s0 := hS.2.2.2.2.2.2.2.2.2.2.2.2.2.2.2.2.1; have s1 := hS.2.2.2.2.2.2.2.2.2.2.2.2.2.2.2.2.2.1; have s2 := hS.2.2.2.2.2.2.2.2.2.2.2.2.2.2.2.2.2.2; clear hS
            have o0' := o0; obtain ⟨⟨u0, e0⟩, f0⟩ := o0'
            go_simp
            refine ⟨rfl, ⟨(Below.setCell (p := ⟨w1.heap.size, 0, none⟩) hb (by dsimp only; omega) _), (Rnd.setCell (p := ⟨w1.heap.size, 0, none⟩) hr (.inl (by dsimp only; omega)) _), by go_simp, by go_simp, by go_simp, by go_simp, by go_simp, by go_simp, by go_simp, by go_simp, (o0.set _ _), (o1.set _ _), (o2.set _ _), (o3.set _ _), (o4.set _ _), (o5.set _ _), fun _ => by go_simp, fun h => by have q := s1 h; go_simp, fun h => by have q := s2 h; go_simp⟩⟩
          go_simp; refine hK _ ?_; clear hK K
          refine wpFreeL_gen rfl (fun K hK => ?_); refine ⟨undef, fun L w' _ hL hdep hS => ?_, ?_⟩
          · have hb := hS.1; have hr := hS.2.1; have g0 := hS.2.2.1; have g1 := hS.2.2.2.1; have g2 := hS.2.2.2.2.1; have g3 := hS.2.2.2.2.2.1; have g4 := hS.2.2.2.2.2.2.1; have g5 := hS.2.2.2.2.2.2.2.1; have g6 := hS.2.2.2.2.2.2.2.2.1; have g7 := hS.2.2.2.2.2.2.2.2.2.1; have o0 := hS.2.2.2.2.2.2.2.2.2.2.1; have o1 := hS.2.2.2.2.2.2.2.2.2.2.2.1; have o2 := hS.2.2.2.2.2.2.2.2.2.2.2.2.1; have o3 := hS.2.2.2.2.2.2.2.2.2.2.2.2.2.1; have o4 := hS.2.2.2.2.2.2.2.2.2.2.2.2.2.2.1; have o5 := hS.2.2.2.2.2.2.2.2.2.2.2.2.2.2.2.1; have s0 := hS.2.2.2.2.2.2.2.2.2.2.2.2.2.2.2.2.1; have s1 := hS.2.2.2.2.2.2.2.2.2.2.2.2.2.2.2.2.2.1; have s2 := hS.2.2.2.2.2.2.2.2.2.2.2.2.2.2.2.2.2.2; clear hS
            have o1' := o1; obtain ⟨⟨u1, e1⟩, f1⟩ := o1'
            go_simp
            refine ⟨rfl, ⟨(Below.setCell (p := ⟨w1.heap.size + 1, 0, none⟩) hb (by dsimp only; omega) _), (Rnd.setCell (p := ⟨w1.heap.size + 1, 0, none⟩) hr (.inl (by dsimp only; omega)) _), by go_simp, by go_simp, by go_simp, by go_simp, by go_simp, by go_simp, by go_simp, by go_simp, (o0.set _ _), (o1.set _ _), (o2.set _ _), (o3.set _ _), (o4.set _ _), (o5.set _ _), fun h => by have q := s0 h; go_simp, fun _ => by go_simp, fun h => by have q := s2 h; go_simp⟩⟩
          go_simp; refine hK _ ?_; clear hK K
          refine wpFreeL_gen rfl (fun K hK => ?_); refine ⟨undef, fun L w' _ hL hdep hS => ?_, ?_⟩
          · have hb := hS.1; have hr := hS.2.1; have g0 := hS.2.2.1; have g1 := hS.2.2.2.1; have g2 := hS.2.2.2.2.1; have g3 := hS.2.2.2.2.2.1; have g4 := hS.2.2.2.2.2.2.1; have g5 := hS.2.2.2.2.2.2.2.1; have g6 := hS.2.2.2.2.2.2.2.2.1; have g7 := hS.2.2.2.2.2.2.2.2.2.1; have o0 := hS.2.2.2.2.2.2.2.2.2.2.1; have o1 := hS.2.2.2.2.2.2.2.2.2.2.2.1; have o2 := hS.2.2.2.2.2.2.2.2.2.2.2.2.1; have o3 := hS.2.2.2.2.2.2.2.2.2.2.2.2.2.1; have o4 := hS.2.2.2.2.2.2.2.2.2.2.2.2.2.2.1; have o5 := hS.2.2.2.2.2.2.2.2.2.2.2.2.2.2.2.1; have s0 := hS.2.2.2.2.2.2.2.2.2.2.2.2.2.2.2.2.1; have s1 := hS.2.2.2.2.2.2.2.2.2.2.2.2.2.2.2.2.2.1; have s2 := hS.2.2.2.2.2.2.2.2.2.2.2.2.2.2.2.2.2.2; clear hS
            have o2' := o2; obtain ⟨⟨u2, e2⟩, f2⟩ := o2'
            go_simp
            refine ⟨rfl, ⟨(Below.setCell (p := ⟨w1.heap.size + 2, 0, none⟩) hb (by dsimp only; omega) _), (Rnd.setCell (p := ⟨w1.heap.size + 2, 0, none⟩) hr (.inl (by dsimp only; omega)) _), by go_simp, by go_simp, by go_simp, by go_simp, by go_simp, by go_simp, by go_simp, by go_simp, (o0.set _ _), (o1.set _ _), (o2.set _ _), (o3.set _ _), (o4.set _ _), (o5.set _ _), fun h => by have q := s0 h; go_simp, fun h => by have q := s1 h; go_simp, fun _ => by go_simp⟩⟩
          go_simp; refine hK _ ?_; clear hK K
          refine wpFreeL_nil (fun L w' hL hS => ?_)
          have hb := hS.1; have hr := hS.2.1; have g0 := hS.2.2.1; have g1 := hS.2.2.2.1; have g2 := hS.2.2.2.2.1; have g3 := hS.2.2.2.2.2.1; have g4 := hS.2.2.2.2.2.2.1; have g5 := hS.2.2.2.2.2.2.2.1; have g6 := hS.2.2.2.2.2.2.2.2.1; have g7 := hS.2.2.2.2.2.2.2.2.2.1; have o0 := hS.2.2.2.2.2.2.2.2.2.2.1; have o1 := hS.2.2.2.2.2.2.2.2.2.2.2.1; have o2 := hS.2.2.2.2.2.2.2.2.2.2.2.2.1; have o3 := hS.2.2.2.2.2.2.2.2.2.2.2.2.2.1; have o4 := hS.2.2.2.2.2.2.2.2.2.2.2.2.2.2.1; have o5 := hS.2.2.2.2.2.2.2.2.2.2.2.2.2.2.2.1; have s0 := hS.2.2.2.2.2.2.2.2.2.2.2.2.2.2.2.2.1 (hL 4 (by decide)); have s1 := hS.2.2.2.2.2.2.2.2.2.2.2.2.2.2.2.2.2.1 (hL 5 (by decide)); have s2 := hS.2.2.2.2.2.2.2.2.2.2.2.2.2.2.2.2.2.2 (hL 6 (by decide))
          clear hL hS
          have d0 := g0; have q0 := g1; have q1 := g2; have q2 := g3; have hcr := g4; have qa := g5; have qs := g6; have qm := g7; have qf := s0; have qt := s1; have qd := s2; have of := o0; have ot := o1; have od := o2; have oa := o3; have os := o4; have om := o5
          have hlt0 : Bx < w'.heap.size := World.block_lt_of_cell? _ _ q0
          have hltr : w1.heap.size + 4 < w'.heap.size := World.block_lt_of_cell? _ _ hcr
          have hlz : w.heap.size < w'.heap.size := World.block_lt_of_cell? _ _ d0
          have hlr0 : w1.heap.size < w'.heap.size := by omega
          have hlr1 : w1.heap.size + 1 < w'.heap.size := by omega
          have hlr2 : w1.heap.size + 2 < w'.heap.size := by omega
          have hlr3 : w1.heap.size + 3 < w'.heap.size := by omega
          have kf := of.2; have kt := ot.2; have kd := od.2; have ka := oa.2; have ks := os.2; have km := om.2
          have HB8 := hid hb; clear hb; have HR8 := hid hr; clear hr
          clear g0 g1 g2 g3 g4 g5 g6 g7 o0 o1 o2 o3 o4 o5 s0 s1 s2
          gi_wp2_with fail
          clear kf kt kd ka ks km
          refine HF.out _ ?_ ?_ ?_ ?_ ?_
          · repeat (first | (with_reducible exact HR8.out) | refine Rnd.setCell ?_ (.inl (by dsimp only; omega)) _)
          · clear of ot od oa os om; repeat (first | exact HB8.out | refine Below.alloc ?_ (by simp [World.setCell]; try omega) _ | refine Below.setCell ?_ (by dsimp only; omega) _)
          · go_simp
          · rw [HST.out]; unfold FreeF; refine ⟨?_, ?_, ?_, ?_, ?_, ?_⟩ <;> go_simp
          · unfold FreeO; refine ⟨?_, ?_, ?_, ?_, ?_, ?_⟩ <;> ((repeat (with_reducible refine OwnC.set ?_ _ _)); (with_reducible assumption))
        · skip
          have hl2 : (lm == 2) = false := by simpa using hlm
          have HST : Hid (freeStep p (f, t, d, la, ls, lm) (a, s', 1) = (a, a + 8 + upZ s', true, a, s', 1)) := by unfold freeStep Hid; rw [if_pos ⟨rfl, hp⟩]; simp [hlm]
          clear hp hlm
          gi_wp2_with fail
          refine wpIn_region_freeL (open_round lp) (by kernel_rfl) (by kernel_rfl) (fun L w' => Below w1.heap.size W w' ∧ Rnd W0.heap.size W w' ∧ w'.cell? ⟨w.heap.size, 0, none⟩ = some (.int .i64 p) ∧ w'.cell? ⟨Bx, 0, none⟩ = some (.int .i64 a) ∧ w'.cell? ⟨Bx, 1, none⟩ = some (.int .i64 s') ∧ w'.cell? ⟨Bx, 2, none⟩ = some (.int .i64 1) ∧ w'.cell? ⟨w1.heap.size + 4, 0, none⟩ = some (.slice (some ⟨b, 0, none⟩) l.length l.length) ∧ w'.cell? ⟨w1.heap.size, 0, none⟩ = some (.int .i64 f) ∧ w'.cell? ⟨w1.heap.size + 1, 0, none⟩ = some (.int .i64 t) ∧ w'.cell? ⟨w1.heap.size + 2, 0, none⟩ = some (.bool d) ∧ w'.cell? ⟨w1.heap.size + 3, 0, none⟩ = some (.int .i64 la) ∧ w'.cell? ⟨w1.heap.size + 3, 1, none⟩ = some (.int .i64 ls) ∧ w'.cell? ⟨w1.heap.size + 3, 2, none⟩ = some (.int .i64 lm) ∧ OwnC w' ⟨w1.heap.size, 0, none⟩ ∧ OwnC w' ⟨w1.heap.size + 1, 0, none⟩ ∧ OwnC w' ⟨w1.heap.size + 2, 0, none⟩ ∧ OwnC w' ⟨w1.heap.size + 3, 0, none⟩ ∧ OwnC w' ⟨w1.heap.size + 3, 1, none⟩ ∧ OwnC w' ⟨w1.heap.size + 3, 2, none⟩) ⟨(hbb).drew, ((Rnd.refl W0.heap.size W)).drew, d0, q0, q1, q2, hcr, qf, qt, qd, qa, qs, qm, of, ot, od, oa, os, om⟩ ?_
          refine wpFreeL_val rfl (fun _ _ _ h => h) (fun K hK => ?_); apply Exists.intro; refine ⟨fun L w' hS => ?_, ?_⟩; (have hb := hS.1; have hr := hS.2.1; have g0 := hS.2.2.1; have g1 := hS.2.2.2.1; have g2 := hS.2.2.2.2.1; have g3 := hS.2.2.2.2.2.1; have g4 := hS.2.2.2.2.2.2.1; have g5 := hS.2.2.2.2.2.2.2.1; have g6 := hS.2.2.2.2.2.2.2.2.1; have g7 := hS.2.2.2.2.2.2.2.2.2.1; have g8 := hS.2.2.2.2.2.2.2.2.2.2.1; have g9 := hS.2.2.2.2.2.2.2.2.2.2.2.1; have g10 := hS.2.2.2.2.2.2.2.2.2.2.2.2.1; have o0 := hS.2.2.2.2.2.2.2.2.2.2.2.2.2.1; have o1 := hS.2.2.2.2.2.2.2.2.2.2.2.2.2.2.1; have o2 := hS.2.2.2.2.2.2.2.2.2.2.2.2.2.2.2.1; have o3 := hS.2.2.2.2.2.2.2.2.2.2.2.2.2.2.2.2.1; have o4 := hS.2.2.2.2.2.2.2.2.2.2.2.2.2.2.2.2.2.1; have o5 := hS.2.2.2.2.2.2.2.2.2.2.2.2.2.2.2.2.2.2; clear hS; go_simp; rfl); (go_simp; refine hK _ ?_; clear hK K)
          refine wpFreeL_val rfl (fun _ _ _ h => h) (fun K hK => ?_); apply Exists.intro; refine ⟨fun L w' hS => ?_, ?_⟩; (have hb := hS.1; have hr := hS.2.1; have g0 := hS.2.2.1; have g1 := hS.2.2.2.1; have g2 := hS.2.2.2.2.1; have g3 := hS.2.2.2.2.2.1; have g4 := hS.2.2.2.2.2.2.1; have g5 := hS.2.2.2.2.2.2.2.1; have g6 := hS.2.2.2.2.2.2.2.2.1; have g7 := hS.2.2.2.2.2.2.2.2.2.1; have g8 := hS.2.2.2.2.2.2.2.2.2.2.1; have g9 := hS.2.2.2.2.2.2.2.2.2.2.2.1; have g10 := hS.2.2.2.2.2.2.2.2.2.2.2.2.1; have o0 := hS.2.2.2.2.2.2.2.2.2.2.2.2.2.1; have o1 := hS.2.2.2.2.2.2.2.2.2.2.2.2.2.2.1; have o2 := hS.2.2.2.2.2.2.2.2.2.2.2.2.2.2.2.1; have o3 := hS.2.2.2.2.2.2.2.2.2.2.2.2.2.2.2.2.1; have o4 := hS.2.2.2.2.2.2.2.2.2.2.2.2.2.2.2.2.2.1; have o5 := hS.2.2.2.2.2.2.2.2.2.2.2.2.2.2.2.2.2.2; clear hS; go_simp; rfl); (go_simp; refine hK _ ?_; clear hK K)
          refine wpFreeL_val rfl (fun _ _ _ h => h) (fun K hK => ?_); apply Exists.intro; refine ⟨fun L w' hS => ?_, ?_⟩; (have hb := hS.1; have hr := hS.2.1; have g0 := hS.2.2.1; have g1 := hS.2.2.2.1; have g2 := hS.2.2.2.2.1; have g3 := hS.2.2.2.2.2.1; have g4 := hS.2.2.2.2.2.2.1; have g5 := hS.2.2.2.2.2.2.2.1; have g6 := hS.2.2.2.2.2.2.2.2.1; have g7 := hS.2.2.2.2.2.2.2.2.2.1; have g8 := hS.2.2.2.2.2.2.2.2.2.2.1; have g9 := hS.2.2.2.2.2.2.2.2.2.2.2.1; have g10 := hS.2.2.2.2.2.2.2.2.2.2.2.2.1; have o0 := hS.2.2.2.2.2.2.2.2.2.2.2.2.2.1; have o1 := hS.2.2.2.2.2.2.2.2.2.2.2.2.2.2.1; have o2 := hS.2.2.2.2.2.2.2.2.2.2.2.2.2.2.2.1; have o3 := hS.2.2.2.2.2.2.2.2.2.2.2.2.2.2.2.2.1; have o4 := hS.2.2.2.2.2.2.2.2.2.2.2.2.2.2.2.2.2.1; have o5 := hS.2.2.2.2.2.2.2.2.2.2.2.2.2.2.2.2.2.2; clear hS; go_simp; rfl); (go_simp; refine hK _ ?_; clear hK K)
          refine wpFreeL_val rfl (fun _ _ _ h => h) (fun K hK => ?_); apply Exists.intro; refine ⟨fun L w' hS => ?_, ?_⟩; (have hb := hS.1; have hr := hS.2.1; have g0 := hS.2.2.1; have g1 := hS.2.2.2.1; have g2 := hS.2.2.2.2.1; have g3 := hS.2.2.2.2.2.1; have g4 := hS.2.2.2.2.2.2.1; have g5 := hS.2.2.2.2.2.2.2.1; have g6 := hS.2.2.2.2.2.2.2.2.1; have g7 := hS.2.2.2.2.2.2.2.2.2.1; have g8 := hS.2.2.2.2.2.2.2.2.2.2.1; have g9 := hS.2.2.2.2.2.2.2.2.2.2.2.1; have g10 := hS.2.2.2.2.2.2.2.2.2.2.2.2.1; have o0 := hS.2.2.2.2.2.2.2.2.2.2.2.2.2.1; have o1 := hS.2.2.2.2.2.2.2.2.2.2.2.2.2.2.1; have o2 := hS.2.2.2.2.2.2.2.2.2.2.2.2.2.2.2.1; have o3 := hS.2.2.2.2.2.2.2.2.2.2.2.2.2.2.2.2.1; have o4 := hS.2.2.2.2.2.2.2.2.2.2.2.2.2.2.2.2.2.1; have o5 := hS.2.2.2.2.2.2.2.2.2.2.2.2.2.2.2.2.2.2; clear hS; go_simp; rfl); (go_simp; refine hK _ ?_; clear hK K)
          refine wpFreeL_val rfl (fun _ _ _ h => h) (fun K hK => ?_); apply Exists.intro; refine ⟨fun L w' hS => ?_, ?_⟩; (have hb := hS.1; have hr := hS.2.1; have g0 := hS.2.2.1; have g1 := hS.2.2.2.1; have g2 := hS.2.2.2.2.1; have g3 := hS.2.2.2.2.2.1; have g4 := hS.2.2.2.2.2.2.1; have g5 := hS.2.2.2.2.2.2.2.1; have g6 := hS.2.2.2.2.2.2.2.2.1; have g7 := hS.2.2.2.2.2.2.2.2.2.1; have g8 := hS.2.2.2.2.2.2.2.2.2.2.1; have g9 := hS.2.2.2.2.2.2.2.2.2.2.2.1; have g10 := hS.2.2.2.2.2.2.2.2.2.2.2.2.1; have o0 := hS.2.2.2.2.2.2.2.2.2.2.2.2.2.1; have o1 := hS.2.2.2.2.2.2.2.2.2.2.2.2.2.2.1; have o2 := hS.2.2.2.2.2.2.2.2.2.2.2.2.2.2.2.1; have o3 := hS.2.2.2.2.2.2.2.2.2.2.2.2.2.2.2.2.1; have o4 := hS.2.2.2.2.2.2.2.2.2.2.2.2.2.2.2.2.2.1; have o5 := hS.2.2.2.2.2.2.2.2.2.2.2.2.2.2.2.2.2.2; clear hS; go_simp; rfl); (go_simp; refine hK _ ?_; clear hK K)
          refine wpFreeL_gen rfl (fun K hK => ?_); apply Exists.intro; refine ⟨fun L w' hcl hL hdep hS => ?_, ?_⟩
          · have hb := hS.1; have hr := hS.2.1; have g0 := hS.2.2.1; have g1 := hS.2.2.2.1; have g2 := hS.2.2.2.2.1; have g3 := hS.2.2.2.2.2.1; have g4 := hS.2.2.2.2.2.2.1; have g5 := hS.2.2.2.2.2.2.2.1; have g6 := hS.2.2.2.2.2.2.2.2.1; have g7 := hS.2.2.2.2.2.2.2.2.2.1; have g8 := hS.2.2.2.2.2.2.2.2.2.2.1; have g9 := hS.2.2.2.2.2.2.2.2.2.2.2.1; have g10 := hS.2.2.2.2.2.2.2.2.2.2.2.2.1; have o0 := hS.2.2.2.2.2.2.2.2.2.2.2.2.2.1; have o1 := hS.2.2.2.2.2.2.2.2.2.2.2.2.2.2.1; have o2 := hS.2.2.2.2.2.2.2.2.2.2.2.2.2.2.2.1; have o3 := hS.2.2.2.2.2.2.2.2.2.2.2.2.2.2.2.2.1; have o4 := hS.2.2.2.2.2.2.2.2.2.2.2.2.2.2.2.2.2.1; have o5 := hS.2.2.2.2.2.2.2.2.2.2.2.2.2.2.2.2.2.2; go_simp; refine (piece_any a s' 1 _ (by omega) (by omega)).mono ?_; rintro e w1 ⟨rfl, hb1⟩; exact ⟨rfl, ⟨hb.trans (hb1.mono (by have := hb.size; omega)), hr.below hb1, keepc hb1 g0, keepc hb1 g1, keepc hb1 g2, keepc hb1 g3, keepc hb1 g4, keepc hb1 g5, keepc hb1 g6, keepc hb1 g7, keepc hb1 g8, keepc hb1 g9, keepc hb1 g10, keepOwn hb1 o0, keepOwn hb1 o1, keepOwn hb1 o2, keepOwn hb1 o3, keepOwn hb1 o4, keepOwn hb1 o5⟩⟩
          go_simp; refine hK _ ?_; clear hK K
          refine wpFreeL_val rfl (fun _ _ _ h => h) (fun K hK => ?_); apply Exists.intro; refine ⟨fun L w' hS => ?_, ?_⟩; (have hb := hS.1; have hr := hS.2.1; have g0 := hS.2.2.1; have g1 := hS.2.2.2.1; have g2 := hS.2.2.2.2.1; have g3 := hS.2.2.2.2.2.1; have g4 := hS.2.2.2.2.2.2.1; have g5 := hS.2.2.2.2.2.2.2.1; have g6 := hS.2.2.2.2.2.2.2.2.1; have g7 := hS.2.2.2.2.2.2.2.2.2.1; have g8 := hS.2.2.2.2.2.2.2.2.2.2.1; have g9 := hS.2.2.2.2.2.2.2.2.2.2.2.1; have g10 := hS.2.2.2.2.2.2.2.2.2.2.2.2.1; have o0 := hS.2.2.2.2.2.2.2.2.2.2.2.2.2.1; have o1 := hS.2.2.2.2.2.2.2.2.2.2.2.2.2.2.1; have o2 := hS.2.2.2.2.2.2.2.2.2.2.2.2.2.2.2.1; have o3 := hS.2.2.2.2.2.2.2.2.2.2.2.2.2.2.2.2.1; have o4 := hS.2.2.2.2.2.2.2.2.2.2.2.2.2.2.2.2.2.1; have o5 := hS.2.2.2.2.2.2.2.2.2.2.2.2.2.2.2.2.2.2; clear hS; go_simp; rfl); (go_simp; refine hK _ ?_; clear hK K)
          refine wpFreeL_val rfl (fun _ _ _ h => h) (fun K hK => ?_); apply Exists.intro; refine ⟨fun L w' hS => ?_, ?_⟩; (have hb := hS.1; have hr := hS.2.1; have g0 := hS.2.2.1; have g1 := hS.2.2.2.1; have g2 := hS.2.2.2.2.1; have g3 := hS.2.2.2.2.2.1; have g4 := hS.2.2.2.2.2.2.1; have g5 := hS.2.2.2.2.2.2.2.1; have g6 := hS.2.2.2.2.2.2.2.2.1; have g7 := hS.2.2.2.2.2.2.2.2.2.1; have g8 := hS.2.2.2.2.2.2.2.2.2.2.1; have g9 := hS.2.2.2.2.2.2.2.2.2.2.2.1; have g10 := hS.2.2.2.2.2.2.2.2.2.2.2.2.1; have o0 := hS.2.2.2.2.2.2.2.2.2.2.2.2.2.1; have o1 := hS.2.2.2.2.2.2.2.2.2.2.2.2.2.2.1; have o2 := hS.2.2.2.2.2.2.2.2.2.2.2.2.2.2.2.1; have o3 := hS.2.2.2.2.2.2.2.2.2.2.2.2.2.2.2.2.1; have o4 := hS.2.2.2.2.2.2.2.2.2.2.2.2.2.2.2.2.2.1; have o5 := hS.2.2.2.2.2.2.2.2.2.2.2.2.2.2.2.2.2.2; clear hS; go_simp; rfl); (go_simp; refine hK _ ?_; clear hK K)
          refine wpFreeL_val rfl (fun _ _ _ h => h) (fun K hK => ?_); apply Exists.intro; refine ⟨fun L w' hS => ?_, ?_⟩; (have hb := hS.1; have hr := hS.2.1; have g0 := hS.2.2.1; have g1 := hS.2.2.2.1; have g2 := hS.2.2.2.2.1; have g3 := hS.2.2.2.2.2.1; have g4 := hS.2.2.2.2.2.2.1; have g5 := hS.2.2.2.2.2.2.2.1; have g6 := hS.2.2.2.2.2.2.2.2.1; have g7 := hS.2.2.2.2.2.2.2.2.2.1; have g8 := hS.2.2.2.2.2.2.2.2.2.2.1; have g9 := hS.2.2.2.2.2.2.2.2.2.2.2.1; have g10 := hS.2.2.2.2.2.2.2.2.2.2.2.2.1; have o0 := hS.2.2.2.2.2.2.2.2.2.2.2.2.2.1; have o1 := hS.2.2.2.2.2.2.2.2.2.2.2.2.2.2.1; have o2 := hS.2.2.2.2.2.2.2.2.2.2.2.2.2.2.2.1; have o3 := hS.2.2.2.2.2.2.2.2.2.2.2.2.2.2.2.2.1; have o4 := hS.2.2.2.2.2.2.2.2.2.2.2.2.2.2.2.2.2.1; have o5 := hS.2.2.2.2.2.2.2.2.2.2.2.2.2.2.2.2.2.2; clear hS; go_simp; rfl); (go_simp; refine hK _ ?_; clear hK K)
          refine wpFreeL_val rfl (fun _ _ _ h => h) (fun K hK => ?_); apply Exists.intro; refine ⟨fun L w' hS => ?_, ?_⟩; (have hb := hS.1; have hr := hS.2.1; have g0 := hS.2.2.1; have g1 := hS.2.2.2.1; have g2 := hS.2.2.2.2.1; have g3 := hS.2.2.2.2.2.1; have g4 := hS.2.2.2.2.2.2.1; have g5 := hS.2.2.2.2.2.2.2.1; have g6 := hS.2.2.2.2.2.2.2.2.1; have g7 := hS.2.2.2.2.2.2.2.2.2.1; have g8 := hS.2.2.2.2.2.2.2.2.2.2.1; have g9 := hS.2.2.2.2.2.2.2.2.2.2.2.1; have g10 := hS.2.2.2.2.2.2.2.2.2.2.2.2.1; have o0 := hS.2.2.2.2.2.2.2.2.2.2.2.2.2.1; have o1 := hS.2.2.2.2.2.2.2.2.2.2.2.2.2.2.1; have o2 := hS.2.2.2.2.2.2.2.2.2.2.2.2.2.2.2.1; have o3 := hS.2.2.2.2.2.2.2.2.2.2.2.2.2.2.2.2.1; have o4 := hS.2.2.2.2.2.2.2.2.2.2.2.2.2.2.2.2.2.1; have o5 := hS.2.2.2.2.2.2.2.2.2.2.2.2.2.2.2.2.2.2; clear hS; go_simp; rfl); (go_simp; refine hK _ ?_; clear hK K)
          refine wpFreeL_val rfl (fun _ _ _ h => h) (fun K hK => ?_); apply Exists.intro; refine ⟨fun L w' hS => ?_, ?_⟩; (have hb := hS.1; have hr := hS.2.1; have g0 := hS.2.2.1; have g1 := hS.2.2.2.1; have g2 := hS.2.2.2.2.1; have g3 := hS.2.2.2.2.2.1; have g4 := hS.2.2.2.2.2.2.1; have g5 := hS.2.2.2.2.2.2.2.1; have g6 := hS.2.2.2.2.2.2.2.2.1; have g7 := hS.2.2.2.2.2.2.2.2.2.1; have g8 := hS.2.2.2.2.2.2.2.2.2.2.1; have g9 := hS.2.2.2.2.2.2.2.2.2.2.2.1; have g10 := hS.2.2.2.2.2.2.2.2.2.2.2.2.1; have o0 := hS.2.2.2.2.2.2.2.2.2.2.2.2.2.1; have o1 := hS.2.2.2.2.2.2.2.2.2.2.2.2.2.2.1; have o2 := hS.2.2.2.2.2.2.2.2.2.2.2.2.2.2.2.1; have o3 := hS.2.2.2.2.2.2.2.2.2.2.2.2.2.2.2.2.1; have o4 := hS.2.2.2.2.2.2.2.2.2.2.2.2.2.2.2.2.2.1; have o5 := hS.2.2.2.2.2.2.2.2.2.2.2.2.2.2.2.2.2.2; clear hS; go_simp; rfl); (go_simp; refine hK _ ?_; clear hK K)
          refine wpFreeL_nil (fun L w' hL hS => ?_)
          have hb := hS.1; have hr := hS.2.1; have g0 := hS.2.2.1; have g1 := hS.2.2.2.1; have g2 := hS.2.2.2.2.1; have g3 := hS.2.2.2.2.2.1; have g4 := hS.2.2.2.2.2.2.1; have g5 := hS.2.2.2.2.2.2.2.1; have g6 := hS.2.2.2.2.2.2.2.2.1; have g7 := hS.2.2.2.2.2.2.2.2.2.1; have g8 := hS.2.2.2.2.2.2.2.2.2.2.1; have g9 := hS.2.2.2.2.2.2.2.2.2.2.2.1; have g10 := hS.2.2.2.2.2.2.2.2.2.2.2.2.1; have o0 := hS.2.2.2.2.2.2.2.2.2.2.2.2.2.1; have o1 := hS.2.2.2.2.2.2.2.2.2.2.2.2.2.2.1; have o2 := hS.2.2.2.2.2.2.2.2.2.2.2.2.2.2.2.1; have o3 := hS.2.2.2.2.2.2.2.2.2.2.2.2.2.2.2.2.1; have o4 := hS.2.2.2.2.2.2.2.2.2.2.2.2.2.2.2.2.2.1; have o5 := hS.2.2.2.2.2.2.2.2.2.2.2.2.2.2.2.2.2.2
          clear hL hS
          have d0 := g0; have q0 := g1; have q1 := g2; have q2 := g3; have hcr := g4; have qf := g5; have qt := g6; have qd := g7; have qa := g8; have qs := g9; have qm := g10; have of := o0; have ot := o1; have od := o2; have oa := o3; have os := o4; have om := o5
          have hlt0 : Bx < w'.heap.size := World.block_lt_of_cell? _ _ q0
          have hltr : w1.heap.size + 4 < w'.heap.size := World.block_lt_of_cell? _ _ hcr
          have hlz : w.heap.size < w'.heap.size := World.block_lt_of_cell? _ _ d0
          have hlr0 : w1.heap.size < w'.heap.size := by omega
          have hlr1 : w1.heap.size + 1 < w'.heap.size := by omega
          have hlr2 : w1.heap.size + 2 < w'.heap.size := by omega
          have hlr3 : w1.heap.size + 3 < w'.heap.size := by omega
          have kf := of.2; have kt := ot.2; have kd := od.2; have ka := oa.2; have ks := os.2; have km := om.2
          have HB8 := hid hb; clear hb; have HR8 := hid hr; clear hr
          clear g0 g1 g2 g3 g4 g5 g6 g7 g8 g9 g10 o0 o1 o2 o3 o4 o5
          gi_wp2_with fail
          clear kf kt kd ka ks km
          refine wpIn_region_freeL (open_round lp) (by kernel_rfl) (by kernel_rfl) (fun L w' => Below w1.heap.size W w' ∧ Rnd W0.heap.size W w' ∧ w'.cell? ⟨w.heap.size, 0, none⟩ = some (.int .i64 p) ∧ w'.cell? ⟨Bx, 0, none⟩ = some (.int .i64 a) ∧ w'.cell? ⟨Bx, 1, none⟩ = some (.int .i64 s') ∧ w'.cell? ⟨Bx, 2, none⟩ = some (.int .i64 1) ∧ w'.cell? ⟨w1.heap.size + 4, 0, none⟩ = some (.slice (some ⟨b, 0, none⟩) l.length l.length) ∧ w'.cell? ⟨w1.heap.size + 3, 0, none⟩ = some (.int .i64 la) ∧ w'.cell? ⟨w1.heap.size + 3, 1, none⟩ = some (.int .i64 ls) ∧ w'.cell? ⟨w1.heap.size + 3, 2, none⟩ = some (.int .i64 lm) ∧ OwnC w' ⟨w1.heap.size, 0, none⟩ ∧ OwnC w' ⟨w1.heap.size + 1, 0, none⟩ ∧ OwnC w' ⟨w1.heap.size + 2, 0, none⟩ ∧ OwnC w' ⟨w1.heap.size + 3, 0, none⟩ ∧ OwnC w' ⟨w1.heap.size + 3, 1, none⟩ ∧ OwnC w' ⟨w1.heap.size + 3, 2, none⟩ ∧ (L 4 = true → w'.cell? ⟨w1.heap.size, 0, none⟩ = some (.int .i64 a)) ∧ (L 5 = true → w'.cell? ⟨w1.heap.size + 1, 0, none⟩ = some (.int .i64 (a + 8 + upZ s'))) ∧ (L 6 = true → w'.cell? ⟨w1.heap.size + 2, 0, none⟩ = some (.bool true))) ⟨(HB8.out).drew, (HR8.out).drew, d0, q0, q1, q2, hcr, qa, qs, qm, of, ot, od, oa, os, om, fun h => absurd h (by decide), fun h => absurd h (by decide), fun h => absurd h (by decide)⟩ ?_
          refine wpFreeL_val rfl (fun _ _ _ h => h) (fun K hK => ?_); apply Exists.intro; refine ⟨fun L w' hS => ?_, ?_⟩; (have hb := hS.1; have hr := hS.2.1; have g0 := hS.2.2.1; have g1 := hS.2.2.2.1; have g2 := hS.2.2.2.2.1; have g3 := hS.2.2.2.2.2.1; have g4 := hS.2.2.2.2.2.2.1; have g5 := hS.2.2.2.2.2.2.2.1; have g6 := hS.2.2.2.2.2.2.2.2.1; have g7 := hS.2.2.2.2.2.2.2.2.2.1; have o0 := hS.2.2.2.2.2.2.2.2.2.2.1; have o1 := hS.2.2.2.2.2.2.2.2.2.2.2.1; have o2 := hS.2.2.2.2.2.2.2.2.2.2.2.2.1; have o3 := hS.2.2.2.2.2.2.2.2.2.2.2.2.2.1; have o4 := hS.2.2.2.2.2.2.2.2.2.2.2.2.2.2.1; have o5 := hS.2.2.2.2.2.2.2.2.2.2.2.2.2.2.2.1; clear hS; go_simp; rfl); (go_simp; refine hK _ ?_; clear hK K)
          refine wpFreeL_val rfl (fun _ _ _ h => h) (fun K hK => ?_); apply Exists.intro; refine ⟨fun L w' hS => ?_, ?_⟩; (have hb := hS.1; have hr := hS.2.1; have g0 := hS.2.2.1; have g1 := hS.2.2.2.1; have g2 := hS.2.2.2.2.1; have g3 := hS.2.2.2.2.2.1; have g4 := hS.2.2.2.2.2.2.1; have g5 := hS.2.2.2.2.2.2.2.1; have g6 := hS.2.2.2.2.2.2.2.2.1; have g7 := hS.2.2.2.2.2.2.2.2.2.1; have o0 := hS.2.2.2.2.2.2.2.2.2.2.1; have o1 := hS.2.2.2.2.2.2.2.2.2.2.2.1; have o2 := hS.2.2.2.2.2.2.2.2.2.2.2.2.1; have o3 := hS.2.2.2.2.2.2.2.2.2.2.2.2.2.1; have o4 := hS.2.2.2.2.2.2.2.2.2.2.2.2.2.2.1; have o5 := hS.2.2.2.2.2.2.2.2.2.2.2.2.2.2.2.1; clear hS; go_simp; rfl); (go_simp; refine hK _ ?_; clear hK K)
          refine wpFreeL_val rfl (fun _ _ _ h => h) (fun K hK => ?_); apply Exists.intro; refine ⟨fun L w' hS => ?_, ?_⟩; (have hb := hS.1; have hr := hS.2.1; have g0 := hS.2.2.1; have g1 := hS.2.2.2.1; have g2 := hS.2.2.2.2.1; have g3 := hS.2.2.2.2.2.1; have g4 := hS.2.2.2.2.2.2.1; have g5 := hS.2.2.2.2.2.2.2.1; have g6 := hS.2.2.2.2.2.2.2.2.1; have g7 := hS.2.2.2.2.2.2.2.2.2.1; have o0 := hS.2.2.2.2.2.2.2.2.2.2.1; have o1 := hS.2.2.2.2.2.2.2.2.2.2.2.1; have o2 := hS.2.2.2.2.2.2.2.2.2.2.2.2.1; have o3 := hS.2.2.2.2.2.2.2.2.2.2.2.2.2.1; have o4 := hS.2.2.2.2.2.2.2.2.2.2.2.2.2.2.1; have o5 := hS.2.2.2.2.2.2.2.2.2.2.2.2.2.2.2.1; clear hS; go_simp; rfl); (go_simp; refine hK _ ?_; clear hK K)
          refine wpFreeL_gen rfl (fun K hK => ?_); apply Exists.intro; refine ⟨fun L w' hcl hL hdep hS => ?_, ?_⟩
          · have hb := hS.1; have hr := hS.2.1; have g0 := hS.2.2.1; have g1 := hS.2.2.2.1; have g2 := hS.2.2.2.2.1; have g3 := hS.2.2.2.2.2.1; have g4 := hS.2.2.2.2.2.2.1; have g5 := hS.2.2.2.2.2.2.2.1; have g6 := hS.2.2.2.2.2.2.2.2.1; have g7 := hS.2.2.2.2.2.2.2.2.2.1; have o0 := hS.2.2.2.2.2.2.2.2.2.2.1; have o1 := hS.2.2.2.2.2.2.2.2.2.2.2.1; have o2 := hS.2.2.2.2.2.2.2.2.2.2.2.2.1; have o3 := hS.2.2.2.2.2.2.2.2.2.2.2.2.2.1; have o4 := hS.2.2.2.2.2.2.2.2.2.2.2.2.2.2.1; have o5 := hS.2.2.2.2.2.2.2.2.2.2.2.2.2.2.2.1; have s0 := hS.2.2.2.2.2.2.2.2.2.2.2.2.2.2.2.2.1; have s1 := hS.2.2.2.2.2.2.2.2.2.2.2.2.2.2.2.2.2.1; have s2 := hS.2.2.2.2.2.2.2.2.2.2.2.2.2.2.2.2.2.2; go_simp; refine (end_any a s' 1 _ (by omega) (by omega) (by omega) (by omega)).mono ?_; rintro e w1 ⟨rfl, hb1⟩; exact ⟨rfl, ⟨hb.trans (hb1.mono (by have := hb.size; omega)), hr.below hb1, keepc hb1 g0, keepc hb1 g1, keepc hb1 g2, keepc hb1 g3, keepc hb1 g4, keepc hb1 g5, keepc hb1 g6, keepc hb1 g7, keepOwn hb1 o0, keepOwn hb1 o1, keepOwn hb1 o2, keepOwn hb1 o3, keepOwn hb1 o4, keepOwn hb1 o5, fun h => keepc hb1 (s0 h), fun h => keepc hb1 (s1 h), fun h => keepc hb1 (s2 h)⟩⟩
          go_simp; refine hK _ ?_; clear hK K
          refine wpFreeL_gen rfl (fun K hK => ?_); refine ⟨undef, fun L w' _ hL hdep hS => ?_, ?_⟩
          · have hb := hS.1; have hr := hS.2.1; have g0 := hS.2.2.1; have g1 := hS.2.2.2.1; have g2 := hS.2.2.2.2.1; have g3 := hS.2.2.2.2.2.1; have g4 := hS.2.2.2.2.2.2.1; have g5 := hS.2.2.2.2.2.2.2.1; have g6 := hS.2.2.2.2.2.2.2.2.1; have g7 := hS.2.2.2.2.2.2.2.2.2.1; have o0 := hS.2.2.2.2.2.2.2.2.2.2.1; have o1 := hS.2.2.2.2.2.2.2.2.2.2.2.1; have o2 := hS.2.2.2.2.2.2.2.2.2.2.2.2.1; have o3 := hS.2.2.2.2.2.2.2.2.2.2.2.2.2.1; have o4 := hS.2.2.2.2.2.2.2.2.2.2.2.2.2.2.1; have o5 := hS.2.2.2.2.2.2.2.2.2.2.2.2.2.2.2.1; have s0 := hS.2.2.2.2.2.2.2.2.2.2.2.2.2.2.2.2.1; have s1 := hS.2.2.2.2.2.2.2.2.2.2.2.2.2.2.2.2.2.1; have s2 := hS.2.2.2.2.2.2.2.2.2.2.2.2.2.2.2.2.2.2; clear hS
            have o0' := o0; obtain ⟨⟨u0, e0⟩, f0⟩ := o0'
            go_simp
            refine ⟨rfl, ⟨(Below.setCell (p := ⟨w1.heap.size, 0, none⟩) hb (by dsimp only; omega) _), (Rnd.setCell (p := ⟨w1.heap.size, 0, none⟩) hr (.inl (by dsimp only; omega)) _), by go_simp, by go_simp, by go_simp, by go_simp, by go_simp, by go_simp, by go_simp, by go_simp, (o0.set _ _), (o1.set _ _), (o2.set _ _), (o3.set _ _), (o4.set _ _), (o5.set _ _), fun _ => by go_simp, fun h => by have q := s1 h; go_simp, fun h => by have q := s2 h; go_simp⟩⟩
          go_simp; refine hK _ ?_; clear hK K
          refine wpFreeL_gen rfl (fun K hK => ?_); refine ⟨undef, fun L w' _ hL hdep hS => ?_, ?_⟩
          · have hb := hS.1; have hr := hS.2.1; have g0 := hS.2.2.1; have g1 := hS.2.2.2.1; have g2 := hS.2.2.2.2.1; have g3 := hS.2.2.2.2.2.1; have g4 := hS.2.2.2.2.2.2.1; have g5 := hS.2.2.2.2.2.2.2.1; have g6 := hS.2.2.2.2.2.2.2.2.1; have g7 := hS.2.2.2.2.2.2.2.2.2.1; have o0 := hS.2.2.2.2.2.2.2.2.2.2.1; have o1 := hS.2.2.2.2.2.2.2.2.2.2.2.1; have o2 := hS.2.2.2.2.2.2.2.2.2.2.2.2.1; have o3 := hS.2.2.2.2.2.2.2.2.2.2.2.2.2.1; have o4 := hS.2.2.2.2.2.2.2.2.2.2.2.2.2.2.1; have o5 := hS.2.2.2.2.2.2.2.2.2.2.2.2.2.2.2.1; have s0 := hS.2.2.2.2.2.2.2.2.2.2.2.2.2.2.2.2.1; have s1 := hS.2.2.2.2.2.2.2.2.2.2.2.2.2.2.2.2.2.1; have s2 := hS.2.2.2.2.2.2.2.2.2.2.2.2.2.2.2.2.2.2; clear hS
            have o1' := o1; obtain ⟨⟨u1, e1⟩, f1⟩ := o1'
            go_simp
            refine ⟨rfl, ⟨(Below.setCell (p := ⟨w1.heap.size + 1, 0, none⟩) hb (by dsimp only; omega) _), (Rnd.setCell (p := ⟨w1.heap.size + 1, 0, none⟩) hr (.inl (by dsimp only; omega)) _), by go_simp, by go_simp, by go_simp, by go_simp, by go_simp, by go_simp, by go_simp, by go_simp, (o0.set _ _), (o1.set _ _), (o2.set _ _), (o3.set _ _), (o4.set _ _), (o5.set _ _), fun h => by have q := s0 h; go_simp, fun _ => by go_simp, fun h => by have q := s2 h; go_simp⟩⟩
          go_simp; refine hK _ ?_; clear hK K
          refine wpFreeL_gen rfl (fun K hK => ?_); refine ⟨undef, fun L w' _ hL hdep hS => ?_, ?_⟩
          · have hb := hS.1; have hr := hS.2.1; have g0 := hS.2.2.1; have g1 := hS.2.2.2.1; have g2 := hS.2.2.2.2.1; have g3 := hS.2.2.2.2.2.1; have g4 := hS.2.2.2.2.2.2.1; have g5 := hS.2.2.2.2.2.2.2.1; have g6 := hS.2.2.2.2.2.2.2.2.1; have g7 := hS.2.2.2.2.2.2.2.2.2.1; have o0 := hS.2.2.2.2.2.2.2.2.2.2.1; have o1 := hS.2.2.2.2.2.2.2.2.2.2.2.1; have o2 := hS.2.2.2.2.2.2.2.2.2.2.2.2.1; have o3 := hS.2.2.2.2.2.2.2.2.2.2.2.2.2.1; have o4 := hS.2.2.2.2.2.2.2.2.2.2.2.2.2.2.1; have o5 := hS.2.2.2.2.2.2.2.2.2.2.2.2.2.2.2.1; have s0 := hS.2.2.2.2.2.2.2.2.2.2.2.2.2.2.2.2.1; have s1 := hS.2.2.2.2.2.2.2.2.2.2.2.2.2.2.2.2.2.1; have s2 := hS.2.2.2.2.2.2.2.2.2.2.2.2.2.2.2.2.2.2; clear hS
            have o2' := o2; obtain ⟨⟨u2, e2⟩, f2⟩ := o2'
            go_simp
            refine ⟨rfl, ⟨(Below.setCell (p := ⟨w1.heap.size + 2, 0, none⟩) hb (by dsimp only; omega) _), (Rnd.setCell (p := ⟨w1.heap.size + 2, 0, none⟩) hr (.inl (by dsimp only; omega)) _), by go_simp, by go_simp, by go_simp, by go_simp, by go_simp, by go_simp, by go_simp, by go_simp, (o0.set _ _), (o1.set _ _), (o2.set _ _), (o3.set _ _), (o4.set _ _), (o5.set _ _), fun h => by have q := s0 h; go_simp, fun h => by have q := s1 h; go_simp, fun _ => by go_simp⟩⟩
          go_simp; refine hK _ ?_; clear hK K
          refine wpFreeL_nil (fun L w' hL hS => ?_)
          have hb := hS.1; have hr := hS.2.1; have g0 := hS.2.2.1; have g1 := hS.2.2.2.1; have g2 := hS.2.2.2.2.1; have g3 := hS.2.2.2.2.2.1; have g4 := hS.2.2.2.2.2.2.1; have g5 := hS.2.2.2.2.2.2.2.1; have g6 := hS.2.2.2.2.2.2.2.2.1; have g7 := hS.2.2.2.2.2.2.2.2.2.1; have o0 := hS.2.2.2.2.2.2.2.2.2.2.1; have o1 := hS.2.2.2.2.2.2.2.2.2.2.2.1; have o2 := hS.2.2.2.2.2.2.2.2.2.2.2.2.1; have o3 := hS.2.2.2.2.2.2.2.2.2.2.2.2.2.1; have o4 := hS.2.2.2.2.2.2.2.2.2.2.2.2.2.2.1; have o5 := hS.2.2.2.2.2.2.2.2.2.2.2.2.2.2.2.1; have s0 := hS.2.2.2.2.2.2.2.2.2.2.2.2.2.2.2.2.1 (hL 4 (by decide)); have s1 := hS.2.2.2.2.2.2.2.2.2.2.2.2.2.2.2.2.2.1 (hL 5 (by decide)); have s2 := hS.2.2.2.2.2.2.2.2.2.2.2.2.2.2.2.2.2.2 (hL 6 (by decide))
          clear hL hS
          have d0 := g0; have q0 := g1; have q1 := g2; have q2 := g3; have hcr := g4; have qa := g5; have qs := g6; have qm := g7; have qf := s0; have qt := s1; have qd := s2; have of := o0; have ot := o1; have od := o2; have oa := o3; have os := o4; have om := o5
          have hlt0 : Bx < w'.heap.size := World.block_lt_of_cell? _ _ q0
          have hltr : w1.heap.size + 4 < w'.heap.size := World.block_lt_of_cell? _ _ hcr
          have hlz : w.heap.size < w'.heap.size := World.block_lt_of_cell? _ _ d0
          have hlr0 : w1.heap.size < w'.heap.size := by omega
          have hlr1 : w1.heap.size + 1 < w'.heap.size := by omega
          have hlr2 : w1.heap.size + 2 < w'.heap.size := by omega
          have hlr3 : w1.heap.size + 3 < w'.heap.size := by omega
          have kf := of.2; have kt := ot.2; have kd := od.2; have ka := oa.2; have ks := os.2; have km := om.2
          have HB8 := hid hb; clear hb; have HR8 := hid hr; clear hr
          clear g0 g1 g2 g3 g4 g5 g6 g7 o0 o1 o2 o3 o4 o5 s0 s1 s2
          gi_wp2_with fail
          clear kf kt kd ka ks km
          refine HF.out _ ?_ ?_ ?_ ?_ ?_
          · repeat (first | (with_reducible exact HR8.out) | refine Rnd.setCell ?_ (.inl (by dsimp only; omega)) _)
          · clear of ot od oa os om; repeat (first | exact HB8.out | refine Below.alloc ?_ (by simp [World.setCell]; try omega) _ | refine Below.setCell ?_ (by dsimp only; omega) _)
          · go_simp
          · rw [HST.out]; unfold FreeF; refine ⟨?_, ?_, ?_, ?_, ?_, ?_⟩ <;> go_simp
          · unfold FreeO; refine ⟨?_, ?_, ?_, ?_, ?_, ?_⟩ <;> ((repeat (with_reducible refine OwnC.set ?_ _ _)); (with_reducible assumption))
      · have hp1 : (a + 8 == p) = false := by simpa using hp
        cases hd : d
        · subst hd
          have HST : Hid (freeStep p (f, t, false, la, ls, lm) (a, s', 1) = (f, t, false, a, s', 1)) := by unfold freeStep Hid; simp [hp]
          gi_wp2_with fail
          refine wpIn_region_freeL (open_round lp) (by kernel_rfl) (by kernel_rfl) (fun L w' => Below w1.heap.size W w' ∧ Rnd W0.heap.size W w' ∧ w'.cell? ⟨w.heap.size, 0, none⟩ = some (.int .i64 p) ∧ w'.cell? ⟨Bx, 0, none⟩ = some (.int .i64 a) ∧ w'.cell? ⟨Bx, 1, none⟩ = some (.int .i64 s') ∧ w'.cell? ⟨Bx, 2, none⟩ = some (.int .i64 1) ∧ w'.cell? ⟨w1.heap.size + 4, 0, none⟩ = some (.slice (some ⟨b, 0, none⟩) l.length l.length) ∧ w'.cell? ⟨w1.heap.size, 0, none⟩ = some (.int .i64 f) ∧ w'.cell? ⟨w1.heap.size + 1, 0, none⟩ = some (.int .i64 t) ∧ w'.cell? ⟨w1.heap.size + 2, 0, none⟩ = some (.bool false) ∧ w'.cell? ⟨w1.heap.size + 3, 0, none⟩ = some (.int .i64 la) ∧ w'.cell? ⟨w1.heap.size + 3, 1, none⟩ = some (.int .i64 ls) ∧ w'.cell? ⟨w1.heap.size + 3, 2, none⟩ = some (.int .i64 lm) ∧ OwnC w' ⟨w1.heap.size, 0, none⟩ ∧ OwnC w' ⟨w1.heap.size + 1, 0, none⟩ ∧ OwnC w' ⟨w1.heap.size + 2, 0, none⟩ ∧ OwnC w' ⟨w1.heap.size + 3, 0, none⟩ ∧ OwnC w' ⟨w1.heap.size + 3, 1, none⟩ ∧ OwnC w' ⟨w1.heap.size + 3, 2, none⟩) ⟨(hbb).drew, ((Rnd.refl W0.heap.size W)).drew, d0, q0, q1, q2, hcr, qf, qt, qd, qa, qs, qm, of, ot, od, oa, os, om⟩ ?_
          refine wpFreeL_val rfl (fun _ _ _ h => h) (fun K hK => ?_); apply Exists.intro; refine ⟨fun L w' hS => ?_, ?_⟩; (have hb := hS.1; have hr := hS.2.1; have g0 := hS.2.2.1; have g1 := hS.2.2.2.1; have g2 := hS.2.2.2.2.1; have g3 := hS.2.2.2.2.2.1; have g4 := hS.2.2.2.2.2.2.1; have g5 := hS.2.2.2.2.2.2.2.1; have g6 := hS.2.2.2.2.2.2.2.2.1; have g7 := hS.2.2.2.2.2.2.2.2.2.1; have g8 := hS.2.2.2.2.2.2.2.2.2.2.1; have g9 := hS.2.2.2.2.2.2.2.2.2.2.2.1; have g10 := hS.2.2.2.2.2.2.2.2.2.2.2.2.1; have o0 := hS.2.2.2.2.2.2.2.2.2.2.2.2.2.1; have o1 := hS.2.2.2.2.2.2.2.2.2.2.2.2.2.2.1; have o2 := hS.2.2.2.2.2.2.2.2.2.2.2.2.2.2.2.1; have o3 := hS.2.2.2.2.2.2.2.2.2.2.2.2.2.2.2.2.1; have o4 := hS.2.2.2.2.2.2.2.2.2.2.2.2.2.2.2.2.2.1; have o5 := hS.2.2.2.2.2.2.2.2.2.2.2.2.2.2.2.2.2.2; clear hS; go_simp; rfl); (go_simp; refine hK _ ?_; clear hK K)
          refine wpFreeL_val rfl (fun _ _ _ h => h) (fun K hK => ?_); apply Exists.intro; refine ⟨fun L w' hS => ?_, ?_⟩; (have hb := hS.1; have hr := hS.2.1; have g0 := hS.2.2.1; have g1 := hS.2.2.2.1; have g2 := hS.2.2.2.2.1; have g3 := hS.2.2.2.2.2.1; have g4 := hS.2.2.2.2.2.2.1; have g5 := hS.2.2.2.2.2.2.2.1; have g6 := hS.2.2.2.2.2.2.2.2.1; have g7 := hS.2.2.2.2.2.2.2.2.2.1; have g8 := hS.2.2.2.2.2.2.2.2.2.2.1; have g9 := hS.2.2.2.2.2.2.2.2.2.2.2.1; have g10 := hS.2.2.2.2.2.2.2.2.2.2.2.2.1; have o0 := hS.2.2.2.2.2.2.2.2.2.2.2.2.2.1; have o1 := hS.2.2.2.2.2.2.2.2.2.2.2.2.2.2.1; have o2 := hS.2.2.2.2.2.2.2.2.2.2.2.2.2.2.2.1; have o3 := hS.2.2.2.2.2.2.2.2.2.2.2.2.2.2.2.2.1; have o4 := hS.2.2.2.2.2.2.2.2.2.2.2.2.2.2.2.2.2.1; have o5 := hS.2.2.2.2.2.2.2.2.2.2.2.2.2.2.2.2.2.2; clear hS; go_simp; rfl); (go_simp; refine hK _ ?_; clear hK K)
          refine wpFreeL_val rfl (fun _ _ _ h => h) (fun K hK => ?_); apply Exists.intro; refine ⟨fun L w' hS => ?_, ?_⟩; (have hb := hS.1; have hr := hS.2.1; have g0 := hS.2.2.1; have g1 := hS.2.2.2.1; have g2 := hS.2.2.2.2.1; have g3 := hS.2.2.2.2.2.1; have g4 := hS.2.2.2.2.2.2.1; have g5 := hS.2.2.2.2.2.2.2.1; have g6 := hS.2.2.2.2.2.2.2.2.1; have g7 := hS.2.2.2.2.2.2.2.2.2.1; have g8 := hS.2.2.2.2.2.2.2.2.2.2.1; have g9 := hS.2.2.2.2.2.2.2.2.2.2.2.1; have g10 := hS.2.2.2.2.2.2.2.2.2.2.2.2.1; have o0 := hS.2.2.2.2.2.2.2.2.2.2.2.2.2.1; have o1 := hS.2.2.2.2.2.2.2.2.2.2.2.2.2.2.1; have o2 := hS.2.2.2.2.2.2.2.2.2.2.2.2.2.2.2.1; have o3 := hS.2.2.2.2.2.2.2.2.2.2.2.2.2.2.2.2.1; have o4 := hS.2.2.2.2.2.2.2.2.2.2.2.2.2.2.2.2.2.1; have o5 := hS.2.2.2.2.2.2.2.2.2.2.2.2.2.2.2.2.2.2; clear hS; go_simp; rfl); (go_simp; refine hK _ ?_; clear hK K)
          refine wpFreeL_val rfl (fun _ _ _ h => h) (fun K hK => ?_); apply Exists.intro; refine ⟨fun L w' hS => ?_, ?_⟩; (have hb := hS.1; have hr := hS.2.1; have g0 := hS.2.2.1; have g1 := hS.2.2.2.1; have g2 := hS.2.2.2.2.1; have g3 := hS.2.2.2.2.2.1; have g4 := hS.2.2.2.2.2.2.1; have g5 := hS.2.2.2.2.2.2.2.1; have g6 := hS.2.2.2.2.2.2.2.2.1; have g7 := hS.2.2.2.2.2.2.2.2.2.1; have g8 := hS.2.2.2.2.2.2.2.2.2.2.1; have g9 := hS.2.2.2.2.2.2.2.2.2.2.2.1; have g10 := hS.2.2.2.2.2.2.2.2.2.2.2.2.1; have o0 := hS.2.2.2.2.2.2.2.2.2.2.2.2.2.1; have o1 := hS.2.2.2.2.2.2.2.2.2.2.2.2.2.2.1; have o2 := hS.2.2.2.2.2.2.2.2.2.2.2.2.2.2.2.1; have o3 := hS.2.2.2.2.2.2.2.2.2.2.2.2.2.2.2.2.1; have o4 := hS.2.2.2.2.2.2.2.2.2.2.2.2.2.2.2.2.2.1; have o5 := hS.2.2.2.2.2.2.2.2.2.2.2.2.2.2.2.2.2.2; clear hS; go_simp; rfl); (go_simp; refine hK _ ?_; clear hK K)
          refine wpFreeL_val rfl (fun _ _ _ h => h) (fun K hK => ?_); apply Exists.intro; refine ⟨fun L w' hS => ?_, ?_⟩; (have hb := hS.1; have hr := hS.2.1; have g0 := hS.2.2.1; have g1 := hS.2.2.2.1; have g2 := hS.2.2.2.2.1; have g3 := hS.2.2.2.2.2.1; have g4 := hS.2.2.2.2.2.2.1; have g5 := hS.2.2.2.2.2.2.2.1; have g6 := hS.2.2.2.2.2.2.2.2.1; have g7 := hS.2.2.2.2.2.2.2.2.2.1; have g8 := hS.2.2.2.2.2.2.2.2.2.2.1; have g9 := hS.2.2.2.2.2.2.2.2.2.2.2.1; have g10 := hS.2.2.2.2.2.2.2.2.2.2.2.2.1; have o0 := hS.2.2.2.2.2.2.2.2.2.2.2.2.2.1; have o1 := hS.2.2.2.2.2.2.2.2.2.2.2.2.2.2.1; have o2 := hS.2.2.2.2.2.2.2.2.2.2.2.2.2.2.2.1; have o3 := hS.2.2.2.2.2.2.2.2.2.2.2.2.2.2.2.2.1; have o4 := hS.2.2.2.2.2.2.2.2.2.2.2.2.2.2.2.2.2.1; have o5 := hS.2.2.2.2.2.2.2.2.2.2.2.2.2.2.2.2.2.2; clear hS; go_simp; rfl); (go_simp; refine hK _ ?_; clear hK K)
          refine wpFreeL_gen rfl (fun K hK => ?_); apply Exists.intro; refine ⟨fun L w' hcl hL hdep hS => ?_, ?_⟩
          · have hb := hS.1; have hr := hS.2.1; have g0 := hS.2.2.1; have g1 := hS.2.2.2.1; have g2 := hS.2.2.2.2.1; have g3 := hS.2.2.2.2.2.1; have g4 := hS.2.2.2.2.2.2.1; have g5 := hS.2.2.2.2.2.2.2.1; have g6 := hS.2.2.2.2.2.2.2.2.1; have g7 := hS.2.2.2.2.2.2.2.2.2.1; have g8 := hS.2.2.2.2.2.2.2.2.2.2.1; have g9 := hS.2.2.2.2.2.2.2.2.2.2.2.1; have g10 := hS.2.2.2.2.2.2.2.2.2.2.2.2.1; have o0 := hS.2.2.2.2.2.2.2.2.2.2.2.2.2.1; have o1 := hS.2.2.2.2.2.2.2.2.2.2.2.2.2.2.1; have o2 := hS.2.2.2.2.2.2.2.2.2.2.2.2.2.2.2.1; have o3 := hS.2.2.2.2.2.2.2.2.2.2.2.2.2.2.2.2.1; have o4 := hS.2.2.2.2.2.2.2.2.2.2.2.2.2.2.2.2.2.1; have o5 := hS.2.2.2.2.2.2.2.2.2.2.2.2.2.2.2.2.2.2; go_simp; refine (piece_any a s' 1 _ (by omega) (by omega)).mono ?_; rintro e w1 ⟨rfl, hb1⟩; exact ⟨rfl, ⟨hb.trans (hb1.mono (by have := hb.size; omega)), hr.below hb1, keepc hb1 g0, keepc hb1 g1, keepc hb1 g2, keepc hb1 g3, keepc hb1 g4, keepc hb1 g5, keepc hb1 g6, keepc hb1 g7, keepc hb1 g8, keepc hb1 g9, keepc hb1 g10, keepOwn hb1 o0, keepOwn hb1 o1, keepOwn hb1 o2, keepOwn hb1 o3, keepOwn hb1 o4, keepOwn hb1 o5⟩⟩
          go_simp; refine hK _ ?_; clear hK K
          refine wpFreeL_val rfl (fun _ _ _ h => h) (fun K hK => ?_); apply Exists.intro; refine ⟨fun L w' hS => ?_, ?_⟩; (have hb := hS.1; have hr := hS.2.1; have g0 := hS.2.2.1; have g1 := hS.2.2.2.1; have g2 := hS.2.2.2.2.1; have g3 := hS.2.2.2.2.2.1; have g4 := hS.2.2.2.2.2.2.1; have g5 := hS.2.2.2.2.2.2.2.1; have g6 := hS.2.2.2.2.2.2.2.2.1; have g7 := hS.2.2.2.2.2.2.2.2.2.1; have g8 := hS.2.2.2.2.2.2.2.2.2.2.1; have g9 := hS.2.2.2.2.2.2.2.2.2.2.2.1; have g10 := hS.2.2.2.2.2.2.2.2.2.2.2.2.1; have o0 := hS.2.2.2.2.2.2.2.2.2.2.2.2.2.1; have o1 := hS.2.2.2.2.2.2.2.2.2.2.2.2.2.2.1; have o2 := hS.2.2.2.2.2.2.2.2.2.2.2.2.2.2.2.1; have o3 := hS.2.2.2.2.2.2.2.2.2.2.2.2.2.2.2.2.1; have o4 := hS.2.2.2.2.2.2.2.2.2.2.2.2.2.2.2.2.2.1; have o5 := hS.2.2.2.2.2.2.2.2.2.2.2.2.2.2.2.2.2.2; clear hS; go_simp; rfl); (go_simp; refine hK _ ?_; clear hK K)
          refine wpFreeL_val rfl (fun _ _ _ h => h) (fun K hK => ?_); apply Exists.intro; refine ⟨fun L w' hS => ?_, ?_⟩; (have hb := hS.1; have hr := hS.2.1; have g0 := hS.2.2.1; have g1 := hS.2.2.2.1; have g2 := hS.2.2.2.2.1; have g3 := hS.2.2.2.2.2.1; have g4 := hS.2.2.2.2.2.2.1; have g5 := hS.2.2.2.2.2.2.2.1; have g6 := hS.2.2.2.2.2.2.2.2.1; have g7 := hS.2.2.2.2.2.2.2.2.2.1; have g8 := hS.2.2.2.2.2.2.2.2.2.2.1; have g9 := hS.2.2.2.2.2.2.2.2.2.2.2.1; have g10 := hS.2.2.2.2.2.2.2.2.2.2.2.2.1; have o0 := hS.2.2.2.2.2.2.2.2.2.2.2.2.2.1; have o1 := hS.2.2.2.2.2.2.2.2.2.2.2.2.2.2.1; have o2 := hS.2.2.2.2.2.2.2.2.2.2.2.2.2.2.2.1; have o3 := hS.2.2.2.2.2.2.2.2.2.2.2.2.2.2.2.2.1; have o4 := hS.2.2.2.2.2.2.2.2.2.2.2.2.2.2.2.2.2.1; have o5 := hS.2.2.2.2.2.2.2.2.2.2.2.2.2.2.2.2.2.2; clear hS; go_simp; rfl); (go_simp; refine hK _ ?_; clear hK K)
          refine wpFreeL_val rfl (fun _ _ _ h => h) (fun K hK => ?_); apply Exists.intro; refine ⟨fun L w' hS => ?_, ?_⟩; (have hb := hS.1; have hr := hS.2.1; have g0 := hS.2.2.1; have g1 := hS.2.2.2.1; have g2 := hS.2.2.2.2.1; have g3 := hS.2.2.2.2.2.1; have g4 := hS.2.2.2.2.2.2.1; have g5 := hS.2.2.2.2.2.2.2.1; have g6 := hS.2.2.2.2.2.2.2.2.1; have g7 := hS.2.2.2.2.2.2.2.2.2.1; have g8 := hS.2.2.2.2.2.2.2.2.2.2.1; have g9 := hS.2.2.2.2.2.2.2.2.2.2.2.1; have g10 := hS.2.2.2.2.2.2.2.2.2.2.2.2.1; have o0 := hS.2.2.2.2.2.2.2.2.2.2.2.2.2.1; have o1 := hS.2.2.2.2.2.2.2.2.2.2.2.2.2.2.1; have o2 := hS.2.2.2.2.2.2.2.2.2.2.2.2.2.2.2.1; have o3 := hS.2.2.2.2.2.2.2.2.2.2.2.2.2.2.2.2.1; have o4 := hS.2.2.2.2.2.2.2.2.2.2.2.2.2.2.2.2.2.1; have o5 := hS.2.2.2.2.2.2.2.2.2.2.2.2.2.2.2.2.2.2; clear hS; go_simp; rfl); (go_simp; refine hK _ ?_; clear hK K)
          refine wpFreeL_val rfl (fun _ _ _ h => h) (fun K hK => ?_); apply Exists.intro; refine ⟨fun L w' hS => ?_, ?_⟩; (have hb := hS.1; have hr := hS.2.1; have g0 := hS.2.2.1; have g1 := hS.2.2.2.1; have g2 := hS.2.2.2.2.1; have g3 := hS.2.2.2.2.2.1; have g4 := hS.2.2.2.2.2.2.1; have g5 := hS.2.2.2.2.2.2.2.1; have g6 := hS.2.2.2.2.2.2.2.2.1; have g7 := hS.2.2.2.2.2.2.2.2.2.1; have g8 := hS.2.2.2.2.2.2.2.2.2.2.1; have g9 := hS.2.2.2.2.2.2.2.2.2.2.2.1; have g10 := hS.2.2.2.2.2.2.2.2.2.2.2.2.1; have o0 := hS.2.2.2.2.2.2.2.2.2.2.2.2.2.1; have o1 := hS.2.2.2.2.2.2.2.2.2.2.2.2.2.2.1; have o2 := hS.2.2.2.2.2.2.2.2.2.2.2.2.2.2.2.1; have o3 := hS.2.2.2.2.2.2.2.2.2.2.2.2.2.2.2.2.1; have o4 := hS.2.2.2.2.2.2.2.2.2.2.2.2.2.2.2.2.2.1; have o5 := hS.2.2.2.2.2.2.2.2.2.2.2.2.2.2.2.2.2.2; clear hS; go_simp; rfl); (go_simp; refine hK _ ?_; clear hK K)
          refine wpFreeL_val rfl (fun _ _ _ h => h) (fun K hK => ?_); apply Exists.intro; refine ⟨fun L w' hS => ?_, ?_⟩; (have hb := hS.1; have hr := hS.2.1; have g0 := hS.2.2.1; have g1 := hS.2.2.2.1; have g2 := hS.2.2.2.2.1; have g3 := hS.2.2.2.2.2.1; have g4 := hS.2.2.2.2.2.2.1; have g5 := hS.2.2.2.2.2.2.2.1; have g6 := hS.2.2.2.2.2.2.2.2.1; have g7 := hS.2.2.2.2.2.2.2.2.2.1; have g8 := hS.2.2.2.2.2.2.2.2.2.2.1; have g9 := hS.2.2.2.2.2.2.2.2.2.2.2.1; have g10 := hS.2.2.2.2.2.2.2.2.2.2.2.2.1; have o0 := hS.2.2.2.2.2.2.2.2.2.2.2.2.2.1; have o1 := hS.2.2.2.2.2.2.2.2.2.2.2.2.2.2.1; have o2 := hS.2.2.2.2.2.2.2.2.2.2.2.2.2.2.2.1; have o3 := hS.2.2.2.2.2.2.2.2.2.2.2.2.2.2.2.2.1; have o4 := hS.2.2.2.2.2.2.2.2.2.2.2.2.2.2.2.2.2.1; have o5 := hS.2.2.2.2.2.2.2.2.2.2.2.2.2.2.2.2.2.2; clear hS; go_simp; rfl); (go_simp; refine hK _ ?_; clear hK K)
          refine wpFreeL_nil (fun L w' hL hS => ?_)
          have hb := hS.1; have hr := hS.2.1; have g0 := hS.2.2.1; have g1 := hS.2.2.2.1; have g2 := hS.2.2.2.2.1; have g3 := hS.2.2.2.2.2.1; have g4 := hS.2.2.2.2.2.2.1; have g5 := hS.2.2.2.2.2.2.2.1; have g6 := hS.2.2.2.2.2.2.2.2.1; have g7 := hS.2.2.2.2.2.2.2.2.2.1; have g8 := hS.2.2.2.2.2.2.2.2.2.2.1; have g9 := hS.2.2.2.2.2.2.2.2.2.2.2.1; have g10 := hS.2.2.2.2.2.2.2.2.2.2.2.2.1; have o0 := hS.2.2.2.2.2.2.2.2.2.2.2.2.2.1; have o1 := hS.2.2.2.2.2.2.2.2.2.2.2.2.2.2.1; have o2 := hS.2.2.2.2.2.2.2.2.2.2.2.2.2.2.2.1; have o3 := hS.2.2.2.2.2.2.2.2.2.2.2.2.2.2.2.2.1; have o4 := hS.2.2.2.2.2.2.2.2.2.2.2.2.2.2.2.2.2.1; have o5 := hS.2.2.2.2.2.2.2.2.2.2.2.2.2.2.2.2.2.2
          clear hL hS
          have d0 := g0; have q0 := g1; have q1 := g2; have q2 := g3; have hcr := g4; have qf := g5; have qt := g6; have qd := g7; have qa := g8; have qs := g9; have qm := g10; have of := o0; have ot := o1; have od := o2; have oa := o3; have os := o4; have om := o5
          have hlt0 : Bx < w'.heap.size := World.block_lt_of_cell? _ _ q0
          have hltr : w1.heap.size + 4 < w'.heap.size := World.block_lt_of_cell? _ _ hcr
          have hlz : w.heap.size < w'.heap.size := World.block_lt_of_cell? _ _ d0
          have hlr0 : w1.heap.size < w'.heap.size := by omega
          have hlr1 : w1.heap.size + 1 < w'.heap.size := by omega
          have hlr2 : w1.heap.size + 2 < w'.heap.size := by omega
          have hlr3 : w1.heap.size + 3 < w'.heap.size := by omega
          have kf := of.2; have kt := ot.2; have kd := od.2; have ka := oa.2; have ks := os.2; have km := om.2
          have HB8 := hid hb; clear hb; have HR8 := hid hr; clear hr
          clear g0 g1 g2 g3 g4 g5 g6 g7 g8 g9 g10 o0 o1 o2 o3 o4 o5
          gi_wp2_with fail
          clear kf kt kd ka ks km
          refine HF.out _ ?_ ?_ ?_ ?_ ?_
          · repeat (first | (with_reducible exact HR8.out) | refine Rnd.setCell ?_ (.inl (by dsimp only; omega)) _)
          · clear of ot od oa os om; repeat (first | exact HB8.out | refine Below.alloc ?_ (by simp [World.setCell]; try omega) _ | refine Below.setCell ?_ (by dsimp only; omega) _)
          · go_simp
          · rw [HST.out]; unfold FreeF; refine ⟨?_, ?_, ?_, ?_, ?_, ?_⟩ <;> go_simp
          · unfold FreeO; refine ⟨?_, ?_, ?_, ?_, ?_, ?_⟩ <;> ((repeat (with_reducible refine OwnC.set ?_ _ _)); (with_reducible assumption))
        · subst hd
          have HST : Hid (freeStep p (f, t, true, la, ls, lm) (a, s', 1) = (f, t, true, a, s', 1)) := by unfold freeStep Hid; simp [hp]
          gi_wp2_with fail
          refine wpIn_region_freeL (open_round lp) (by kernel_rfl) (by kernel_rfl) (fun L w' => Below w1.heap.size W w' ∧ Rnd W0.heap.size W w' ∧ w'.cell? ⟨w.heap.size, 0, none⟩ = some (.int .i64 p) ∧ w'.cell? ⟨Bx, 0, none⟩ = some (.int .i64 a) ∧ w'.cell? ⟨Bx, 1, none⟩ = some (.int .i64 s') ∧ w'.cell? ⟨Bx, 2, none⟩ = some (.int .i64 1) ∧ w'.cell? ⟨w1.heap.size + 4, 0, none⟩ = some (.slice (some ⟨b, 0, none⟩) l.length l.length) ∧ w'.cell? ⟨w1.heap.size, 0, none⟩ = some (.int .i64 f) ∧ w'.cell? ⟨w1.heap.size + 1, 0, none⟩ = some (.int .i64 t) ∧ w'.cell? ⟨w1.heap.size + 2, 0, none⟩ = some (.bool true) ∧ w'.cell? ⟨w1.heap.size + 3, 0, none⟩ = some (.int .i64 la) ∧ w'.cell? ⟨w1.heap.size + 3, 1, none⟩ = some (.int .i64 ls) ∧ w'.cell? ⟨w1.heap.size + 3, 2, none⟩ = some (.int .i64 lm) ∧ OwnC w' ⟨w1.heap.size, 0, none⟩ ∧ OwnC w' ⟨w1.heap.size + 1, 0, none⟩ ∧ OwnC w' ⟨w1.heap.size + 2, 0, none⟩ ∧ OwnC w' ⟨w1.heap.size + 3, 0, none⟩ ∧ OwnC w' ⟨w1.heap.size + 3, 1, none⟩ ∧ OwnC w' ⟨w1.heap.size + 3, 2, none⟩) ⟨(hbb).drew, ((Rnd.refl W0.heap.size W)).drew, d0, q0, q1, q2, hcr, qf, qt, qd, qa, qs, qm, of, ot, od, oa, os, om⟩ ?_
          refine wpFreeL_val rfl (fun _ _ _ h => h) (fun K hK => ?_); apply Exists.intro; refine ⟨fun L w' hS => ?_, ?_⟩; (have hb := hS.1; have hr := hS.2.1; have g0 := hS.2.2.1; have g1 := hS.2.2.2.1; have g2 := hS.2.2.2.2.1; have g3 := hS.2.2.2.2.2.1; have g4 := hS.2.2.2.2.2.2.1; have g5 := hS.2.2.2.2.2.2.2.1; have g6 := hS.2.2.2.2.2.2.2.2.1; have g7 := hS.2.2.2.2.2.2.2.2.2.1; have g8 := hS.2.2.2.2.2.2.2.2.2.2.1; have g9 := hS.2.2.2.2.2.2.2.2.2.2.2.1; have g10 := hS.2.2.2.2.2.2.2.2.2.2.2.2.1; have o0 := hS.2.2.2.2.2.2.2.2.2.2.2.2.2.1; have o1 := hS.2.2.2.2.2.2.2.2.2.2.2.2.2.2.1; have o2 := hS.2.2.2.2.2.2.2.2.2.2.2.2.2.2.2.1; have o3 := hS.2.2.2.2.2.2.2.2.2.2.2.2.2.2.2.2.1; have o4 := hS.2.2.2.2.2.2.2.2.2.2.2.2.2.2.2.2.2.1; have o5 := hS.2.2.2.2.2.2.2.2.2.2.2.2.2.2.2.2.2.2; clear hS; go_simp; rfl); (go_simp; refine hK _ ?_; clear hK K)
          refine wpFreeL_val rfl (fun _ _ _ h => h) (fun K hK => ?_); apply Exists.intro; refine ⟨fun L w' hS => ?_, ?_⟩; (have hb := hS.1; have hr := hS.2.1; have g0 := hS.2.2.1; have g1 := hS.2.2.2.1; have g2 := hS.2.2.2.2.1; have g3 := hS.2.2.2.2.2.1; have g4 := hS.2.2.2.2.2.2.1; have g5 := hS.2.2.2.2.2.2.2.1; have g6 := hS.2.2.2.2.2.2.2.2.1; have g7 := hS.2.2.2.2.2.2.2.2.2.1; have g8 := hS.2.2.2.2.2.2.2.2.2.2.1; have g9 := hS.2.2.2.2.2.2.2.2.2.2.2.1; have g10 := hS.2.2.2.2.2.2.2.2.2.2.2.2.1; have o0 := hS.2.2.2.2.2.2.2.2.2.2.2.2.2.1; have o1 := hS.2.2.2.2.2.2.2.2.2.2.2.2.2.2.1; have o2 := hS.2.2.2.2.2.2.2.2.2.2.2.2.2.2.2.1; have o3 := hS.2.2.2.2.2.2.2.2.2.2.2.2.2.2.2.2.1; have o4 := hS.2.2.2.2.2.2.2.2.2.2.2.2.2.2.2.2.2.1; have o5 := hS.2.2.2.2.2.2.2.2.2.2.2.2.2.2.2.2.2.2; clear hS; go_simp; rfl); (go_simp; refine hK _ ?_; clear hK K)
          refine wpFreeL_val rfl (fun _ _ _ h => h) (fun K hK => ?_); apply Exists.intro; refine ⟨fun L w' hS => ?_, ?_⟩; (have hb := hS.1; have hr := hS.2.1; have g0 := hS.2.2.1; have g1 := hS.2.2.2.1; have g2 := hS.2.2.2.2.1; have g3 := hS.2.2.2.2.2.1; have g4 := hS.2.2.2.2.2.2.1; have g5 := hS.2.2.2.2.2.2.2.1; have g6 := hS.2.2.2.2.2.2.2.2.1; have g7 := hS.2.2.2.2.2.2.2.2.2.1; have g8 := hS.2.2.2.2.2.2.2.2.2.2.1; have g9 := hS.2.2.2.2.2.2.2.2.2.2.2.1; have g10 := hS.2.2.2.2.2.2.2.2.2.2.2.2.1; have o0 := hS.2.2.2.2.2.2.2.2.2.2.2.2.2.1; have o1 := hS.2.2.2.2.2.2.2.2.2.2.2.2.2.2.1; have o2 := hS.2.2.2.2.2.2.2.2.2.2.2.2.2.2.2.1; have o3 := hS.2.2.2.2.2.2.2.2.2.2.2.2.2.2.2.2.1; have o4 := hS.2.2.2.2.2.2.2.2.2.2.2.2.2.2.2.2.2.1; have o5 := hS.2.2.2.2.2.2.2.2.2.2.2.2.2.2.2.2.2.2; clear hS; go_simp; rfl); (go_simp; refine hK _ ?_; clear hK K)
          refine wpFreeL_val rfl (fun _ _ _ h => h) (fun K hK => ?_); apply Exists.intro; refine ⟨fun L w' hS => ?_, ?_⟩; (have hb := hS.1; have hr := hS.2.1; have g0 := hS.2.2.1; have g1 := hS.2.2.2.1; have g2 := hS.2.2.2.2.1; have g3 := hS.2.2.2.2.2.1; have g4 := hS.2.2.2.2.2.2.1; have g5 := hS.2.2.2.2.2.2.2.1; have g6 := hS.2.2.2.2.2.2.2.2.1; have g7 := hS.2.2.2.2.2.2.2.2.2.1; have g8 := hS.2.2.2.2.2.2.2.2.2.2.1; have g9 := hS.2.2.2.2.2.2.2.2.2.2.2.1; have g10 := hS.2.2.2.2.2.2.2.2.2.2.2.2.1; have o0 := hS.2.2.2.2.2.2.2.2.2.2.2.2.2.1; have o1 := hS.2.2.2.2.2.2.2.2.2.2.2.2.2.2.1; have o2 := hS.2.2.2.2.2.2.2.2.2.2.2.2.2.2.2.1; have o3 := hS.2.2.2.2.2.2.2.2.2.2.2.2.2.2.2.2.1; have o4 := hS.2.2.2.2.2.2.2.2.2.2.2.2.2.2.2.2.2.1; have o5 := hS.2.2.2.2.2.2.2.2.2.2.2.2.2.2.2.2.2.2; clear hS; go_simp; rfl); (go_simp; refine hK _ ?_; clear hK K)
          refine wpFreeL_val rfl (fun _ _ _ h => h) (fun K hK => ?_); apply Exists.intro; refine ⟨fun L w' hS => ?_, ?_⟩; (have hb := hS.1; have hr := hS.2.1; have g0 := hS.2.2.1; have g1 := hS.2.2.2.1; have g2 := hS.2.2.2.2.1; have g3 := hS.2.2.2.2.2.1; have g4 := hS.2.2.2.2.2.2.1; have g5 := hS.2.2.2.2.2.2.2.1; have g6 := hS.2.2.2.2.2.2.2.2.1; have g7 := hS.2.2.2.2.2.2.2.2.2.1; have g8 := hS.2.2.2.2.2.2.2.2.2.2.1; have g9 := hS.2.2.2.2.2.2.2.2.2.2.2.1; have g10 := hS.2.2.2.2.2.2.2.2.2.2.2.2.1; have o0 := hS.2.2.2.2.2.2.2.2.2.2.2.2.2.1; have o1 := hS.2.2.2.2.2.2.2.2.2.2.2.2.2.2.1; have o2 := hS.2.2.2.2.2.2.2.2.2.2.2.2.2.2.2.1; have o3 := hS.2.2.2.2.2.2.2.2.2.2.2.2.2.2.2.2.1; have o4 := hS.2.2.2.2.2.2.2.2.2.2.2.2.2.2.2.2.2.1; have o5 := hS.2.2.2.2.2.2.2.2.2.2.2.2.2.2.2.2.2.2; clear hS; go_simp; rfl); (go_simp; refine hK _ ?_; clear hK K)
          refine wpFreeL_gen rfl (fun K hK => ?_); apply Exists.intro; refine ⟨fun L w' hcl hL hdep hS => ?_, ?_⟩
          · have hb := hS.1; have hr := hS.2.1; have g0 := hS.2.2.1; have g1 := hS.2.2.2.1; have g2 := hS.2.2.2.2.1; have g3 := hS.2.2.2.2.2.1; have g4 := hS.2.2.2.2.2.2.1; have g5 := hS.2.2.2.2.2.2.2.1; have g6 := hS.2.2.2.2.2.2.2.2.1; have g7 := hS.2.2.2.2.2.2.2.2.2.1; have g8 := hS.2.2.2.2.2.2.2.2.2.2.1; have g9 := hS.2.2.2.2.2.2.2.2.2.2.2.1; have g10 := hS.2.2.2.2.2.2.2.2.2.2.2.2.1; have o0 := hS.2.2.2.2.2.2.2.2.2.2.2.2.2.1; have o1 := hS.2.2.2.2.2.2.2.2.2.2.2.2.2.2.1; have o2 := hS.2.2.2.2.2.2.2.2.2.2.2.2.2.2.2.1; have o3 := hS.2.2.2.2.2.2.2.2.2.2.2.2.2.2.2.2.1; have o4 := hS.2.2.2.2.2.2.2.2.2.2.2.2.2.2.2.2.2.1; have o5 := hS.2.2.2.2.2.2.2.2.2.2.2.2.2.2.2.2.2.2; go_simp; refine (piece_any a s' 1 _ (by omega) (by omega)).mono ?_; rintro e w1 ⟨rfl, hb1⟩; exact ⟨rfl, ⟨hb.trans (hb1.mono (by have := hb.size; omega)), hr.below hb1, keepc hb1 g0, keepc hb1 g1, keepc hb1 g2, keepc hb1 g3, keepc hb1 g4, keepc hb1 g5, keepc hb1 g6, keepc hb1 g7, keepc hb1 g8, keepc hb1 g9, keepc hb1 g10, keepOwn hb1 o0, keepOwn hb1 o1, keepOwn hb1 o2, keepOwn hb1 o3, keepOwn hb1 o4, keepOwn hb1 o5⟩⟩
          go_simp; refine hK _ ?_; clear hK K
          refine wpFreeL_val rfl (fun _ _ _ h => h) (fun K hK => ?_); apply Exists.intro; refine ⟨fun L w' hS => ?_, ?_⟩; (have hb := hS.1; have hr := hS.2.1; have g0 := hS.2.2.1; have g1 := hS.2.2.2.1; have g2 := hS.2.2.2.2.1; have g3 := hS.2.2.2.2.2.1; have g4 := hS.2.2.2.2.2.2.1; have g5 := hS.2.2.2.2.2.2.2.1; have g6 := hS.2.2.2.2.2.2.2.2.1; have g7 := hS.2.2.2.2.2.2.2.2.2.1; have g8 := hS.2.2.2.2.2.2.2.2.2.2.1; have g9 := hS.2.2.2.2.2.2.2.2.2.2.2.1; have g10 := hS.2.2.2.2.2.2.2.2.2.2.2.2.1; have o0 := hS.2.2.2.2.2.2.2.2.2.2.2.2.2.1; have o1 := hS.2.2.2.2.2.2.2.2.2.2.2.2.2.2.1; have o2 := hS.2.2.2.2.2.2.2.2.2.2.2.2.2.2.2.1; have o3 := hS.2.2.2.2.2.2.2.2.2.2.2.2.2.2.2.2.1; have o4 := hS.2.2.2.2.2.2.2.2.2.2.2.2.2.2.2.2.2.1; have o5 := hS.2.2.2.2.2.2.2.2.2.2.2.2.2.2.2.2.2.2; clear hS; go_simp; rfl); (go_simp; refine hK _ ?_; clear hK K)
          refine wpFreeL_val rfl (fun _ _ _ h => h) (fun K hK => ?_); apply Exists.intro; refine ⟨fun L w' hS => ?_, ?_⟩; (have hb := hS.1; have hr := hS.2.1; have g0 := hS.2.2.1; have g1 := hS.2.2.2.1; have g2 := hS.2.2.2.2.1; have g3 := hS.2.2.2.2.2.1; have g4 := hS.2.2.2.2.2.2.1; have g5 := hS.2.2.2.2.2.2.2.1; have g6 := hS.2.2.2.2.2.2.2.2.1; have g7 := hS.2.2.2.2.2.2.2.2.2.1; have g8 := hS.2.2.2.2.2.2.2.2.2.2.1; have g9 := hS.2.2.2.2.2.2.2.2.2.2.2.1; have g10 := hS.2.2.2.2.2.2.2.2.2.2.2.2.1; have o0 := hS.2.2.2.2.2.2.2.2.2.2.2.2.2.1; have o1 := hS.2.2.2.2.2.2.2.2.2.2.2.2.2.2.1; have o2 := hS.2.2.2.2.2.2.2.2.2.2.2.2.2.2.2.1; have o3 := hS.2.2.2.2.2.2.2.2.2.2.2.2.2.2.2.2.1; have o4 := hS.2.2.2.2.2.2.2.2.2.2.2.2.2.2.2.2.2.1; have o5 := hS.2.2.2.2.2.2.2.2.2.2.2.2.2.2.2.2.2.2; clear hS; go_simp; rfl); (go_simp; refine hK _ ?_; clear hK K)
          refine wpFreeL_val rfl (fun _ _ _ h => h) (fun K hK => ?_); apply Exists.intro; refine ⟨fun L w' hS => ?_, ?_⟩; (have hb := hS.1; have hr := hS.2.1; have g0 := hS.2.2.1; have g1 := hS.2.2.2.1; have g2 := hS.2.2.2.2.1; have g3 := hS.2.2.2.2.2.1; have g4 := hS.2.2.2.2.2.2.1; have g5 := hS.2.2.2.2.2.2.2.1; have g6 := hS.2.2.2.2.2.2.2.2.1; have g7 := hS.2.2.2.2.2.2.2.2.2.1; have g8 := hS.2.2.2.2.2.2.2.2.2.2.1; have g9 := hS.2.2.2.2.2.2.2.2.2.2.2.1; have g10 := hS.2.2.2.2.2.2.2.2.2.2.2.2.1; have o0 := hS.2.2.2.2.2.2.2.2.2.2.2.2.2.1; have o1 := hS.2.2.2.2.2.2.2.2.2.2.2.2.2.2.1; have o2 := hS.2.2.2.2.2.2.2.2.2.2.2.2.2.2.2.1; have o3 := hS.2.2.2.2.2.2.2.2.2.2.2.2.2.2.2.2.1; have o4 := hS.2.2.2.2.2.2.2.2.2.2.2.2.2.2.2.2.2.1; have o5 := hS.2.2.2.2.2.2.2.2.2.2.2.2.2.2.2.2.2.2; clear hS; go_simp; rfl); (go_simp; refine hK _ ?_; clear hK K)
          refine wpFreeL_val rfl (fun _ _ _ h => h) (fun K hK => ?_); apply Exists.intro; refine ⟨fun L w' hS => ?_, ?_⟩; (have hb := hS.1; have hr := hS.2.1; have g0 := hS.2.2.1; have g1 := hS.2.2.2.1; have g2 := hS.2.2.2.2.1; have g3 := hS.2.2.2.2.2.1; have g4 := hS.2.2.2.2.2.2.1; have g5 := hS.2.2.2.2.2.2.2.1; have g6 := hS.2.2.2.2.2.2.2.2.1; have g7 := hS.2.2.2.2.2.2.2.2.2.1; have g8 := hS.2.2.2.2.2.2.2.2.2.2.1; have g9 := hS.2.2.2.2.2.2.2.2.2.2.2.1; have g10 := hS.2.2.2.2.2.2.2.2.2.2.2.2.1; have o0 := hS.2.2.2.2.2.2.2.2.2.2.2.2.2.1; have o1 := hS.2.2.2.2.2.2.2.2.2.2.2.2.2.2.1; have o2 := hS.2.2.2.2.2.2.2.2.2.2.2.2.2.2.2.1; have o3 := hS.2.2.2.2.2.2.2.2.2.2.2.2.2.2.2.2.1; have o4 := hS.2.2.2.2.2.2.2.2.2.2.2.2.2.2.2.2.2.1; have o5 := hS.2.2.2.2.2.2.2.2.2.2.2.2.2.2.2.2.2.2; clear hS; go_simp; rfl); (go_simp; refine hK _ ?_; clear hK K)
          refine wpFreeL_val rfl (fun _ _ _ h => h) (fun K hK => ?_); apply Exists.intro; refine ⟨fun L w' hS => ?_, ?_⟩; (have hb := hS.1; have hr := hS.2.1; have g0 := hS.2.2.1; have g1 := hS.2.2.2.1; have g2 := hS.2.2.2.2.1; have g3 := hS.2.2.2.2.2.1; have g4 := hS.2.2.2.2.2.2.1; have g5 := hS.2.2.2.2.2.2.2.1; have g6 := hS.2.2.2.2.2.2.2.2.1; have g7 := hS.2.2.2.2.2.2.2.2.2.1; have g8 := hS.2.2.2.2.2.2.2.2.2.2.1; have g9 := hS.2.2.2.2.2.2.2.2.2.2.2.1; have g10 := hS.2.2.2.2.2.2.2.2.2.2.2.2.1; have o0 := hS.2.2.2.2.2.2.2.2.2.2.2.2.2.1; have o1 := hS.2.2.2.2.2.2.2.2.2.2.2.2.2.2.1; have o2 := hS.2.2.2.2.2.2.2.2.2.2.2.2.2.2.2.1; have o3 := hS.2.2.2.2.2.2.2.2.2.2.2.2.2.2.2.2.1; have o4 := hS.2.2.2.2.2.2.2.2.2.2.2.2.2.2.2.2.2.1; have o5 := hS.2.2.2.2.2.2.2.2.2.2.2.2.2.2.2.2.2.2; clear hS; go_simp; rfl); (go_simp; refine hK _ ?_; clear hK K)
          refine wpFreeL_nil (fun L w' hL hS => ?_)
          have hb := hS.1; have hr := hS.2.1; have g0 := hS.2.2.1; have g1 := hS.2.2.2.1; have g2 := hS.2.2.2.2.1; have g3 := hS.2.2.2.2.2.1; have g4 := hS.2.2.2.2.2.2.1; have g5 := hS.2.2.2.2.2.2.2.1; have g6 := hS.2.2.2.2.2.2.2.2.1; have g7 := hS.2.2.2.2.2.2.2.2.2.1; have g8 := hS.2.2.2.2.2.2.2.2.2.2.1; have g9 := hS.2.2.2.2.2.2.2.2.2.2.2.1; have g10 := hS.2.2.2.2.2.2.2.2.2.2.2.2.1; have o0 := hS.2.2.2.2.2.2.2.2.2.2.2.2.2.1; have o1 := hS.2.2.2.2.2.2.2.2.2.2.2.2.2.2.1; have o2 := hS.2.2.2.2.2.2.2.2.2.2.2.2.2.2.2.1; have o3 := hS.2.2.2.2.2.2.2.2.2.2.2.2.2.2.2.2.1; have o4 := hS.2.2.2.2.2.2.2.2.2.2.2.2.2.2.2.2.2.1; have o5 := hS.2.2.2.2.2.2.2.2.2.2.2.2.2.2.2.2.2.2
          clear hL hS
          have d0 := g0; have q0 := g1; have q1 := g2; have q2 := g3; have hcr := g4; have qf := g5; have qt := g6; have qd := g7; have qa := g8; have qs := g9; have qm := g10; have of := o0; have ot := o1; have od := o2; have oa := o3; have os := o4; have om := o5
          have hlt0 : Bx < w'.heap.size := World.block_lt_of_cell? _ _ q0
          have hltr : w1.heap.size + 4 < w'.heap.size := World.block_lt_of_cell? _ _ hcr
          have hlz : w.heap.size < w'.heap.size := World.block_lt_of_cell? _ _ d0
          have hlr0 : w1.heap.size < w'.heap.size := by omega
          have hlr1 : w1.heap.size + 1 < w'.heap.size := by omega
          have hlr2 : w1.heap.size + 2 < w'.heap.size := by omega
          have hlr3 : w1.heap.size + 3 < w'.heap.size := by omega
          have kf := of.2; have kt := ot.2; have kd := od.2; have ka := oa.2; have ks := os.2; have km := om.2
          have HB8 := hid hb; clear hb; have HR8 := hid hr; clear hr
          clear g0 g1 g2 g3 g4 g5 g6 g7 g8 g9 g10 o0 o1 o2 o3 o4 o5
          gi_wp2_with fail
          clear kf kt kd ka ks km
          refine HF.out _ ?_ ?_ ?_ ?_ ?_
          · repeat (first | (with_reducible exact HR8.out) | refine Rnd.setCell ?_ (.inl (by dsimp only; omega)) _)
          · clear of ot od oa os om; repeat (first | exact HB8.out | refine Below.alloc ?_ (by simp [World.setCell]; try omega) _ | refine Below.setCell ?_ (by dsimp only; omega) _)
          · go_simp
          · rw [HST.out]; unfold FreeF; refine ⟨?_, ?_, ?_, ?_, ?_, ?_⟩ <;> go_simp
          · unfold FreeO; refine ⟨?_, ?_, ?_, ?_, ?_, ?_⟩ <;> ((repeat (with_reducible refine OwnC.set ?_ _ _)); (with_reducible assumption))
    · have hm1 : (m == 1) = false := by simpa using hm
      cases hd : d
      · subst hd
        have HST : Hid (freeStep p (f, t, false, la, ls, lm) (a, s', m) = (f, t, false, a, s', m)) := by unfold freeStep Hid; simp [hm]
        gi_wp2_with fail
        refine wpIn_region_freeL (open_round lp) (by kernel_rfl) (by kernel_rfl) (fun L w' => Below w1.heap.size W w' ∧ Rnd W0.heap.size W w' ∧ w'.cell? ⟨w.heap.size, 0, none⟩ = some (.int .i64 p) ∧ w'.cell? ⟨Bx, 0, none⟩ = some (.int .i64 a) ∧ w'.cell? ⟨Bx, 1, none⟩ = some (.int .i64 s') ∧ w'.cell? ⟨Bx, 2, none⟩ = some (.int .i64 m) ∧ w'.cell? ⟨w1.heap.size + 4, 0, none⟩ = some (.slice (some ⟨b, 0, none⟩) l.length l.length) ∧ w'.cell? ⟨w1.heap.size, 0, none⟩ = some (.int .i64 f) ∧ w'.cell? ⟨w1.heap.size + 1, 0, none⟩ = some (.int .i64 t) ∧ w'.cell? ⟨w1.heap.size + 2, 0, none⟩ = some (.bool false) ∧ w'.cell? ⟨w1.heap.size + 3, 0, none⟩ = some (.int .i64 la) ∧ w'.cell? ⟨w1.heap.size + 3, 1, none⟩ = some (.int .i64 ls) ∧ w'.cell? ⟨w1.heap.size + 3, 2, none⟩ = some (.int .i64 lm) ∧ OwnC w' ⟨w1.heap.size, 0, none⟩ ∧ OwnC w' ⟨w1.heap.size + 1, 0, none⟩ ∧ OwnC w' ⟨w1.heap.size + 2, 0, none⟩ ∧ OwnC w' ⟨w1.heap.size + 3, 0, none⟩ ∧ OwnC w' ⟨w1.heap.size + 3, 1, none⟩ ∧ OwnC w' ⟨w1.heap.size + 3, 2, none⟩) ⟨(hbb).drew, ((Rnd.refl W0.heap.size W)).drew, d0, q0, q1, q2, hcr, qf, qt, qd, qa, qs, qm, of, ot, od, oa, os, om⟩ ?_
        refine wpFreeL_val rfl (fun _ _ _ h => h) (fun K hK => ?_); apply Exists.intro; refine ⟨fun L w' hS => ?_, ?_⟩; (have hb := hS.1; have hr := hS.2.1; have g0 := hS.2.2.1; have g1 := hS.2.2.2.1; have g2 := hS.2.2.2.2.1; have g3 := hS.2.2.2.2.2.1; have g4 := hS.2.2.2.2.2.2.1; have g5 := hS.2.2.2.2.2.2.2.1; have g6 := hS.2.2.2.2.2.2.2.2.1; have g7 := hS.2.2.2.2.2.2.2.2.2.1; have g8 := hS.2.2.2.2.2.2.2.2.2.2.1; have g9 := hS.2.2.2.2.2.2.2.2.2.2.2.1; have g10 := hS.2.2.2.2.2.2.2.2.2.2.2.2.1; have o0 := hS.2.2.2.2.2.2.2.2.2.2.2.2.2.1; have o1 := hS.2.2.2.2.2.2.2.2.2.2.2.2.2.2.1; have o2 := hS.2.2.2.2.2.2.2.2.2.2.2.2.2.2.2.1; have o3 := hS.2.2.2.2.2.2.2.2.2.2.2.2.2.2.2.2.1; have o4 := hS.2.2.2.2.2.2.2.2.2.2.2.2.2.2.2.2.2.1; have o5 := hS.2.2.2.2.2.2.2.2.2.2.2.2.2.2.2.2.2.2; clear hS; go_simp; rfl); (go_simp; refine hK _ ?_; clear hK K)
        refine wpFreeL_val rfl (fun _ _ _ h => h) (fun K hK => ?_); apply Exists.intro; refine ⟨fun L w' hS => ?_, ?_⟩; (have hb := hS.1; have hr := hS.2.1; have g0 := hS.2.2.1; have g1 := hS.2.2.2.1; have g2 := hS.2.2.2.2.1; have g3 := hS.2.2.2.2.2.1; have g4 := hS.2.2.2.2.2.2.1; have g5 := hS.2.2.2.2.2.2.2.1; have g6 := hS.2.2.2.2.2.2.2.2.1; have g7 := hS.2.2.2.2.2.2.2.2.2.1; have g8 := hS.2.2.2.2.2.2.2.2.2.2.1; have g9 := hS.2.2.2.2.2.2.2.2.2.2.2.1; have g10 := hS.2.2.2.2.2.2.2.2.2.2.2.2.1; have o0 := hS.2.2.2.2.2.2.2.2.2.2.2.2.2.1; have o1 := hS.2.2.2.2.2.2.2.2.2.2.2.2.2.2.1; have o2 := hS.2.2.2.2.2.2.2.2.2.2.2.2.2.2.2.1; have o3 := hS.2.2.2.2.2.2.2.2.2.2.2.2.2.2.2.2.1; have o4 := hS.2.2.2.2.2.2.2.2.2.2.2.2.2.2.2.2.2.1; have o5 := hS.2.2.2.2.2.2.2.2.2.2.2.2.2.2.2.2.2.2; clear hS; go_simp; rfl); (go_simp; refine hK _ ?_; clear hK K)
        refine wpFreeL_val rfl (fun _ _ _ h => h) (fun K hK => ?_); apply Exists.intro; refine ⟨fun L w' hS => ?_, ?_⟩; (have hb := hS.1; have hr := hS.2.1; have g0 := hS.2.2.1; have g1 := hS.2.2.2.1; have g2 := hS.2.2.2.2.1; have g3 := hS.2.2.2.2.2.1; have g4 := hS.2.2.2.2.2.2.1; have g5 := hS.2.2.2.2.2.2.2.1; have g6 := hS.2.2.2.2.2.2.2.2.1; have g7 := hS.2.2.2.2.2.2.2.2.2.1; have g8 := hS.2.2.2.2.2.2.2.2.2.2.1; have g9 := hS.2.2.2.2.2.2.2.2.2.2.2.1; have g10 := hS.2.2.2.2.2.2.2.2.2.2.2.2.1; have o0 := hS.2.2.2.2.2.2.2.2.2.2.2.2.2.1; have o1 := hS.2.2.2.2.2.2.2.2.2.2.2.2.2.2.1; have o2 := hS.2.2.2.2.2.2.2.2.2.2.2.2.2.2.2.1; have o3 := hS.2.2.2.2.2.2.2.2.2.2.2.2.2.2.2.2.1; have o4 := hS.2.2.2.2.2.2.2.2.2.2.2.2.2.2.2.2.2.1; have o5 := hS.2.2.2.2.2.2.2.2.2.2.2.2.2.2.2.2.2.2; clear hS; go_simp; rfl); (go_simp; refine hK _ ?_; clear hK K)
        refine wpFreeL_val rfl (fun _ _ _ h => h) (fun K hK => ?_); apply Exists.intro; refine ⟨fun L w' hS => ?_, ?_⟩; (have hb := hS.1; have hr := hS.2.1; have g0 := hS.2.2.1; have g1 := hS.2.2.2.1; have g2 := hS.2.2.2.2.1; have g3 := hS.2.2.2.2.2.1; have g4 := hS.2.2.2.2.2.2.1; have g5 := hS.2.2.2.2.2.2.2.1; have g6 := hS.2.2.2.2.2.2.2.2.1; have g7 := hS.2.2.2.2.2.2.2.2.2.1; have g8 := hS.2.2.2.2.2.2.2.2.2.2.1; have g9 := hS.2.2.2.2.2.2.2.2.2.2.2.1; have g10 := hS.2.2.2.2.2.2.2.2.2.2.2.2.1; have o0 := hS.2.2.2.2.2.2.2.2.2.2.2.2.2.1; have o1 := hS.2.2.2.2.2.2.2.2.2.2.2.2.2.2.1; have o2 := hS.2.2.2.2.2.2.2.2.2.2.2.2.2.2.2.1; have o3 := hS.2.2.2.2.2.2.2.2.2.2.2.2.2.2.2.2.1; have o4 := hS.2.2.2.2.2.2.2.2.2.2.2.2.2.2.2.2.2.1; have o5 := hS.2.2.2.2.2.2.2.2.2.2.2.2.2.2.2.2.2.2; clear hS; go_simp; rfl); (go_simp; refine hK _ ?_; clear hK K)
        refine wpFreeL_skip rfl (fun _ _ _ h => h) (fun K hK => ?_); go_simp; refine hK _ ?_; clear hK K
        refine wpFreeL_skip rfl (fun _ _ _ h => h) (fun K hK => ?_); go_simp; refine hK _ ?_; clear hK K
        refine wpFreeL_skip rfl (fun _ _ _ h => h) (fun K hK => ?_); go_simp; refine hK _ ?_; clear hK K
        refine wpFreeL_skip rfl (fun _ _ _ h => h) (fun K hK => ?_); go_simp; refine hK _ ?_; clear hK K
        refine wpFreeL_skip rfl (fun _ _ _ h => h) (fun K hK => ?_); go_simp; refine hK _ ?_; clear hK K
        refine wpFreeL_val rfl (fun _ _ _ h => h) (fun K hK => ?_); apply Exists.intro; refine ⟨fun L w' hS => ?_, ?_⟩; (have hb := hS.1; have hr := hS.2.1; have g0 := hS.2.2.1; have g1 := hS.2.2.2.1; have g2 := hS.2.2.2.2.1; have g3 := hS.2.2.2.2.2.1; have g4 := hS.2.2.2.2.2.2.1; have g5 := hS.2.2.2.2.2.2.2.1; have g6 := hS.2.2.2.2.2.2.2.2.1; have g7 := hS.2.2.2.2.2.2.2.2.2.1; have g8 := hS.2.2.2.2.2.2.2.2.2.2.1; have g9 := hS.2.2.2.2.2.2.2.2.2.2.2.1; have g10 := hS.2.2.2.2.2.2.2.2.2.2.2.2.1; have o0 := hS.2.2.2.2.2.2.2.2.2.2.2.2.2.1; have o1 := hS.2.2.2.2.2.2.2.2.2.2.2.2.2.2.1; have o2 := hS.2.2.2.2.2.2.2.2.2.2.2.2.2.2.2.1; have o3 := hS.2.2.2.2.2.2.2.2.2.2.2.2.2.2.2.2.1; have o4 := hS.2.2.2.2.2.2.2.2.2.2.2.2.2.2.2.2.2.1; have o5 := hS.2.2.2.2.2.2.2.2.2.2.2.2.2.2.2.2.2.2; clear hS; go_simp; rfl); (go_simp; refine hK _ ?_; clear hK K)
        refine wpFreeL_val rfl (fun _ _ _ h => h) (fun K hK => ?_); apply Exists.intro; refine ⟨fun L w' hS => ?_, ?_⟩; (have hb := hS.1; have hr := hS.2.1; have g0 := hS.2.2.1; have g1 := hS.2.2.2.1; have g2 := hS.2.2.2.2.1; have g3 := hS.2.2.2.2.2.1; have g4 := hS.2.2.2.2.2.2.1; have g5 := hS.2.2.2.2.2.2.2.1; have g6 := hS.2.2.2.2.2.2.2.2.1; have g7 := hS.2.2.2.2.2.2.2.2.2.1; have g8 := hS.2.2.2.2.2.2.2.2.2.2.1; have g9 := hS.2.2.2.2.2.2.2.2.2.2.2.1; have g10 := hS.2.2.2.2.2.2.2.2.2.2.2.2.1; have o0 := hS.2.2.2.2.2.2.2.2.2.2.2.2.2.1; have o1 := hS.2.2.2.2.2.2.2.2.2.2.2.2.2.2.1; have o2 := hS.2.2.2.2.2.2.2.2.2.2.2.2.2.2.2.1; have o3 := hS.2.2.2.2.2.2.2.2.2.2.2.2.2.2.2.2.1; have o4 := hS.2.2.2.2.2.2.2.2.2.2.2.2.2.2.2.2.2.1; have o5 := hS.2.2.2.2.2.2.2.2.2.2.2.2.2.2.2.2.2.2; clear hS; go_simp; rfl); (go_simp; refine hK _ ?_; clear hK K)
        refine wpFreeL_nil (fun L w' hL hS => ?_)
        have hb := hS.1; have hr := hS.2.1; have g0 := hS.2.2.1; have g1 := hS.2.2.2.1; have g2 := hS.2.2.2.2.1; have g3 := hS.2.2.2.2.2.1; have g4 := hS.2.2.2.2.2.2.1; have g5 := hS.2.2.2.2.2.2.2.1; have g6 := hS.2.2.2.2.2.2.2.2.1; have g7 := hS.2.2.2.2.2.2.2.2.2.1; have g8 := hS.2.2.2.2.2.2.2.2.2.2.1; have g9 := hS.2.2.2.2.2.2.2.2.2.2.2.1; have g10 := hS.2.2.2.2.2.2.2.2.2.2.2.2.1; have o0 := hS.2.2.2.2.2.2.2.2.2.2.2.2.2.1; have o1 := hS.2.2.2.2.2.2.2.2.2.2.2.2.2.2.1; have o2 := hS.2.2.2.2.2.2.2.2.2.2.2.2.2.2.2.1; have o3 := hS.2.2.2.2.2.2.2.2.2.2.2.2.2.2.2.2.1; have o4 := hS.2.2.2.2.2.2.2.2.2.2.2.2.2.2.2.2.2.1; have o5 := hS.2.2.2.2.2.2.2.2.2.2.2.2.2.2.2.2.2.2
        clear hL hS
        have d0 := g0; have q0 := g1; have q1 := g2; have q2 := g3; have hcr := g4; have qf := g5; have qt := g6; have qd := g7; have qa := g8; have qs := g9; have qm := g10; have of := o0; have ot := o1; have od := o2; have oa := o3; have os := o4; have om := o5
        have hlt0 : Bx < w'.heap.size := World.block_lt_of_cell? _ _ q0
        have hltr : w1.heap.size + 4 < w'.heap.size := World.block_lt_of_cell? _ _ hcr
        have hlz : w.heap.size < w'.heap.size := World.block_lt_of_cell? _ _ d0
        have hlr0 : w1.heap.size < w'.heap.size := by omega
        have hlr1 : w1.heap.size + 1 < w'.heap.size := by omega
        have hlr2 : w1.heap.size + 2 < w'.heap.size := by omega
        have hlr3 : w1.heap.size + 3 < w'.heap.size := by omega
        have kf := of.2; have kt := ot.2; have kd := od.2; have ka := oa.2; have ks := os.2; have km := om.2
        have HB8 := hid hb; clear hb; have HR8 := hid hr; clear hr
        clear g0 g1 g2 g3 g4 g5 g6 g7 g8 g9 g10 o0 o1 o2 o3 o4 o5
        gi_wp2_with fail
        clear kf kt kd ka ks km
        refine HF.out _ ?_ ?_ ?_ ?_ ?_
        · repeat (first | (with_reducible exact HR8.out) | refine Rnd.setCell ?_ (.inl (by dsimp only; omega)) _)
        · clear of ot od oa os om; repeat (first | exact HB8.out | refine Below.alloc ?_ (by simp [World.setCell]; try omega) _ | refine Below.setCell ?_ (by dsimp only; omega) _)
        · go_simp
        · rw [HST.out]; unfold FreeF; refine ⟨?_, ?_, ?_, ?_, ?_, ?_⟩ <;> go_simp
        · unfold FreeO; refine ⟨?_, ?_, ?_, ?_, ?_, ?_⟩ <;> ((repeat (with_reducible refine OwnC.set ?_ _ _)); (with_reducible assumption))
      · subst hd
        by_cases hm2 : m = 2
        · subst hm2
          have hm3 : ((2 : Int) == 2) = true := rfl
          by_cases hat : a = t
          · have hat1 : (a == t) = true := by simpa using hat
            have HST : Hid (freeStep p (f, t, true, la, ls, lm) (a, s', 2) = (f, a + 8 + upZ s', true, a, s', 2)) := by unfold freeStep Hid; simp [hat]
            gi_wp2_with fail
            refine wpIn_region_freeL (open_round lp) (by kernel_rfl) (by kernel_rfl) (fun L w' => Below w1.heap.size W w' ∧ Rnd W0.heap.size W w' ∧ w'.cell? ⟨w.heap.size, 0, none⟩ = some (.int .i64 p) ∧ w'.cell? ⟨Bx, 0, none⟩ = some (.int .i64 a) ∧ w'.cell? ⟨Bx, 1, none⟩ = some (.int .i64 s') ∧ w'.cell? ⟨Bx, 2, none⟩ = some (.int .i64 2) ∧ w'.cell? ⟨w1.heap.size + 4, 0, none⟩ = some (.slice (some ⟨b, 0, none⟩) l.length l.length) ∧ w'.cell? ⟨w1.heap.size, 0, none⟩ = some (.int .i64 f) ∧ w'.cell? ⟨w1.heap.size + 1, 0, none⟩ = some (.int .i64 t) ∧ w'.cell? ⟨w1.heap.size + 2, 0, none⟩ = some (.bool true) ∧ w'.cell? ⟨w1.heap.size + 3, 0, none⟩ = some (.int .i64 la) ∧ w'.cell? ⟨w1.heap.size + 3, 1, none⟩ = some (.int .i64 ls) ∧ w'.cell? ⟨w1.heap.size + 3, 2, none⟩ = some (.int .i64 lm) ∧ OwnC w' ⟨w1.heap.size, 0, none⟩ ∧ OwnC w' ⟨w1.heap.size + 1, 0, none⟩ ∧ OwnC w' ⟨w1.heap.size + 2, 0, none⟩ ∧ OwnC w' ⟨w1.heap.size + 3, 0, none⟩ ∧ OwnC w' ⟨w1.heap.size + 3, 1, none⟩ ∧ OwnC w' ⟨w1.heap.size + 3, 2, none⟩) ⟨(hbb).drew, ((Rnd.refl W0.heap.size W)).drew, d0, q0, q1, q2, hcr, qf, qt, qd, qa, qs, qm, of, ot, od, oa, os, om⟩ ?_
            refine wpFreeL_val rfl (fun _ _ _ h => h) (fun K hK => ?_); apply Exists.intro; refine ⟨fun L w' hS => ?_, ?_⟩; (have hb := hS.1; have hr := hS.2.1; have g0 := hS.2.2.1; have g1 := hS.2.2.2.1; have g2 := hS.2.2.2.2.1; have g3 := hS.2.2.2.2.2.1; have g4 := hS.2.2.2.2.2.2.1; have g5 := hS.2.2.2.2.2.2.2.1; have g6 := hS.2.2.2.2.2.2.2.2.1; have g7 := hS.2.2.2.2.2.2.2.2.2.1; have g8 := hS.2.2.2.2.2.2.2.2.2.2.1; have g9 := hS.2.2.2.2.2.2.2.2.2.2.2.1; have g10 := hS.2.2.2.2.2.2.2.2.2.2.2.2.1; have o0 := hS.2.2.2.2.2.2.2.2.2.2.2.2.2.1; have o1 := hS.2.2.2.2.2.2.2.2.2.2.2.2.2.2.1; have o2 := hS.2.2.2.2.2.2.2.2.2.2.2.2.2.2.2.1; have o3 := hS.2.2.2.2.2.2.2.2.2.2.2.2.2.2.2.2.1; have o4 := hS.2.2.2.2.2.2.2.2.2.2.2.2.2.2.2.2.2.1; have o5 := hS.2.2.2.2.2.2.2.2.2.2.2.2.2.2.2.2.2.2; clear hS; go_simp; rfl); (go_simp; refine hK _ ?_; clear hK K)
            refine wpFreeL_val rfl (fun _ _ _ h => h) (fun K hK => ?_); apply Exists.intro; refine ⟨fun L w' hS => ?_, ?_⟩; (have hb := hS.1; have hr := hS.2.1; have g0 := hS.2.2.1; have g1 := hS.2.2.2.1; have g2 := hS.2.2.2.2.1; have g3 := hS.2.2.2.2.2.1; have g4 := hS.2.2.2.2.2.2.1; have g5 := hS.2.2.2.2.2.2.2.1; have g6 := hS.2.2.2.2.2.2.2.2.1; have g7 := hS.2.2.2.2.2.2.2.2.2.1; have g8 := hS.2.2.2.2.2.2.2.2.2.2.1; have g9 := hS.2.2.2.2.2.2.2.2.2.2.2.1; have g10 := hS.2.2.2.2.2.2.2.2.2.2.2.2.1; have o0 := hS.2.2.2.2.2.2.2.2.2.2.2.2.2.1; have o1 := hS.2.2.2.2.2.2.2.2.2.2.2.2.2.2.1; have o2 := hS.2.2.2.2.2.2.2.2.2.2.2.2.2.2.2.1; have o3 := hS.2.2.2.2.2.2.2.2.2.2.2.2.2.2.2.2.1; have o4 := hS.2.2.2.2.2.2.2.2.2.2.2.2.2.2.2.2.2.1; have o5 := hS.2.2.2.2.2.2.2.2.2.2.2.2.2.2.2.2.2.2; clear hS; go_simp; rfl); (go_simp; refine hK _ ?_; clear hK K)
            refine wpFreeL_val rfl (fun _ _ _ h => h) (fun K hK => ?_); apply Exists.intro; refine ⟨fun L w' hS => ?_, ?_⟩; (have hb := hS.1; have hr := hS.2.1; have g0 := hS.2.2.1; have g1 := hS.2.2.2.1; have g2 := hS.2.2.2.2.1; have g3 := hS.2.2.2.2.2.1; have g4 := hS.2.2.2.2.2.2.1; have g5 := hS.2.2.2.2.2.2.2.1; have g6 := hS.2.2.2.2.2.2.2.2.1; have g7 := hS.2.2.2.2.2.2.2.2.2.1; have g8 := hS.2.2.2.2.2.2.2.2.2.2.1; have g9 := hS.2.2.2.2.2.2.2.2.2.2.2.1; have g10 := hS.2.2.2.2.2.2.2.2.2.2.2.2.1; have o0 := hS.2.2.2.2.2.2.2.2.2.2.2.2.2.1; have o1 := hS.2.2.2.2.2.2.2.2.2.2.2.2.2.2.1; have o2 := hS.2.2.2.2.2.2.2.2.2.2.2.2.2.2.2.1; have o3 := hS.2.2.2.2.2.2.2.2.2.2.2.2.2.2.2.2.1; have o4 := hS.2.2.2.2.2.2.2.2.2.2.2.2.2.2.2.2.2.1; have o5 := hS.2.2.2.2.2.2.2.2.2.2.2.2.2.2.2.2.2.2; clear hS; go_simp; rfl); (go_simp; refine hK _ ?_; clear hK K)
            refine wpFreeL_val rfl (fun _ _ _ h => h) (fun K hK => ?_); apply Exists.intro; refine ⟨fun L w' hS => ?_, ?_⟩; (have hb := hS.1; have hr := hS.2.1; have g0 := hS.2.2.1; have g1 := hS.2.2.2.1; have g2 := hS.2.2.2.2.1; have g3 := hS.2.2.2.2.2.1; have g4 := hS.2.2.2.2.2.2.1; have g5 := hS.2.2.2.2.2.2.2.1; have g6 := hS.2.2.2.2.2.2.2.2.1; have g7 := hS.2.2.2.2.2.2.2.2.2.1; have g8 := hS.2.2.2.2.2.2.2.2.2.2.1; have g9 := hS.2.2.2.2.2.2.2.2.2.2.2.1; have g10 := hS.2.2.2.2.2.2.2.2.2.2.2.2.1; have o0 := hS.2.2.2.2.2.2.2.2.2.2.2.2.2.1; have o1 := hS.2.2.2.2.2.2.2.2.2.2.2.2.2.2.1; have o2 := hS.2.2.2.2.2.2.2.2.2.2.2.2.2.2.2.1; have o3 := hS.2.2.2.2.2.2.2.2.2.2.2.2.2.2.2.2.1; have o4 := hS.2.2.2.2.2.2.2.2.2.2.2.2.2.2.2.2.2.1; have o5 := hS.2.2.2.2.2.2.2.2.2.2.2.2.2.2.2.2.2.2; clear hS; go_simp; rfl); (go_simp; refine hK _ ?_; clear hK K)
            refine wpFreeL_skip rfl (fun _ _ _ h => h) (fun K hK => ?_); go_simp; refine hK _ ?_; clear hK K
            refine wpFreeL_skip rfl (fun _ _ _ h => h) (fun K hK => ?_); go_simp; refine hK _ ?_; clear hK K
            refine wpFreeL_skip rfl (fun _ _ _ h => h) (fun K hK => ?_); go_simp; refine hK _ ?_; clear hK K
            refine wpFreeL_skip rfl (fun _ _ _ h => h) (fun K hK => ?_); go_simp; refine hK _ ?_; clear hK K
            refine wpFreeL_skip rfl (fun _ _ _ h => h) (fun K hK => ?_); go_simp; refine hK _ ?_; clear hK K
            refine wpFreeL_val rfl (fun _ _ _ h => h) (fun K hK => ?_); apply Exists.intro; refine ⟨fun L w' hS => ?_, ?_⟩; (have hb := hS.1; have hr := hS.2.1; have g0 := hS.2.2.1; have g1 := hS.2.2.2.1; have g2 := hS.2.2.2.2.1; have g3 := hS.2.2.2.2.2.1; have g4 := hS.2.2.2.2.2.2.1; have g5 := hS.2.2.2.2.2.2.2.1; have g6 := hS.2.2.2.2.2.2.2.2.1; have g7 := hS.2.2.2.2.2.2.2.2.2.1; have g8 := hS.2.2.2.2.2.2.2.2.2.2.1; have g9 := hS.2.2.2.2.2.2.2.2.2.2.2.1; have g10 := hS.2.2.2.2.2.2.2.2.2.2.2.2.1; have o0 := hS.2.2.2.2.2.2.2.2.2.2.2.2.2.1; have o1 := hS.2.2.2.2.2.2.2.2.2.2.2.2.2.2.1; have o2 := hS.2.2.2.2.2.2.2.2.2.2.2.2.2.2.2.1; have o3 := hS.2.2.2.2.2.2.2.2.2.2.2.2.2.2.2.2.1; have o4 := hS.2.2.2.2.2.2.2.2.2.2.2.2.2.2.2.2.2.1; have o5 := hS.2.2.2.2.2.2.2.2.2.2.2.2.2.2.2.2.2.2; clear hS; go_simp; rfl); (go_simp; refine hK _ ?_; clear hK K)
            refine wpFreeL_val rfl (fun _ _ _ h => h) (fun K hK => ?_); apply Exists.intro; refine ⟨fun L w' hS => ?_, ?_⟩; (have hb := hS.1; have hr := hS.2.1; have g0 := hS.2.2.1; have g1 := hS.2.2.2.1; have g2 := hS.2.2.2.2.1; have g3 := hS.2.2.2.2.2.1; have g4 := hS.2.2.2.2.2.2.1; have g5 := hS.2.2.2.2.2.2.2.1; have g6 := hS.2.2.2.2.2.2.2.2.1; have g7 := hS.2.2.2.2.2.2.2.2.2.1; have g8 := hS.2.2.2.2.2.2.2.2.2.2.1; have g9 := hS.2.2.2.2.2.2.2.2.2.2.2.1; have g10 := hS.2.2.2.2.2.2.2.2.2.2.2.2.1; have o0 := hS.2.2.2.2.2.2.2.2.2.2.2.2.2.1; have o1 := hS.2.2.2.2.2.2.2.2.2.2.2.2.2.2.1; have o2 := hS.2.2.2.2.2.2.2.2.2.2.2.2.2.2.2.1; have o3 := hS.2.2.2.2.2.2.2.2.2.2.2.2.2.2.2.2.1; have o4 := hS.2.2.2.2.2.2.2.2.2.2.2.2.2.2.2.2.2.1; have o5 := hS.2.2.2.2.2.2.2.2.2.2.2.2.2.2.2.2.2.2; clear hS; go_simp; rfl); (go_simp; refine hK _ ?_; clear hK K)
            refine wpFreeL_nil (fun L w' hL hS => ?_)
            have hb := hS.1; have hr := hS.2.1; have g0 := hS.2.2.1; have g1 := hS.2.2.2.1; have g2 := hS.2.2.2.2.1; have g3 := hS.2.2.2.2.2.1; have g4 := hS.2.2.2.2.2.2.1; have g5 := hS.2.2.2.2.2.2.2.1; have g6 := hS.2.2.2.2.2.2.2.2.1; have g7 := hS.2.2.2.2.2.2.2.2.2.1; have g8 := hS.2.2.2.2.2.2.2.2.2.2.1; have g9 := hS.2.2.2.2.2.2.2.2.2.2.2.1; have g10 := hS.2.2.2.2.2.2.2.2.2.2.2.2.1; have o0 := hS.2.2.2.2.2.2.2.2.2.2.2.2.2.1; have o1 := hS.2.2.2.2.2.2.2.2.2.2.2.2.2.2.1; have o2 := hS.2.2.2.2.2.2.2.2.2.2.2.2.2.2.2.1; have o3 := hS.2.2.2.2.2.2.2.2.2.2.2.2.2.2.2.2.1; have o4 := hS.2.2.2.2.2.2.2.2.2.2.2.2.2.2.2.2.2.1; have o5 := hS.2.2.2.2.2.2.2.2.2.2.2.2.2.2.2.2.2.2
            clear hL hS
            have d0 := g0; have q0 := g1; have q1 := g2; have q2 := g3; have hcr := g4; have qf := g5; have qt := g6; have qd := g7; have qa := g8; have qs := g9; have qm := g10; have of := o0; have ot := o1; have od := o2; have oa := o3; have os := o4; have om := o5
            have hlt0 : Bx < w'.heap.size := World.block_lt_of_cell? _ _ q0
            have hltr : w1.heap.size + 4 < w'.heap.size := World.block_lt_of_cell? _ _ hcr
            have hlz : w.heap.size < w'.heap.size := World.block_lt_of_cell? _ _ d0
            have hlr0 : w1.heap.size < w'.heap.size := by omega
            have hlr1 : w1.heap.size + 1 < w'.heap.size := by omega
            have hlr2 : w1.heap.size + 2 < w'.heap.size := by omega
            have hlr3 : w1.heap.size + 3 < w'.heap.size := by omega
            have kf := of.2; have kt := ot.2; have kd := od.2; have ka := oa.2; have ks := os.2; have km := om.2
            have HB8 := hid hb; clear hb; have HR8 := hid hr; clear hr
            clear g0 g1 g2 g3 g4 g5 g6 g7 g8 g9 g10 o0 o1 o2 o3 o4 o5
            clear hat
            gi_wp2_with fail
            refine ⟨trivial, rfl, ?_⟩
            refine ((open_round lp).calls (end_any a s' 2 _ (by omega) (by omega) (by omega) (by omega))).mono ?_
            rintro e w3 ⟨rfl, hb1⟩
            have d0 := keepc hb1 d0
            have q0 := keepc hb1 q0
            have q1 := keepc hb1 q1
            have q2 := keepc hb1 q2
            have hcr := keepc hb1 hcr
            have qf := keepc hb1 qf
            have qt := keepc hb1 qt
            have qd := keepc hb1 qd
            have qa := keepc hb1 qa
            have qs := keepc hb1 qs
            have qm := keepc hb1 qm
            have of := keepOwn hb1 of
            have ot := keepOwn hb1 ot
            have od := keepOwn hb1 od
            have oa := keepOwn hb1 oa
            have os := keepOwn hb1 os
            have om := keepOwn hb1 om
            have hlt0 : Bx < w3.heap.size := World.block_lt_of_cell? _ _ q0
            have hltr : w1.heap.size + 4 < w3.heap.size := World.block_lt_of_cell? _ _ hcr
            have hlz : w.heap.size < w3.heap.size := World.block_lt_of_cell? _ _ d0
            have hlr0 : w1.heap.size < w3.heap.size := by omega
            have hlr1 : w1.heap.size + 1 < w3.heap.size := by omega
            have hlr2 : w1.heap.size + 2 < w3.heap.size := by omega
            have hlr3 : w1.heap.size + 3 < w3.heap.size := by omega
            have kf := of.2; have kt := ot.2; have kd := od.2; have ka := oa.2; have ks := os.2; have km := om.2
            have HB8 := hid (HB8.out.trans (hb1.mono (by omega))); have HR8 := hid (HR8.out.below hb1); clear hb1
            gi_wp2_with fail
            clear kf kt kd ka ks km
            refine HF.out _ ?_ ?_ ?_ ?_ ?_
            · repeat (first | (with_reducible exact HR8.out) | refine Rnd.setCell ?_ (.inl (by dsimp only; omega)) _)
            · clear of ot od oa os om; repeat (first | exact HB8.out | refine Below.alloc ?_ (by simp [World.setCell]; try omega) _ | refine Below.setCell ?_ (by dsimp only; omega) _)
            · go_simp
            · rw [HST.out]; unfold FreeF; refine ⟨?_, ?_, ?_, ?_, ?_, ?_⟩ <;> go_simp
            · unfold FreeO; refine ⟨?_, ?_, ?_, ?_, ?_, ?_⟩ <;> ((repeat (with_reducible refine OwnC.set ?_ _ _)); (with_reducible assumption))
          · have hat1 : (a == t) = false := by simpa using hat
            have HST : Hid (freeStep p (f, t, true, la, ls, lm) (a, s', 2) = (f, t, true, a, s', 2)) := by unfold freeStep Hid; simp [hat]
            gi_wp2_with fail
            refine wpIn_region_freeL (open_round lp) (by kernel_rfl) (by kernel_rfl) (fun L w' => Below w1.heap.size W w' ∧ Rnd W0.heap.size W w' ∧ w'.cell? ⟨w.heap.size, 0, none⟩ = some (.int .i64 p) ∧ w'.cell? ⟨Bx, 0, none⟩ = some (.int .i64 a) ∧ w'.cell? ⟨Bx, 1, none⟩ = some (.int .i64 s') ∧ w'.cell? ⟨Bx, 2, none⟩ = some (.int .i64 2) ∧ w'.cell? ⟨w1.heap.size + 4, 0, none⟩ = some (.slice (some ⟨b, 0, none⟩) l.length l.length) ∧ w'.cell? ⟨w1.heap.size, 0, none⟩ = some (.int .i64 f) ∧ w'.cell? ⟨w1.heap.size + 1, 0, none⟩ = some (.int .i64 t) ∧ w'.cell? ⟨w1.heap.size + 2, 0, none⟩ = some (.bool true) ∧ w'.cell? ⟨w1.heap.size + 3, 0, none⟩ = some (.int .i64 la) ∧ w'.cell? ⟨w1.heap.size + 3, 1, none⟩ = some (.int .i64 ls) ∧ w'.cell? ⟨w1.heap.size + 3, 2, none⟩ = some (.int .i64 lm) ∧ OwnC w' ⟨w1.heap.size, 0, none⟩ ∧ OwnC w' ⟨w1.heap.size + 1, 0, none⟩ ∧ OwnC w' ⟨w1.heap.size + 2, 0, none⟩ ∧ OwnC w' ⟨w1.heap.size + 3, 0, none⟩ ∧ OwnC w' ⟨w1.heap.size + 3, 1, none⟩ ∧ OwnC w' ⟨w1.heap.size + 3, 2, none⟩) ⟨(hbb).drew, ((Rnd.refl W0.heap.size W)).drew, d0, q0, q1, q2, hcr, qf, qt, qd, qa, qs, qm, of, ot, od, oa, os, om⟩ ?_
            refine wpFreeL_val rfl (fun _ _ _ h => h) (fun K hK => ?_); apply Exists.intro; refine ⟨fun L w' hS => ?_, ?_⟩; (have hb := hS.1; have hr := hS.2.1; have g0 := hS.2.2.1; have g1 := hS.2.2.2.1; have g2 := hS.2.2.2.2.1; have g3 := hS.2.2.2.2.2.1; have g4 := hS.2.2.2.2.2.2.1; have g5 := hS.2.2.2.2.2.2.2.1; have g6 := hS.2.2.2.2.2.2.2.2.1; have g7 := hS.2.2.2.2.2.2.2.2.2.1; have g8 := hS.2.2.2.2.2.2.2.2.2.2.1; have g9 := hS.2.2.2.2.2.2.2.2.2.2.2.1; have g10 := hS.2.2.2.2.2.2.2.2.2.2.2.2.1; have o0 := hS.2.2.2.2.2.2.2.2.2.2.2.2.2.1; have o1 := hS.2.2.2.2.2.2.2.2.2.2.2.2.2.2.1; have o2 := hS.2.2.2.2.2.2.2.2.2.2.2.2.2.2.2.1; have o3 := hS.2.2.2.2.2.2.2.2.2.2.2.2.2.2.2.2.1; have o4 := hS.2.2.2.2.2.2.2.2.2.2.2.2.2.2.2.2.2.1; have o5 := hS.2.2.2.2.2.2.2.2.2.2.2.2.2.2.2.2.2.2; clear hS; go_simp; rfl); (go_simp; refine hK _ ?_; clear hK K)
            refine wpFreeL_val rfl (fun _ _ _ h => h) (fun K hK => ?_); apply Exists.intro; refine ⟨fun L w' hS => ?_, ?_⟩; (have hb := hS.1; have hr := hS.2.1; have g0 := hS.2.2.1; have g1 := hS.2.2.2.1; have g2 := hS.2.2.2.2.1; have g3 := hS.2.2.2.2.2.1; have g4 := hS.2.2.2.2.2.2.1; have g5 := hS.2.2.2.2.2.2.2.1; have g6 := hS.2.2.2.2.2.2.2.2.1; have g7 := hS.2.2.2.2.2.2.2.2.2.1; have g8 := hS.2.2.2.2.2.2.2.2.2.2.1; have g9 := hS.2.2.2.2.2.2.2.2.2.2.2.1; have g10 := hS.2.2.2.2.2.2.2.2.2.2.2.2.1; have o0 := hS.2.2.2.2.2.2.2.2.2.2.2.2.2.1; have o1 := hS.2.2.2.2.2.2.2.2.2.2.2.2.2.2.1; have o2 := hS.2.2.2.2.2.2.2.2.2.2.2.2.2.2.2.1; have o3 := hS.2.2.2.2.2.2.2.2.2.2.2.2.2.2.2.2.1; have o4 := hS.2.2.2.2.2.2.2.2.2.2.2.2.2.2.2.2.2.1; have o5 := hS.2.2.2.2.2.2.2.2.2.2.2.2.2.2.2.2.2.2; clear hS; go_simp; rfl); (go_simp; refine hK _ ?_; clear hK K)
            refine wpFreeL_val rfl (fun _ _ _ h => h) (fun K hK => ?_); apply Exists.intro; refine ⟨fun L w' hS => ?_, ?_⟩; (have hb := hS.1; have hr := hS.2.1; have g0 := hS.2.2.1; have g1 := hS.2.2.2.1; have g2 := hS.2.2.2.2.1; have g3 := hS.2.2.2.2.2.1; have g4 := hS.2.2.2.2.2.2.1; have g5 := hS.2.2.2.2.2.2.2.1; have g6 := hS.2.2.2.2.2.2.2.2.1; have g7 := hS.2.2.2.2.2.2.2.2.2.1; have g8 := hS.2.2.2.2.2.2.2.2.2.2.1; have g9 := hS.2.2.2.2.2.2.2.2.2.2.2.1; have g10 := hS.2.2.2.2.2.2.2.2.2.2.2.2.1; have o0 := hS.2.2.2.2.2.2.2.2.2.2.2.2.2.1; have o1 := hS.2.2.2.2.2.2.2.2.2.2.2.2.2.2.1; have o2 := hS.2.2.2.2.2.2.2.2.2.2.2.2.2.2.2.1; have o3 := hS.2.2.2.2.2.2.2.2.2.2.2.2.2.2.2.2.1; have o4 := hS.2.2.2.2.2.2.2.2.2.2.2.2.2.2.2.2.2.1; have o5 := hS.2.2.2.2.2.2.2.2.2.2.2.2.2.2.2.2.2.2; clear hS; go_simp; rfl); (go_simp; refine hK _ ?_; clear hK K)
            refine wpFreeL_val rfl (fun _ _ _ h => h) (fun K hK => ?_); apply Exists.intro; refine ⟨fun L w' hS => ?_, ?_⟩; (have hb := hS.1; have hr := hS.2.1; have g0 := hS.2.2.1; have g1 := hS.2.2.2.1; have g2 := hS.2.2.2.2.1; have g3 := hS.2.2.2.2.2.1; have g4 := hS.2.2.2.2.2.2.1; have g5 := hS.2.2.2.2.2.2.2.1; have g6 := hS.2.2.2.2.2.2.2.2.1; have g7 := hS.2.2.2.2.2.2.2.2.2.1; have g8 := hS.2.2.2.2.2.2.2.2.2.2.1; have g9 := hS.2.2.2.2.2.2.2.2.2.2.2.1; have g10 := hS.2.2.2.2.2.2.2.2.2.2.2.2.1; have o0 := hS.2.2.2.2.2.2.2.2.2.2.2.2.2.1; have o1 := hS.2.2.2.2.2.2.2.2.2.2.2.2.2.2.1; have o2 := hS.2.2.2.2.2.2.2.2.2.2.2.2.2.2.2.1; have o3 := hS.2.2.2.2.2.2.2.2.2.2.2.2.2.2.2.2.1; have o4 := hS.2.2.2.2.2.2.2.2.2.2.2.2.2.2.2.2.2.1; have o5 := hS.2.2.2.2.2.2.2.2.2.2.2.2.2.2.2.2.2.2; clear hS; go_simp; rfl); (go_simp; refine hK _ ?_; clear hK K)
            refine wpFreeL_skip rfl (fun _ _ _ h => h) (fun K hK => ?_); go_simp; refine hK _ ?_; clear hK K
            refine wpFreeL_skip rfl (fun _ _ _ h => h) (fun K hK => ?_); go_simp; refine hK _ ?_; clear hK K
            refine wpFreeL_skip rfl (fun _ _ _ h => h) (fun K hK => ?_); go_simp; refine hK _ ?_; clear hK K
            refine wpFreeL_skip rfl (fun _ _ _ h => h) (fun K hK => ?_); go_simp; refine hK _ ?_; clear hK K
            refine wpFreeL_skip rfl (fun _ _ _ h => h) (fun K hK => ?_); go_simp; refine hK _ ?_; clear hK K
            refine wpFreeL_val rfl (fun _ _ _ h => h) (fun K hK => ?_); apply Exists.intro; refine ⟨fun L w' hS => ?_, ?_⟩; (have hb := hS.1; have hr := hS.2.1; have g0 := hS.2.2.1; have g1 := hS.2.2.2.1; have g2 := hS.2.2.2.2.1; have g3 := hS.2.2.2.2.2.1; have g4 := hS.2.2.2.2.2.2.1; have g5 := hS.2.2.2.2.2.2.2.1; have g6 := hS.2.2.2.2.2.2.2.2.1; have g7 := hS.2.2.2.2.2.2.2.2.2.1; have g8 := hS.2.2.2.2.2.2.2.2.2.2.1; have g9 := hS.2.2.2.2.2.2.2.2.2.2.2.1; have g10 := hS.2.2.2.2.2.2.2.2.2.2.2.2.1; have o0 := hS.2.2.2.2.2.2.2.2.2.2.2.2.2.1; have o1 := hS.2.2.2.2.2.2.2.2.2.2.2.2.2.2.1; have o2 := hS.2.2.2.2.2.2.2.2.2.2.2.2.2.2.2.1; have o3 := hS.2.2.2.2.2.2.2.2.2.2.2.2.2.2.2.2.1; have o4 := hS.2.2.2.2.2.2.2.2.2.2.2.2.2.2.2.2.2.1; have o5 := hS.2.2.2.2.2.2.2.2.2.2.2.2.2.2.2.2.2.2; clear hS; go_simp; rfl); (go_simp; refine hK _ ?_; clear hK K)
            refine wpFreeL_val rfl (fun _ _ _ h => h) (fun K hK => ?_); apply Exists.intro; refine ⟨fun L w' hS => ?_, ?_⟩; (have hb := hS.1; have hr := hS.2.1; have g0 := hS.2.2.1; have g1 := hS.2.2.2.1; have g2 := hS.2.2.2.2.1; have g3 := hS.2.2.2.2.2.1; have g4 := hS.2.2.2.2.2.2.1; have g5 := hS.2.2.2.2.2.2.2.1; have g6 := hS.2.2.2.2.2.2.2.2.1; have g7 := hS.2.2.2.2.2.2.2.2.2.1; have g8 := hS.2.2.2.2.2.2.2.2.2.2.1; have g9 := hS.2.2.2.2.2.2.2.2.2.2.2.1; have g10 := hS.2.2.2.2.2.2.2.2.2.2.2.2.1; have o0 := hS.2.2.2.2.2.2.2.2.2.2.2.2.2.1; have o1 := hS.2.2.2.2.2.2.2.2.2.2.2.2.2.2.1; have o2 := hS.2.2.2.2.2.2.2.2.2.2.2.2.2.2.2.1; have o3 := hS.2.2.2.2.2.2.2.2.2.2.2.2.2.2.2.2.1; have o4 := hS.2.2.2.2.2.2.2.2.2.2.2.2.2.2.2.2.2.1; have o5 := hS.2.2.2.2.2.2.2.2.2.2.2.2.2.2.2.2.2.2; clear hS; go_simp; rfl); (go_simp; refine hK _ ?_; clear hK K)
            refine wpFreeL_nil (fun L w' hL hS => ?_)
            have hb := hS.1; have hr := hS.2.1; have g0 := hS.2.2.1; have g1 := hS.2.2.2.1; have g2 := hS.2.2.2.2.1; have g3 := hS.2.2.2.2.2.1; have g4 := hS.2.2.2.2.2.2.1; have g5 := hS.2.2.2.2.2.2.2.1; have g6 := hS.2.2.2.2.2.2.2.2.1; have g7 := hS.2.2.2.2.2.2.2.2.2.1; have g8 := hS.2.2.2.2.2.2.2.2.2.2.1; have g9 := hS.2.2.2.2.2.2.2.2.2.2.2.1; have g10 := hS.2.2.2.2.2.2.2.2.2.2.2.2.1; have o0 := hS.2.2.2.2.2.2.2.2.2.2.2.2.2.1; have o1 := hS.2.2.2.2.2.2.2.2.2.2.2.2.2.2.1; have o2 := hS.2.2.2.2.2.2.2.2.2.2.2.2.2.2.2.1; have o3 := hS.2.2.2.2.2.2.2.2.2.2.2.2.2.2.2.2.1; have o4 := hS.2.2.2.2.2.2.2.2.2.2.2.2.2.2.2.2.2.1; have o5 := hS.2.2.2.2.2.2.2.2.2.2.2.2.2.2.2.2.2.2
            clear hL hS
            have d0 := g0; have q0 := g1; have q1 := g2; have q2 := g3; have hcr := g4; have qf := g5; have qt := g6; have qd := g7; have qa := g8; have qs := g9; have qm := g10; have of := o0; have ot := o1; have od := o2; have oa := o3; have os := o4; have om := o5
            have hlt0 : Bx < w'.heap.size := World.block_lt_of_cell? _ _ q0
            have hltr : w1.heap.size + 4 < w'.heap.size := World.block_lt_of_cell? _ _ hcr
            have hlz : w.heap.size < w'.heap.size := World.block_lt_of_cell? _ _ d0
            have hlr0 : w1.heap.size < w'.heap.size := by omega
            have hlr1 : w1.heap.size + 1 < w'.heap.size := by omega
            have hlr2 : w1.heap.size + 2 < w'.heap.size := by omega
            have hlr3 : w1.heap.size + 3 < w'.heap.size := by omega
            have kf := of.2; have kt := ot.2; have kd := od.2; have ka := oa.2; have ks := os.2; have km := om.2
            have HB8 := hid hb; clear hb; have HR8 := hid hr; clear hr
            clear g0 g1 g2 g3 g4 g5 g6 g7 g8 g9 g10 o0 o1 o2 o3 o4 o5
            gi_wp2_with fail
            clear kf kt kd ka ks km
            refine HF.out _ ?_ ?_ ?_ ?_ ?_
            · repeat (first | (with_reducible exact HR8.out) | refine Rnd.setCell ?_ (.inl (by dsimp only; omega)) _)
            · clear of ot od oa os om; repeat (first | exact HB8.out | refine Below.alloc ?_ (by simp [World.setCell]; try omega) _ | refine Below.setCell ?_ (by dsimp only; omega) _)
            · go_simp
            · rw [HST.out]; unfold FreeF; refine ⟨?_, ?_, ?_, ?_, ?_, ?_⟩ <;> go_simp
            · unfold FreeO; refine ⟨?_, ?_, ?_, ?_, ?_, ?_⟩ <;> ((repeat (with_reducible refine OwnC.set ?_ _ _)); (with_reducible assumption))
        · have hm3 : (m == 2) = false := by simpa using hm2
          have HST : Hid (freeStep p (f, t, true, la, ls, lm) (a, s', m) = (f, t, true, a, s', m)) := by unfold freeStep Hid; simp [hm, hm2]
          gi_wp2_with fail
          refine wpIn_region_freeL (open_round lp) (by kernel_rfl) (by kernel_rfl) (fun L w' => Below w1.heap.size W w' ∧ Rnd W0.heap.size W w' ∧ w'.cell? ⟨w.heap.size, 0, none⟩ = some (.int .i64 p) ∧ w'.cell? ⟨Bx, 0, none⟩ = some (.int .i64 a) ∧ w'.cell? ⟨Bx, 1, none⟩ = some (.int .i64 s') ∧ w'.cell? ⟨Bx, 2, none⟩ = some (.int .i64 m) ∧ w'.cell? ⟨w1.heap.size + 4, 0, none⟩ = some (.slice (some ⟨b, 0, none⟩) l.length l.length) ∧ w'.cell? ⟨w1.heap.size, 0, none⟩ = some (.int .i64 f) ∧ w'.cell? ⟨w1.heap.size + 1, 0, none⟩ = some (.int .i64 t) ∧ w'.cell? ⟨w1.heap.size + 2, 0, none⟩ = some (.bool true) ∧ w'.cell? ⟨w1.heap.size + 3, 0, none⟩ = some (.int .i64 la) ∧ w'.cell? ⟨w1.heap.size + 3, 1, none⟩ = some (.int .i64 ls) ∧ w'.cell? ⟨w1.heap.size + 3, 2, none⟩ = some (.int .i64 lm) ∧ OwnC w' ⟨w1.heap.size, 0, none⟩ ∧ OwnC w' ⟨w1.heap.size + 1, 0, none⟩ ∧ OwnC w' ⟨w1.heap.size + 2, 0, none⟩ ∧ OwnC w' ⟨w1.heap.size + 3, 0, none⟩ ∧ OwnC w' ⟨w1.heap.size + 3, 1, none⟩ ∧ OwnC w' ⟨w1.heap.size + 3, 2, none⟩) ⟨(hbb).drew, ((Rnd.refl W0.heap.size W)).drew, d0, q0, q1, q2, hcr, qf, qt, qd, qa, qs, qm, of, ot, od, oa, os, om⟩ ?_
          refine wpFreeL_val rfl (fun _ _ _ h => h) (fun K hK => ?_); apply Exists.intro; refine ⟨fun L w' hS => ?_, ?_⟩; (have hb := hS.1; have hr := hS.2.1; have g0 := hS.2.2.1; have g1 := hS.2.2.2.1; have g2 := hS.2.2.2.2.1; have g3 := hS.2.2.2.2.2.1; have g4 := hS.2.2.2.2.2.2.1; have g5 := hS.2.2.2.2.2.2.2.1; have g6 := hS.2.2.2.2.2.2.2.2.1; have g7 := hS.2.2.2.2.2.2.2.2.2.1; have g8 := hS.2.2.2.2.2.2.2.2.2.2.1; have g9 := hS.2.2.2.2.2.2.2.2.2.2.2.1; have g10 := hS.2.2.2.2.2.2.2.2.2.2.2.2.1; have o0 := hS.2.2.2.2.2.2.2.2.2.2.2.2.2.1; have o1 := hS.2.2.2.2.2.2.2.2.2.2.2.2.2.2.1; have o2 := hS.2.2.2.2.2.2.2.2.2.2.2.2.2.2.2.1; have o3 := hS.2.2.2.2.2.2.2.2.2.2.2.2.2.2.2.2.1; have o4 := hS.2.2.2.2.2.2.2.2.2.2.2.2.2.2.2.2.2.1; have o5 := hS.2.2.2.2.2.2.2.2.2.2.2.2.2.2.2.2.2.2; clear hS; go_simp; rfl); (go_simp; refine hK _ ?_; clear hK K)
          refine wpFreeL_val rfl (fun _ _ _ h => h) (fun K hK => ?_); apply Exists.intro; refine ⟨fun L w' hS => ?_, ?_⟩; (have hb := hS.1; have hr := hS.2.1; have g0 := hS.2.2.1; have g1 := hS.2.2.2.1; have g2 := hS.2.2.2.2.1; have g3 := hS.2.2.2.2.2.1; have g4 := hS.2.2.2.2.2.2.1; have g5 := hS.2.2.2.2.2.2.2.1; have g6 := hS.2.2.2.2.2.2.2.2.1; have g7 := hS.2.2.2.2.2.2.2.2.2.1; have g8 := hS.2.2.2.2.2.2.2.2.2.2.1; have g9 := hS.2.2.2.2.2.2.2.2.2.2.2.1; have g10 := hS.2.2.2.2.2.2.2.2.2.2.2.2.1; have o0 := hS.2.2.2.2.2.2.2.2.2.2.2.2.2.1; have o1 := hS.2.2.2.2.2.2.2.2.2.2.2.2.2.2.1; have o2 := hS.2.2.2.2.2.2.2.2.2.2.2.2.2.2.2.1; have o3 := hS.2.2.2.2.2.2.2.2.2.2.2.2.2.2.2.2.1; have o4 := hS.2.2.2.2.2.2.2.2.2.2.2.2.2.2.2.2.2.1; have o5 := hS.2.2.2.2.2.2.2.2.2.2.2.2.2.2.2.2.2.2; clear hS; go_simp; rfl); (go_simp; refine hK _ ?_; clear hK K)
          refine wpFreeL_val rfl (fun _ _ _ h => h) (fun K hK => ?_); apply Exists.intro; refine ⟨fun L w' hS => ?_, ?_⟩; (have hb := hS.1; have hr := hS.2.1; have g0 := hS.2.2.1; have g1 := hS.2.2.2.1; have g2 := hS.2.2.2.2.1; have g3 := hS.2.2.2.2.2.1; have g4 := hS.2.2.2.2.2.2.1; have g5 := hS.2.2.2.2.2.2.2.1; have g6 := hS.2.2.2.2.2.2.2.2.1; have g7 := hS.2.2.2.2.2.2.2.2.2.1; have g8 := hS.2.2.2.2.2.2.2.2.2.2.1; have g9 := hS.2.2.2.2.2.2.2.2.2.2.2.1; have g10 := hS.2.2.2.2.2.2.2.2.2.2.2.2.1; have o0 := hS.2.2.2.2.2.2.2.2.2.2.2.2.2.1; have o1 := hS.2.2.2.2.2.2.2.2.2.2.2.2.2.2.1; have o2 := hS.2.2.2.2.2.2.2.2.2.2.2.2.2.2.2.1; have o3 := hS.2.2.2.2.2.2.2.2.2.2.2.2.2.2.2.2.1; have o4 := hS.2.2.2.2.2.2.2.2.2.2.2.2.2.2.2.2.2.1; have o5 := hS.2.2.2.2.2.2.2.2.2.2.2.2.2.2.2.2.2.2; clear hS; go_simp; rfl); (go_simp; refine hK _ ?_; clear hK K)
          refine wpFreeL_val rfl (fun _ _ _ h => h) (fun K hK => ?_); apply Exists.intro; refine ⟨fun L w' hS => ?_, ?_⟩; (have hb := hS.1; have hr := hS.2.1; have g0 := hS.2.2.1; have g1 := hS.2.2.2.1; have g2 := hS.2.2.2.2.1; have g3 := hS.2.2.2.2.2.1; have g4 := hS.2.2.2.2.2.2.1; have g5 := hS.2.2.2.2.2.2.2.1; have g6 := hS.2.2.2.2.2.2.2.2.1; have g7 := hS.2.2.2.2.2.2.2.2.2.1; have g8 := hS.2.2.2.2.2.2.2.2.2.2.1; have g9 := hS.2.2.2.2.2.2.2.2.2.2.2.1; have g10 := hS.2.2.2.2.2.2.2.2.2.2.2.2.1; have o0 := hS.2.2.2.2.2.2.2.2.2.2.2.2.2.1; have o1 := hS.2.2.2.2.2.2.2.2.2.2.2.2.2.2.1; have o2 := hS.2.2.2.2.2.2.2.2.2.2.2.2.2.2.2.1; have o3 := hS.2.2.2.2.2.2.2.2.2.2.2.2.2.2.2.2.1; have o4 := hS.2.2.2.2.2.2.2.2.2.2.2.2.2.2.2.2.2.1; have o5 := hS.2.2.2.2.2.2.2.2.2.2.2.2.2.2.2.2.2.2; clear hS; go_simp; rfl); (go_simp; refine hK _ ?_; clear hK K)
          refine wpFreeL_skip rfl (fun _ _ _ h => h) (fun K hK => ?_); go_simp; refine hK _ ?_; clear hK K
          refine wpFreeL_skip rfl (fun _ _ _ h => h) (fun K hK => ?_); go_simp; refine hK _ ?_; clear hK K
          refine wpFreeL_skip rfl (fun _ _ _ h => h) (fun K hK => ?_); go_simp; refine hK _ ?_; clear hK K
          refine wpFreeL_skip rfl (fun _ _ _ h => h) (fun K hK => ?_); go_simp; refine hK _ ?_; clear hK K
          refine wpFreeL_skip rfl (fun _ _ _ h => h) (fun K hK => ?_); go_simp; refine hK _ ?_; clear hK K
          refine wpFreeL_val rfl (fun _ _ _ h => h) (fun K hK => ?_); apply Exists.intro; refine ⟨fun L w' hS => ?_, ?_⟩; (have hb := hS.1; have hr := hS.2.1; have g0 := hS.2.2.1; have g1 := hS.2.2.2.1; have g2 := hS.2.2.2.2.1; have g3 := hS.2.2.2.2.2.1; have g4 := hS.2.2.2.2.2.2.1; have g5 := hS.2.2.2.2.2.2.2.1; have g6 := hS.2.2.2.2.2.2.2.2.1; have g7 := hS.2.2.2.2.2.2.2.2.2.1; have g8 := hS.2.2.2.2.2.2.2.2.2.2.1; have g9 := hS.2.2.2.2.2.2.2.2.2.2.2.1; have g10 := hS.2.2.2.2.2.2.2.2.2.2.2.2.1; have o0 := hS.2.2.2.2.2.2.2.2.2.2.2.2.2.1; have o1 := hS.2.2.2.2.2.2.2.2.2.2.2.2.2.2.1; have o2 := hS.2.2.2.2.2.2.2.2.2.2.2.2.2.2.2.1; have o3 := hS.2.2.2.2.2.2.2.2.2.2.2.2.2.2.2.2.1; have o4 := hS.2.2.2.2.2.2.2.2.2.2.2.2.2.2.2.2.2.1; have o5 := hS.2.2.2.2.2.2.2.2.2.2.2.2.2.2.2.2.2.2; clear hS; go_simp; rfl); (go_simp; refine hK _ ?_; clear hK K)
          refine wpFreeL_val rfl (fun _ _ _ h => h) (fun K hK => ?_); apply Exists.intro; refine ⟨fun L w' hS => ?_, ?_⟩; (have hb := hS.1; have hr := hS.2.1; have g0 := hS.2.2.1; have g1 := hS.2.2.2.1; have g2 := hS.2.2.2.2.1; have g3 := hS.2.2.2.2.2.1; have g4 := hS.2.2.2.2.2.2.1; have g5 := hS.2.2.2.2.2.2.2.1; have g6 := hS.2.2.2.2.2.2.2.2.1; have g7 := hS.2.2.2.2.2.2.2.2.2.1; have g8 := hS.2.2.2.2.2.2.2.2.2.2.1; have g9 := hS.2.2.2.2.2.2.2.2.2.2.2.1; have g10 := hS.2.2.2.2.2.2.2.2.2.2.2.2.1; have o0 := hS.2.2.2.2.2.2.2.2.2.2.2.2.2.1; have o1 := hS.2.2.2.2.2.2.2.2.2.2.2.2.2.2.1; have o2 := hS.2.2.2.2.2.2.2.2.2.2.2.2.2.2.2.1; have o3 := hS.2.2.2.2.2.2.2.2.2.2.2.2.2.2.2.2.1; have o4 := hS.2.2.2.2.2.2.2.2.2.2.2.2.2.2.2.2.2.1; have o5 := hS.2.2.2.2.2.2.2.2.2.2.2.2.2.2.2.2.2.2; clear hS; go_simp; rfl); (go_simp; refine hK _ ?_; clear hK K)
          refine wpFreeL_nil (fun L w' hL hS => ?_)
          have hb := hS.1; have hr := hS.2.1; have g0 := hS.2.2.1; have g1 := hS.2.2.2.1; have g2 := hS.2.2.2.2.1; have g3 := hS.2.2.2.2.2.1; have g4 := hS.2.2.2.2.2.2.1; have g5 := hS.2.2.2.2.2.2.2.1; have g6 := hS.2.2.2.2.2.2.2.2.1; have g7 := hS.2.2.2.2.2.2.2.2.2.1; have g8 := hS.2.2.2.2.2.2.2.2.2.2.1; have g9 := hS.2.2.2.2.2.2.2.2.2.2.2.1; have g10 := hS.2.2.2.2.2.2.2.2.2.2.2.2.1; have o0 := hS.2.2.2.2.2.2.2.2.2.2.2.2.2.1; have o1 := hS.2.2.2.2.2.2.2.2.2.2.2.2.2.2.1; have o2 := hS.2.2.2.2.2.2.2.2.2.2.2.2.2.2.2.1; have o3 := hS.2.2.2.2.2.2.2.2.2.2.2.2.2.2.2.2.1; have o4 := hS.2.2.2.2.2.2.2.2.2.2.2.2.2.2.2.2.2.1; have o5 := hS.2.2.2.2.2.2.2.2.2.2.2.2.2.2.2.2.2.2
          clear hL hS
          have d0 := g0; have q0 := g1; have q1 := g2; have q2 := g3; have hcr := g4; have qf := g5; have qt := g6; have qd := g7; have qa := g8; have qs := g9; have qm := g10; have of := o0; have ot := o1; have od := o2; have oa := o3; have os := o4; have om := o5
          have hlt0 : Bx < w'.heap.size := World.block_lt_of_cell? _ _ q0
          have hltr : w1.heap.size + 4 < w'.heap.size := World.block_lt_of_cell? _ _ hcr
          have hlz : w.heap.size < w'.heap.size := World.block_lt_of_cell? _ _ d0
          have hlr0 : w1.heap.size < w'.heap.size := by omega
          have hlr1 : w1.heap.size + 1 < w'.heap.size := by omega
          have hlr2 : w1.heap.size + 2 < w'.heap.size := by omega
          have hlr3 : w1.heap.size + 3 < w'.heap.size := by omega
          have kf := of.2; have kt := ot.2; have kd := od.2; have ka := oa.2; have ks := os.2; have km := om.2
          have HB8 := hid hb; clear hb; have HR8 := hid hr; clear hr
          clear g0 g1 g2 g3 g4 g5 g6 g7 g8 g9 g10 o0 o1 o2 o3 o4 o5
          gi_wp2_with fail
          clear kf kt kd ka ks km
          refine HF.out _ ?_ ?_ ?_ ?_ ?_
          · repeat (first | (with_reducible exact HR8.out) | refine Rnd.setCell ?_ (.inl (by dsimp only; omega)) _)
          · clear of ot od oa os om; repeat (first | exact HB8.out | refine Below.alloc ?_ (by simp [World.setCell]; try omega) _ | refine Below.setCell ?_ (by dsimp only; omega) _)
          · go_simp
          · rw [HST.out]; unfold FreeF; refine ⟨?_, ?_, ?_, ?_, ?_, ?_⟩ <;> go_simp
          · unfold FreeO; refine ⟨?_, ?_, ?_, ?_, ?_, ?_⟩ <;> ((repeat (with_reducible refine OwnC.set ?_ _ _)); (with_reducible assumption))
  case hstop =>
    rintro D c k W hD hi hK
    exact hi.elim
  case hdone =>
    rintro D W hD ⟨hbw, hcr, hF, hO⟩ hK
    rw [List.length_map, List.take_length] at hF
    have HK := hid hK
    have hDlt : D < W.heap.size := (Array.getElem?_eq_some_iff.1 hK).1
    have HBO := hid (HW0.out.trans (hbw.mono (by omega)))
    have HB := hid (hB0.below hbw hblt)
    have HFS : ∃ st, Hid (freeS p us = st) := ⟨_, rfl⟩
    obtain ⟨st, HFS⟩ := HFS
    have HFB : Hid (st.2.2.1 = true → 8 ≤ st.1 ∧ st.1 + 8 ≤ st.2.1 ∧ st.2.1 ≤ 8 + num l 0) := by have := HFB.out; rw [show us.foldl (freeStep p) (-1, -1, false, 0, 0, 0) = st from HFS.out] at this; exact this
    have H5 : Hid (st.2.2.1 = true → 1 ≤ num l 4) := by have := H5.out; rw [HFS.out] at this; exact this
    rw [HFS.out] at hF
    obtain ⟨f, t, d, la, ls, lm⟩ := st
    have qf := hF.1
    have qt := hF.2.1
    have qd := hF.2.2.1
    simp only at qf qt qd
    have hltr : w1.heap.size + 4 < W.heap.size := World.block_lt_of_cell? _ _ hcr
    clear hF hO hK hbw hcr c0 cr hB0 hF0 hO0
    cases hd : d
    · subst hd
      have hres : freeRaw l us p = ([], 122) := by unfold freeRaw; rw [HFS.out]; simp
      have HRS := hid hres; clear hres
      gi_wp2_with fail
      refine ⟨by simp, .inl ⟨_, _, rfl, run_takeDeferred HK.out, .tuple #[.string ⟨#[]⟩, .int .i64 122], by simp [results, Try.results22, go_sem], by rw [HRS.out]; rfl, below_put HBO.out (by omega) _⟩⟩
    · subst hd
      have hb5 := H5.out rfl
      have hfb := HFB.out rfl
      simp only at hfb hb5
      obtain ⟨hf1, hf2, hf3⟩ := hfb
      obtain ⟨W2, hcl, hB2, hg2⟩ := run_clear79 W b f.toNat (t.toNat - f.toNat) (l.length - f.toNat) l HB.out (by omega) (by omega)
      have hcut : cutAt b 0 f.toNat l.length = some ⟨b, f.toNat, none⟩ := by rw [cutAt_lt (Nat.le_refl _) (by omega), Nat.zero_add]
      have qf := hg2.cell qf (by simp; omega)
      have qt := hg2.cell qt (by simp; omega)
      have hK2 : W2.heap[D]? = some (.deferred (some [])) := (hg2.block D hDlt (by simp; omega)).trans HK.out
      have HBO2 := hid (below_grown HBO.out hg2 hbz)
      have hz2 : W.heap.size ≤ W2.heap.size := hg2.size
      clear hg2
      obtain ⟨l1, hl1⟩ : ∃ l1, l1 = over l f.toNat (List.replicate (t.toNat - f.toNat) 0) := ⟨_, rfl⟩
      rw [← hl1] at hB2
      have hl1l : l1.length = l.length := by rw [hl1]; exact over_length _ _ _ (by simp; omega)
      have hn4' : num l1 4 = num l 4 := by rw [hl1]; exact num_over _ _ _ _ (by omega) (by omega)
      have hn0' : num l1 0 = num l 0 := by rw [hl1]; exact num_over _ _ _ _ (by omega) (by omega)
      have HB2 := hid hB2; clear hB2
      have HK2 := hid hK2; clear hK2 HK HB HBO
      have HL1 := hid hl1; have HLL := hid hl1l; have HN4 := hid hn4'; have HN0 := hid hn0'
      clear hl1 hn4' hn0'
      have hw4 : IntKind.i64.wrap (num l1 4 - 1) = num l 4 - 1 := by rw [HN4.out]; exact IntWalk.i64_in _ ⟨by omega, by omega⟩
      clear hl1l
      gi_wp2_with fail
      refine ⟨trivial, rfl, ?_⟩
      have HLL' : l1.length = l.length := HLL.out
      refine (callsIn_wide.2 (get_any b _ _ l1 4 _ HB2.out HLL.out (by omega) (by omega) (Nat.le_refl _) (by omega))).mono ?_
      clear HLL'
      rintro e w3 ⟨rfl, rfl⟩
      gi_wp2_with fail
      clear hw4
      refine ⟨trivial, rfl, ?_⟩
      refine (callsIn_wide.2 (set_any b _ _ l1 4 (num l 4 - 1) _ HB2.out HLL.out (by omega) (by omega) (Nat.le_refl _) (by omega) (by omega) (by omega))).mono ?_
      rintro e w3 ⟨rfl, hB3, hg3, -⟩
      obtain ⟨l2, hl2⟩ : ∃ l2, l2 = setL l1 4 (num l 4 - 1).toNat := ⟨_, rfl⟩
      rw [show (4 : Int).toNat = 4 from rfl, ← hl2] at hB3
      have hl2l : l2.length = l.length := by rw [hl2, setL_length]; exact HLL.out
      have hn0' : num l2 0 = num l 0 := by rw [hl2, num_set_ne _ _ _ _ (.inl (by omega))]; exact HN0.out
      have qf := hg3.cell qf (by simp; omega)
      have qt := hg3.cell qt (by simp; omega)
      have hK3 : w3.heap[D]? = some (.deferred (some [])) := (hg3.block D (by omega) (by simp; omega)).trans HK2.out
      have HBO3 := hid (below_grown HBO2.out hg3 hbz)
      have hz3 : W.heap.size ≤ w3.heap.size := Nat.le_trans hz2 hg3.size
      clear hg3
      have HB3 := hid hB3; clear hB3
      have HK3 := hid hK3; clear hK3 HK2 HB2 HBO2
      have HL2 := hid hl2; have HLL2 := hid hl2l; have HN02 := hid hn0'
      clear hl2 hl2l hn0' hcl hcut
      have hb3 : Below w3.heap.size w3 w3 := Below.refl _ _
      gi_wp2_with fail
      refine wpIn_region_freeL open_wide (by kernel_rfl) (by kernel_rfl) (fun L w' => Below w3.heap.size w3 w' ∧ Bytes w' b (l2) ∧ w'.cell? ⟨w1.heap.size, 0, none⟩ = some (.int .i64 f) ∧ w'.cell? ⟨w1.heap.size + 1, 0, none⟩ = some (.int .i64 t)) ⟨(hb3).drew, HB3.out, qf, qt⟩ ?_
      refine wpFreeL_val rfl (fun _ _ _ h => h) (fun K hK => ?_); apply Exists.intro; refine ⟨fun L w' hS => ?_, ?_⟩; (have hb := hS.1; have hB := hS.2.1; have g0 := hS.2.2.1; have g1 := hS.2.2.2; clear hS; go_simp; rfl); (go_simp; refine hK _ ?_; clear hK K)
      refine wpFreeL_val rfl (fun _ _ _ h => h) (fun K hK => ?_); apply Exists.intro; refine ⟨fun L w' hS => ?_, ?_⟩; (have hb := hS.1; have hB := hS.2.1; have g0 := hS.2.2.1; have g1 := hS.2.2.2; clear hS; go_simp; rfl); (go_simp; refine hK _ ?_; clear hK K)
      refine wpFreeL_gen rfl (fun K hK => ?_); apply Exists.intro; refine ⟨fun L w' hcl hL hdep hS => ?_, ?_⟩
      · have hb := hS.1; have hB := hS.2.1; have g0 := hS.2.2.1; have g1 := hS.2.2.2; go_simp; refine (hend_any b _ _ l2 _ hB HLL2.out (by omega) (Nat.le_refl _) (by omega)).mono ?_; rintro e w1 ⟨rfl, rfl⟩; exact ⟨rfl, hS⟩
      go_simp; refine hK _ ?_; clear hK K
      refine wpFreeL_val rfl (fun _ _ _ h => h) (fun K hK => ?_); apply Exists.intro; refine ⟨fun L w' hS => ?_, ?_⟩; (have hb := hS.1; have hB := hS.2.1; have g0 := hS.2.2.1; have g1 := hS.2.2.2; clear hS; go_simp; rfl); (go_simp; refine hK _ ?_; clear hK K)
      refine wpFreeL_nil (fun L w' hL hS => ?_)
      have hb := hS.1; have hB := hS.2.1; have g0 := hS.2.2.1; have g1 := hS.2.2.2
      clear hL hS
      have qf := g0
      have qt := g1
      clear g0 g1
      have hK4 : w'.heap[D]? = some (.deferred (some [])) := (hb.block D (by have := (Array.getElem?_eq_some_iff.1 HK3.out).1; omega)).trans HK3.out
      have HK4 := hid hK4; clear hK4
      have HBO4 := hid (HBO3.out.trans (hb.mono (by have := HBO3.out.size; omega)))
      have hz4 : W.heap.size ≤ w'.heap.size := Nat.le_trans hz3 hb.size
      clear hb hb3
      have HB4 := hid hB; clear hB
      have hDw : D < w'.heap.size := by omega
      have hwf : IntKind.i64.wrap (f - 8) = f - 8 := IntWalk.i64_in _ ⟨by omega, by omega⟩
      have hwt : IntKind.i64.wrap (t - f) = t - f := IntWalk.i64_in _ ⟨by omega, by omega⟩
      have hwu : IntKind.i64.wrap (t - f - 8) = t - f - 8 := IntWalk.i64_in _ ⟨by omega, by omega⟩
      by_cases ht : t = 8 + num l2 0
      · have ht1 : (t == 8 + num l2 0) = true := by simpa using ht
        have hres : freeRaw l us p = (setL l2 0 (f - 8).toNat, 0) := by
          unfold freeRaw; rw [HFS.out]; simp only [if_true]
          rw [if_pos (by rw [ht, HN02.out]), HL2.out, HL1.out]
        have HRS := hid hres; clear hres ht
        gi_wp2_with fail
        refine ⟨trivial, rfl, ?_⟩
        refine (callsIn_wide.2 (set_any b _ _ l2 0 (f - 8) _ HB4.out HLL2.out (by omega) (by omega) (Nat.le_refl _) (by omega) (by omega) (by omega))).mono ?_
        rintro e w5 ⟨rfl, hB5, hg5, -⟩
        obtain ⟨l3, hl3⟩ : ∃ l3, l3 = (freeRaw l us p).1 := ⟨_, rfl⟩
        have hB5 : Bytes w5 b l3 := by rw [hl3, HRS.out]; exact hB5
        have hl3l : l3.length = l.length := by rw [hl3, HRS.out]; simp only [putHead, setL_length]; exact HLL2.out
        have HRS : Hid (freeRaw l us p = (l3, 0)) := by rw [hl3, HRS.out]; exact rfl
        have hK5 : w5.heap[D]? = some (.deferred (some [])) := (hg5.block D hDw (by simp; omega)).trans HK4.out
        have HBO5 := hid (below_grown HBO4.out hg5 hbz)
        clear hl3 hg5
        have hq := run_str79 w5 b l.length l3 hB5
        rw [hl3l] at hq
        clear hl3l
        have HK5 := hid hK5; clear hK5
        gi_wp2_with fail
        refine ⟨by simp, .inl ⟨_, _, rfl, run_takeDeferred HK5.out, .tuple #[.string ⟨l3.toArray⟩, .int .i64 0], by simp [results, Try.results22, go_sem], by rw [HRS.out]; rfl, below_put HBO5.out (by omega) _⟩⟩
      · have ht1 : (t == 8 + num l2 0) = false := by simpa using ht
        have hres : freeRaw l us p = (putHead l2 f (t - f - 8) 2, 0) := by
          unfold freeRaw; rw [HFS.out]; simp only [if_true]
          rw [if_neg (by rw [HN02.out] at ht; exact ht), HL2.out, HL1.out]
        have HRS := hid hres; clear hres ht
        gi_wp2_with fail
        refine ⟨trivial, rfl, ?_⟩
        refine (callsIn_wide.2 (head_any b _ _ l2 f (t - f - 8) 2 _ HB4.out HLL2.out (by omega) (by omega) (Nat.le_refl _) (by omega) (by omega) (by omega) (by omega) (by omega))).mono ?_
        rintro e w5 ⟨rfl, hB5, hg5⟩
        obtain ⟨l3, hl3⟩ : ∃ l3, l3 = (freeRaw l us p).1 := ⟨_, rfl⟩
        have hB5 : Bytes w5 b l3 := by rw [hl3, HRS.out]; exact hB5
        have hl3l : l3.length = l.length := by rw [hl3, HRS.out]; simp only [putHead, setL_length]; exact HLL2.out
        have HRS : Hid (freeRaw l us p = (l3, 0)) := by rw [hl3, HRS.out]; exact rfl
        have hK5 : w5.heap[D]? = some (.deferred (some [])) := (hg5.block D hDw (by simp; omega)).trans HK4.out
        have HBO5 := hid (below_grown HBO4.out hg5 hbz)
        clear hl3 hg5
        have hq := run_str79 w5 b l.length l3 hB5
        rw [hl3l] at hq
        clear hl3l
        have HK5 := hid hK5; clear hK5
        gi_wp2_with fail
        refine ⟨by simp, .inl ⟨_, _, rfl, run_takeDeferred HK5.out, .tuple #[.string ⟨l3.toArray⟩, .int .i64 0], by simp [results, Try.results22, go_sem], by rw [HRS.out]; rfl, below_put HBO5.out (by omega) _⟩⟩
end Go.Proofs.Ytcfmimfkaabmkaa
