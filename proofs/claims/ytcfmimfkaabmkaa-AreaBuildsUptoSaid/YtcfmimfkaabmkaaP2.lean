/- The walk of the law AreaBuilds. -/
import Derived.Test.YtcfmimfkaabmkaaP1
set_option linter.unusedVariables false
set_option linter.unusedSimpArgs false
namespace Go.Proofs.Ytcfmimfkaabmkaa
open Go.RowKit
attribute [local go_sem] Oper.semAt_some
attribute [local irreducible] num
set_option maxHeartbeats 2000000 in
set_option maxRecDepth 100000 in
theorem builds_law (n : Int) (v1 v2 : Value) (ps : List (Int × Int)) (bs : List (List UInt8)) (w : World) (hR : RP w v1 ps) (hT : RS w v2 bs) (hl1 : ps.length ≤ 10000000) (hl2 : bs.length ≤ 10000000) (hts : ∀ t ∈ bs, t.length ≤ 10000000) : Calls Try.prog 7 #[.agg #[.int .i64 n, v1, v2]] w (SanePost w) := by
  have h1 := fun w' (h : Below w.heap.size w w') => abuild_any n v1 v2 ps bs w' (hR.below h) (hT.below h) hl1 hl2 hts
  have h2 := fun w' (h : Below w.heap.size w w') => build_any n v1 v2 ps bs w' (hR.below h) (hT.below h) hl1 hl2 hts
  obtain ⟨q, hq⟩ : ∃ q, buildS n ps bs = q := ⟨_, rfl⟩
  rw [hq] at h1 h2
  obtain ⟨q1, q2⟩ := q
  have H1 : Hid (∀ w', Below w.heap.size w w' → Calls Try.prog 37 #[.int .i64 n, v1, v2] w' (fun e w'' => e = .returned (.tuple #[.string ⟨q1.toArray⟩, .int .i64 q2]) ∧ Below w'.heap.size w' w'')) := h1
  have H2 : Hid (∀ w', Below w.heap.size w w' → Calls Try.prog 38 #[.int .i64 n, v1, v2] w' (fun e w'' => e = .returned (.tuple #[.string ⟨q1.toArray⟩, .int .i64 q2]) ∧ Below w'.heap.size w' w'')) := h2
  clear h1 h2 hR hT hq
  go_enter Try.func7, Try.ntmps7
  go_wp2_with fail
  refine (sane_any _).mono ?_
  rintro e w1 ⟨rfl, hb1⟩
  have HB1 : Hid (Below w.heap.size w w1) := ((Below.refl w.heap.size w).alloc (Nat.le_refl _) _).trans (hb1.mono (by simp))
  have c0 : w1.cell? ⟨w.heap.size, 0, none⟩ = some (.int .i64 n) := keepc hb1 (cell_new _ _ _ 0 _ rfl)
  have c1 : w1.cell? ⟨w.heap.size, 1, none⟩ = some v1 := keepc hb1 (cell_new _ _ _ 1 _ rfl)
  have c2 : w1.cell? ⟨w.heap.size, 2, none⟩ = some v2 := keepc hb1 (cell_new _ _ _ 2 _ rfl)
  clear hb1
  go_wp2_with fail
  refine (H1.out _ (HB1.out.trans (Below.refl _ _))).mono ?_
  rintro e w2 ⟨rfl, hb2⟩
  have c0 := keepc hb2 c0; have c1 := keepc hb2 c1; have c2 := keepc hb2 c2
  have HB2 := hid (below_step hb2 HB1.out); clear hb2
  go_wp2_with fail
  refine (H2.out _ HB2.out).mono ?_
  rintro e w3 ⟨rfl, hb3⟩
  have HB3 := hid (below_step hb3 HB2.out); clear hb3
  go_wp2_with fail
  go_ret
  exact ⟨rfl, HB3.out⟩
end Go.Proofs.Ytcfmimfkaabmkaa
