/- The walk of the law AreaReads. -/
import Derived.Test.YtcfmimfkaabmkaaM3
set_option linter.unusedVariables false
set_option linter.unusedSimpArgs false
namespace Go.Proofs.Ytcfmimfkaabmkaa
open Go.RowKit
attribute [local go_sem] Oper.semAt_some
attribute [local irreducible] num
theorem find_any (l : List UInt8) (at_ : Int) (w : World) (hl : l.length ≤ maxLen) : Calls Try.prog 40 #[.string ⟨l.toArray⟩, .int .i64 at_] w (PieceR (findS l at_) w) := by
  cases h : openS l with
  | true => exact find_area l at_ w hl h
  | false =>
    have hX : findS l at_ = ((0, 0), 120) := by unfold findS; rw [h]; rfl
    rw [hX]
    exact refuse_find l at_ hl h w
theorem reads_alike (l : List UInt8) (at_ n : Int) (s : List UInt8) (hl : l.length ≤ maxLen) (hs : s.length ≤ maxLen) : ∃ (p1 p2 p3 : Int) (q1 : List UInt8) (q2 : Int) (r1 : List UInt8) (r2 : Int),
    (Rets 40 #[.string ⟨l.toArray⟩, .int .i64 at_] (.tuple #[.agg #[.int .i64 p1, .int .i64 p2], .int .i64 p3])) ∧ (Rets 41 #[.string ⟨l.toArray⟩, .int .i64 at_] (.tuple #[.agg #[.int .i64 p1, .int .i64 p2], .int .i64 p3])) ∧
    (Rets 42 #[.string ⟨l.toArray⟩, .int .i64 at_, .int .i64 n] (.tuple #[.string ⟨q1.toArray⟩, .int .i64 q2])) ∧ (Rets 43 #[.string ⟨l.toArray⟩, .int .i64 at_, .int .i64 n] (.tuple #[.string ⟨q1.toArray⟩, .int .i64 q2])) ∧
    (Rets 44 #[.string ⟨l.toArray⟩, .int .i64 at_, .string ⟨s.toArray⟩] (.tuple #[.string ⟨r1.toArray⟩, .int .i64 r2])) ∧ (Rets 45 #[.string ⟨l.toArray⟩, .int .i64 at_, .string ⟨s.toArray⟩] (.tuple #[.string ⟨r1.toArray⟩, .int .i64 r2])) :=
  ⟨_, _, _, _, _, _, _, fun w => find_any l at_ w hl, fun w => rfind_any l at_ w hl, fun w => get2_any l at_ n w hl, fun w => rget_any l at_ n w hl, fun w => put_any l at_ s w hl hs, fun w => rput_any l at_ s w hl hs⟩
set_option maxHeartbeats 4000000 in
set_option maxRecDepth 100000 in
theorem reads_law (l s : List UInt8) (n p : Int) (w : World) (hl : l.length ≤ maxLen) (hs : s.length ≤ maxLen) : Calls Try.prog 9 #[.agg #[.string ⟨l.toArray⟩, .int .i64 n, .int .i64 p, .string ⟨s.toArray⟩]] w (SanePost w) := by
  obtain ⟨p1, p2, p3, q1, q2, r1, r2, h1, h2, h3, h4, h5, h6⟩ := reads_alike l p n s hl hs
  have H1 := hid h1; have H2 := hid h2; have H3 := hid h3; have H4 := hid h4; have H5 := hid h5; have H6 := hid h6
  clear h1 h2 h3 h4 h5 h6
  unfold maxLen at hl hs
  go_enter Try.func9, Try.ntmps9
  go_wp2_with fail
  refine (sane_any _).mono ?_
  rintro e w1 ⟨rfl, hb1⟩
  have HB1 : Hid (Below w.heap.size w w1) := ((Below.refl w.heap.size w).alloc (Nat.le_refl _) _).trans (hb1.mono (by simp))
  have c0 : w1.cell? ⟨w.heap.size, 0, none⟩ = some (.string ⟨l.toArray⟩) := keepc hb1 (cell_new _ _ _ 0 _ rfl)
  have c1 : w1.cell? ⟨w.heap.size, 1, none⟩ = some (.int .i64 n) := keepc hb1 (cell_new _ _ _ 1 _ rfl)
  have c2 : w1.cell? ⟨w.heap.size, 2, none⟩ = some (.int .i64 p) := keepc hb1 (cell_new _ _ _ 2 _ rfl)
  have c3 : w1.cell? ⟨w.heap.size, 3, none⟩ = some (.string ⟨s.toArray⟩) := keepc hb1 (cell_new _ _ _ 3 _ rfl)
  clear hb1
  go_wp2_with fail
  refine (H1.out _).mono ?_
  rintro e w2 ⟨rfl, hb2⟩
  have c0 := keepc hb2 c0; have c1 := keepc hb2 c1; have c2 := keepc hb2 c2; have c3 := keepc hb2 c3
  have hz2 := World.block_lt_of_cell? _ _ c0
  simp only at hz2
  have HB2 := hid (below_step hb2 HB1.out); clear hb2
  go_wp2_with fail
  refine (H2.out _).mono ?_
  rintro e w3 ⟨rfl, hb3⟩
  have c0 := keepc hb3 (keep_alloc c0 _); have c1 := keepc hb3 (keep_alloc c1 _); have c2 := keepc hb3 (keep_alloc c2 _); have c3 := keepc hb3 (keep_alloc c3 _)
  have d0 : w3.cell? ⟨w2.heap.size, 0, none⟩ = some (.int .i64 p1) := keepc hb3 (cell_new _ _ _ 0 _ rfl)
  have d1 : w3.cell? ⟨w2.heap.size, 1, none⟩ = some (.int .i64 p2) := keepc hb3 (cell_new _ _ _ 1 _ rfl)
  have hz3 := World.block_lt_of_cell? _ _ d0
  simp only at hz3
  have hz3' : w.heap.size < w3.heap.size := by omega
  have HB3 := hid (below_step hb3 (HB2.out.alloc (by omega) _)); clear hb3
  go_wp2_with fail
  refine (H3.out _).mono ?_
  rintro e w4 ⟨rfl, hb4⟩
  have c0 := keepc hb4 (keep_alloc c0 _); have c1 := keepc hb4 (keep_alloc c1 _); have c2 := keepc hb4 (keep_alloc c2 _); have c3 := keepc hb4 (keep_alloc c3 _)
  have d0 := keepc hb4 (keep_alloc d0 _); have d1 := keepc hb4 (keep_alloc d1 _)
  have e0 : w4.cell? ⟨w3.heap.size, 0, none⟩ = some (.int .i64 p1) := keepc hb4 (cell_new _ _ _ 0 _ rfl)
  have e1 : w4.cell? ⟨w3.heap.size, 1, none⟩ = some (.int .i64 p2) := keepc hb4 (cell_new _ _ _ 1 _ rfl)
  have HB4 := hid (below_step hb4 (HB3.out.alloc (by omega) _)); clear hb4
  go_wp2_with fail
  refine (H4.out _).mono ?_
  rintro e w5 ⟨rfl, hb5⟩
  have c0 := keepc hb5 c0; have c1 := keepc hb5 c1; have c2 := keepc hb5 c2; have c3 := keepc hb5 c3; have d0 := keepc hb5 d0; have d1 := keepc hb5 d1; have e0 := keepc hb5 e0; have e1 := keepc hb5 e1
  have HB5 := hid (below_step hb5 HB4.out); clear hb5
  go_wp2_with fail
  refine (H5.out _).mono ?_
  rintro e w6 ⟨rfl, hb6⟩
  have c0 := keepc hb6 c0; have c1 := keepc hb6 c1; have c2 := keepc hb6 c2; have c3 := keepc hb6 c3; have d0 := keepc hb6 d0; have d1 := keepc hb6 d1; have e0 := keepc hb6 e0; have e1 := keepc hb6 e1
  have HB6 := hid (below_step hb6 HB5.out); clear hb6
  go_wp2_with fail
  refine (H6.out _).mono ?_
  rintro e w7 ⟨rfl, hb7⟩
  have c0 := keepc hb7 c0; have c1 := keepc hb7 c1; have c2 := keepc hb7 c2; have c3 := keepc hb7 c3; have d0 := keepc hb7 d0; have d1 := keepc hb7 d1; have e0 := keepc hb7 e0; have e1 := keepc hb7 e1
  have HB7 := hid (below_step hb7 HB6.out); clear hb7
  go_wp2_with fail
  go_ret
  exact ⟨by simp, by first | exact HB7.out | exact below_drewN HB7.out _⟩
end Go.Proofs.Ytcfmimfkaabmkaa
