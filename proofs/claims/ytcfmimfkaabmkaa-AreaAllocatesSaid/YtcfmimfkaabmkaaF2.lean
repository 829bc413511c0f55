/- The walk of the law AreaAllocates. -/
import Derived.Test.YtcfmimfkaabmkaaF1
set_option linter.unusedVariables false
set_option linter.unusedSimpArgs false
namespace Go.Proofs.Ytcfmimfkaabmkaa
open Go.RowKit
attribute [local go_sem] Oper.semAt_some
attribute [local irreducible] num
theorem alloc_no (l : List UInt8) (n : Int) (w : World) (hl : l.length ≤ maxLen) (h : openS l = false) : Calls Try.prog 20 #[.string ⟨l.toArray⟩, .int .i64 n] w (TriPost ([], 0, 120) w) := alloc_bad ⟨l.toArray⟩ n w hl h
theorem free_no (l : List UInt8) (p : Int) (w : World) (hl : l.length ≤ maxLen) (h : openS l = false) : Calls Try.prog 22 #[.string ⟨l.toArray⟩, .int .i64 p] w (StrPost ([], 120) w) := free_bad ⟨l.toArray⟩ p w hl h
/-- Both packages answer Alloc and Free alike. -/
theorem alloc_alike (l : List UInt8) (hl : l.length ≤ maxLen) (n p : Int) : ∃ (r : List UInt8 × Int × Int) (q : List UInt8 × Int),
    (∀ w, Calls Try.prog 20 #[.string ⟨l.toArray⟩, .int .i64 n] w (fun e w' => e = .returned (.tuple #[.string ⟨r.1.toArray⟩, .int .i64 r.2.1, .int .i64 r.2.2]) ∧ Below w.heap.size w w')) ∧
    (∀ w, Calls Try.prog 21 #[.string ⟨l.toArray⟩, .int .i64 n] w (fun e w' => e = .returned (.tuple #[.string ⟨r.1.toArray⟩, .int .i64 r.2.1, .int .i64 r.2.2]) ∧ Below w.heap.size w w')) ∧
    (∀ w, Calls Try.prog 22 #[.string ⟨l.toArray⟩, .int .i64 p] w (fun e w' => e = .returned (.tuple #[.string ⟨q.1.toArray⟩, .int .i64 q.2]) ∧ Below w.heap.size w w')) ∧
    (∀ w, Calls Try.prog 23 #[.string ⟨l.toArray⟩, .int .i64 p] w (fun e w' => e = .returned (.tuple #[.string ⟨q.1.toArray⟩, .int .i64 q.2]) ∧ Below w.heap.size w w')) := by
  cases h : openS l with
  | false => exact ⟨([], 0, 120), ([], 120), fun w => alloc_no l n w hl h, fun w => ralloc_bad l n w hl h, fun w => free_no l p w hl h, fun w => rfree_bad l p w hl h⟩
  | true =>
    obtain ⟨lay, hA⟩ := (openS_iff l).1 h
    exact ⟨allocA l.length lay n, freeA l.length lay p, fun w => alloc_any l n lay w hA, fun w => ralloc_any l n lay w hA, fun w => free_any l p lay w hA, fun w => rfree_any l p lay w hA⟩
set_option maxHeartbeats 2000000 in
set_option maxRecDepth 100000 in
theorem allocates_law (l s : List UInt8) (n p : Int) (w : World) (hl : l.length ≤ maxLen) : Calls Try.prog 3 #[.agg #[.string ⟨l.toArray⟩, .int .i64 n, .int .i64 p, .string ⟨s.toArray⟩]] w (SanePost w) := by
  obtain ⟨r, q, h1, h2, h3, h4⟩ := alloc_alike l hl n p
  obtain ⟨r1, r2, r3⟩ := r
  obtain ⟨q1, q2⟩ := q
  simp only at h1 h2 h3 h4
  have H1 := hid h1; have H2 := hid h2; have H3 := hid h3; have H4 := hid h4
  clear h1 h2 h3 h4
  unfold maxLen at hl
  go_enter Try.func3, Try.ntmps3
  go_wp2_with fail
  refine (sane_any _).mono ?_
  rintro e w1 ⟨rfl, hb1⟩
  have HB1 : Hid (Below w.heap.size w w1) := ((Below.refl w.heap.size w).alloc (Nat.le_refl _) _).trans (hb1.mono (by simp))
  have c0 : w1.cell? ⟨w.heap.size, 0, none⟩ = some (.string ⟨l.toArray⟩) := keepc hb1 (cell_new _ _ _ 0 _ rfl)
  have c1 : w1.cell? ⟨w.heap.size, 1, none⟩ = some (.int .i64 n) := keepc hb1 (cell_new _ _ _ 1 _ rfl)
  have c2 : w1.cell? ⟨w.heap.size, 2, none⟩ = some (.int .i64 p) := keepc hb1 (cell_new _ _ _ 2 _ rfl)
  clear hb1
  go_wp2_with fail
  refine (H1.out _).mono ?_
  rintro e w2 ⟨rfl, hb2⟩
  have c0 := keepc hb2 c0; have c1 := keepc hb2 c1; have c2 := keepc hb2 c2
  have HB2 := hid hb2; clear hb2
  go_wp2_with fail
  refine (H2.out _).mono ?_
  rintro e w3 ⟨rfl, hb3⟩
  have c0 := keepc hb3 c0; have c2 := keepc hb3 c2
  have HB3 := hid hb3; clear hb3
  go_wp2_with fail
  refine (H3.out _).mono ?_
  rintro e w4 ⟨rfl, hb4⟩
  have c0 := keepc hb4 c0; have c2 := keepc hb4 c2
  have HB4 := hid hb4; clear hb4
  go_wp2_with fail
  refine (H4.out _).mono ?_
  rintro e w5 ⟨rfl, hb5⟩
  have HB5 := hid hb5; clear hb5
  go_wp2_with fail
  go_ret
  exact ⟨rfl, below_step HB5.out (below_step HB4.out (below_step HB3.out (below_step HB2.out HB1.out)))⟩
end Go.Proofs.Ytcfmimfkaabmkaa
