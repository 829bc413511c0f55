/- The walk of the law AreaAssigns. -/
import Derived.Test.YtcfmimfkaabmkaaH2
set_option linter.unusedVariables false
set_option linter.unusedSimpArgs false
namespace Go.Proofs.Ytcfmimfkaabmkaa
open Go.RowKit
attribute [local go_sem] Oper.semAt_some
attribute [local irreducible] num
theorem assign_alike (tt fr : List UInt8) (n : Int) (ht : tt.length ≤ maxLen) (hf : fr.length ≤ maxLen) : ∃ (r1 : List UInt8) (r2 : Int) (q1 : List UInt8) (q2 : Int),
    (∀ w, Calls Try.prog 28 #[.string ⟨tt.toArray⟩, .string ⟨fr.toArray⟩] w (fun e w' => e = .returned (.tuple #[.string ⟨r1.toArray⟩, .int .i64 r2]) ∧ Below w.heap.size w w')) ∧
    (∀ w, Calls Try.prog 29 #[.string ⟨tt.toArray⟩, .string ⟨fr.toArray⟩] w (fun e w' => e = .returned (.tuple #[.string ⟨r1.toArray⟩, .int .i64 r2]) ∧ Below w.heap.size w w')) ∧
    (∀ w, Calls Try.prog 30 #[.string ⟨fr.toArray⟩, .int .i64 n] w (fun e w' => e = .returned (.tuple #[.string ⟨q1.toArray⟩, .int .i64 q2]) ∧ Below w.heap.size w w')) ∧
    (∀ w, Calls Try.prog 31 #[.string ⟨fr.toArray⟩, .int .i64 n] w (fun e w' => e = .returned (.tuple #[.string ⟨q1.toArray⟩, .int .i64 q2]) ∧ Below w.heap.size w w')) :=
  ⟨(assignS tt fr).1, (assignS tt fr).2, (resizeS fr n).1, (resizeS fr n).2, fun w => assign_any tt fr w ht hf, fun w => rassign_any tt fr w ht hf, fun w => resize_any fr n w hf, fun w => rresize_any fr n w hf⟩
set_option maxHeartbeats 2000000 in
set_option maxRecDepth 100000 in
theorem assigns_law (tt fr : List UInt8) (n : Int) (w : World) (ht : tt.length ≤ maxLen) (hf : fr.length ≤ maxLen) : Calls Try.prog 5 #[.string ⟨tt.toArray⟩, .string ⟨fr.toArray⟩, .int .i64 n] w (SanePost w) := by
  obtain ⟨r1, r2, q1, q2, h1, h2, h3, h4⟩ := assign_alike tt fr n ht hf
  have H1 := hid h1; have H2 := hid h2; have H3 := hid h3; have H4 := hid h4
  clear h1 h2 h3 h4
  unfold maxLen at ht hf
  go_enter Try.func5, Try.ntmps5
  go_wp2_with fail
  refine (sane_any _).mono ?_
  rintro e w1 ⟨rfl, hb1⟩
  have HB1 := hid hb1; clear hb1
  go_wp2_with fail
  refine (H1.out _).mono ?_
  rintro e w2 ⟨rfl, hb2⟩
  have HB2 := hid hb2; clear hb2
  go_wp2_with fail
  refine (H2.out _).mono ?_
  rintro e w3 ⟨rfl, hb3⟩
  have HB3 := hid hb3; clear hb3
  go_wp2_with fail
  refine (H3.out _).mono ?_
  rintro e w4 ⟨rfl, hb4⟩
  have HB4 := hid hb4; clear hb4
  go_wp2_with fail
  refine (H4.out _).mono ?_
  rintro e w5 ⟨rfl, hb5⟩
  have HB5 := hid hb5; clear hb5
  go_wp2_with fail
  go_ret
  exact ⟨rfl, below_step HB5.out (below_step HB4.out (below_step HB3.out (below_step HB2.out HB1.out)))⟩
end Go.Proofs.Ytcfmimfkaabmkaa
