/- The walk of the law AreaCompacts. -/
import Derived.Test.YtcfmimfkaabmkaaO6
set_option linter.unusedVariables false
set_option linter.unusedSimpArgs false
namespace Go.Proofs.Ytcfmimfkaabmkaa
open Go.RowKit
attribute [local go_sem] Oper.semAt_some
attribute [local irreducible] num
theorem RM.kept {w w' : World} {v : Value} {ms : List Mv} (h : RM w v ms) (hb : Below w.heap.size w w') : RM w' v ms := h.below hb
theorem compacts_alike (l : List UInt8) (hl : l.length ≤ maxLen) : ∃ (a1 : List UInt8) (qs : List Mv) (a2 : Int), qs.length ≤ 10000 ∧
    (∀ w, Calls Try.prog 32 #[.string ⟨l.toArray⟩] w (fun e w' => ∃ v, e = .returned (.tuple #[.string ⟨a1.toArray⟩, v, .int .i64 a2]) ∧ RM w' v qs ∧ Below w.heap.size w w')) ∧
    (∀ w, Calls Try.prog 33 #[.string ⟨l.toArray⟩] w (fun e w' => ∃ v, e = .returned (.tuple #[.string ⟨a1.toArray⟩, v, .int .i64 a2]) ∧ RM w' v qs ∧ Below w.heap.size w w')) := by
  refine ⟨(compactS l).1, (compactS l).2.1, (compactS l).2.2, ?_, fun w => (compact_any l w hl).mono fun e w' ⟨v, h1, h2, h3⟩ => ⟨v, h1, h2.rm, h3⟩, fun w => (rcompact_any l w hl).mono fun e w' ⟨v, h1, h2, h3⟩ => ⟨v, h1, h2.rm, h3⟩⟩
  unfold compactS
  split
  · rename_i h
    have h2 := (area_num4 (area_D h)).2
    show (movesL 8 (layD l)).length ≤ 10000
    rw [movesL_len]; omega
  · exact Nat.zero_le _
set_option maxHeartbeats 4000000 in
set_option maxRecDepth 100000 in
theorem compacts_law (l : List UInt8) (v : Value) (ms : List Mv) (at_ : Int) (w : World) (hl : l.length ≤ maxLen) (hR : RM w v ms) (hml : ms.length ≤ maxLen) : Calls Try.prog 6 #[.string ⟨l.toArray⟩, v, .int .i64 at_] w (SanePost w) := by
  obtain ⟨a1, qs, a2, hqs, h32, h33⟩ := compacts_alike l hl
  have h34 := fun w' (h : RM w' v ms) => reloc_any v ms at_ w' h hml
  have h35 := fun w' (h : RM w' v ms) => rreloc_any v ms at_ w' h hml
  obtain ⟨rr, hrr⟩ : ∃ rr, relocS ms at_ = rr := ⟨_, rfl⟩
  rw [hrr] at h34 h35
  obtain ⟨r1, r2⟩ := rr
  have HR := hid hR
  have H32 := hid h32; have H33 := hid h33; have H34 := hid h34; have H35 := hid h35
  clear hrr h32 h33 h34 h35 hR
  unfold maxLen at hl hml
  go_enter Try.func6, Try.ntmps6
  go_wp2_with fail
  refine (sane_any _).mono ?_
  rintro e w1 ⟨rfl, hb1⟩
  have HR := hid (HR.out.below hb1)
  have HB1 := hid hb1; clear hb1
  go_wp2_with fail
  refine (H32.out _).mono ?_
  rintro e w2 ⟨v32, rfl, hr32, hb2⟩
  have HR32 := hid hr32; clear hr32
  have HR := hid (HR.out.below hb2)
  have HB2 := hid (below_step hb2 HB1.out); clear hb2
  go_wp2_with fail
  refine (H33.out _).mono ?_
  rintro e w3 ⟨v33, rfl, hr33, hb3⟩
  have HR33 := hid hr33; clear hr33
  have HR32 := hid (HR32.out.below hb3)
  have HR := hid (HR.out.below hb3)
  have HB3 := hid (below_step hb3 HB2.out); clear hb3
  go_wp2_with fail
  refine (H34.out _ HR.out).mono ?_
  rintro e w4 ⟨rfl, hb4⟩
  have HR33 := hid (HR33.out.below hb4)
  have HR32 := hid (HR32.out.below hb4)
  have HR := hid (HR.out.below hb4)
  have HB4 := hid (below_step hb4 HB3.out); clear hb4
  go_wp2_with fail
  refine (H35.out _ HR.out).mono ?_
  rintro e w5 ⟨rfl, hb5⟩
  have HR33 := hid (HR33.out.below hb5)
  have HR32 := hid (HR32.out.below hb5)
  have HR := hid (HR.out.below hb5)
  have HB5 := hid (below_step hb5 HB4.out); clear hb5
  go_wp2_with fail
  refine (samem_any v32 v33 qs qs _ HR32.out HR33.out (by omega) (by omega)).mono ?_
  rintro e w6 ⟨rfl, hb6⟩
  rw [decide_eq_true rfl]
  have HB6 := hid (below_step hb6 HB5.out); clear hb6
  go_wp2_with fail
  go_ret
  exact ⟨rfl, HB6.out⟩
end Go.Proofs.Ytcfmimfkaabmkaa
