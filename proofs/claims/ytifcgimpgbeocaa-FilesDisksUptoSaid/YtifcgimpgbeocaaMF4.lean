/- An act of a drive, opened, with its string's length. -/
import Derived.Test.YtifcgimpgbeocaaK36
set_option linter.unusedVariables false
set_option linter.unusedSimpArgs false
namespace Go.Proofs.Ytifcgimpgbeocaa
open Go.ChangeShapes Go.WideShapes Go.ChangeAt Go.RowKit Go.Joins Go.ChangeMaps Go.Deep
section
variable {H : Type} {enc : TypeId × Value → H} {W : World} {b0 base : Nat} {r : Reach} {held : Bool} {spare : Nat → Bool} {v : Value} {d : DataW H} {p : List MemPlace}
set_option maxRecDepth 100000 in
theorem o_ac2 {fuel : Nat} {cs : List Value} {x : DataW H × List MemPlace} (h : DataW.trod enc Try.prog W base spare held fuel 104 cs = some x) : ∃ a : Ac, cs = [.bool a.1, .int .i64 a.2.1, strV a.2.2] ∧ (-9223372036854775808 ≤ a.2.1 ∧ a.2.1 ≤ 9223372036854775807) ∧ a.2.2.length ≤ maxLen := by
  obtain ⟨y0, y1, y2, n, hx, hl, g0, g1, g2⟩ := trod_struct3 Try.underlying104 h
  rw [cellsAc] at hl
  simp only [cellsSt, cellsI, cellsBo] at g0 g1 g2
  match cs, hl with
  | [v0, v1, v2], _ =>
    simp only [List.drop_zero, List.take_succ_cons, List.take_zero, List.drop_succ_cons] at g0 g1 g2
    obtain ⟨s0, e0⟩ := o_bool g0
    obtain ⟨s1, e1, w1⟩ := o_int g1
    obtain ⟨s2, e2, hs⟩ := o_str g2
    simp only [List.cons.injEq, and_true] at e0 e1 e2
    subst e0 e1 e2
    exact ⟨(s0, s1, s2), rfl, w1, hs.1⟩
set_option maxRecDepth 100000 in
theorem act_arg2 (hv : Value.okWide Try.prog W r b0 104 v) (h : DataW.Trod enc Try.prog W base spare held 104 v d p) : ∃ (b : Bool) (n : Int) (s : Bs), v = .agg #[.bool b, .int .i64 n, strV s] ∧ s.length ≤ maxLen := by
  obtain ⟨cs, rfl, hsz⟩ := okWide_struct Try.underlying104 hv
  obtain ⟨fuel, hf⟩ := h
  have hf' : DataW.trod enc Try.prog W base spare held fuel 104 cs.toList = some (d, p) := by simpa [Value.cells] using hf
  obtain ⟨o, e, hb, hl⟩ := o_ac2 hf'
  obtain ⟨l⟩ := cs
  simp only at e
  subst e
  exact ⟨_, _, _, rfl, hl⟩
end
end Go.Proofs.Ytifcgimpgbeocaa
