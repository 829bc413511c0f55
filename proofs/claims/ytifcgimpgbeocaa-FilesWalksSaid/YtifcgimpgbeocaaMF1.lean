/- The argument of type Case, opened. -/
import Derived.Test.YtifcgimpgbeocaaMF0
set_option linter.unusedVariables false
set_option linter.unusedSimpArgs false
namespace Go.Proofs.Ytifcgimpgbeocaa
open Go.ChangeShapes Go.WideShapes Go.ChangeAt Go.RowKit Go.Joins Go.ChangeMaps Go.Deep
set_option maxRecDepth 100000 in
theorem cellsCase : Try.prog.cellsOf 71 = 9 := by kernel_rfl
set_option maxRecDepth 100000 in
theorem cellsDs : Try.prog.cellsOf 69 = 1 := by kernel_rfl
abbrev CaseT := Ds × Bs × Bs × Rec × FOp
abbrev caseV (v : Value) (c : CaseT) : Value := .agg #[v, strV c.2.1, strV c.2.2.1, strV c.2.2.2.1.1, strV c.2.2.2.1.2, .int .i64 c.2.2.2.2.1, .int .i64 c.2.2.2.2.2.1, strV c.2.2.2.2.2.2.1, strV c.2.2.2.2.2.2.2]
theorem list9 {α : Type} {l : List α} (h : l.length = 9) : ∃ a0 a1 a2 a3 a4 a5 a6 a7 a8, l = [a0, a1, a2, a3, a4, a5, a6, a7, a8] := by
  match l, h with
  | [a0, a1, a2, a3, a4, a5, a6, a7, a8], _ => exact ⟨_, _, _, _, _, _, _, _, _, rfl⟩
theorem trod_struct5 {H : Type} {enc : TypeId × Value → H} {P : Program} {w : World} {base : Nat} {spare : Nat → Bool} {held : Bool} {t : TypeId} {f0 f1 f2 f3 f4 : Field} {fuel : Nat} {cs : List Value} {x : DataW H × List MemPlace} (ht : P.underlying t = some (.struct #[f0, f1, f2, f3, f4])) (h : DataW.trod enc P w base spare held fuel t cs = some x) :
    ∃ y0 y1 y2 y3 y4 n, x = (.agg [y0.1, y1.1, y2.1, y3.1, y4.1], y0.2 ++ (y1.2 ++ (y2.2 ++ (y3.2 ++ y4.2)))) ∧ cs.length = P.cellsOf t ∧ DataW.trod enc P w base spare held n f0.type ((cs.drop f0.offset).take (P.cellsOf f0.type)) = some y0 ∧
      DataW.trod enc P w base spare held n f1.type ((cs.drop f1.offset).take (P.cellsOf f1.type)) = some y1 ∧ DataW.trod enc P w base spare held n f2.type ((cs.drop f2.offset).take (P.cellsOf f2.type)) = some y2 ∧
      DataW.trod enc P w base spare held n f3.type ((cs.drop f3.offset).take (P.cellsOf f3.type)) = some y3 ∧ DataW.trod enc P w base spare held n f4.type ((cs.drop f4.offset).take (P.cellsOf f4.type)) = some y4 := by
  obtain ⟨xs, n, _, rfl, hl, hlen, hf⟩ := DataW.trod_struct ht h
  match xs, hlen with
  | [y0, y1, y2, y3, y4], _ => exact ⟨y0, y1, y2, y3, y4, n, by simp, hl, by simpa using hf 0 f0 rfl, by simpa using hf 1 f1 rfl, by simpa using hf 2 f2 rfl, by simpa using hf 3 f3 rfl, by simpa using hf 4 f4 rfl⟩
set_option maxRecDepth 100000 in
theorem o_case {H : Type} {enc : TypeId × Value → H} {W : World} {b0 : Nat} {r : Reach} {base : Nat} {held : Bool} {spare : Nat → Bool} {v : Value} {d : DataW H} {p : List MemPlace} (hv : Value.okWide Try.prog W r b0 71 v) (h : DataW.Trod enc Try.prog W base spare held 71 v d p) :
    ∃ (u : Value) (c : CaseT), v = caseV u c ∧ RdR W u c.1 := by
  obtain ⟨cs, rfl, hsz⟩ := okWide_struct Try.underlying71 hv
  obtain ⟨fuel, hf⟩ := h
  have hf' : DataW.trod enc Try.prog W base spare held fuel 71 cs.toList = some (d, p) := by simpa [Value.cells] using hf
  obtain ⟨y0, y1, y2, y3, y4, n, -, hl, g0, g1, g2, g3, g4⟩ := trod_struct5 Try.underlying71 hf'
  rw [cellsCase] at hl
  obtain ⟨l⟩ := cs
  obtain ⟨a0, a1, a2, a3, a4, a5, a6, a7, a8, rfl⟩ := list9 (l := l) hl
  simp only [cellsDs, cellsSt, cellsRe, cellsOp, List.drop_zero, List.take_succ_cons, List.take_zero, List.drop_succ_cons] at g0 g1 g2 g3 g4
  obtain ⟨u, ds, e0, hr, -, -⟩ := o_ds g0
  obtain ⟨s1, e1, -⟩ := o_str g1
  obtain ⟨s2, e2, -⟩ := o_str g2
  obtain ⟨r3, e3, -, -⟩ := o_rec g3
  obtain ⟨o4, e4, -, -, -⟩ := o_op g4
  simp only [List.cons.injEq, and_true] at e0 e1 e2 e3 e4
  obtain ⟨e31, e32⟩ := e3
  obtain ⟨e41, e42, e43, e44⟩ := e4
  subst e0 e1 e2 e31 e32 e41 e42 e43 e44
  exact ⟨a0, (ds, s1, s2, r3, o4), rfl, hr⟩
end Go.Proofs.Ytifcgimpgbeocaa
