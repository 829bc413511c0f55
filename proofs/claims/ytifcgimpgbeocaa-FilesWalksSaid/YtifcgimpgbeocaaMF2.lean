/- Arguments of the laws, opened. -/
import Derived.Test.YtifcgimpgbeocaaMF1
set_option linter.unusedVariables false
set_option linter.unusedSimpArgs false
namespace Go.Proofs.Ytifcgimpgbeocaa
open Go.ChangeShapes Go.WideShapes Go.ChangeAt Go.RowKit Go.Joins Go.ChangeMaps Go.Deep
section
variable {H : Type} {enc : TypeId × Value → H} {W : World} {b0 base : Nat} {r : Reach} {held : Bool} {spare : Nat → Bool} {v : Value} {d : DataW H} {p : List MemPlace}
set_option maxRecDepth 100000 in
theorem cellsAc : Try.prog.cellsOf 104 = 3 := by kernel_rfl
set_option maxRecDepth 100000 in
theorem cellsDk : Try.prog.cellsOf 27 = 2 := by kernel_rfl
set_option maxRecDepth 100000 in
theorem cellsSs : Try.prog.cellsOf 24 = 1 := by kernel_rfl
set_option maxRecDepth 100000 in
theorem cellsWs : Try.prog.cellsOf 25 = 1 := by kernel_rfl
set_option maxRecDepth 100000 in
/-- A slice by value. -/
theorem slice_arg {t e : TypeId} (ht : Try.prog.underlying t = some (.slice e)) (hv : Value.okWide Try.prog W r b0 t v) (h : DataW.Trod enc Try.prog W base spare held t v d p) : ∃ fuel, DataW.trod enc Try.prog W base spare held fuel t [v] = some (d, p) := by
  obtain ⟨a, n, c, rfl⟩ := okWide_slice ht hv
  obtain ⟨fuel, hf⟩ := h
  exact ⟨fuel, by simpa [Value.cells] using hf⟩
set_option maxRecDepth 100000 in
theorem ds_arg (hv : Value.okWide Try.prog W r b0 69 v) (h : DataW.Trod enc Try.prog W base spare held 69 v d p) : ∃ l : Ds, RdR W v l := by
  obtain ⟨fuel, hf⟩ := slice_arg Try.underlying69 hv h
  obtain ⟨u, l, e, hr, -, -⟩ := o_ds hf
  simp only [List.cons.injEq, and_true] at e
  subst e
  exact ⟨l, hr⟩
set_option maxRecDepth 100000 in
theorem ops_arg (hv : Value.okWide Try.prog W r b0 54 v) (h : DataW.Trod enc Try.prog W base spare held 54 v d p) : ∃ l : List FOp, RdO W v l ∧ 5 * l.length ≤ Rows.uptoBulk d := by
  obtain ⟨fuel, hf⟩ := slice_arg Try.underlying54 hv h
  obtain ⟨u, l, e, hr, -, h5, -⟩ := o_ops hf
  simp only [List.cons.injEq, and_true] at e
  subst e
  exact ⟨l, hr, h5⟩
set_option maxRecDepth 100000 in
theorem ints_arg (hv : Value.okWide Try.prog W r b0 34 v) (h : DataW.Trod enc Try.prog W base spare held 34 v d p) : ∃ l : List Int, RdI W v l ∧ l.length + 1 ≤ Rows.uptoBulk d ∧ ∀ n ∈ l, -9223372036854775808 ≤ n ∧ n ≤ 9223372036854775807 := by
  obtain ⟨fuel, hf⟩ := slice_arg Try.underlying34 hv h
  obtain ⟨u, l, e, hr, h2, h3⟩ := o_ints hf
  simp only [List.cons.injEq, and_true] at e
  subst e
  exact ⟨l, hr, h2.2, h3⟩
set_option maxRecDepth 100000 in
theorem op_arg (hv : Value.okWide Try.prog W r b0 63 v) (h : DataW.Trod enc Try.prog W base spare held 63 v d p) : ∃ o : FOp, v = opV o := by
  obtain ⟨cs, rfl, hsz⟩ := okWide_struct Try.underlying63 hv
  obtain ⟨fuel, hf⟩ := h
  have hf' : DataW.trod enc Try.prog W base spare held fuel 63 cs.toList = some (d, p) := by simpa [Value.cells] using hf
  obtain ⟨o, e, -⟩ := o_op hf'
  obtain ⟨l⟩ := cs
  simp only at e
  subst e
  exact ⟨o, rfl⟩
set_option maxRecDepth 100000 in
theorem o_ac {fuel : Nat} {cs : List Value} {x : DataW H × List MemPlace} (h : DataW.trod enc Try.prog W base spare held fuel 104 cs = some x) : ∃ a : Ac, cs = [.bool a.1, .int .i64 a.2.1, strV a.2.2] ∧ (-9223372036854775808 ≤ a.2.1 ∧ a.2.1 ≤ 9223372036854775807) := by
  obtain ⟨y0, y1, y2, n, hx, hl, g0, g1, g2⟩ := trod_struct3 Try.underlying104 h
  rw [cellsAc] at hl
  simp only [cellsSt, cellsI, cellsBo] at g0 g1 g2
  match cs, hl with
  | [v0, v1, v2], _ =>
    simp only [List.drop_zero, List.take_succ_cons, List.take_zero, List.drop_succ_cons] at g0 g1 g2
    obtain ⟨s0, e0⟩ := o_bool g0
    obtain ⟨s1, e1, w1⟩ := o_int g1
    obtain ⟨s2, e2, -⟩ := o_str g2
    simp only [List.cons.injEq, and_true] at e0 e1 e2
    subst e0 e1 e2
    exact ⟨(s0, s1, s2), rfl, w1⟩
set_option maxRecDepth 100000 in
theorem act_arg (hv : Value.okWide Try.prog W r b0 104 v) (h : DataW.Trod enc Try.prog W base spare held 104 v d p) : ∃ a : Ac, v = acV a ∧ (-9223372036854775808 ≤ a.2.1 ∧ a.2.1 ≤ 9223372036854775807) := by
  obtain ⟨cs, rfl, hsz⟩ := okWide_struct Try.underlying104 hv
  obtain ⟨fuel, hf⟩ := h
  have hf' : DataW.trod enc Try.prog W base spare held fuel 104 cs.toList = some (d, p) := by simpa [Value.cells] using hf
  obtain ⟨o, e, hb⟩ := o_ac hf'
  obtain ⟨l⟩ := cs
  simp only at e
  subst e
  exact ⟨o, rfl, hb⟩
set_option maxRecDepth 100000 in
/-- A disk by value: its pages and its writes. -/
theorem disk_arg (hv : Value.okWide Try.prog W r b0 27 v) (h : DataW.Trod enc Try.prog W base spare held 27 v d p) : ∃ (k : Dk) (vp vq : Value), v = .agg #[vp, vq] ∧ RdS W vp k.1 ∧ RdW W vq k.2 ∧ k.1.length + 1 ≤ Rows.uptoBulk d ∧ 3 * k.2.length ≤ Rows.uptoBulk d ∧ k.1.length ≤ maxLen ∧ k.2.length ≤ maxLen := by
  obtain ⟨cs, rfl, hsz⟩ := okWide_struct Try.underlying27 hv
  obtain ⟨fuel, hf⟩ := h
  have hf' : DataW.trod enc Try.prog W base spare held fuel 27 cs.toList = some (d, p) := by simpa [Value.cells] using hf
  obtain ⟨y0, y1, n, hx, hl, g0, g1⟩ := trod_struct2 Try.underlying27 hf'
  rw [cellsDk] at hl
  obtain ⟨l⟩ := cs
  simp only [cellsSs, cellsWs] at g0 g1
  match l, hl with
  | [v0, v1], _ =>
    simp only [List.drop_zero, List.take_succ_cons, List.take_zero, List.drop_succ_cons] at g0 g1
    obtain ⟨u0, ps, e0, hr0, hb0, -⟩ := o_strs g0
    obtain ⟨u1, ws, e1, hr1, hb1, h31, -⟩ := o_wts g1
    simp only [List.cons.injEq, and_true] at e0 e1
    subst e0 e1
    simp only [Prod.mk.injEq] at hx
    have b0 : Rows.uptoBulk y0.1 + 1 ≤ Rows.uptoBulk d := by rw [hx.1]; exact bulk_agg (by simp)
    have b1 : Rows.uptoBulk y1.1 + 1 ≤ Rows.uptoBulk d := by rw [hx.1]; exact bulk_agg (by simp)
    exact ⟨(ps, ws), v0, v1, rfl, hr0, hr1, by have := hb0.2; simp only; omega, by simp only; omega, hb0.1, hb1.1⟩
set_option maxRecDepth 100000 in
theorem str_arg (hv : Value.okWide Try.prog W r b0 9 v) (h : DataW.Trod enc Try.prog W base spare held 9 v d p) : ∃ s : Bs, v = strV s ∧ s.length ≤ maxLen ∧ s.length + 1 ≤ Rows.uptoBulk d := by
  obtain ⟨z, rfl⟩ := okWide_string Try.underlying9 hv
  obtain ⟨fuel, hf⟩ := h
  have hf' : DataW.trod enc Try.prog W base spare held fuel 9 [.string z] = some (d, p) := by simpa [Value.cells] using hf
  obtain ⟨s, e, hb⟩ := o_str hf'
  simp only [List.cons.injEq, and_true] at e
  exact ⟨s, e, hb.1, hb.2⟩
set_option maxRecDepth 100000 in
theorem int_arg (hv : Value.okWide Try.prog W r b0 3 v) (h : DataW.Trod enc Try.prog W base spare held 3 v d p) : ∃ n : Int, v = .int .i64 n ∧ (-9223372036854775808 ≤ n ∧ n ≤ 9223372036854775807) := by
  obtain ⟨n, rfl, rfl, rfl, hw⟩ := open_int Try.underlying3 hv h
  refine ⟨n, rfl, ?_⟩
  have h1 : IntKind.min .i64 = -9223372036854775808 := by decide
  have h2 : IntKind.max .i64 = 9223372036854775807 := by decide
  simp only [Lit.wf, Bool.and_eq_true, decide_eq_true_eq, h1, h2] at hw
  exact hw
end
end Go.Proofs.Ytifcgimpgbeocaa
