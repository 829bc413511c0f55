/- A slice of steps that came in read as a list. -/
import Derived.Test.YtcfmimfkaabmkaaOpenM
import Derived.Test.YtcfmimfkaabmkaaS3
import Derived.Lib.SmallJoins
set_option linter.unusedVariables false
set_option linter.unusedSimpArgs false
namespace Go.Proofs.Ytcfmimfkaabmkaa
open Go.ChangeShapes Go.WideShapes Go.ChangeAt Go.RowKit Go.Joins Go.ChangeMaps Go.Deep
set_option maxRecDepth 100000 in
theorem Try.cells73 : Try.prog.cellsOf 73 = 4 := by kernel_rfl
section
variable {H : Type} {enc : TypeId × Value → H}
theorem opened_steps {W : World} {base fuel : Nat} {held : Bool} {spare : Nat → Bool} {cs : List Value} {x : DataW H × List MemPlace} (h : DataW.trod enc Try.prog W base spare held fuel 71 cs = some x) :
    ∃ v ss, cs = [v] ∧ ss.length ≤ maxLen ∧ RSt W v ss ∧ ∀ q ∈ ss, q.2.2.2.length ≤ maxLen := by
  rcases open_slice Try.underlying71 h with ⟨rfl, -⟩ | ⟨a, len, cap, m, n, D, Pl, rfl, hb, hl, hm, hmm, rfl, hx⟩
  · exact ⟨_, [], rfl, Nat.zero_le _, ⟨none, 0, rfl, .inl rfl⟩, fun q hq => by cases hq⟩
  have hlm : len ≤ m := by rw [hmm]; split <;> omega
  have each : ∀ i, i < m → ∃ q : StepT, W.cell? (a.add (i * 4)) = some (.int .i64 q.1) ∧ W.cell? (a.add (i * 4 + 1)) = some (.int .i64 q.2.1) ∧ W.cell? (a.add (i * 4 + 2)) = some (.int .i64 q.2.2.1) ∧ W.cell? (a.add (i * 4 + 3)) = some (.string ⟨q.2.2.2.toArray⟩) ∧ q.2.2.2.length ≤ maxLen := by
    intro i hi
    obtain ⟨cs', h1, h2⟩ := hx i hi
    rw [Try.cells73] at h1
    obtain ⟨_, hlen, hcell⟩ := World.cells?_some h1
    obtain ⟨y0, y1, y2, y3, k, -, -, g0, g1, g2, g3⟩ := trod_struct4 Try.underlying73 h2
    rw [Try.cells3] at g0 g1 g2
    rw [Try.cells9] at g3
    match cs', hlen with
    | [v0, v1, v2, v3], _ =>
      simp only [List.drop_zero, List.take_succ_cons, List.take_zero, List.drop_succ_cons] at g0 g1 g2 g3
      obtain ⟨z0, e0, -, -⟩ := DataW.trod_int Try.underlying3 g0
      obtain ⟨z1, e1, -, -⟩ := DataW.trod_int Try.underlying3 g1
      obtain ⟨z2, e2, -, -⟩ := DataW.trod_int Try.underlying3 g2
      obtain ⟨z3, e3, -, w3⟩ := DataW.trod_string Try.underlying9 g3
      simp only [List.cons.injEq, and_true] at e0 e1 e2 e3
      subst e0 e1 e2 e3
      have k0 := hcell 0 (by omega)
      have k1 := hcell 1 (by omega)
      have k2 := hcell 2 (by omega)
      have k3 := hcell 3 (by omega)
      rw [add_add] at k0 k1 k2 k3
      exact ⟨(z0, z1, z2, z3.data.toList), by simpa using k0, by simpa using k1, by simpa using k2, by simpa using k3, by rw [Array.length_toList]; exact w3⟩
  obtain ⟨q, hq⟩ := choose_lt each
  refine ⟨_, (List.range len).map q, rfl, by rw [List.length_map, List.length_range]; omega, ⟨some a, cap, by rw [List.length_map, List.length_range], ?_⟩, fun p hp => ?_⟩
  · rcases Nat.eq_zero_or_pos len with h0 | h0
    · subst h0; exact .inl rfl
    · obtain ⟨ab, ao, spot⟩ := a
      have hspot : spot = none := by simpa [Addr.add] using World.cell?_spot (hq 0 (by omega)).1
      subst hspot
      refine .inr ⟨ab, ao, rfl, by simpa [Addr.add] using World.block_lt_of_cell? W _ (hq 0 (by omega)).1, fun i p hp => ?_⟩
      rw [List.getElem?_map] at hp
      have hil : i < len := by
        rcases Nat.lt_or_ge i len with h1 | h1
        · exact h1
        · rw [List.getElem?_eq_none (by rw [List.length_range]; exact h1)] at hp; cases hp
      rw [List.getElem?_range hil] at hp
      cases hp
      have := hq i (by omega)
      rw [Addr.add_lit, Addr.add_lit, Addr.add_lit, Addr.add_lit, ← Nat.add_assoc, ← Nat.add_assoc, ← Nat.add_assoc] at this
      exact ⟨this.1, this.2.1, this.2.2.1, this.2.2.2.1⟩
  · obtain ⟨i, hi, rfl⟩ := List.mem_map.1 hp
    exact (hq i (by have := List.mem_range.1 hi; omega)).2.2.2.2
end
end Go.Proofs.Ytcfmimfkaabmkaa
