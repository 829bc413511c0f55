/- Slices of moves, of pieces and of strings that came in read as lists. -/
import Derived.Test.YtcfmimfkaabmkaaF3
import Derived.Test.YtcfmimfkaabmkaaAppS
import Derived.Deep.Strs
import Derived.Deep.SlicePairs
set_option linter.unusedVariables false
set_option linter.unusedSimpArgs false
namespace Go.Proofs.Ytcfmimfkaabmkaa
open Go.ChangeShapes Go.WideShapes Go.ChangeAt Go.RowKit Go.Joins Go.ChangeMaps Go.Deep
set_option maxRecDepth 100000 in
theorem Try.cells78 : Try.prog.cellsOf 78 = 3 := by kernel_rfl
set_option maxRecDepth 100000 in
theorem Try.cells37 : Try.prog.cellsOf 37 = 2 := by kernel_rfl
set_option maxRecDepth 100000 in
theorem Try.cells3 : Try.prog.cellsOf 3 = 1 := by kernel_rfl
set_option maxRecDepth 100000 in
theorem Try.cells9 : Try.prog.cellsOf 9 = 1 := by kernel_rfl
section
variable {H : Type} {enc : TypeId × Value → H}
theorem opened_moves {W : World} {base fuel : Nat} {held : Bool} {spare : Nat → Bool} {cs : List Value} {x : DataW H × List MemPlace} (h : DataW.trod enc Try.prog W base spare held fuel 42 cs = some x) :
    ∃ v ms, cs = [v] ∧ ms.length ≤ maxLen ∧ RM W v ms := by
  rcases open_slice Try.underlying42 h with ⟨rfl, -⟩ | ⟨a, len, cap, m, n, D, Pl, rfl, hb, hl, hm, hmm, rfl, hx⟩
  · exact ⟨_, [], rfl, Nat.zero_le _, none, 0, rfl, .inl rfl⟩
  have hlm : len ≤ m := by rw [hmm]; split <;> omega
  have each : ∀ i, i < m → ∃ q : Mv, W.cell? (a.add (i * 3)) = some (.int .i64 q.1) ∧ W.cell? (a.add (i * 3 + 1)) = some (.int .i64 q.2.1) ∧ W.cell? (a.add (i * 3 + 2)) = some (.int .i64 q.2.2) := by
    intro i hi
    obtain ⟨cs', h1, h2⟩ := hx i hi
    rw [Try.cells78] at h1
    obtain ⟨_, hlen, hcell⟩ := World.cells?_some h1
    obtain ⟨y0, y1, y2, k, -, -, g0, g1, g2⟩ := trod_struct3 Try.underlying78 h2
    rw [Try.cells3] at g0 g1 g2
    match cs', hlen with
    | [v0, v1, v2], _ =>
      simp only [List.drop_zero, List.take_succ_cons, List.take_zero, List.drop_succ_cons] at g0 g1 g2
      obtain ⟨z0, e0, -, -⟩ := DataW.trod_int Try.underlying3 g0
      obtain ⟨z1, e1, -, -⟩ := DataW.trod_int Try.underlying3 g1
      obtain ⟨z2, e2, -, -⟩ := DataW.trod_int Try.underlying3 g2
      simp only [List.cons.injEq, and_true] at e0 e1 e2
      subst e0 e1 e2
      have k0 := hcell 0 (by omega)
      have k1 := hcell 1 (by omega)
      have k2 := hcell 2 (by omega)
      rw [add_add] at k0 k1 k2
      exact ⟨(z0, z1, z2), by simpa using k0, by simpa using k1, by simpa using k2⟩
  obtain ⟨q, hq⟩ := choose_lt each
  refine ⟨_, (List.range len).map q, rfl, by rw [List.length_map, List.length_range]; omega, some a, cap, by rw [List.length_map, List.length_range], ?_⟩
  rcases Nat.eq_zero_or_pos len with h0 | h0
  · subst h0; exact .inl rfl
  · obtain ⟨ab, ao, spot⟩ := a
    have hspot : spot = none := by simpa [Addr.add] using World.cell?_spot (hq 0 (by omega)).1
    subst hspot
    refine .inr ⟨ab, ao, rfl, by simpa [Addr.add] using World.block_lt_of_cell? W _ (hq 0 (by omega)).1, fun i p hp => ?_⟩
    rw [List.getElem?_map] at hp
    have hil : i < len := by
      rcases Nat.lt_or_ge i len with h1 | h1
      · exact h1
      · rw [List.getElem?_eq_none (by rw [List.length_range]; exact h1)] at hp; cases hp
    rw [List.getElem?_range hil] at hp
    cases hp
    have := hq i (by omega)
    rw [Addr.add_lit, Addr.add_lit, Addr.add_lit, ← Nat.add_assoc, ← Nat.add_assoc] at this
    exact this
theorem opened_pieces {W : World} {base fuel : Nat} {held : Bool} {spare : Nat → Bool} {cs : List Value} {x : DataW H × List MemPlace} (h : DataW.trod enc Try.prog W base spare held fuel 33 cs = some x) :
    ∃ v ps, cs = [v] ∧ ps.length ≤ maxLen ∧ RP W v ps ∧ ∀ p ∈ ps, (Lit.int .i64 p.1).wf = true ∧ (Lit.int .i64 p.2).wf = true := by
  rcases open_slice_pairs under33 Try.underlying37 Try.cells37 rfl rfl Try.cells3 Try.cells3 h with ⟨rfl, -⟩ | ⟨a, len, cap, m, n, V0, V1, D0, D1, P0, P1, rfl, hb, hl, hm, hmm, -, hx⟩
  · exact ⟨_, [], rfl, Nat.zero_le _, ⟨none, 0, rfl, .inl rfl⟩, fun p hp => by cases hp⟩
  have hlm : len ≤ m := by rw [hmm]; split <;> omega
  have each : ∀ i, i < m → ∃ q : Int × Int, W.cell? (a.add (i * 2)) = some (.int .i64 q.1) ∧ W.cell? (a.add (i * 2 + 1)) = some (.int .i64 q.2) ∧ (Lit.int .i64 q.1).wf = true ∧ (Lit.int .i64 q.2).wf = true := by
    intro i hi
    obtain ⟨k0, k1, g0, g1⟩ := hx i hi
    obtain ⟨z0, e0, -, w0⟩ := DataW.trod_int Try.underlying3 g0
    obtain ⟨z1, e1, -, w1⟩ := DataW.trod_int Try.underlying3 g1
    simp only [List.cons.injEq, and_true] at e0 e1
    rw [e0] at k0; rw [e1] at k1
    exact ⟨(z0, z1), k0, k1, w0, w1⟩
  obtain ⟨q, hq⟩ := choose_lt each
  refine ⟨_, (List.range len).map q, rfl, by rw [List.length_map, List.length_range]; omega, ⟨some a, cap, by rw [List.length_map, List.length_range], ?_⟩, fun p hp => ?_⟩
  · rcases Nat.eq_zero_or_pos len with h0 | h0
    · subst h0; exact .inl rfl
    · obtain ⟨ab, ao, spot⟩ := a
      have hspot : spot = none := by simpa [Addr.add] using World.cell?_spot (hq 0 (by omega)).1
      subst hspot
      refine .inr ⟨ab, ao, rfl, by simpa [Addr.add] using World.block_lt_of_cell? W _ (hq 0 (by omega)).1, fun i p hp => ?_⟩
      rw [List.getElem?_map] at hp
      have hil : i < len := by
        rcases Nat.lt_or_ge i len with h1 | h1
        · exact h1
        · rw [List.getElem?_eq_none (by rw [List.length_range]; exact h1)] at hp; cases hp
      rw [List.getElem?_range hil] at hp
      cases hp
      obtain ⟨t1, t2, -⟩ := hq i (by omega)
      rw [Addr.add_lit] at t1 t2
      rw [← Nat.add_assoc] at t2
      exact ⟨t1, t2⟩
  · obtain ⟨i, hi, rfl⟩ := List.mem_map.1 hp
    exact (hq i (by have := List.mem_range.1 hi; omega)).2.2
theorem opened_strs {W : World} {base fuel : Nat} {held : Bool} {spare : Nat → Bool} {cs : List Value} {x : DataW H × List MemPlace} (h : DataW.trod enc Try.prog W base spare held fuel 49 cs = some x) :
    ∃ v bs, cs = [v] ∧ bs.length ≤ maxLen ∧ RS W v bs ∧ ∀ t ∈ bs, t.length ≤ maxLen := by
  rcases open_strs under49 Try.underlying9 Try.cells9 h with ⟨rfl, -⟩ | ⟨a, len, cap, m, Sx, rfl, hb, hl, hm, hmm, -, hx⟩
  · exact ⟨_, [], rfl, Nat.zero_le _, ⟨none, 0, rfl, .inl rfl⟩, fun p hp => by cases hp⟩
  have hlm : len ≤ m := by rw [hmm]; split <;> omega
  refine ⟨_, (List.range len).map (fun i => (Sx i).data.toList), rfl, by rw [List.length_map, List.length_range]; omega, ⟨some a, cap, by rw [List.length_map, List.length_range], ?_⟩, fun t ht => ?_⟩
  · rcases Nat.eq_zero_or_pos len with h0 | h0
    · subst h0; exact .inl rfl
    · obtain ⟨ab, ao, spot⟩ := a
      have hspot : spot = none := by simpa [Addr.add] using World.cell?_spot (hx 0 (by omega)).1
      subst hspot
      refine .inr ⟨ab, ao, rfl, by simpa [Addr.add] using World.block_lt_of_cell? W _ (hx 0 (by omega)).1, fun i p hp => ?_⟩
      rw [List.getElem?_map] at hp
      have hil : i < len := by
        rcases Nat.lt_or_ge i len with h1 | h1
        · exact h1
        · rw [List.getElem?_eq_none (by rw [List.length_range]; exact h1)] at hp; cases hp
      rw [List.getElem?_range hil] at hp
      cases hp
      have t1 := (hx i (by omega)).1
      rw [Addr.add_lit] at t1
      exact t1
  · obtain ⟨i, hi, rfl⟩ := List.mem_map.1 ht
    have := (hx i (by have := List.mem_range.1 hi; omega)).2
    rw [Array.length_toList]; exact this
end
end Go.Proofs.Ytcfmimfkaabmkaa
