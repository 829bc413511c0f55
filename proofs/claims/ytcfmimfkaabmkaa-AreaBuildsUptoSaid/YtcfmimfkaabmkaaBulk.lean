/- What the bound of the second form gives; slices of pieces and of strings that came in, with their bulk. -/
import Derived.Test.YtcfmimfkaabmkaaOpenM
set_option linter.unusedVariables false
set_option linter.unusedSimpArgs false
namespace Go.Proofs.Ytcfmimfkaabmkaa
open Go.ChangeShapes Go.WideShapes Go.ChangeAt Go.RowKit Go.Joins Go.ChangeMaps Go.Deep
section
variable {H : Type} {enc : TypeId × Value → H}
theorem bulk_one (d : DataW H) : 1 ≤ Rows.uptoBulk d := by
  cases d with
  | lit l => cases l <;> simp [Rows.uptoBulk]
  | nil => simp [Rows.uptoBulk]
  | ptr d => simp [Rows.uptoBulk]
  | slice elems spare => simp [Rows.uptoBulk]
  | agg parts => simp [Rows.uptoBulk]
  | iface t d => simp [Rows.uptoBulk]
  | map entries => simp [Rows.uptoBulk]
  | held h => simp [Rows.uptoBulk]
theorem bulk_part {d : DataW H} {l : List (DataW H)} (h : d ∈ l) : Rows.uptoBulk d ≤ Rows.uptoBulkAll l := by
  induction l with
  | nil => cases h
  | cons x r ih =>
    simp only [Rows.uptoBulkAll]
    cases List.mem_cons.1 h with
    | inl e => subst e; omega
    | inr e => have := ih e; omega
theorem bulk_append (l r : List (DataW H)) : Rows.uptoBulkAll (l ++ r) = Rows.uptoBulkAll l + Rows.uptoBulkAll r := by
  induction l with
  | nil => simp [Rows.uptoBulkAll]
  | cons x l ih => simp only [List.cons_append, Rows.uptoBulkAll, ih]; omega
theorem bulk_length (l : List (DataW H)) : l.length ≤ Rows.uptoBulkAll l := by
  induction l with
  | nil => simp [Rows.uptoBulkAll]
  | cons x r ih => have := bulk_one x; simp only [Rows.uptoBulkAll, List.length_cons]; omega
theorem bulk_slice (elems spare : List (DataW H)) : Rows.uptoBulkAll elems + 1 ≤ Rows.uptoBulk (.slice elems spare) := by
  simp only [Rows.uptoBulk]
  omega
theorem bulk_agg {d : DataW H} {l : List (DataW H)} (h : d ∈ l) : Rows.uptoBulk d ≤ Rows.uptoBulk (.agg l) := by
  have := bulk_part h
  simp only [Rows.uptoBulk]
  omega
theorem bulk_string (bytes : List UInt8) : Rows.uptoBulk (DataW.lit (H := H) (.string bytes)) = bytes.length + 1 := by
  simp [Rows.uptoBulk]
theorem bulk_bound {l : List (DataW H)} (hk : Rows.uptoSmall H l = true) : Rows.uptoBulkAll l ≤ 1048576 := of_decide_eq_true hk
theorem bulk_pieces {W : World} {base fuel : Nat} {held : Bool} {spare : Nat → Bool} {cs : List Value} {x : DataW H × List MemPlace} (h : DataW.trod enc Try.prog W base spare held fuel 33 cs = some x) :
    ∃ v ps, cs = [v] ∧ ps.length ≤ Rows.uptoBulk x.1 ∧ RP W v ps := by
  rcases open_slice_pairs under33 Try.underlying37 Try.cells37 rfl rfl Try.cells3 Try.cells3 h with ⟨rfl, -⟩ | ⟨a, len, cap, m, n, V0, V1, D0, D1, P0, P1, rfl, hb, hl, hm, hmm, rfl, hx⟩
  · exact ⟨_, [], rfl, Nat.zero_le _, ⟨none, 0, rfl, .inl rfl⟩⟩
  have hlm : len ≤ m := by rw [hmm]; split <;> omega
  have each : ∀ i, i < m → ∃ q : Int × Int, W.cell? (a.add (i * 2)) = some (.int .i64 q.1) ∧ W.cell? (a.add (i * 2 + 1)) = some (.int .i64 q.2) := by
    intro i hi
    obtain ⟨k0, k1, g0, g1⟩ := hx i hi
    obtain ⟨z0, e0, -, w0⟩ := DataW.trod_int Try.underlying3 g0
    obtain ⟨z1, e1, -, w1⟩ := DataW.trod_int Try.underlying3 g1
    simp only [List.cons.injEq, and_true] at e0 e1
    rw [e0] at k0; rw [e1] at k1
    exact ⟨(z0, z1), k0, k1⟩
  obtain ⟨q, hq⟩ := choose_lt each
  have hbk := bulk_slice ((List.range len).map fun i => (DataW.agg [D0 i, D1 i] : DataW H)) ((List.range (m - len)).map fun j => .agg [D0 (len + j), D1 (len + j)])
  have hbl := bulk_length ((List.range len).map fun i => (DataW.agg [D0 i, D1 i] : DataW H))
  rw [List.length_map, List.length_range] at hbl
  refine ⟨_, (List.range len).map q, rfl, by rw [List.length_map, List.length_range]; simp only; omega, ⟨some a, cap, by rw [List.length_map, List.length_range], ?_⟩⟩
  rcases Nat.eq_zero_or_pos len with h0 | h0
  · subst h0; exact .inl rfl
  · obtain ⟨ab, ao, spot⟩ := a
    have hspot : spot = none := by simpa [Addr.add] using World.cell?_spot (hq 0 (by omega)).1
    subst hspot
    refine .inr ⟨ab, ao, rfl, by simpa [Addr.add] using World.block_lt_of_cell? W _ (hq 0 (by omega)).1, fun i p hp => ?_⟩
    rw [List.getElem?_map] at hp
    have hil : i < len := by
      rcases Nat.lt_or_ge i len with h1 | h1
      · exact h1
      · rw [List.getElem?_eq_none (by rw [List.length_range]; exact h1)] at hp; cases hp
    rw [List.getElem?_range hil] at hp
    cases hp
    obtain ⟨t1, t2⟩ := hq i (by omega)
    rw [Addr.add_lit] at t1 t2
    rw [← Nat.add_assoc] at t2
    exact ⟨t1, t2⟩
theorem bulk_strs {W : World} {base fuel : Nat} {held : Bool} {spare : Nat → Bool} {cs : List Value} {x : DataW H × List MemPlace} (h : DataW.trod enc Try.prog W base spare held fuel 49 cs = some x) :
    ∃ v bs, cs = [v] ∧ bs.length ≤ Rows.uptoBulk x.1 ∧ RS W v bs ∧ ∀ t ∈ bs, t.length ≤ Rows.uptoBulk x.1 := by
  rcases open_strs under49 Try.underlying9 Try.cells9 h with ⟨rfl, -⟩ | ⟨a, len, cap, m, Sx, rfl, hb, hl, hm, hmm, rfl, hx⟩
  · exact ⟨_, [], rfl, Nat.zero_le _, ⟨none, 0, rfl, .inl rfl⟩, fun p hp => by cases hp⟩
  have hlm : len ≤ m := by rw [hmm]; split <;> omega
  have hbk := bulk_slice ((List.range len).map fun i => (DataW.lit (.string (Sx i).data.toList) : DataW H)) ((List.range (m - len)).map fun j => .lit (.string (Sx (len + j)).data.toList))
  have hbl := bulk_length ((List.range len).map fun i => (DataW.lit (.string (Sx i).data.toList) : DataW H))
  rw [List.length_map, List.length_range] at hbl
  refine ⟨_, (List.range len).map (fun i => (Sx i).data.toList), rfl, by rw [List.length_map, List.length_range]; simp only; omega, ⟨some a, cap, by rw [List.length_map, List.length_range], ?_⟩, fun t ht => ?_⟩
  · rcases Nat.eq_zero_or_pos len with h0 | h0
    · subst h0; exact .inl rfl
    · obtain ⟨ab, ao, spot⟩ := a
      have hspot : spot = none := by simpa [Addr.add] using World.cell?_spot (hx 0 (by omega)).1
      subst hspot
      refine .inr ⟨ab, ao, rfl, by simpa [Addr.add] using World.block_lt_of_cell? W _ (hx 0 (by omega)).1, fun i p hp => ?_⟩
      rw [List.getElem?_map] at hp
      have hil : i < len := by
        rcases Nat.lt_or_ge i len with h1 | h1
        · exact h1
        · rw [List.getElem?_eq_none (by rw [List.length_range]; exact h1)] at hp; cases hp
      rw [List.getElem?_range hil] at hp
      cases hp
      have t1 := (hx i (by omega)).1
      rw [Addr.add_lit] at t1
      exact t1
  · obtain ⟨i, hi, rfl⟩ := List.mem_map.1 ht
    have h1 := bulk_part (H := H) (d := .lit (.string (Sx i).data.toList)) (l := (List.range len).map fun i => (DataW.lit (.string (Sx i).data.toList) : DataW H)) (List.mem_map.2 ⟨i, hi, rfl⟩)
    rw [bulk_string] at h1
    simp only
    omega
end
end Go.Proofs.Ytcfmimfkaabmkaa
