/- What Gaps and Room answer, by the layout. -/
import Derived.Test.YtcfmimfkaabmkaaAppR
set_option linter.unusedVariables false
set_option linter.unusedSimpArgs false
namespace Go.Proofs.Ytcfmimfkaabmkaa
open Go.RowKit
attribute [local irreducible] num
/-- The gaps ahead of and between the allocations. -/
def gapsP : Nat → Lay → List (Int × Int)
  | _, [] => []
  | e, (p, s) :: r => (if p - 8 - e = 0 then [] else [(((e + 8 : Nat) : Int), ((p - 8 - e - 8 : Nat) : Int))]) ++ gapsP (p + upN s.length) r
/-- What is free behind all units. -/
def tailP (n e : Nat) : List (Int × Int) := if e + 16 ≤ n then [(((e + 8 : Nat) : Int), (((n - e - 8) / 8 * 8 : Nat) : Int))] else []
def gapsL (n : Nat) (lay : Lay) : List (Int × Int) := gapsP 8 lay ++ tailP n (endOf 8 lay)
def gapsS (l : List UInt8) : List (Int × Int) × Int := if openS l then (gapsL l.length (layD l), 0) else ([], 120)
def mostP (ps : List (Int × Int)) : Int := ps.foldl (fun n p => max n p.2) 0
def roomSz (l : List UInt8) : Int × Int := (mostP (gapsS l).1, (gapsS l).2)
theorem markP_gaps : ∀ (lay : Lay) (b : Bool) (e : Nat), ok b e lay → markP 2 (unitsOf e lay) = gapsP e lay
  | [], _, _, _ => rfl
  | (p, s) :: r, b, e, ⟨o1, o2, o3, o4, o5⟩ => by
    have ih := markP_gaps r _ _ o5
    rw [unitsOf, gapsP]
    unfold markP at ih ⊢
    rw [List.filter_append, List.filter_cons_of_neg (by simp), List.map_append, ih]
    congr 1
    split
    · rename_i h; simp [h]
    · rename_i h
      simp
      try omega
theorem gapsP_length : ∀ (lay : Lay) (e : Nat), (gapsP e lay).length ≤ lay.length
  | [], _ => Nat.le_refl _
  | (p, s) :: r, e => by
    have ih := gapsP_length r (p + upN s.length)
    rw [gapsP, List.length_append, List.length_cons]
    split <;> simp <;> omega
theorem gapsP_bd : ∀ (lay : Lay) (b : Bool) (e : Nat), ok b e lay → ∀ q ∈ gapsP e lay, 16 ≤ q.1 + 8 - e + 0 ∧ 0 ≤ q.2 ∧ q.1 + q.2 ≤ endOf e lay
  | [], _, _, _, q, h => by cases h
  | (p, s) :: r, b, e, ⟨o1, o2, o3, o4, o5⟩, q, h => by
    rw [gapsP] at h
    have he := endOf_ge o5
    have hub := upN_bd s.length
    rcases List.mem_append.1 h with h | h
    · split at h
      · cases h
      · rename_i hne
        rw [List.mem_singleton] at h
        subst h
        simp only [endOf]
        omega
    · have := gapsP_bd r _ _ o5 q h
      rw [endOf]
      omega
end Go.Proofs.Ytcfmimfkaabmkaa
