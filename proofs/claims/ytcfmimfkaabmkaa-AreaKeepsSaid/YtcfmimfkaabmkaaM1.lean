/- What Find, Get and Put answer, by the layout of the bytes. -/
import Derived.Test.YtcfmimfkaabmkaaH4
set_option linter.unusedVariables false
set_option linter.unusedSimpArgs false
namespace Go.Proofs.Ytcfmimfkaabmkaa
open Go.RowKit
attribute [local irreducible] num
/-- The piece that has the byte at an index. -/
def hasB (at_ : Int) (q : Int × Int) : Bool := decide (q.1 ≤ at_) && decide (at_ < q.1 + q.2)
def findP (ps : List (Int × Int)) (at_ : Int) : Option (Int × Int) := ps.find? (hasB at_)
theorem findU_markP (at_ : Int) (us : List (Int × Int × Int)) : findU at_ us = (findP (markP 1 us) at_).getD (0, 0) := by
  unfold findU findP markP
  rw [List.find?_map, List.find?_filter]
  have e2 : List.find? (fun a => decide ((a.2.2 == 1) = true ∧ (hasB at_ ∘ fun u : Int × Int × Int => (u.1 + 8, u.2.1)) a = true)) us = us.find? (hits at_) := by
    congr 1
    funext u
    simp [hits, hasB, Bool.and_assoc]
    rfl
  rw [e2]
  cases us.find? (hits at_) <;> rfl
theorem findU_lay {lay : Lay} (hok : ok true 8 lay) (at_ : Int) : findU at_ (unitsOf 8 lay) = (findP (psOf (itsOf lay)) at_).getD (0, 0) := by
  rw [findU_markP, markP_used lay true 8 hok]
def findS (l : List UInt8) (at_ : Int) : (Int × Int) × Int := if openS l then (match findP (psOf (itsOf (layD l))) at_ with | some q => (q, 0) | none => ((0, 0), 122)) else ((0, 0), 120)
/-- The error of part. -/
def partC (l : List UInt8) (at_ n : Int) : Int :=
  if openS l then (if n < 1 then 1 else match findP (psOf (itsOf (layD l))) at_ with | some q => if q.1 + q.2 - at_ < n then 122 else 0 | none => 122) else 120
def getS (l : List UInt8) (at_ n : Int) : List UInt8 × Int := if partC l at_ n = 0 then (sl l at_.toNat (at_ + n).toNat, 0) else ([], partC l at_ n)
def putS (l : List UInt8) (at_ : Int) (s : List UInt8) : List UInt8 × Int := if partC l at_ s.length = 0 then (over l at_.toNat s, 0) else ([], partC l at_ s.length)
theorem part_none {l : List UInt8} {at_ n : Int} (h : openS l = true) (hn : ¬ n < 1) (hf : findP (psOf (itsOf (layD l))) at_ = none) : partC l at_ n = 122 := by
  unfold partC; rw [if_pos h, if_neg hn, hf]
theorem part_some {l : List UInt8} {at_ n : Int} {q : Int × Int} (h : openS l = true) (hn : ¬ n < 1) (hf : findP (psOf (itsOf (layD l))) at_ = some q) : partC l at_ n = if q.1 + q.2 - at_ < n then 122 else 0 := by
  unfold partC; rw [if_pos h, if_neg hn, hf]
theorem le_upN (n : Nat) : n ≤ upN n := by unfold upN; omega
/-- Where part answers OK. -/
theorem part_zero {l : List UInt8} {at_ n : Int} (h : partC l at_ n = 0) : openS l = true ∧ 1 ≤ n ∧ ∃ q, findP (psOf (itsOf (layD l))) at_ = some q ∧ n ≤ q.1 + q.2 - at_ := by
  unfold partC at h
  split at h
  · rename_i h1
    split at h
    · omega
    · rename_i h2
      split at h
      · rename_i q hq
        split at h
        · omega
        · exact ⟨h1, by omega, q, hq, by omega⟩
      · omega
  · omega
/-- A piece that has a byte lies within the area. -/
theorem findP_in {l : List UInt8} {lay : Lay} (h : Area l lay) {at_ : Int} {q : Int × Int} (hq : findP (psOf (itsOf lay)) at_ = some q) : 16 ≤ q.1 ∧ 1 ≤ q.2 ∧ q.1 + q.2 ≤ l.length ∧ q.1 ≤ at_ ∧ at_ < q.1 + q.2 := by
  have hm := List.mem_of_find?_eq_some hq
  have hp := List.find?_some hq
  simp only [hasB, Bool.and_eq_true, decide_eq_true_eq] at hp
  simp only [psOf, itsOf, List.map_map, List.mem_map] at hm
  obtain ⟨x, hx, rfl⟩ := hm
  simp only [Function.comp_apply] at hp ⊢
  have h1 := offs_ge lay _ _ h.2.2.1 x hx
  have h2 := ok_pos lay _ _ h.2.2.1 x hx
  have h3 := ends_le lay _ _ h.2.2.1 x hx
  have h4 := le_upN x.2.length
  have h5 := h.2.2.2.1
  refine ⟨by omega, by omega, by omega, hp.1, hp.2⟩
theorem part_in {l : List UInt8} {at_ n : Int} (h : partC l at_ n = 0) : 16 ≤ at_ ∧ 1 ≤ n ∧ at_ + n ≤ l.length ∧ l.length ≤ 8192 := by
  obtain ⟨h1, h2, q, hq, h3⟩ := part_zero h
  have h4 := findP_in (area_D h1) hq
  have h5 := area_size h1
  omega
end Go.Proofs.Ytcfmimfkaabmkaa
