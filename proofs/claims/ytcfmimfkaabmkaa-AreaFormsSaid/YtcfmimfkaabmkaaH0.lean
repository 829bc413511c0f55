/- What the functions of both packages answer, by the layout of the bytes. -/
import Derived.Test.YtcfmimfkaabmkaaF1
set_option linter.unusedVariables false
set_option linter.unusedSimpArgs false
namespace Go.Proofs.Ytcfmimfkaabmkaa
open Go.RowKit
attribute [local irreducible] num
/-- The layout that the bytes have, if they are an area. -/
def layD (l : List UInt8) : Lay := layOf (walkS l (8 + num l 0) (l.length + 8193) 8)
theorem layD_area {l : List UInt8} {lay : Lay} (h : Area l lay) : layD l = lay := by
  unfold layD; rw [walkS_area h _ (by omega)]; exact layOf_itsOf lay
theorem area_D {l : List UInt8} (h : openS l = true) : Area l (layD l) := by
  obtain ⟨lay, hA⟩ := (openS_iff l).1 h
  rw [layD_area hA]; exact hA
theorem area_size {l : List UInt8} (h : openS l = true) : 16 ≤ l.length ∧ l.length ≤ 8192 := ⟨(area_D h).1, (area_D h).2.1⟩
theorem area_num0 {l : List UInt8} {lay : Lay} (h : Area l lay) : num l 0 = ((endOf 8 lay - 8 : Nat) : Int) ∧ 8 ≤ endOf 8 lay := by
  have h1 := (area_units h).2
  have h2 := endOf_ge h.2.2.1
  constructor <;> omega
def chkS (l : List UInt8) : Int := if openS l then 0 else 120
def resizeA (lay : Lay) (n : Int) : List UInt8 × Int := if n < 16 ∨ 8192 < n then ([], 1) else if (endOf 8 lay : Int) ≤ n then (render n.toNat lay, 0) else ([], 121)
def resizeS (l : List UInt8) (n : Int) : List UInt8 × Int := if openS l then resizeA (layD l) n else ([], 120)
def assignS (tt fr : List UInt8) : List UInt8 × Int := if openS tt && openS fr then resizeA (layD fr) tt.length else ([], 120)
def extentS (l : List UInt8) : Int × Int := if openS l then ((endOf 8 (layD l) : Int), 0) else (0, 120)
def blocksS (l : List UInt8) : List (Int × Int) × Int := if openS l then (psOf (itsOf (layD l)), 0) else ([], 120)
theorem build_resize (lay : Lay) (n : Int) (hok : ok true 8 lay) (he : endOf 8 lay ≤ 8192) : buildS n (psOf (itsOf lay)) (bsOf (itsOf lay)) = resizeA lay n := by
  unfold resizeA
  by_cases h : n < 16 ∨ 8192 < n
  · rw [if_pos h]; unfold buildS; rw [if_pos (h.elim .inl (fun h => .inr (.inl h)))]
  · obtain ⟨k, rfl⟩ := Int.eq_ofNat_of_zero_le (show 0 ≤ n by omega)
    rw [if_neg h, buildS_lay k (by omega) (by omega) lay hok he, Int.toNat_natCast]
    by_cases hk : endOf 8 lay ≤ k
    · rw [if_pos hk, if_pos (by omega)]
    · rw [if_neg hk, if_neg (by omega)]
/-- The bytes in use, and zeros behind: the area of another length. -/
theorem take_render {l : List UInt8} {lay : Lay} (h : Area l lay) (n : Nat) (hn : endOf 8 lay ≤ n) : l.take (endOf 8 lay) ++ zs (n - endOf 8 lay) = render n lay := by
  obtain ⟨h16, h81, hok, hend, ha⟩ := h
  have hge := endOf_ge hok
  have hl := enc_length (e := 8) rfl hok
  have e1 : l = (four (endOf 8 lay - 8) ++ (four lay.length ++ enc 8 lay)) ++ zs (l.length - endOf 8 lay) := by
    conv => lhs; rw [ha]
    unfold render; simp only [List.append_assoc]
  have e2 : (four (endOf 8 lay - 8) ++ (four lay.length ++ enc 8 lay)).length = endOf 8 lay := by
    simp only [List.length_append, four_length, hl]; omega
  rw [e1, List.take_append_of_le_length (by omega), List.take_of_length_le (by omega)]
  unfold render; simp only [List.append_assoc]
end Go.Proofs.Ytcfmimfkaabmkaa
