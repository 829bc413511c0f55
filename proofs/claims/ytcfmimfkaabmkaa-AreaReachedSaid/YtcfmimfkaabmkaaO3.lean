/- What Compact and Relocate answer, by the layout; the bytes of one allocation within an area. -/
import Derived.Test.YtcfmimfkaabmkaaO2
import Derived.Test.YtcfmimfkaabmkaaAppS
set_option linter.unusedVariables false
set_option linter.unusedSimpArgs false
namespace Go.Proofs.Ytcfmimfkaabmkaa
open Go.RowKit
attribute [local irreducible] num
/-- The layout without gaps, and where each allocation goes. -/
def compL : Nat → Lay → Lay
  | _, [] => []
  | e, (_, s) :: r => (e + 8, s) :: compL (e + 8 + upN s.length) r
def movesL : Nat → Lay → List Mv
  | _, [] => []
  | e, (p, s) :: r => ((p : Int), ((e + 8 : Nat) : Int), (s.length : Int)) :: movesL (e + 8 + upN s.length) r
theorem compL_ok : ∀ (lay : Lay) (b b' : Bool) (e e' : Nat), ok b' e' lay → e % 8 = 0 → ok b e (compL e lay)
  | [], _, _, _, _, _, _ => trivial
  | (p, s) :: r, b, b', e, e', ⟨o1, o2, o3, o4, o5⟩, he => by
    have hu := upN_8 s.length
    exact ⟨by omega, by omega, fun _ => by omega, o4, compL_ok r false false _ _ o5 (by omega)⟩
theorem compL_end : ∀ (lay : Lay) (b : Bool) (e e' : Nat), ok b e' lay → e ≤ e' → endOf e (compL e lay) ≤ endOf e' lay
  | [], _, e, e', _, h => h
  | (p, s) :: r, b, e, e', ⟨o1, o2, o3, o4, o5⟩, h => by
    rw [compL, endOf, endOf]
    exact compL_end r _ _ _ o5 (by omega)
theorem compL_len : ∀ (lay : Lay) (e : Nat), (compL e lay).length = lay.length
  | [], _ => rfl
  | (p, s) :: r, e => by rw [compL, List.length_cons, List.length_cons, compL_len r]
theorem movesL_len : ∀ (lay : Lay) (e : Nat), (movesL e lay).length = lay.length
  | [], _ => rfl
  | (p, s) :: r, e => by rw [movesL, List.length_cons, List.length_cons, movesL_len r]
theorem compL_snoc : ∀ (A : Lay) (e p : Nat) (s : List UInt8), compL e (A ++ [(p, s)]) = compL e A ++ [(endOf e (compL e A) + 8, s)]
  | [], e, p, s => rfl
  | (q, t) :: r, e, p, s => by rw [List.cons_append, compL, compL_snoc r, compL, endOf, List.cons_append]
theorem movesL_snoc : ∀ (A : Lay) (e p : Nat) (s : List UInt8), movesL e (A ++ [(p, s)]) = movesL e A ++ [((p : Int), ((endOf e (compL e A) + 8 : Nat) : Int), (s.length : Int))]
  | [], e, p, s => rfl
  | (q, t) :: r, e, p, s => by rw [List.cons_append, movesL, movesL_snoc r, movesL, compL, endOf, List.cons_append]
theorem compL_bs : ∀ (lay : Lay) (e : Nat), bsOf (itsOf (compL e lay)) = bsOf (itsOf lay)
  | [], _ => rfl
  | (p, s) :: r, e => by
    have ih := compL_bs r (e + 8 + upN s.length)
    simp only [bsOf, itsOf, compL, List.map_cons, List.map_map] at ih ⊢
    rw [ih]
theorem compL_take : ∀ (lay : Lay) (e k : Nat), compL e (lay.take k) = (compL e lay).take k
  | [], e, k => by simp [compL]
  | (p, s) :: r, e, 0 => rfl
  | (p, s) :: r, e, k + 1 => by rw [List.take_succ_cons, compL, compL, List.take_succ_cons, compL_take r]
def compactS (l : List UInt8) : List UInt8 × List Mv × Int := if openS l then (render l.length (compL 8 (layD l)), movesL 8 (layD l), 0) else ([], [], 120)
/-- The compact layout of an area: an area of the same length. -/
theorem comp_area {l : List UInt8} {lay : Lay} (h : Area l lay) : Area (render l.length (compL 8 lay)) (compL 8 lay) ∧ endOf 8 (compL 8 lay) ≤ endOf 8 lay := by
  have h1 := compL_ok lay true true 8 8 h.2.2.1 rfl
  have h2 := compL_end lay true 8 8 h.2.2.1 (Nat.le_refl _)
  exact ⟨area_render h1 h.1 h.2.1 (Nat.le_trans h2 h.2.2.2.1), h2⟩
theorem build_comp {l : List UInt8} {lay : Lay} (h : Area l lay) : buildS l.length (psOf (itsOf (compL 8 lay))) (bsOf (itsOf lay)) = (render l.length (compL 8 lay), 0) := by
  have h1 := compL_ok lay true true 8 8 h.2.2.1 rfl
  have h2 := compL_end lay true 8 8 h.2.2.1 (Nat.le_refl _)
  have h3 := h.2.2.2.1
  have h4 := h.2.1
  rw [← compL_bs lay 8, buildS_lay l.length h.1 h4 _ h1 (by omega), if_pos (by omega)]
/-- Where the bytes of an allocation lie. -/
theorem area_at {l : List UInt8} {lay : Lay} (hA : Area l lay) {j p : Nat} {t : List UInt8} (h : lay[j]? = some (p, t)) :
    ∃ pre post, l = pre ++ ((t ++ zs (upN t.length - t.length)) ++ post) ∧ pre.length = p := by
  have h2 : lay = lay.take j ++ ((p, t) :: lay.drop (j + 1)) := by
    have := drop_at h
    conv => lhs; rw [← List.take_append_drop j lay, this]
  have h3 := hA.2.2.1
  rw [h2] at h3
  obtain ⟨k1, k2⟩ := (ok_append _ _ _ _).1 h3
  obtain ⟨o1, o2, o3, o4, o5⟩ := k2
  have h5 := enc_length (e := 8) rfl k1
  have h6 := endOf_ge k1
  have h7 := endOf_8 (e := 8) rfl k1
  have h8 := gapB_length (p - 8 - endOf 8 (lay.take j)) (by omega)
  refine ⟨four (endOf 8 lay - 8) ++ (four lay.length ++ (enc 8 (lay.take j) ++ (gapB (p - 8 - endOf 8 (lay.take j)) ++ (four t.length ++ four 1)))), enc (p + upN t.length) (lay.drop (j + 1)) ++ zs (l.length - endOf 8 lay), ?_, ?_⟩
  · conv => lhs; rw [hA.2.2.2.2]
    unfold render
    have : enc 8 lay = enc 8 (lay.take j) ++ (gapB (p - 8 - endOf 8 (lay.take j)) ++ (usedB t ++ enc (p + upN t.length) (lay.drop (j + 1)))) := by
      conv => lhs; rw [h2]
      rw [enc_append]; rfl
    rw [this]
    unfold usedB
    simp only [List.append_assoc]
  · simp only [List.length_append, four_length]; omega
theorem area_sl {l : List UInt8} {lay : Lay} (hA : Area l lay) {j p : Nat} {t : List UInt8} (h : lay[j]? = some (p, t)) :
    sl l p (p + upN t.length) = t ++ zs (upN t.length - t.length) ∧ sl l p (p + t.length) = t := by
  obtain ⟨pre, post, e1, e2⟩ := area_at hA h
  have hub := upN_bd t.length
  constructor
  · rw [e1]; exact sl_mid e2 (by rw [List.length_append, zs_length]; omega)
  · rw [e1, List.append_assoc]; exact sl_mid e2 rfl

/-! ### Relocate -/
def badN (n : Int) : Bool := decide (n < 0) || decide (8192 < n)
def badM (m : Mv) : Bool := badN m.1 || (badN m.2.1 || badN m.2.2)
def hasM (at_ : Int) (m : Mv) : Bool := decide (m.1 ≤ at_) && decide (at_ < m.1 + m.2.2)
def relocS (ms : List Mv) (at_ : Int) : Int × Int := if ms.any badM then (0, 1) else match ms.find? (hasM at_) with | some m => (m.2.1 + at_ - m.1, 0) | none => (0, 122)
theorem any_find_hit {α : Type} {f : α → Bool} {l : List α} {k : Nat} {x : α} (h : l[k]? = some x) (hx : f x = true) : l.any f = true := List.any_eq_true.2 ⟨x, List.mem_of_getElem? h, hx⟩
/-- The used units that come first are the allocations that come first. -/
theorem markP_take {us : List (Int × Int × Int)} (m : Int) (k : Nat) : markP m (us.take k) = (markP m us).take (markP m (us.take k)).length := by
  conv => rhs; rw [← List.take_append_drop k us]
  have : markP m (us.take k ++ us.drop k) = markP m (us.take k) ++ markP m (us.drop k) := by unfold markP; rw [List.filter_append, List.map_append]
  rw [this, List.take_left' (by simp)]
end Go.Proofs.Ytcfmimfkaabmkaa
