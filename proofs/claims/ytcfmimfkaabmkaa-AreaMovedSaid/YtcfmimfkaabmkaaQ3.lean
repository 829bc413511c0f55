/- Plain facts for AreaMoved. -/
import Derived.Test.YtcfmimfkaabmkaaQ1
import Derived.Test.YtcfmimfkaabmkaaO3
set_option linter.unusedVariables false
set_option linter.unusedSimpArgs false
namespace Go.Proofs.Ytcfmimfkaabmkaa
open Go.RowKit
attribute [local irreducible] num
theorem compL_idem : ∀ (lay : Lay) (e : Nat), compL e (compL e lay) = compL e lay
  | [], _ => rfl
  | (p, s) :: r, e => by simp only [compL]; rw [compL_idem r]
theorem compL_at : ∀ (lay : Lay) (e i p : Nat) (s : List UInt8), lay[i]? = some (p, s) → ∃ q, (compL e lay)[i]? = some (q, s) ∧ (movesL e lay)[i]? = some ((p : Int), (q : Int), (s.length : Int)) ∧ q = endOf e (compL e (lay.take i)) + 8
  | [], _, i, p, s, h => by simp at h
  | (p', s') :: r, e, 0, p, s, h => by
    simp only [List.getElem?_cons_zero, Option.some.injEq, Prod.mk.injEq] at h
    obtain ⟨rfl, rfl⟩ := h
    exact ⟨e + 8, rfl, rfl, rfl⟩
  | (p', s') :: r, e, i + 1, p, s, h => by
    simp only [List.getElem?_cons_succ] at h
    obtain ⟨q, h1, h2, h3⟩ := compL_at r (e + 8 + upN s'.length) i p s h
    exact ⟨q, by simpa [compL] using h1, by simpa [movesL] using h2, by simpa [compL, endOf] using h3⟩
theorem comp_step (lay : Lay) (i p : Nat) (s : List UInt8) (h : lay[i]? = some (p, s)) (e : Nat) : endOf e (compL e (lay.take (i + 1))) = endOf e (compL e (lay.take i)) + 8 + upN s.length := by
  rw [List.take_add_one, h]
  show endOf e (compL e (lay.take i ++ [(p, s)])) = _
  rw [compL_snoc, endOf_append]
  simp only [endOf]
theorem moves_find : ∀ (lay : Lay) (b : Bool) (e e' i p q : Nat) (s : List UInt8), ok b e lay → lay[i]? = some (p, s) → (compL e' lay)[i]? = some (q, s) → ∀ at_ : Int, (p : Int) ≤ at_ → at_ < (p : Int) + (s.length : Int) → (movesL e' lay).find? (hasM at_) = some ((p : Int), (q : Int), (s.length : Int))
  | [], _, _, _, i, p, q, s, _, h, _, _, _, _ => by simp at h
  | (p', s') :: r, b, e, e', 0, p, q, s, ⟨o1, o2, o3, o4, o5⟩, h, h2, at_, h3, h4 => by
    simp only [List.getElem?_cons_zero, Option.some.injEq, Prod.mk.injEq] at h
    simp only [compL, List.getElem?_cons_zero, Option.some.injEq, Prod.mk.injEq] at h2
    obtain ⟨rfl, rfl⟩ := h
    obtain ⟨rfl, -⟩ := h2
    rw [movesL, List.find?_cons_of_pos]
    simp only [hasM, Bool.and_eq_true, decide_eq_true_eq]
    exact ⟨h3, h4⟩
  | (p', s') :: r, b, e, e', i + 1, p, q, s, ⟨o1, o2, o3, o4, o5⟩, h, h2, at_, h3, h4 => by
    simp only [List.getElem?_cons_succ] at h
    simp only [compL, List.getElem?_cons_succ] at h2
    have hge := offs_ge r _ _ o5 (p, s) (List.mem_of_getElem? h)
    have hub := upN_bd s'.length
    rw [movesL, List.find?_cons_of_neg, moves_find r _ _ _ i p q s o5 h h2 at_ h3 h4]
    simp only [hasM, Bool.and_eq_true, decide_eq_true_eq]
    simp only at hge
    omega
theorem moves_mem {lay : Lay} {e : Nat} {m : Mv} (h : m ∈ movesL e lay) : ∃ (i p q : Nat) (s : List UInt8), lay[i]? = some (p, s) ∧ (compL e lay)[i]? = some (q, s) ∧ m = ((p : Int), (q : Int), (s.length : Int)) := by
  obtain ⟨i, hi⟩ := List.getElem?_of_mem h
  have hlt : i < lay.length := by have := (List.getElem?_eq_some_iff.1 hi).1; rw [movesL_len] at this; exact this
  obtain ⟨⟨p, s⟩, hx⟩ : ∃ x, lay[i]? = some x := ⟨_, List.getElem?_eq_getElem hlt⟩
  obtain ⟨q, h1, h2, -⟩ := compL_at lay e i p s hx
  rw [hi] at h2
  exact ⟨i, p, q, s, hx, h1, Option.some.inj h2⟩
theorem area_in {l : List UInt8} {lay : Lay} (h : Area l lay) {i p : Nat} {s : List UInt8} (hi : lay[i]? = some (p, s)) : 16 ≤ p ∧ 1 ≤ s.length ∧ p + s.length ≤ l.length := by
  have hm := List.mem_of_getElem? hi
  have h2 := ok_pos lay _ _ h.2.2.1 _ hm
  have h3 := offs_ge lay _ _ h.2.2.1 _ hm
  have h4 := ends_le lay _ _ h.2.2.1 _ hm
  have h5 := h.2.2.2.1
  have h6 := upN_bd s.length
  simp only at h2 h3 h4
  omega
/-- What Relocate answers at the moves of Compact. -/
theorem reloc_moves {l : List UInt8} {lay : Lay} (h : Area l lay) {i p q : Nat} {s : List UInt8} (hi : lay[i]? = some (p, s)) (hq : (compL 8 lay)[i]? = some (q, s)) {k : Nat} (hk : k < s.length) : relocS (movesL 8 lay) ((p : Int) + (k : Int)) = ((q : Int) + (k : Int), 0) := by
  have hc := (comp_area h).1
  have hbad : (movesL 8 lay).any badM = false := by
    rw [List.any_eq_false]
    intro m hm
    obtain ⟨j, p', q', s', h1, h2, rfl⟩ := moves_mem hm
    have a1 := area_in h h1
    have a2 := area_in hc h2
    have a3 := h.2.1
    have a4 := hc.2.1
    simp only [badM, badN, Bool.or_eq_true, decide_eq_true_eq]
    omega
  unfold relocS
  rw [hbad, if_neg (by simp), moves_find lay true 8 8 i p q s h.2.2.1 hi hq _ (by omega) (by omega)]
  simp only [Prod.mk.injEq, and_true]
  omega
theorem byte_at {l : List UInt8} {lay : Lay} (h : Area l lay) {i p : Nat} {s : List UInt8} (hi : lay[i]? = some (p, s)) {k : Nat} (hk : k < s.length) : l[p + k]? = s[k]? := by
  have h1 := area_get h hi
  have h2 := area_in h hi
  have h3 : (sl l p (p + s.length))[k]? = l[p + k]? := by
    unfold sl
    rw [List.getElem?_take_of_lt (by omega), List.getElem?_drop]
  rw [← h3, h1]
end Go.Proofs.Ytcfmimfkaabmkaa
