/- Plain facts: one allocation of an area: what Get answers there, what Put makes of the layout. -/
import Derived.Test.YtcfmimfkaabmkaaM1
import Derived.Test.YtcfmimfkaabmkaaJ1
set_option linter.unusedVariables false
set_option linter.unusedSimpArgs false
namespace Go.Proofs.Ytcfmimfkaabmkaa
open Go.RowKit
attribute [local irreducible] num
theorem psOf_its (lay : Lay) : psOf (itsOf lay) = lay.map (fun x => ((x.1 : Int), (x.2.length : Int))) := by
  simp [psOf, itsOf, List.map_map, Function.comp_def]
theorem bsOf_its (lay : Lay) : bsOf (itsOf lay) = lay.map (fun x => x.2) := by
  simp [bsOf, itsOf, List.map_map, Function.comp_def]
theorem lay_cut {lay : Lay} {i : Nat} {x : Nat × List UInt8} (h : lay[i]? = some x) : lay = lay.take i ++ x :: lay.drop (i + 1) := by
  rw [← drop_at h, List.take_append_drop]
/-- The bytes of one allocation lie where its offset says; others of the same length can take their place. -/
theorem area_split {n : Nat} {A R : Lay} {p : Nat} {s : List UInt8} (hok : ok true 8 (A ++ (p, s) :: R)) :
    ∃ pre post, pre.length = p ∧ ∀ s', s'.length = s.length → ok true 8 (A ++ (p, s') :: R) ∧ endOf 8 (A ++ (p, s') :: R) = endOf 8 (A ++ (p, s) :: R) ∧ render n (A ++ (p, s') :: R) = pre ++ (s' ++ post) := by
  obtain ⟨k1, k2⟩ := (ok_append _ _ _ _).1 hok
  have hg := gap_ok (endOf_8 (e := 8) rfl k1) k2
  have hl1 := enc_length (e := 8) rfl k1
  have hge := endOf_ge k1
  have hgl := gapB_length (p - 8 - endOf 8 A) hg
  have hp : endOf 8 A + 8 ≤ p := k2.2.1
  refine ⟨four (endOf 8 (A ++ (p, s) :: R) - 8) ++ (four (A ++ (p, s) :: R).length ++ (enc 8 A ++ (gapB (p - 8 - endOf 8 A) ++ (four s.length ++ four 1)))), zs (upN s.length - s.length) ++ (enc (p + upN s.length) R ++ zs (n - endOf 8 (A ++ (p, s) :: R))), ?_, fun s' hs' => ?_⟩
  · simp only [List.length_append, four_length, hl1, hgl]; omega
  · have he : endOf 8 (A ++ (p, s') :: R) = endOf 8 (A ++ (p, s) :: R) := by rw [endOf_append, endOf_append]; simp only [endOf, hs']
    refine ⟨(ok_append _ _ _ _).2 ⟨k1, ?_⟩, he, ?_⟩
    · obtain ⟨o1, o2, o3, o4, o5⟩ := k2
      exact ⟨o1, o2, o3, by omega, by rw [hs']; exact o5⟩
    · unfold render
      rw [he, enc_append]
      simp only [enc, usedB, hs', List.append_assoc, List.length_append, List.length_cons]
theorem sl_split {pre s post : List UInt8} {p : Nat} (hp : pre.length = p) : sl (pre ++ (s ++ post)) p (p + s.length) = s := sl_mid hp rfl
theorem area_get {l : List UInt8} {lay : Lay} (h : Area l lay) {i p : Nat} {s : List UInt8} (hi : lay[i]? = some (p, s)) : sl l p (p + s.length) = s := by
  have hc := lay_cut hi
  have hok := h.2.2.1
  rw [hc] at hok
  obtain ⟨pre, post, h1, h2⟩ := area_split (n := l.length) hok
  have h3 := (h2 s rfl).2.2
  rw [← hc] at h3
  rw [h.2.2.2.2, h3]
  exact sl_split h1
theorem findP_at : ∀ (lay : Lay) (b : Bool) (e : Nat), ok b e lay → ∀ (i p : Nat) (s : List UInt8), lay[i]? = some (p, s) → ∀ at_ : Int, (p : Int) ≤ at_ → at_ < (p : Int) + (s.length : Int) → findP (psOf (itsOf lay)) at_ = some ((p : Int), (s.length : Int))
  | [], _, _, _, i, p, s, h, _, _, _ => by simp at h
  | (q, t) :: r, b, e, ⟨o1, o2, o3, o4, o5⟩, 0, p, s, h, at_, h1, h2 => by
    simp only [List.getElem?_cons_zero, Option.some.injEq, Prod.mk.injEq] at h
    obtain ⟨rfl, rfl⟩ := h
    rw [psOf_its]
    unfold findP
    rw [List.map_cons, List.find?_cons_of_pos]
    simp only [hasB, Bool.and_eq_true, decide_eq_true_eq]
    exact ⟨h1, h2⟩
  | (q, t) :: r, b, e, ⟨o1, o2, o3, o4, o5⟩, i + 1, p, s, h, at_, h1, h2 => by
    simp only [List.getElem?_cons_succ] at h
    have ih := findP_at r _ _ o5 i p s h at_ h1 h2
    have hge := offs_ge r _ _ o5 (p, s) (List.mem_of_getElem? h)
    have hub := upN_bd t.length
    rw [psOf_its] at ih ⊢
    unfold findP at ih ⊢
    rw [List.map_cons, List.find?_cons_of_neg, ih]
    simp only [hasB, Bool.and_eq_true, decide_eq_true_eq]
    simp only at hge
    omega
/-- The piece that is found is an allocation. -/
theorem findP_lay {lay : Lay} {at_ : Int} {q : Int × Int} (h : findP (psOf (itsOf lay)) at_ = some q) : ∃ (i p : Nat) (s : List UInt8), lay[i]? = some (p, s) ∧ q = ((p : Int), (s.length : Int)) ∧ (p : Int) ≤ at_ ∧ at_ < (p : Int) + (s.length : Int) := by
  have hm := List.mem_of_find?_eq_some h
  have hp := List.find?_some h
  simp only [hasB, Bool.and_eq_true, decide_eq_true_eq] at hp
  rw [psOf_its, List.mem_map] at hm
  obtain ⟨⟨p, s⟩, hx, rfl⟩ := hm
  obtain ⟨i, hi⟩ := List.getElem?_of_mem hx
  exact ⟨i, p, s, hi, rfl, hp.1, hp.2⟩
/-- What Get answers at an allocation. -/
theorem getS_at {l : List UInt8} {lay : Lay} (h : Area l lay) {i p : Nat} {s : List UInt8} (hi : lay[i]? = some (p, s)) : getS l p s.length = (s, 0) := by
  have ho : openS l = true := (openS_iff _).2 ⟨_, h⟩
  have hD : layD l = lay := layD_area h
  have hs1 : 1 ≤ s.length := ok_pos lay _ _ h.2.2.1 (p, s) (List.mem_of_getElem? hi)
  have hf := findP_at lay _ _ h.2.2.1 i p s hi p (Int.le_refl _) (by omega)
  have hpc : partC l p s.length = 0 := by
    rw [part_some ho (by omega) (q := ((p : Int), (s.length : Int))) (by rw [hD]; exact hf)]
    exact if_neg (by simp only; omega)
  unfold getS
  rw [if_pos hpc]
  congr 1
  rw [show (((p : Nat) : Int) + (s.length : Int)).toNat = p + s.length by omega, Int.toNat_natCast]
  exact area_get h hi
/-- What Find answers at an allocation. -/
theorem findS_at {l : List UInt8} {lay : Lay} (h : Area l lay) {i p : Nat} {s : List UInt8} (hi : lay[i]? = some (p, s)) : findS l p = (((p : Int), (s.length : Int)), 0) := by
  have ho : openS l = true := (openS_iff _).2 ⟨_, h⟩
  have hD : layD l = lay := layD_area h
  have hs1 : 1 ≤ s.length := ok_pos lay _ _ h.2.2.1 (p, s) (List.mem_of_getElem? hi)
  have hf := findP_at lay _ _ h.2.2.1 i p s hi p (Int.le_refl _) (by omega)
  unfold findS
  rw [if_pos ho, hD, hf]
/-- The layout behind a Put. -/
def putAt (lay : Lay) (i p : Nat) (s : List UInt8) : Lay := lay.take i ++ (p, s) :: lay.drop (i + 1)
theorem putAt_get {lay : Lay} {i p : Nat} {s t : List UInt8} (hi : lay[i]? = some (p, t)) (j : Nat) : (putAt lay i p s)[j]? = if j = i then some (p, s) else lay[j]? := by
  have hil : i < lay.length := (List.getElem?_eq_some_iff.1 hi).1
  have hcut := lay_cut hi
  unfold putAt
  by_cases h : j = i
  · subst h
    rw [if_pos rfl, List.getElem?_append_right (by simp; omega)]
    simp [Nat.min_eq_left (Nat.le_of_lt hil)]
  · rw [if_neg h]
    have hlt : (lay.take i).length = i := by rw [List.length_take]; omega
    rcases Nat.lt_or_ge j i with h1 | h1
    · rw [List.getElem?_append_left (by omega), List.getElem?_take_of_lt h1]
    · obtain ⟨k, rfl⟩ : ∃ k, j = i + 1 + k := ⟨j - (i + 1), by omega⟩
      rw [List.getElem?_append_right (by omega), hlt, show i + 1 + k - i = k + 1 by omega, List.getElem?_cons_succ, List.getElem?_drop]
theorem area_put {l : List UInt8} {lay : Lay} (h : Area l lay) {i p k : Nat} {t s : List UInt8} (hi : lay[i]? = some (p, t)) (hk : k + s.length ≤ t.length) :
    Area (over l (p + k) s) (putAt lay i p (over t k s)) ∧ (over l (p + k) s).length = l.length := by
  have hc := lay_cut hi
  have hok := h.2.2.1
  rw [hc] at hok
  obtain ⟨pre, post, h1, h2⟩ := area_split (n := l.length) hok
  have h3 := (h2 t rfl).2.2
  rw [← hc] at h3
  have hol := over_length t k s hk
  obtain ⟨r1, r2, r3⟩ := h2 (over t k s) hol
  rw [← hc] at r2
  have hl : l = pre ++ (t ++ post) := by rw [← h3]; exact h.2.2.2.2
  have hov : over l (p + k) s = pre ++ (over t k s ++ post) := by
    rw [hl]
    unfold over
    rw [← h1, List.take_append, List.drop_append]
    simp only [List.take_of_length_le (show pre.length ≤ pre.length + k by omega), Nat.add_sub_cancel_left, List.append_assoc]
    rw [List.take_append_of_le_length (by omega), show pre.length + k + s.length - pre.length = k + s.length by omega, List.drop_append_of_le_length (by omega), List.drop_eq_nil_of_le (show pre.length ≤ pre.length + k + s.length by omega)]
    simp
  have hlen : (pre ++ (over t k s ++ post)).length = l.length := by rw [hl]; simp only [List.length_append, hol]
  have hen := h.2.2.2.1
  have hA := area_render r1 h.1 h.2.1 (by rw [r2]; exact hen)
  rw [r3] at hA
  rw [hov]
  exact ⟨hA, hlen⟩
/-- What Put answers where it answers OK. -/
theorem putS_at {l : List UInt8} {lay : Lay} (h : Area l lay) {i p k : Nat} {t s : List UInt8} (hi : lay[i]? = some (p, t)) (hs : 1 ≤ s.length) (hk : k + s.length ≤ t.length) : putS l ((p : Int) + (k : Int)) s = (over l (p + k) s, 0) := by
  have ho : openS l = true := (openS_iff _).2 ⟨_, h⟩
  have hD : layD l = lay := layD_area h
  have hf := findP_at lay _ _ h.2.2.1 i p t hi ((p : Int) + (k : Int)) (by omega) (by omega)
  have hpc : partC l ((p : Int) + (k : Int)) s.length = 0 := by
    rw [part_some ho (by omega) (q := ((p : Int), (t.length : Int))) (by rw [hD]; exact hf)]
    exact if_neg (by simp only; omega)
  unfold putS
  rw [if_pos hpc]
  congr 1
/-- Where Put answers OK. -/
theorem putS_ok {l : List UInt8} {lay : Lay} (h : Area l lay) {at_ : Int} {s : List UInt8} (h0 : (putS l at_ s).2 = 0) : ∃ (i p k : Nat) (t : List UInt8), lay[i]? = some (p, t) ∧ at_ = (p : Int) + (k : Int) ∧ 1 ≤ s.length ∧ k + s.length ≤ t.length := by
  have hD : layD l = lay := layD_area h
  have hpc : partC l at_ s.length = 0 := by
    unfold putS at h0
    by_cases hp : partC l at_ s.length = 0
    · exact hp
    · rw [if_neg hp] at h0; exact absurd h0 hp
  obtain ⟨-, h2, q, hq, h3⟩ := part_zero hpc
  rw [hD] at hq
  obtain ⟨i, p, t, hi, rfl, g1, g2⟩ := findP_lay hq
  simp only at h3
  exact ⟨i, p, (at_ - p).toNat, t, hi, by omega, by omega, by omega⟩
end Go.Proofs.Ytcfmimfkaabmkaa
