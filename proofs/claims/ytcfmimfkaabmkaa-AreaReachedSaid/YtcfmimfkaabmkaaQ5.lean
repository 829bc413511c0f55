/- Plain facts for AreaReached: from what fill made to the area. -/
import Derived.Test.YtcfmimfkaabmkaaQ4
set_option linter.unusedVariables false
set_option linter.unusedSimpArgs false
namespace Go.Proofs.Ytcfmimfkaabmkaa
open Go.RowKit
attribute [local irreducible] num
theorem mix0_shift (r : Lay) (u : Nat) (hu : u % 8 = 0) (hok : ok false u r) : ok false (endF u r) (mixL 0 u r) := by
  obtain ⟨h1, -⟩ := mix0_ok r false u hu hok
  match r, hok, h1 with
  | [], _, _ => trivial
  | (p, s) :: r', ⟨o1, o2, o3, o4, o5⟩, h1 =>
    simp only [endF]
    split
    · rename_i hp
      rw [mixL, exL_no (by omega)] at h1 ⊢
      obtain ⟨q1, q2, q3, q4, q5⟩ := h1
      exact ⟨q1, by omega, (fun h => by cases h), q4, q5⟩
    · exact h1
theorem ok_true_of {A : Lay} {p : Nat} {z : List UInt8} {R : Lay} (h1 : ok true 8 (A ++ [(p, z)])) (h2 : ok false (p + upN z.length) R) : ok true 8 (A ++ (p, z) :: R) := by
  obtain ⟨k1, k2⟩ := (ok_append _ _ _ _).1 h1
  obtain ⟨o1, o2, o3, o4, o5⟩ := k2
  exact (ok_append _ _ _ _).2 ⟨k1, o1, o2, o3, o4, h2⟩
theorem mix_len {l : List UInt8} {lay : Lay} (h : Area l lay) {i p : Nat} {s : List UInt8} (hx : lay[i]? = some (p, s)) : endOf 8 (mixL (i + 1) 8 lay) ≤ l.length := by
  obtain ⟨c1, -⟩ := mix_cut i lay 8 p s hx
  have h4 := lay_end h.2.2.1 hx
  have hl := lay_cut hx
  have hko := h.2.2.1
  rw [hl] at hko
  have hr := ((ok_append _ _ _ _).1 hko).2.2.2.2.2
  have hu8 := upN_8 s.length
  rw [c1, endOf_append]
  simp only [endOf, zs_length, szL_end]
  have hen := h.2.2.2.1
  obtain ⟨-, m2⟩ := mix0_ok (lay.drop (i + 1)) false (p + upN s.length) (by omega) hr
  have hend : endOf 8 lay = endOf (p + upN s.length) (lay.drop (i + 1)) := by
    conv => lhs; rw [hl]
    rw [endOf_append]; rfl
  rcases hd : lay.drop (i + 1) with _ | ⟨⟨p', s'⟩, r'⟩
  · rw [hd] at hend
    simp only [mixL, endOf, endF] at hend ⊢
    omega
  · rw [hd] at hend m2
    have : endOf (endF (p + upN s.length) ((p', s') :: r')) (mixL 0 (p + upN s.length) ((p', s') :: r')) = endOf (p + upN s.length) (mixL 0 (p + upN s.length) ((p', s') :: r')) := by
      rw [mixL]
      by_cases hh : p + upN s.length + 24 ≤ p'
      · rw [exL_yes hh]; rfl
      · rw [exL_no hh]; rfl
    rw [this, m2, ← hend]
    exact hen
/-- The layout with the first blocks as fill lays them: an area. -/
theorem mix_area {l : List UInt8} {lay : Lay} (h : Area l lay) {i p : Nat} {s : List UInt8} (hx : lay[i]? = some (p, s)) :
    Area (render l.length (mixL (i + 1) 8 lay)) (mixL (i + 1) 8 lay) := by
  have hlt : i < lay.length := (List.getElem?_eq_some_iff.1 hx).1
  obtain ⟨c1, -⟩ := mix_cut i lay 8 p s hx
  have h4 := lay_end h.2.2.1 hx
  obtain ⟨h1, h2, h3⟩ := pre_area h hlt
  have hs := pre_step i lay 8 p s hx
  have hok := h1.2.2.1
  rw [hs, ← List.append_assoc] at hok
  have hl := lay_cut hx
  have hko := h.2.2.1
  rw [hl] at hko
  have hr := ((ok_append _ _ _ _).1 hko).2.2.2.2.2
  have hu8 := upN_8 s.length
  have hm := mix0_shift (lay.drop (i + 1)) (p + upN s.length) (by omega) hr
  have hlen := mix_len h hx
  rw [c1] at hlen ⊢
  exact area_render (ok_true_of hok (by rw [zs_length, szL_end]; exact hm)) h.1 h.2.1 hlen
theorem mix_zero {lay : Lay} {i p p' : Nat} {s : List UInt8} (hx : lay[i]? = some (p, s)) (hy : ∀ p' s', lay[i + 1]? = some (p', s') → p' ≠ p + upN s.length + 16) (e : Nat) : mixL (i + 1) e lay = mixL i e lay := by
  obtain ⟨c1, c2⟩ := mix_cut i lay e p s hx
  rw [c1, c2]
  have : szL p s (lay.drop (i + 1)) = s.length := by
    rcases hd : lay.drop (i + 1) with _ | ⟨⟨q, s'⟩, r'⟩
    · rfl
    · have : lay[i + 1]? = some (q, s') := by
        have := congrArg (fun z => z[0]?) hd
        simpa using this
      simp only [szL]
      rw [if_neg (hy q s' this)]
  rw [this]
/-- The block gives the gap of 8 bytes behind it back. -/
theorem mix_down {l : List UInt8} {lay : Lay} (h : Area l lay) {i p p' : Nat} {s s' : List UInt8} (hx : lay[i]? = some (p, s)) (hy : lay[i + 1]? = some (p', s')) (hg : p' = p + upN s.length + 16) :
    ∃ L, freeA l.length (mixL (i + 1) 8 lay) p = (render l.length L, 0) ∧ Area (render l.length L) L ∧ (render l.length L).length = l.length ∧ allocA l.length L (s.length : Int) = (render l.length (mixL i 8 lay), (p : Int), 0) := by
  obtain ⟨c1, c2⟩ := mix_cut i lay 8 p s hx
  have hA := mix_area h hx
  have hlt : i < lay.length := (List.getElem?_eq_some_iff.1 hx).1
  have hrl : (render l.length (mixL (i + 1) 8 lay)).length = l.length := render_length hA.2.2.1 (mix_len h hx)
  obtain ⟨Z, hZ⟩ : ∃ Z, zs (szL p s (lay.drop (i + 1))) = Z := ⟨_, rfl⟩
  obtain ⟨A, hAe⟩ : ∃ A, preL i 8 lay ++ exL (endK 8 lay i) p = A := ⟨_, rfl⟩
  obtain ⟨R, hRe⟩ : ∃ R, mixL 0 (p + upN s.length) (lay.drop (i + 1)) = R := ⟨_, rfl⟩
  have hF := (fill_block h hx).2.2.2
  rw [hAe] at hF
  rw [hAe, hZ, hRe] at c1
  rw [hAe, hRe] at c2
  have hm : (p, Z) ∈ mixL (i + 1) 8 lay := by rw [c1]; exact List.mem_append_right _ (List.mem_cons_self ..)
  obtain ⟨f1, f2, f3⟩ := freeA_rm hA hm
  rw [hrl] at f1 f2 f3
  have hix : (mixL (i + 1) 8 lay)[A.length]? = some (p, Z) := by rw [c1, List.getElem?_append_right (Nat.le_refl _), Nat.sub_self]; rfl
  have hrm : rm p (mixL (i + 1) 8 lay) = A ++ R := by
    rw [rm_erase _ true 8 A.length (p, Z) hA.2.2.1 hix, c1, List.eraseIdx_append_of_length_le (Nat.le_refl _), Nat.sub_self]
    rfl
  simp only at f1 f2 f3
  rw [hrm] at f1 f2 f3
  refine ⟨A ++ R, f1, f2, f3, ?_⟩
  have h4 := lay_end h.2.2.1 hx
  have hs1 := h4.2.2.2.2.2.1
  -- A has no gaps and ends just ahead of p
  obtain ⟨h1, h2, h3⟩ := pre_area h hlt
  have hs := pre_step i lay 8 p s hx
  rw [hs, ← List.append_assoc, hAe, gapsP_append] at h3
  obtain ⟨g1, g2⟩ := List.append_eq_nil_iff.1 h3
  have hok := h1.2.2.1
  rw [hs, ← List.append_assoc, hAe] at hok
  have hpe : endOf 8 A + 8 = p := by
    have o2 := ((ok_append _ _ _ _).1 hok).2.2.1
    rw [gapsP] at g2
    by_cases hh : p - 8 - endOf 8 A = 0
    · omega
    · rw [if_neg hh] at g2; simp at g2
  have hub := upN_bd s.length
  have hin := ends_in h hx
  have hRd : R = (p', zs s'.length) :: mixL 0 (p' + upN s'.length) (lay.drop (i + 2)) := by
    rw [← hRe, drop_at hy, mixL, if_pos rfl, exL_no (by omega)]
    rfl
  have ha := alloc_full s.length hs1 A R true 8 rfl hF.2.2.1 g1
  have hal : allocL s.length (endOf 8 A) R = ((p, zs s.length) :: R, p) := by
    rw [hRd, allocL, if_pos ⟨by omega, by omega⟩, hpe]
  rw [hal] at ha
  have hmi : A ++ (p, zs s.length) :: R = mixL i 8 lay := c2.symm
  rw [hmi] at ha
  unfold allocA
  rw [if_neg (by omega), Int.toNat_natCast, ha]
  simp only
  have hee : endOf 8 (mixL i 8 lay) = endOf 8 (mixL (i + 1) 8 lay) := by
    rw [c1, c2, endOf_append, endOf_append, hRd]; rfl
  rw [if_pos (by rw [hee]; exact mix_len h hx)]
where
  ends_in {l : List UInt8} {lay : Lay} (h : Area l lay) {i p : Nat} {s : List UInt8} (hx : lay[i]? = some (p, s)) : s.length ≤ 8192 := by
    have h4 := lay_end h.2.2.1 hx
    have h5 := h.2.2.2.1
    have h6 := h.2.1
    have := upN_bd s.length
    omega
/-! ### The fillers, and the bytes -/
/-- The offsets of the fillers. -/
def exO : Nat → Lay → List Nat
  | _, [] => []
  | e, (p, s) :: r => (if e + 24 ≤ p then [e + 8] else []) ++ exO (p + upN s.length) r
/-- Without the first j fillers. -/
def remL : Nat → Nat → Lay → Lay
  | _, _, [] => []
  | j, e, (p, s) :: r => if e + 24 ≤ p then (if j = 0 then (e + 8, zs (p - 8 - e - 8)) :: (p, zs s.length) :: remL 0 (p + upN s.length) r else (p, zs s.length) :: remL (j - 1) (p + upN s.length) r) else (p, zs s.length) :: remL j (p + upN s.length) r
def zeroL (lay : Lay) : Lay := lay.map (fun x => (x.1, zs x.2.length))
theorem rem_mix : ∀ (lay : Lay) (e : Nat), remL 0 e lay = mixL 0 e lay
  | [], _ => rfl
  | (p, s) :: r, e => by
    rw [remL, mixL, rem_mix r, if_pos rfl]
    by_cases h : e + 24 ≤ p
    · rw [if_pos h, if_pos rfl, exL_yes h]; rfl
    · rw [if_neg h, exL_no h]; rfl
theorem rem_all : ∀ (lay : Lay) (e j : Nat), (exO e lay).length ≤ j → remL j e lay = zeroL lay
  | [], _, _, _ => rfl
  | (p, s) :: r, e, j, hj => by
    rw [exO, List.length_append] at hj
    rw [remL]
    by_cases h : e + 24 ≤ p
    · rw [if_pos h] at hj ⊢
      simp only [List.length_cons, List.length_nil] at hj
      rw [if_neg (by omega), rem_all r _ _ (by omega)]; rfl
    · rw [if_neg h] at hj ⊢
      simp only [List.length_nil] at hj
      rw [rem_all r _ _ (by omega)]; rfl
/-- The bounds of what is left. -/
theorem rem_ok : ∀ (lay : Lay) (b : Bool) (e j : Nat), e % 8 = 0 → ok b e lay → ok b e (remL j e lay) ∧ endOf e (remL j e lay) = endOf e lay
  | [], _, _, _, _, _ => ⟨trivial, rfl⟩
  | (p, s) :: r, b, e, j, he, ⟨o1, o2, o3, o4, o5⟩ => by
    have h8 := upN_8 s.length
    have hz : (zs s.length).length = s.length := zs_length _
    rw [remL]
    by_cases h : e + 24 ≤ p
    · have hz2 : (zs (p - 8 - e - 8)).length = p - 8 - e - 8 := zs_length _
      have hf : upN (p - 8 - e - 8) = p - 8 - e - 8 := upN_up _ (by omega)
      rw [if_pos h]
      by_cases hj : j = 0
      · obtain ⟨i1, i2⟩ := rem_ok r false (p + upN s.length) 0 (by omega) o5
        rw [if_pos hj]
        refine ⟨⟨by omega, by omega, fun _ => by omega, by rw [hz2]; omega, by omega, by rw [hz2]; omega, (fun h => by cases h), by rw [hz]; exact o4, by rw [hz]; exact i1⟩, ?_⟩
        simp only [endOf, hz, i2]
      · obtain ⟨i1, i2⟩ := rem_ok r false (p + upN s.length) (j - 1) (by omega) o5
        rw [if_neg hj]
        refine ⟨⟨o1, o2, o3, by rw [hz]; exact o4, by rw [hz]; exact i1⟩, ?_⟩
        simp only [endOf, hz, i2]
    · obtain ⟨i1, i2⟩ := rem_ok r false (p + upN s.length) j (by omega) o5
      rw [if_neg h]
      refine ⟨⟨o1, o2, o3, by rw [hz]; exact o4, by rw [hz]; exact i1⟩, ?_⟩
      simp only [endOf, hz, i2]
theorem exO_ge : ∀ (lay : Lay) (b : Bool) (e : Nat), ok b e lay → ∀ x ∈ exO e lay, e + 8 ≤ x
  | [], _, _, _, x, h => by cases h
  | (p, s) :: r, b, e, ⟨o1, o2, o3, o4, o5⟩, x, h => by
    rw [exO] at h
    rcases List.mem_append.1 h with h | h
    · split at h
      · rw [List.mem_singleton] at h; omega
      · cases h
    · have := exO_ge r _ _ o5 x h
      omega
theorem rm_cons_ne {p : Nat} {x : Nat × List UInt8} {r : Lay} (h : x.1 ≠ p) : rm p (x :: r) = x :: rm p r := by
  unfold rm; rw [List.filter_cons_of_pos (by simpa using h)]
theorem rm_cons_eq {p : Nat} {z : List UInt8} {r : Lay} (h : ∀ x ∈ r, x.1 ≠ p) : rm p ((p, z) :: r) = r := by
  unfold rm; rw [List.filter_cons_of_neg (by simp)]
  exact List.filter_eq_self.2 fun x hx => by simpa using h x hx
/-- One more filler is freed. -/
theorem rem_step : ∀ (lay : Lay) (b : Bool) (e j x : Nat), e % 8 = 0 → ok b e lay → (exO e lay)[j]? = some x → (∃ z, (x, z) ∈ remL j e lay) ∧ rm x (remL j e lay) = remL (j + 1) e lay
  | [], _, _, j, x, _, _, h => by simp [exO] at h
  | (p, s) :: r, b, e, j, x, he, ⟨o1, o2, o3, o4, o5⟩, h => by
    have h8 := upN_8 s.length
    rw [exO] at h
    rw [remL, remL]
    by_cases hx : e + 24 ≤ p
    · rw [if_pos hx] at h ⊢
      rw [if_pos hx]
      rcases j with _ | j
      · simp only [List.cons_append, List.nil_append, List.getElem?_cons_zero, Option.some.injEq] at h
        subst h
        rw [if_pos rfl, if_neg (by omega)]
        refine ⟨⟨_, List.mem_cons_self ..⟩, ?_⟩
        rw [rm_cons_eq]
        · intro y hy
          rcases List.mem_cons.1 hy with rfl | hy
          · simp only; omega
          · have := offs_ge _ _ _ (rem_ok r false _ 0 (by omega) o5).1 y hy
            omega
      · simp only [List.cons_append, List.nil_append, List.getElem?_cons_succ] at h
        rw [if_neg (by omega), if_neg (by omega)]
        obtain ⟨⟨z, h1⟩, h2⟩ := rem_step r false (p + upN s.length) j x (by omega) o5 h
        have hge := exO_ge r _ _ o5 x (List.mem_of_getElem? h)
        refine ⟨⟨z, List.mem_cons_of_mem _ h1⟩, ?_⟩
        rw [rm_cons_ne (by simp only; omega)]
        simp only [Nat.add_sub_cancel]
        rw [h2]
    · rw [if_neg hx] at h ⊢
      rw [if_neg hx]
      simp only [List.nil_append] at h
      obtain ⟨⟨z, h1⟩, h2⟩ := rem_step r false (p + upN s.length) j x (by omega) o5 h
      have hge := exO_ge r _ _ o5 x (List.mem_of_getElem? h)
      refine ⟨⟨z, List.mem_cons_of_mem _ h1⟩, ?_⟩
      rw [rm_cons_ne (by simp only; omega), h2]
theorem rem_area {l : List UInt8} {lay : Lay} (h : Area l lay) (j : Nat) : Area (render l.length (remL j 8 lay)) (remL j 8 lay) ∧ (render l.length (remL j 8 lay)).length = l.length := by
  obtain ⟨h1, h2⟩ := rem_ok lay true 8 j rfl h.2.2.1
  have h3 : endOf 8 (remL j 8 lay) ≤ l.length := by rw [h2]; exact h.2.2.2.1
  exact ⟨area_render h1 h.1 h.2.1 h3, render_length h1 h3⟩
theorem free_filler {l : List UInt8} {lay : Lay} (h : Area l lay) {j x : Nat} (hx : (exO 8 lay)[j]? = some x) : freeA (render l.length (remL j 8 lay)).length (remL j 8 lay) x = (render l.length (remL (j + 1) 8 lay), 0) := by
  obtain ⟨h1, h2⟩ := rem_area h j
  obtain ⟨⟨z, h3⟩, h4⟩ := rem_step lay true 8 j x rfl h.2.2.1 hx
  have := (freeA_rm h1 h3).1
  simp only at this
  rw [h4, h2] at this
  rw [h2]
  exact this
/-- The first k blocks have their bytes. -/
def putK (k : Nat) (lay : Lay) : Lay := lay.take k ++ zeroL (lay.drop k)
theorem putK_0 (lay : Lay) : putK 0 lay = zeroL lay := rfl
theorem putK_all (lay : Lay) {k : Nat} (h : lay.length ≤ k) : putK k lay = lay := by
  unfold putK; rw [List.take_of_length_le h, List.drop_eq_nil_of_le h]; simp [zeroL]
theorem putK_ok : ∀ (k : Nat) (lay : Lay) (b : Bool) (e : Nat), ok b e lay → ok b e (putK k lay) ∧ endOf e (putK k lay) = endOf e lay
  | _, [], _, _, _ => by simp [putK, zeroL, ok, endOf]
  | 0, (p, s) :: r, b, e, ⟨o1, o2, o3, o4, o5⟩ => by
    obtain ⟨i1, i2⟩ := putK_ok 0 r _ _ o5
    have hz : (zs s.length).length = s.length := zs_length _
    simp only [putK, List.take_zero, List.nil_append, List.drop_zero, zeroL, List.map_cons] at i1 i2 ⊢
    refine ⟨⟨o1, o2, o3, by rw [hz]; exact o4, by rw [hz]; exact i1⟩, ?_⟩
    simp only [endOf, hz]
    exact i2
  | k + 1, (p, s) :: r, b, e, ⟨o1, o2, o3, o4, o5⟩ => by
    obtain ⟨i1, i2⟩ := putK_ok k r _ _ o5
    simp only [putK, List.take_succ_cons, List.cons_append, List.drop_succ_cons] at i1 i2 ⊢
    exact ⟨⟨o1, o2, o3, o4, i1⟩, i2⟩
theorem putK_area {l : List UInt8} {lay : Lay} (h : Area l lay) (k : Nat) : Area (render l.length (putK k lay)) (putK k lay) ∧ (render l.length (putK k lay)).length = l.length := by
  obtain ⟨h1, h2⟩ := putK_ok k lay true 8 h.2.2.1
  have h3 : endOf 8 (putK k lay) ≤ l.length := by rw [h2]; exact h.2.2.2.1
  exact ⟨area_render h1 h.1 h.2.1 h3, render_length h1 h3⟩
theorem put_block {l : List UInt8} {lay : Lay} (h : Area l lay) {k p : Nat} {s : List UInt8} (hx : lay[k]? = some (p, s)) : putS (render l.length (putK k lay)) (p : Int) s = (render l.length (putK (k + 1) lay), 0) := by
  obtain ⟨h1, h2⟩ := putK_area h k
  have hlt : k < lay.length := (List.getElem?_eq_some_iff.1 hx).1
  have hs1 := (lay_end h.2.2.1 hx).2.2.2.2.2.1
  have hlen : (lay.take k).length = k := by rw [List.length_take]; omega
  have hk : (putK k lay)[k]? = some (p, zs s.length) := by
    unfold putK
    rw [List.getElem?_append_right (by omega), hlen, Nat.sub_self, drop_at hx]
    rfl
  have hz : (zs s.length).length = s.length := zs_length _
  have e1 := putS_at (k := 0) h1 hk hs1 (by rw [hz]; omega)
  obtain ⟨e2, e3⟩ := area_put (k := 0) (s := s) h1 hk (by rw [hz]; omega)
  have e4 : putAt (putK k lay) k p (over (zs s.length) 0 s) = putK (k + 1) lay := by
    have : over (zs s.length) 0 s = s := by unfold over; simp [zs]
    rw [this]
    unfold putAt putK
    rw [List.take_left' hlen, List.take_add_one, hx]
    rw [show lay.take k ++ zeroL (lay.drop k) = lay.take k ++ (p, zs s.length) :: zeroL (lay.drop (k + 1)) by rw [drop_at hx]; rfl]
    rw [List.drop_append, hlen]
    simp [hlen]
  rw [e4] at e2
  have e5 := e2.2.2.2.2
  rw [e3, h2] at e5
  have : ((p : Nat) : Int) + ((0 : Nat) : Int) = (p : Int) := by omega
  rw [this] at e1
  rw [e1, Nat.add_zero]
  rw [Nat.add_zero] at e5
  rw [e5]
end Go.Proofs.Ytcfmimfkaabmkaa
