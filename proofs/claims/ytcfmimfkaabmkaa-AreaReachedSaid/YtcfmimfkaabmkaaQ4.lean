/- Plain facts for AreaReached: how an area comes about. -/
import Derived.Test.YtcfmimfkaabmkaaQ2
set_option linter.unusedVariables false
set_option linter.unusedSimpArgs false
namespace Go.Proofs.Ytcfmimfkaabmkaa
open Go.RowKit
attribute [local irreducible] num
/-- The allocation that fills a gap of 16 bytes or more. -/
def exL (e p : Nat) : Lay := if e + 24 ≤ p then [(e + 8, zs (p - 8 - e - 8))] else []
/-- The size that an allocation has while a gap of 8 bytes behind it belongs to it. -/
def szL (p : Nat) (s : List UInt8) : Lay → Nat
  | [] => s.length
  | (p', _) :: _ => if p' = p + upN s.length + 16 then upN s.length + 8 else s.length
/-- The first k blocks, as fill lays them. -/
def preL : Nat → Nat → Lay → Lay
  | 0, _, _ => []
  | _ + 1, _, [] => []
  | k + 1, e, (p, s) :: r => exL e p ++ (p, zs (szL p s r)) :: preL k (p + upN s.length) r
/-- The first i blocks as fill lays them, the others with their own sizes. -/
def mixL : Nat → Nat → Lay → Lay
  | _, _, [] => []
  | i, e, (p, s) :: r => exL e p ++ (p, zs (if i = 0 then s.length else szL p s r)) :: mixL (i - 1) (p + upN s.length) r
/-- The end of the block before number k. -/
def endK (e : Nat) (lay : Lay) (k : Nat) : Nat := endOf e (lay.take k)
theorem upN_up (n : Nat) (h : n % 8 = 0) : upN n = n := by unfold upN; omega
theorem gapsP_append : ∀ (A B : Lay) (e : Nat), gapsP e (A ++ B) = gapsP e A ++ gapsP (endOf e A) B
  | [], B, e => rfl
  | (p, s) :: A, B, e => by
    rw [List.cons_append, gapsP, gapsP, gapsP_append A B, List.append_assoc]
    rfl
/-- Where a layout has no gaps, an allocation comes behind it, or where the rest lets it. -/
theorem alloc_full (n : Nat) (hn : 1 ≤ n) : ∀ (A R : Lay) (b : Bool) (e : Nat), e % 8 = 0 → ok b e A → gapsP e A = [] → allocL n e (A ++ R) = (A ++ (allocL n (endOf e A) R).1, (allocL n (endOf e A) R).2)
  | [], R, b, e, _, _, _ => rfl
  | (p, s) :: A, R, b, e, he, ⟨o1, o2, o3, o4, o5⟩, hg => by
    have h8 := upN_8 s.length
    rw [gapsP] at hg
    have h1 := (List.append_eq_nil_iff.1 hg).1
    have h2 := (List.append_eq_nil_iff.1 hg).2
    have hz : p - 8 - e = 0 := by
      by_cases h : p - 8 - e = 0
      · exact h
      · rw [if_neg h] at h1; cases h1
    have ih := alloc_full n hn A R _ _ (by omega) o5 h2
    rw [List.cons_append, allocL, if_neg (by omega), ih]
    rfl
/-- Where fill's layout ends behind a block that ends at e. -/
def endF (e : Nat) : Lay → Nat
  | [] => e
  | (p, _) :: _ => if p = e + 16 then e + 8 else e
theorem szL_end (p : Nat) (s : List UInt8) (r : Lay) : p + upN (szL p s r) = endF (p + upN s.length) r := by
  have h8 := upN_8 s.length
  match r with
  | [] => rfl
  | (p', s') :: r' =>
    simp only [szL, endF]
    split
    · rw [upN_up _ (by omega)]; omega
    · rfl
theorem szL_pos (p : Nat) (s : List UInt8) (r : Lay) (h : 1 ≤ s.length) : 1 ≤ szL p s r := by
  match r with
  | [] => exact h
  | (p', s') :: r' => simp only [szL]; split <;> omega
theorem exL_yes {e p : Nat} (h : e + 24 ≤ p) : exL e p = [(e + 8, zs (p - 8 - e - 8))] := if_pos h
theorem exL_no {e p : Nat} (h : ¬ e + 24 ≤ p) : exL e p = [] := if_neg h
/-- fill's state: no gaps, and where it ends. -/
theorem pre_ok : ∀ (k : Nat) (lay : Lay) (b : Bool) (e : Nat), e % 8 = 0 → ok b e lay →
    ok true (endF e lay) (preL k e lay) ∧ gapsP (endF e lay) (preL k e lay) = [] ∧ (k ≤ lay.length → endOf (endF e lay) (preL k e lay) = endF (endK e lay k) (lay.drop k))
  | 0, lay, b, e, he, hok => ⟨trivial, rfl, fun _ => rfl⟩
  | k + 1, [], b, e, he, hok => ⟨trivial, rfl, fun h => by simp at h⟩
  | k + 1, (p, s) :: r, b, e, he, ⟨o1, o2, o3, o4, o5⟩ => by
    have h8 := upN_8 s.length
    have hsz1 := szL_pos p s r o4
    have hse := szL_end p s r
    obtain ⟨i1, i2, i3⟩ := pre_ok k r false (p + upN s.length) (by omega) o5
    have hends : endK e ((p, s) :: r) (k + 1) = endK (p + upN s.length) r k := by simp [endK, endOf]
    rw [preL]
    by_cases hx : e + 24 ≤ p
    · have hE : endF e ((p, s) :: r) = e := by simp only [endF]; rw [if_neg (by omega)]
      have hz : (zs (p - 8 - e - 8)).length = p - 8 - e - 8 := zs_length _
      have hf : upN (p - 8 - e - 8) = p - 8 - e - 8 := upN_up _ (by omega)
      have he1 : e + 8 + upN (p - 8 - e - 8) = p - 8 := by omega
      rw [exL_yes hx, hE]
      refine ⟨⟨by omega, by omega, fun _ => by omega, by rw [hz]; omega, by omega, by rw [hz]; omega, (fun h => by cases h), by rw [zs_length]; exact hsz1, by rw [zs_length, hse]; exact ok_weak i1⟩, ?_, fun hk => ?_⟩
      · simp only [List.cons_append, List.nil_append, gapsP, zs_length, he1, hse]
        rw [if_pos (by omega), if_pos (by omega), i2]
        rfl
      · simp only [List.cons_append, List.nil_append, endOf, zs_length, hse]
        rw [i3 (by simpa using hk), hends]
        rfl
    · have hpE : p = endF e ((p, s) :: r) + 8 := by
        simp only [endF]
        split <;> omega
      rw [exL_no hx]
      obtain ⟨E, hE⟩ : ∃ E, endF e ((p, s) :: r) = E := ⟨_, rfl⟩
      rw [hE] at hpE ⊢
      refine ⟨⟨by omega, by omega, fun _ => by omega, by rw [zs_length]; exact hsz1, by rw [zs_length, hse]; exact ok_weak i1⟩, ?_, fun hk => ?_⟩
      · simp only [List.nil_append, gapsP, zs_length, hse]
        rw [if_pos (by omega), i2]
        rfl
      · simp only [List.nil_append, endOf, zs_length, hse]
        rw [i3 (by simpa using hk), hends]
        rfl
/-- One more block of fill. -/
theorem pre_step : ∀ (k : Nat) (lay : Lay) (e p : Nat) (s : List UInt8), lay[k]? = some (p, s) → preL (k + 1) e lay = preL k e lay ++ (exL (endK e lay k) p ++ [(p, zs (szL p s (lay.drop (k + 1))))])
  | _, [], e, p, s, h => by simp at h
  | 0, (p', s') :: r, e, p, s, h => by
    simp only [List.getElem?_cons_zero, Option.some.injEq, Prod.mk.injEq] at h
    obtain ⟨rfl, rfl⟩ := h
    simp [preL, endK, endOf]
  | k + 1, (p', s') :: r, e, p, s, h => by
    simp only [List.getElem?_cons_succ] at h
    have ih := pre_step k r (p' + upN s'.length) p s h
    rw [preL, ih, preL]
    simp [endK, endOf]
theorem pre_mix : ∀ (lay : Lay) (e k : Nat), lay.length ≤ k → preL k e lay = mixL k e lay
  | [], e, k, _ => by cases k <;> rfl
  | (p, s) :: r, e, 0, h => by simp at h
  | (p, s) :: r, e, k + 1, h => by
    rw [preL, mixL, if_neg (by omega), pre_mix r _ k (by simpa using h)]
    rfl
/-- The parts of the layout around block number i. -/
theorem mix_cut : ∀ (i : Nat) (lay : Lay) (e p : Nat) (s : List UInt8), lay[i]? = some (p, s) →
    mixL (i + 1) e lay = (preL i e lay ++ exL (endK e lay i) p) ++ (p, zs (szL p s (lay.drop (i + 1)))) :: mixL 0 (p + upN s.length) (lay.drop (i + 1)) ∧
    mixL i e lay = (preL i e lay ++ exL (endK e lay i) p) ++ (p, zs s.length) :: mixL 0 (p + upN s.length) (lay.drop (i + 1))
  | _, [], e, p, s, h => by simp at h
  | 0, (p', s') :: r, e, p, s, h => by
    simp only [List.getElem?_cons_zero, Option.some.injEq, Prod.mk.injEq] at h
    obtain ⟨rfl, rfl⟩ := h
    simp [mixL, preL, endK, endOf]
  | i + 1, (p', s') :: r, e, p, s, h => by
    simp only [List.getElem?_cons_succ] at h
    obtain ⟨h1, h2⟩ := mix_cut i r (p' + upN s'.length) p s h
    constructor
    · rw [mixL, if_neg (by omega), show i + 1 + 1 - 1 = i + 1 by omega, h1, preL]
      simp [endK, endOf]
    · rw [mixL, if_neg (by omega), show i + 1 - 1 = i by omega, h2, preL]
      simp [endK, endOf]
/-- All blocks with their own sizes, and the fillers: an area. -/
theorem mix0_ok : ∀ (lay : Lay) (b : Bool) (e : Nat), e % 8 = 0 → ok b e lay → ok b e (mixL 0 e lay) ∧ endOf e (mixL 0 e lay) = endOf e lay
  | [], _, _, _, _ => ⟨trivial, rfl⟩
  | (p, s) :: r, b, e, he, ⟨o1, o2, o3, o4, o5⟩ => by
    have h8 := upN_8 s.length
    obtain ⟨i1, i2⟩ := mix0_ok r false (p + upN s.length) (by omega) o5
    rw [mixL, if_pos rfl]
    have hz : (zs s.length).length = s.length := zs_length _
    by_cases hx : e + 24 ≤ p
    · have hz2 : (zs (p - 8 - e - 8)).length = p - 8 - e - 8 := zs_length _
      have hf : upN (p - 8 - e - 8) = p - 8 - e - 8 := upN_up _ (by omega)
      rw [exL_yes hx]
      refine ⟨⟨by omega, by omega, fun _ => by omega, by rw [hz2]; omega, by omega, by rw [hz2]; omega, (fun h => by cases h), by rw [hz]; exact o4, by rw [hz]; exact i1⟩, ?_⟩
      simp only [List.cons_append, List.nil_append, endOf, hz, i2, Nat.zero_sub]
    · rw [exL_no hx]
      refine ⟨⟨o1, o2, o3, by rw [hz]; exact o4, by rw [hz]; exact i1⟩, ?_⟩
      simp only [List.nil_append, endOf, hz, i2, Nat.zero_sub]
theorem lay_end {lay : Lay} {k p : Nat} {s : List UInt8} (hok : ok true 8 lay) (h : lay[k]? = some (p, s)) : endK 8 lay k + 8 ≤ p ∧ p % 8 = 0 ∧ p + upN s.length ≤ endOf 8 lay ∧ endK 8 lay (k + 1) = p + upN s.length ∧ (k = 0 → p ≠ 24) ∧ 1 ≤ s.length ∧ endK 8 lay k % 8 = 0 := by
  have hc := lay_cut h
  have h2 := hok
  rw [hc] at h2
  obtain ⟨k1, k2⟩ := (ok_append _ _ _ _).1 h2
  obtain ⟨o1, o2, o3, o4, o5⟩ := k2
  have h3 := endOf_ge o5
  have h4 : endOf 8 lay = endOf (p + upN s.length) (lay.drop (k + 1)) := by
    conv => lhs; rw [hc]
    rw [endOf_append]; rfl
  refine ⟨o2, o1, by omega, ?_, fun hk => ?_, o4, endOf_8 (e := 8) rfl k1⟩
  · unfold endK
    rw [List.take_add_one, h, endOf_append]; rfl
  · subst hk
    exact o3 rfl
/-- fill's areas. -/
theorem pre_area {l : List UInt8} {lay : Lay} (h : Area l lay) {k : Nat} (hk : k ≤ lay.length) : Area (render l.length (preL k 8 lay)) (preL k 8 lay) ∧ endOf 8 (preL k 8 lay) = endF (endK 8 lay k) (lay.drop k) ∧ gapsP 8 (preL k 8 lay) = [] := by
  have hE : endF 8 lay = 8 := by
    match lay, h.2.2.1 with
    | [], _ => rfl
    | (p, s) :: r, ⟨o1, o2, o3, o4, o5⟩ => simp only [endF]; exact if_neg (o3 rfl)
  obtain ⟨h1, h2, h3⟩ := pre_ok k lay true 8 rfl h.2.2.1
  rw [hE] at h1 h2 h3
  have h3 := h3 hk
  refine ⟨area_render h1 h.1 h.2.1 ?_, h3, h2⟩
  rw [h3]
  have hen := h.2.2.2.1
  rcases Nat.lt_or_ge k lay.length with hlt | hge
  · obtain ⟨⟨p, s⟩, hx⟩ : ∃ x, lay[k]? = some x := ⟨_, List.getElem?_eq_getElem hlt⟩
    have h4 := lay_end h.2.2.1 hx
    rw [drop_at hx]
    simp only [endF]
    split <;> omega
  · rw [List.drop_eq_nil_of_le hge]
    have : endK 8 lay k = endOf 8 lay := by unfold endK; rw [List.take_of_length_le hge]
    simp only [endF, this]
    omega
/-- fill's allocation of a gap. -/
theorem fill_gap {l : List UInt8} {lay : Lay} (h : Area l lay) {k p : Nat} {s : List UInt8} (hx : lay[k]? = some (p, s)) (hg : endK 8 lay k + 24 ≤ p) :
    allocA l.length (preL k 8 lay) ((p - 8 - endK 8 lay k - 8 : Nat) : Int) = (render l.length (preL k 8 lay ++ exL (endK 8 lay k) p), ((endK 8 lay k + 8 : Nat) : Int), 0) ∧ Area (render l.length (preL k 8 lay ++ exL (endK 8 lay k) p)) (preL k 8 lay ++ exL (endK 8 lay k) p) := by
  have hlt : k < lay.length := (List.getElem?_eq_some_iff.1 hx).1
  obtain ⟨h1, h2, h3⟩ := pre_area h (Nat.le_of_lt hlt)
  have h4 := lay_end h.2.2.1 hx
  have h5 := h.2.2.2.1
  have h6 := h.2.1
  rw [drop_at hx] at h2
  simp only [endF] at h2
  rw [if_neg (by omega)] at h2
  have hf : upN (p - 8 - endK 8 lay k - 8) = p - 8 - endK 8 lay k - 8 := upN_up _ (by omega)
  have ha := alloc_nogap (p - 8 - endK 8 lay k - 8) (by omega) (preL k 8 lay) true 8 rfl h1.2.2.1 (by rw [h3]; intro q hq; cases hq)
  rw [h2] at ha
  have hok := allocL_ok (n := p - 8 - endK 8 lay k - 8) (by omega) h1.2.2.1
  have he : endOf 8 (allocL (p - 8 - endK 8 lay k - 8) 8 (preL k 8 lay)).1 = p - 8 := by
    rw [ha, endOf_append, h2]
    simp only [endOf, zs_length]
    omega
  rw [exL_yes hg]
  rw [ha] at hok he
  refine ⟨?_, area_render hok h.1 h.2.1 (by rw [he]; omega)⟩
  unfold allocA
  rw [if_neg (by omega), Int.toNat_natCast, ha]
  simp only
  rw [if_pos (by rw [he]; omega)]
/-- fill's allocation of a block. -/
theorem fill_block {l : List UInt8} {lay : Lay} (h : Area l lay) {k p : Nat} {s : List UInt8} (hx : lay[k]? = some (p, s)) :
    allocA l.length (preL k 8 lay ++ exL (endK 8 lay k) p) ((szL p s (lay.drop (k + 1)) : Nat) : Int) = (render l.length (preL (k + 1) 8 lay), (p : Int), 0) ∧ 1 ≤ szL p s (lay.drop (k + 1)) ∧ szL p s (lay.drop (k + 1)) ≤ 8192 ∧ Area (render l.length (preL k 8 lay ++ exL (endK 8 lay k) p)) (preL k 8 lay ++ exL (endK 8 lay k) p) := by
  have hlt : k < lay.length := (List.getElem?_eq_some_iff.1 hx).1
  obtain ⟨h1, h2, h3⟩ := pre_area h hlt
  have hs := pre_step k lay 8 p s hx
  have h4 := lay_end h.2.2.1 hx
  have hsz := szL_pos p s (lay.drop (k + 1)) h4.2.2.2.2.2.1
  have h5 := h1.2.2.2.1
  have h6 := h.2.1
  rw [render_length h1.2.2.1 (by have := pre_len h hlt; exact this)] at h5
  rw [hs, ← List.append_assoc] at h3
  have hok := h1.2.2.1
  rw [hs, ← List.append_assoc] at hok h5
  obtain ⟨F, hF⟩ : ∃ F, preL k 8 lay ++ exL (endK 8 lay k) p = F := ⟨_, rfl⟩
  obtain ⟨n, hn⟩ : ∃ n, szL p s (lay.drop (k + 1)) = n := ⟨_, rfl⟩
  rw [hF] at h3 hok h5 ⊢
  rw [hn] at h3 hok h5 hsz ⊢
  obtain ⟨k1, k2⟩ := (ok_append _ _ _ _).1 hok
  rw [gapsP_append] at h3
  obtain ⟨g1, g2⟩ := List.append_eq_nil_iff.1 h3
  have hpe : endOf 8 F + 8 = p := by
    have o2 := k2.2.1
    rw [gapsP] at g2
    by_cases hh : p - 8 - endOf 8 F = 0
    · omega
    · rw [if_neg hh] at g2; simp at g2
  have ha := alloc_nogap n hsz F true 8 rfl k1 (by rw [g1]; intro q hq; cases hq)
  rw [hpe] at ha
  have he : endOf 8 (F ++ [(p, zs n)]) = p + upN n := by rw [endOf_append]; simp only [endOf, zs_length]
  rw [he] at h5
  have hub := upN_bd n
  refine ⟨?_, hsz, by omega, area_render k1 h.1 h.2.1 (by omega)⟩
  unfold allocA
  rw [if_neg (by omega), Int.toNat_natCast, ha]
  simp only
  rw [he, if_pos h5, hs, ← List.append_assoc, hF, hn]
where
  pre_len {l : List UInt8} {lay : Lay} (h : Area l lay) {k : Nat} (hlt : k < lay.length) : endOf 8 (preL (k + 1) 8 lay) ≤ l.length := by
    have hA := (pre_area h (k := k + 1) hlt).1
    have h2 := (pre_area h (k := k + 1) hlt).2.1
    have hen := h.2.2.2.1
    rw [h2]
    rcases Nat.lt_or_ge (k + 1) lay.length with h3 | h3
    · obtain ⟨⟨p, s⟩, hx⟩ : ∃ x, lay[k + 1]? = some x := ⟨_, List.getElem?_eq_getElem h3⟩
      have h4 := lay_end h.2.2.1 hx
      rw [drop_at hx]
      simp only [endF]
      split <;> omega
    · rw [List.drop_eq_nil_of_le h3]
      have : endK 8 lay (k + 1) = endOf 8 lay := by unfold endK; rw [List.take_of_length_le h3]
      simp only [endF, this]
      omega
end Go.Proofs.Ytcfmimfkaabmkaa
