/- Plain facts for AreaRoom and AreaFirstFit: what is free, and where Alloc finds room. -/
import Derived.Test.YtcfmimfkaabmkaaQ1
import Derived.Test.YtcfmimfkaabmkaaO3
set_option linter.unusedVariables false
set_option linter.unusedSimpArgs false
namespace Go.Proofs.Ytcfmimfkaabmkaa
open Go.RowKit
attribute [local irreducible] num
theorem most_acc : ∀ (ps : List (Int × Int)) (a : Int), a ≤ ps.foldl (fun n p => max n p.2) a ∧ (∀ q ∈ ps, q.2 ≤ ps.foldl (fun n p => max n p.2) a) ∧ (ps.foldl (fun n p => max n p.2) a = a ∨ ∃ q ∈ ps, ps.foldl (fun n p => max n p.2) a = q.2)
  | [], a => ⟨Int.le_refl _, fun q h => (by cases h), .inl rfl⟩
  | x :: r, a => by
    obtain ⟨h1, h2, h3⟩ := most_acc r (max a x.2)
    simp only [List.foldl_cons]
    refine ⟨by omega, fun q hq => ?_, ?_⟩
    · rcases List.mem_cons.1 hq with rfl | hq
      · omega
      · exact h2 q hq
    · rcases h3 with h3 | ⟨q, hq, h3⟩
      · rcases Int.le_total a x.2 with h | h
        · exact .inr ⟨x, List.mem_cons_self .., by rw [h3]; omega⟩
        · exact .inl (by rw [h3]; omega)
      · exact .inr ⟨q, List.mem_cons_of_mem _ hq, h3⟩
theorem most_nonneg (ps : List (Int × Int)) : 0 ≤ mostP ps := (most_acc ps 0).1
theorem most_ge {ps : List (Int × Int)} {q : Int × Int} (h : q ∈ ps) : q.2 ≤ mostP ps := (most_acc ps 0).2.1 q h
theorem most_at (ps : List (Int × Int)) : mostP ps = 0 ∨ ∃ q ∈ ps, mostP ps = q.2 := (most_acc ps 0).2.2
theorem gapsP_8 : ∀ (lay : Lay) (b : Bool) (e : Nat), e % 8 = 0 → ok b e lay → ∀ q ∈ gapsP e lay, q.2 % 8 = 0 ∧ 0 ≤ q.2
  | [], _, _, _, _, q, h => by cases h
  | (p, s) :: r, b, e, he, ⟨o1, o2, o3, o4, o5⟩, q, h => by
    rw [gapsP] at h
    have hu := upN_8 s.length
    rcases List.mem_append.1 h with h | h
    · split at h
      · cases h
      · rw [List.mem_singleton] at h; subst h; simp only; omega
    · exact gapsP_8 r _ _ (by omega) o5 q h
theorem alloc_gap (n : Nat) (hn : 1 ≤ n) : ∀ (lay : Lay) (b : Bool) (e : Nat), e % 8 = 0 → ok b e lay → (∃ q ∈ gapsP e lay, (n : Int) ≤ q.2) → endOf e (allocL n e lay).1 = endOf e lay
  | [], _, _, _, _, ⟨q, h, _⟩ => by cases h
  | (p, s) :: r, b, e, he, ⟨o1, o2, o3, o4, o5⟩, ⟨q, h, hq⟩ => by
    have hu := upN_8 s.length
    have hnb := upN_bd n
    have hn8 := upN_8 n
    rw [gapsP] at h
    unfold allocL
    split
    · rfl
    · rename_i hf
      simp only [endOf]
      refine alloc_gap n hn r _ _ (by omega) o5 ?_
      rcases List.mem_append.1 h with h | h
      · split at h
        · cases h
        · rw [List.mem_singleton] at h
          subst h
          simp only at hq
          refine absurd ⟨by omega, ?_⟩ hf
          omega
      · exact ⟨q, h, hq⟩
theorem alloc_nogap (n : Nat) (hn : 1 ≤ n) : ∀ (lay : Lay) (b : Bool) (e : Nat), e % 8 = 0 → ok b e lay → (∀ q ∈ gapsP e lay, q.2 < (n : Int)) → allocL n e lay = (lay ++ [(endOf e lay + 8, zs n)], endOf e lay + 8)
  | [], _, _, _, _, _ => rfl
  | (p, s) :: r, b, e, he, ⟨o1, o2, o3, o4, o5⟩, h => by
    have hu := upN_8 s.length
    have hnb := upN_bd n
    rw [gapsP] at h
    have ih := alloc_nogap n hn r _ _ (by omega) o5 (fun q hq => h q (List.mem_append_right _ hq))
    unfold allocL
    rw [if_neg, ih]
    · rfl
    · rintro ⟨h1, h2⟩
      have := h _ (List.mem_append_left _ (by rw [if_neg (by omega)]; exact List.mem_singleton.2 rfl))
      simp only at this
      omega
/-- Where Alloc finds room. -/
theorem alloc_room {lay : Lay} (hok : ok true 8 lay) {n0 n : Nat} (hn : 1 ≤ n) (he : endOf 8 lay ≤ n0) : endOf 8 (allocL n 8 lay).1 ≤ n0 ↔ (n : Int) ≤ mostP (gapsL n0 lay) := by
  have he8 := endOf_8 (e := 8) rfl hok
  by_cases hg : ∃ q ∈ gapsP 8 lay, (n : Int) ≤ q.2
  · have h1 := alloc_gap n hn lay true 8 rfl hok hg
    obtain ⟨q, hq, h2⟩ := hg
    have h3 := most_ge (ps := gapsL n0 lay) (List.mem_append_left _ hq)
    exact ⟨fun _ => by omega, fun _ => by omega⟩
  · have hg2 : ∀ q ∈ gapsP 8 lay, q.2 < (n : Int) := fun q hq => by
      rcases Int.lt_or_le q.2 (n : Int) with h | h
      · exact h
      · exact absurd ⟨q, hq, h⟩ hg
    rw [alloc_nogap n hn lay true 8 rfl hok hg2, endOf_append]
    simp only [endOf, zs_length]
    have hnb := upN_bd n
    have hn8 := upN_8 n
    constructor
    · intro h
      have h3 : (((endOf 8 lay + 8 : Nat) : Int), (((n0 - endOf 8 lay - 8) / 8 * 8 : Nat) : Int)) ∈ gapsL n0 lay := List.mem_append_right _ (by unfold tailP; rw [if_pos (by omega)]; exact List.mem_singleton.2 rfl)
      have := most_ge h3
      simp only at this
      omega
    · intro h
      rcases most_at (gapsL n0 lay) with h1 | ⟨q, hq, h1⟩
      · omega
      · rcases List.mem_append.1 hq with hq | hq
        · have := hg2 q hq; omega
        · unfold tailP at hq
          split at hq
          · rw [List.mem_singleton] at hq
            subst hq
            simp only at h1
            omega
          · cases hq
theorem alloc_err {lay : Lay} (hok : ok true 8 lay) {n0 : Nat} {k : Int} (h1 : 1 ≤ k) (h2 : k ≤ 8192) (he : endOf 8 lay ≤ n0) : (allocA n0 lay k).2.2 = if k ≤ mostP (gapsL n0 lay) then 0 else 121 := by
  have h := alloc_room hok (n0 := n0) (n := k.toNat) (by omega) he
  rw [Int.toNat_of_nonneg (by omega)] at h
  unfold allocA
  rw [if_neg (by omega)]
  by_cases hc : k ≤ mostP (gapsL n0 lay)
  · rw [if_pos hc, if_pos (h.2 hc)]
  · rw [if_neg hc, if_neg (fun x => hc (h.1 x))]
theorem comp_shift : ∀ (lay : Lay) (b : Bool) (e e' d : Nat), ok b e lay → e' + d ≤ e → endOf e' (compL e' lay) + d ≤ endOf e lay
  | [], _, _, _, _, _, h => h
  | (p, s) :: r, b, e, e', d, ⟨o1, o2, o3, o4, o5⟩, h => by
    simp only [compL, endOf]
    exact comp_shift r _ _ _ d o5 (by omega)
theorem comp_gap : ∀ (lay : Lay) (b : Bool) (e e' : Nat), e % 8 = 0 → ok b e lay → e' ≤ e → ∀ q ∈ gapsP e lay, ((endOf e' (compL e' lay) : Nat) : Int) + 8 + q.2 ≤ ((endOf e lay : Nat) : Int)
  | [], _, _, _, _, _, _, q, h => by cases h
  | (p, s) :: r, b, e, e', he8, ⟨o1, o2, o3, o4, o5⟩, he, q, h => by
    have hu := upN_8 s.length
    rw [gapsP] at h
    simp only [compL, endOf]
    rcases List.mem_append.1 h with h | h
    · split at h
      · cases h
      · rw [List.mem_singleton] at h
        subst h
        have := comp_shift r _ _ (e' + 8 + upN s.length) (p - 8 - e') o5 (by omega)
        simp only
        omega
    · exact comp_gap r _ _ _ (by omega) o5 (by omega) q h
/-- No less room behind Compact. -/
theorem comp_room {lay : Lay} (hok : ok true 8 lay) {n0 : Nat} (he : endOf 8 lay ≤ n0) : mostP (gapsL n0 lay) ≤ mostP (gapsL n0 (compL 8 lay)) := by
  have hc := comp_shift lay true 8 8 0 hok (Nat.le_refl _)
  have hc8 := endOf_8 (e := 8) rfl (compL_ok lay true true 8 8 hok rfl)
  have he8 := endOf_8 (e := 8) rfl hok
  have h0 := most_nonneg (gapsL n0 (compL 8 lay))
  have key : ∀ g : Int, 8 ≤ g → g % 8 = 0 → ((endOf 8 (compL 8 lay) : Nat) : Int) + 8 + g ≤ n0 → g ≤ mostP (gapsL n0 (compL 8 lay)) := fun g g1 g2 g3 => by
    have h3 : (((endOf 8 (compL 8 lay) + 8 : Nat) : Int), (((n0 - endOf 8 (compL 8 lay) - 8) / 8 * 8 : Nat) : Int)) ∈ gapsL n0 (compL 8 lay) := List.mem_append_right _ (by unfold tailP; rw [if_pos (by omega)]; exact List.mem_singleton.2 rfl)
    have := most_ge h3
    simp only at this
    omega
  rcases most_at (gapsL n0 lay) with h1 | ⟨q, hq, h1⟩
  · omega
  · rw [h1]
    rcases List.mem_append.1 hq with hq | hq
    · obtain ⟨k1, k2⟩ := gapsP_8 lay true 8 rfl hok q hq
      have k3 := comp_gap lay true 8 8 rfl hok (Nat.le_refl _) q hq
      by_cases h8 : 8 ≤ q.2
      · exact key q.2 h8 k1 (by omega)
      · omega
    · unfold tailP at hq
      split at hq
      · rw [List.mem_singleton] at hq
        subst hq
        simp only
        by_cases h8 : 8 ≤ (((n0 - endOf 8 lay - 8) / 8 * 8 : Nat) : Int)
        · exact key _ h8 (by omega) (by omega)
        · omega
      · cases hq
/-- The last of the gaps. -/
theorem gaps_last {lay : Lay} {n0 : Nat} (h : endOf 8 lay + 16 ≤ n0) : ∃ (k : Nat) (q : Int), (gapsL n0 lay).length = k + 1 ∧ (gapsL n0 lay)[k]? = some (((endOf 8 lay + 8 : Nat) : Int), q) := by
  have e : gapsL n0 lay = gapsP 8 lay ++ [(((endOf 8 lay + 8 : Nat) : Int), (((n0 - endOf 8 lay - 8) / 8 * 8 : Nat) : Int))] := by unfold gapsL tailP; rw [if_pos h]
  refine ⟨(gapsP 8 lay).length, (((n0 - endOf 8 lay - 8) / 8 * 8 : Nat) : Int), by rw [e, List.length_append]; rfl, ?_⟩
  rw [e, List.getElem?_append_right (Nat.le_refl _), Nat.sub_self]
  rfl
/-! ### Beside the others -/
/-- with: an allocation put ahead of the first that does not lie below it. -/
def insW (b : Nat × List UInt8) : Lay → Lay
  | [] => [b]
  | x :: r => if x.1 < b.1 then x :: insW b r else b :: x :: r
theorem insW_alloc (n : Nat) : ∀ (lay : Lay) (b : Bool) (e : Nat), ok b e lay → insW ((allocL n e lay).2, zs n) lay = (allocL n e lay).1
  | [], _, _, _ => rfl
  | (p, s) :: r, b, e, ⟨o1, o2, o3, o4, o5⟩ => by
    have hnb := upN_bd n
    have hub := upN_bd s.length
    unfold allocL
    split
    · rename_i hf
      simp only [insW]
      rw [if_neg (by omega)]
    · have ih := insW_alloc n r _ _ o5
      have hge := allocL_ge n r _ _ o5
      simp only [insW]
      rw [if_pos (by omega), ih]
/-- Below where Alloc puts an allocation there is no room for it; if Alloc finds none, there is none. -/
theorem insW_least (n : Nat) (hn : 1 ≤ n) (o N : Nat) : ∀ (lay : Lay) (b : Bool) (e : Nat), e % 8 = 0 → ok b e lay → (o < (allocL n e lay).2 ∨ N < endOf e (allocL n e lay).1) → ¬ (ok b e (insW (o, zs n) lay) ∧ endOf e (insW (o, zs n) lay) ≤ N)
  | [], b, e, he, _, h => by
    rintro ⟨⟨o1, o2, o3, o4, o5⟩, h2⟩
    simp only [insW, endOf, allocL, zs_length] at h h2
    omega
  | (p, s) :: r, b, e, he, ⟨o1, o2, o3, o4, o5⟩, h => by
    have hnb := upN_bd n
    have hub := upN_bd s.length
    have hn8 := upN_8 n
    have hs8 := upN_8 s.length
    simp only [insW]
    split
    · rename_i hlt
      rintro ⟨⟨q1, q2, q3, q4, q5⟩, h2⟩
      simp only [endOf] at h2
      unfold allocL at h
      split at h
      · rename_i hf
        simp only at h
        rcases h with h | h
        · omega
        · simp only [endOf] at h
          have hge : ok false (p + upN s.length) (insW (o, zs n) r) := q5
          have := insW_end n o r _ _ q5
          omega
      · simp only [endOf] at h
        exact insW_least n hn o N r _ _ (by omega) o5 h ⟨q5, h2⟩
    · rename_i hge
      rintro ⟨⟨q1, q2, q3, q4, q5⟩, h2⟩
      obtain ⟨p1, p2, p3, p4, p5⟩ := q5
      simp only [zs_length] at p2
      simp only [endOf] at h2
      unfold allocL at h
      rw [if_pos (by omega)] at h
      simp only [endOf] at h
      omega
where
  insW_end (n o : Nat) : ∀ (lay : Lay) (b : Bool) (e : Nat), ok b e (insW (o, zs n) lay) → endOf e lay ≤ endOf e (insW (o, zs n) lay)
  | [], b, e, h => endOf_ge h
  | (p, s) :: r, b, e, h => by
    simp only [insW] at h ⊢
    split at h
    · rename_i hlt
      rw [if_pos hlt]
      exact insW_end n o r _ _ h.2.2.2.2
    · rename_i hge
      rw [if_neg hge]
      exact Nat.le_refl _
end Go.Proofs.Ytcfmimfkaabmkaa
