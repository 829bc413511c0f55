/- Plain: a walk by Next, of the law FilesWalks. -/
import Derived.Test.YtifcgimpgbeocaaK1
set_option linter.unusedVariables false
set_option linter.unusedSimpArgs false
namespace Go.Proofs.Ytifcgimpgbeocaa
open Go.RowKit
def gtD (k : Bs) (d : Ds) : Ds := d.filter (fun r => ltB k r.1)
def lastK (l : Ds) : Bs := ((l.getLast?).getD ([], [])).1
theorem lastK_snoc (l : Ds) (r : Rec) : lastK (l ++ [r]) = r.1 := by simp [lastK]
theorem lastK_take {l : Ds} {j : Nat} {r : Rec} (h : l[j]? = some r) : lastK (l.take (j + 1)) = r.1 := by
  obtain ⟨hk, rfl⟩ := List.getElem?_eq_some_iff.1 h
  rw [List.take_succ_eq_append_getElem hk, lastK_snoc]
theorem key_pos {x : Bs} (h : isKey x = true) : ltB [] x = true := by
  cases x with
  | nil => simp [isKey] at h
  | cons b y => rfl
theorem key_le {x : Bs} (h : isKey x = true) : x.length ≤ 16 := by
  unfold isKey at h
  simp only [Bool.and_eq_true, decide_eq_true_eq] at h
  exact h.2
theorem rec_key' {r : Rec} (h : isRec r = true) : isKey r.1 = true := by
  unfold isRec at h
  simp only [Bool.and_eq_true] at h
  exact h.1
theorem gtD_nil {d : Ds} (h : isDs d = true) : gtD [] d = d := List.filter_eq_self.2 fun r hr => key_pos (rec_key' (isDs_rec h hr))
theorem gtD_step {d : Ds} {k : Bs} {r : Rec} {C : Ds} (hs : Sorted d) (h : gtD k d = r :: C) : ltB k r.1 = true ∧ r ∈ d ∧ gtD r.1 d = C := by
  have hm : r ∈ gtD k d := by rw [h]; simp
  obtain ⟨h1, h2⟩ := List.mem_filter.1 hm
  refine ⟨h2, h1, ?_⟩
  have hso : Sorted (gtD k d) := List.Pairwise.sublist List.filter_sublist hs
  rw [h] at hso
  have hc := (List.pairwise_cons.1 hso).1
  have e : gtD r.1 d = gtD r.1 (gtD k d) := by
    unfold gtD
    rw [List.filter_filter]
    congr 1
    funext x
    cases e : ltB r.1 x.1 with
    | true => simp [ltB_trans h2 e]
    | false => rfl
  rw [e, h]
  unfold gtD
  rw [List.filter_cons, ltB_irrefl]
  exact List.filter_eq_self.2 fun x hx => hc x hx
theorem next_find {d : Ds} {k : Bs} (hd : isDs d = true) : (gtD k d).head? = d[nextI d k]? := by
  unfold gtD
  rw [List.head?_filter, find_next (isDs_sorted hd)]
theorem next_yes {d : Ds} {k : Bs} {r : Rec} {C : Ds} (hd : isDs d = true) (hk : k.length ≤ 16) (h : gtD k d = r :: C) : nextD d k = (r, 0) := by
  have e := next_find (k := k) hd
  rw [h] at e
  have e2 : d[nextI d k]? = some r := e.symm
  have hlt := (List.getElem?_eq_some_iff.1 e2).1
  unfold nextD
  rw [if_pos hd, if_pos hk, if_pos hlt, e2]
  rfl
theorem next_no {d : Ds} {k : Bs} (hd : isDs d = true) (hk : k.length ≤ 16) (h : gtD k d = []) : nextD d k = (([], []), 4) := by
  have e := next_find (k := k) hd
  rw [h] at e
  have hlt : ¬ nextI d k < d.length := fun hlt => by rw [List.getElem?_eq_getElem hlt] at e; cases e
  unfold nextD
  rw [if_pos hd, if_pos hk, if_neg hlt]
theorem hi_not : ∀ (n : Nat) (x : Bs), x.length ≤ n → ltB (List.replicate n 255) x = false
  | 0, x, h => by
    have : x = [] := List.eq_nil_of_length_eq_zero (by omega)
    subst this; rfl
  | n + 1, [], h => rfl
  | n + 1, c :: y, h => by
    rw [List.replicate_succ, ltB_cons, hi_not n y (by simpa using h)]
    have : ¬ (255 : UInt8) < c := by
      rw [u8_lt]
      have := c.toNat_lt
      have e : (255 : UInt8).toNat = 255 := rfl
      omega
    simp [this]
def hiK : Bs := [255, 255, 255, 255, 255, 255, 255, 255, 255, 255, 255, 255, 255, 255, 255, 255]
theorem span_hi {d : Ds} (k : Bs) (h : isDs d = true) : spanD d k hiK = (d.filter (fun r => !ltB r.1 k), 0) := by
  unfold spanD
  rw [if_pos h]
  congr 1
  refine List.filter_congr fun r hr => ?_
  have hh : ltB hiK r.1 = false := hi_not 16 r.1 (key_le (rec_key' (isDs_rec h hr)))
  rw [hh]; simp
theorem span_gt {d : Ds} (k : Bs) (h : isDs d = true) : ∃ L, spanD d k hiK = (L, 0) ∧ ((∃ x C, L = x :: C ∧ x.1 = k ∧ C = gtD k d) ∨ (L = [] ∧ gtD k d = []) ∨ (∃ x C, L = x :: C ∧ x.1 ≠ k ∧ L = gtD k d)) := by
  refine ⟨_, span_hi k h, ?_⟩
  have hs := isDs_sorted h
  cases hh : hasD d k with
  | true =>
    obtain ⟨A, s, C, rfl, -, hA, hC⟩ := split_has hs hh
    refine .inl ⟨(k, s), C, ?_, rfl, ?_⟩
    · rw [List.filter_append, List.filter_cons, ltB_irrefl]
      have e1 : A.filter (fun r => !ltB r.1 k) = [] := List.filter_eq_nil_iff.2 fun x hx => by rw [hA x hx]; simp
      have e2 : C.filter (fun r => !ltB r.1 k) = C := List.filter_eq_self.2 fun x hx => by rw [ltB_asymm (hC x hx)]; rfl
      rw [e1, e2]; rfl
    · unfold gtD
      rw [List.filter_append, List.filter_cons, ltB_irrefl]
      rw [fa_gt hA, fc_gt hC]; rfl
  | false =>
    obtain ⟨A, C, rfl, -, hA, hC⟩ := split_no hs hh
    have e1 : A.filter (fun r => !ltB r.1 k) = [] := List.filter_eq_nil_iff.2 fun x hx => by rw [hA x hx]; simp
    have e2 : C.filter (fun r => !ltB r.1 k) = C := List.filter_eq_self.2 fun x hx => by rw [ltB_asymm (hC x hx)]; rfl
    have e3 : gtD k (A ++ C) = C := by unfold gtD; rw [List.filter_append, fa_gt hA, fc_gt hC]; rfl
    rw [List.filter_append, e1, e2, e3]
    cases C with
    | nil => exact .inr (.inl ⟨rfl, rfl⟩)
    | cons x C => exact .inr (.inr ⟨x, C, rfl, (ne_of_ltB (hC x (by simp))).symm, rfl⟩)
/-! ### The walk -/
def WU (D0 S : Ds) : Prop := S ++ gtD (lastK S) D0 = D0
def WC (D0 D S : Ds) (m : Nat) : Prop := m ≤ S.length ∧ m ≤ D0.length ∧ S.take m = D0.take m ∧ S.drop m ++ gtD (lastK S) D = gtD (lastK (S.take m)) D
def WV (D0 D S : Ds) (a : Int) : Prop := (D = D0 ∧ WU D0 S) ∨ (∃ m : Nat, a = (m : Int) ∧ WC D0 D S m)
def WH (D0 D S : Ds) (a : Int) : Prop := (D = D0 ∧ WU D0 S) ∨ (∃ m : Nat, a = (m : Int) ∧ m < S.length ∧ WC D0 D S m)
theorem wh_start {D0 : Ds} (h : isDs D0 = true) (a : Int) : WH D0 D0 [] a := .inl ⟨rfl, gtD_nil h⟩
theorem wh_at {D0 D S : Ds} {a : Int} (h : WH D0 D S a) (ha : a = (S.length : Int)) : D = D0 ∧ WU D0 S := by
  rcases h with h | ⟨m, h1, h2, -⟩
  · exact h
  · omega
theorem wu_len {D0 S : Ds} (h : WU D0 S) : S.length ≤ D0.length := by
  have e := congrArg List.length h
  rw [List.length_append] at e
  omega
theorem wv_change {D0 S : Ds} (e : Ds) (h : WU D0 S) : WV D0 e S (S.length : Int) := by
  refine .inr ⟨S.length, rfl, Nat.le_refl _, wu_len h, ?_, ?_⟩
  · rw [List.take_length]
    have h2 : S ++ gtD (lastK S) D0 = D0 := h
    have h3 : (S ++ gtD (lastK S) D0).take S.length = S := by simp
    rw [h2] at h3
    exact h3.symm
  · rw [List.take_length, List.drop_length]; rfl
theorem wh_wv {D0 D S : Ds} {a : Int} (h : WH D0 D S a) : WV D0 D S a := by
  rcases h with h | ⟨m, h1, -, h2⟩
  · exact .inl h
  · exact .inr ⟨m, h1, h2⟩
theorem wv_step {D0 D S : Ds} {a : Int} {r : Rec} {C : Ds} (hd : isDs D = true) (h : WV D0 D S a) (hg : gtD (lastK S) D = r :: C) : WH D0 D (S ++ [r]) a := by
  obtain ⟨-, -, hC⟩ := gtD_step (isDs_sorted hd) hg
  rcases h with ⟨rfl, h⟩ | ⟨m, rfl, h1, h2, h3, h4⟩
  · refine .inl ⟨rfl, ?_⟩
    unfold WU at h ⊢
    rw [lastK_snoc, hC, List.append_assoc]
    rw [hg] at h
    exact h
  · refine .inr ⟨m, rfl, by simp; omega, by simp; omega, h2, ?_, ?_⟩
    · rw [List.take_append_of_le_length h1]; exact h3
    · rw [lastK_snoc, hC, List.take_append_of_le_length h1, List.drop_append_of_le_length h1, List.append_assoc, ← h4, hg]
      rfl
theorem gtD_len (k : Bs) (d : Ds) : (gtD k d).length ≤ d.length := List.length_filter_le _ _
theorem wv_len {D0 D S : Ds} {a : Int} (h0 : isDs D0 = true) (hd : isDs D = true) (h : WV D0 D S a) : S.length ≤ 128 := by
  have l0 := isDs_len h0
  have l1 := isDs_len hd
  rcases h with ⟨rfl, h⟩ | ⟨m, rfl, h1, h2, h3, h4⟩
  · have := wu_len h; omega
  · have e := congrArg List.length h4
    rw [List.length_append, List.length_drop] at e
    have := gtD_len (lastK (S.take m)) D
    omega
theorem wv_len1 {D0 D S : Ds} {a : Int} {r : Rec} {C : Ds} (h0 : isDs D0 = true) (hd : isDs D = true) (h : WV D0 D S a) (hg : gtD (lastK S) D = r :: C) : S.length + 1 ≤ 128 := by
  have := wv_len h0 hd (wh_wv (wv_step hd h hg))
  simpa using this
theorem sorted_split : ∀ {l : Ds} (m : Nat), isDs l = true → gtD (lastK (l.take m)) l = l.drop m := by
  intro l m h
  have hs := isDs_sorted h
  rcases Nat.eq_zero_or_pos m with rfl | hm
  · exact gtD_nil h
  obtain ⟨j, rfl⟩ : ∃ j, m = j + 1 := ⟨m - 1, by omega⟩
  by_cases hj : j < l.length
  · have hr : l[j]? = some l[j] := List.getElem?_eq_getElem hj
    rw [lastK_take hr]
    have hl : l = l.take j ++ l[j] :: l.drop (j + 1) := by rw [← List.drop_eq_getElem_cons hj, List.take_append_drop]
    have hs' := hs
    unfold Sorted at hs'
    rw [hl] at hs'
    obtain ⟨-, h2, h3⟩ := List.pairwise_append.1 hs'
    have h4 := (List.pairwise_cons.1 h2).1
    generalize hx : l[j] = x at *
    have hq : gtD x.1 l = gtD x.1 (l.take j ++ x :: l.drop (j + 1)) := congrArg (gtD x.1) hl
    rw [hq]
    unfold gtD
    rw [List.filter_append, List.filter_cons, ltB_irrefl]
    have e1 : (l.take j).filter (fun r => ltB x.1 r.1) = [] := List.filter_eq_nil_iff.2 fun y hy => by rw [ltB_asymm (h3 y hy x (by simp))]; simp
    rw [e1]
    exact List.filter_eq_self.2 fun y hy => h4 y hy
  · rw [List.take_of_length_le (by omega), List.drop_of_length_le (by omega)]
    refine List.filter_eq_nil_iff.2 fun y hy => ?_
    have hne : l ≠ [] := fun e => by rw [e] at hy; cases hy
    have hl : l = l.dropLast ++ [l.getLast hne] := (List.dropLast_concat_getLast hne).symm
    have e : lastK l = (l.getLast hne).1 := by unfold lastK; rw [List.getLast?_eq_some_getLast hne]; rfl
    rw [e]
    generalize l.getLast hne = x at *
    rw [hl] at hy
    unfold Sorted at hs
    rw [hl] at hs
    obtain ⟨-, -, h3⟩ := List.pairwise_append.1 hs
    rcases List.mem_append.1 hy with hy | hy
    · rw [ltB_asymm (h3 y hy x (by simp))]; simp
    · have : y = x := by simpa using hy
      rw [this, ltB_irrefl]; simp
theorem wv_end {D0 D S : Ds} {a : Int} (h0 : isDs D0 = true) (h : WV D0 D S a) (hg : gtD (lastK S) D = []) :
    ((a < 0 ∨ (S.length : Int) < a) → S = D0) ∧ (∀ m : Nat, a = (m : Int) → m ≤ S.length → S.take m = D0.take m ∧ m ≤ D0.length ∧ S.drop m = D.filter (fun r => ltB (lastK (S.take m)) r.1)) := by
  rcases h with ⟨rfl, h⟩ | ⟨m, rfl, h1, h2, h3, h4⟩
  · unfold WU at h
    rw [hg, List.append_nil] at h
    subst h
    exact ⟨fun _ => rfl, fun m _ hm => ⟨rfl, hm, (sorted_split m h0).symm⟩⟩
  · refine ⟨fun h => by omega, fun m' e hm => ?_⟩
    obtain rfl : m' = m := by omega
    rw [hg, List.append_nil] at h4
    exact ⟨h3, h2, h4⟩
end Go.Proofs.Ytifcgimpgbeocaa
