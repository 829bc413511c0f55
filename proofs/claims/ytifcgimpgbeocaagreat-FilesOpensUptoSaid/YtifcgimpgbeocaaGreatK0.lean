/- Plain: datasets: keys, records, their order, what is found, and what the changes make. -/
import Derived.WalkKit
set_option linter.unusedVariables false
set_option linter.unusedSimpArgs false
namespace Go.Proofs.YtifcgimpgbeocaaGreat
open Go.RowKit
abbrev Bs := List UInt8
abbrev Rec := Bs × Bs
abbrev Ds := List Rec
abbrev FOp := Int × Int × Bs × Bs
/-- The order of strings. -/
def ltB (a b : Bs) : Bool := Op.bytesLess a b
theorem ltB_nil (a : Bs) : ltB a [] = false := by cases a <;> rfl
theorem ltB_nil_cons (b : UInt8) (y : Bs) : ltB [] (b :: y) = true := rfl
theorem ltB_cons (a b : UInt8) (x y : Bs) : ltB (a :: x) (b :: y) = (a < b || (a == b && ltB x y)) := rfl
theorem u8_lt (a b : UInt8) : a < b ↔ a.toNat < b.toNat := UInt8.lt_iff_toNat_lt
theorem u8_eq {a b : UInt8} (h : a.toNat = b.toNat) : a = b := UInt8.toNat_inj.1 h
theorem ltB_irrefl : ∀ a : Bs, ltB a a = false
  | [] => rfl
  | a :: x => by
    rw [ltB_cons, ltB_irrefl x]
    simp [u8_lt]
theorem ltB_trans : ∀ {a b c : Bs}, ltB a b = true → ltB b c = true → ltB a c = true
  | _, _, [], h1, h2 => by rw [ltB_nil] at h2; cases h2
  | _, [], _ :: _, h1, h2 => by rw [ltB_nil] at h1; cases h1
  | [], _ :: _, _ :: _, h1, h2 => rfl
  | a :: x, b :: y, c :: z, h1, h2 => by
    rw [ltB_cons] at h1 h2 ⊢
    simp only [Bool.or_eq_true, Bool.and_eq_true, decide_eq_true_eq, beq_iff_eq, u8_lt] at h1 h2 ⊢
    rcases h1 with h1 | ⟨rfl, h1⟩
    · rcases h2 with h2 | ⟨rfl, h2⟩
      · left; omega
      · left; exact h1
    · rcases h2 with h2 | ⟨rfl, h2⟩
      · left; exact h2
      · right; exact ⟨rfl, ltB_trans h1 h2⟩
theorem ltB_tri : ∀ {a b : Bs}, ltB a b = false → ltB b a = false → a = b
  | [], [], _, _ => rfl
  | [], _ :: _, h, _ => by cases h
  | _ :: _, [], _, h => by cases h
  | a :: x, b :: y, h1, h2 => by
    rw [ltB_cons] at h1 h2
    simp only [Bool.or_eq_false_iff, Bool.and_eq_false_iff, decide_eq_false_iff_not, beq_eq_false_iff_ne, u8_lt] at h1 h2
    have e : a = b := u8_eq (by omega)
    subst e
    have g1 : ltB x y = false := by rcases h1.2 with h | h; exact absurd rfl h; exact h
    have g2 : ltB y x = false := by rcases h2.2 with h | h; exact absurd rfl h; exact h
    rw [ltB_tri g1 g2]
theorem ltB_asymm {a b : Bs} (h : ltB a b = true) : ltB b a = false := by
  cases e : ltB b a with
  | false => rfl
  | true => have := ltB_trans h e; rw [ltB_irrefl] at this; cases this
theorem ltB_of_le_lt {a b c : Bs} (h1 : ltB b a = false) (h2 : ltB b c = true) : ltB a c = true := by
  cases e : ltB a b with
  | true => exact ltB_trans e h2
  | false => rw [ltB_tri e h1]; exact h2
theorem ltB_of_lt_le {a b c : Bs} (h1 : ltB a b = true) (h2 : ltB c b = false) : ltB a c = true := by
  cases e : ltB b c with
  | true => exact ltB_trans h1 e
  | false => rw [ltB_tri h2 e]; exact h1
/-! ### Keys, records, datasets -/
def isKey (s : Bs) : Bool := decide (1 ≤ s.length) && decide (s.length ≤ 16)
def isRec (r : Rec) : Bool := isKey r.1 && decide (r.2.length ≤ 255)
def incr : Ds → Bool
  | a :: b :: r => ltB a.1 b.1 && incr (b :: r)
  | _ => true
def isDs (d : Ds) : Bool := decide (d.length ≤ 64) && (d.all isRec && incr d)
/-- The place of the first record whose key is not less. -/
def atD (d : Ds) (k : Bs) : Nat := d.findIdx (fun r => !ltB r.1 k)
def keyAt (d : Ds) (i : Nat) (k : Bs) : Bool := match d[i]? with
  | some r => r.1 == k
  | none => false
def hasD (d : Ds) (k : Bs) : Bool := keyAt d (atD d k) k
theorem atD_le (d : Ds) (k : Bs) : atD d k ≤ d.length := List.findIdx_le_length
theorem atD_nil (k : Bs) : atD [] k = 0 := rfl
theorem atD_cons (r : Rec) (d : Ds) (k : Bs) : atD (r :: d) k = if ltB r.1 k then atD d k + 1 else 0 := by
  unfold atD
  rw [List.findIdx_cons]
  cases ltB r.1 k <;> simp
def Sorted (d : Ds) : Prop := d.Pairwise (fun a b => ltB a.1 b.1 = true)
theorem incr_sorted : ∀ (d : Ds), incr d = true ↔ Sorted d
  | [] => ⟨fun _ => List.Pairwise.nil, fun _ => rfl⟩
  | [a] => ⟨fun _ => List.pairwise_singleton _ _, fun _ => rfl⟩
  | a :: b :: r => by
    have ih := incr_sorted (b :: r)
    unfold incr
    rw [Bool.and_eq_true, ih]
    unfold Sorted
    constructor
    · rintro ⟨h1, h2⟩
      refine List.pairwise_cons.2 ⟨fun x hx => ?_, h2⟩
      rcases List.mem_cons.1 hx with rfl | hx
      · exact h1
      · exact ltB_trans h1 ((List.pairwise_cons.1 h2).1 x hx)
    · intro h
      obtain ⟨h1, h2⟩ := List.pairwise_cons.1 h
      exact ⟨h1 b (List.mem_cons_self ..), h2⟩
theorem isDs_sorted {d : Ds} (h : isDs d = true) : Sorted d := by
  unfold isDs at h
  simp only [Bool.and_eq_true] at h
  exact (incr_sorted d).1 h.2.2
theorem isDs_len {d : Ds} (h : isDs d = true) : d.length ≤ 64 := by
  unfold isDs at h
  simp only [Bool.and_eq_true, decide_eq_true_eq] at h
  exact h.1
theorem isDs_rec {d : Ds} (h : isDs d = true) {r : Rec} (hr : r ∈ d) : isRec r = true := by
  unfold isDs at h
  simp only [Bool.and_eq_true] at h
  exact List.all_eq_true.1 h.2.1 r hr
theorem isDs_mk {d : Ds} (h1 : d.length ≤ 64) (h2 : ∀ r ∈ d, isRec r = true) (h3 : Sorted d) : isDs d = true := by
  unfold isDs
  simp only [Bool.and_eq_true, decide_eq_true_eq]
  exact ⟨h1, List.all_eq_true.2 h2, (incr_sorted d).2 h3⟩
/-! ### What the reference finds -/
theorem sorted_take {d : Ds} (h : Sorted d) (k : Bs) : d.take (atD d k) = d.filter (fun r => ltB r.1 k) := by
  induction d with
  | nil => rfl
  | cons r d ih =>
    obtain ⟨h1, h2⟩ := List.pairwise_cons.1 h
    rw [atD_cons, List.filter_cons]
    cases e : ltB r.1 k with
    | true => simp [ih h2]
    | false =>
      simp only [Bool.false_eq_true, if_false, List.take_zero]
      symm
      rw [List.filter_eq_nil_iff]
      intro x hx
      have := ltB_of_le_lt (c := x.1) (a := k) (b := r.1) e (h1 x hx)
      rw [ltB_asymm this]
      simp
theorem sorted_drop {d : Ds} (h : Sorted d) (k : Bs) : d.drop (atD d k) = d.filter (fun r => !ltB r.1 k) := by
  induction d with
  | nil => rfl
  | cons r d ih =>
    obtain ⟨h1, h2⟩ := List.pairwise_cons.1 h
    rw [atD_cons, List.filter_cons]
    cases e : ltB r.1 k with
    | true => simp [ih h2]
    | false =>
      simp only [Bool.false_eq_true, if_false, List.drop_zero, Bool.not_false, if_true]
      congr 1
      symm
      rw [List.filter_eq_self]
      intro x hx
      have := ltB_of_le_lt (c := x.1) (a := k) (b := r.1) e (h1 x hx)
      rw [ltB_asymm this]
      rfl
/-- The keys of a dataset that is in order are all different. -/
theorem sorted_inj {d : Ds} (h : Sorted d) {i j : Nat} {x y : Rec} (hi : d[i]? = some x) (hj : d[j]? = some y) (e : x.1 = y.1) : i = j := by
  obtain ⟨hi', rfl⟩ := List.getElem?_eq_some_iff.1 hi
  obtain ⟨hj', rfl⟩ := List.getElem?_eq_some_iff.1 hj
  rcases Nat.lt_trichotomy i j with h1 | h1 | h1
  · have := List.pairwise_iff_getElem.1 h i j hi' hj' h1
    rw [e, ltB_irrefl] at this; cases this
  · exact h1
  · have := List.pairwise_iff_getElem.1 h j i hj' hi' h1
    rw [e, ltB_irrefl] at this; cases this
theorem hasD_iff {d : Ds} (h : Sorted d) (k : Bs) : hasD d k = true ↔ ∃ r ∈ d, r.1 = k := by
  induction d with
  | nil => simp [hasD, keyAt]
  | cons r d ih =>
    obtain ⟨h1, h2⟩ := List.pairwise_cons.1 h
    unfold hasD keyAt at ih ⊢
    rw [atD_cons]
    cases e : ltB r.1 k with
    | true =>
      simp only [if_true, List.getElem?_cons_succ]
      rw [ih h2]
      constructor
      · rintro ⟨x, hx, hk⟩; exact ⟨x, List.mem_cons_of_mem _ hx, hk⟩
      · rintro ⟨x, hx, hk⟩
        rcases List.mem_cons.1 hx with rfl | hx
        · rw [hk, ltB_irrefl] at e; cases e
        · exact ⟨x, hx, hk⟩
    | false =>
      simp only [Bool.false_eq_true, if_false, List.getElem?_cons_zero, beq_iff_eq]
      constructor
      · intro hk; exact ⟨r, List.mem_cons_self .., hk⟩
      · rintro ⟨x, hx, hk⟩
        rcases List.mem_cons.1 hx with rfl | hx
        · exact hk
        · have := h1 x hx
          rw [hk, e] at this; cases this
theorem hasD_at {d : Ds} {k : Bs} (h : hasD d k = true) : ∃ s, d[atD d k]? = some (k, s) := by
  unfold hasD keyAt at h
  split at h
  · rename_i r hr
    rw [beq_iff_eq] at h
    exact ⟨r.2, by rw [hr, ← h]⟩
  · cases h
theorem hasD_no {d : Ds} (hs : Sorted d) {k : Bs} (h : hasD d k = false) {r : Rec} (hr : r ∈ d) : r.1 ≠ k := fun e => by
  have := (hasD_iff hs k).2 ⟨r, hr, e⟩
  rw [h] at this; cases this
end Go.Proofs.YtifcgimpgbeocaaGreat
/- Plain: what Read, Next, Write, Rewrite, Delete and Apply answer, in the program's way and in the reference's. -/
set_option linter.unusedVariables false
set_option linter.unusedSimpArgs false
namespace Go.Proofs.YtifcgimpgbeocaaGreat
open Go.RowKit
/-! ### The parts of a dataset at a key -/
theorem split_has {d : Ds} (hs : Sorted d) {k : Bs} (h : hasD d k = true) : ∃ (A : Ds) (s : Bs) (C : Ds), d = A ++ (k, s) :: C ∧ atD d k = A.length ∧ (∀ x ∈ A, ltB x.1 k = true) ∧ (∀ x ∈ C, ltB k x.1 = true) := by
  obtain ⟨s, hk⟩ := hasD_at h
  have hlt : atD d k < d.length := (List.getElem?_eq_some_iff.1 hk).1
  have h3 : d.drop (atD d k) = (k, s) :: d.drop (atD d k + 1) := by
    rw [List.drop_eq_getElem_cons hlt]
    rw [(List.getElem?_eq_some_iff.1 hk).2]
  refine ⟨d.take (atD d k), s, d.drop (atD d k + 1), by rw [← h3, List.take_append_drop], by rw [List.length_take]; omega, fun x hx => ?_, fun x hx => ?_⟩
  · rw [sorted_take hs k] at hx
    exact (List.mem_filter.1 hx).2
  · have hp : Sorted (d.drop (atD d k)) := List.Pairwise.sublist (List.drop_sublist _ _) hs
    rw [h3] at hp
    exact (List.pairwise_cons.1 hp).1 x hx
theorem split_no {d : Ds} (hs : Sorted d) {k : Bs} (h : hasD d k = false) : ∃ (A C : Ds), d = A ++ C ∧ atD d k = A.length ∧ (∀ x ∈ A, ltB x.1 k = true) ∧ (∀ x ∈ C, ltB k x.1 = true) := by
  refine ⟨d.take (atD d k), d.drop (atD d k), by rw [List.take_append_drop], by rw [List.length_take]; have := atD_le d k; omega, fun x hx => ?_, fun x hx => ?_⟩
  · rw [sorted_take hs k] at hx
    exact (List.mem_filter.1 hx).2
  · have hm : x ∈ d := List.mem_of_mem_drop hx
    rw [sorted_drop hs k] at hx
    have h1 : ltB x.1 k = false := by simpa using (List.mem_filter.1 hx).2
    cases e : ltB k x.1 with
    | true => rfl
    | false => exact absurd (ltB_tri h1 e) (hasD_no hs h hm)
theorem ne_of_ltB {a b : Bs} (h : ltB a b = true) : a ≠ b := fun e => by rw [e, ltB_irrefl] at h; cases h
section
variable {A : Ds} {k : Bs}
theorem fa_lt (h : ∀ x ∈ A, ltB x.1 k = true) : A.filter (fun r => ltB r.1 k) = A := List.filter_eq_self.2 h
theorem fa_gt (h : ∀ x ∈ A, ltB x.1 k = true) : A.filter (fun r => ltB k r.1) = [] := List.filter_eq_nil_iff.2 fun x hx => by rw [ltB_asymm (h x hx)]; simp
theorem fa_ne (h : ∀ x ∈ A, ltB x.1 k = true) : A.filter (fun r => r.1 != k) = A := List.filter_eq_self.2 fun x hx => by simpa using ne_of_ltB (h x hx)
theorem fc_gt (h : ∀ x ∈ A, ltB k x.1 = true) : A.filter (fun r => ltB k r.1) = A := List.filter_eq_self.2 h
theorem fc_lt (h : ∀ x ∈ A, ltB k x.1 = true) : A.filter (fun r => ltB r.1 k) = [] := List.filter_eq_nil_iff.2 fun x hx => by rw [ltB_asymm (h x hx)]; simp
theorem fc_ne (h : ∀ x ∈ A, ltB k x.1 = true) : A.filter (fun r => r.1 != k) = A := List.filter_eq_self.2 fun x hx => by simpa using (ne_of_ltB (h x hx)).symm
end
/-! ### The changes -/
def insD (d : Ds) (r : Rec) : Ds := d.take (atD d r.1) ++ r :: d.drop (atD d r.1)
def withoutR (d : Ds) (k : Bs) : Ds := d.filter (fun r => r.1 != k)
def withR (d : Ds) (r : Rec) : Ds := d.filter (fun x => ltB x.1 r.1) ++ [r] ++ d.filter (fun x => ltB r.1 x.1)
theorem without_no {d : Ds} {k : Bs} (hs : Sorted d) (h : hasD d k = false) : withoutR d k = d := by
  unfold withoutR
  rw [List.filter_eq_self]
  intro x hx
  simpa using hasD_no hs h hx
theorem without_has {d : Ds} {k : Bs} (hs : Sorted d) (h : hasD d k = true) : withoutR d k = d.eraseIdx (atD d k) := by
  obtain ⟨A, s, C, he, hl, hA, hC⟩ := split_has hs h
  rw [hl, he]
  unfold withoutR
  rw [List.eraseIdx_append_of_length_le (Nat.le_refl _), List.filter_append, List.filter_cons, fa_ne hA, fc_ne hC]
  simp
theorem there_iff {d : Ds} {k : Bs} (hs : Sorted d) : decide ((withoutR d k).length < d.length) = hasD d k := by
  cases h : hasD d k with
  | false => rw [without_no hs h]; simp
  | true =>
    obtain ⟨s, hk⟩ := hasD_at h
    have hlt : atD d k < d.length := (List.getElem?_eq_some_iff.1 hk).1
    rw [without_has hs h, List.length_eraseIdx, if_pos hlt]
    simp; omega
theorem with_no {d : Ds} {r : Rec} (hs : Sorted d) (h : hasD d r.1 = false) : withR d r = insD d r := by
  obtain ⟨A, C, he, hl, hA, hC⟩ := split_no hs h
  unfold withR insD
  rw [hl, he, List.filter_append, List.filter_append, fa_lt hA, fc_lt hC, fa_gt hA, fc_gt hC]
  simp
theorem with_set {d : Ds} {r : Rec} (hs : Sorted d) (h : hasD d r.1 = true) : withR (withoutR d r.1) r = d.set (atD d r.1) r := by
  obtain ⟨A, s, C, he, hl, hA, hC⟩ := split_has hs h
  rw [hl, he]
  unfold withR withoutR
  rw [List.set_append_right _ _ (Nat.le_refl _), List.filter_append, List.filter_cons, fa_ne hA, fc_ne hC]
  simp only [bne_self_eq_false, Bool.false_eq_true, if_false, List.filter_append]
  rw [fa_lt hA, fc_lt hC, fa_gt hA, fc_gt hC]
  simp
theorem ins_sorted {d : Ds} {r : Rec} (hs : Sorted d) (h : hasD d r.1 = false) : Sorted (insD d r) := by
  rw [← with_no hs h]
  unfold withR Sorted
  rw [List.append_assoc, List.singleton_append]
  refine List.pairwise_append.2 ⟨hs.filter _, List.pairwise_cons.2 ⟨fun x hx => (List.mem_filter.1 hx).2, hs.filter _⟩, fun x hx y hy => ?_⟩
  have h1 := (List.mem_filter.1 hx).2
  rcases List.mem_cons.1 hy with rfl | hy
  · exact h1
  · exact ltB_trans h1 (List.mem_filter.1 hy).2
theorem erase_sorted {d : Ds} (hs : Sorted d) (i : Nat) : Sorted (d.eraseIdx i) := List.Pairwise.sublist (List.eraseIdx_sublist _ _) hs
theorem set_sorted {d : Ds} {i : Nat} {k s t : Bs} (hs : Sorted d) (hi : d[i]? = some (k, s)) : Sorted (d.set i (k, t)) := by
  have e : ∀ j (h : j < (d.set i (k, t)).length), ((d.set i (k, t))[j]).1 = (d[j]'(by simpa using h)).1 := by
    intro j h
    rw [List.getElem_set]
    split
    · rename_i hij
      subst hij
      rw [(List.getElem?_eq_some_iff.1 hi).2]
    · rfl
  unfold Sorted
  rw [List.pairwise_iff_getElem]
  intro a b ha hb hab
  rw [e a ha, e b hb]
  exact List.pairwise_iff_getElem.1 hs a b _ _ hab
/-! ### What is found -/
theorem find_read {d : Ds} {k : Bs} (hs : Sorted d) : d.find? (fun r => r.1 == k) = if hasD d k = true then d[atD d k]? else none := by
  split
  · rename_i h
    obtain ⟨A, s, C, he, hl, hA, hC⟩ := split_has hs h
    rw [hl, he, List.find?_append]
    have : A.find? (fun r => r.1 == k) = none := by
      rw [List.find?_eq_none]
      intro x hx
      simpa using ne_of_ltB (hA x hx)
    rw [this]
    simp
  · rename_i h
    rw [List.find?_eq_none]
    intro x hx
    simpa using hasD_no hs (by simpa using h) hx
def nextI (d : Ds) (k : Bs) : Nat := atD d k + (if hasD d k then 1 else 0)
theorem find_gt : ∀ {C : Ds} {k : Bs}, (∀ x ∈ C, ltB k x.1 = true) → C.find? (fun r => ltB k r.1) = C[0]?
  | [], _, _ => rfl
  | a :: l, k, h => by rw [List.find?_cons, h a (List.mem_cons_self ..)]; rfl
theorem find_lt {A : Ds} {k : Bs} (h : ∀ x ∈ A, ltB x.1 k = true) : A.find? (fun r => ltB k r.1) = none := by
  rw [List.find?_eq_none]
  intro x hx
  rw [ltB_asymm (h x hx)]; simp
theorem find_next {d : Ds} {k : Bs} (hs : Sorted d) : d.find? (fun r => ltB k r.1) = d[nextI d k]? := by
  unfold nextI
  cases h : hasD d k with
  | true =>
    obtain ⟨A, s, C, he, hl, hA, hC⟩ := split_has hs h
    rw [hl, he, List.find?_append, find_lt hA, Option.none_or, List.find?_cons, ltB_irrefl, find_gt hC, List.getElem?_append_right (by simp)]
    simp
  | false =>
    obtain ⟨A, C, he, hl, hA, hC⟩ := split_no hs h
    rw [hl, he, List.find?_append, find_lt hA, Option.none_or, find_gt hC, List.getElem?_append_right (by simp)]
    simp
theorem without_empty {d : Ds} (h : isDs d = true) : withoutR d [] = d := by
  unfold withoutR
  rw [List.filter_eq_self]
  intro x hx
  have := isDs_rec h hx
  unfold isRec isKey at this
  simp only [Bool.and_eq_true, decide_eq_true_eq] at this
  simp only [bne_iff_ne, ne_eq]
  intro e
  rw [e] at this
  simp at this
/-! ### The answers -/
def readD (d : Ds) (k : Bs) : Bs × Int :=
  if isDs d then (if isKey k then (if hasD d k then (((d[atD d k]?).getD ([], [])).2, 0) else ([], 4)) else ([], 1)) else ([], 140)
def nextD (d : Ds) (k : Bs) : Rec × Int :=
  if isDs d then (if k.length ≤ 16 then (if nextI d k < d.length then ((d[nextI d k]?).getD ([], []), 0) else (([], []), 4)) else (([], []), 1)) else (([], []), 140)
def writeD (d : Ds) (r : Rec) : Ds × Int :=
  if isDs d then (if isRec r then (if hasD d r.1 then ([], 141) else if d.length = 64 then ([], 2) else (insD d r, 0)) else ([], 1)) else ([], 140)
def rewriteD (d : Ds) (r : Rec) : Ds × Int :=
  if isDs d then (if isRec r then (if hasD d r.1 then (d.set (atD d r.1) r, 0) else ([], 4)) else ([], 1)) else ([], 140)
def deleteD (d : Ds) (k : Bs) : Ds × Int :=
  if isDs d then (if isKey k then (if hasD d k then (d.eraseIdx (atD d k), 0) else ([], 4)) else ([], 1)) else ([], 140)
def isOp (o : FOp) : Bool :=
  decide (1 ≤ o.1 ∧ o.1 ≤ 5) && (decide (0 ≤ o.2.1 ∧ o.2.1 ≤ 7) && ((if o.1 = 2 then decide (o.2.2.1.length ≤ 16) else isKey o.2.2.1) && (if o.1 = 3 ∨ o.1 = 4 then decide (o.2.2.2.length ≤ 255) else o.2.2.2.isEmpty)))
def chg (o : FOp) : Bool := decide (3 ≤ o.1 ∧ o.1 ≤ 5) && isOp o
/-- What Apply answers: by the kind of the operation. -/
def applyD (d : Ds) (o : FOp) : Ds × Rec × Int :=
  if isDs d then (if isOp o then
    (if o.1 = 1 then (if (readD d o.2.2.1).2 = 0 then (d, (o.2.2.1, (readD d o.2.2.1).1), 0) else ([], ([], []), (readD d o.2.2.1).2))
     else if o.1 = 2 then (if (nextD d o.2.2.1).2 = 0 then (d, (nextD d o.2.2.1).1, 0) else ([], ([], []), (nextD d o.2.2.1).2))
     else if o.1 = 3 then ((writeD d o.2.2).1, ([], []), (writeD d o.2.2).2)
     else if o.1 = 4 then ((rewriteD d o.2.2).1, ([], []), (rewriteD d o.2.2).2)
     else ((deleteD d o.2.2.1).1, ([], []), (deleteD d o.2.2.1).2)) else ([], ([], []), 1)) else ([], ([], []), 140)
def spanD (d : Ds) (a b : Bs) : Ds × Int :=
  if isDs d then (d.filter (fun r => !ltB r.1 a && !ltB b r.1), 0) else ([], 140)
end Go.Proofs.YtifcgimpgbeocaaGreat
/- Plain: a dataset as what is found at each key; Diff; operations that can be exchanged. -/
set_option linter.unusedVariables false
set_option linter.unusedSimpArgs false
namespace Go.Proofs.YtifcgimpgbeocaaGreat
open Go.RowKit
/-- The data at a key. -/
def look (d : Ds) (k : Bs) : Option Bs := (d.find? (fun r => r.1 == k)).map (·.2)
theorem look_nil (k : Bs) : look [] k = none := rfl
theorem look_cons (r : Rec) (d : Ds) (k : Bs) : look (r :: d) k = if r.1 = k then some r.2 else look d k := by
  unfold look
  rw [List.find?_cons]
  by_cases h : r.1 = k
  · simp [h]
  · have : (r.1 == k) = false := by simpa using h
    simp [this, h]
theorem look_append (d e : Ds) (k : Bs) : look (d ++ e) k = (look d k).or (look e k) := by
  unfold look
  rw [List.find?_append]
  cases d.find? (fun r => r.1 == k) <;> rfl
theorem look_some {d : Ds} {k s : Bs} (h : look d k = some s) : (k, s) ∈ d := by
  unfold look at h
  rw [Option.map_eq_some_iff] at h
  obtain ⟨r, h1, h2⟩ := h
  have h3 := List.find?_some h1
  have h4 := List.mem_of_find?_eq_some h1
  have e : r = (k, s) := by rw [Prod.ext_iff]; exact ⟨by simpa using h3, h2⟩
  rw [← e]; exact h4
theorem look_none {d : Ds} {k : Bs} : look d k = none ↔ ∀ r ∈ d, r.1 ≠ k := by
  unfold look
  rw [Option.map_eq_none_iff, List.find?_eq_none]
  simp
theorem look_mem {d : Ds} (hs : Sorted d) {k s : Bs} (h : (k, s) ∈ d) : look d k = some s := by
  induction d with
  | nil => cases h
  | cons r d ih =>
    obtain ⟨h1, h2⟩ := List.pairwise_cons.1 hs
    rw [look_cons]
    rcases List.mem_cons.1 h with rfl | h
    · simp
    · have := ne_of_ltB (h1 _ h)
      rw [if_neg this]
      exact ih h2 h
theorem look_iff {d : Ds} (hs : Sorted d) {k s : Bs} : look d k = some s ↔ (k, s) ∈ d := ⟨look_some, look_mem hs⟩
theorem look_has {d : Ds} (hs : Sorted d) (k : Bs) : hasD d k = (look d k).isSome := by
  rw [Bool.eq_iff_iff, hasD_iff hs, Option.isSome_iff_exists]
  constructor
  · rintro ⟨r, hr, rfl⟩; exact ⟨r.2, look_mem hs hr⟩
  · rintro ⟨s, h⟩; exact ⟨_, look_some h, rfl⟩
theorem look_at {d : Ds} (hs : Sorted d) {k s : Bs} : d[atD d k]? = some (k, s) ↔ look d k = some s := by
  constructor
  · intro h; exact look_mem hs (List.mem_of_getElem? h)
  · intro h
    have h1 : hasD d k = true := by rw [look_has hs, h]; rfl
    obtain ⟨t, ht⟩ := hasD_at h1
    have h2 := look_mem hs (List.mem_of_getElem? ht)
    rw [h] at h2
    cases h2
    exact ht
theorem sorted_ext : ∀ {d e : Ds}, Sorted d → Sorted e → (∀ k, look d k = look e k) → d = e
  | [], [], _, _, _ => rfl
  | [], r :: e, _, _, h => by have := h r.1; rw [look_nil, look_cons, if_pos rfl] at this; cases this
  | r :: d, [], _, _, h => by have := h r.1; rw [look_nil, look_cons, if_pos rfl] at this; cases this
  | r :: d, q :: e, hd, he, h => by
    obtain ⟨d1, d2⟩ := List.pairwise_cons.1 hd
    obtain ⟨e1, e2⟩ := List.pairwise_cons.1 he
    have hrq : r = q := by
      have hr := h r.1
      rw [look_cons, if_pos rfl] at hr
      have hq := h q.1
      rw [look_cons q e, if_pos rfl] at hq
      have m1 := look_some hr.symm
      have m2 := look_some hq
      rcases List.mem_cons.1 m1 with m1 | m1
      · exact m1
      · rcases List.mem_cons.1 m2 with m2 | m2
        · exact m2.symm
        · have a := e1 _ m1
          have b := d1 _ m2
          have := ltB_trans a b
          rw [ltB_irrefl] at this; cases this
    subst hrq
    rw [sorted_ext d2 e2 fun k => ?_]
    have := h k
    rw [look_cons, look_cons] at this
    by_cases hk : r.1 = k
    · subst hk
      have n1 : look d r.1 = none := look_none.2 fun x hx => (ne_of_ltB (d1 x hx)).symm
      have n2 : look e r.1 = none := look_none.2 fun x hx => (ne_of_ltB (e1 x hx)).symm
      rw [n1, n2]
    · rw [if_neg hk, if_neg hk] at this
      exact this
/-! ### What the changes make of what is found -/
theorem look_ins {d : Ds} {r : Rec} (hs : Sorted d) (h : hasD d r.1 = false) (k : Bs) : look (insD d r) k = if k = r.1 then some r.2 else look d k := by
  have hi := ins_sorted hs h
  cases e : look (insD d r) k with
  | some s =>
    have m := look_some e
    unfold insD at m
    rcases List.mem_append.1 m with m | m
    · have m' := List.mem_of_mem_take m
      have hne := hasD_no hs h m'
      rw [if_neg hne, look_mem hs m']
    · rcases List.mem_cons.1 m with m | m
      · rw [← m]; simp
      · have m' := List.mem_of_mem_drop m
        have hne := hasD_no hs h m'
        rw [if_neg hne, look_mem hs m']
  | none =>
    rw [look_none] at e
    have hr : r ∈ insD d r := by unfold insD; simp
    rw [if_neg (fun hk => e r hr hk.symm)]
    symm
    rw [look_none]
    intro x hx
    refine e x ?_
    unfold insD
    rw [← List.take_append_drop (atD d r.1) d] at hx
    rcases List.mem_append.1 hx with hx | hx
    · exact List.mem_append_left _ hx
    · exact List.mem_append_right _ (List.mem_cons_of_mem _ hx)
theorem look_filter {d : Ds} (hs : Sorted d) (p : Bs → Bool) (k : Bs) : look (d.filter (fun r => p r.1)) k = if p k then look d k else none := by
  cases e : look (d.filter (fun r => p r.1)) k with
  | some s =>
    have m := look_some e
    obtain ⟨m1, m2⟩ := List.mem_filter.1 m
    simp only at m2
    rw [if_pos m2, look_mem hs m1]
  | none =>
    rw [look_none] at e
    split
    · rename_i hp
      symm
      rw [look_none]
      intro x hx hk
      exact e x (List.mem_filter.2 ⟨hx, by rw [hk]; exact hp⟩) hk
    · rfl
theorem look_erase {d : Ds} (hs : Sorted d) {k : Bs} (h : hasD d k = true) (j : Bs) : look (d.eraseIdx (atD d k)) j = if j = k then none else look d j := by
  rw [← without_has hs h]
  unfold withoutR
  have := look_filter hs (fun s => s != k) j
  rw [this]
  by_cases hj : j = k
  · simp [hj]
  · simp [hj]
theorem look_set {d : Ds} {r : Rec} (hs : Sorted d) (h : hasD d r.1 = true) (k : Bs) : look (d.set (atD d r.1) r) k = if k = r.1 then some r.2 else look d k := by
  rw [← with_set hs h]
  have hw : Sorted (withoutR d r.1) := hs.filter _
  have hn : hasD (withoutR d r.1) r.1 = false := by
    cases e : hasD (withoutR d r.1) r.1 with
    | false => rfl
    | true =>
      obtain ⟨x, hx, hk⟩ := (hasD_iff hw r.1).1 e
      have := (List.mem_filter.1 hx).2
      simp [hk] at this
  rw [with_no hw hn, look_ins hw hn]
  split
  · rfl
  · rename_i hk
    have := look_filter hs (fun s => s != r.1) k
    unfold withoutR
    rw [this]
    simp [hk]
/-! ### Keys as lists -/
theorem nodup_keys {d : Ds} (hs : Sorted d) : (d.map (·.1)).Nodup := by
  unfold List.Nodup
  rw [List.pairwise_map]
  exact hs.imp fun h => ne_of_ltB h
theorem nodup_sub : ∀ {a b : List Bs}, a.Nodup → (∀ x ∈ a, x ∈ b) → a.length ≤ b.length
  | [], _, _, _ => Nat.zero_le _
  | x :: a, b, hn, h => by
    obtain ⟨h1, h2⟩ := List.nodup_cons.1 hn
    have hx := h x (List.mem_cons_self ..)
    have := nodup_sub (a := a) (b := b.erase x) h2 fun y hy => by
      refine (List.mem_erase_of_ne ?_).2 (h y (List.mem_cons_of_mem _ hy))
      rintro rfl
      exact h1 hy
    rw [List.length_erase_of_mem hx] at this
    have := List.length_pos_of_mem hx
    simp only [List.length_cons]
    omega
theorem keys_sub {a b : Ds} (ha : Sorted a) (h : ∀ k, (look a k).isSome → (look b k).isSome) : a.length ≤ b.length := by
  have := nodup_sub (nodup_keys ha) (b := b.map (·.1)) fun k hk => by
    obtain ⟨r, hr, rfl⟩ := List.mem_map.1 hk
    have := h r.1 (by rw [look_mem ha hr]; rfl)
    obtain ⟨s, hs⟩ := Option.isSome_iff_exists.1 this
    exact List.mem_map.2 ⟨_, look_some hs, rfl⟩
  simpa using this
theorem keys_sub_lt {a b : Ds} (ha : Sorted a) (h : ∀ k, (look a k).isSome → (look b k).isSome) {j : Bs} (h1 : look a j = none) (h2 : (look b j).isSome) : a.length < b.length := by
  have := nodup_sub (a := j :: a.map (·.1)) (b := b.map (·.1)) (List.nodup_cons.2 ⟨fun hm => by
    obtain ⟨r, hr, rfl⟩ := List.mem_map.1 hm
    exact look_none.1 h1 r hr rfl, nodup_keys ha⟩) fun k hk => by
    rcases List.mem_cons.1 hk with rfl | hk
    · obtain ⟨s, hs⟩ := Option.isSome_iff_exists.1 h2
      exact List.mem_map.2 ⟨_, look_some hs, rfl⟩
    · obtain ⟨r, hr, rfl⟩ := List.mem_map.1 hk
      have := h r.1 (by rw [look_mem ha hr]; rfl)
      obtain ⟨s, hs⟩ := Option.isSome_iff_exists.1 this
      exact List.mem_map.2 ⟨_, look_some hs, rfl⟩
  simp only [List.length_cons, List.length_map] at this
  omega
end Go.Proofs.YtifcgimpgbeocaaGreat
/- Plain: Diff: what it returns, what it makes, how long it is. -/
set_option linter.unusedVariables false
set_option linter.unusedSimpArgs false
namespace Go.Proofs.YtifcgimpgbeocaaGreat
open Go.RowKit
def delsD (a b : Ds) : List FOp := (a.filter (fun r => !hasD b r.1)).map (fun r => (5, 0, r.1, []))
def upsD (a : Ds) : Ds → List FOp
  | [] => []
  | r :: b => (if hasD a r.1 then (if a[atD a r.1]? = some r then [] else [(4, 0, r.1, r.2)]) else [(3, 0, r.1, r.2)]) ++ upsD a b
def diffD (a b : Ds) : List FOp × Int := if isDs a && isDs b then (delsD a b ++ upsD a b, 0) else ([], 140)
theorem upsD_append (a : Ds) : ∀ b c : Ds, upsD a (b ++ c) = upsD a b ++ upsD a c
  | [], _ => rfl
  | r :: b, c => by simp only [List.cons_append, upsD, upsD_append a b c, List.append_assoc]
/-- What carries out operations, without an error. -/
def runD : Ds → List FOp → Option Ds
  | d, [] => some d
  | d, o :: l => if (applyD d o).2.2 = 0 then runD (applyD d o).1 l else none
theorem runD_append : ∀ (d : Ds) (l m : List FOp), runD d (l ++ m) = (runD d l).bind fun e => runD e m
  | d, [], m => rfl
  | d, o :: l, m => by
    simp only [List.cons_append, runD]
    split
    · exact runD_append _ l m
    · rfl
/-! ### One operation of each kind -/
theorem apply_del {d : Ds} {k : Bs} (h : isDs d = true) (hk : isKey k = true) (hh : hasD d k = true) : applyD d (5, 0, k, []) = (d.eraseIdx (atD d k), ([], []), 0) := by
  unfold applyD deleteD isOp
  simp [h, hk, hh]
theorem apply_write {d : Ds} {r : Rec} (h : isDs d = true) (hr : isRec r = true) (hh : hasD d r.1 = false) (hl : d.length < 64) : applyD d (3, 0, r.1, r.2) = (insD d r, ([], []), 0) := by
  have hr' := hr
  unfold isRec at hr'
  simp only [Bool.and_eq_true, decide_eq_true_eq] at hr'
  unfold applyD writeD isOp
  simp [h, hr, hr'.1, hr'.2, hh]
  rw [if_neg (by omega)]
  simp
theorem apply_rewrite {d : Ds} {r : Rec} (h : isDs d = true) (hr : isRec r = true) (hh : hasD d r.1 = true) : applyD d (4, 0, r.1, r.2) = (d.set (atD d r.1) r, ([], []), 0) := by
  have hr' := hr
  unfold isRec at hr'
  simp only [Bool.and_eq_true, decide_eq_true_eq] at hr'
  unfold applyD rewriteD isOp
  simp [h, hr, hr'.1, hr'.2, hh]
theorem ins_isDs {d : Ds} {r : Rec} (h : isDs d = true) (hr : isRec r = true) (hh : hasD d r.1 = false) (hl : d.length < 64) : isDs (insD d r) = true := by
  have hs := isDs_sorted h
  refine isDs_mk ?_ ?_ (ins_sorted hs hh)
  · unfold insD
    simp only [List.length_append, List.length_cons, List.length_take, List.length_drop]
    have := atD_le d r.1
    omega
  · intro x hx
    unfold insD at hx
    rcases List.mem_append.1 hx with hx | hx
    · exact isDs_rec h (List.mem_of_mem_take hx)
    · rcases List.mem_cons.1 hx with rfl | hx
      · exact hr
      · exact isDs_rec h (List.mem_of_mem_drop hx)
theorem erase_isDs {d : Ds} (h : isDs d = true) (i : Nat) : isDs (d.eraseIdx i) = true :=
  isDs_mk (by have := isDs_len h; have := (List.eraseIdx_sublist d i).length_le; omega) (fun x hx => isDs_rec h (List.mem_of_mem_eraseIdx hx)) (erase_sorted (isDs_sorted h) i)
theorem set_isDs {d : Ds} {r : Rec} (h : isDs d = true) (hr : isRec r = true) (hh : hasD d r.1 = true) : isDs (d.set (atD d r.1) r) = true := by
  obtain ⟨s, hk⟩ := hasD_at hh
  refine isDs_mk (by rw [List.length_set]; exact isDs_len h) (fun x hx => ?_) (set_sorted (t := r.2) (isDs_sorted h) hk)
  rcases List.mem_or_eq_of_mem_set hx with hx | rfl
  · exact isDs_rec h hx
  · exact hr
theorem rec_key {r : Rec} (h : isRec r = true) : isKey r.1 = true := by
  unfold isRec at h
  simp only [Bool.and_eq_true] at h
  exact h.1
/-! ### What Diff makes -/
theorem run_dels : ∀ (l : List Rec) (d : Ds), isDs d = true → Sorted l → (∀ r ∈ l, look d r.1 = some r.2) → (∀ r ∈ l, isKey r.1 = true) →
    ∃ e, runD d (l.map (fun r => ((5 : Int), (0 : Int), r.1, ([] : Bs)))) = some e ∧ isDs e = true ∧ ∀ k, look e k = if (look l k).isSome then none else look d k
  | [], d, h, _, _, _ => ⟨d, rfl, h, fun k => by rw [look_nil]; rfl⟩
  | r :: l, d, h, hs, hm, hk => by
    obtain ⟨s1, s2⟩ := List.pairwise_cons.1 hs
    have hd := isDs_sorted h
    have hh : hasD d r.1 = true := by rw [look_has hd, hm r (List.mem_cons_self ..)]; rfl
    have ha := apply_del h (hk r (List.mem_cons_self ..)) hh
    obtain ⟨e, h1, h2, h3⟩ := run_dels l (d.eraseIdx (atD d r.1)) (erase_isDs h _) s2 (fun x hx => by
      rw [look_erase hd hh, if_neg (ne_of_ltB (s1 x hx)).symm]
      exact hm x (List.mem_cons_of_mem _ hx)) (fun x hx => hk x (List.mem_cons_of_mem _ hx))
    refine ⟨e, ?_, h2, fun k => ?_⟩
    · simp only [List.map_cons, runD, ha, if_true]
      exact h1
    · rw [h3, look_erase hd hh, look_cons]
      by_cases e1 : r.1 = k
      · subst e1
        simp
      · rw [if_neg e1, if_neg (show ¬ k = r.1 from fun h => e1 h.symm)]
theorem look_filter_rec {d : Ds} (hs : Sorted d) (p : Rec → Bool) {k s : Bs} : look (d.filter p) k = some s ↔ look d k = some s ∧ p (k, s) = true := by
  have hf : Sorted (d.filter p) := hs.filter _
  rw [look_iff hf, look_iff hs, List.mem_filter]
/-- The rest of b is written: d has what of b came before, and what a has at the rest's keys. -/
theorem run_ups (a b : Ds) (ha : isDs a = true) (hb : isDs b = true) : ∀ (l p : List Rec) (d : Ds), b = p ++ l → isDs d = true →
    (∀ k, look d k = if (look p k).isSome then look p k else if (look l k).isSome then look a k else none) →
    runD d (upsD a l) = some b
  | [], p, d, hpl, h, hm => by
    rw [List.append_nil] at hpl
    subst hpl
    simp only [upsD, runD, Option.some.injEq]
    refine sorted_ext (isDs_sorted h) (isDs_sorted hb) fun k => ?_
    rw [hm]
    cases look b k <;> rfl
  | r :: l, p, d, hpl, h, hm => by
    have has := isDs_sorted ha
    have hbs := isDs_sorted hb
    have hds := isDs_sorted h
    have hr : isRec r = true := isDs_rec hb (by rw [hpl]; simp)
    have hps : Sorted (p ++ r :: l) := by rw [← hpl]; exact hbs
    have hpr : look p r.1 = none := look_none.2 fun x hx => ne_of_ltB ((List.pairwise_append.1 hps).2.2 x hx r (List.mem_cons_self ..))
    have hlr : look l r.1 = none := look_none.2 fun x hx => (ne_of_ltB ((List.pairwise_cons.1 (List.pairwise_append.1 hps).2.1).1 x hx)).symm
    have hdr : look d r.1 = look a r.1 := by rw [hm, hpr, look_cons]; simp
    have hdh : hasD d r.1 = hasD a r.1 := by rw [look_has hds, look_has has, hdr]
    have next : ∀ d', isDs d' = true → (∀ k, look d' k = if k = r.1 then some r.2 else look d k) → runD d' (upsD a l) = some b := fun d' h' hl' => by
      refine run_ups a b ha hb l (p ++ [r]) d' (by rw [hpl]; simp) h' fun k => ?_
      rw [hl', look_append, look_cons, look_nil]
      by_cases e : k = r.1
      · subst e
        rw [hpr]; simp
      · rw [if_neg e, if_neg (show ¬ r.1 = k from fun h => e h.symm), Option.or_none, hm, look_cons, if_neg (show ¬ r.1 = k from fun h => e h.symm)]
    simp only [upsD]
    cases hh : hasD a r.1 with
    | true =>
      simp only [if_true]
      by_cases ee : a[atD a r.1]? = some r
      · rw [if_pos ee, List.nil_append]
        refine next d h fun k => ?_
        by_cases e : k = r.1
        · subst e
          rw [if_pos rfl, hdr]
          exact (look_at has).1 ee
        · rw [if_neg e]
      · rw [if_neg ee, List.singleton_append]
        have hh2 : hasD d r.1 = true := by rw [hdh, hh]
        simp only [runD, apply_rewrite h hr hh2, if_true]
        exact next _ (set_isDs h hr hh2) fun k => look_set hds hh2 k
    | false =>
      simp only [Bool.false_eq_true, if_false, List.singleton_append]
      have hh2 : hasD d r.1 = false := by rw [hdh, hh]
      have hl : d.length < 64 := by
        have hdn : look d r.1 = none := by
          have := look_has hds r.1
          rw [hh2] at this
          cases e : look d r.1 with
          | none => rfl
          | some s => rw [e] at this; cases this
        have := keys_sub_lt (a := d) (b := b) hds (fun k hk => by
          rw [hm] at hk
          rw [hpl, look_append]
          by_cases c1 : (look p k).isSome = true
          · obtain ⟨s, hs⟩ := Option.isSome_iff_exists.1 c1
            rw [hs]; rfl
          · rw [if_neg c1] at hk
            by_cases c2 : (look (r :: l) k).isSome = true
            · obtain ⟨s, hs⟩ := Option.isSome_iff_exists.1 c2
              rw [hs]; cases look p k <;> rfl
            · rw [if_neg c2] at hk; cases hk) hdn (by rw [hpl, look_append, look_cons, if_pos rfl, hpr]; rfl)
        have := isDs_len hb
        omega
      simp only [runD, apply_write h hr hh2 hl, if_true]
      exact next _ (ins_isDs h hr hh2 hl) fun k => look_ins hds hh2 k
theorem run_diff {a b : Ds} (ha : isDs a = true) (hb : isDs b = true) : runD a (delsD a b ++ upsD a b) = some b := by
  have has := isDs_sorted ha
  have hbs := isDs_sorted hb
  obtain ⟨e, h1, h2, h3⟩ := run_dels (a.filter (fun r => !hasD b r.1)) a ha (has.filter _)
    (fun r hr => look_mem has (List.mem_filter.1 hr).1) (fun r hr => rec_key (isDs_rec ha (List.mem_filter.1 hr).1))
  rw [runD_append]
  unfold delsD
  rw [h1, Option.bind_some]
  refine run_ups a b ha hb b [] e rfl h2 fun k => ?_
  rw [h3, look_nil]
  simp only [Option.isSome_none, Bool.false_eq_true, if_false]
  have hf := look_filter has (fun s => !hasD b s) k
  rw [hf, look_has hbs]
  cases look b k <;> cases look a k <;> simp
/-! ### How long it is -/
/-- The reference's count of the keys whose records differ. -/
def differD (a b : Ds) : Nat := (a.filter (fun x => !decide (look b x.1 = some x.2))).length + (b.filter (fun x => !hasD a x.1)).length
theorem filter_split (l : List Rec) (p q : Rec → Bool) : (l.filter p).length = (l.filter (fun x => p x && q x)).length + (l.filter (fun x => p x && !q x)).length := by
  induction l with
  | nil => rfl
  | cons x l ih =>
    simp only [List.filter_cons]
    cases p x <;> cases q x <;> simp [ih] <;> omega
theorem ups_len (a : Ds) (has : Sorted a) : ∀ b : Ds, (upsD a b).length = (b.filter (fun x => hasD a x.1 && !decide (look a x.1 = some x.2))).length + (b.filter (fun x => !hasD a x.1)).length
  | [] => rfl
  | r :: b => by
    have ih := ups_len a has b
    have e : (a[atD a r.1]? = some r) ↔ look a r.1 = some r.2 := look_at (k := r.1) (s := r.2) has
    simp only [upsD, List.filter_cons, List.length_append, ih]
    cases hasD a r.1 with
    | false => simp; omega
    | true =>
      by_cases h : look a r.1 = some r.2
      · simp [e, h]
      · simp [e, h]; omega
theorem same_keys_len {a b : Ds} (has : Sorted a) (hbs : Sorted b) : (b.filter (fun x => hasD a x.1 && !decide (look a x.1 = some x.2))).length ≤ (a.filter (fun x => hasD b x.1 && !decide (look b x.1 = some x.2))).length := by
  refine keys_sub (hbs.filter _) fun k hk => ?_
  obtain ⟨s, hs⟩ := Option.isSome_iff_exists.1 hk
  rw [look_filter_rec hbs] at hs
  obtain ⟨h1, h2⟩ := hs
  simp only [Bool.and_eq_true, Bool.not_eq_true', decide_eq_false_iff_not] at h2
  have h3 := h2.1
  rw [look_has has] at h3
  obtain ⟨t, ht⟩ := Option.isSome_iff_exists.1 h3
  have : look (a.filter (fun x => hasD b x.1 && !decide (look b x.1 = some x.2))) k = some t := by
    rw [look_filter_rec has]
    refine ⟨ht, ?_⟩
    simp only [Bool.and_eq_true, Bool.not_eq_true', decide_eq_false_iff_not]
    refine ⟨by rw [look_has hbs, h1]; rfl, fun e => h2.2 ?_⟩
    rw [h1] at e
    rw [ht, e]
  rw [this]; rfl
theorem diff_len {a b : Ds} (ha : isDs a = true) (hb : isDs b = true) : (delsD a b ++ upsD a b).length = differD a b := by
  have has := isDs_sorted ha
  have hbs := isDs_sorted hb
  have h1 := same_keys_len has hbs
  have h2 := same_keys_len hbs has
  unfold differD delsD
  rw [List.length_append, List.length_map, ups_len a has b]
  have h3 := filter_split a (fun x => !decide (look b x.1 = some x.2)) (fun x => hasD b x.1)
  have e1 : (a.filter (fun x => !decide (look b x.1 = some x.2) && hasD b x.1)).length = (a.filter (fun x => hasD b x.1 && !decide (look b x.1 = some x.2))).length := by
    congr 1
    exact List.filter_congr fun x _ => Bool.and_comm _ _
  have e2 : (a.filter (fun x => !decide (look b x.1 = some x.2) && !hasD b x.1)).length = (a.filter (fun x => !hasD b x.1)).length := by
    congr 1
    refine List.filter_congr fun x _ => ?_
    rw [look_has hbs]
    cases look b x.1 <;> simp
  omega
end Go.Proofs.YtifcgimpgbeocaaGreat
/- Plain: operations with different keys can be exchanged. -/
set_option linter.unusedVariables false
set_option linter.unusedSimpArgs false
namespace Go.Proofs.YtifcgimpgbeocaaGreat
open Go.RowKit
/-- What an operation that is no FoNext does at its own key: the data there behind it, the record, the error. -/
def atKey (o : FOp) (x : Option Bs) : Option Bs × Rec × Int :=
  if isOp o = true then
    (if o.1 = 1 then (match x with | some s => (some s, (o.2.2.1, s), 0) | none => (none, ([], []), 4))
     else if o.1 = 3 then (match x with | some s => (some s, ([], []), 141) | none => (some o.2.2.2, ([], []), 0))
     else if o.1 = 4 then (match x with | some s => (some o.2.2.2, ([], []), 0) | none => (none, ([], []), 4))
     else (match x with | some s => (none, ([], []), 0) | none => (none, ([], []), 4)))
  else (x, ([], []), 1)
def stepE (d : Ds) (o : FOp) : Ds × Rec × Int := (if (applyD d o).2.2 = 0 then (applyD d o).1 else d, (applyD d o).2)
theorem isOp_kinds {o : FOp} (h : isOp o = true) : 1 ≤ o.1 ∧ o.1 ≤ 5 := by
  unfold isOp at h
  simp only [Bool.and_eq_true, decide_eq_true_eq] at h
  exact h.1
theorem isOp_key {o : FOp} (h : isOp o = true) (h2 : o.1 ≠ 2) : isKey o.2.2.1 = true := by
  unfold isOp at h
  rw [if_neg h2] at h
  simp only [Bool.and_eq_true] at h
  exact h.2.2.1
theorem isOp_rec {o : FOp} (h : isOp o = true) (h2 : o.1 = 3 ∨ o.1 = 4) : isRec o.2.2 = true := by
  have hk := isOp_key h (by omega)
  unfold isOp at h
  rw [if_pos h2] at h
  simp only [Bool.and_eq_true] at h
  unfold isRec
  rw [hk, h.2.2.2]
  rfl
theorem readD_look {d : Ds} {k : Bs} (hd : isDs d = true) (hk : isKey k = true) : readD d k = match look d k with | some s => (s, 0) | none => ([], 4) := by
  have hs := isDs_sorted hd
  unfold readD
  rw [if_pos hd, if_pos hk, look_has hs]
  cases e : look d k with
  | none => rfl
  | some s => rw [(look_at hs).2 e]; rfl
theorem step_spec {d : Ds} (hd : isDs d = true) (o : FOp) (h2 : o.1 ≠ 2) :
    isDs (stepE d o).1 = true ∧ (∀ k, k ≠ o.2.2.1 → look (stepE d o).1 k = look d k) ∧ ((stepE d o).2.2 ≠ 2 → (look (stepE d o).1 o.2.2.1, (stepE d o).2) = atKey o (look d o.2.2.1)) := by
  have hs := isDs_sorted hd
  unfold stepE
  by_cases ho : isOp o = true
  · obtain ⟨k1, k2⟩ := isOp_kinds ho
    have hk := isOp_key ho h2
    have hh := look_has hs o.2.2.1
    by_cases c1 : o.1 = 1
    · have ha : applyD d o = (if (readD d o.2.2.1).2 = 0 then (d, (o.2.2.1, (readD d o.2.2.1).1), 0) else ([], ([], []), (readD d o.2.2.1).2)) := by
        unfold applyD; rw [if_pos hd, if_pos ho, if_pos c1]
      rw [readD_look hd hk] at ha
      unfold atKey
      rw [if_pos ho, if_pos c1]
      cases e : look d o.2.2.1 with
      | none => rw [e] at ha; simp at ha; rw [ha]; exact ⟨hd, fun _ _ => rfl, fun _ => by simp [e]⟩
      | some s => rw [e] at ha; simp at ha; rw [ha]; exact ⟨hd, fun _ _ => rfl, fun _ => by simp [e]⟩
    by_cases c3 : o.1 = 3
    · have hr := isOp_rec ho (.inl c3)
      have ha : applyD d o = ((writeD d o.2.2).1, ([], []), (writeD d o.2.2).2) := by
        unfold applyD; rw [if_pos hd, if_pos ho, if_neg c1, if_neg h2, if_pos c3]
      unfold writeD at ha
      rw [if_pos hd, if_pos hr, hh] at ha
      unfold atKey
      rw [if_pos ho, if_neg c1, if_pos c3]
      cases e : look d o.2.2.1 with
      | some s => rw [e] at ha; simp at ha; rw [ha]; exact ⟨hd, fun _ _ => rfl, fun _ => by simp [e]⟩
      | none =>
        rw [e] at ha hh
        by_cases hl : d.length = 64
        · simp [hl] at ha
          rw [ha]
          exact ⟨hd, fun _ _ => rfl, fun h => absurd rfl h⟩
        · simp [hl] at ha
          rw [ha]
          have h0 : hasD d o.2.2.1 = false := hh
          have hlt : d.length < 64 := by have := isDs_len hd; omega
          refine ⟨ins_isDs hd hr h0 hlt, fun k hk => ?_, fun _ => ?_⟩
          · simp only [if_true]
            rw [look_ins hs h0, if_neg hk]
          · simp only [if_true]
            rw [look_ins hs h0, if_pos rfl]
    by_cases c4 : o.1 = 4
    · have hr := isOp_rec ho (.inr c4)
      have ha : applyD d o = ((rewriteD d o.2.2).1, ([], []), (rewriteD d o.2.2).2) := by
        unfold applyD; rw [if_pos hd, if_pos ho, if_neg c1, if_neg h2, if_neg c3, if_pos c4]
      unfold rewriteD at ha
      rw [if_pos hd, if_pos hr, hh] at ha
      unfold atKey
      rw [if_pos ho, if_neg c1, if_neg c3, if_pos c4]
      cases e : look d o.2.2.1 with
      | none => rw [e] at ha; simp at ha; rw [ha]; exact ⟨hd, fun _ _ => rfl, fun _ => by simp [e]⟩
      | some s =>
        rw [e] at ha hh
        simp at ha
        rw [ha]
        have h0 : hasD d o.2.2.1 = true := hh
        refine ⟨set_isDs hd hr h0, fun k hk => ?_, fun _ => ?_⟩
        · simp only [if_true]
          rw [look_set hs h0, if_neg hk]
        · simp only [if_true]
          rw [look_set hs h0, if_pos rfl]
    have ha : applyD d o = ((deleteD d o.2.2.1).1, ([], []), (deleteD d o.2.2.1).2) := by
      unfold applyD; rw [if_pos hd, if_pos ho, if_neg c1, if_neg h2, if_neg c3, if_neg c4]
    unfold deleteD at ha
    rw [if_pos hd, if_pos hk, hh] at ha
    unfold atKey
    rw [if_pos ho, if_neg c1, if_neg c3, if_neg c4]
    cases e : look d o.2.2.1 with
    | none => rw [e] at ha; simp at ha; rw [ha]; exact ⟨hd, fun _ _ => rfl, fun _ => by simp [e]⟩
    | some s =>
      rw [e] at ha hh
      simp at ha
      rw [ha]
      have h0 : hasD d o.2.2.1 = true := hh
      refine ⟨erase_isDs hd _, fun k hk => ?_, fun _ => ?_⟩
      · simp only [if_true]
        rw [look_erase hs h0, if_neg hk]
      · simp only [if_true]
        rw [look_erase hs h0, if_pos rfl]
  · have ha : applyD d o = ([], ([], []), 1) := by unfold applyD; rw [if_pos hd, if_neg ho]
    rw [ha]
    unfold atKey
    rw [if_neg ho]
    exact ⟨hd, fun _ _ => rfl, fun _ => rfl⟩
theorem exchange {d : Ds} (hd : isDs d = true) (a b : FOp) (ha : a.1 ≠ 2) (hb : b.1 ≠ 2) (hk : a.2.2.1 ≠ b.2.2.1)
    (n1 : (stepE d a).2.2 ≠ 2) (n2 : (stepE (stepE d a).1 b).2.2 ≠ 2) (m1 : (stepE d b).2.2 ≠ 2) (m2 : (stepE (stepE d b).1 a).2.2 ≠ 2) :
    (stepE (stepE d a).1 b).1 = (stepE (stepE d b).1 a).1 ∧ (stepE d a).2 = (stepE (stepE d b).1 a).2 ∧ (stepE (stepE d a).1 b).2 = (stepE d b).2 := by
  obtain ⟨a1, a2, a3⟩ := step_spec hd a ha
  obtain ⟨b1, b2, b3⟩ := step_spec hd b hb
  obtain ⟨c1, c2, c3⟩ := step_spec a1 b hb
  obtain ⟨e1, e2, e3⟩ := step_spec b1 a ha
  have a3 := a3 n1; have b3 := b3 m1; have c3 := c3 n2; have e3 := e3 m2
  rw [a2 _ hk.symm, ← b3] at c3
  rw [b2 _ hk, ← a3] at e3
  simp only [Prod.mk.injEq] at c3 e3
  refine ⟨sorted_ext (isDs_sorted c1) (isDs_sorted e1) fun k => ?_, e3.2.symm, c3.2⟩
  by_cases k1 : k = a.2.2.1
  · subst k1
    rw [c2 _ hk, e3.1]
  · by_cases k2 : k = b.2.2.1
    · subst k2
      rw [c3.1, e2 _ k1]
    · rw [c2 _ k2, a2 _ k1, e2 _ k1, b2 _ k2]
end Go.Proofs.YtifcgimpgbeocaaGreat
/- Plain: operations as bytes, and back. -/
set_option linter.unusedVariables false
set_option linter.unusedSimpArgs false
namespace Go.Proofs.YtifcgimpgbeocaaGreat
open Go.RowKit
def b8 (n : Int) : UInt8 := UInt8.ofNat (n % 256).toNat
theorem b8_nat {n : Int} (h0 : 0 ≤ n) (h1 : n < 256) : ((b8 n).toNat : Int) = n := by
  unfold b8
  rw [UInt8.toNat_ofNat']
  omega
theorem b8_len {n : Nat} (h1 : n < 256) : (b8 n).toNat = n := by have := b8_nat (n := n) (by omega) (by omega); omega
theorem b8_of (b : UInt8) : b8 (b.toNat : Int) = b := by
  unfold b8
  have := b.toNat_lt
  rw [show ((b.toNat : Int) % 256).toNat = b.toNat by omega]
  exact UInt8.ofNat_toNat
def enc1 (o : FOp) : Bs := b8 o.1 :: b8 o.2.1 :: b8 o.2.2.1.length :: (o.2.2.1 ++ (if o.1 = 5 then [] else b8 o.2.2.2.length :: o.2.2.2))
def encL (l : List FOp) : Bs := l.flatMap enc1
def encodeD (l : List FOp) : Bs × Int := if l.all chg then (if (encL l).length ≤ 131072 then (encL l, 0) else ([], 2)) else ([], 1)
/-- One operation taken off the bytes; whether it is one that changes is not asked. -/
def dec1 : Bs → Option (FOp × Bs)
  | k :: f :: n :: r =>
    if n.toNat ≤ r.length then
      (if k.toNat = 5 then some (((k.toNat : Int), (f.toNat : Int), r.take n.toNat, []), r.drop n.toNat)
       else match r.drop n.toNat with
        | m :: q => if m.toNat ≤ q.length then some (((k.toNat : Int), (f.toNat : Int), r.take n.toNat, q.take m.toNat), q.drop m.toNat) else none
        | [] => none)
    else none
  | _ => none
theorem dec1_cons (k f n : UInt8) (r : Bs) : dec1 (k :: f :: n :: r) = if n.toNat ≤ r.length then
      (if k.toNat = 5 then some (((k.toNat : Int), (f.toNat : Int), r.take n.toNat, []), r.drop n.toNat)
       else match r.drop n.toNat with
        | m :: q => if m.toNat ≤ q.length then some (((k.toNat : Int), (f.toNat : Int), r.take n.toNat, q.take m.toNat), q.drop m.toNat) else none
        | [] => none)
    else none := rfl
def decF : Nat → Bs → Option (List FOp)
  | _, [] => some []
  | 0, _ :: _ => none
  | f + 1, c :: s => match dec1 (c :: s) with
    | some (o, r) => if chg o = true then (decF f r).map (o :: ·) else none
    | none => none
def decL (s : Bs) : Option (List FOp) := decF s.length s
def decodeD (s : Bs) : List FOp × Int := if s.length ≤ 131072 then (match decL s with | some l => (l, 0) | none => ([], 145)) else ([], 145)
theorem encL_nil : encL [] = [] := rfl
theorem encL_cons (o : FOp) (l : List FOp) : encL (o :: l) = enc1 o ++ encL l := rfl
theorem encL_append (l m : List FOp) : encL (l ++ m) = encL l ++ encL m := by unfold encL; exact List.flatMap_append
theorem chg_kinds {o : FOp} (h : chg o = true) : 3 ≤ o.1 ∧ o.1 ≤ 5 := by
  unfold chg at h
  simp only [Bool.and_eq_true, decide_eq_true_eq] at h
  exact h.1
theorem chg_op {o : FOp} (h : chg o = true) : isOp o = true := by
  unfold chg at h
  simp only [Bool.and_eq_true] at h
  exact h.2
theorem chg_parts {o : FOp} (h : chg o = true) : (3 ≤ o.1 ∧ o.1 ≤ 5) ∧ (0 ≤ o.2.1 ∧ o.2.1 ≤ 7) ∧ (1 ≤ o.2.2.1.length ∧ o.2.2.1.length ≤ 16) ∧ o.2.2.2.length ≤ 255 ∧ (o.1 = 5 → o.2.2.2 = []) := by
  have hk := chg_kinds h
  have ho := chg_op h
  unfold isOp isKey at ho
  rw [if_neg (show ¬ o.1 = 2 by omega)] at ho
  simp only [Bool.and_eq_true, decide_eq_true_eq] at ho
  obtain ⟨-, h2, h3, h4⟩ := ho
  refine ⟨hk, h2, h3, ?_, fun h5 => ?_⟩
  · split at h4
    · simpa using h4
    · rw [List.isEmpty_iff.1 h4]; simp
  · rw [if_neg (by omega)] at h4
    exact List.isEmpty_iff.1 h4
theorem enc1_len {o : FOp} (h : chg o = true) : (enc1 o).length = 3 + o.2.2.1.length + (if o.1 = 5 then 0 else 1 + o.2.2.2.length) := by
  unfold enc1
  split <;> simp <;> omega
theorem dec_enc1 {o : FOp} (h : chg o = true) (r : Bs) : dec1 (enc1 o ++ r) = some (o, r) := by
  obtain ⟨⟨k1, k2⟩, ⟨f1, f2⟩, ⟨n1, n2⟩, hd, h5⟩ := chg_parts h
  have ek := b8_nat (n := o.1) (by omega) (by omega)
  have ef := b8_nat (n := o.2.1) (by omega) (by omega)
  have en := b8_len (n := o.2.2.1.length) (by omega)
  have em := b8_len (n := o.2.2.2.length) (by omega)
  unfold enc1
  simp only [List.cons_append]
  rw [dec1_cons, en, ek, ef]
  by_cases c : o.1 = 5
  · have e5 : (b8 o.1).toNat = 5 := by omega
    have h5' := h5 c
    simp only [if_pos c, List.append_nil]
    rw [if_pos (by simp), if_pos e5]
    simp only [List.take_left', List.drop_left', List.take_left, List.drop_left]
    congr 1
    rw [Prod.ext_iff]
    refine ⟨?_, rfl⟩
    obtain ⟨a, b, c', d⟩ := o
    simp only at h5' ⊢
    rw [h5']
  · have e5 : ¬ (b8 o.1).toNat = 5 := by omega
    simp only [if_neg c]
    rw [if_pos (by simp), if_neg e5, List.append_assoc, List.drop_left, List.take_left]
    simp only [List.cons_append]
    rw [em, if_pos (by simp), List.take_left, List.drop_left]
theorem dec_len {s r : Bs} {o : FOp} (h : dec1 s = some (o, r)) : r.length + 3 ≤ s.length := by
  unfold dec1 at h
  split at h
  · split at h
    · split at h
      · simp only [Option.some.injEq, Prod.mk.injEq] at h
        rw [← h.2]
        simp
      · split at h
        · rename_i hdr
          split at h
          · simp only [Option.some.injEq, Prod.mk.injEq] at h
            have := congrArg List.length hdr
            rw [← h.2]
            simp at this ⊢
            omega
          · cases h
        · cases h
    · cases h
  · cases h
theorem dec_append {s r : Bs} {o : FOp} (h : dec1 s = some (o, r)) (t : Bs) : dec1 (s ++ t) = some (o, r ++ t) := by
  unfold dec1 at h
  split at h
  · rename_i k f n q
    simp only [List.cons_append]
    rw [dec1_cons]
    split at h
    · rename_i hn
      rw [if_pos (by rw [List.length_append]; omega), List.take_append_of_le_length hn, List.drop_append_of_le_length hn]
      split at h
      · rename_i h5
        rw [if_pos h5]
        simp only [Option.some.injEq, Prod.mk.injEq] at h
        obtain ⟨rfl, rfl⟩ := h
        rfl
      · rename_i h5
        rw [if_neg h5]
        split at h
        · rename_i m p hdr
          split at h
          · rename_i hm
            simp only [Option.some.injEq, Prod.mk.injEq] at h
            obtain ⟨rfl, rfl⟩ := h
            simp only [hdr, List.cons_append]
            rw [if_pos (by rw [List.length_append]; omega), List.take_append_of_le_length hm, List.drop_append_of_le_length hm]
          · cases h
        · cases h
    · cases h
  · cases h
theorem enc_dec1 {s r : Bs} {o : FOp} (h : dec1 s = some (o, r)) : s = enc1 o ++ r := by
  unfold dec1 at h
  split at h
  · rename_i k f n q
    split at h
    · rename_i hn
      have hq : (b8 ((q.take n.toNat).length : Int)) = n := by
        rw [List.length_take, Nat.min_eq_left hn]; exact b8_of n
      split at h
      · rename_i h5
        simp only [Option.some.injEq, Prod.mk.injEq] at h
        obtain ⟨rfl, rfl⟩ := h
        unfold enc1
        simp only
        rw [hq, b8_of, b8_of, if_pos (by omega)]
        simp
      · rename_i h5
        split at h
        · rename_i m p hdr
          split at h
          · rename_i hm
            simp only [Option.some.injEq, Prod.mk.injEq] at h
            obtain ⟨rfl, rfl⟩ := h
            have hm' : (b8 ((p.take m.toNat).length : Int)) = m := by
              rw [List.length_take, Nat.min_eq_left hm]; exact b8_of m
            unfold enc1
            simp only
            rw [hq, hm', b8_of, b8_of, if_neg (by omega)]
            simp only [List.cons_append, List.append_assoc, List.take_append_drop]
            rw [← hdr, List.take_append_drop]
          · cases h
        · cases h
    · cases h
  · cases h
theorem decF_fuel : ∀ (f g : Nat) (s : Bs), s.length ≤ f → s.length ≤ g → decF f s = decF g s
  | 0, 0, s, _, _ => rfl
  | 0, g + 1, s, hf, hg => by
    cases s with
    | nil => rfl
    | cons c s => simp at hf
  | f + 1, 0, s, hf, hg => by
    cases s with
    | nil => rfl
    | cons c s => simp at hg
  | f + 1, g + 1, s, hf, hg => by
    cases s with
    | nil => rfl
    | cons c s =>
      unfold decF
      cases hd : dec1 (c :: s) with
      | none => rfl
      | some x =>
        obtain ⟨o, r⟩ := x
        have := dec_len hd
        simp only [List.length_cons] at this hf hg
        simp only
        rw [decF_fuel f g r (by omega) (by omega)]
theorem decL_nil : decL [] = some [] := rfl
theorem decL_cons (c : UInt8) (s : Bs) : decL (c :: s) = match dec1 (c :: s) with
    | some (o, r) => if chg o = true then (decL r).map (o :: ·) else none
    | none => none := by
  unfold decL
  conv => lhs; unfold decF
  simp only [List.length_cons]
  cases hd : dec1 (c :: s) with
  | none => rfl
  | some x =>
    obtain ⟨o, r⟩ := x
    have := dec_len hd
    simp only [List.length_cons] at this
    simp only
    rw [decF_fuel s.length r.length r (by omega) (Nat.le_refl _)]
theorem enc1_ne (o : FOp) : ∃ c t, enc1 o = c :: t := ⟨_, _, rfl⟩
theorem decL_step {o : FOp} (h : chg o = true) (r : Bs) : decL (enc1 o ++ r) = (decL r).map (o :: ·) := by
  obtain ⟨c, t, e⟩ := enc1_ne o
  have hd := dec_enc1 h r
  rw [e, List.cons_append] at hd ⊢
  rw [decL_cons, hd]
  simp only [h, if_true]
theorem decL_enc : ∀ {l : List FOp}, (∀ o ∈ l, chg o = true) → decL (encL l) = some l
  | [], _ => rfl
  | o :: l, h => by
    rw [encL_cons, decL_step (h o (List.mem_cons_self ..)), decL_enc fun x hx => h x (List.mem_cons_of_mem _ hx)]
    rfl
theorem enc_decL : ∀ (n : Nat) (s : Bs) (l : List FOp), s.length ≤ n → decL s = some l → encL l = s ∧ ∀ o ∈ l, chg o = true
  | n, [], l, _, h => by
    rw [decL_nil] at h
    cases h
    exact ⟨rfl, fun o ho => by cases ho⟩
  | 0, c :: s, l, hn, h => by simp at hn
  | n + 1, c :: s, l, hn, h => by
    rw [decL_cons] at h
    split at h
    · rename_i o r hd
      split at h
      · rename_i hc
        rw [Option.map_eq_some_iff] at h
        obtain ⟨m, h1, rfl⟩ := h
        have := dec_len hd
        simp only [List.length_cons] at this hn
        obtain ⟨e1, e2⟩ := enc_decL n r m (by omega) h1
        refine ⟨by rw [encL_cons, e1, ← enc_dec1 hd], fun x hx => ?_⟩
        rcases List.mem_cons.1 hx with rfl | hx
        · exact hc
        · exact e2 x hx
      · cases h
    · cases h
/-- The bytes' beginning, if it can be decoded, is the bytes of a beginning. -/
theorem dec_front : ∀ (c l : List FOp) (t : Bs), (∀ o ∈ c, chg o = true) → (∀ o ∈ l, chg o = true) → encL l = encL c ++ t → c = l.take c.length
  | [], l, t, _, _, _ => by simp
  | o :: c, l, t, hc, hl, h => by
    have ho := hc o (List.mem_cons_self ..)
    cases l with
    | nil =>
      obtain ⟨a, b, e⟩ := enc1_ne o
      rw [encL_nil, encL_cons, e] at h
      simp at h
    | cons p l =>
      have hp := hl p (List.mem_cons_self ..)
      rw [encL_cons, encL_cons, List.append_assoc] at h
      have h1 := dec_enc1 hp (encL l)
      rw [h, dec_enc1 ho] at h1
      simp only [Option.some.injEq, Prod.mk.injEq] at h1
      obtain ⟨rfl, h2⟩ := h1
      have := dec_front c l t (fun x hx => hc x (List.mem_cons_of_mem _ hx)) (fun x hx => hl x (List.mem_cons_of_mem _ hx)) h2.symm
      simp only [List.length_cons, List.take_succ_cons]
      rw [← this]
end Go.Proofs.YtifcgimpgbeocaaGreat
