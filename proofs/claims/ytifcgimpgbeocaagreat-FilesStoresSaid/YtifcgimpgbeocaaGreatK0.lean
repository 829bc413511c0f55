/- Plain: datasets: keys, records, their order, what is found, and what the changes make. -/
import Derived.WalkKit
set_option linter.unusedVariables false
set_option linter.unusedSimpArgs false
namespace Go.Proofs.YtifcgimpgbeocaaGreat
open Go.RowKit
abbrev Bs := List UInt8
abbrev Rec := Bs × Bs
abbrev Ds := List Rec
abbrev FOp := Int × Int × Bs × Bs
/-- The order of strings. -/
def ltB (a b : Bs) : Bool := Op.bytesLess a b
theorem ltB_nil (a : Bs) : ltB a [] = false := by cases a <;> rfl
theorem ltB_cons (a b : UInt8) (x y : Bs) : ltB (a :: x) (b :: y) = (a < b || (a == b && ltB x y)) := rfl
theorem u8_lt (a b : UInt8) : a < b ↔ a.toNat < b.toNat := UInt8.lt_iff_toNat_lt
theorem u8_eq {a b : UInt8} (h : a.toNat = b.toNat) : a = b := UInt8.toNat_inj.1 h
theorem ltB_irrefl : ∀ a : Bs, ltB a a = false
  | [] => rfl
  | a :: x => by
    rw [ltB_cons, ltB_irrefl x]
    simp [u8_lt]
theorem ltB_trans : ∀ {a b c : Bs}, ltB a b = true → ltB b c = true → ltB a c = true
  | _, _, [], h1, h2 => by rw [ltB_nil] at h2; cases h2
  | _, [], _ :: _, h1, h2 => by rw [ltB_nil] at h1; cases h1
  | [], _ :: _, _ :: _, h1, h2 => rfl
  | a :: x, b :: y, c :: z, h1, h2 => by
    rw [ltB_cons] at h1 h2 ⊢
    simp only [Bool.or_eq_true, Bool.and_eq_true, decide_eq_true_eq, beq_iff_eq, u8_lt] at h1 h2 ⊢
    rcases h1 with h1 | ⟨rfl, h1⟩
    · rcases h2 with h2 | ⟨rfl, h2⟩
      · left; omega
      · left; exact h1
    · rcases h2 with h2 | ⟨rfl, h2⟩
      · left; exact h2
      · right; exact ⟨rfl, ltB_trans h1 h2⟩
theorem ltB_tri : ∀ {a b : Bs}, ltB a b = false → ltB b a = false → a = b
  | [], [], _, _ => rfl
  | [], _ :: _, h, _ => by cases h
  | _ :: _, [], _, h => by cases h
  | a :: x, b :: y, h1, h2 => by
    rw [ltB_cons] at h1 h2
    simp only [Bool.or_eq_false_iff, Bool.and_eq_false_iff, decide_eq_false_iff_not, beq_eq_false_iff_ne, u8_lt] at h1 h2
    have e : a = b := u8_eq (by omega)
    subst e
    have g1 : ltB x y = false := by rcases h1.2 with h | h; exact absurd rfl h; exact h
    have g2 : ltB y x = false := by rcases h2.2 with h | h; exact absurd rfl h; exact h
    rw [ltB_tri g1 g2]
theorem ltB_asymm {a b : Bs} (h : ltB a b = true) : ltB b a = false := by
  cases e : ltB b a with
  | false => rfl
  | true => have := ltB_trans h e; rw [ltB_irrefl] at this; cases this
theorem ltB_of_le_lt {a b c : Bs} (h1 : ltB b a = false) (h2 : ltB b c = true) : ltB a c = true := by
  cases e : ltB a b with
  | true => exact ltB_trans e h2
  | false => rw [ltB_tri e h1]; exact h2
/-! ### Keys, records, datasets -/
def isKey (s : Bs) : Bool := decide (1 ≤ s.length) && decide (s.length ≤ 16)
def isRec (r : Rec) : Bool := isKey r.1 && decide (r.2.length ≤ 255)
def incr : Ds → Bool
  | a :: b :: r => ltB a.1 b.1 && incr (b :: r)
  | _ => true
def isDs (d : Ds) : Bool := decide (d.length ≤ 64) && (d.all isRec && incr d)
/-- The place of the first record whose key is not less. -/
def atD (d : Ds) (k : Bs) : Nat := d.findIdx (fun r => !ltB r.1 k)
def keyAt (d : Ds) (i : Nat) (k : Bs) : Bool := match d[i]? with
  | some r => r.1 == k
  | none => false
def hasD (d : Ds) (k : Bs) : Bool := keyAt d (atD d k) k
theorem atD_le (d : Ds) (k : Bs) : atD d k ≤ d.length := List.findIdx_le_length
theorem atD_cons (r : Rec) (d : Ds) (k : Bs) : atD (r :: d) k = if ltB r.1 k then atD d k + 1 else 0 := by
  unfold atD
  rw [List.findIdx_cons]
  cases ltB r.1 k <;> simp
def Sorted (d : Ds) : Prop := d.Pairwise (fun a b => ltB a.1 b.1 = true)
theorem incr_sorted : ∀ (d : Ds), incr d = true ↔ Sorted d
  | [] => ⟨fun _ => List.Pairwise.nil, fun _ => rfl⟩
  | [a] => ⟨fun _ => List.pairwise_singleton _ _, fun _ => rfl⟩
  | a :: b :: r => by
    have ih := incr_sorted (b :: r)
    unfold incr
    rw [Bool.and_eq_true, ih]
    unfold Sorted
    constructor
    · rintro ⟨h1, h2⟩
      refine List.pairwise_cons.2 ⟨fun x hx => ?_, h2⟩
      rcases List.mem_cons.1 hx with rfl | hx
      · exact h1
      · exact ltB_trans h1 ((List.pairwise_cons.1 h2).1 x hx)
    · intro h
      obtain ⟨h1, h2⟩ := List.pairwise_cons.1 h
      exact ⟨h1 b (List.mem_cons_self ..), h2⟩
theorem isDs_sorted {d : Ds} (h : isDs d = true) : Sorted d := by
  unfold isDs at h
  simp only [Bool.and_eq_true] at h
  exact (incr_sorted d).1 h.2.2
theorem isDs_len {d : Ds} (h : isDs d = true) : d.length ≤ 64 := by
  unfold isDs at h
  simp only [Bool.and_eq_true, decide_eq_true_eq] at h
  exact h.1
theorem isDs_rec {d : Ds} (h : isDs d = true) {r : Rec} (hr : r ∈ d) : isRec r = true := by
  unfold isDs at h
  simp only [Bool.and_eq_true] at h
  exact List.all_eq_true.1 h.2.1 r hr
theorem isDs_mk {d : Ds} (h1 : d.length ≤ 64) (h2 : ∀ r ∈ d, isRec r = true) (h3 : Sorted d) : isDs d = true := by
  unfold isDs
  simp only [Bool.and_eq_true, decide_eq_true_eq]
  exact ⟨h1, List.all_eq_true.2 h2, (incr_sorted d).2 h3⟩
/-! ### What the reference finds -/
theorem sorted_take {d : Ds} (h : Sorted d) (k : Bs) : d.take (atD d k) = d.filter (fun r => ltB r.1 k) := by
  induction d with
  | nil => rfl
  | cons r d ih =>
    obtain ⟨h1, h2⟩ := List.pairwise_cons.1 h
    rw [atD_cons, List.filter_cons]
    cases e : ltB r.1 k with
    | true => simp [ih h2]
    | false =>
      simp only [Bool.false_eq_true, if_false, List.take_zero]
      symm
      rw [List.filter_eq_nil_iff]
      intro x hx
      have := ltB_of_le_lt (c := x.1) (a := k) (b := r.1) e (h1 x hx)
      rw [ltB_asymm this]
      simp
theorem sorted_drop {d : Ds} (h : Sorted d) (k : Bs) : d.drop (atD d k) = d.filter (fun r => !ltB r.1 k) := by
  induction d with
  | nil => rfl
  | cons r d ih =>
    obtain ⟨h1, h2⟩ := List.pairwise_cons.1 h
    rw [atD_cons, List.filter_cons]
    cases e : ltB r.1 k with
    | true => simp [ih h2]
    | false =>
      simp only [Bool.false_eq_true, if_false, List.drop_zero, Bool.not_false, if_true]
      congr 1
      symm
      rw [List.filter_eq_self]
      intro x hx
      have := ltB_of_le_lt (c := x.1) (a := k) (b := r.1) e (h1 x hx)
      rw [ltB_asymm this]
      rfl
theorem hasD_iff {d : Ds} (h : Sorted d) (k : Bs) : hasD d k = true ↔ ∃ r ∈ d, r.1 = k := by
  induction d with
  | nil => simp [hasD, keyAt]
  | cons r d ih =>
    obtain ⟨h1, h2⟩ := List.pairwise_cons.1 h
    unfold hasD keyAt at ih ⊢
    rw [atD_cons]
    cases e : ltB r.1 k with
    | true =>
      simp only [if_true, List.getElem?_cons_succ]
      rw [ih h2]
      constructor
      · rintro ⟨x, hx, hk⟩; exact ⟨x, List.mem_cons_of_mem _ hx, hk⟩
      · rintro ⟨x, hx, hk⟩
        rcases List.mem_cons.1 hx with rfl | hx
        · rw [hk, ltB_irrefl] at e; cases e
        · exact ⟨x, hx, hk⟩
    | false =>
      simp only [Bool.false_eq_true, if_false, List.getElem?_cons_zero, beq_iff_eq]
      constructor
      · intro hk; exact ⟨r, List.mem_cons_self .., hk⟩
      · rintro ⟨x, hx, hk⟩
        rcases List.mem_cons.1 hx with rfl | hx
        · exact hk
        · have := h1 x hx
          rw [hk, e] at this; cases this
theorem hasD_at {d : Ds} {k : Bs} (h : hasD d k = true) : ∃ s, d[atD d k]? = some (k, s) := by
  unfold hasD keyAt at h
  split at h
  · rename_i r hr
    rw [beq_iff_eq] at h
    exact ⟨r.2, by rw [hr, ← h]⟩
  · cases h
theorem hasD_no {d : Ds} (hs : Sorted d) {k : Bs} (h : hasD d k = false) {r : Rec} (hr : r ∈ d) : r.1 ≠ k := fun e => by
  have := (hasD_iff hs k).2 ⟨r, hr, e⟩
  rw [h] at this; cases this
end Go.Proofs.YtifcgimpgbeocaaGreat
/- Plain: what Read, Next, Write, Rewrite, Delete and Apply answer, in the program's way and in the reference's. -/
set_option linter.unusedVariables false
set_option linter.unusedSimpArgs false
namespace Go.Proofs.YtifcgimpgbeocaaGreat
open Go.RowKit
/-! ### The parts of a dataset at a key -/
theorem split_has {d : Ds} (hs : Sorted d) {k : Bs} (h : hasD d k = true) : ∃ (A : Ds) (s : Bs) (C : Ds), d = A ++ (k, s) :: C ∧ atD d k = A.length ∧ (∀ x ∈ A, ltB x.1 k = true) ∧ (∀ x ∈ C, ltB k x.1 = true) := by
  obtain ⟨s, hk⟩ := hasD_at h
  have hlt : atD d k < d.length := (List.getElem?_eq_some_iff.1 hk).1
  have h3 : d.drop (atD d k) = (k, s) :: d.drop (atD d k + 1) := by
    rw [List.drop_eq_getElem_cons hlt]
    rw [(List.getElem?_eq_some_iff.1 hk).2]
  refine ⟨d.take (atD d k), s, d.drop (atD d k + 1), by rw [← h3, List.take_append_drop], by rw [List.length_take]; omega, fun x hx => ?_, fun x hx => ?_⟩
  · rw [sorted_take hs k] at hx
    exact (List.mem_filter.1 hx).2
  · have hp : Sorted (d.drop (atD d k)) := List.Pairwise.sublist (List.drop_sublist _ _) hs
    rw [h3] at hp
    exact (List.pairwise_cons.1 hp).1 x hx
theorem split_no {d : Ds} (hs : Sorted d) {k : Bs} (h : hasD d k = false) : ∃ (A C : Ds), d = A ++ C ∧ atD d k = A.length ∧ (∀ x ∈ A, ltB x.1 k = true) ∧ (∀ x ∈ C, ltB k x.1 = true) := by
  refine ⟨d.take (atD d k), d.drop (atD d k), by rw [List.take_append_drop], by rw [List.length_take]; have := atD_le d k; omega, fun x hx => ?_, fun x hx => ?_⟩
  · rw [sorted_take hs k] at hx
    exact (List.mem_filter.1 hx).2
  · have hm : x ∈ d := List.mem_of_mem_drop hx
    rw [sorted_drop hs k] at hx
    have h1 : ltB x.1 k = false := by simpa using (List.mem_filter.1 hx).2
    cases e : ltB k x.1 with
    | true => rfl
    | false => exact absurd (ltB_tri h1 e) (hasD_no hs h hm)
theorem ne_of_ltB {a b : Bs} (h : ltB a b = true) : a ≠ b := fun e => by rw [e, ltB_irrefl] at h; cases h
section
variable {A : Ds} {k : Bs}
theorem fa_lt (h : ∀ x ∈ A, ltB x.1 k = true) : A.filter (fun r => ltB r.1 k) = A := List.filter_eq_self.2 h
theorem fa_gt (h : ∀ x ∈ A, ltB x.1 k = true) : A.filter (fun r => ltB k r.1) = [] := List.filter_eq_nil_iff.2 fun x hx => by rw [ltB_asymm (h x hx)]; simp
theorem fa_ne (h : ∀ x ∈ A, ltB x.1 k = true) : A.filter (fun r => r.1 != k) = A := List.filter_eq_self.2 fun x hx => by simpa using ne_of_ltB (h x hx)
theorem fc_gt (h : ∀ x ∈ A, ltB k x.1 = true) : A.filter (fun r => ltB k r.1) = A := List.filter_eq_self.2 h
theorem fc_lt (h : ∀ x ∈ A, ltB k x.1 = true) : A.filter (fun r => ltB r.1 k) = [] := List.filter_eq_nil_iff.2 fun x hx => by rw [ltB_asymm (h x hx)]; simp
theorem fc_ne (h : ∀ x ∈ A, ltB k x.1 = true) : A.filter (fun r => r.1 != k) = A := List.filter_eq_self.2 fun x hx => by simpa using (ne_of_ltB (h x hx)).symm
end
/-! ### The changes -/
def insD (d : Ds) (r : Rec) : Ds := d.take (atD d r.1) ++ r :: d.drop (atD d r.1)
def withoutR (d : Ds) (k : Bs) : Ds := d.filter (fun r => r.1 != k)
def withR (d : Ds) (r : Rec) : Ds := d.filter (fun x => ltB x.1 r.1) ++ [r] ++ d.filter (fun x => ltB r.1 x.1)
theorem without_no {d : Ds} {k : Bs} (hs : Sorted d) (h : hasD d k = false) : withoutR d k = d := by
  unfold withoutR
  rw [List.filter_eq_self]
  intro x hx
  simpa using hasD_no hs h hx
theorem without_has {d : Ds} {k : Bs} (hs : Sorted d) (h : hasD d k = true) : withoutR d k = d.eraseIdx (atD d k) := by
  obtain ⟨A, s, C, he, hl, hA, hC⟩ := split_has hs h
  rw [hl, he]
  unfold withoutR
  rw [List.eraseIdx_append_of_length_le (Nat.le_refl _), List.filter_append, List.filter_cons, fa_ne hA, fc_ne hC]
  simp
theorem there_iff {d : Ds} {k : Bs} (hs : Sorted d) : decide ((withoutR d k).length < d.length) = hasD d k := by
  cases h : hasD d k with
  | false => rw [without_no hs h]; simp
  | true =>
    obtain ⟨s, hk⟩ := hasD_at h
    have hlt : atD d k < d.length := (List.getElem?_eq_some_iff.1 hk).1
    rw [without_has hs h, List.length_eraseIdx, if_pos hlt]
    simp; omega
theorem with_no {d : Ds} {r : Rec} (hs : Sorted d) (h : hasD d r.1 = false) : withR d r = insD d r := by
  obtain ⟨A, C, he, hl, hA, hC⟩ := split_no hs h
  unfold withR insD
  rw [hl, he, List.filter_append, List.filter_append, fa_lt hA, fc_lt hC, fa_gt hA, fc_gt hC]
  simp
theorem with_set {d : Ds} {r : Rec} (hs : Sorted d) (h : hasD d r.1 = true) : withR (withoutR d r.1) r = d.set (atD d r.1) r := by
  obtain ⟨A, s, C, he, hl, hA, hC⟩ := split_has hs h
  rw [hl, he]
  unfold withR withoutR
  rw [List.set_append_right _ _ (Nat.le_refl _), List.filter_append, List.filter_cons, fa_ne hA, fc_ne hC]
  simp only [bne_self_eq_false, Bool.false_eq_true, if_false, List.filter_append]
  rw [fa_lt hA, fc_lt hC, fa_gt hA, fc_gt hC]
  simp
theorem ins_sorted {d : Ds} {r : Rec} (hs : Sorted d) (h : hasD d r.1 = false) : Sorted (insD d r) := by
  rw [← with_no hs h]
  unfold withR Sorted
  rw [List.append_assoc, List.singleton_append]
  refine List.pairwise_append.2 ⟨hs.filter _, List.pairwise_cons.2 ⟨fun x hx => (List.mem_filter.1 hx).2, hs.filter _⟩, fun x hx y hy => ?_⟩
  have h1 := (List.mem_filter.1 hx).2
  rcases List.mem_cons.1 hy with rfl | hy
  · exact h1
  · exact ltB_trans h1 (List.mem_filter.1 hy).2
theorem erase_sorted {d : Ds} (hs : Sorted d) (i : Nat) : Sorted (d.eraseIdx i) := List.Pairwise.sublist (List.eraseIdx_sublist _ _) hs
theorem set_sorted {d : Ds} {i : Nat} {k s t : Bs} (hs : Sorted d) (hi : d[i]? = some (k, s)) : Sorted (d.set i (k, t)) := by
  have e : ∀ j (h : j < (d.set i (k, t)).length), ((d.set i (k, t))[j]).1 = (d[j]'(by simpa using h)).1 := by
    intro j h
    rw [List.getElem_set]
    split
    · rename_i hij
      subst hij
      rw [(List.getElem?_eq_some_iff.1 hi).2]
    · rfl
  unfold Sorted
  rw [List.pairwise_iff_getElem]
  intro a b ha hb hab
  rw [e a ha, e b hb]
  exact List.pairwise_iff_getElem.1 hs a b _ _ hab
/-! ### What is found -/
def nextI (d : Ds) (k : Bs) : Nat := atD d k + (if hasD d k then 1 else 0)
theorem find_gt : ∀ {C : Ds} {k : Bs}, (∀ x ∈ C, ltB k x.1 = true) → C.find? (fun r => ltB k r.1) = C[0]?
  | [], _, _ => rfl
  | a :: l, k, h => by rw [List.find?_cons, h a (List.mem_cons_self ..)]; rfl
theorem find_lt {A : Ds} {k : Bs} (h : ∀ x ∈ A, ltB x.1 k = true) : A.find? (fun r => ltB k r.1) = none := by
  rw [List.find?_eq_none]
  intro x hx
  rw [ltB_asymm (h x hx)]; simp
theorem find_next {d : Ds} {k : Bs} (hs : Sorted d) : d.find? (fun r => ltB k r.1) = d[nextI d k]? := by
  unfold nextI
  cases h : hasD d k with
  | true =>
    obtain ⟨A, s, C, he, hl, hA, hC⟩ := split_has hs h
    rw [hl, he, List.find?_append, find_lt hA, Option.none_or, List.find?_cons, ltB_irrefl, find_gt hC, List.getElem?_append_right (by simp)]
    simp
  | false =>
    obtain ⟨A, C, he, hl, hA, hC⟩ := split_no hs h
    rw [hl, he, List.find?_append, find_lt hA, Option.none_or, find_gt hC, List.getElem?_append_right (by simp)]
    simp
theorem without_empty {d : Ds} (h : isDs d = true) : withoutR d [] = d := by
  unfold withoutR
  rw [List.filter_eq_self]
  intro x hx
  have := isDs_rec h hx
  unfold isRec isKey at this
  simp only [Bool.and_eq_true, decide_eq_true_eq] at this
  simp only [bne_iff_ne, ne_eq]
  intro e
  rw [e] at this
  simp at this
/-! ### The answers -/
def readD (d : Ds) (k : Bs) : Bs × Int :=
  if isDs d then (if isKey k then (if hasD d k then (((d[atD d k]?).getD ([], [])).2, 0) else ([], 4)) else ([], 1)) else ([], 140)
def nextD (d : Ds) (k : Bs) : Rec × Int :=
  if isDs d then (if k.length ≤ 16 then (if nextI d k < d.length then ((d[nextI d k]?).getD ([], []), 0) else (([], []), 4)) else (([], []), 1)) else (([], []), 140)
def writeD (d : Ds) (r : Rec) : Ds × Int :=
  if isDs d then (if isRec r then (if hasD d r.1 then ([], 141) else if d.length = 64 then ([], 2) else (insD d r, 0)) else ([], 1)) else ([], 140)
def rewriteD (d : Ds) (r : Rec) : Ds × Int :=
  if isDs d then (if isRec r then (if hasD d r.1 then (d.set (atD d r.1) r, 0) else ([], 4)) else ([], 1)) else ([], 140)
def deleteD (d : Ds) (k : Bs) : Ds × Int :=
  if isDs d then (if isKey k then (if hasD d k then (d.eraseIdx (atD d k), 0) else ([], 4)) else ([], 1)) else ([], 140)
def isOp (o : FOp) : Bool :=
  decide (1 ≤ o.1 ∧ o.1 ≤ 5) && (decide (0 ≤ o.2.1 ∧ o.2.1 ≤ 7) && ((if o.1 = 2 then decide (o.2.2.1.length ≤ 16) else isKey o.2.2.1) && (if o.1 = 3 ∨ o.1 = 4 then decide (o.2.2.2.length ≤ 255) else o.2.2.2.isEmpty)))
def chg (o : FOp) : Bool := decide (3 ≤ o.1 ∧ o.1 ≤ 5) && isOp o
/-- What Apply answers: by the kind of the operation. -/
def applyD (d : Ds) (o : FOp) : Ds × Rec × Int :=
  if isDs d then (if isOp o then
    (if o.1 = 1 then (if (readD d o.2.2.1).2 = 0 then (d, (o.2.2.1, (readD d o.2.2.1).1), 0) else ([], ([], []), (readD d o.2.2.1).2))
     else if o.1 = 2 then (if (nextD d o.2.2.1).2 = 0 then (d, (nextD d o.2.2.1).1, 0) else ([], ([], []), (nextD d o.2.2.1).2))
     else if o.1 = 3 then ((writeD d o.2.2).1, ([], []), (writeD d o.2.2).2)
     else if o.1 = 4 then ((rewriteD d o.2.2).1, ([], []), (rewriteD d o.2.2).2)
     else ((deleteD d o.2.2.1).1, ([], []), (deleteD d o.2.2.1).2)) else ([], ([], []), 1)) else ([], ([], []), 140)
end Go.Proofs.YtifcgimpgbeocaaGreat
/- Plain: a dataset as what is found at each key; Diff; operations that can be exchanged. -/
set_option linter.unusedVariables false
set_option linter.unusedSimpArgs false
namespace Go.Proofs.YtifcgimpgbeocaaGreat
open Go.RowKit
/-- The data at a key. -/
def look (d : Ds) (k : Bs) : Option Bs := (d.find? (fun r => r.1 == k)).map (·.2)
theorem look_cons (r : Rec) (d : Ds) (k : Bs) : look (r :: d) k = if r.1 = k then some r.2 else look d k := by
  unfold look
  rw [List.find?_cons]
  by_cases h : r.1 = k
  · simp [h]
  · have : (r.1 == k) = false := by simpa using h
    simp [this, h]
theorem look_some {d : Ds} {k s : Bs} (h : look d k = some s) : (k, s) ∈ d := by
  unfold look at h
  rw [Option.map_eq_some_iff] at h
  obtain ⟨r, h1, h2⟩ := h
  have h3 := List.find?_some h1
  have h4 := List.mem_of_find?_eq_some h1
  have e : r = (k, s) := by rw [Prod.ext_iff]; exact ⟨by simpa using h3, h2⟩
  rw [← e]; exact h4
theorem look_none {d : Ds} {k : Bs} : look d k = none ↔ ∀ r ∈ d, r.1 ≠ k := by
  unfold look
  rw [Option.map_eq_none_iff, List.find?_eq_none]
  simp
theorem look_mem {d : Ds} (hs : Sorted d) {k s : Bs} (h : (k, s) ∈ d) : look d k = some s := by
  induction d with
  | nil => cases h
  | cons r d ih =>
    obtain ⟨h1, h2⟩ := List.pairwise_cons.1 hs
    rw [look_cons]
    rcases List.mem_cons.1 h with rfl | h
    · simp
    · have := ne_of_ltB (h1 _ h)
      rw [if_neg this]
      exact ih h2 h
theorem look_has {d : Ds} (hs : Sorted d) (k : Bs) : hasD d k = (look d k).isSome := by
  rw [Bool.eq_iff_iff, hasD_iff hs, Option.isSome_iff_exists]
  constructor
  · rintro ⟨r, hr, rfl⟩; exact ⟨r.2, look_mem hs hr⟩
  · rintro ⟨s, h⟩; exact ⟨_, look_some h, rfl⟩
theorem look_at {d : Ds} (hs : Sorted d) {k s : Bs} : d[atD d k]? = some (k, s) ↔ look d k = some s := by
  constructor
  · intro h; exact look_mem hs (List.mem_of_getElem? h)
  · intro h
    have h1 : hasD d k = true := by rw [look_has hs, h]; rfl
    obtain ⟨t, ht⟩ := hasD_at h1
    have h2 := look_mem hs (List.mem_of_getElem? ht)
    rw [h] at h2
    cases h2
    exact ht
/-! ### What the changes make of what is found -/
/-! ### Keys as lists -/
end Go.Proofs.YtifcgimpgbeocaaGreat
/- Plain: Diff: what it returns, what it makes, how long it is. -/
set_option linter.unusedVariables false
set_option linter.unusedSimpArgs false
namespace Go.Proofs.YtifcgimpgbeocaaGreat
open Go.RowKit
/-! ### One operation of each kind -/
theorem ins_isDs {d : Ds} {r : Rec} (h : isDs d = true) (hr : isRec r = true) (hh : hasD d r.1 = false) (hl : d.length < 64) : isDs (insD d r) = true := by
  have hs := isDs_sorted h
  refine isDs_mk ?_ ?_ (ins_sorted hs hh)
  · unfold insD
    simp only [List.length_append, List.length_cons, List.length_take, List.length_drop]
    have := atD_le d r.1
    omega
  · intro x hx
    unfold insD at hx
    rcases List.mem_append.1 hx with hx | hx
    · exact isDs_rec h (List.mem_of_mem_take hx)
    · rcases List.mem_cons.1 hx with rfl | hx
      · exact hr
      · exact isDs_rec h (List.mem_of_mem_drop hx)
theorem erase_isDs {d : Ds} (h : isDs d = true) (i : Nat) : isDs (d.eraseIdx i) = true :=
  isDs_mk (by have := isDs_len h; have := (List.eraseIdx_sublist d i).length_le; omega) (fun x hx => isDs_rec h (List.mem_of_mem_eraseIdx hx)) (erase_sorted (isDs_sorted h) i)
theorem set_isDs {d : Ds} {r : Rec} (h : isDs d = true) (hr : isRec r = true) (hh : hasD d r.1 = true) : isDs (d.set (atD d r.1) r) = true := by
  obtain ⟨s, hk⟩ := hasD_at hh
  refine isDs_mk (by rw [List.length_set]; exact isDs_len h) (fun x hx => ?_) (set_sorted (t := r.2) (isDs_sorted h) hk)
  rcases List.mem_or_eq_of_mem_set hx with hx | rfl
  · exact isDs_rec h hx
  · exact hr
/-! ### What Diff makes -/
/-! ### How long it is -/
end Go.Proofs.YtifcgimpgbeocaaGreat
/- Plain: operations with different keys can be exchanged. -/
set_option linter.unusedVariables false
set_option linter.unusedSimpArgs false
namespace Go.Proofs.YtifcgimpgbeocaaGreat
open Go.RowKit
theorem isOp_kinds {o : FOp} (h : isOp o = true) : 1 ≤ o.1 ∧ o.1 ≤ 5 := by
  unfold isOp at h
  simp only [Bool.and_eq_true, decide_eq_true_eq] at h
  exact h.1
theorem readD_look {d : Ds} {k : Bs} (hd : isDs d = true) (hk : isKey k = true) : readD d k = match look d k with | some s => (s, 0) | none => ([], 4) := by
  have hs := isDs_sorted hd
  unfold readD
  rw [if_pos hd, if_pos hk, look_has hs]
  cases e : look d k with
  | none => rfl
  | some s => rw [(look_at hs).2 e]; rfl
end Go.Proofs.YtifcgimpgbeocaaGreat
/- Plain: operations as bytes, and back. -/
set_option linter.unusedVariables false
set_option linter.unusedSimpArgs false
namespace Go.Proofs.YtifcgimpgbeocaaGreat
open Go.RowKit
def b8 (n : Int) : UInt8 := UInt8.ofNat (n % 256).toNat
theorem b8_nat {n : Int} (h0 : 0 ≤ n) (h1 : n < 256) : ((b8 n).toNat : Int) = n := by
  unfold b8
  rw [UInt8.toNat_ofNat']
  omega
theorem b8_len {n : Nat} (h1 : n < 256) : (b8 n).toNat = n := by have := b8_nat (n := n) (by omega) (by omega); omega
theorem b8_of (b : UInt8) : b8 (b.toNat : Int) = b := by
  unfold b8
  have := b.toNat_lt
  rw [show ((b.toNat : Int) % 256).toNat = b.toNat by omega]
  exact UInt8.ofNat_toNat
def enc1 (o : FOp) : Bs := b8 o.1 :: b8 o.2.1 :: b8 o.2.2.1.length :: (o.2.2.1 ++ (if o.1 = 5 then [] else b8 o.2.2.2.length :: o.2.2.2))
def encL (l : List FOp) : Bs := l.flatMap enc1
/-- One operation taken off the bytes; whether it is one that changes is not asked. -/
def dec1 : Bs → Option (FOp × Bs)
  | k :: f :: n :: r =>
    if n.toNat ≤ r.length then
      (if k.toNat = 5 then some (((k.toNat : Int), (f.toNat : Int), r.take n.toNat, []), r.drop n.toNat)
       else match r.drop n.toNat with
        | m :: q => if m.toNat ≤ q.length then some (((k.toNat : Int), (f.toNat : Int), r.take n.toNat, q.take m.toNat), q.drop m.toNat) else none
        | [] => none)
    else none
  | _ => none
theorem dec1_cons (k f n : UInt8) (r : Bs) : dec1 (k :: f :: n :: r) = if n.toNat ≤ r.length then
      (if k.toNat = 5 then some (((k.toNat : Int), (f.toNat : Int), r.take n.toNat, []), r.drop n.toNat)
       else match r.drop n.toNat with
        | m :: q => if m.toNat ≤ q.length then some (((k.toNat : Int), (f.toNat : Int), r.take n.toNat, q.take m.toNat), q.drop m.toNat) else none
        | [] => none)
    else none := rfl
def decF : Nat → Bs → Option (List FOp)
  | _, [] => some []
  | 0, _ :: _ => none
  | f + 1, c :: s => match dec1 (c :: s) with
    | some (o, r) => if chg o = true then (decF f r).map (o :: ·) else none
    | none => none
def decL (s : Bs) : Option (List FOp) := decF s.length s
def decodeD (s : Bs) : List FOp × Int := if s.length ≤ 131072 then (match decL s with | some l => (l, 0) | none => ([], 145)) else ([], 145)
theorem encL_cons (o : FOp) (l : List FOp) : encL (o :: l) = enc1 o ++ encL l := rfl
theorem encL_append (l m : List FOp) : encL (l ++ m) = encL l ++ encL m := by unfold encL; exact List.flatMap_append
theorem chg_kinds {o : FOp} (h : chg o = true) : 3 ≤ o.1 ∧ o.1 ≤ 5 := by
  unfold chg at h
  simp only [Bool.and_eq_true, decide_eq_true_eq] at h
  exact h.1
theorem chg_op {o : FOp} (h : chg o = true) : isOp o = true := by
  unfold chg at h
  simp only [Bool.and_eq_true] at h
  exact h.2
theorem chg_parts {o : FOp} (h : chg o = true) : (3 ≤ o.1 ∧ o.1 ≤ 5) ∧ (0 ≤ o.2.1 ∧ o.2.1 ≤ 7) ∧ (1 ≤ o.2.2.1.length ∧ o.2.2.1.length ≤ 16) ∧ o.2.2.2.length ≤ 255 ∧ (o.1 = 5 → o.2.2.2 = []) := by
  have hk := chg_kinds h
  have ho := chg_op h
  unfold isOp isKey at ho
  rw [if_neg (show ¬ o.1 = 2 by omega)] at ho
  simp only [Bool.and_eq_true, decide_eq_true_eq] at ho
  obtain ⟨-, h2, h3, h4⟩ := ho
  refine ⟨hk, h2, h3, ?_, fun h5 => ?_⟩
  · split at h4
    · simpa using h4
    · rw [List.isEmpty_iff.1 h4]; simp
  · rw [if_neg (by omega)] at h4
    exact List.isEmpty_iff.1 h4
theorem enc1_len {o : FOp} (h : chg o = true) : (enc1 o).length = 3 + o.2.2.1.length + (if o.1 = 5 then 0 else 1 + o.2.2.2.length) := by
  unfold enc1
  split <;> simp <;> omega
theorem dec_enc1 {o : FOp} (h : chg o = true) (r : Bs) : dec1 (enc1 o ++ r) = some (o, r) := by
  obtain ⟨⟨k1, k2⟩, ⟨f1, f2⟩, ⟨n1, n2⟩, hd, h5⟩ := chg_parts h
  have ek := b8_nat (n := o.1) (by omega) (by omega)
  have ef := b8_nat (n := o.2.1) (by omega) (by omega)
  have en := b8_len (n := o.2.2.1.length) (by omega)
  have em := b8_len (n := o.2.2.2.length) (by omega)
  unfold enc1
  simp only [List.cons_append]
  rw [dec1_cons, en, ek, ef]
  by_cases c : o.1 = 5
  · have e5 : (b8 o.1).toNat = 5 := by omega
    have h5' := h5 c
    simp only [if_pos c, List.append_nil]
    rw [if_pos (by simp), if_pos e5]
    simp only [List.take_left', List.drop_left', List.take_left, List.drop_left]
    congr 1
    rw [Prod.ext_iff]
    refine ⟨?_, rfl⟩
    obtain ⟨a, b, c', d⟩ := o
    simp only at h5' ⊢
    rw [h5']
  · have e5 : ¬ (b8 o.1).toNat = 5 := by omega
    simp only [if_neg c]
    rw [if_pos (by simp), if_neg e5, List.append_assoc, List.drop_left, List.take_left]
    simp only [List.cons_append]
    rw [em, if_pos (by simp), List.take_left, List.drop_left]
theorem dec_len {s r : Bs} {o : FOp} (h : dec1 s = some (o, r)) : r.length + 3 ≤ s.length := by
  unfold dec1 at h
  split at h
  · split at h
    · split at h
      · simp only [Option.some.injEq, Prod.mk.injEq] at h
        rw [← h.2]
        simp
      · split at h
        · rename_i hdr
          split at h
          · simp only [Option.some.injEq, Prod.mk.injEq] at h
            have := congrArg List.length hdr
            rw [← h.2]
            simp at this ⊢
            omega
          · cases h
        · cases h
    · cases h
  · cases h
theorem enc_dec1 {s r : Bs} {o : FOp} (h : dec1 s = some (o, r)) : s = enc1 o ++ r := by
  unfold dec1 at h
  split at h
  · rename_i k f n q
    split at h
    · rename_i hn
      have hq : (b8 ((q.take n.toNat).length : Int)) = n := by
        rw [List.length_take, Nat.min_eq_left hn]; exact b8_of n
      split at h
      · rename_i h5
        simp only [Option.some.injEq, Prod.mk.injEq] at h
        obtain ⟨rfl, rfl⟩ := h
        unfold enc1
        simp only
        rw [hq, b8_of, b8_of, if_pos (by omega)]
        simp
      · rename_i h5
        split at h
        · rename_i m p hdr
          split at h
          · rename_i hm
            simp only [Option.some.injEq, Prod.mk.injEq] at h
            obtain ⟨rfl, rfl⟩ := h
            have hm' : (b8 ((p.take m.toNat).length : Int)) = m := by
              rw [List.length_take, Nat.min_eq_left hm]; exact b8_of m
            unfold enc1
            simp only
            rw [hq, hm', b8_of, b8_of, if_neg (by omega)]
            simp only [List.cons_append, List.append_assoc, List.take_append_drop]
            rw [← hdr, List.take_append_drop]
          · cases h
        · cases h
    · cases h
  · cases h
theorem decF_fuel : ∀ (f g : Nat) (s : Bs), s.length ≤ f → s.length ≤ g → decF f s = decF g s
  | 0, 0, s, _, _ => rfl
  | 0, g + 1, s, hf, hg => by
    cases s with
    | nil => rfl
    | cons c s => simp at hf
  | f + 1, 0, s, hf, hg => by
    cases s with
    | nil => rfl
    | cons c s => simp at hg
  | f + 1, g + 1, s, hf, hg => by
    cases s with
    | nil => rfl
    | cons c s =>
      unfold decF
      cases hd : dec1 (c :: s) with
      | none => rfl
      | some x =>
        obtain ⟨o, r⟩ := x
        have := dec_len hd
        simp only [List.length_cons] at this hf hg
        simp only
        rw [decF_fuel f g r (by omega) (by omega)]
theorem decL_nil : decL [] = some [] := rfl
theorem decL_cons (c : UInt8) (s : Bs) : decL (c :: s) = match dec1 (c :: s) with
    | some (o, r) => if chg o = true then (decL r).map (o :: ·) else none
    | none => none := by
  unfold decL
  conv => lhs; unfold decF
  simp only [List.length_cons]
  cases hd : dec1 (c :: s) with
  | none => rfl
  | some x =>
    obtain ⟨o, r⟩ := x
    have := dec_len hd
    simp only [List.length_cons] at this
    simp only
    rw [decF_fuel s.length r.length r (by omega) (Nat.le_refl _)]
theorem enc1_ne (o : FOp) : ∃ c t, enc1 o = c :: t := ⟨_, _, rfl⟩
theorem decL_step {o : FOp} (h : chg o = true) (r : Bs) : decL (enc1 o ++ r) = (decL r).map (o :: ·) := by
  obtain ⟨c, t, e⟩ := enc1_ne o
  have hd := dec_enc1 h r
  rw [e, List.cons_append] at hd ⊢
  rw [decL_cons, hd]
  simp only [h, if_true]
theorem decL_enc : ∀ {l : List FOp}, (∀ o ∈ l, chg o = true) → decL (encL l) = some l
  | [], _ => rfl
  | o :: l, h => by
    rw [encL_cons, decL_step (h o (List.mem_cons_self ..)), decL_enc fun x hx => h x (List.mem_cons_of_mem _ hx)]
    rfl
theorem enc_decL : ∀ (n : Nat) (s : Bs) (l : List FOp), s.length ≤ n → decL s = some l → encL l = s ∧ ∀ o ∈ l, chg o = true
  | n, [], l, _, h => by
    rw [decL_nil] at h
    cases h
    exact ⟨rfl, fun o ho => by cases ho⟩
  | 0, c :: s, l, hn, h => by simp at hn
  | n + 1, c :: s, l, hn, h => by
    rw [decL_cons] at h
    split at h
    · rename_i o r hd
      split at h
      · rename_i hc
        rw [Option.map_eq_some_iff] at h
        obtain ⟨m, h1, rfl⟩ := h
        have := dec_len hd
        simp only [List.length_cons] at this hn
        obtain ⟨e1, e2⟩ := enc_decL n r m (by omega) h1
        refine ⟨by rw [encL_cons, e1, ← enc_dec1 hd], fun x hx => ?_⟩
        rcases List.mem_cons.1 hx with rfl | hx
        · exact hc
        · exact e2 x hx
      · cases h
    · cases h
end Go.Proofs.YtifcgimpgbeocaaGreat
