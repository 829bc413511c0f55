/- What R.Build, R.Alloc and R.Free answer, in plain Lean, and that this is what the layout says. -/
import Derived.Test.YtcfmimfkaabmkaaD3
set_option linter.unusedVariables false
set_option linter.unusedSimpArgs false
namespace Go.Proofs.Ytcfmimfkaabmkaa
open Go.RowKit
attribute [local irreducible] num
/-- The units of allocations, behind the units u. -/
def buildUnits : Bool → List UInt8 → List (Int × List UInt8) → Option (List UInt8)
  | _, u, [] => some u
  | first, u, (a, t) :: r =>
    if a < 16 ∨ 8192 < a ∨ a % 8 ≠ 0 ∨ a - 16 - (u.length : Int) < 0 ∨ (first = true ∧ a - 16 - (u.length : Int) = 8) then none
    else if 8192 < 8 + (u ++ (gapB (a - 16 - (u.length : Int)).toNat ++ usedB t)).length then none
    else buildUnits false (u ++ (gapB (a - 16 - (u.length : Int)).toNat ++ usedB t)) r
def layOf (its : List (Int × List UInt8)) : Lay := its.map (fun x => (x.1.toNat, x.2))
theorem buildUnits_spec : ∀ (its : List (Int × List UInt8)) (first : Bool) (u : List UInt8) (e : Nat), u.length + 8 = e → e % 8 = 0 → e ≤ 8192 → (∀ x ∈ its, 1 ≤ x.2.length) →
    buildUnits first u its = if ok first e (layOf its) ∧ endOf e (layOf its) ≤ 8192 then some (u ++ enc e (layOf its)) else none
  | [], first, u, e, hu, he, h81, _ => by simp [buildUnits, layOf, ok, endOf, enc, h81]
  | (a, t) :: r, first, u, e, hu, he, h81, hs => by
    have h1 : 1 ≤ t.length := hs (a, t) (List.mem_cons_self ..)
    have hub := upN_bd t.length
    have hu8 := upN_8 t.length
    unfold buildUnits
    by_cases hbad : a < 16 ∨ 8192 < a ∨ a % 8 ≠ 0 ∨ a - 16 - (u.length : Int) < 0 ∨ (first = true ∧ a - 16 - (u.length : Int) = 8)
    · rw [if_pos hbad, if_neg]
      rintro ⟨hok, hend⟩
      simp only [layOf, List.map_cons, ok, endOf] at hok hend
      obtain ⟨k1, k2, k3, k4, k5⟩ := hok
      have := endOf_ge k5
      rcases hbad with h | h | h | h | ⟨h, h'⟩
      · omega
      · omega
      · omega
      · omega
      · exact k3 h (by omega)
    · rw [if_neg hbad]
      have hbad' : 16 ≤ a ∧ a ≤ 8192 ∧ a % 8 = 0 ∧ 0 ≤ a - 16 - (u.length : Int) := by omega
      have hfirst : first = true → a.toNat ≠ e + 16 := fun h h' => hbad (.inr (.inr (.inr (.inr ⟨h, by omega⟩))))
      obtain ⟨p, rfl⟩ := Int.eq_ofNat_of_zero_le (show 0 ≤ a by omega)
      have hg : ((p : Int) - 16 - (u.length : Int)).toNat = p - 8 - e := by omega
      have hg8 : p - 8 - e = 0 ∨ 8 ≤ p - 8 - e := by omega
      have hlen : (u ++ (gapB (p - 8 - e) ++ usedB t)).length = p + upN t.length - 8 := by
        rw [List.length_append, List.length_append, gapB_length _ hg8, usedB_length]; omega
      rw [hg, hlen]
      by_cases hbig : 8192 < 8 + (p + upN t.length - 8)
      · rw [if_pos hbig, if_neg]
        rintro ⟨hok, hend⟩
        simp only [layOf, List.map_cons, ok, endOf] at hok hend
        obtain ⟨k1, k2, k3, k4, k5⟩ := hok
        have := endOf_ge k5
        simp only [Int.toNat_natCast] at this hend
        omega
      · rw [if_neg hbig, buildUnits_spec r false _ (p + upN t.length) (by omega) (by omega) (by omega) (fun x hx => hs x (List.mem_cons_of_mem _ hx))]
        have e1 : layOf (((p : Int), t) :: r) = (p, t) :: layOf r := by simp [layOf]
        rw [e1]
        have e2 : enc e ((p, t) :: layOf r) = gapB (p - 8 - e) ++ (usedB t ++ enc (p + upN t.length) (layOf r)) := rfl
        have e3 : endOf e ((p, t) :: layOf r) = endOf (p + upN t.length) (layOf r) := rfl
        rw [e2, e3]
        have hiff : ok first e ((p, t) :: layOf r) ↔ ok false (p + upN t.length) (layOf r) := by
          constructor
          · exact fun h => h.2.2.2.2
          · exact fun h => ⟨by omega, by omega, by simpa using hfirst, h1, h⟩
        by_cases hok : ok false (p + upN t.length) (layOf r) ∧ endOf (p + upN t.length) (layOf r) ≤ 8192
        · rw [if_pos hok, if_pos ⟨hiff.2 hok.1, hok.2⟩]; simp only [List.append_assoc]
        · rw [if_neg hok, if_neg (fun h => hok ⟨hiff.1 h.1, h.2⟩)]
def badSizes (ps : List (Int × Int)) (bs : List (List UInt8)) : Bool := (ps.zip bs).any (fun x => decide (x.1.2 < 1) || !decide ((x.2.length : Int) = x.1.2))
def itemsOf (ps : List (Int × Int)) (bs : List (List UInt8)) : List (Int × List UInt8) := (ps.zip bs).map (fun x => (x.1.1, x.2))
/-- What Build answers behind its units. -/
def buildF (n : Int) (c : Nat) : Option (List UInt8) → List UInt8 × Int
  | none => ([], 122)
  | some u => if n < 8 + (u.length : Int) then ([], 121) else (four u.length ++ (four c ++ (u ++ zs (n - 8 - (u.length : Int)).toNat)), 0)
/-- What Build answers. -/
def buildS (n : Int) (ps : List (Int × Int)) (bs : List (List UInt8)) : List UInt8 × Int :=
  if n < 16 ∨ 8192 < n ∨ ps.length ≠ bs.length then ([], 1)
  else if badSizes ps bs = true then ([], 1)
  else buildF n ps.length (buildUnits true [] (itemsOf ps bs))
/-- The offsets and sizes of allocations, and their bytes. -/
def psOf (its : List (Int × List UInt8)) : List (Int × Int) := its.map (fun x => (x.1, (x.2.length : Int)))
def bsOf (its : List (Int × List UInt8)) : List (List UInt8) := its.map (fun x => x.2)
theorem zip_its : ∀ (its : List (Int × List UInt8)), (psOf its).zip (bsOf its) = its.map (fun x => ((x.1, (x.2.length : Int)), x.2))
  | [] => rfl
  | x :: r => by have := zip_its r; simp only [psOf, bsOf, List.map_cons, List.zip_cons_cons] at this ⊢; rw [this]
theorem itemsOf_its (its : List (Int × List UInt8)) : itemsOf (psOf its) (bsOf its) = its := by
  unfold itemsOf; rw [zip_its, List.map_map]
  conv => rhs; rw [← List.map_id its]
  rfl
theorem badSizes_its (its : List (Int × List UInt8)) : badSizes (psOf its) (bsOf its) = its.any (fun x => decide (x.2.length < 1)) := by
  unfold badSizes; rw [zip_its, List.any_map]
  congr 1
  funext x
  simp only [Function.comp, decide_true, Bool.not_true, Bool.or_false, decide_eq_decide]
  omega
theorem psOf_length (its : List (Int × List UInt8)) : (psOf its).length = its.length := by simp [psOf]
theorem bsOf_length (its : List (Int × List UInt8)) : (bsOf its).length = its.length := by simp [bsOf]
/-- What Build answers at allocations whose sizes are those of their bytes. -/
theorem buildS_its (n : Nat) (h0 : 16 ≤ n) (h1 : n ≤ 8192) (its : List (Int × List UInt8)) :
    buildS n (psOf its) (bsOf its) = if its.any (fun x => decide (x.2.length < 1)) = true then ([], 1) else
      if ok true 8 (layOf its) ∧ endOf 8 (layOf its) ≤ 8192 then (if endOf 8 (layOf its) ≤ n then (render n (layOf its), 0) else ([], 121)) else ([], 122) := by
  unfold buildS
  rw [if_neg (by rw [psOf_length, bsOf_length]; omega), badSizes_its, itemsOf_its]
  by_cases hb : its.any (fun x => decide (x.2.length < 1)) = true
  · rw [if_pos hb, if_pos hb]
  · rw [if_neg hb, if_neg hb]
    have hs : ∀ x ∈ its, 1 ≤ x.2.length := fun x hx => by
      rcases Nat.lt_or_ge x.2.length 1 with h | h
      · exact absurd (List.any_eq_true.2 ⟨x, hx, by simpa using h⟩) hb
      · exact h
    rw [buildUnits_spec its true [] 8 rfl rfl (by omega) hs]
    by_cases hok : ok true 8 (layOf its) ∧ endOf 8 (layOf its) ≤ 8192
    · rw [if_pos hok, if_pos hok]
      have hl := enc_length (e := 8) rfl hok.1
      have hge := endOf_ge hok.1
      simp only [buildF, List.nil_append, hl, psOf_length]
      by_cases hn : endOf 8 (layOf its) ≤ n
      · rw [if_neg (by omega), if_pos hn]
        unfold render
        rw [show ((n : Int) - 8 - ((endOf 8 (layOf its) - 8 : Nat) : Int)).toNat = n - endOf 8 (layOf its) by omega]
        simp [layOf]
      · rw [if_pos (by omega), if_neg hn]
    · rw [if_neg hok, if_neg hok]; rfl
/-- A layout as the functions of R hold it. -/
def itsOf (lay : Lay) : List (Int × List UInt8) := lay.map (fun x => ((x.1 : Int), x.2))
theorem layOf_itsOf (lay : Lay) : layOf (itsOf lay) = lay := by
  unfold layOf itsOf; rw [List.map_map]
  conv => rhs; rw [← List.map_id lay]
  rfl
theorem ok_pos : ∀ (lay : Lay) (b : Bool) (e : Nat), ok b e lay → ∀ x ∈ lay, 1 ≤ x.2.length
  | [], _, _, _, x, hx => by cases hx
  | (q, s) :: r, b, e, ⟨o1, o2, o3, o4, o5⟩, x, hx => by
    rcases List.mem_cons.1 hx with rfl | hx
    · exact o4
    · exact ok_pos r _ _ o5 x hx
theorem buildS_lay (n : Nat) (h0 : 16 ≤ n) (h1 : n ≤ 8192) (lay : Lay) (hok : ok true 8 lay) (he : endOf 8 lay ≤ 8192) :
    buildS n (psOf (itsOf lay)) (bsOf (itsOf lay)) = if endOf 8 lay ≤ n then (render n lay, 0) else ([], 121) := by
  rw [buildS_its n h0 h1, if_neg, layOf_itsOf, if_pos ⟨hok, he⟩]
  rw [Bool.not_eq_true, List.any_eq_false]
  intro x hx
  obtain ⟨y, hy, rfl⟩ := List.mem_map.1 hx
  have := ok_pos lay _ _ hok y hy
  simp only [decide_eq_true_eq]
  omega
theorem parts_area {l : List UInt8} {lay : Lay} (h : Area l lay) : buildS l.length (psOf (itsOf lay)) (bsOf (itsOf lay)) = (l, 0) := by
  obtain ⟨h16, h81, hok, hend, ha⟩ := h
  rw [buildS_lay l.length h16 h81 lay hok (by omega), if_pos hend, ← ha]
theorem parts_bad {l : List UInt8} (h : openS l = false) (h0 : 16 ≤ l.length) (h1 : l.length ≤ 8192) (its : List (Int × List UInt8)) : buildS l.length (psOf its) (bsOf its) ≠ (l, 0) := by
  rw [buildS_its _ h0 h1]
  split
  · simp
  · split
    · rename_i hok
      split
      · rename_i hn
        intro he
        have he : render l.length (layOf its) = l := congrArg Prod.fst he
        have : openS l = true := (openS_iff l).2 ⟨layOf its, h0, h1, hok.1, hn, he.symm⟩
        rw [h] at this; cases this
      · simp
    · simp

/-! ### Alloc -/
def roomS (n0 : Int) (ps : List (Int × Int)) (b : Int × Int) : Bool :=
  !decide (n0 < b.1 + upZ b.2) && ps.all (fun q => !(decide (b.1 - 8 < q.1 + upZ q.2) && decide (q.1 - 8 < b.1 + upZ b.2)))
def insS (b : Int × List UInt8) : List (Int × List UInt8) → List (Int × List UInt8)
  | [] => [b]
  | x :: r => if b.1 < x.1 then b :: x :: r else x :: insS b r
/-- Where Alloc tries. -/
def tries (ps : List (Int × Int)) : List Int := 16 :: ps.map (fun q => q.1 + upZ q.2 + 8)
def rallocS (n0 : Int) (its : List (Int × List UInt8)) (n : Int) : List UInt8 × Int × Int :=
  match (tries (psOf its)).find? (fun at_ => roomS n0 (psOf its) (at_, n)) with
  | none => ([], 0, 121)
  | some at_ => ((buildS n0 (psOf (insS (at_, zs n.toNat) its)) (bsOf (insS (at_, zs n.toNat) its))).1, at_, (buildS n0 (psOf (insS (at_, zs n.toNat) its)) (bsOf (insS (at_, zs n.toNat) its))).2)
/-- Has an allocation of n bytes room at e + 8, before the layout r? -/
def roomAt (n0 n e : Nat) (r : Lay) : Prop := e + 8 + upN n ≤ n0 ∧ match r with | [] => True | (p, _) :: _ => e + 8 + upN n ≤ p - 8
theorem ends_le : ∀ (A : Lay) (b : Bool) (e : Nat), ok b e A → ∀ x ∈ A, x.1 + upN x.2.length ≤ endOf e A
  | [], _, _, _, x, hx => by cases hx
  | (q, s) :: r, b, e, ⟨o1, o2, o3, o4, o5⟩, x, hx => by
    rw [endOf]
    rcases List.mem_cons.1 hx with rfl | hx
    · exact endOf_ge o5
    · exact ends_le r _ _ o5 x hx
theorem roomS_at (n0 n : Nat) (hn : 1 ≤ n) (A r : Lay) (b : Bool) (hA : ok true 8 A) (hr : ok b (endOf 8 A) r) :
    roomS n0 (psOf (itsOf (A ++ r))) (((endOf 8 A + 8 : Nat) : Int), (n : Int)) = decide (endOf 8 A + 8 + upN n ≤ n0 ∧ ∀ x ∈ r, endOf 8 A + 8 + upN n ≤ x.1 - 8) := by
  have hnb := upN_bd n
  unfold roomS
  simp only [upZ_nat]
  by_cases h1 : endOf 8 A + 8 + upN n ≤ n0
  · rw [decide_eq_false (by omega)]
    simp only [Bool.not_false, Bool.true_and]
    rw [Bool.eq_iff_iff, List.all_eq_true, decide_eq_true_iff]
    constructor
    · intro h
      refine ⟨h1, fun x hx => ?_⟩
      have h2 := h ((x.1 : Int), (x.2.length : Int)) (List.mem_map.2 ⟨((x.1 : Int), x.2), List.mem_map.2 ⟨x, List.mem_append_right _ hx, rfl⟩, rfl⟩)
      have hx2 := offs_ge r _ _ hr x hx
      have hxb := upN_bd x.2.length
      simp only [upZ_nat, Bool.not_eq_true', Bool.and_eq_false_iff, decide_eq_false_iff_not] at h2
      omega
    · rintro ⟨-, h⟩ q hq
      obtain ⟨y, hy, rfl⟩ := List.mem_map.1 hq
      obtain ⟨x, hx, rfl⟩ := List.mem_map.1 hy
      simp only [upZ_nat, Bool.not_eq_true', Bool.and_eq_false_iff, decide_eq_false_iff_not]
      rcases List.mem_append.1 hx with hx | hx
      · have := ends_le A _ _ hA x hx
        omega
      · have := h x hx
        have hx2 := offs_ge r _ _ hr x hx
        omega
  · rw [decide_eq_true (by omega), decide_eq_false (fun h => h1 h.1)]
    rfl
theorem allocL_ge (n : Nat) : ∀ (lay : Lay) (b : Bool) (e : Nat), ok b e lay → e + 8 ≤ (allocL n e lay).2
  | [], _, _, _ => Nat.le_refl _
  | (p, s) :: r, b, e, ⟨o1, o2, o3, o4, o5⟩ => by
    unfold allocL
    split
    · exact Nat.le_refl _
    · have := allocL_ge n r _ _ o5
      simp only
      omega
theorem insS_alloc (n : Nat) : ∀ (lay : Lay) (b : Bool) (e : Nat), ok b e lay → insS (((allocL n e lay).2 : Int), zs n) (itsOf lay) = itsOf (allocL n e lay).1
  | [], _, _, _ => rfl
  | (p, s) :: r, b, e, ⟨o1, o2, o3, o4, o5⟩ => by
    have hub := upN_bd s.length
    unfold allocL
    split
    · rename_i h
      simp only [itsOf, List.map_cons, insS]
      rw [if_pos (by omega)]
    · have h1 := allocL_ge n r _ _ o5
      have h2 := insS_alloc n r _ _ o5
      simp only [itsOf, List.map_cons, insS] at h2 ⊢
      rw [if_neg (by omega), h2]
theorem find_tries (n0 n : Nat) (hn : 1 ≤ n) : ∀ (r A : Lay) (e : Nat), ok true 8 (A ++ r) → e = endOf 8 A → e % 8 = 0 → endOf e r ≤ n0 →
    ((((e + 8 : Nat) : Int)) :: (psOf (itsOf r)).map (fun q => q.1 + upZ q.2 + 8)).find? (fun at_ => roomS n0 (psOf (itsOf (A ++ r))) (at_, (n : Int))) =
      if endOf e (allocL n e r).1 ≤ n0 then some ((allocL n e r).2 : Int) else none
  | [], A, e, hAr, he, he8, hend => by
    subst he
    obtain ⟨hA, hr⟩ := (ok_append A [] true 8).1 hAr
    have h := roomS_at n0 n hn A [] _ hA hr
    simp only [psOf, itsOf, List.map_nil, allocL, endOf, zs_length]
    simp only [psOf, itsOf] at h
    rw [List.find?_cons, h]
    by_cases hfit : endOf 8 A + 8 + upN n ≤ n0
    · rw [if_pos hfit, decide_eq_true ⟨hfit, fun x hx => by cases hx⟩]
    · rw [if_neg hfit, decide_eq_false (fun hh => hfit hh.1)]; rfl
  | (p, s) :: r, A, e, hAr, he, he8, hend => by
    subst he
    obtain ⟨hA, hr⟩ := (ok_append A ((p, s) :: r) true 8).1 hAr
    have h := roomS_at n0 n hn A ((p, s) :: r) _ hA hr
    obtain ⟨o1, o2, o3, o4, o5⟩ := hr
    have hub := upN_bd s.length
    have hu8 := upN_8 s.length
    have hnb := upN_bd n
    have hn8 := upN_8 n
    have hge := endOf_ge o5
    have hend' : endOf (p + upN s.length) r ≤ n0 := hend
    rw [List.find?_cons, h]
    by_cases hfit : p - 8 - endOf 8 A ≠ 0 ∧ upN n ≤ p - 8 - endOf 8 A - 8
    · have ha : allocL n (endOf 8 A) ((p, s) :: r) = ((endOf 8 A + 8, zs n) :: (p, s) :: r, endOf 8 A + 8) := by unfold allocL; rw [if_pos hfit]
      rw [ha, if_pos (by simpa only [endOf] using hend'), decide_eq_true]
      refine ⟨by omega, fun x hx => ?_⟩
      rcases List.mem_cons.1 hx with rfl | hx
      · simp only; omega
      · have := offs_ge r _ _ o5 x hx; omega
    · have ha : allocL n (endOf 8 A) ((p, s) :: r) = ((p, s) :: (allocL n (p + upN s.length) r).1, (allocL n (p + upN s.length) r).2) := by rw [allocL, if_neg hfit]
      rw [decide_eq_false (fun hh => by have := hh.2 (p, s) (List.mem_cons_self ..); simp only at this; omega)]
      simp only
      rw [ha]
      have ih := find_tries n0 n hn r (A ++ [(p, s)]) (p + upN s.length) (by rw [List.append_assoc, List.singleton_append]; exact hAr) (by rw [endOf_append]; rfl) (by omega) hend'
      rw [List.append_assoc, List.singleton_append] at ih
      have e1 : (psOf (itsOf ((p, s) :: r))).map (fun q => q.1 + upZ q.2 + 8) = (((p + upN s.length + 8 : Nat) : Int)) :: (psOf (itsOf r)).map (fun q => q.1 + upZ q.2 + 8) := by
        simp only [psOf, itsOf, List.map_cons, upZ_nat]
        congr 1
      rw [e1, ih]
      rfl
theorem ralloc_lay {n0 n : Nat} (h0 : 16 ≤ n0) (h1 : n0 ≤ 8192) (hn : 1 ≤ n) (hn2 : n ≤ 8192) {lay : Lay} (hok : ok true 8 lay) (hend : endOf 8 lay ≤ n0) : rallocS n0 (itsOf lay) n = allocA n0 lay n := by
  have hf := find_tries n0 n hn lay [] 8 hok rfl rfl hend
  have hx := insS_alloc n lay true 8 hok
  have hal := allocL_ok hn hok
  unfold rallocS allocA tries
  rw [if_neg (by omega), Int.toNat_natCast]
  simp only [List.nil_append] at hf
  rw [show (16 : Int) = ((8 + 8 : Nat) : Int) from rfl, hf]
  by_cases hfit : endOf 8 (allocL n 8 lay).1 ≤ n0
  · rw [if_pos hfit, if_pos hfit]
    simp only
    rw [hx, buildS_lay n0 h0 h1 _ hal (by omega), if_pos hfit]
  · rw [if_neg hfit, if_neg hfit]

/-! ### Free -/
theorem endOf_mono {e e2 : Nat} (h : e ≤ e2) (l : Lay) : endOf e l ≤ endOf e2 l := by cases l <;> simp [endOf, h]
theorem ok_lower {e e2 : Nat} {b : Bool} {r : Lay} (h : ok false e2 r) (he : e + 16 ≤ e2) : ok b e r := by
  match r, h with
  | [], _ => trivial
  | (p, s) :: r, ⟨o1, o2, o3, o4, o5⟩ => exact ⟨o1, by omega, fun _ => by omega, o4, o5⟩
theorem ok_filter (f : Nat × List UInt8 → Bool) : ∀ (l : Lay) (b : Bool) (e : Nat), ok b e l → ok b e (l.filter f) ∧ endOf e (l.filter f) ≤ endOf e l
  | [], _, _, _ => ⟨trivial, Nat.le_refl _⟩
  | (p, s) :: r, b, e, ⟨o1, o2, o3, o4, o5⟩ => by
    have hub := upN_bd s.length
    have hu8 := upN_8 s.length
    obtain ⟨i1, i2⟩ := ok_filter f r _ _ o5
    rw [List.filter_cons]
    split
    · exact ⟨⟨o1, o2, o3, o4, i1⟩, i2⟩
    · refine ⟨ok_lower i1 (by omega), ?_⟩
      rw [endOf]
      exact Nat.le_trans (endOf_mono (by omega) _) i2
def rfreeS (n0 : Int) (its : List (Int × List UInt8)) (p : Int) : List UInt8 × Int :=
  if (its.filter (fun x => !decide (x.1 = p))).length = its.length then ([], 122)
  else buildS n0 (psOf (its.filter (fun x => !decide (x.1 = p)))) (bsOf (its.filter (fun x => !decide (x.1 = p))))
theorem rfree_lay {n0 : Nat} (h0 : 16 ≤ n0) (h1 : n0 ≤ 8192) {lay : Lay} (hok : ok true 8 lay) (hend : endOf 8 lay ≤ n0) (p : Int) : rfreeS n0 (itsOf lay) p = freeA n0 lay p := by
  have e1 : (itsOf lay).filter (fun x => !decide (x.1 = p)) = itsOf (lay.filter (fun x => !decide ((x.1 : Int) = p))) := by
    unfold itsOf; rw [List.filter_map]; rfl
  obtain ⟨k1, k2⟩ := ok_filter (fun x => !decide ((x.1 : Int) = p)) lay true 8 hok
  have hlen : ((itsOf lay).filter (fun x => !decide (x.1 = p))).length = (itsOf lay).length ↔ ¬ lay.any (fun x => decide ((x.1 : Int) = p)) = true := by
    rw [e1]
    simp only [itsOf, List.length_map]
    rw [List.length_filter_eq_length_iff, Bool.not_eq_true, List.any_eq_false]
    simp
  unfold rfreeS freeA
  by_cases hany : lay.any (fun x => decide ((x.1 : Int) = p)) = true
  · rw [if_neg (fun h => hlen.1 h hany), if_pos hany, e1, buildS_lay n0 h0 h1 _ k1 (by omega), if_pos (by omega)]
  · rw [if_pos (hlen.2 hany), if_neg hany]
end Go.Proofs.Ytcfmimfkaabmkaa
