/- What R.Build, R.Alloc and R.Free answer, in plain Lean, and that this is what the layout says. -/
import Derived.Test.YtcfmimfkaabmkaaXD
set_option linter.unusedVariables false
set_option linter.unusedSimpArgs false
namespace Go.Proofs.Ytcfmimfkaabmkaa
open Go.RowKit
attribute [local irreducible] num
/-- The units of allocations, behind the units u. -/
def buildUnits : Bool → List UInt8 → List (Int × List UInt8) → Option (List UInt8)
  | _, u, [] => some u
  | first, u, (a, t) :: r =>
    if a < 16 ∨ 8192 < a ∨ a % 8 ≠ 0 ∨ a - 16 - (u.length : Int) < 0 ∨ (first = true ∧ a - 16 - (u.length : Int) = 8) then none
    else if 8192 < 8 + (u ++ (gapB (a - 16 - (u.length : Int)).toNat ++ usedB t)).length then none
    else buildUnits false (u ++ (gapB (a - 16 - (u.length : Int)).toNat ++ usedB t)) r
def layOf (its : List (Int × List UInt8)) : Lay := its.map (fun x => (x.1.toNat, x.2))
theorem buildUnits_spec : ∀ (its : List (Int × List UInt8)) (first : Bool) (u : List UInt8) (e : Nat), u.length + 8 = e → e % 8 = 0 → e ≤ 8192 → (∀ x ∈ its, 1 ≤ x.2.length) →
    buildUnits first u its = if ok first e (layOf its) ∧ endOf e (layOf its) ≤ 8192 then some (u ++ enc e (layOf its)) else none
  | [], first, u, e, hu, he, h81, _ => by simp [buildUnits, layOf, ok, endOf, enc, h81]
  | (a, t) :: r, first, u, e, hu, he, h81, hs => by
    have h1 : 1 ≤ t.length := hs (a, t) (List.mem_cons_self ..)
    have hub := upN_bd t.length
    have hu8 := upN_8 t.length
    unfold buildUnits
    by_cases hbad : a < 16 ∨ 8192 < a ∨ a % 8 ≠ 0 ∨ a - 16 - (u.length : Int) < 0 ∨ (first = true ∧ a - 16 - (u.length : Int) = 8)
    · rw [if_pos hbad, if_neg]
      rintro ⟨hok, hend⟩
      simp only [layOf, List.map_cons, ok, endOf] at hok hend
      obtain ⟨k1, k2, k3, k4, k5⟩ := hok
      have := endOf_ge k5
      rcases hbad with h | h | h | h | ⟨h, h'⟩
      · omega
      · omega
      · omega
      · omega
      · exact k3 h (by omega)
    · rw [if_neg hbad]
      have hbad' : 16 ≤ a ∧ a ≤ 8192 ∧ a % 8 = 0 ∧ 0 ≤ a - 16 - (u.length : Int) := by omega
      have hfirst : first = true → a.toNat ≠ e + 16 := fun h h' => hbad (.inr (.inr (.inr (.inr ⟨h, by omega⟩))))
      obtain ⟨p, rfl⟩ := Int.eq_ofNat_of_zero_le (show 0 ≤ a by omega)
      have hg : ((p : Int) - 16 - (u.length : Int)).toNat = p - 8 - e := by omega
      have hg8 : p - 8 - e = 0 ∨ 8 ≤ p - 8 - e := by omega
      have hlen : (u ++ (gapB (p - 8 - e) ++ usedB t)).length = p + upN t.length - 8 := by
        rw [List.length_append, List.length_append, gapB_length _ hg8, usedB_length]; omega
      rw [hg, hlen]
      by_cases hbig : 8192 < 8 + (p + upN t.length - 8)
      · rw [if_pos hbig, if_neg]
        rintro ⟨hok, hend⟩
        simp only [layOf, List.map_cons, ok, endOf] at hok hend
        obtain ⟨k1, k2, k3, k4, k5⟩ := hok
        have := endOf_ge k5
        simp only [Int.toNat_natCast] at this hend
        omega
      · rw [if_neg hbig, buildUnits_spec r false _ (p + upN t.length) (by omega) (by omega) (by omega) (fun x hx => hs x (List.mem_cons_of_mem _ hx))]
        have e1 : layOf (((p : Int), t) :: r) = (p, t) :: layOf r := by simp [layOf]
        rw [e1]
        have e2 : enc e ((p, t) :: layOf r) = gapB (p - 8 - e) ++ (usedB t ++ enc (p + upN t.length) (layOf r)) := rfl
        have e3 : endOf e ((p, t) :: layOf r) = endOf (p + upN t.length) (layOf r) := rfl
        rw [e2, e3]
        have hiff : ok first e ((p, t) :: layOf r) ↔ ok false (p + upN t.length) (layOf r) := by
          constructor
          · exact fun h => h.2.2.2.2
          · exact fun h => ⟨by omega, by omega, by simpa using hfirst, h1, h⟩
        by_cases hok : ok false (p + upN t.length) (layOf r) ∧ endOf (p + upN t.length) (layOf r) ≤ 8192
        · rw [if_pos hok, if_pos ⟨hiff.2 hok.1, hok.2⟩]; simp only [List.append_assoc]
        · rw [if_neg hok, if_neg (fun h => hok ⟨hiff.1 h.1, h.2⟩)]
def badSizes (ps : List (Int × Int)) (bs : List (List UInt8)) : Bool := (ps.zip bs).any (fun x => decide (x.1.2 < 1) || !decide ((x.2.length : Int) = x.1.2))
def itemsOf (ps : List (Int × Int)) (bs : List (List UInt8)) : List (Int × List UInt8) := (ps.zip bs).map (fun x => (x.1.1, x.2))
/-- What Build answers behind its units. -/
def buildF (n : Int) (c : Nat) : Option (List UInt8) → List UInt8 × Int
  | none => ([], 122)
  | some u => if n < 8 + (u.length : Int) then ([], 121) else (four u.length ++ (four c ++ (u ++ zs (n - 8 - (u.length : Int)).toNat)), 0)
/-- What Build answers. -/
def buildS (n : Int) (ps : List (Int × Int)) (bs : List (List UInt8)) : List UInt8 × Int :=
  if n < 16 ∨ 8192 < n ∨ ps.length ≠ bs.length then ([], 1)
  else if badSizes ps bs = true then ([], 1)
  else buildF n ps.length (buildUnits true [] (itemsOf ps bs))
/-- The offsets and sizes of allocations, and their bytes. -/
def psOf (its : List (Int × List UInt8)) : List (Int × Int) := its.map (fun x => (x.1, (x.2.length : Int)))
def bsOf (its : List (Int × List UInt8)) : List (List UInt8) := its.map (fun x => x.2)
theorem zip_its : ∀ (its : List (Int × List UInt8)), (psOf its).zip (bsOf its) = its.map (fun x => ((x.1, (x.2.length : Int)), x.2))
  | [] => rfl
  | x :: r => by have := zip_its r; simp only [psOf, bsOf, List.map_cons, List.zip_cons_cons] at this ⊢; rw [this]
theorem itemsOf_its (its : List (Int × List UInt8)) : itemsOf (psOf its) (bsOf its) = its := by
  unfold itemsOf; rw [zip_its, List.map_map]
  conv => rhs; rw [← List.map_id its]
  rfl
theorem badSizes_its (its : List (Int × List UInt8)) : badSizes (psOf its) (bsOf its) = its.any (fun x => decide (x.2.length < 1)) := by
  unfold badSizes; rw [zip_its, List.any_map]
  congr 1
  funext x
  simp only [Function.comp, decide_true, Bool.not_true, Bool.or_false, decide_eq_decide]
  omega
theorem psOf_length (its : List (Int × List UInt8)) : (psOf its).length = its.length := by simp [psOf]
theorem bsOf_length (its : List (Int × List UInt8)) : (bsOf its).length = its.length := by simp [bsOf]
/-- What Build answers at allocations whose sizes are those of their bytes. -/
theorem buildS_its (n : Nat) (h0 : 16 ≤ n) (h1 : n ≤ 8192) (its : List (Int × List UInt8)) :
    buildS n (psOf its) (bsOf its) = if its.any (fun x => decide (x.2.length < 1)) = true then ([], 1) else
      if ok true 8 (layOf its) ∧ endOf 8 (layOf its) ≤ 8192 then (if endOf 8 (layOf its) ≤ n then (render n (layOf its), 0) else ([], 121)) else ([], 122) := by
  unfold buildS
  rw [if_neg (by rw [psOf_length, bsOf_length]; omega), badSizes_its, itemsOf_its]
  by_cases hb : its.any (fun x => decide (x.2.length < 1)) = true
  · rw [if_pos hb, if_pos hb]
  · rw [if_neg hb, if_neg hb]
    have hs : ∀ x ∈ its, 1 ≤ x.2.length := fun x hx => by
      rcases Nat.lt_or_ge x.2.length 1 with h | h
      · exact absurd (List.any_eq_true.2 ⟨x, hx, by simpa using h⟩) hb
      · exact h
    rw [buildUnits_spec its true [] 8 rfl rfl (by omega) hs]
    by_cases hok : ok true 8 (layOf its) ∧ endOf 8 (layOf its) ≤ 8192
    · rw [if_pos hok, if_pos hok]
      have hl := enc_length (e := 8) rfl hok.1
      have hge := endOf_ge hok.1
      simp only [buildF, List.nil_append, hl, psOf_length]
      by_cases hn : endOf 8 (layOf its) ≤ n
      · rw [if_neg (by omega), if_pos hn]
        unfold render
        rw [show ((n : Int) - 8 - ((endOf 8 (layOf its) - 8 : Nat) : Int)).toNat = n - endOf 8 (layOf its) by omega]
        simp [layOf]
      · rw [if_pos (by omega), if_neg hn]
    · rw [if_neg hok, if_neg hok]; rfl
/-- A layout as the functions of R hold it. -/
def itsOf (lay : Lay) : List (Int × List UInt8) := lay.map (fun x => ((x.1 : Int), x.2))
theorem layOf_itsOf (lay : Lay) : layOf (itsOf lay) = lay := by
  unfold layOf itsOf; rw [List.map_map]
  conv => rhs; rw [← List.map_id lay]
  rfl
theorem ok_pos : ∀ (lay : Lay) (b : Bool) (e : Nat), ok b e lay → ∀ x ∈ lay, 1 ≤ x.2.length
  | [], _, _, _, x, hx => by cases hx
  | (q, s) :: r, b, e, ⟨o1, o2, o3, o4, o5⟩, x, hx => by
    rcases List.mem_cons.1 hx with rfl | hx
    · exact o4
    · exact ok_pos r _ _ o5 x hx
theorem buildS_lay (n : Nat) (h0 : 16 ≤ n) (h1 : n ≤ 8192) (lay : Lay) (hok : ok true 8 lay) (he : endOf 8 lay ≤ 8192) :
    buildS n (psOf (itsOf lay)) (bsOf (itsOf lay)) = if endOf 8 lay ≤ n then (render n lay, 0) else ([], 121) := by
  rw [buildS_its n h0 h1, if_neg, layOf_itsOf, if_pos ⟨hok, he⟩]
  rw [Bool.not_eq_true, List.any_eq_false]
  intro x hx
  obtain ⟨y, hy, rfl⟩ := List.mem_map.1 hx
  have := ok_pos lay _ _ hok y hy
  simp only [decide_eq_true_eq]
  omega
theorem parts_area {l : List UInt8} {lay : Lay} (h : Area l lay) : buildS l.length (psOf (itsOf lay)) (bsOf (itsOf lay)) = (l, 0) := by
  obtain ⟨h16, h81, hok, hend, ha⟩ := h
  rw [buildS_lay l.length h16 h81 lay hok (by omega), if_pos hend, ← ha]
theorem parts_bad {l : List UInt8} (h : openS l = false) (h0 : 16 ≤ l.length) (h1 : l.length ≤ 8192) (its : List (Int × List UInt8)) : buildS l.length (psOf its) (bsOf its) ≠ (l, 0) := by
  rw [buildS_its _ h0 h1]
  split
  · simp
  · split
    · rename_i hok
      split
      · rename_i hn
        intro he
        have he : render l.length (layOf its) = l := congrArg Prod.fst he
        have : openS l = true := (openS_iff l).2 ⟨layOf its, h0, h1, hok.1, hn, he.symm⟩
        rw [h] at this; cases this
      · simp
    · simp

/-! ### Alloc -/
def roomS (n0 : Int) (ps : List (Int × Int)) (b : Int × Int) : Bool :=
  !decide (n0 < b.1 + upZ b.2) && ps.all (fun q => !(decide (b.1 - 8 < q.1 + upZ q.2) && decide (q.1 - 8 < b.1 + upZ b.2)))
def insS (b : Int × List UInt8) : List (Int × List UInt8) → List (Int × List UInt8)
  | [] => [b]
  | x :: r => if b.1 < x.1 then b :: x :: r else x :: insS b r
/-- Where Alloc tries. -/
def tries (ps : List (Int × Int)) : List Int := 16 :: ps.map (fun q => q.1 + upZ q.2 + 8)
def rallocS (n0 : Int) (its : List (Int × List UInt8)) (n : Int) : List UInt8 × Int × Int :=
  match (tries (psOf its)).find? (fun at_ => roomS n0 (psOf its) (at_, n)) with
  | none => ([], 0, 121)
  | some at_ => ((buildS n0 (psOf (insS (at_, zs n.toNat) its)) (bsOf (insS (at_, zs n.toNat) its))).1, at_, (buildS n0 (psOf (insS (at_, zs n.toNat) its)) (bsOf (insS (at_, zs n.toNat) its))).2)
/-- Has an allocation of n bytes room at e + 8, before the layout r? -/
def roomAt (n0 n e : Nat) (r : Lay) : Prop := e + 8 + upN n ≤ n0 ∧ match r with | [] => True | (p, _) :: _ => e + 8 + upN n ≤ p - 8
theorem ends_le : ∀ (A : Lay) (b : Bool) (e : Nat), ok b e A → ∀ x ∈ A, x.1 + upN x.2.length ≤ endOf e A
  | [], _, _, _, x, hx => by cases hx
  | (q, s) :: r, b, e, ⟨o1, o2, o3, o4, o5⟩, x, hx => by
    rw [endOf]
    rcases List.mem_cons.1 hx with rfl | hx
    · exact endOf_ge o5
    · exact ends_le r _ _ o5 x hx
theorem roomS_at (n0 n : Nat) (hn : 1 ≤ n) (A r : Lay) (b : Bool) (hA : ok true 8 A) (hr : ok b (endOf 8 A) r) :
    roomS n0 (psOf (itsOf (A ++ r))) (((endOf 8 A + 8 : Nat) : Int), (n : Int)) = decide (endOf 8 A + 8 + upN n ≤ n0 ∧ ∀ x ∈ r, endOf 8 A + 8 + upN n ≤ x.1 - 8) := by
  have hnb := upN_bd n
  unfold roomS
  simp only [upZ_nat]
  by_cases h1 : endOf 8 A + 8 + upN n ≤ n0
  · rw [decide_eq_false (by omega)]
    simp only [Bool.not_false, Bool.true_and]
    rw [Bool.eq_iff_iff, List.all_eq_true, decide_eq_true_iff]
    constructor
    · intro h
      refine ⟨h1, fun x hx => ?_⟩
      have h2 := h ((x.1 : Int), (x.2.length : Int)) (List.mem_map.2 ⟨((x.1 : Int), x.2), List.mem_map.2 ⟨x, List.mem_append_right _ hx, rfl⟩, rfl⟩)
      have hx2 := offs_ge r _ _ hr x hx
      have hxb := upN_bd x.2.length
      simp only [upZ_nat, Bool.not_eq_true', Bool.and_eq_false_iff, decide_eq_false_iff_not] at h2
      omega
    · rintro ⟨-, h⟩ q hq
      obtain ⟨y, hy, rfl⟩ := List.mem_map.1 hq
      obtain ⟨x, hx, rfl⟩ := List.mem_map.1 hy
      simp only [upZ_nat, Bool.not_eq_true', Bool.and_eq_false_iff, decide_eq_false_iff_not]
      rcases List.mem_append.1 hx with hx | hx
      · have := ends_le A _ _ hA x hx
        omega
      · have := h x hx
        have hx2 := offs_ge r _ _ hr x hx
        omega
  · rw [decide_eq_true (by omega), decide_eq_false (fun h => h1 h.1)]
    rfl
theorem allocL_ge (n : Nat) : ∀ (lay : Lay) (b : Bool) (e : Nat), ok b e lay → e + 8 ≤ (allocL n e lay).2
  | [], _, _, _ => Nat.le_refl _
  | (p, s) :: r, b, e, ⟨o1, o2, o3, o4, o5⟩ => by
    unfold allocL
    split
    · exact Nat.le_refl _
    · have := allocL_ge n r _ _ o5
      simp only
      omega
theorem insS_alloc (n : Nat) : ∀ (lay : Lay) (b : Bool) (e : Nat), ok b e lay → insS (((allocL n e lay).2 : Int), zs n) (itsOf lay) = itsOf (allocL n e lay).1
  | [], _, _, _ => rfl
  | (p, s) :: r, b, e, ⟨o1, o2, o3, o4, o5⟩ => by
    have hub := upN_bd s.length
    unfold allocL
    split
    · rename_i h
      simp only [itsOf, List.map_cons, insS]
      rw [if_pos (by omega)]
    · have h1 := allocL_ge n r _ _ o5
      have h2 := insS_alloc n r _ _ o5
      simp only [itsOf, List.map_cons, insS] at h2 ⊢
      rw [if_neg (by omega), h2]
theorem find_tries (n0 n : Nat) (hn : 1 ≤ n) : ∀ (r A : Lay) (e : Nat), ok true 8 (A ++ r) → e = endOf 8 A → e % 8 = 0 → endOf e r ≤ n0 →
    ((((e + 8 : Nat) : Int)) :: (psOf (itsOf r)).map (fun q => q.1 + upZ q.2 + 8)).find? (fun at_ => roomS n0 (psOf (itsOf (A ++ r))) (at_, (n : Int))) =
      if endOf e (allocL n e r).1 ≤ n0 then some ((allocL n e r).2 : Int) else none
  | [], A, e, hAr, he, he8, hend => by
    subst he
    obtain ⟨hA, hr⟩ := (ok_append A [] true 8).1 hAr
    have h := roomS_at n0 n hn A [] _ hA hr
    simp only [psOf, itsOf, List.map_nil, allocL, endOf, zs_length]
    simp only [psOf, itsOf] at h
    rw [List.find?_cons, h]
    by_cases hfit : endOf 8 A + 8 + upN n ≤ n0
    · rw [if_pos hfit, decide_eq_true ⟨hfit, fun x hx => by cases hx⟩]
    · rw [if_neg hfit, decide_eq_false (fun hh => hfit hh.1)]; rfl
  | (p, s) :: r, A, e, hAr, he, he8, hend => by
    subst he
    obtain ⟨hA, hr⟩ := (ok_append A ((p, s) :: r) true 8).1 hAr
    have h := roomS_at n0 n hn A ((p, s) :: r) _ hA hr
    obtain ⟨o1, o2, o3, o4, o5⟩ := hr
    have hub := upN_bd s.length
    have hu8 := upN_8 s.length
    have hnb := upN_bd n
    have hn8 := upN_8 n
    have hge := endOf_ge o5
    have hend' : endOf (p + upN s.length) r ≤ n0 := hend
    rw [List.find?_cons, h]
    by_cases hfit : p - 8 - endOf 8 A ≠ 0 ∧ upN n ≤ p - 8 - endOf 8 A - 8
    · have ha : allocL n (endOf 8 A) ((p, s) :: r) = ((endOf 8 A + 8, zs n) :: (p, s) :: r, endOf 8 A + 8) := by unfold allocL; rw [if_pos hfit]
      rw [ha, if_pos (by simpa only [endOf] using hend'), decide_eq_true]
      refine ⟨by omega, fun x hx => ?_⟩
      rcases List.mem_cons.1 hx with rfl | hx
      · simp only; omega
      · have := offs_ge r _ _ o5 x hx; omega
    · have ha : allocL n (endOf 8 A) ((p, s) :: r) = ((p, s) :: (allocL n (p + upN s.length) r).1, (allocL n (p + upN s.length) r).2) := by rw [allocL, if_neg hfit]
      rw [decide_eq_false (fun hh => by have := hh.2 (p, s) (List.mem_cons_self ..); simp only at this; omega)]
      simp only
      rw [ha]
      have ih := find_tries n0 n hn r (A ++ [(p, s)]) (p + upN s.length) (by rw [List.append_assoc, List.singleton_append]; exact hAr) (by rw [endOf_append]; rfl) (by omega) hend'
      rw [List.append_assoc, List.singleton_append] at ih
      have e1 : (psOf (itsOf ((p, s) :: r))).map (fun q => q.1 + upZ q.2 + 8) = (((p + upN s.length + 8 : Nat) : Int)) :: (psOf (itsOf r)).map (fun q => q.1 + upZ q.2 + 8) := by
        simp only [psOf, itsOf, List.map_cons, upZ_nat]
        congr 1
      rw [e1, ih]
      rfl
theorem ralloc_lay {n0 n : Nat} (h0 : 16 ≤ n0) (h1 : n0 ≤ 8192) (hn : 1 ≤ n) (hn2 : n ≤ 8192) {lay : Lay} (hok : ok true 8 lay) (hend : endOf 8 lay ≤ n0) : rallocS n0 (itsOf lay) n = allocA n0 lay n := by
  have hf := find_tries n0 n hn lay [] 8 hok rfl rfl hend
  have hx := insS_alloc n lay true 8 hok
  have hal := allocL_ok hn hok
  unfold rallocS allocA tries
  rw [if_neg (by omega), Int.toNat_natCast]
  simp only [List.nil_append] at hf
  rw [show (16 : Int) = ((8 + 8 : Nat) : Int) from rfl, hf]
  by_cases hfit : endOf 8 (allocL n 8 lay).1 ≤ n0
  · rw [if_pos hfit, if_pos hfit]
    simp only
    rw [hx, buildS_lay n0 h0 h1 _ hal (by omega), if_pos hfit]
  · rw [if_neg hfit, if_neg hfit]

/-! ### Free -/
theorem endOf_mono {e e2 : Nat} (h : e ≤ e2) (l : Lay) : endOf e l ≤ endOf e2 l := by cases l <;> simp [endOf, h]
theorem ok_lower {e e2 : Nat} {b : Bool} {r : Lay} (h : ok false e2 r) (he : e + 16 ≤ e2) : ok b e r := by
  match r, h with
  | [], _ => trivial
  | (p, s) :: r, ⟨o1, o2, o3, o4, o5⟩ => exact ⟨o1, by omega, fun _ => by omega, o4, o5⟩
theorem ok_filter (f : Nat × List UInt8 → Bool) : ∀ (l : Lay) (b : Bool) (e : Nat), ok b e l → ok b e (l.filter f) ∧ endOf e (l.filter f) ≤ endOf e l
  | [], _, _, _ => ⟨trivial, Nat.le_refl _⟩
  | (p, s) :: r, b, e, ⟨o1, o2, o3, o4, o5⟩ => by
    have hub := upN_bd s.length
    have hu8 := upN_8 s.length
    obtain ⟨i1, i2⟩ := ok_filter f r _ _ o5
    rw [List.filter_cons]
    split
    · exact ⟨⟨o1, o2, o3, o4, i1⟩, i2⟩
    · refine ⟨ok_lower i1 (by omega), ?_⟩
      rw [endOf]
      exact Nat.le_trans (endOf_mono (by omega) _) i2
def rfreeS (n0 : Int) (its : List (Int × List UInt8)) (p : Int) : List UInt8 × Int :=
  if (its.filter (fun x => !decide (x.1 = p))).length = its.length then ([], 122)
  else buildS n0 (psOf (its.filter (fun x => !decide (x.1 = p)))) (bsOf (its.filter (fun x => !decide (x.1 = p))))
theorem rfree_lay {n0 : Nat} (h0 : 16 ≤ n0) (h1 : n0 ≤ 8192) {lay : Lay} (hok : ok true 8 lay) (hend : endOf 8 lay ≤ n0) (p : Int) : rfreeS n0 (itsOf lay) p = freeA n0 lay p := by
  have e1 : (itsOf lay).filter (fun x => !decide (x.1 = p)) = itsOf (lay.filter (fun x => !decide ((x.1 : Int) = p))) := by
    unfold itsOf; rw [List.filter_map]; rfl
  obtain ⟨k1, k2⟩ := ok_filter (fun x => !decide ((x.1 : Int) = p)) lay true 8 hok
  have hlen : ((itsOf lay).filter (fun x => !decide (x.1 = p))).length = (itsOf lay).length ↔ ¬ lay.any (fun x => decide ((x.1 : Int) = p)) = true := by
    rw [e1]
    simp only [itsOf, List.length_map]
    rw [List.length_filter_eq_length_iff, Bool.not_eq_true, List.any_eq_false]
    simp
  unfold rfreeS freeA
  by_cases hany : lay.any (fun x => decide ((x.1 : Int) = p)) = true
  · rw [if_neg (fun h => hlen.1 h hany), if_pos hany, e1, buildS_lay n0 h0 h1 _ k1 (by omega), if_pos (by omega)]
  · rw [if_pos (hlen.2 hany), if_neg hany]
end Go.Proofs.Ytcfmimfkaabmkaa
/- Slices of pieces and of strings: what a function reads, and what it grows by append. -/
set_option linter.unusedVariables false
set_option linter.unusedSimpArgs false
namespace Go.Proofs.Ytcfmimfkaabmkaa
open Go.RowKit
theorem under33 : Try.prog.underlying 33 = some (.slice 37) := by kernel_rfl
theorem under49 : Try.prog.underlying 49 = some (.slice 9) := by kernel_rfl
theorem info37 : (Try.prog.info? 37).map (fun i => (i.zero, i.size, i.bytes)) = some (some (.agg #[.int .i64 0, .int .i64 0]), 2, 16) := by kernel_rfl
theorem info9 : (Try.prog.info? 9).map (fun i => (i.zero, i.size, i.bytes)) = some (some (.string ⟨#[]⟩), 1, 16) := by kernel_rfl
/-- Pieces as cells. -/
def encP (ps : List (Int × Int)) : List Value := ps.flatMap (fun p => [.int .i64 p.1, .int .i64 p.2])
def encS (bs : List (List UInt8)) : List Value := bs.map strV
theorem encP_length (ps : List (Int × Int)) : (encP ps).length = ps.length * 2 := by
  induction ps with
  | nil => rfl
  | cons p r ih => simp only [encP, List.flatMap_cons, List.length_append, List.length_cons, List.length_nil] at ih ⊢; omega
theorem encP_append (a b : List (Int × Int)) : encP (a ++ b) = encP a ++ encP b := by simp [encP]
theorem encP_at : ∀ (ps : List (Int × Int)) (i : Nat) (p : Int × Int), ps[i]? = some p → (encP ps)[i * 2]? = some (.int .i64 p.1) ∧ (encP ps)[i * 2 + 1]? = some (.int .i64 p.2)
  | [], i, p, h => by simp at h
  | q :: r, 0, p, h => by simp at h; subst h; exact ⟨rfl, rfl⟩
  | q :: r, i + 1, p, h => by
    have ih := encP_at r i p (by simpa using h)
    simp only [encP, List.flatMap_cons] at ih ⊢
    rw [show (i + 1) * 2 = i * 2 + 2 by omega, show i * 2 + 2 + 1 = (i * 2 + 1) + 2 by omega]
    exact ih
theorem encS_length (bs : List (List UInt8)) : (encS bs).length = bs.length * 1 := by simp [encS]
theorem encS_append (a b : List (List UInt8)) : encS (a ++ b) = encS a ++ encS b := by simp [encS]
theorem encS_at (bs : List (List UInt8)) (i : Nat) (t : List UInt8) (h : bs[i]? = some t) : (encS bs)[i]? = some (strV t) := by simp [encS, h]
/-- The slice v reads as these pieces. -/
def RP (w : World) (v : Value) (ps : List (Int × Int)) : Prop :=
  ∃ o cap, v = .slice o ps.length cap ∧ (ps = [] ∨ ∃ b off, o = some ⟨b, off, none⟩ ∧ b < w.heap.size ∧ ∀ i p, ps[i]? = some p → w.cell? ⟨b, off + i * 2, none⟩ = some (.int .i64 p.1) ∧ w.cell? ⟨b, off + i * 2 + 1, none⟩ = some (.int .i64 p.2))
def RS (w : World) (v : Value) (bs : List (List UInt8)) : Prop :=
  ∃ o cap, v = .slice o bs.length cap ∧ (bs = [] ∨ ∃ b off, o = some ⟨b, off, none⟩ ∧ b < w.heap.size ∧ ∀ i t, bs[i]? = some t → w.cell? ⟨b, off + i, none⟩ = some (strV t))
/-- The slice v is the call's own, and holds these pieces. -/
def OP (w : World) (B : Nat) (v : Value) (ps : List (Int × Int)) : Prop := w.ownsRow B 37 2 v ps.length (encP ps)
def OS (w : World) (B : Nat) (v : Value) (bs : List (List UInt8)) : Prop := w.ownsRow B 9 1 v bs.length (encS bs)
theorem RP.below {w w' : World} {v : Value} {ps : List (Int × Int)} (h : RP w v ps) (hb : Below w.heap.size w w') : RP w' v ps := by
  obtain ⟨o, cap, rfl, h⟩ := h
  refine ⟨o, cap, rfl, h.imp id ?_⟩
  rintro ⟨b, off, rfl, hlt, hc⟩
  exact ⟨b, off, rfl, Nat.lt_of_lt_of_le hlt hb.size, fun i p hi => ⟨keepc hb (hc i p hi).1, keepc hb (hc i p hi).2⟩⟩
theorem RS.below {w w' : World} {v : Value} {bs : List (List UInt8)} (h : RS w v bs) (hb : Below w.heap.size w w') : RS w' v bs := by
  obtain ⟨o, cap, rfl, h⟩ := h
  refine ⟨o, cap, rfl, h.imp id ?_⟩
  rintro ⟨b, off, rfl, hlt, hc⟩
  exact ⟨b, off, rfl, Nat.lt_of_lt_of_le hlt hb.size, fun i p hi => keepc hb (hc i p hi)⟩
theorem OP.rp {w : World} {B : Nat} {v : Value} {ps : List (Int × Int)} (h : OP w B v ps) : RP w v ps := by
  obtain ⟨hl, ⟨rfl, hn⟩ | ⟨g, cap, cur, rfl, hb, hg, hnc, hcm, hcs, ht⟩⟩ := h
  · exact ⟨none, 0, by rw [hn], .inl (List.eq_nil_of_length_eq_zero hn)⟩
  · refine ⟨_, cap, rfl, .inr ⟨g, 0, rfl, (Array.getElem?_eq_some_iff.1 hg).1, fun i p hi => ?_⟩⟩
    obtain ⟨e1, e2⟩ := encP_at ps i p hi
    have hlt : i < ps.length := (List.getElem?_eq_some_iff.1 hi).1
    have hcell : ∀ j, j < ps.length * 2 → w.cell? ⟨g, 0 + j, none⟩ = (encP ps)[j]? := fun j hj => by
      rw [← ht, List.getElem?_take_of_lt hj, Nat.zero_add]
      simp [World.cell?, hg]
    exact ⟨by rw [hcell _ (by omega), e1], by rw [Nat.add_assoc, hcell _ (by omega), e2]⟩
theorem OS.rs {w : World} {B : Nat} {v : Value} {bs : List (List UInt8)} (h : OS w B v bs) : RS w v bs := by
  obtain ⟨hl, ⟨rfl, hn⟩ | ⟨g, cap, cur, rfl, hb, hg, hnc, hcm, hcs, ht⟩⟩ := h
  · exact ⟨none, 0, by rw [hn], .inl (List.eq_nil_of_length_eq_zero hn)⟩
  · refine ⟨_, cap, rfl, .inr ⟨g, 0, rfl, (Array.getElem?_eq_some_iff.1 hg).1, fun i p hi => ?_⟩⟩
    have e1 := encS_at bs i p hi
    have hlt : i < bs.length := (List.getElem?_eq_some_iff.1 hi).1
    have hcell : ∀ j, j < bs.length * 1 → w.cell? ⟨g, 0 + j, none⟩ = (encS bs)[j]? := fun j hj => by
      rw [← ht, List.getElem?_take_of_lt hj, Nat.zero_add]
      simp [World.cell?, hg]
    rw [hcell _ (by omega), e1]
theorem OP.below {w w' : World} {B : Nat} {v : Value} {ps : List (Int × Int)} (h : OP w B v ps) (hb : Below w.heap.size w w') : OP w' B v ps :=
  World.ownsRow.kept (row := none) h (below_grow hb none) (by cases v.ownBlock <;> simp)
theorem OS.below {w w' : World} {B : Nat} {v : Value} {bs : List (List UInt8)} (h : OS w B v bs) (hb : Below w.heap.size w w') : OS w' B v bs :=
  World.ownsRow.kept (row := none) h (below_grow hb none) (by cases v.ownBlock <;> simp)
theorem OP.mono {w : World} {B B' : Nat} {v : Value} {ps : List (Int × Int)} (h : OP w B v ps) (hB : B' ≤ B) : OP w B' v ps := by
  obtain ⟨hl, h | ⟨g, cap, cur, hv, hb, h⟩⟩ := h
  · exact ⟨hl, .inl h⟩
  · exact ⟨hl, .inr ⟨g, cap, cur, hv, Nat.le_trans hB hb, h⟩⟩
theorem OS.mono {w : World} {B B' : Nat} {v : Value} {bs : List (List UInt8)} (h : OS w B v bs) (hB : B' ≤ B) : OS w B' v bs := by
  obtain ⟨hl, h | ⟨g, cap, cur, hv, hb, h⟩⟩ := h
  · exact ⟨hl, .inl h⟩
  · exact ⟨hl, .inr ⟨g, cap, cur, hv, Nat.le_trans hB hb, h⟩⟩
/-- Two rows of cells of different types lie apart. -/
theorem rows_apart {w : World} {B B' e e' s s' n n' : Nat} {v v' : Value} {xs ys : List Value} (h : w.ownsRow B e s v n xs) (h' : w.ownsRow B' e' s' v' n' ys) (hne : e ≠ e') : v.ownBlock = none ∨ v.ownBlock ≠ v'.ownBlock := by
  obtain ⟨-, ⟨rfl, -⟩ | ⟨g, cap, cur, rfl, hb, hg, -⟩⟩ := h
  · exact .inl rfl
  · right
    obtain ⟨-, ⟨rfl, -⟩ | ⟨g', cap', cur', rfl, hb', hg', -⟩⟩ := h'
    · simp [Value.ownBlock]
    · intro he
      simp only [Value.ownBlock, Option.some.injEq] at he
      subst he
      rw [hg] at hg'
      simp only [Option.some.injEq, Obj.cells.injEq] at hg'
      exact hne hg'.2.1
theorem OP.kept {w w' : World} {B B' : Nat} {v v' : Value} {ps : List (Int × Int)} {bs : List (List UInt8)} (h : OP w B v ps) (h' : OS w B' v' bs) (hg : w.grownBy w' v'.ownBlock) : OP w' B v ps := World.ownsRow.kept h hg (rows_apart h h' (by decide))
theorem OS.kept {w w' : World} {B B' : Nat} {v v' : Value} {ps : List (Int × Int)} {bs : List (List UInt8)} (h : OS w B v bs) (h' : OP w B' v' ps) (hg : w.grownBy w' v'.ownBlock) : OS w' B v bs := World.ownsRow.kept h hg (rows_apart h h' (by decide))
theorem OP.own {w : World} {B : Nat} {v : Value} {ps : List (Int × Int)} (h : OP w B v ps) : ∀ k, v.ownBlock = some k → B ≤ k := fun k hk => (World.ownsRow.lt h k hk).1
theorem OS.own {w : World} {B : Nat} {v : Value} {bs : List (List UInt8)} (h : OS w B v bs) : ∀ k, v.ownBlock = some k → B ≤ k := fun k hk => (World.ownsRow.lt h k hk).1
/-- What lay below an own row lies as it lay behind an append to it. -/
theorem OP.grown {w0 w w' : World} {B : Nat} {v : Value} {ps : List (Int × Int)} (h : OP w B v ps) (hb : Below B w0 w) (hg : w.grownBy w' v.ownBlock) (hB : B ≤ w.heap.size) : Below B w0 w' := hb.grown hg hB h.own
theorem OS.grown {w0 w w' : World} {B : Nat} {v : Value} {bs : List (List UInt8)} (h : OS w B v bs) (hb : Below B w0 w) (hg : w.grownBy w' v.ownBlock) (hB : B ≤ w.heap.size) : Below B w0 w' := hb.grown hg hB h.own
/-- append(v, a piece). -/
theorem app_piece {ops : Array Oper} {rest : List Oper} {o : Oper} {a : Act} {Q : Exit → Act → World → Prop} {w : World} (hgd : o.guard = none) (s x : Operand)
    (ho : o.op = .call { callee := .builtin .append, args := #[s, x], argTypes := #[33, 33] }) (B : Nat) (v : Value) (ps : List (Int × Int)) (p : Int × Int) (g c : Nat)
    (hs : a.eval s = v) (hx : a.eval x = .slice (some ⟨g, 0, none⟩) 1 c) (hP : OP w B v ps) (c0 : w.cell? ⟨g, 0, none⟩ = some (.int .i64 p.1)) (c1 : w.cell? ⟨g, 1, none⟩ = some (.int .i64 p.2)) (hn : ps.length ≤ 1000000) (hb : B ≤ w.heap.size)
    (h : ∀ v' w', OP w' B v' (ps ++ [p]) → w.grownBy w' v.ownBlock → wpList Try.prog ops Q rest (a.put o.dst v') w') : wpList Try.prog ops Q (o :: rest) a w := by
  obtain ⟨i0, hi, hz0, hz1, hz2⟩ := info_parts info37
  refine wpList_append_own _ hgd s x 33 ho B 37 i0 (.agg #[.int .i64 0, .int .i64 0]) 2 16 under33 hi hz0 hz1 hz2 rfl (by decide) v ps.length (encP ps) hs hP ⟨g, 0, none⟩ 1 c [.int .i64 p.1, .int .i64 p.2] hx rfl ?_ ?_ (by unfold maxLen; omega) (by omega) hb ?_
  · intro j u hj
    match j, hj with
    | 0, hj => simp at hj; subst hj; exact c0
    | 1, hj => simp at hj; subst hj; exact c1
  · intro u hu; simp at hu; rcases hu with rfl | rfl <;> rfl
  · intro v' w' hown hg _
    refine h v' w' ?_ hg
    unfold OP
    rw [encP_append, List.length_append]
    exact hown
/-- append(v, a string). -/
theorem app_str {ops : Array Oper} {rest : List Oper} {o : Oper} {a : Act} {Q : Exit → Act → World → Prop} {w : World} (hgd : o.guard = none) (s x : Operand)
    (ho : o.op = .call { callee := .builtin .append, args := #[s, x], argTypes := #[49, 49] }) (B : Nat) (v : Value) (bs : List (List UInt8)) (t : List UInt8) (g c : Nat)
    (hs : a.eval s = v) (hx : a.eval x = .slice (some ⟨g, 0, none⟩) 1 c) (hP : OS w B v bs) (c0 : w.cell? ⟨g, 0, none⟩ = some (strV t)) (hn : bs.length ≤ 1000000) (hb : B ≤ w.heap.size)
    (h : ∀ v' w', OS w' B v' (bs ++ [t]) → w.grownBy w' v.ownBlock → wpList Try.prog ops Q rest (a.put o.dst v') w') : wpList Try.prog ops Q (o :: rest) a w := by
  obtain ⟨i0, hi, hz0, hz1, hz2⟩ := info_parts info9
  refine wpList_append_own _ hgd s x 49 ho B 9 i0 (.string ⟨#[]⟩) 1 16 under49 hi hz0 hz1 hz2 rfl (by decide) v bs.length (encS bs) hs hP ⟨g, 0, none⟩ 1 c [strV t] hx rfl ?_ ?_ (by unfold maxLen; omega) (by omega) hb ?_
  · intro j u hj
    match j, hj with
    | 0, hj => simp at hj; subst hj; exact c0
  · intro u hu; simp at hu; subst hu; rfl
  · intro v' w' hown hg _
    refine h v' w' ?_ hg
    unfold OS
    rw [encS_append, List.length_append]
    exact hown
/-- What an append leaves of the rest. -/
theorem after_piece {A W w1 : World} {B : Nat} {v v2 : Value} {ps : List (Int × Int)} {bs : List (List UInt8)} (hW : Below A.heap.size A W) (hop : OP A B v ps) (hos : OS A B v2 bs) (hB : B ≤ A.heap.size) (hg : W.grownBy w1 v.ownBlock) :
    OS w1 B v2 bs ∧ Below B A w1 :=
  ⟨(hos.below hW).kept (hop.below hW) hg, (hop.below hW).grown (hW.mono hB) hg (Nat.le_trans hB hW.size)⟩
theorem after_str {A W w1 : World} {B : Nat} {v v2 : Value} {ps : List (Int × Int)} {bs : List (List UInt8)} (hW : Below A.heap.size A W) (hop : OP A B v ps) (hos : OS A B v2 bs) (hB : B ≤ A.heap.size) (hg : W.grownBy w1 v2.ownBlock) :
    OP w1 B v ps ∧ Below B A w1 :=
  ⟨(hop.below hW).kept (hos.below hW) hg, (hos.below hW).grown (hW.mono hB) hg (Nat.le_trans hB hW.size)⟩
theorem keepB {B : Nat} {w w1 : World} {a : Addr} {v : Value} (h : Below B w w1) (ha : a.block < B) (k : w.cell? a = some v) : w1.cell? a = some v := (h.cell ha).trans k
/-- An empty slice that a call makes. -/
theorem op_new (w : World) (B : Nat) (hB : B ≤ w.heap.size) : OP (w.alloc (.cells #[] 37)) B (.slice (some ⟨w.heap.size, 0, none⟩) 0 0) [] := World.ownsRow_lit w #[] 0 hB (by decide) rfl
theorem os_new (w : World) (B : Nat) (hB : B ≤ w.heap.size) : OS (w.alloc (.cells #[] 9)) B (.slice (some ⟨w.heap.size, 0, none⟩) 0 0) [] := World.ownsRow_lit w #[] 0 hB (by decide) rfl
/-- Strings joined. -/
@[go_sem] theorem str_app (a b : List UInt8) : (⟨a.toArray⟩ : ByteArray) ++ ⟨b.toArray⟩ = ⟨(a ++ b).toArray⟩ := by
  apply ByteArray.ext
  simp
@[go_sem high] theorem run_add_lists {P : Program} (x y : List UInt8) (w : World) (h : x.length + y.length ≤ 9223372036854775807) : (Op.stringOp .add ⟨x.toArray⟩ ⟨y.toArray⟩).run P w = .ok (.string ⟨(x ++ y).toArray⟩) w := by
  rw [run_string_add_sum w _ _ (by simpa [ByteArray.size] using h), str_app]
end Go.Proofs.Ytcfmimfkaabmkaa
/- The walk of R.room. -/
set_option linter.unusedVariables false
set_option linter.unusedSimpArgs false
namespace Go.Proofs.Ytcfmimfkaabmkaa
open Go.RowKit
attribute [local go_sem] Oper.semAt_some
/-- Numbers of pieces that no sum of them leaves the integers. -/
def SmallP (ps : List (Int × Int)) : Prop := ps.length ≤ 100000 ∧ ∀ (i : Nat) (p : Int × Int), ps[i]? = some p → 0 ≤ p.1 ∧ p.1 ≤ 1000000000 ∧ 0 ≤ p.2 ∧ p.2 ≤ 1000000000
def RoomPost (n : Int) (ps : List (Int × Int)) (b : Int × Int) (w : World) (e : Ending) (w' : World) : Prop := e = .returned (.bool (roomS n ps b)) ∧ Below w.heap.size w w'
def clash (b q : Int × Int) : Bool := decide (b.1 - 8 < q.1 + upZ q.2) && decide (q.1 - 8 < b.1 + upZ b.2)
theorem roomS_eq (n : Int) (ps : List (Int × Int)) (b : Int × Int) : roomS n ps b = (!decide (n < b.1 + upZ b.2) && !ps.any (clash b)) := by
  unfold roomS clash
  rw [List.not_any_eq_all_not]
theorem any_snoc {α : Type} (f : α → Bool) (l : List α) (k : Nat) (x : α) (h : l[k]? = some x) (h0 : (l.take k).any f = false) (h1 : f x = false) : (l.take (k + 1)).any f = false := by
  rw [List.take_add_one, h]; simp [h0, h1]
set_option maxHeartbeats 1000000 in
set_option maxRecDepth 100000 in
theorem room_any (n : Int) (v : Value) (ps : List (Int × Int)) (b0 b1 : Int) (w : World) (hR : RP w v ps) (hS : SmallP ps) (h0 : 0 ≤ b0) (h1 : b0 ≤ 1000000000) (h2 : 0 ≤ b1) (h3 : b1 ≤ 1000000000) :
    Calls Try.prog 68 #[.int .i64 n, v, .agg #[.int .i64 b0, .int .i64 b1]] w (RoomPost n ps (b0, b1) w) := by
  obtain ⟨o, cap, rfl, hc⟩ := hR
  obtain ⟨hlen, hS⟩ := hS
  have HS := hid hS; clear hS
  have HC := hid hc; clear hc
  have HE := hid (roomS_eq n ps (b0, b1))
  have hub := upZ_bd b1 h2
  obtain ⟨hub, hub'⟩ := hub
  go_enter Try.func68, Try.ntmps68
  go_wp2_with fail
  go_quiet ((go_at_call 67; exact Calls.quiet_of_same ((rup_any _ _ (by omega) (by omega)).mono (fun _ _ h => ⟨h.1, h.2.symm⟩))))
  by_cases hbig : n < b0 + upZ b1
  · have hd : decide (n < b0 + upZ b1) = true := by simpa using hbig
    go_wp2_with fail
    go_ret
    exact ⟨ret_bool (by rw [HE.out, hd]; rfl), below_drewN ((Below.refl _ _).alloc (Nat.le_refl _) _) _⟩
  have hd : decide (n < b0 + upZ b1) = false := by simpa using hbig
  go_wp2_with fail
  go_loopw [9] (fun i wr => ∃ k : Nat, i = .int .i64 k ∧ k ≤ ps.length ∧ (ps.take k).any (clash (b0, b1)) = false ∧ Below w.heap.size w wr) (fun i _ => ps.length - (intOf i).toNat)
  case atStart => exact ⟨0, rfl, Nat.zero_le _, rfl, below_drewN ((Below.refl _ _).alloc (Nat.le_refl _) _) _⟩
  case round =>
    obtain ⟨k, rfl, hk, hany, hb⟩ := hrel
    have HA := hid hany; clear hany
    have HB := hid hb; clear hb
    have HD := hid hd; clear hd
    by_cases hlt : k < ps.length
    · obtain ⟨q, hq⟩ : ∃ q, ps[k]? = some q := ⟨_, List.getElem?_eq_getElem hlt⟩
      obtain ⟨s0, s1, s2, s3⟩ := HS.out k q hq
      obtain hc := HC.out
      rcases hc with hc | ⟨b, off, rfl, hbl, hc⟩
      · subst hc; simp at hlt
      obtain ⟨c0, c1⟩ := hc k q hq
      have c0 := keepc HB.out c0
      have c1 := keepc HB.out c1
      have HQ := hid hq
      clear hq hc
      obtain ⟨q0, q1⟩ := q
      simp only at s0 s1 s2 s3 c0 c1
      have huq := upZ_bd q1 s2
      obtain ⟨huq, huq'⟩ := huq
      have hsum : IntKind.i64.wrap (q0 + upZ q1) = q0 + upZ q1 := IntWalk.i64_in _ ⟨by omega, by omega⟩
      have HK := fun h => hid (any_snoc (clash (b0, b1)) ps k (q0, q1) HQ.out HA.out h)
      have HY := fun (h : clash (b0, b1) (q0, q1) = true) => hid (show ps.any (clash (b0, b1)) = true from List.any_eq_true.2 ⟨(q0, q1), List.mem_of_getElem? HQ.out, h⟩)
      by_cases hg1 : b0 - 8 < q0 + upZ q1
      · have hd1 : decide (b0 - 8 < q0 + upZ q1) = true := by simpa using hg1
        by_cases hg2 : q0 - 8 < b0 + upZ b1
        · have hd2 : decide (q0 - 8 < b0 + upZ b1) = true := by simpa using hg2
          have HF := HY (by unfold clash; rw [hd1, hd2]; rfl)
          clear HK HY
          go_wp2_with fail
          go_quiet ((go_at_call 67; exact Calls.quiet_of_same ((rup_any _ _ (by omega) (by omega)).mono (fun _ _ h => ⟨h.1, h.2.symm⟩))))
          go_wp2_with fail
          go_ret
          exact ⟨ret_bool (by rw [HE.out, HF.out]; simp), below_drewN HB.out _⟩
        · have hd2 : decide (q0 - 8 < b0 + upZ b1) = false := by simpa using hg2
          have HF := HK (by unfold clash; rw [hd1, hd2]; rfl)
          clear HK HY
          go_wp2_with fail
          go_quiet ((go_at_call 67; exact Calls.quiet_of_same ((rup_any _ _ (by omega) (by omega)).mono (fun _ _ h => ⟨h.1, h.2.symm⟩))))
          go_wp2_with fail
          go_roundw
          case rel => exact ⟨k + 1, rfl, by omega, HF.out, below_drewN HB.out _⟩
          case measure => simp [intOf]; omega
      · have hd1 : decide (b0 - 8 < q0 + upZ q1) = false := by simpa using hg1
        have HF := HK (by unfold clash; rw [hd1]; rfl)
        clear HK HY
        go_wp2_with fail
        go_quiet ((go_at_call 67; exact Calls.quiet_of_same ((rup_any _ _ (by omega) (by omega)).mono (fun _ _ h => ⟨h.1, h.2.symm⟩))))
        go_wp2_with fail
        go_roundw
        case rel => exact ⟨k + 1, rfl, by omega, HF.out, below_drewN HB.out _⟩
        case measure => simp [intOf]; omega
    · have HX : Hid (ps.any (clash (b0, b1)) = false) := by have h := HA.out; rwa [List.take_of_length_le (by omega)] at h
      go_wp2_with fail
      go_ret
      exact ⟨ret_bool (by rw [HE.out, HD.out, HX.out]; rfl), HB.out⟩
end Go.Proofs.Ytcfmimfkaabmkaa
/- The walk of R.insert. -/
set_option linter.unusedVariables false
set_option linter.unusedSimpArgs false
namespace Go.Proofs.Ytcfmimfkaabmkaa
open Go.RowKit
attribute [local go_sem] Oper.semAt_some
theorem psOf_snoc (L : List (Int × List UInt8)) (y : Int × List UInt8) : psOf (L ++ [y]) = psOf L ++ [(y.1, (y.2.length : Int))] := by simp [psOf]
theorem bsOf_snoc (L : List (Int × List UInt8)) (y : Int × List UInt8) : bsOf (L ++ [y]) = bsOf L ++ [y.2] := by simp [bsOf]
theorem drop_at {α : Type} {l : List α} {k : Nat} {y : α} (h : l[k]? = some y) : l.drop k = y :: l.drop (k + 1) := by
  obtain ⟨hk, hy⟩ := List.getElem?_eq_some_iff.1 h
  rw [List.drop_eq_getElem_cons hk, hy]
/-- What is still to come of an insertion. -/
def insRest (x : Int × List UInt8) (d : Bool) (r : List (Int × List UInt8)) : List (Int × List UInt8) := if d then r else insS x r
def InsPost (x : Int × List UInt8) (its : List (Int × List UInt8)) (w : World) (e : Ending) (w' : World) : Prop :=
  ∃ v1 v2, e = .returned (.tuple #[v1, v2]) ∧ OP w' w.heap.size v1 (psOf (insS x its)) ∧ OS w' w.heap.size v2 (bsOf (insS x its)) ∧ Below w.heap.size w w'
def InsI (N : Nat) (W0 : World) (x : Int × List UInt8) (its : List (Int × List UInt8)) (k : Nat) (dn : Bool) (L : List (Int × List UInt8)) (v1 v2 : Value) (wr : World) : Prop :=
  L.length ≤ k + (if dn then 1 else 0) ∧ insS x its = L ++ insRest x dn (its.drop k) ∧ OP wr (N + 1) v1 (psOf L) ∧ OS wr (N + 1) v2 (bsOf L) ∧ Below (N + 1) W0 wr
set_option maxHeartbeats 1000000 in
set_option maxRecDepth 100000 in
theorem insert_any (v1 v2 : Value) (its : List (Int × List UInt8)) (b0 b1 : Int) (t : List UInt8) (w : World) (hR : RP w v1 (psOf its)) (hT : RS w v2 (bsOf its)) (hlen : its.length ≤ 100000) (hb1 : b1 = t.length) :
    Calls Try.prog 69 #[v1, v2, .agg #[.int .i64 b0, .int .i64 b1], strV t] w (InsPost (b0, t) its w) := by
  obtain ⟨o, cap, rfl, hc⟩ := hR
  obtain ⟨o2, cap2, rfl, hc2⟩ := hT
  have HC := hid hc; clear hc
  have HC2 := hid hc2; clear hc2
  have HL1 := hid (psOf_length its)
  have HL2 := hid (bsOf_length its)
  have HBT := hid hb1; clear hb1
  obtain ⟨n, hn⟩ : ∃ n, its.length = n := ⟨_, rfl⟩
  rw [psOf_length, bsOf_length, hn]
  rw [hn] at hlen
  have HN := hid hn; clear hn
  unfold strV
  go_enter Try.func69, Try.ntmps69
  go_wp2_with fail
  obtain ⟨W0, hW0⟩ : ∃ W0, W0 = ((w.alloc (.cells #[.int .i64 b0, .int .i64 b1] 37)).alloc (.cells #[] 37)).alloc (.cells #[] 9) := ⟨_, rfl⟩
  rw [← hW0]
  have hI0 : InsI w.heap.size W0 (b0, t) its 0 false [] (.slice (some ⟨w.heap.size + 1, 0, none⟩) 0 0) (.slice (some ⟨w.heap.size + 1 + 1, 0, none⟩) 0 0) W0 := by
    refine ⟨Nat.le_refl _, rfl, ?_, ?_, Below.refl _ _⟩
    · have h := op_new (w.alloc (.cells #[.int .i64 b0, .int .i64 b1] 37)) (w.heap.size + 1) (by simp)
      rw [World.size_alloc] at h
      rw [hW0]; exact h.below ((Below.refl _ _).alloc (Nat.le_refl _) _)
    · have h := os_new ((w.alloc (.cells #[.int .i64 b0, .int .i64 b1] 37)).alloc (.cells #[] 37)) (w.heap.size + 1) (by simp)
      rw [World.size_alloc, World.size_alloc] at h
      rw [hW0]; exact h
  have hb0 : Below w.heap.size w W0 := by rw [hW0]; exact (((Below.refl w.heap.size w).alloc (Nat.le_refl _) _).alloc (by simp) _).alloc (by simp; omega) _
  have c0 : W0.cell? ⟨w.heap.size, 0, none⟩ = some (.int .i64 b0) := by rw [hW0]; go_simp
  have c1 : W0.cell? ⟨w.heap.size, 1, none⟩ = some (.int .i64 b1) := by rw [hW0]; go_simp
  have hz0 : w.heap.size + 1 ≤ W0.heap.size := by rw [hW0]; simp
  clear hW0
  have HI0 := hid hI0; clear hI0
  have HB0 := hid hb0; clear hb0
  have K0 := hid c0; clear c0
  have K1 := hid c1; clear c1
  go_loopw [10, 11, 12, 13] (fun v1 v2 d i wr => ∃ (k : Nat) (dn : Bool) (L : List (Int × List UInt8)), d = .bool dn ∧ i = .int .i64 k ∧ k ≤ n ∧ Hid (InsI w.heap.size W0 (b0, t) its k dn L v1 v2 wr)) (fun _ _ _ i _ => n - (intOf i).toNat)
  case atStart => exact ⟨0, false, [], rfl, rfl, Nat.zero_le _, HI0⟩
  case round =>
    obtain ⟨k, dn, L, rfl, rfl, hk, HI⟩ := hrel
    by_cases hlt : k < n
    · obtain ⟨y, hy⟩ : ∃ y, its[k]? = some y := ⟨_, List.getElem?_eq_getElem (by have := HN.out; omega)⟩
      obtain ⟨hLl, hins, hop, hos, hbw⟩ := HI.out
      have hww : Below w.heap.size w wr := HB0.out.trans (hbw.mono (by omega))
      have c0 := hbw.cell (p := ⟨w.heap.size, 0, none⟩) (by dsimp only; omega)
      rw [K0.out] at c0
      have c1 := hbw.cell (p := ⟨w.heap.size, 1, none⟩) (by dsimp only; omega)
      rw [K1.out] at c1
      have hyp : (psOf its)[k]? = some (y.1, (y.2.length : Int)) := by unfold psOf; rw [List.getElem?_map, hy]; rfl
      have hyb : (bsOf its)[k]? = some y.2 := by unfold bsOf; rw [List.getElem?_map, hy]; rfl
      have hc := HC.out
      have hc2 := HC2.out
      rcases hc with hc | ⟨b, off, rfl, hbl, hc⟩
      · rw [hc] at hyp; simp at hyp
      rcases hc2 with hc2 | ⟨bb, off2, rfl, hbl2, hc2⟩
      · rw [hc2] at hyb; simp at hyb
      have d0 := keepc hww (hc k _ hyp).1
      have d1 := keepc hww (hc k _ hyp).2
      have d2 := keepc hww (hc2 k _ hyb)
      unfold strV at d2
      have HOP := hid hop
      have HOS := hid hos
      have HBW := hid hbw
      have HINS := hid hins
      have HW := hid hww
      have hbw0 : w.heap.size + 1 ≤ wr.heap.size := by have := hbw.size; omega
      have HY := hid hy
      have hLl' : L.length ≤ k + (if dn then 1 else 0) := hLl
      have hLl : L.length ≤ 100002 := by split at hLl <;> omega
      have HLL := hid hLl'; clear hLl'
      clear hop hos hbw hins hww hc hc2 hyp hyb HI hy
      cases dn with
      | true =>
        have hins' : insS (b0, t) its = (L ++ [y]) ++ insRest (b0, t) true (its.drop (k + 1)) := by have h := HINS.out; rw [drop_at HY.out] at h; rw [h]; simp [insRest]
        have HIN2 := hid hins'; clear hins'
        go_wp2_with fail
        go_quiet (fail)
        go_upto_region 12 with (at_builtin; refine app_piece rfl _ _ rfl (w.heap.size + 1) _ (psOf (L)) (y.1, (y.2.length : Int)) _ _ rfl rfl (HOP.out.below ((below_drewN (Below.refl _ _) _).alloc (by simp) _)) (cell_new _ _ _ 0 _ rfl) (cell_new _ _ _ 1 _ rfl) (by rw [psOf_length]; first | omega | (simp only [List.length_append, List.length_singleton]; omega)) (by simp; omega) ?_)
        intro v1 w1 hop1 hg1
        obtain ⟨hos1, hb1⟩ := after_piece ((below_drewN (Below.refl _ _) _).alloc (by simp) _) HOP.out HOS.out (by omega) hg1
        have d2 := keepB hb1 (by dsimp only; omega) d2
        have HOP1 := hid hop1; have HOS1 := hid hos1; have HB1 := hid hb1; have hz1 := hb1.size; clear hop1 hos1 hb1 hg1
        go_upto_region 6 with (at_builtin; refine app_str rfl _ _ rfl (w.heap.size + 1) _ (bsOf (L)) y.2 _ _ rfl rfl (HOS1.out.below ((Below.refl _ _).alloc (Nat.le_refl _) _)) (cell_new _ _ _ 0 _ rfl) (by rw [bsOf_length]; first | omega | (simp only [List.length_append, List.length_singleton]; omega)) (by simp; omega) ?_)
        intro v2 w2 hos2 hg2
        obtain ⟨hop2, hb2⟩ := after_str ((Below.refl _ _).alloc (Nat.le_refl _) _) HOP1.out HOS1.out (by omega) hg2
        have HOP2 := hid hop2; have HOS2 := hid hos2; have HB2 := hid hb2; have hz2 := hb2.size; clear hop2 hos2 hb2 hg2
        go_wp2_with fail
        go_roundw
        case rel => exact ⟨k + 1, true, L ++ [y], rfl, by go_num, by omega, ⟨by have := HLL.out; simp at this ⊢; omega, HIN2.out, (by have h := HOP2.out; rw [psOf_snoc]; exact h), (by have h := HOS2.out; rw [bsOf_snoc]; exact h), ((HBW.out).trans HB1.out).trans HB2.out⟩⟩
        case measure => simp [intOf]; omega

      | false =>
        by_cases hcmp : b0 < y.1
        · have hd1 : decide (b0 < y.1) = true := by simpa using hcmp
          have HCMP := hid hcmp
          have hins' : insS (b0, t) its = ((L ++ [(b0, t)]) ++ [y]) ++ insRest (b0, t) true (its.drop (k + 1)) := by have h := HINS.out; rw [drop_at HY.out] at h; rw [h]; simp [insRest, insS, HCMP.out]
          have HIN2 := hid hins'; clear hins' HCMP
          go_wp2_with fail
          go_quiet (fail)
          go_upto_region 9 with (at_builtin; refine app_piece rfl _ _ rfl (w.heap.size + 1) _ (psOf (L)) (b0, b1) _ _ rfl rfl (HOP.out.below ((below_drewN (Below.refl _ _) _).alloc (by simp) _)) (cell_new _ _ _ 0 _ rfl) (cell_new _ _ _ 1 _ rfl) (by rw [psOf_length]; first | omega | (simp only [List.length_append, List.length_singleton]; omega)) (by simp; omega) ?_)
          intro v1 w1 hop1 hg1
          obtain ⟨hos1, hb1⟩ := after_piece ((below_drewN (Below.refl _ _) _).alloc (by simp) _) HOP.out HOS.out (by omega) hg1
          have d0 := keepB hb1 (by dsimp only; omega) d0
          have d1 := keepB hb1 (by dsimp only; omega) d1
          have d2 := keepB hb1 (by dsimp only; omega) d2
          have HOP1 := hid hop1; have HOS1 := hid hos1; have HB1 := hid hb1; have hz1 := hb1.size; clear hop1 hos1 hb1 hg1
          go_upto_region 10 with (at_builtin; refine app_str rfl _ _ rfl (w.heap.size + 1) _ (bsOf (L)) t _ _ rfl rfl (HOS1.out.below ((Below.refl _ _).alloc (Nat.le_refl _) _)) (cell_new _ _ _ 0 _ rfl) (by rw [bsOf_length]; first | omega | (simp only [List.length_append, List.length_singleton]; omega)) (by simp; omega) ?_)
          intro v2 w2 hos2 hg2
          obtain ⟨hop2, hb2⟩ := after_str ((Below.refl _ _).alloc (Nat.le_refl _) _) HOP1.out HOS1.out (by omega) hg2
          have d0 := keepB hb2 (by dsimp only; omega) d0
          have d1 := keepB hb2 (by dsimp only; omega) d1
          have d2 := keepB hb2 (by dsimp only; omega) d2
          have HOP2 := hid hop2; have HOS2 := hid hos2; have HB2 := hid hb2; have hz2 := hb2.size; clear hop2 hos2 hb2 hg2
          have HOP3 : Hid (OP w2 (w.heap.size + 1) v1 (psOf (L ++ [(b0, t)]))) := by have h := HOP2.out; rw [psOf_snoc, ← HBT.out]; exact h
          have HOS3 : Hid (OS w2 (w.heap.size + 1) v2 (bsOf (L ++ [(b0, t)]))) := by have h := HOS2.out; rw [bsOf_snoc]; exact h
          go_upto_region 12 with (at_builtin; refine app_piece rfl _ _ rfl (w.heap.size + 1) _ (psOf (L ++ [(b0, t)])) (y.1, (y.2.length : Int)) _ _ rfl rfl (HOP3.out.below ((Below.refl _ _).alloc (Nat.le_refl _) _)) (cell_new _ _ _ 0 _ rfl) (cell_new _ _ _ 1 _ rfl) (by rw [psOf_length]; first | omega | (simp only [List.length_append, List.length_singleton]; omega)) (by simp; omega) ?_)
          intro v4 w4 hop4 hg4
          obtain ⟨hos4, hb4⟩ := after_piece ((Below.refl _ _).alloc (Nat.le_refl _) _) HOP3.out HOS3.out (by omega) hg4
          have d2 := keepB hb4 (by dsimp only; omega) d2
          have HOP4 := hid hop4; have HOS4 := hid hos4; have HB4 := hid hb4; have hz4 := hb4.size; clear hop4 hos4 hb4 hg4
          go_upto_region 6 with (at_builtin; refine app_str rfl _ _ rfl (w.heap.size + 1) _ (bsOf (L ++ [(b0, t)])) y.2 _ _ rfl rfl (HOS4.out.below ((Below.refl _ _).alloc (Nat.le_refl _) _)) (cell_new _ _ _ 0 _ rfl) (by rw [bsOf_length]; first | omega | (simp only [List.length_append, List.length_singleton]; omega)) (by simp; omega) ?_)
          intro v5 w5 hos5 hg5
          obtain ⟨hop5, hb5⟩ := after_str ((Below.refl _ _).alloc (Nat.le_refl _) _) HOP4.out HOS4.out (by omega) hg5
          have HOP5 := hid hop5; have HOS5 := hid hos5; have HB5 := hid hb5; have hz5 := hb5.size; clear hop5 hos5 hb5 hg5
          go_wp2_with fail
          go_roundw
          case rel => exact ⟨k + 1, true, (L ++ [(b0, t)]) ++ [y], rfl, by go_num, by omega, ⟨by have := HLL.out; simp at this ⊢; omega, HIN2.out, (by have h := HOP5.out; rw [psOf_snoc]; exact h), (by have h := HOS5.out; rw [bsOf_snoc]; exact h), ((((HBW.out).trans HB1.out).trans HB2.out).trans HB4.out).trans HB5.out⟩⟩
          case measure => simp [intOf]; omega

        · have hd1 : decide (b0 < y.1) = false := by simpa using hcmp
          have HCMP := hid hcmp
          have hins' : insS (b0, t) its = (L ++ [y]) ++ insRest (b0, t) false (its.drop (k + 1)) := by have h := HINS.out; rw [drop_at HY.out] at h; rw [h]; simp [insRest, insS, HCMP.out]
          have HIN2 := hid hins'; clear hins' HCMP
          go_wp2_with fail
          go_quiet (fail)
          go_upto_region 12 with (at_builtin; refine app_piece rfl _ _ rfl (w.heap.size + 1) _ (psOf (L)) (y.1, (y.2.length : Int)) _ _ rfl rfl (HOP.out.below ((below_drewN (Below.refl _ _) _).alloc (by simp) _)) (cell_new _ _ _ 0 _ rfl) (cell_new _ _ _ 1 _ rfl) (by rw [psOf_length]; first | omega | (simp only [List.length_append, List.length_singleton]; omega)) (by simp; omega) ?_)
          intro v1 w1 hop1 hg1
          obtain ⟨hos1, hb1⟩ := after_piece ((below_drewN (Below.refl _ _) _).alloc (by simp) _) HOP.out HOS.out (by omega) hg1
          have d2 := keepB hb1 (by dsimp only; omega) d2
          have HOP1 := hid hop1; have HOS1 := hid hos1; have HB1 := hid hb1; have hz1 := hb1.size; clear hop1 hos1 hb1 hg1
          go_upto_region 6 with (at_builtin; refine app_str rfl _ _ rfl (w.heap.size + 1) _ (bsOf (L)) y.2 _ _ rfl rfl (HOS1.out.below ((Below.refl _ _).alloc (Nat.le_refl _) _)) (cell_new _ _ _ 0 _ rfl) (by rw [bsOf_length]; first | omega | (simp only [List.length_append, List.length_singleton]; omega)) (by simp; omega) ?_)
          intro v2 w2 hos2 hg2
          obtain ⟨hop2, hb2⟩ := after_str ((Below.refl _ _).alloc (Nat.le_refl _) _) HOP1.out HOS1.out (by omega) hg2
          have HOP2 := hid hop2; have HOS2 := hid hos2; have HB2 := hid hb2; have hz2 := hb2.size; clear hop2 hos2 hb2 hg2
          go_wp2_with fail
          go_roundw
          case rel => exact ⟨k + 1, false, L ++ [y], rfl, by go_num, by omega, ⟨by have := HLL.out; simp at this ⊢; omega, HIN2.out, (by have h := HOP2.out; rw [psOf_snoc]; exact h), (by have h := HOS2.out; rw [bsOf_snoc]; exact h), ((HBW.out).trans HB1.out).trans HB2.out⟩⟩
          case measure => simp [intOf]; omega

    · obtain ⟨hLl, hins, hop, hos, hbw⟩ := HI.out
      have hbw0 : w.heap.size + 1 ≤ wr.heap.size := by have := hbw.size; omega
      have c0 := hbw.cell (p := ⟨w.heap.size, 0, none⟩) (by dsimp only; omega)
      rw [K0.out] at c0
      have c1 := hbw.cell (p := ⟨w.heap.size, 1, none⟩) (by dsimp only; omega)
      rw [K1.out] at c1
      have hLl : L.length ≤ 100002 := by split at hLl <;> omega
      rw [List.drop_eq_nil_of_le (by have := HN.out; omega)] at hins
      have HOP := hid hop
      have HOS := hid hos
      have HBW := hid hbw
      have HINS := hid hins
      clear hop hos hbw hins HI
      have HFB : Hid (Below w.heap.size w wr) := HB0.out.trans (HBW.out.mono (by omega))
      cases dn with
      | true =>
        have hL : insS (b0, t) its = L := by have h := HINS.out; rw [h]; simp [insRest]
        have HL := hid hL; clear hL
        go_wp2_with fail
        go_ret2
        exact ⟨_, _, rfl, by rw [HL.out]; exact HOP.out.mono (by omega), by rw [HL.out]; exact HOS.out.mono (by omega), HFB.out⟩

      | false =>
        have hL : insS (b0, t) its = L ++ [(b0, t)] := by have h := HINS.out; rw [h]; simp [insRest, insS]
        have HL := hid hL; clear hL
        go_upto_region 15 with (at_builtin; refine app_piece rfl _ _ rfl (w.heap.size + 1) _ (psOf (L)) (b0, b1) _ _ rfl rfl (HOP.out.below ((Below.refl _ _).alloc (Nat.le_refl _) _)) (cell_new _ _ _ 0 _ rfl) (cell_new _ _ _ 1 _ rfl) (by rw [psOf_length]; first | omega | (simp only [List.length_append, List.length_singleton]; omega)) (by simp; omega) ?_)
        intro v1 w1 hop1 hg1
        obtain ⟨hos1, hb1⟩ := after_piece ((Below.refl _ _).alloc (Nat.le_refl _) _) HOP.out HOS.out (by omega) hg1
        have HOP1 := hid hop1; have HOS1 := hid hos1; have HB1 := hid hb1; have hz1 := hb1.size; clear hop1 hos1 hb1 hg1
        go_upto_region 16 with (at_builtin; refine app_str rfl _ _ rfl (w.heap.size + 1) _ (bsOf (L)) t _ _ rfl rfl (HOS1.out.below ((Below.refl _ _).alloc (Nat.le_refl _) _)) (cell_new _ _ _ 0 _ rfl) (by rw [bsOf_length]; first | omega | (simp only [List.length_append, List.length_singleton]; omega)) (by simp; omega) ?_)
        intro v2 w2 hos2 hg2
        obtain ⟨hop2, hb2⟩ := after_str ((Below.refl _ _).alloc (Nat.le_refl _) _) HOP1.out HOS1.out (by omega) hg2
        have HOP2 := hid hop2; have HOS2 := hid hos2; have HB2 := hid hb2; have hz2 := hb2.size; clear hop2 hos2 hb2 hg2
        go_wp2_with fail
        go_ret2
        exact ⟨_, _, rfl, by rw [HL.out, psOf_snoc]; have h := HOP2.out; rw [HBT.out] at h; exact h.mono (by omega), by rw [HL.out, bsOf_snoc]; exact HOS2.out.mono (by omega), HFB.out.trans ((HB1.out.trans HB2.out).mono (by omega))⟩
end Go.Proofs.Ytcfmimfkaabmkaa
