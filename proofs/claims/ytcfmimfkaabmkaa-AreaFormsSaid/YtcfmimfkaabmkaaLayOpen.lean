/- What open takes for an area, and the units that it then has, by the layout. -/
import Derived.Test.YtcfmimfkaabmkaaLay
import Derived.Test.YtcfmimfkaabmkaaA6
set_option linter.unusedVariables false
set_option linter.unusedSimpArgs false
namespace Go.Proofs.Ytcfmimfkaabmkaa
theorem num_at {a pre t : List UInt8} {n q : Nat} (ha : a = pre ++ (four n ++ t)) (hq : pre.length = q) (hn : n < 4294967296) : num a q = (n : Int) := by
  have := num_append_right (a := pre) (b := four n ++ t) 0
  rw [Nat.add_zero, hq, ← ha] at this
  rw [this, num_four n hn]
/-- The part of a list from i up to j. -/
def sl (l : List UInt8) (i j : Nat) : List UInt8 := (l.drop i).take (j - i)
theorem sl_length {l : List UInt8} {i j : Nat} (h : j ≤ l.length) : (sl l i j).length = j - i := by simp [sl]; omega
theorem sl_app {l : List UInt8} {i j k : Nat} (h1 : i ≤ j) (h2 : j ≤ k) : sl l i k = sl l i j ++ sl l j k := by
  unfold sl
  have : k - i = (j - i) + (k - j) := by omega
  rw [this, List.take_add, List.drop_drop]
  congr 3; omega
theorem sl_mid {pre m post : List UInt8} {i j : Nat} (hi : pre.length = i) (hj : i + m.length = j) : sl (pre ++ (m ++ post)) i j = m := by
  unfold sl
  rw [← hi, List.drop_left, ← hj, ← hi, Nat.add_sub_cancel_left, List.take_left]
theorem used_at {a pre post s : List UInt8} {q : Nat} {en : Int} {gap : Bool} (ha : a = pre ++ (usedB s ++ post)) (hq : pre.length = q) (hs : 1 ≤ s.length) (hen : ((q + 8 + upN s.length : Nat) : Int) ≤ en) (h2 : en ≤ 8192) :
    wholeS a (q : Int) en gap = (((q : Int), (s.length : Int), 1), true) := by
  have hu := upN_bd s.length
  have n0 : num a q = (s.length : Int) := num_at (t := four 1 ++ s ++ zs (upN s.length - s.length) ++ post) (by rw [ha]; simp [usedB]) hq (by omega)
  have n1 : num a (q + 4) = 1 := by
    have := num_at (a := a) (pre := pre ++ four s.length) (n := 1) (q := q + 4) (t := s ++ zs (upN s.length - s.length) ++ post) (by rw [ha]; simp [usedB]) (by simp [hq, four_length]) (by omega)
    exact this
  unfold wholeS
  rw [if_neg (by omega), Int.toNat_natCast, n0, upZ_nat, if_neg (by omega), if_pos n1]
  have hd : (a.drop ((q : Int) + 8 + (s.length : Int)).toNat).take ((upN s.length : Int) - (s.length : Int)).toNat = zs (upN s.length - s.length) := by
    have e1 : ((q : Int) + 8 + (s.length : Int)).toNat = (pre ++ four s.length ++ four 1 ++ s).length := by simp [four_length, hq]; omega
    have e2 : ((upN s.length : Int) - (s.length : Int)).toNat = (zs (upN s.length - s.length)).length := by rw [zs_length]; omega
    have e3 : a = (pre ++ four s.length ++ four 1 ++ s) ++ (zs (upN s.length - s.length) ++ post) := by rw [ha]; simp [usedB]
    rw [e1, e2, e3, List.drop_left, List.take_left]
  rw [hd, zs_all, decide_eq_true (by omega)]
  rfl
theorem gap_at {a pre post : List UInt8} {q g : Nat} {en : Int} (ha : a = pre ++ (gapB g ++ post)) (hq : pre.length = q) (hg : 8 ≤ g) (hg8 : g % 8 = 0) (hen : ((q + g : Nat) : Int) ≤ en) (h2 : en ≤ 8192) (h1 : 8 < q ∨ 16 ≤ g) :
    wholeS a (q : Int) en false = (((q : Int), ((g - 8 : Nat) : Int), 2), true) := by
  have hgb : gapB g = four (g - 8) ++ four 2 ++ zs (g - 8) := by unfold gapB; rw [if_neg (by omega)]
  have hu : upN (g - 8) = g - 8 := by unfold upN; omega
  have n0 : num a q = ((g - 8 : Nat) : Int) := num_at (t := four 2 ++ zs (g - 8) ++ post) (by rw [ha, hgb]; simp) hq (by omega)
  have n1 : num a (q + 4) = 2 := by
    have := num_at (a := a) (pre := pre ++ four (g - 8)) (n := 2) (q := q + 4) (t := zs (g - 8) ++ post) (by rw [ha, hgb]; simp) (by simp [hq, four_length]) (by omega)
    exact this
  unfold wholeS
  rw [if_neg (by omega), Int.toNat_natCast, n0, upZ_nat, hu, if_neg (by omega), if_neg (by rw [n1]; decide), if_pos n1]
  have hd : (a.drop ((q : Int) + 8).toNat).take ((g - 8 : Nat) : Int).toNat = zs (g - 8) := by
    have e1 : ((q : Int) + 8).toNat = (pre ++ four (g - 8) ++ four 2).length := by simp [four_length, hq]; omega
    have e2 : ((g - 8 : Nat) : Int).toNat = (zs (g - 8)).length := by rw [zs_length]; omega
    have e3 : a = (pre ++ four (g - 8) ++ four 2) ++ (zs (g - 8) ++ post) := by rw [ha, hgb]; simp
    rw [e1, e2, e3, List.drop_left, List.take_left]
  rw [hd, zs_all, decide_eq_true (by omega)]
  rcases h1 with h1 | h1
  · rw [decide_eq_true (show (8 : Int) < (q : Int) by omega)]; rfl
  · rw [decide_eq_true (show (8 : Int) ≤ ((g - 8 : Nat) : Int) by omega)]; simp
/-- The units of a layout: offset, size, mark. -/
def unitsOf : Nat → Lay → List (Int × Int × Int)
  | _, [] => []
  | e, (p, s) :: r => (if p - 8 - e = 0 then [] else [((e : Int), ((p - 8 - e - 8 : Nat) : Int), 2)]) ++ (((p - 8 : Nat) : Int), (s.length : Int), 1) :: unitsOf (p + upN s.length) r

theorem loop_back (en : Int) (h2 : en ≤ 8192) : ∀ (lay : Lay) (b : Bool) (a pre post : List UInt8) (e : Nat) (n : Int), e % 8 = 0 → 8 ≤ e → (e = 8 → b = true) → ok b e lay → pre.length = e → a = pre ++ (enc e lay ++ post) → (endOf e lay : Int) = en →
    openLoop (en - (e : Int)).toNat a (e : Int) en false n = some (false, n + lay.length) ∧ UL a en (e : Int) (unitsOf e lay)
  | [], b, a, pre, post, e, n, _, _, _, _, _, _, hen => by
    have hen' : en = (e : Int) := hen.symm
    rw [openLoop_stop _ _ _ _ _ _ (by omega)]
    exact ⟨by simp, .nil (by omega)⟩
  | (p, s) :: r, b, a, pre, post, e, n, he, he8, hb, hok, hpre, ha, hen => by
    have hge := endOf_ge hok.2.2.2.2
    have hgo := gap_ok he hok
    obtain ⟨hp8, hep, hfirst, hs1, hr⟩ := hok
    have hu := upN_bd s.length
    have hu8 := upN_8 s.length
    have hen' : (endOf (p + upN s.length) r : Int) = en := hen
    have ha' : a = pre ++ (gapB (p - 8 - e) ++ (usedB s ++ (enc (p + upN s.length) r ++ post))) := by rw [ha]; simp [enc]
    -- the allocation, wherever it begins
    have main : ∀ (gap : Bool), openLoop (en - ((p - 8 : Nat) : Int)).toNat a ((p - 8 : Nat) : Int) en gap n = some (false, n + (((p, s) :: r : Lay).length : Nat)) ∧ UL a en ((p - 8 : Nat) : Int) ((((p - 8 : Nat) : Int), (s.length : Int), 1) :: unitsOf (p + upN s.length) r) := by
      intro gap
      have hpl : (pre ++ gapB (p - 8 - e)).length = p - 8 := by rw [List.length_append, hpre, gapB_length _ hgo]; omega
      have hw := used_at (a := a) (pre := pre ++ gapB (p - 8 - e)) (post := enc (p + upN s.length) r ++ post) (s := s) (q := p - 8) (en := en) (gap := gap) (by rw [ha']; simp) hpl hs1 (by omega) h2
      obtain ⟨w1, w2, w3, w4, w5⟩ := wholeS_ok a ((p - 8 : Nat) : Int) en gap (by rw [hw])
      rw [hw] at w2 w3
      simp only at w2 w3
      have hpos : ((p - 8 : Nat) : Int) + 8 + upZ (s.length : Int) = ((p + upN s.length : Nat) : Int) := by rw [upZ_nat]; omega
      obtain ⟨i1, i2⟩ := loop_back en h2 r false a (pre ++ gapB (p - 8 - e) ++ usedB s) post (p + upN s.length) (n + 1) (by omega) (by omega) (by omega) hr (by rw [List.length_append, hpl, usedB_length]; omega) (by rw [ha']; simp) hen'
      constructor
      · rw [openLoop_step a en _ gap n (by omega) (by rw [hw]), ← w2, hpos, ← w3]
        have : ((1 : Int) == 2) = false := rfl
        rw [this]
        simp only [Bool.false_eq_true, if_false]
        rw [i1]
        simp only [List.length_cons, Option.some.injEq, Prod.mk.injEq, true_and]
        omega
      · have := UL.cons (l := a) (en := en) (a := ((p - 8 : Nat) : Int)) (r := unitsOf (p + upN s.length) r) (by omega) (by omega) (by rw [← w2, hpos]; omega) (by rw [← w2, hpos]; exact i2)
        rwa [← w2, ← w3] at this
    by_cases hg : p - 8 - e = 0
    · have hpe : p - 8 = e := by omega
      have := main false
      rw [hpe] at this
      refine ⟨this.1, ?_⟩
      unfold unitsOf
      rw [if_pos hg, List.nil_append, hpe]
      exact this.2
    · have hg8 : 8 ≤ p - 8 - e := by omega
      have hw := gap_at (a := a) (pre := pre) (post := usedB s ++ (enc (p + upN s.length) r ++ post)) (q := e) (g := p - 8 - e) (en := en) ha' hpre hg8 (by omega) (by omega) h2 (by
        by_cases h8 : e = 8
        · have := hfirst (hb h8); omega
        · omega)
      obtain ⟨w1, w2, w3, w4, w5⟩ := wholeS_ok a (e : Int) en false (by rw [hw])
      rw [hw] at w2 w3
      simp only at w2 w3
      have hpos : (e : Int) + 8 + upZ ((p - 8 - e - 8 : Nat) : Int) = ((p - 8 : Nat) : Int) := by
        rw [upZ_nat]
        have : upN (p - 8 - e - 8) = p - 8 - e - 8 := by unfold upN; omega
        omega
      obtain ⟨m1, m2⟩ := main true
      constructor
      · rw [openLoop_step a en _ false n (by omega) (by rw [hw]), ← w2, hpos, ← w3]
        exact m1
      · unfold unitsOf
        rw [if_neg hg]
        have := UL.cons (l := a) (en := en) (a := (e : Int)) (r := (((p - 8 : Nat) : Int), (s.length : Int), 1) :: unitsOf (p + upN s.length) r) (by omega) (by omega) (by rw [← w2, hpos]; omega) (by rw [← w2, hpos]; exact m2)
        rwa [← w2, ← w3] at this
end Go.Proofs.Ytcfmimfkaabmkaa
