/- The layout of an area, in plain lists: its bytes out of its allocations, and back. No program. -/
import Derived.Test.YtcfmimfkaabmkaaXA
import Derived.Test.YtcfmimfkaabmkaaXO
set_option linter.unusedVariables false
set_option linter.unusedSimpArgs false
namespace Go.Proofs.Ytcfmimfkaabmkaa
/-- The allocations of an area: offset and bytes of each. -/
abbrev Lay := List (Nat × List UInt8)
def upN (n : Nat) : Nat := (n + 7) / 8 * 8
theorem upN_bd (n : Nat) : n ≤ upN n ∧ upN n ≤ n + 7 := by unfold upN; omega
theorem upN_8 (n : Nat) : upN n % 8 = 0 := by unfold upN; omega
theorem upZ_nat (n : Nat) : upZ (n : Int) = (upN n : Int) := by unfold upZ upN; omega
def four (n : Nat) : List UInt8 := [UInt8.ofNat (n / 16777216), UInt8.ofNat (n / 65536), UInt8.ofNat (n / 256), UInt8.ofNat n]
theorem four_length (n : Nat) : (four n).length = 4 := rfl
def zs (n : Nat) : List UInt8 := List.replicate n 0
theorem zs_length (n : Nat) : (zs n).length = n := by simp [zs]
theorem zs_add (m n : Nat) : zs (m + n) = zs m ++ zs n := by simp [zs, List.replicate_append_replicate]
theorem zs_all (n : Nat) : (zs n).all (· == 0) = true := by simp [zs]
theorem all_zs {l : List UInt8} (h : l.all (· == 0) = true) : l = zs l.length := by
  unfold zs
  rw [List.eq_replicate_iff]
  exact ⟨rfl, fun b hb => by simpa using List.all_eq_true.1 h b hb⟩
/-- The bytes of a gap of g bytes, its head among them. -/
def gapB (g : Nat) : List UInt8 := if g = 0 then [] else four (g - 8) ++ four 2 ++ zs (g - 8)
theorem gapB_length (g : Nat) (h : g = 0 ∨ 8 ≤ g) : (gapB g).length = g := by
  unfold gapB; split
  · rename_i h0; rw [h0]; rfl
  · simp [four_length, zs_length]; omega
def usedB (s : List UInt8) : List UInt8 := four s.length ++ four 1 ++ s ++ zs (upN s.length - s.length)
theorem usedB_length (s : List UInt8) : (usedB s).length = 8 + upN s.length := by
  have := upN_bd s.length
  simp [usedB, four_length, zs_length]; omega
def enc : Nat → Lay → List UInt8
  | _, [] => []
  | e, (p, s) :: r => gapB (p - 8 - e) ++ (usedB s ++ enc (p + upN s.length) r)
def endOf : Nat → Lay → Nat
  | e, [] => e
  | _, (p, s) :: r => endOf (p + upN s.length) r
def ok : Bool → Nat → Lay → Prop
  | _, _, [] => True
  | first, e, (p, s) :: r => p % 8 = 0 ∧ e + 8 ≤ p ∧ (first = true → p ≠ e + 16) ∧ 1 ≤ s.length ∧ ok false (p + upN s.length) r
instance ok_dec : (b : Bool) → (e : Nat) → (l : Lay) → Decidable (ok b e l)
  | _, _, [] => isTrue trivial
  | b, e, (p, s) :: r => by
    unfold ok
    have := ok_dec false (p + upN s.length) r
    exact inferInstance
theorem ok_weak : ∀ {b : Bool} {e : Nat} {l : Lay}, ok b e l → ok false e l
  | _, _, [], _ => trivial
  | _, _, (_, _) :: _, ⟨h1, h2, _, h4, h5⟩ => ⟨h1, h2, (fun h => by cases h), h4, h5⟩
theorem endOf_ge : ∀ {b : Bool} {e : Nat} {l : Lay}, ok b e l → e ≤ endOf e l
  | _, _, [], _ => Nat.le_refl _
  | _, e, (p, s) :: r, ⟨_, h2, _, _, h5⟩ => by have := endOf_ge h5; unfold endOf; omega
theorem endOf_8 : ∀ {b : Bool} {e : Nat} {l : Lay}, e % 8 = 0 → ok b e l → endOf e l % 8 = 0
  | _, _, [], he, _ => he
  | _, e, (p, s) :: r, _, ⟨h1, _, _, _, h5⟩ => by
    unfold endOf
    exact endOf_8 (by have := upN_8 s.length; omega) h5
theorem gap_ok {b : Bool} {e p : Nat} {s : List UInt8} {r : Lay} (he : e % 8 = 0) (h : ok b e ((p, s) :: r)) : p - 8 - e = 0 ∨ 8 ≤ p - 8 - e := by
  obtain ⟨h1, h2, _⟩ := h; omega
theorem enc_length : ∀ {b : Bool} {e : Nat} {l : Lay}, e % 8 = 0 → ok b e l → (enc e l).length = endOf e l - e
  | _, _, [], _, _ => by simp [enc, endOf]
  | b, e, (p, s) :: r, he, h => by
    have hg := gap_ok he h
    obtain ⟨h1, h2, h3, h4, h5⟩ := h
    have hb := upN_8 s.length
    have ih := enc_length (e := p + upN s.length) (by omega) h5
    have hge := endOf_ge h5
    unfold enc endOf
    rw [List.length_append, List.length_append, gapB_length _ hg, usedB_length, ih]
    omega
/-- The bytes of an area of n bytes. -/
def render (n : Nat) (l : Lay) : List UInt8 := four (endOf 8 l - 8) ++ (four l.length ++ (enc 8 l ++ zs (n - endOf 8 l)))
theorem render_length {n : Nat} {l : Lay} (h : ok true 8 l) (hn : endOf 8 l ≤ n) : (render n l).length = n := by
  have := endOf_ge h
  simp only [render, List.length_append, four_length, enc_length (e := 8) rfl h, zs_length]
  omega
/-- a is the area with the allocations l. -/
def Area (a : List UInt8) (l : Lay) : Prop := 16 ≤ a.length ∧ a.length ≤ 8192 ∧ ok true 8 l ∧ endOf 8 l ≤ a.length ∧ a = render a.length l

/-! ### Numbers of four bytes -/
theorem byt_append_left {a b : List UInt8} {i : Nat} (h : i < a.length) : byt (a ++ b) i = byt a i := by
  unfold byt; rw [List.getElem?_append_left h]
theorem byt_append_right {a b : List UInt8} (i : Nat) : byt (a ++ b) (a.length + i) = byt b i := by
  unfold byt; rw [List.getElem?_append_right (by omega), Nat.add_sub_cancel_left]
theorem num_append_left {a b : List UInt8} {i : Nat} (h : i + 4 ≤ a.length) : num (a ++ b) i = num a i := by
  unfold num; rw [byt_append_left (by omega), byt_append_left (by omega), byt_append_left (by omega), byt_append_left (by omega)]
theorem num_append_right {a b : List UInt8} (i : Nat) : num (a ++ b) (a.length + i) = num b i := by
  unfold num; rw [byt_append_right, Nat.add_assoc, byt_append_right, Nat.add_assoc, byt_append_right, Nat.add_assoc, byt_append_right]
theorem num_four (n : Nat) (h : n < 4294967296) (t : List UInt8) : num (four n ++ t) 0 = (n : Int) := by
  unfold num byt four
  simp
  omega
theorem four_num (l : List UInt8) (i : Nat) (h : i + 4 ≤ l.length) : (l.drop i).take 4 = four (num l i).toNat := by
  obtain ⟨a, b, c, d, t, ht⟩ : ∃ a b c d t, l.drop i = a :: b :: c :: d :: t := by
    match hd : l.drop i with
    | [] => have := congrArg List.length hd; simp at this; omega
    | [a] => have := congrArg List.length hd; simp at this; omega
    | [a, b] => have := congrArg List.length hd; simp at this; omega
    | [a, b, c] => have := congrArg List.length hd; simp at this; omega
    | a :: b :: c :: d :: t => exact ⟨a, b, c, d, t, rfl⟩
  have e : ∀ k, l[i + k]? = (a :: b :: c :: d :: t)[k]? := fun k => by rw [← ht, List.getElem?_drop]
  have e0 : byt l i = (a.toNat : Int) := by have := e 0; simp only [Nat.add_zero] at this; unfold byt; rw [this]; rfl
  have e1 : byt l (i + 1) = (b.toNat : Int) := by unfold byt; rw [e 1]; rfl
  have e2 : byt l (i + 2) = (c.toNat : Int) := by unfold byt; rw [e 2]; rfl
  have e3 : byt l (i + 3) = (d.toNat : Int) := by unfold byt; rw [e 3]; rfl
  rw [ht]
  unfold num
  rw [e0, e1, e2, e3]
  have ha := a.toNat_lt; have hb := b.toNat_lt; have hc := c.toNat_lt; have hd := d.toNat_lt
  generalize hA : a.toNat = A at *
  generalize hB : b.toNat = B at *
  generalize hC : c.toNat = C at *
  generalize hD : d.toNat = D at *
  have hX : (A : Int) * 16777216 + (B : Int) * 65536 + (C : Int) * 256 + (D : Int) = ((A * 16777216 + B * 65536 + C * 256 + D : Nat) : Int) := by simp
  rw [hX, Int.toNat_natCast]
  have d1 : (A * 16777216 + B * 65536 + C * 256 + D) / 16777216 = A := by
    rw [show A * 16777216 + B * 65536 + C * 256 + D = (B * 65536 + C * 256 + D) + A * 16777216 by ac_rfl, Nat.add_mul_div_right _ _ (by decide), Nat.div_eq_of_lt (by omega), Nat.zero_add]
  have d2 : (A * 16777216 + B * 65536 + C * 256 + D) / 65536 = A * 256 + B := by
    rw [show A * 16777216 + B * 65536 + C * 256 + D = (C * 256 + D) + (A * 256 + B) * 65536 by omega, Nat.add_mul_div_right _ _ (by decide), Nat.div_eq_of_lt (by omega), Nat.zero_add]
  have d3 : (A * 16777216 + B * 65536 + C * 256 + D) / 256 = A * 65536 + B * 256 + C := by
    rw [show A * 16777216 + B * 65536 + C * 256 + D = D + (A * 65536 + B * 256 + C) * 256 by omega, Nat.add_mul_div_right _ _ (by decide), Nat.div_eq_of_lt (by omega), Nat.zero_add]
  unfold four
  rw [d1, d2, d3]
  simp only [List.take_succ_cons, List.take_zero]
  have u : ∀ (x : UInt8) (m k : Nat), x.toNat = k → m % 256 = k → UInt8.ofNat m = x := fun x m k hx h => by
    apply UInt8.toNat_inj.1
    rw [UInt8.toNat_ofNat', hx]; exact h
  rw [u a _ A hA (by omega), u b _ B hB (by omega), u c _ C hC (by omega), u d _ D hD (by omega)]
end Go.Proofs.Ytcfmimfkaabmkaa
/- What open takes for an area, and the units that it then has, by the layout. -/
set_option linter.unusedVariables false
set_option linter.unusedSimpArgs false
namespace Go.Proofs.Ytcfmimfkaabmkaa
theorem num_at {a pre t : List UInt8} {n q : Nat} (ha : a = pre ++ (four n ++ t)) (hq : pre.length = q) (hn : n < 4294967296) : num a q = (n : Int) := by
  have := num_append_right (a := pre) (b := four n ++ t) 0
  rw [Nat.add_zero, hq, ← ha] at this
  rw [this, num_four n hn]
/-- The part of a list from i up to j. -/
def sl (l : List UInt8) (i j : Nat) : List UInt8 := (l.drop i).take (j - i)
theorem sl_length {l : List UInt8} {i j : Nat} (h : j ≤ l.length) : (sl l i j).length = j - i := by simp [sl]; omega
theorem sl_app {l : List UInt8} {i j k : Nat} (h1 : i ≤ j) (h2 : j ≤ k) : sl l i k = sl l i j ++ sl l j k := by
  unfold sl
  have : k - i = (j - i) + (k - j) := by omega
  rw [this, List.take_add, List.drop_drop]
  congr 3; omega
theorem sl_mid {pre m post : List UInt8} {i j : Nat} (hi : pre.length = i) (hj : i + m.length = j) : sl (pre ++ (m ++ post)) i j = m := by
  unfold sl
  rw [← hi, List.drop_left, ← hj, ← hi, Nat.add_sub_cancel_left, List.take_left]
theorem used_at {a pre post s : List UInt8} {q : Nat} {en : Int} {gap : Bool} (ha : a = pre ++ (usedB s ++ post)) (hq : pre.length = q) (hs : 1 ≤ s.length) (hen : ((q + 8 + upN s.length : Nat) : Int) ≤ en) (h2 : en ≤ 8192) :
    wholeS a (q : Int) en gap = (((q : Int), (s.length : Int), 1), true) := by
  have hu := upN_bd s.length
  have n0 : num a q = (s.length : Int) := num_at (t := four 1 ++ s ++ zs (upN s.length - s.length) ++ post) (by rw [ha]; simp [usedB]) hq (by omega)
  have n1 : num a (q + 4) = 1 := by
    have := num_at (a := a) (pre := pre ++ four s.length) (n := 1) (q := q + 4) (t := s ++ zs (upN s.length - s.length) ++ post) (by rw [ha]; simp [usedB]) (by simp [hq, four_length]) (by omega)
    exact this
  unfold wholeS
  rw [if_neg (by omega), Int.toNat_natCast, n0, upZ_nat, if_neg (by omega), if_pos n1]
  have hd : (a.drop ((q : Int) + 8 + (s.length : Int)).toNat).take ((upN s.length : Int) - (s.length : Int)).toNat = zs (upN s.length - s.length) := by
    have e1 : ((q : Int) + 8 + (s.length : Int)).toNat = (pre ++ four s.length ++ four 1 ++ s).length := by simp [four_length, hq]; omega
    have e2 : ((upN s.length : Int) - (s.length : Int)).toNat = (zs (upN s.length - s.length)).length := by rw [zs_length]; omega
    have e3 : a = (pre ++ four s.length ++ four 1 ++ s) ++ (zs (upN s.length - s.length) ++ post) := by rw [ha]; simp [usedB]
    rw [e1, e2, e3, List.drop_left, List.take_left]
  rw [hd, zs_all, decide_eq_true (by omega)]
  rfl
theorem gap_at {a pre post : List UInt8} {q g : Nat} {en : Int} (ha : a = pre ++ (gapB g ++ post)) (hq : pre.length = q) (hg : 8 ≤ g) (hg8 : g % 8 = 0) (hen : ((q + g : Nat) : Int) ≤ en) (h2 : en ≤ 8192) (h1 : 8 < q ∨ 16 ≤ g) :
    wholeS a (q : Int) en false = (((q : Int), ((g - 8 : Nat) : Int), 2), true) := by
  have hgb : gapB g = four (g - 8) ++ four 2 ++ zs (g - 8) := by unfold gapB; rw [if_neg (by omega)]
  have hu : upN (g - 8) = g - 8 := by unfold upN; omega
  have n0 : num a q = ((g - 8 : Nat) : Int) := num_at (t := four 2 ++ zs (g - 8) ++ post) (by rw [ha, hgb]; simp) hq (by omega)
  have n1 : num a (q + 4) = 2 := by
    have := num_at (a := a) (pre := pre ++ four (g - 8)) (n := 2) (q := q + 4) (t := zs (g - 8) ++ post) (by rw [ha, hgb]; simp) (by simp [hq, four_length]) (by omega)
    exact this
  unfold wholeS
  rw [if_neg (by omega), Int.toNat_natCast, n0, upZ_nat, hu, if_neg (by omega), if_neg (by rw [n1]; decide), if_pos n1]
  have hd : (a.drop ((q : Int) + 8).toNat).take ((g - 8 : Nat) : Int).toNat = zs (g - 8) := by
    have e1 : ((q : Int) + 8).toNat = (pre ++ four (g - 8) ++ four 2).length := by simp [four_length, hq]; omega
    have e2 : ((g - 8 : Nat) : Int).toNat = (zs (g - 8)).length := by rw [zs_length]; omega
    have e3 : a = (pre ++ four (g - 8) ++ four 2) ++ (zs (g - 8) ++ post) := by rw [ha, hgb]; simp
    rw [e1, e2, e3, List.drop_left, List.take_left]
  rw [hd, zs_all, decide_eq_true (by omega)]
  rcases h1 with h1 | h1
  · rw [decide_eq_true (show (8 : Int) < (q : Int) by omega)]; rfl
  · rw [decide_eq_true (show (8 : Int) ≤ ((g - 8 : Nat) : Int) by omega)]; simp
/-- The units of a layout: offset, size, mark. -/
def unitsOf : Nat → Lay → List (Int × Int × Int)
  | _, [] => []
  | e, (p, s) :: r => (if p - 8 - e = 0 then [] else [((e : Int), ((p - 8 - e - 8 : Nat) : Int), 2)]) ++ (((p - 8 : Nat) : Int), (s.length : Int), 1) :: unitsOf (p + upN s.length) r

theorem loop_back (en : Int) (h2 : en ≤ 8192) : ∀ (lay : Lay) (b : Bool) (a pre post : List UInt8) (e : Nat) (n : Int), e % 8 = 0 → 8 ≤ e → (e = 8 → b = true) → ok b e lay → pre.length = e → a = pre ++ (enc e lay ++ post) → (endOf e lay : Int) = en →
    openLoop (en - (e : Int)).toNat a (e : Int) en false n = some (false, n + lay.length) ∧ UL a en (e : Int) (unitsOf e lay)
  | [], b, a, pre, post, e, n, _, _, _, _, _, _, hen => by
    have hen' : en = (e : Int) := hen.symm
    rw [openLoop_stop _ _ _ _ _ _ (by omega)]
    exact ⟨by simp, .nil (by omega)⟩
  | (p, s) :: r, b, a, pre, post, e, n, he, he8, hb, hok, hpre, ha, hen => by
    have hge := endOf_ge hok.2.2.2.2
    have hgo := gap_ok he hok
    obtain ⟨hp8, hep, hfirst, hs1, hr⟩ := hok
    have hu := upN_bd s.length
    have hu8 := upN_8 s.length
    have hen' : (endOf (p + upN s.length) r : Int) = en := hen
    have ha' : a = pre ++ (gapB (p - 8 - e) ++ (usedB s ++ (enc (p + upN s.length) r ++ post))) := by rw [ha]; simp [enc]
    -- the allocation, wherever it begins
    have main : ∀ (gap : Bool), openLoop (en - ((p - 8 : Nat) : Int)).toNat a ((p - 8 : Nat) : Int) en gap n = some (false, n + (((p, s) :: r : Lay).length : Nat)) ∧ UL a en ((p - 8 : Nat) : Int) ((((p - 8 : Nat) : Int), (s.length : Int), 1) :: unitsOf (p + upN s.length) r) := by
      intro gap
      have hpl : (pre ++ gapB (p - 8 - e)).length = p - 8 := by rw [List.length_append, hpre, gapB_length _ hgo]; omega
      have hw := used_at (a := a) (pre := pre ++ gapB (p - 8 - e)) (post := enc (p + upN s.length) r ++ post) (s := s) (q := p - 8) (en := en) (gap := gap) (by rw [ha']; simp) hpl hs1 (by omega) h2
      obtain ⟨w1, w2, w3, w4, w5⟩ := wholeS_ok a ((p - 8 : Nat) : Int) en gap (by rw [hw])
      rw [hw] at w2 w3
      simp only at w2 w3
      have hpos : ((p - 8 : Nat) : Int) + 8 + upZ (s.length : Int) = ((p + upN s.length : Nat) : Int) := by rw [upZ_nat]; omega
      obtain ⟨i1, i2⟩ := loop_back en h2 r false a (pre ++ gapB (p - 8 - e) ++ usedB s) post (p + upN s.length) (n + 1) (by omega) (by omega) (by omega) hr (by rw [List.length_append, hpl, usedB_length]; omega) (by rw [ha']; simp) hen'
      constructor
      · rw [openLoop_step a en _ gap n (by omega) (by rw [hw]), ← w2, hpos, ← w3]
        have : ((1 : Int) == 2) = false := rfl
        rw [this]
        simp only [Bool.false_eq_true, if_false]
        rw [i1]
        simp only [List.length_cons, Option.some.injEq, Prod.mk.injEq, true_and]
        omega
      · have := UL.cons (l := a) (en := en) (a := ((p - 8 : Nat) : Int)) (r := unitsOf (p + upN s.length) r) (by omega) (by omega) (by rw [← w2, hpos]; omega) (by rw [← w2, hpos]; exact i2)
        rwa [← w2, ← w3] at this
    by_cases hg : p - 8 - e = 0
    · have hpe : p - 8 = e := by omega
      have := main false
      rw [hpe] at this
      refine ⟨this.1, ?_⟩
      unfold unitsOf
      rw [if_pos hg, List.nil_append, hpe]
      exact this.2
    · have hg8 : 8 ≤ p - 8 - e := by omega
      have hw := gap_at (a := a) (pre := pre) (post := usedB s ++ (enc (p + upN s.length) r ++ post)) (q := e) (g := p - 8 - e) (en := en) ha' hpre hg8 (by omega) (by omega) h2 (by
        by_cases h8 : e = 8
        · have := hfirst (hb h8); omega
        · omega)
      obtain ⟨w1, w2, w3, w4, w5⟩ := wholeS_ok a (e : Int) en false (by rw [hw])
      rw [hw] at w2 w3
      simp only at w2 w3
      have hpos : (e : Int) + 8 + upZ ((p - 8 - e - 8 : Nat) : Int) = ((p - 8 : Nat) : Int) := by
        rw [upZ_nat]
        have : upN (p - 8 - e - 8) = p - 8 - e - 8 := by unfold upN; omega
        omega
      obtain ⟨m1, m2⟩ := main true
      constructor
      · rw [openLoop_step a en _ false n (by omega) (by rw [hw]), ← w2, hpos, ← w3]
        exact m1
      · unfold unitsOf
        rw [if_neg hg]
        have := UL.cons (l := a) (en := en) (a := (e : Int)) (r := (((p - 8 : Nat) : Int), (s.length : Int), 1) :: unitsOf (p + upN s.length) r) (by omega) (by omega) (by rw [← w2, hpos]; omega) (by rw [← w2, hpos]; exact m2)
        rwa [← w2, ← w3] at this
end Go.Proofs.Ytcfmimfkaabmkaa
/- A string that open takes has a layout. -/
set_option linter.unusedVariables false
set_option linter.unusedSimpArgs false
namespace Go.Proofs.Ytcfmimfkaabmkaa
theorem four_sl {l : List UInt8} {i : Nat} {n : Nat} (h : i + 4 ≤ l.length) (hn : num l i = (n : Int)) : sl l i (i + 4) = four n := by
  have := four_num l i h
  rw [hn, Int.toNat_natCast] at this
  unfold sl
  rw [Nat.add_sub_cancel_left]
  exact this
theorem used_sl {l : List UInt8} {a s en : Nat} (hen : en ≤ l.length) (h0 : num l a = (s : Int)) (h1 : num l (a + 4) = 1) (hfit : a + 8 + upN s ≤ en) (hz : ((l.drop (a + 8 + s)).take (upN s - s)).all (· == 0) = true) :
    sl l a (a + 8 + upN s) = usedB (sl l (a + 8) (a + 8 + s)) := by
  have hu := upN_bd s
  have hl : (sl l (a + 8) (a + 8 + s)).length = s := by rw [sl_length (by omega)]; omega
  rw [sl_app (i := a) (j := a + 4) (k := a + 8 + upN s) (by omega) (by omega), sl_app (i := a + 4) (j := a + 8) (k := a + 8 + upN s) (by omega) (by omega), sl_app (i := a + 8) (j := a + 8 + s) (k := a + 8 + upN s) (by omega) (by omega)]
  rw [four_sl (by omega) h0]
  have e2 : sl l (a + 4) (a + 8) = four 1 := four_sl (i := a + 4) (n := 1) (by omega) h1
  have e3 : sl l (a + 8 + s) (a + 8 + upN s) = zs (upN s - s) := by
    unfold sl
    rw [show a + 8 + upN s - (a + 8 + s) = upN s - s by omega, all_zs hz, List.length_take, List.length_drop]
    congr 1; omega
  rw [e2, e3]
  unfold usedB
  rw [hl]
  simp
theorem gap_sl {l : List UInt8} {a s en : Nat} (hen : en ≤ l.length) (h0 : num l a = (s : Int)) (h1 : num l (a + 4) = 2) (hfit : a + 8 + s ≤ en) (hz : ((l.drop (a + 8)).take s).all (· == 0) = true) :
    sl l a (a + 8 + s) = gapB (8 + s) := by
  rw [sl_app (i := a) (j := a + 4) (k := a + 8 + s) (by omega) (by omega), sl_app (i := a + 4) (j := a + 8) (k := a + 8 + s) (by omega) (by omega), four_sl (by omega) h0]
  have e2 : sl l (a + 4) (a + 8) = four 2 := four_sl (i := a + 4) (n := 2) (by omega) h1
  have e3 : sl l (a + 8) (a + 8 + s) = zs s := by
    unfold sl
    rw [show a + 8 + s - (a + 8) = s by omega, all_zs hz, List.length_take, List.length_drop]
    congr 1; omega
  rw [e2, e3]
  unfold gapB
  rw [if_neg (by omega), Nat.add_sub_cancel_left]
  simp
/-- What whole has seen, in natural numbers. -/
theorem whole_used {l : List UInt8} {a en : Nat} {gap : Bool} (h : (wholeS l (a : Int) (en : Int) gap).2 = true) (h1 : num l (a + 4) = 1) :
    1 ≤ (num l a).toNat ∧ ((l.drop (a + 8 + (num l a).toNat)).take (upN (num l a).toNat - (num l a).toNat)).all (· == 0) = true := by
  have hb := num_bd l a
  obtain ⟨s, hs⟩ := Int.eq_ofNat_of_zero_le hb.1
  unfold wholeS at h
  split at h
  · cases h
  · split at h
    · cases h
    · rw [Int.toNat_natCast, if_pos h1] at h
      simp only [Bool.and_eq_true, decide_eq_true_eq] at h
      rw [hs] at h ⊢
      rw [upZ_nat] at h
      refine ⟨by omega, ?_⟩
      have := h.2
      have e1 : ((a : Int) + 8 + (s : Int)).toNat = a + 8 + s := by omega
      have e2 : ((upN s : Int) - (s : Int)).toNat = upN s - s := by omega
      rw [e1, e2] at this
      exact this
theorem whole_gap {l : List UInt8} {a en : Nat} {gap : Bool} (h : (wholeS l (a : Int) (en : Int) gap).2 = true) (h1 : num l (a + 4) = 2) :
    gap = false ∧ (num l a).toNat % 8 = 0 ∧ ((l.drop (a + 8)).take (num l a).toNat).all (· == 0) = true ∧ (8 < a ∨ 8 ≤ (num l a).toNat) := by
  have hb := num_bd l a
  obtain ⟨s, hs⟩ := Int.eq_ofNat_of_zero_le hb.1
  unfold wholeS at h
  split at h
  · cases h
  · split at h
    · cases h
    · rw [Int.toNat_natCast, if_neg (by rw [h1]; decide), if_pos h1] at h
      simp only [Bool.and_eq_true, decide_eq_true_eq, Bool.or_eq_true, Bool.not_eq_true'] at h
      rw [hs] at h ⊢
      obtain ⟨⟨⟨h2, h3⟩, h4⟩, h5⟩ := h
      refine ⟨h4, by omega, ?_, by omega⟩
      have e1 : ((a : Int) + 8).toNat = a + 8 := by omega
      rw [e1] at h3
      exact h3
theorem loop_fwd (l : List UInt8) (en : Nat) (hen : en ≤ l.length) (n' : Int) : ∀ (f a : Nat) (gap : Bool) (n : Int) (e : Nat) (b : Bool), e % 8 = 0 → 8 ≤ e → a % 8 = 0 → e ≤ a → a ≤ en → en - a ≤ f → (b = true → e = 8) → (gap = false → a = e) →
    (gap = true → e + 8 ≤ a ∧ sl l e a = gapB (a - e) ∧ (e = 8 → a ≠ 16)) → openLoop f l (a : Int) (en : Int) gap n = some (false, n') →
    ∃ lay : Lay, ok b e lay ∧ endOf e lay = en ∧ sl l e en = enc e lay ∧ n' = n + (lay.length : Int) := by
  intro f
  induction f with
  | zero =>
    intro a gap n e b he he8 ha hea haen hf hb hg0 hg1 h
    have : a = en := by omega
    subst this
    unfold openLoop at h
    simp only [Option.some.injEq, Prod.mk.injEq] at h
    obtain ⟨rfl, rfl⟩ := h
    obtain rfl := hg0 rfl
    exact ⟨[], trivial, rfl, by simp [sl, enc], by simp⟩
  | succ f ih =>
    intro a gap n e b he he8 ha hea haen hf hb hg0 hg1 h
    unfold openLoop at h
    split at h
    · rename_i hlt
      split at h
      · rename_i hok
        obtain ⟨h1, h2, h3, h4, h5⟩ := wholeS_ok l (a : Int) (en : Int) gap hok
        rw [Int.toNat_natCast] at h2 h3 h4 h5
        rw [h1, h2, h3] at h
        have hbd := num_bd l a
        obtain ⟨s, hs⟩ := Int.eq_ofNat_of_zero_le hbd.1
        have hu := upN_bd s
        have hu8 := upN_8 s
        rcases h5 with h5 | h5
        · obtain ⟨u1, u2⟩ := whole_used hok h5
          rw [hs, Int.toNat_natCast] at u1 u2
          rw [hs, upZ_nat] at h4
          rw [h5, hs, upZ_nat] at h
          have hsl := used_sl (a := a) (s := s) hen hs h5 (by omega) u2
          have hdl : (sl l (a + 8) (a + 8 + s)).length = s := by rw [sl_length (by omega)]; omega
          rw [show ((1 : Int) == 2) = false from rfl] at h
          simp only [Bool.false_eq_true, if_false] at h
          rw [show (a : Int) + 8 + (upN s : Int) = ((a + 8 + upN s : Nat) : Int) by omega] at h
          obtain ⟨r, r1, r2, r3, r4⟩ := ih (a + 8 + upN s) false (n + 1) (a + 8 + upN s) false (by omega) (by omega) (by omega) (by omega) (by omega) (by omega) (by intro h; cases h) (fun _ => rfl) (by intro h; cases h) h
          refine ⟨(a + 8, sl l (a + 8) (a + 8 + s)) :: r, ⟨by omega, by omega, ?_, by omega, ?_⟩, ?_, ?_, ?_⟩
          · intro hb1 heq
            have he1 := hb hb1
            cases gap with
            | false => have := hg0 rfl; omega
            | true => have := (hg1 rfl).2.2 he1; omega
          · rw [hdl]; exact r1
          · unfold endOf; rw [hdl]; exact r2
          · unfold enc
            rw [hdl, ← r3, ← hsl]
            have hgp : gapB (a + 8 - 8 - e) = sl l e a := by
              rw [Nat.add_sub_cancel]
              cases gap with
              | false =>
                have := hg0 rfl
                subst this
                simp [gapB, sl]
              | true => exact (hg1 rfl).2.1.symm
            rw [hgp, ← sl_app (by omega) (by omega), ← sl_app (by omega) (by omega)]
          · rw [r4]; simp only [List.length_cons]; omega
        · obtain ⟨u1, u2, u3, u4⟩ := whole_gap hok h5
          subst u1
          obtain rfl := hg0 rfl
          rw [hs, Int.toNat_natCast] at u2 u3 u4
          have hus : upN s = s := by unfold upN; omega
          rw [hs, upZ_nat, hus] at h4
          rw [h5, hs, upZ_nat, hus] at h
          have hsl := gap_sl (a := a) (s := s) hen hs h5 (by omega) u3
          rw [show ((2 : Int) == 2) = true from rfl] at h
          simp only [if_true] at h
          rw [show (a : Int) + 8 + (s : Int) = ((a + 8 + s : Nat) : Int) by omega] at h
          exact ih (a + 8 + s) true n a b he he8 (by omega) (by omega) (by omega) (by omega) hb (by intro h; cases h) (fun _ => ⟨by omega, by rw [hsl]; congr 1; omega, by omega⟩) h
      · cases h
    · rename_i hlt
      have : a = en := by omega
      subst this
      simp only [Option.some.injEq, Prod.mk.injEq] at h
      obtain ⟨rfl, rfl⟩ := h
      obtain rfl := hg0 rfl
      exact ⟨[], trivial, rfl, by simp [sl, enc], by simp⟩
/-- **open takes just the areas.** -/
theorem openS_iff (a : List UInt8) : openS a = true ↔ ∃ lay, Area a lay := by
  constructor
  · intro h
    unfold openS at h
    split at h
    · cases h
    · rename_i h1
      split at h
      · cases h
      · rename_i h2
        split at h
        · rename_i h3
          have hbd := num_bd a 0
          obtain ⟨x, hx⟩ := Int.eq_ofNat_of_zero_le hbd.1
          rw [hx] at h h2 h3
          have e8 : (8 + (x : Int)).toNat = 8 + x := by omega
          rw [e8] at h h3
          split at h
          · rename_i gap n hl
            simp only [Bool.and_eq_true, Bool.not_eq_true', beq_iff_eq] at h
            obtain ⟨rfl, hn⟩ := h
            have h8 : (8 : Int) + (x : Int) = ((8 + x : Nat) : Int) := by omega
            rw [h8] at hl
            have hl8 : (8 : Int) = ((8 : Nat) : Int) := rfl
            obtain ⟨lay, l1, l2, l3, l4⟩ := loop_fwd a (8 + x) (by omega) n (8 + x) 8 false 0 8 true rfl (Nat.le_refl _) rfl (Nat.le_refl _) (by omega) (by omega) (fun _ => rfl) (fun _ => rfl) (by intro h; cases h) hl
            refine ⟨lay, by omega, by omega, l1, by omega, ?_⟩
            unfold render
            rw [l2, ← l3, Nat.add_sub_cancel_left]
            have e0 : sl a 0 4 = four x := four_sl (i := 0) (by omega) hx
            have e4 : sl a 4 8 = four lay.length := four_sl (i := 4) (by omega) (by rw [← hn, l4]; omega)
            have ez : sl a (8 + x) a.length = zs (a.length - (8 + x)) := by
              have hz := all_zs h3
              rw [List.length_drop] at hz
              unfold sl
              rw [hz, List.take_of_length_le (by rw [zs_length]; exact Nat.le_refl _)]
            rw [← e0, ← e4, ← ez, ← sl_app (by omega) (by omega), ← sl_app (by omega) (by omega), ← sl_app (by omega) (by omega)]
            simp [sl]
          · cases h
        · cases h
  · rintro ⟨lay, h16, h81, hok, hend, ha⟩
    have hge := endOf_ge hok
    have n0 : num a 0 = ((endOf 8 lay - 8 : Nat) : Int) := num_at (pre := []) (by rw [List.nil_append]; exact ha) rfl (by omega)
    have hlen : lay.length < 4294967296 := by
      have hh : ∀ (l : Lay) (b : Bool) (e : Nat), ok b e l → l.length + e ≤ endOf e l := by
        intro l
        induction l with
        | nil => intro b e _; simp [endOf]
        | cons x r ih =>
          obtain ⟨p, s⟩ := x
          intro b e ⟨h1, h2, h3, h4, h5⟩
          have := ih false (p + upN s.length) h5
          have := upN_bd s.length
          unfold endOf; simp only [List.length_cons]; omega
      have := hh lay true 8 hok
      omega
    have n4 : num a 4 = (lay.length : Int) := num_at (pre := four (endOf 8 lay - 8)) ha rfl hlen
    have hsplit : a = (four (endOf 8 lay - 8) ++ four lay.length) ++ (enc 8 lay ++ zs (a.length - endOf 8 lay)) := by
      have := ha; unfold render at this; rw [List.append_assoc]; exact this
    obtain ⟨b1, -⟩ := loop_back (endOf 8 lay : Int) (by omega) lay true a (four (endOf 8 lay - 8) ++ four lay.length) (zs (a.length - endOf 8 lay)) 8 0 rfl (Nat.le_refl _) (fun _ => rfl) hok rfl hsplit rfl
    have e8 : 8 + ((endOf 8 lay - 8 : Nat) : Int) = (endOf 8 lay : Int) := by omega
    unfold openS
    rw [if_neg (by omega), n0, e8, if_neg (by omega)]
    have hz : a.drop ((endOf 8 lay : Nat) : Int).toNat = zs (a.length - endOf 8 lay) := by
      rw [Int.toNat_natCast]
      have e9 : a = (four (endOf 8 lay - 8) ++ four lay.length ++ enc 8 lay) ++ zs (a.length - endOf 8 lay) := by rw [List.append_assoc]; exact hsplit
      have el : (four (endOf 8 lay - 8) ++ four lay.length ++ enc 8 lay).length = endOf 8 lay := by
        simp only [List.length_append, four_length, enc_length (e := 8) rfl hok]; omega
      conv => lhs; rw [e9]
      exact List.drop_left' el
    rw [hz, zs_all, if_pos rfl]
    have b2 : openLoop ((endOf 8 lay : Nat) : Int).toNat a 8 (endOf 8 lay : Int) false 0 = some (false, 0 + (lay.length : Int)) := by
      rw [openLoop_fuel a (endOf 8 lay : Int) _ ((endOf 8 lay : Int) - ((8 : Nat) : Int)).toNat 8 false 0 (by omega) (by omega)]
      exact b1
    rw [b2]
    simp [n4]
/-- The units of an area, as the iterator gives them. -/
theorem area_units {a : List UInt8} {lay : Lay} (h : Area a lay) : UL a (8 + num a 0) 8 (unitsOf 8 lay) ∧ 8 + num a 0 = (endOf 8 lay : Int) := by
  obtain ⟨h16, h81, hok, hend, ha⟩ := h
  have hge := endOf_ge hok
  have n0 : num a 0 = ((endOf 8 lay - 8 : Nat) : Int) := num_at (pre := []) (by rw [List.nil_append]; exact ha) rfl (by omega)
  have hsplit : a = (four (endOf 8 lay - 8) ++ four lay.length) ++ (enc 8 lay ++ zs (a.length - endOf 8 lay)) := by
    have := ha; unfold render at this; rw [List.append_assoc]; exact this
  obtain ⟨-, b2⟩ := loop_back (endOf 8 lay : Int) (by omega) lay true a (four (endOf 8 lay - 8) ++ four lay.length) (zs (a.length - endOf 8 lay)) 8 0 rfl (Nat.le_refl _) (fun _ => rfl) hok rfl hsplit rfl
  have e8 : 8 + num a 0 = (endOf 8 lay : Int) := by rw [n0]; omega
  exact ⟨by rw [e8]; exact b2, e8⟩
end Go.Proofs.Ytcfmimfkaabmkaa
