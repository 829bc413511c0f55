/- The layout of an area, in plain lists: its bytes out of its allocations, and back. No program. -/
import Derived.Test.YtcfmimfkaabmkaaBase
set_option linter.unusedVariables false
set_option linter.unusedSimpArgs false
namespace Go.Proofs.Ytcfmimfkaabmkaa
/-- The allocations of an area: offset and bytes of each. -/
abbrev Lay := List (Nat × List UInt8)
def upN (n : Nat) : Nat := (n + 7) / 8 * 8
theorem upN_bd (n : Nat) : n ≤ upN n ∧ upN n ≤ n + 7 := by unfold upN; omega
theorem upN_8 (n : Nat) : upN n % 8 = 0 := by unfold upN; omega
theorem upZ_nat (n : Nat) : upZ (n : Int) = (upN n : Int) := by unfold upZ upN; omega
def four (n : Nat) : List UInt8 := [UInt8.ofNat (n / 16777216), UInt8.ofNat (n / 65536), UInt8.ofNat (n / 256), UInt8.ofNat n]
theorem four_length (n : Nat) : (four n).length = 4 := rfl
def zs (n : Nat) : List UInt8 := List.replicate n 0
theorem zs_length (n : Nat) : (zs n).length = n := by simp [zs]
theorem zs_add (m n : Nat) : zs (m + n) = zs m ++ zs n := by simp [zs, List.replicate_append_replicate]
theorem zs_all (n : Nat) : (zs n).all (· == 0) = true := by simp [zs]
theorem all_zs {l : List UInt8} (h : l.all (· == 0) = true) : l = zs l.length := by
  unfold zs
  rw [List.eq_replicate_iff]
  exact ⟨rfl, fun b hb => by simpa using List.all_eq_true.1 h b hb⟩
/-- The bytes of a gap of g bytes, its head among them. -/
def gapB (g : Nat) : List UInt8 := if g = 0 then [] else four (g - 8) ++ four 2 ++ zs (g - 8)
theorem gapB_length (g : Nat) (h : g = 0 ∨ 8 ≤ g) : (gapB g).length = g := by
  unfold gapB; split
  · rename_i h0; rw [h0]; rfl
  · simp [four_length, zs_length]; omega
def usedB (s : List UInt8) : List UInt8 := four s.length ++ four 1 ++ s ++ zs (upN s.length - s.length)
theorem usedB_length (s : List UInt8) : (usedB s).length = 8 + upN s.length := by
  have := upN_bd s.length
  simp [usedB, four_length, zs_length]; omega
def enc : Nat → Lay → List UInt8
  | _, [] => []
  | e, (p, s) :: r => gapB (p - 8 - e) ++ (usedB s ++ enc (p + upN s.length) r)
def endOf : Nat → Lay → Nat
  | e, [] => e
  | _, (p, s) :: r => endOf (p + upN s.length) r
def ok : Bool → Nat → Lay → Prop
  | _, _, [] => True
  | first, e, (p, s) :: r => p % 8 = 0 ∧ e + 8 ≤ p ∧ (first = true → p ≠ e + 16) ∧ 1 ≤ s.length ∧ ok false (p + upN s.length) r
instance ok_dec : (b : Bool) → (e : Nat) → (l : Lay) → Decidable (ok b e l)
  | _, _, [] => isTrue trivial
  | b, e, (p, s) :: r => by
    unfold ok
    have := ok_dec false (p + upN s.length) r
    exact inferInstance
theorem ok_weak : ∀ {b : Bool} {e : Nat} {l : Lay}, ok b e l → ok false e l
  | _, _, [], _ => trivial
  | _, _, (_, _) :: _, ⟨h1, h2, _, h4, h5⟩ => ⟨h1, h2, (fun h => by cases h), h4, h5⟩
theorem endOf_ge : ∀ {b : Bool} {e : Nat} {l : Lay}, ok b e l → e ≤ endOf e l
  | _, _, [], _ => Nat.le_refl _
  | _, e, (p, s) :: r, ⟨_, h2, _, _, h5⟩ => by have := endOf_ge h5; unfold endOf; omega
theorem endOf_8 : ∀ {b : Bool} {e : Nat} {l : Lay}, e % 8 = 0 → ok b e l → endOf e l % 8 = 0
  | _, _, [], he, _ => he
  | _, e, (p, s) :: r, _, ⟨h1, _, _, _, h5⟩ => by
    unfold endOf
    exact endOf_8 (by have := upN_8 s.length; omega) h5
theorem gap_ok {b : Bool} {e p : Nat} {s : List UInt8} {r : Lay} (he : e % 8 = 0) (h : ok b e ((p, s) :: r)) : p - 8 - e = 0 ∨ 8 ≤ p - 8 - e := by
  obtain ⟨h1, h2, _⟩ := h; omega
theorem enc_length : ∀ {b : Bool} {e : Nat} {l : Lay}, e % 8 = 0 → ok b e l → (enc e l).length = endOf e l - e
  | _, _, [], _, _ => by simp [enc, endOf]
  | b, e, (p, s) :: r, he, h => by
    have hg := gap_ok he h
    obtain ⟨h1, h2, h3, h4, h5⟩ := h
    have hb := upN_8 s.length
    have ih := enc_length (e := p + upN s.length) (by omega) h5
    have hge := endOf_ge h5
    unfold enc endOf
    rw [List.length_append, List.length_append, gapB_length _ hg, usedB_length, ih]
    omega
/-- The bytes of an area of n bytes. -/
def render (n : Nat) (l : Lay) : List UInt8 := four (endOf 8 l - 8) ++ (four l.length ++ (enc 8 l ++ zs (n - endOf 8 l)))
theorem render_length {n : Nat} {l : Lay} (h : ok true 8 l) (hn : endOf 8 l ≤ n) : (render n l).length = n := by
  have := endOf_ge h
  simp only [render, List.length_append, four_length, enc_length (e := 8) rfl h, zs_length]
  omega
/-- a is the area with the allocations l. -/
def Area (a : List UInt8) (l : Lay) : Prop := 16 ≤ a.length ∧ a.length ≤ 8192 ∧ ok true 8 l ∧ endOf 8 l ≤ a.length ∧ a = render a.length l

/-! ### Numbers of four bytes -/
theorem byt_append_left {a b : List UInt8} {i : Nat} (h : i < a.length) : byt (a ++ b) i = byt a i := by
  unfold byt; rw [List.getElem?_append_left h]
theorem byt_append_right {a b : List UInt8} (i : Nat) : byt (a ++ b) (a.length + i) = byt b i := by
  unfold byt; rw [List.getElem?_append_right (by omega), Nat.add_sub_cancel_left]
theorem num_append_left {a b : List UInt8} {i : Nat} (h : i + 4 ≤ a.length) : num (a ++ b) i = num a i := by
  unfold num; rw [byt_append_left (by omega), byt_append_left (by omega), byt_append_left (by omega), byt_append_left (by omega)]
theorem num_append_right {a b : List UInt8} (i : Nat) : num (a ++ b) (a.length + i) = num b i := by
  unfold num; rw [byt_append_right, Nat.add_assoc, byt_append_right, Nat.add_assoc, byt_append_right, Nat.add_assoc, byt_append_right]
theorem num_four (n : Nat) (h : n < 4294967296) (t : List UInt8) : num (four n ++ t) 0 = (n : Int) := by
  unfold num byt four
  simp
  omega
theorem four_num (l : List UInt8) (i : Nat) (h : i + 4 ≤ l.length) : (l.drop i).take 4 = four (num l i).toNat := by
  obtain ⟨a, b, c, d, t, ht⟩ : ∃ a b c d t, l.drop i = a :: b :: c :: d :: t := by
    match hd : l.drop i with
    | [] => have := congrArg List.length hd; simp at this; omega
    | [a] => have := congrArg List.length hd; simp at this; omega
    | [a, b] => have := congrArg List.length hd; simp at this; omega
    | [a, b, c] => have := congrArg List.length hd; simp at this; omega
    | a :: b :: c :: d :: t => exact ⟨a, b, c, d, t, rfl⟩
  have e : ∀ k, l[i + k]? = (a :: b :: c :: d :: t)[k]? := fun k => by rw [← ht, List.getElem?_drop]
  have e0 : byt l i = (a.toNat : Int) := by have := e 0; simp only [Nat.add_zero] at this; unfold byt; rw [this]; rfl
  have e1 : byt l (i + 1) = (b.toNat : Int) := by unfold byt; rw [e 1]; rfl
  have e2 : byt l (i + 2) = (c.toNat : Int) := by unfold byt; rw [e 2]; rfl
  have e3 : byt l (i + 3) = (d.toNat : Int) := by unfold byt; rw [e 3]; rfl
  rw [ht]
  unfold num
  rw [e0, e1, e2, e3]
  have ha := a.toNat_lt; have hb := b.toNat_lt; have hc := c.toNat_lt; have hd := d.toNat_lt
  generalize hA : a.toNat = A at *
  generalize hB : b.toNat = B at *
  generalize hC : c.toNat = C at *
  generalize hD : d.toNat = D at *
  have hX : (A : Int) * 16777216 + (B : Int) * 65536 + (C : Int) * 256 + (D : Int) = ((A * 16777216 + B * 65536 + C * 256 + D : Nat) : Int) := by simp
  rw [hX, Int.toNat_natCast]
  have d1 : (A * 16777216 + B * 65536 + C * 256 + D) / 16777216 = A := by
    rw [show A * 16777216 + B * 65536 + C * 256 + D = (B * 65536 + C * 256 + D) + A * 16777216 by ac_rfl, Nat.add_mul_div_right _ _ (by decide), Nat.div_eq_of_lt (by omega), Nat.zero_add]
  have d2 : (A * 16777216 + B * 65536 + C * 256 + D) / 65536 = A * 256 + B := by
    rw [show A * 16777216 + B * 65536 + C * 256 + D = (C * 256 + D) + (A * 256 + B) * 65536 by omega, Nat.add_mul_div_right _ _ (by decide), Nat.div_eq_of_lt (by omega), Nat.zero_add]
  have d3 : (A * 16777216 + B * 65536 + C * 256 + D) / 256 = A * 65536 + B * 256 + C := by
    rw [show A * 16777216 + B * 65536 + C * 256 + D = D + (A * 65536 + B * 256 + C) * 256 by omega, Nat.add_mul_div_right _ _ (by decide), Nat.div_eq_of_lt (by omega), Nat.zero_add]
  unfold four
  rw [d1, d2, d3]
  simp only [List.take_succ_cons, List.take_zero]
  have u : ∀ (x : UInt8) (m k : Nat), x.toNat = k → m % 256 = k → UInt8.ofNat m = x := fun x m k hx h => by
    apply UInt8.toNat_inj.1
    rw [UInt8.toNat_ofNat', hx]; exact h
  rw [u a _ A hA (by omega), u b _ B hB (by omega), u c _ C hC (by omega), u d _ D hD (by omega)]
end Go.Proofs.Ytcfmimfkaabmkaa
