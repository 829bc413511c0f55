/- Plain: Decode by the place in the bytes. -/
import Derived.Test.YtifcgimpgbeocaaK0
set_option linter.unusedVariables false
set_option linter.unusedSimpArgs false
namespace Go.Proofs.Ytifcgimpgbeocaa
open Go.RowKit
def bt (s : Bs) (i : Nat) : Nat := ((s[i]?).getD 0).toNat
theorem bt_lt (s : Bs) (i : Nat) : bt s i < 256 := UInt8.toNat_lt _
def cutB (s : Bs) (a n : Nat) : Bs := (s.drop a).take n
theorem drop1 {s : Bs} {a : Nat} (h : a < s.length) : s.drop a = (s[a]?).getD 0 :: s.drop (a + 1) := by
  rw [List.drop_eq_getElem_cons h, List.getElem?_eq_getElem h]
  rfl
theorem drop3 {s : Bs} {a : Nat} (h : a + 3 ≤ s.length) : s.drop a = (s[a]?).getD 0 :: (s[a + 1]?).getD 0 :: (s[a + 2]?).getD 0 :: s.drop (a + 3) := by
  rw [drop1 (by omega), drop1 (a := a + 1) (by omega), drop1 (a := a + 1 + 1) (by omega)]
theorem dec_short {s : Bs} {a : Nat} (h : a < s.length) (h2 : s.length < a + 3) : decL (s.drop a) = none := by
  have hl : (s.drop a).length < 3 := by rw [List.length_drop]; omega
  have hl0 : 0 < (s.drop a).length := by rw [List.length_drop]; omega
  match hs : s.drop a, hl, hl0 with
  | [x], _, _ => rw [decL_cons]; rfl
  | [x, y], _, _ => rw [decL_cons]; rfl
theorem dec_key {s : Bs} {a : Nat} (h : a + 3 ≤ s.length) (h2 : s.length < a + 3 + bt s (a + 2)) : decL (s.drop a) = none := by
  rw [drop3 h, decL_cons, dec1_cons, if_neg (by unfold bt at h2; rw [List.length_drop]; omega)]
def opAt (s : Bs) (a : Nat) (d : Bs) : FOp := ((bt s a : Int), (bt s (a + 1) : Int), cutB s (a + 3) (bt s (a + 2)), d)
theorem dec_one {s : Bs} {a : Nat} (h : a + 3 + bt s (a + 2) ≤ s.length) : dec1 (s.drop a) = if bt s a = 5 then some (opAt s a [], s.drop (a + 3 + bt s (a + 2))) else match s.drop (a + 3 + bt s (a + 2)) with
    | m :: q => if m.toNat ≤ q.length then some (opAt s a (q.take m.toNat), q.drop m.toNat) else none
    | [] => none := by
  have h3 : a + 3 ≤ s.length := by omega
  rw [drop3 h3, dec1_cons, if_pos (by unfold bt at h; rw [List.length_drop]; omega)]
  have e : ∀ n, (s.drop (a + 3)).drop n = s.drop (a + 3 + n) := fun n => by rw [List.drop_drop]
  rw [e]
  rfl
theorem dec_del {s : Bs} {a : Nat} (h : a + 3 + bt s (a + 2) ≤ s.length) (h5 : bt s a = 5) (hc : chg (opAt s a []) = true) : decL (s.drop a) = (decL (s.drop (a + 3 + bt s (a + 2)))).map (opAt s a [] :: ·) := by
  have h1 := dec_one h
  rw [if_pos h5] at h1
  have h2 := enc_dec1 h1
  rw [h2, decL_step hc]
theorem dec_bad {s : Bs} {a : Nat} {o : FOp} {r : Bs} (ha : a < s.length) (h : dec1 (s.drop a) = some (o, r)) (hc : chg o = false) : decL (s.drop a) = none := by
  rw [drop1 ha, decL_cons, ← drop1 ha, h]
  simp only
  rw [if_neg (by rw [hc]; simp)]
theorem dec_nodata {s : Bs} {a : Nat} (h : a + 3 + bt s (a + 2) ≤ s.length) (h5 : bt s a ≠ 5) (hd : s.length ≤ a + 3 + bt s (a + 2) ∨ s.length < a + 3 + bt s (a + 2) + 1 + bt s (a + 3 + bt s (a + 2))) : decL (s.drop a) = none := by
  have h1 := dec_one h
  rw [if_neg h5] at h1
  have ha : a < s.length := by omega
  have hn : dec1 (s.drop a) = none := by
    rw [h1]
    generalize a + 3 + bt s (a + 2) = b at *
    rcases Nat.lt_or_ge b s.length with hb | hb
    · rw [drop1 hb]
      simp only
      rw [if_neg]
      rw [List.length_drop]
      unfold bt at hd
      omega
    · rw [List.drop_eq_nil_of_le hb]
  rw [drop1 ha, decL_cons, ← drop1 ha, hn]
theorem dec_data {s : Bs} {a : Nat} (h5 : bt s a ≠ 5) (hd : a + 3 + bt s (a + 2) + 1 + bt s (a + 3 + bt s (a + 2)) ≤ s.length) :
    dec1 (s.drop a) = some (opAt s a (cutB s (a + 3 + bt s (a + 2) + 1) (bt s (a + 3 + bt s (a + 2)))), s.drop (a + 3 + bt s (a + 2) + 1 + bt s (a + 3 + bt s (a + 2)))) := by
  have h1 := dec_one (s := s) (a := a) (by omega)
  rw [if_neg h5] at h1
  rw [h1]
  generalize a + 3 + bt s (a + 2) = b at *
  rw [drop1 (a := b) (by omega)]
  simp only
  rw [if_pos (by rw [List.length_drop]; unfold bt at hd; omega), List.drop_drop]
  rfl
theorem dec_next {s : Bs} {a b : Nat} {o : FOp} (ha : a < s.length) (h : dec1 (s.drop a) = some (o, s.drop b)) (hc : chg o = true) : decL (s.drop a) = (decL (s.drop b)).map (o :: ·) := by
  have h2 := enc_dec1 h
  rw [h2, decL_step hc]
end Go.Proofs.Ytifcgimpgbeocaa
