/- The plain law of Alloc: what area.Alloc makes of the raw bytes is the area with one allocation more. -/
import Derived.Test.YtcfmimfkaabmkaaB6
import Derived.Test.YtcfmimfkaabmkaaLayFwd
set_option linter.unusedVariables false
set_option linter.unusedSimpArgs false
namespace Go.Proofs.Ytcfmimfkaabmkaa
theorem setL_at {pre m post : List UInt8} {q y : Nat} (hq : pre.length = q) (hm : m.length = 4) : setL (pre ++ (m ++ post)) q y = pre ++ (four y ++ post) := by
  subst hq
  match m, hm with
  | [a, b, c, d], _ => simp [setL, four, List.set_append]
theorem putHead_at {pre m post : List UInt8} {a s k : Int} (hq : (pre.length : Int) = a) (hm : m.length = 8) : putHead (pre ++ (m ++ post)) a s k = pre ++ (four s.toNat ++ (four k.toNat ++ post)) := by
  unfold putHead
  have hs : m = m.take 4 ++ m.drop 4 := (List.take_append_drop 4 m).symm
  rw [hs, List.append_assoc, setL_at (q := a.toNat) (by omega) (by simp; omega)]
  rw [← List.append_assoc pre, setL_at (q := a.toNat + 4) (by simp [four_length]; omega) (by simp; omega), List.append_assoc]
/-- The allocation of n bytes more: where the first gap lets it, or behind all. -/
def allocL (n : Nat) : Nat → Lay → Lay × Nat
  | e, [] => ([(e + 8, zs n)], e + 8)
  | e, (p, s) :: r => if p - 8 - e ≠ 0 ∧ upN n ≤ p - 8 - e - 8 then ((e + 8, zs n) :: (p, s) :: r, e + 8) else ((p, s) :: (allocL n (p + upN s.length) r).1, (allocL n (p + upN s.length) r).2)
theorem usedB_zs (n : Nat) : usedB (zs n) = four n ++ (four 1 ++ zs (upN n)) := by
  have := upN_bd n
  unfold usedB
  rw [zs_length, List.append_assoc, List.append_assoc, ← zs_add, show n + (upN n - n) = upN n by omega]
def cutGap (l : List UInt8) (n a s : Int) : List UInt8 :=
  if upZ n < upZ s then putHead (putHead l a n 1) (a + 8 + upZ n) (upZ s - upZ n - 8) 2 else putHead l a n 1
theorem allocL_fit (n : Nat) (hn : 1 ≤ n) : ∀ (lay : Lay) (b : Bool) (e : Nat) (pre post : List UInt8) (u : Int × Int × Int), e % 8 = 0 → pre.length = e → ok b e lay → (unitsOf e lay).find? (allocFit n) = some u →
    cutGap (pre ++ (enc e lay ++ post)) n u.1 u.2.1 = pre ++ (enc e (allocL n e lay).1 ++ post) ∧ ((allocL n e lay).2 : Int) = u.1 + 8 ∧ endOf e (allocL n e lay).1 = endOf e lay ∧ (allocL n e lay).1.length = lay.length + 1 ∧ ok b e (allocL n e lay).1
  | [], _, _, _, _, _, _, _, _, h => by simp [unitsOf] at h
  | (p, s) :: r, b, e, pre, post, u, he, hp, hok, h => by
    have hg := gap_ok he hok
    have hu8 := upN_8 s.length
    have hn8 := upN_8 n
    have hnb := upN_bd n
    obtain ⟨h1, h2, h3, h4, h5⟩ := hok
    by_cases hc : p - 8 - e ≠ 0 ∧ upN n ≤ p - 8 - e - 8
    · -- the gap lets it
      obtain ⟨hc1, hc2⟩ := hc
      have hu : u = ((e : Int), ((p - 8 - e - 8 : Nat) : Int), 2) := by
        rw [unitsOf, if_neg hc1] at h
        have hfit : allocFit n ((e : Int), ((p - 8 - e - 8 : Nat) : Int), 2) = true := by
          unfold allocFit; simp only [upZ_nat]
          have : upN (p - 8 - e - 8) = p - 8 - e - 8 := by unfold upN; omega
          rw [this]; simp; omega
        simp [hfit] at h
        exact h.symm
      have hup : upN (p - 8 - e - 8) = p - 8 - e - 8 := by unfold upN; omega
      have ha : allocL n e ((p, s) :: r) = ((e + 8, zs n) :: (p, s) :: r, e + 8) := by unfold allocL; rw [if_pos ⟨hc1, hc2⟩]
      rw [ha, hu]
      refine ⟨?_, by simp, by simp only [endOf], by simp, ?_⟩
      · simp only
        unfold cutGap
        rw [upZ_nat, upZ_nat, hup]
        have hgb : gapB (p - 8 - e) = (four (p - 8 - e - 8) ++ four 2) ++ zs (p - 8 - e - 8) := by unfold gapB; rw [if_neg hc1]
        have e1 : pre ++ (enc e ((p, s) :: r) ++ post) = pre ++ ((four (p - 8 - e - 8) ++ four 2) ++ (zs (p - 8 - e - 8) ++ (usedB s ++ enc (p + upN s.length) r ++ post))) := by
          rw [enc, hgb]; simp only [List.append_assoc]
        have e2 : putHead (pre ++ (enc e ((p, s) :: r) ++ post)) (e : Int) (n : Int) 1 = pre ++ (four n ++ (four 1 ++ (zs (p - 8 - e - 8) ++ (usedB s ++ enc (p + upN s.length) r ++ post)))) := by
          rw [e1, putHead_at (by omega) (by simp [four_length])]; rfl
        have e3 : enc e ((e + 8, zs n) :: (p, s) :: r) = four n ++ (four 1 ++ (zs (upN n) ++ (gapB (p - 8 - (e + 8 + upN n)) ++ (usedB s ++ enc (p + upN s.length) r)))) := by
          rw [enc, enc, show e + 8 - 8 - e = 0 by omega, usedB_zs, zs_length]
          simp only [gapB, if_true, List.nil_append, List.append_assoc]
        rw [e2, e3]
        split
        · rename_i hlt
          have hlt : upN n < p - 8 - e - 8 := by omega
          have ez : zs (p - 8 - e - 8) = zs (upN n) ++ (zs 8 ++ zs (p - 8 - e - 8 - upN n - 8)) := by
            rw [← zs_add, ← zs_add]; congr 1; omega
          have e4 : pre ++ (four n ++ (four 1 ++ (zs (p - 8 - e - 8) ++ (usedB s ++ enc (p + upN s.length) r ++ post)))) = (pre ++ (four n ++ (four 1 ++ zs (upN n)))) ++ (zs 8 ++ (zs (p - 8 - e - 8 - upN n - 8) ++ (usedB s ++ enc (p + upN s.length) r ++ post))) := by
            rw [ez]; simp only [List.append_assoc]
          rw [e4, putHead_at (by simp [four_length, zs_length]; omega) (by simp [zs_length])]
          have eg : gapB (p - 8 - (e + 8 + upN n)) = four (p - 8 - e - 8 - upN n - 8) ++ (four 2 ++ zs (p - 8 - e - 8 - upN n - 8)) := by
            unfold gapB
            rw [if_neg (by omega), show p - 8 - (e + 8 + upN n) - 8 = p - 8 - e - 8 - upN n - 8 by omega, List.append_assoc]
          rw [eg, show (((p - 8 - e - 8 : Nat) : Int) - (upN n : Int) - 8).toNat = p - 8 - e - 8 - upN n - 8 by omega]
          simp only [List.append_assoc]
          rfl
        · rename_i hlt
          have hq : upN n = p - 8 - e - 8 := by omega
          have eg : gapB (p - 8 - (e + 8 + upN n)) = [] := by unfold gapB; rw [if_pos (by omega)]
          rw [eg, hq]
          simp only [List.append_assoc, List.nil_append]
      · refine ⟨by omega, by omega, fun _ => by omega, by rw [zs_length]; exact hn, ?_⟩
        rw [zs_length]
        exact ⟨h1, by omega, (fun h => by cases h), h4, h5⟩
    · -- it does not: on
      have ha : allocL n e ((p, s) :: r) = ((p, s) :: (allocL n (p + upN s.length) r).1, (allocL n (p + upN s.length) r).2) := by rw [allocL, if_neg hc]
      have h' : (unitsOf (p + upN s.length) r).find? (allocFit n) = some u := by
        rw [unitsOf] at h
        have hused : allocFit n (((p - 8 : Nat) : Int), (s.length : Int), 1) = false := by unfold allocFit; rfl
        by_cases hz : p - 8 - e = 0
        · rw [if_pos hz] at h; simpa [hused] using h
        · rw [if_neg hz] at h
          have hfit : allocFit n ((e : Int), ((p - 8 - e - 8 : Nat) : Int), 2) = false := by
            unfold allocFit; simp only [upZ_nat]
            have : upN (p - 8 - e - 8) = p - 8 - e - 8 := by unfold upN; omega
            rw [this]; simp; omega
          simpa [hused, hfit] using h
      have hpre : (pre ++ (gapB (p - 8 - e) ++ usedB s)).length = p + upN s.length := by
        rw [List.length_append, List.length_append, gapB_length _ hg, usedB_length]; omega
      obtain ⟨i1, i2, i3, i4, i5⟩ := allocL_fit n hn r false (p + upN s.length) (pre ++ (gapB (p - 8 - e) ++ usedB s)) post u (by omega) hpre h5 h'
      rw [ha]
      refine ⟨?_, i2, by simp only [endOf]; exact i3, by simp [i4], ⟨h1, h2, h3, h4, i5⟩⟩
      simp only [enc]
      simp only [List.append_assoc] at i1 ⊢
      exact i1
theorem allocL_none (n : Nat) (hn : 1 ≤ n) : ∀ (lay : Lay) (b : Bool) (e : Nat), e % 8 = 0 → ok b e lay → (unitsOf e lay).find? (allocFit n) = none →
    allocL n e lay = (lay ++ [(endOf e lay + 8, zs n)], endOf e lay + 8)
  | [], _, _, _, _, _ => rfl
  | (p, s) :: r, b, e, he, hok, h => by
    have hu8 := upN_8 s.length
    obtain ⟨h1, h2, h3, h4, h5⟩ := hok
    rw [unitsOf] at h
    have hc : ¬ (p - 8 - e ≠ 0 ∧ upN n ≤ p - 8 - e - 8) := by
      rintro ⟨hz, hc2⟩
      rw [if_neg hz] at h
      have hfit : allocFit n ((e : Int), ((p - 8 - e - 8 : Nat) : Int), 2) = true := by
        unfold allocFit; simp only [upZ_nat]
        have : upN (p - 8 - e - 8) = p - 8 - e - 8 := by unfold upN; omega
        rw [this]; simp; omega
      simp [hfit] at h
    have h' : (unitsOf (p + upN s.length) r).find? (allocFit n) = none := by
      rw [List.find?_append] at h
      have := (Option.or_eq_none_iff.1 h).2
      rw [List.find?_cons] at this
      split at this
      · cases this
      · exact this
    rw [allocL, if_neg hc, allocL_none n hn r false _ (by omega) h5 h']
    rfl
theorem enc_snoc (n : Nat) : ∀ (lay : Lay) (e : Nat), enc e (lay ++ [(endOf e lay + 8, zs n)]) = enc e lay ++ usedB (zs n) ∧ endOf e (lay ++ [(endOf e lay + 8, zs n)]) = endOf e lay + 8 + upN n
  | [], e => by simp [enc, endOf, gapB, zs_length]
  | (p, s) :: r, e => by
    have := enc_snoc n r (p + upN s.length)
    simp only [List.cons_append, enc, endOf]
    rw [this.1, this.2]
    simp only [List.append_assoc]
    exact ⟨trivial, trivial⟩
theorem ok_snoc (n : Nat) (hn : 1 ≤ n) : ∀ (lay : Lay) (b : Bool) (e : Nat), e % 8 = 0 → ok b e lay → ok b e (lay ++ [(endOf e lay + 8, zs n)])
  | [], b, e, he, _ => ⟨by simp only [endOf]; omega, by simp only [endOf]; omega, fun _ => by simp only [endOf]; omega, by rw [zs_length]; exact hn, trivial⟩
  | (p, s) :: r, b, e, he, ⟨h1, h2, h3, h4, h5⟩ => ⟨h1, h2, h3, h4, ok_snoc n hn r false _ (by have := upN_8 s.length; omega) h5⟩
end Go.Proofs.Ytcfmimfkaabmkaa
