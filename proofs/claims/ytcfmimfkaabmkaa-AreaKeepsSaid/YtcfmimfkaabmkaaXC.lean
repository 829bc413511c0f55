/- The plain law of Alloc: what area.Alloc makes of the raw bytes is the area with one allocation more. -/
import Derived.Test.YtcfmimfkaabmkaaB6
import Derived.Test.YtcfmimfkaabmkaaXL
set_option linter.unusedVariables false
set_option linter.unusedSimpArgs false
namespace Go.Proofs.Ytcfmimfkaabmkaa
theorem setL_at {pre m post : List UInt8} {q y : Nat} (hq : pre.length = q) (hm : m.length = 4) : setL (pre ++ (m ++ post)) q y = pre ++ (four y ++ post) := by
  subst hq
  match m, hm with
  | [a, b, c, d], _ => simp [setL, four, List.set_append]
theorem putHead_at {pre m post : List UInt8} {a s k : Int} (hq : (pre.length : Int) = a) (hm : m.length = 8) : putHead (pre ++ (m ++ post)) a s k = pre ++ (four s.toNat ++ (four k.toNat ++ post)) := by
  unfold putHead
  have hs : m = m.take 4 ++ m.drop 4 := (List.take_append_drop 4 m).symm
  rw [hs, List.append_assoc, setL_at (q := a.toNat) (by omega) (by simp; omega)]
  rw [← List.append_assoc pre, setL_at (q := a.toNat + 4) (by simp [four_length]; omega) (by simp; omega), List.append_assoc]
/-- The allocation of n bytes more: where the first gap lets it, or behind all. -/
def allocL (n : Nat) : Nat → Lay → Lay × Nat
  | e, [] => ([(e + 8, zs n)], e + 8)
  | e, (p, s) :: r => if p - 8 - e ≠ 0 ∧ upN n ≤ p - 8 - e - 8 then ((e + 8, zs n) :: (p, s) :: r, e + 8) else ((p, s) :: (allocL n (p + upN s.length) r).1, (allocL n (p + upN s.length) r).2)
theorem usedB_zs (n : Nat) : usedB (zs n) = four n ++ (four 1 ++ zs (upN n)) := by
  have := upN_bd n
  unfold usedB
  rw [zs_length, List.append_assoc, List.append_assoc, ← zs_add, show n + (upN n - n) = upN n by omega]
def cutGap (l : List UInt8) (n a s : Int) : List UInt8 :=
  if upZ n < upZ s then putHead (putHead l a n 1) (a + 8 + upZ n) (upZ s - upZ n - 8) 2 else putHead l a n 1
theorem allocL_fit (n : Nat) (hn : 1 ≤ n) : ∀ (lay : Lay) (b : Bool) (e : Nat) (pre post : List UInt8) (u : Int × Int × Int), e % 8 = 0 → pre.length = e → ok b e lay → (unitsOf e lay).find? (allocFit n) = some u →
    cutGap (pre ++ (enc e lay ++ post)) n u.1 u.2.1 = pre ++ (enc e (allocL n e lay).1 ++ post) ∧ ((allocL n e lay).2 : Int) = u.1 + 8 ∧ endOf e (allocL n e lay).1 = endOf e lay ∧ (allocL n e lay).1.length = lay.length + 1 ∧ ok b e (allocL n e lay).1
  | [], _, _, _, _, _, _, _, _, h => by simp [unitsOf] at h
  | (p, s) :: r, b, e, pre, post, u, he, hp, hok, h => by
    have hg := gap_ok he hok
    have hu8 := upN_8 s.length
    have hn8 := upN_8 n
    have hnb := upN_bd n
    obtain ⟨h1, h2, h3, h4, h5⟩ := hok
    by_cases hc : p - 8 - e ≠ 0 ∧ upN n ≤ p - 8 - e - 8
    · -- the gap lets it
      obtain ⟨hc1, hc2⟩ := hc
      have hu : u = ((e : Int), ((p - 8 - e - 8 : Nat) : Int), 2) := by
        rw [unitsOf, if_neg hc1] at h
        have hfit : allocFit n ((e : Int), ((p - 8 - e - 8 : Nat) : Int), 2) = true := by
          unfold allocFit; simp only [upZ_nat]
          have : upN (p - 8 - e - 8) = p - 8 - e - 8 := by unfold upN; omega
          rw [this]; simp; omega
        simp [hfit] at h
        exact h.symm
      have hup : upN (p - 8 - e - 8) = p - 8 - e - 8 := by unfold upN; omega
      have ha : allocL n e ((p, s) :: r) = ((e + 8, zs n) :: (p, s) :: r, e + 8) := by unfold allocL; rw [if_pos ⟨hc1, hc2⟩]
      rw [ha, hu]
      refine ⟨?_, by simp, by simp only [endOf], by simp, ?_⟩
      · simp only
        unfold cutGap
        rw [upZ_nat, upZ_nat, hup]
        have hgb : gapB (p - 8 - e) = (four (p - 8 - e - 8) ++ four 2) ++ zs (p - 8 - e - 8) := by unfold gapB; rw [if_neg hc1]
        have e1 : pre ++ (enc e ((p, s) :: r) ++ post) = pre ++ ((four (p - 8 - e - 8) ++ four 2) ++ (zs (p - 8 - e - 8) ++ (usedB s ++ enc (p + upN s.length) r ++ post))) := by
          rw [enc, hgb]; simp only [List.append_assoc]
        have e2 : putHead (pre ++ (enc e ((p, s) :: r) ++ post)) (e : Int) (n : Int) 1 = pre ++ (four n ++ (four 1 ++ (zs (p - 8 - e - 8) ++ (usedB s ++ enc (p + upN s.length) r ++ post)))) := by
          rw [e1, putHead_at (by omega) (by simp [four_length])]; rfl
        have e3 : enc e ((e + 8, zs n) :: (p, s) :: r) = four n ++ (four 1 ++ (zs (upN n) ++ (gapB (p - 8 - (e + 8 + upN n)) ++ (usedB s ++ enc (p + upN s.length) r)))) := by
          rw [enc, enc, show e + 8 - 8 - e = 0 by omega, usedB_zs, zs_length]
          simp only [gapB, if_true, List.nil_append, List.append_assoc]
        rw [e2, e3]
        split
        · rename_i hlt
          have hlt : upN n < p - 8 - e - 8 := by omega
          have ez : zs (p - 8 - e - 8) = zs (upN n) ++ (zs 8 ++ zs (p - 8 - e - 8 - upN n - 8)) := by
            rw [← zs_add, ← zs_add]; congr 1; omega
          have e4 : pre ++ (four n ++ (four 1 ++ (zs (p - 8 - e - 8) ++ (usedB s ++ enc (p + upN s.length) r ++ post)))) = (pre ++ (four n ++ (four 1 ++ zs (upN n)))) ++ (zs 8 ++ (zs (p - 8 - e - 8 - upN n - 8) ++ (usedB s ++ enc (p + upN s.length) r ++ post))) := by
            rw [ez]; simp only [List.append_assoc]
          rw [e4, putHead_at (by simp [four_length, zs_length]; omega) (by simp [zs_length])]
          have eg : gapB (p - 8 - (e + 8 + upN n)) = four (p - 8 - e - 8 - upN n - 8) ++ (four 2 ++ zs (p - 8 - e - 8 - upN n - 8)) := by
            unfold gapB
            rw [if_neg (by omega), show p - 8 - (e + 8 + upN n) - 8 = p - 8 - e - 8 - upN n - 8 by omega, List.append_assoc]
          rw [eg, show (((p - 8 - e - 8 : Nat) : Int) - (upN n : Int) - 8).toNat = p - 8 - e - 8 - upN n - 8 by omega]
          simp only [List.append_assoc]
          rfl
        · rename_i hlt
          have hq : upN n = p - 8 - e - 8 := by omega
          have eg : gapB (p - 8 - (e + 8 + upN n)) = [] := by unfold gapB; rw [if_pos (by omega)]
          rw [eg, hq]
          simp only [List.append_assoc, List.nil_append]
      · refine ⟨by omega, by omega, fun _ => by omega, by rw [zs_length]; exact hn, ?_⟩
        rw [zs_length]
        exact ⟨h1, by omega, (fun h => by cases h), h4, h5⟩
    · -- it does not: on
      have ha : allocL n e ((p, s) :: r) = ((p, s) :: (allocL n (p + upN s.length) r).1, (allocL n (p + upN s.length) r).2) := by rw [allocL, if_neg hc]
      have h' : (unitsOf (p + upN s.length) r).find? (allocFit n) = some u := by
        rw [unitsOf] at h
        have hused : allocFit n (((p - 8 : Nat) : Int), (s.length : Int), 1) = false := by unfold allocFit; rfl
        by_cases hz : p - 8 - e = 0
        · rw [if_pos hz] at h; simpa [hused] using h
        · rw [if_neg hz] at h
          have hfit : allocFit n ((e : Int), ((p - 8 - e - 8 : Nat) : Int), 2) = false := by
            unfold allocFit; simp only [upZ_nat]
            have : upN (p - 8 - e - 8) = p - 8 - e - 8 := by unfold upN; omega
            rw [this]; simp; omega
          simpa [hused, hfit] using h
      have hpre : (pre ++ (gapB (p - 8 - e) ++ usedB s)).length = p + upN s.length := by
        rw [List.length_append, List.length_append, gapB_length _ hg, usedB_length]; omega
      obtain ⟨i1, i2, i3, i4, i5⟩ := allocL_fit n hn r false (p + upN s.length) (pre ++ (gapB (p - 8 - e) ++ usedB s)) post u (by omega) hpre h5 h'
      rw [ha]
      refine ⟨?_, i2, by simp only [endOf]; exact i3, by simp [i4], ⟨h1, h2, h3, h4, i5⟩⟩
      simp only [enc]
      simp only [List.append_assoc] at i1 ⊢
      exact i1
theorem allocL_none (n : Nat) (hn : 1 ≤ n) : ∀ (lay : Lay) (b : Bool) (e : Nat), e % 8 = 0 → ok b e lay → (unitsOf e lay).find? (allocFit n) = none →
    allocL n e lay = (lay ++ [(endOf e lay + 8, zs n)], endOf e lay + 8)
  | [], _, _, _, _, _ => rfl
  | (p, s) :: r, b, e, he, hok, h => by
    have hu8 := upN_8 s.length
    obtain ⟨h1, h2, h3, h4, h5⟩ := hok
    rw [unitsOf] at h
    have hc : ¬ (p - 8 - e ≠ 0 ∧ upN n ≤ p - 8 - e - 8) := by
      rintro ⟨hz, hc2⟩
      rw [if_neg hz] at h
      have hfit : allocFit n ((e : Int), ((p - 8 - e - 8 : Nat) : Int), 2) = true := by
        unfold allocFit; simp only [upZ_nat]
        have : upN (p - 8 - e - 8) = p - 8 - e - 8 := by unfold upN; omega
        rw [this]; simp; omega
      simp [hfit] at h
    have h' : (unitsOf (p + upN s.length) r).find? (allocFit n) = none := by
      rw [List.find?_append] at h
      have := (Option.or_eq_none_iff.1 h).2
      rw [List.find?_cons] at this
      split at this
      · cases this
      · exact this
    rw [allocL, if_neg hc, allocL_none n hn r false _ (by omega) h5 h']
    rfl
theorem enc_snoc (n : Nat) : ∀ (lay : Lay) (e : Nat), enc e (lay ++ [(endOf e lay + 8, zs n)]) = enc e lay ++ usedB (zs n) ∧ endOf e (lay ++ [(endOf e lay + 8, zs n)]) = endOf e lay + 8 + upN n
  | [], e => by simp [enc, endOf, gapB, zs_length]
  | (p, s) :: r, e => by
    have := enc_snoc n r (p + upN s.length)
    simp only [List.cons_append, enc, endOf]
    rw [this.1, this.2]
    simp only [List.append_assoc]
    exact ⟨trivial, trivial⟩
theorem ok_snoc (n : Nat) (hn : 1 ≤ n) : ∀ (lay : Lay) (b : Bool) (e : Nat), e % 8 = 0 → ok b e lay → ok b e (lay ++ [(endOf e lay + 8, zs n)])
  | [], b, e, he, _ => ⟨by simp only [endOf]; omega, by simp only [endOf]; omega, fun _ => by simp only [endOf]; omega, by rw [zs_length]; exact hn, trivial⟩
  | (p, s) :: r, b, e, he, ⟨h1, h2, h3, h4, h5⟩ => ⟨h1, h2, h3, h4, ok_snoc n hn r false _ (by have := upN_8 s.length; omega) h5⟩
end Go.Proofs.Ytcfmimfkaabmkaa
/- area.Alloc on areas: the contract. -/
set_option linter.unusedVariables false
set_option linter.unusedSimpArgs false
namespace Go.Proofs.Ytcfmimfkaabmkaa
open Go.RowKit
attribute [local irreducible] num
theorem ok_len : ∀ (lay : Lay) (b : Bool) (e : Nat), ok b e lay → e + 9 * lay.length ≤ endOf e lay
  | [], _, _, _ => Nat.le_refl _
  | (p, s) :: r, b, e, ⟨h1, h2, h3, h4, h5⟩ => by
    have := ok_len r _ _ h5
    have := upN_bd s.length
    simp only [endOf, List.length_cons]
    omega
theorem area_num4 {a : List UInt8} {lay : Lay} (h : Area a lay) : num a 4 = (lay.length : Int) ∧ lay.length ≤ 8192 := by
  obtain ⟨h16, h81, hok, hend, ha⟩ := h
  have := ok_len lay _ _ hok
  refine ⟨?_, by omega⟩
  exact num_at (pre := four (endOf 8 lay - 8)) (t := enc 8 lay ++ zs (a.length - endOf 8 lay)) ha rfl (by omega)
theorem area_render {lay : Lay} {n : Nat} (h : ok true 8 lay) (h0 : 16 ≤ n) (h1 : n ≤ 8192) (he : endOf 8 lay ≤ n) : Area (render n lay) lay := by
  have := render_length h he
  exact ⟨by omega, by omega, h, by omega, by rw [this]⟩
/-- What Alloc answers at an area of n0 bytes with the allocations lay. -/
def allocA (n0 : Nat) (lay : Lay) (n : Int) : List UInt8 × Int × Int :=
  if n < 1 ∨ 8192 < n then ([], 0, 1)
  else if endOf 8 (allocL n.toNat 8 lay).1 ≤ n0 then (render n0 (allocL n.toNat 8 lay).1, ((allocL n.toNat 8 lay).2 : Int), 0) else ([], 0, 121)
theorem allocL_ok {n : Nat} (hn : 1 ≤ n) {lay : Lay} (hok : ok true 8 lay) : ok true 8 (allocL n 8 lay).1 := by
  cases hf : (unitsOf 8 lay).find? (allocFit n) with
  | some u => exact (allocL_fit n hn lay true 8 (zs 8) [] u rfl (by simp [zs_length]) hok hf).2.2.2.2
  | none => rw [allocL_none n hn lay true 8 rfl hok hf]; exact ok_snoc n hn lay true 8 rfl hok
theorem alloc_area {l : List UInt8} {lay : Lay} (h : Area l lay) (n : Nat) (hn : 1 ≤ n) (hn2 : n ≤ 8192) : allocRaw l (unitsOf 8 lay) n = allocA l.length lay n := by
  have hA := h
  obtain ⟨h16, h81, hok, hend, ha⟩ := h
  obtain ⟨h4, hlen⟩ := area_num4 hA
  have h0 := (area_units hA).2
  have hge := endOf_ge hok
  have henl := enc_length (e := 8) rfl hok
  have hrl := render_length hok hend
  have hl4 : setL l 4 (num l 4 + 1).toNat = (four (endOf 8 lay - 8) ++ four (lay.length + 1)) ++ (enc 8 lay ++ zs (l.length - endOf 8 lay)) := by
    rw [h4, show ((lay.length : Int) + 1).toNat = lay.length + 1 by omega]
    conv => lhs; rw [ha]
    unfold render
    rw [setL_at (by simp [four_length]) (four_length _), List.append_assoc]
  have hn0 : ¬ ((n : Int) < 1 ∨ (8192 : Int) < n) := by omega
  unfold allocA
  rw [if_neg hn0, Int.toNat_natCast]
  cases hf : (unitsOf 8 lay).find? (allocFit n) with
  | some u =>
    obtain ⟨i1, i2, i3, i4, i5⟩ := allocL_fit n hn lay true 8 (four (endOf 8 lay - 8) ++ four (lay.length + 1)) (zs (l.length - endOf 8 lay)) u rfl (by simp [four_length]) hok hf
    rw [if_pos (by rw [i3]; exact hend)]
    unfold allocRaw
    rw [hf]
    simp only
    rw [hl4]
    have i1' := i1
    unfold cutGap at i1'
    rw [i1', i2]
    unfold render
    rw [i3, i4]
    simp only [List.append_assoc]
  | none =>
    have hal := allocL_none n hn lay true 8 rfl hok hf
    obtain ⟨j1, j2⟩ := enc_snoc n lay 8
    rw [hal]
    simp only [j2]
    unfold allocRaw
    rw [hf]
    simp only
    rw [hl4, h0, upZ_nat]
    have hnb := upN_bd n
    by_cases hfit : endOf 8 lay + 8 + upN n ≤ l.length
    · rw [if_neg (by omega), if_pos hfit]
      have e1 : (four (endOf 8 lay - 8) ++ four (lay.length + 1)) ++ (enc 8 lay ++ zs (l.length - endOf 8 lay)) =
          (four (endOf 8 lay - 8) ++ four (lay.length + 1) ++ enc 8 lay) ++ (zs 8 ++ (zs (upN n) ++ zs (l.length - (endOf 8 lay + 8 + upN n)))) := by
        rw [← zs_add, ← zs_add, show 8 + (upN n + (l.length - (endOf 8 lay + 8 + upN n))) = l.length - endOf 8 lay by omega]
        simp only [List.append_assoc]
      rw [e1, putHead_at (by simp only [List.length_append, four_length, henl]; omega) (zs_length 8)]
      have e2 : four (endOf 8 lay - 8) ++ four (lay.length + 1) ++ enc 8 lay ++ (four (n : Int).toNat ++ (four (1 : Int).toNat ++ (zs (upN n) ++ zs (l.length - (endOf 8 lay + 8 + upN n))))) =
          [] ++ (four (endOf 8 lay - 8) ++ (four (lay.length + 1) ++ (enc 8 lay ++ (usedB (zs n) ++ zs (l.length - (endOf 8 lay + 8 + upN n)))))) := by
        rw [usedB_zs, List.nil_append]
        simp only [List.append_assoc, Int.toNat_natCast]
        rfl
      rw [e2, setL_at (q := 0) rfl (four_length _)]
      unfold render
      have hX : num l 0 = ((endOf 8 lay - 8 : Nat) : Int) := by omega
      rw [j1, j2, List.nil_append, hX, show (((endOf 8 lay - 8 : Nat) : Int) + 8 + (upN n : Int)).toNat = endOf 8 lay + 8 + upN n - 8 by clear hX h0 h4; omega]
      simp only [List.append_assoc, List.length_append, List.length_cons, List.length_nil, Nat.zero_add]
      rw [show (((endOf 8 lay : Int) + 8 : Int)) = ((endOf 8 lay + 8 : Nat) : Int) by omega]
    · rw [if_pos (by omega), if_neg hfit]
/-- The contract of area.Alloc. -/
theorem alloc_lay (s : ByteArray) (n : Int) (lay : Lay) (w : World) (hs : s.size ≤ maxLen) (h : Area s.data.toList lay) : Calls Try.prog 20 #[.string s, .int .i64 n] w (TriPost (allocA s.data.toList.length lay n) w) := by
  have ho : openS s.data.toList = true := (openS_iff _).2 ⟨lay, h⟩
  by_cases hn : n < 1 ∨ 8192 < n
  · unfold allocA; rw [if_pos hn]; exact alloc_arg s n w hs ho hn
  · obtain ⟨k, rfl⟩ := Int.eq_ofNat_of_zero_le (show 0 ≤ n by omega)
    rw [← alloc_area h k (by omega) (by omega)]
    have hu := area_units h
    have h4 := area_num4 h
    have hend := h.2.2.2.1
    exact alloc_main s k _ _ w hs rfl ho (by omega) (by omega) hu.1 h.1 h.2.1 (by rw [hu.2]; omega) (by omega)
end Go.Proofs.Ytcfmimfkaabmkaa
/- The plain law of Free. -/
set_option linter.unusedVariables false
set_option linter.unusedSimpArgs false
namespace Go.Proofs.Ytcfmimfkaabmkaa
open Go.RowKit
attribute [local irreducible] num
theorem unitsOf_append : ∀ (A B : Lay) (e : Nat), unitsOf e (A ++ B) = unitsOf e A ++ unitsOf (endOf e A) B
  | [], B, e => rfl
  | (p, s) :: r, B, e => by rw [List.cons_append, unitsOf, unitsOf, unitsOf_append r B, endOf]; simp only [List.append_assoc, List.cons_append]
theorem enc_append : ∀ (A B : Lay) (e : Nat), enc e (A ++ B) = enc e A ++ enc (endOf e A) B
  | [], B, e => rfl
  | (p, s) :: r, B, e => by rw [List.cons_append, enc, enc, enc_append r B, endOf]; simp only [List.append_assoc]
theorem endOf_append : ∀ (A B : Lay) (e : Nat), endOf e (A ++ B) = endOf (endOf e A) B
  | [], B, e => rfl
  | (p, s) :: r, B, e => by rw [List.cons_append, endOf, endOf_append r B, endOf]
theorem ok_append : ∀ (A B : Lay) (b : Bool) (e : Nat), ok b e (A ++ B) ↔ ok b e A ∧ ok (b && A.isEmpty) (endOf e A) B
  | [], B, b, e => by simp [ok, endOf]
  | (p, s) :: r, B, b, e => by
    have := ok_append r B false (p + upN s.length)
    simp only [List.cons_append, ok, endOf, List.isEmpty_cons, Bool.and_false, Bool.false_and] at this ⊢
    rw [this]
    constructor
    · rintro ⟨h1, h2, h3, h4, h5, h6⟩; exact ⟨⟨h1, h2, h3, h4, h5⟩, h6⟩
    · rintro ⟨⟨h1, h2, h3, h4, h5⟩, h6⟩; exact ⟨h1, h2, h3, h4, h5, h6⟩
/-- What Free answers at an area of n0 bytes with the allocations lay. -/
def freeA (n0 : Nat) (lay : Lay) (p : Int) : List UInt8 × Int :=
  if lay.any (fun x => decide ((x.1 : Int) = p)) then (render n0 (lay.filter (fun x => !decide ((x.1 : Int) = p))), 0) else ([], 122)
/-- Before the allocation is met. -/
theorem freeS_before (p : Int) : ∀ (A : Lay) (b : Bool) (e : Nat) (st : Int × Int × Bool × Int × Int × Int), ok b e A → (∀ x ∈ A, (x.1 : Int) ≠ p) → st.2.2.1 = false → st.2.2.2.2.2 ≠ 2 →
    ((unitsOf e A).foldl (freeStep p) st).2.2.1 = false ∧ ((unitsOf e A).foldl (freeStep p) st).2.2.2.2.2 ≠ 2
  | [], _, _, _, _, _, h1, h2 => ⟨h1, h2⟩
  | (q, s) :: r, b, e, st, ⟨o1, o2, o3, o4, o5⟩, hne, h1, h2 => by
    have hq := hne (q, s) (List.mem_cons_self ..)
    simp only at hq
    rw [unitsOf, List.foldl_append, List.foldl_cons]
    have key : ∀ st' : Int × Int × Bool × Int × Int × Int, st'.2.2.1 = false → (freeStep p st' (((q - 8 : Nat) : Int), (s.length : Int), 1)).2.2.1 = false ∧ (freeStep p st' (((q - 8 : Nat) : Int), (s.length : Int), 1)).2.2.2.2.2 ≠ 2 := fun st' h => by
      unfold freeStep
      rw [if_neg (by simp only; omega), if_neg (by rw [h]; simp)]
      exact ⟨h, by simp⟩
    have hst : ((if q - 8 - e = 0 then ([] : List (Int × Int × Int)) else [((e : Int), ((q - 8 - e - 8 : Nat) : Int), 2)]).foldl (freeStep p) st).2.2.1 = false := by
      split
      · exact h1
      · simp only [List.foldl_cons, List.foldl_nil]
        unfold freeStep
        rw [if_neg (by simp), if_neg (by rw [h1]; simp)]
        exact h1
    obtain ⟨k1, k2⟩ := key _ hst
    exact freeS_before p r false _ _ o5 (fun x hx => hne x (List.mem_cons_of_mem _ hx)) k1 k2
/-- Behind it: nothing changes where no gap begins at to. -/
theorem freeS_after (p f t : Int) : ∀ (us : List (Int × Int × Int)) (st : Int × Int × Bool × Int × Int × Int), (∀ u ∈ us, (u.2.2 = 1 → u.1 + 8 ≠ p) ∧ (u.2.2 = 2 → u.1 ≠ t)) → st.1 = f ∧ st.2.1 = t ∧ st.2.2.1 = true →
    (us.foldl (freeStep p) st).1 = f ∧ (us.foldl (freeStep p) st).2.1 = t ∧ (us.foldl (freeStep p) st).2.2.1 = true
  | [], _, _, h => h
  | u :: us, st, hu, h => by
    rw [List.foldl_cons]
    obtain ⟨u1, u2⟩ := hu u (List.mem_cons_self ..)
    refine freeS_after p f t us _ (fun v hv => hu v (List.mem_cons_of_mem _ hv)) ?_
    unfold freeStep
    rw [if_neg (fun hh => u1 hh.1 hh.2), if_neg (fun hh => u2 hh.2.1 (by rw [hh.2.2]; exact h.2.1))]
    exact h
theorem units_ge : ∀ (A : Lay) (b : Bool) (e : Nat), ok b e A → ∀ u ∈ unitsOf e A, (e : Int) ≤ u.1
  | [], _, _, _, u, hu => by simp [unitsOf] at hu
  | (q, s) :: r, b, e, ⟨o1, o2, o3, o4, o5⟩, u, hu => by
    rw [unitsOf] at hu
    rcases List.mem_append.1 hu with hu | hu
    · split at hu
      · cases hu
      · rw [List.mem_singleton] at hu; subst hu; exact Int.le_refl _
    · rcases List.mem_cons.1 hu with rfl | hu
      · simp only; omega
      · have := units_ge r _ _ o5 u hu
        omega
theorem units_used : ∀ (A : Lay) (b : Bool) (e : Nat), ok b e A → ∀ u ∈ unitsOf e A, u.2.2 = 1 → ∃ x ∈ A, (x.1 : Int) = u.1 + 8
  | [], _, _, _, u, hu, _ => by simp [unitsOf] at hu
  | (q, s) :: r, b, e, ⟨o1, o2, o3, o4, o5⟩, u, hu, hm => by
    rw [unitsOf] at hu
    rcases List.mem_append.1 hu with hu | hu
    · split at hu
      · cases hu
      · rw [List.mem_singleton] at hu; subst hu; simp at hm
    · rcases List.mem_cons.1 hu with rfl | hu
      · exact ⟨(q, s), List.mem_cons_self .., by simp only; omega⟩
      · obtain ⟨x, hx, he⟩ := units_used r _ _ o5 u hu hm
        exact ⟨x, List.mem_cons_of_mem _ hx, he⟩
theorem offs_ge : ∀ (A : Lay) (b : Bool) (e : Nat), ok b e A → ∀ x ∈ A, e + 8 ≤ x.1
  | [], _, _, _, x, hx => by cases hx
  | (q, s) :: r, b, e, ⟨o1, o2, o3, o4, o5⟩, x, hx => by
    rcases List.mem_cons.1 hx with rfl | hx
    · exact o2
    · have := offs_ge r _ _ o5 x hx; omega
/-- Where what is free behind the freed one ends. -/
def nextAt (e : Nat) : Lay → Nat
  | [] => e
  | (p, _) :: _ => p - 8
/-- The allocation is met and freed: from and to. -/
theorem freeS_hit (q : Nat) (s : List UInt8) (R : Lay) (b : Bool) (e : Nat) (st : Int × Int × Bool × Int × Int × Int) (hok : ok b e ((q, s) :: R)) (h1 : st.2.2.1 = false) (h2 : st.2.2.2.2.2 ≠ 2) :
    ((unitsOf e ((q, s) :: R)).foldl (freeStep q) st).1 = (e : Int) ∧ ((unitsOf e ((q, s) :: R)).foldl (freeStep q) st).2.1 = (nextAt (q + upN s.length) R : Int) ∧ ((unitsOf e ((q, s) :: R)).foldl (freeStep q) st).2.2.1 = true := by
  obtain ⟨o1, o2, o3, o4, o5⟩ := hok
  rw [unitsOf, List.foldl_append, List.foldl_cons]
  have hub := upN_bd s.length
  have k : ∀ st' : Int × Int × Bool × Int × Int × Int, (st'.2.2.2.2.2 = 2 → st'.2.2.2.1 = (e : Int)) → (st'.2.2.2.2.2 ≠ 2 → q - 8 = e) →
      freeStep q st' (((q - 8 : Nat) : Int), (s.length : Int), 1) = ((e : Int), ((q + upN s.length : Nat) : Int), true, ((q - 8 : Nat) : Int), (s.length : Int), 1) := fun st' g1 g2 => by
    unfold freeStep
    rw [if_pos ⟨rfl, by simp only; omega⟩]
    simp only [upZ_nat]
    split
    · rename_i hh; rw [g1 hh, show ((q - 8 : Nat) : Int) + 8 + (upN s.length : Int) = ((q + upN s.length : Nat) : Int) by omega]
    · rename_i hh; rw [g2 hh, show (e : Int) + 8 + (upN s.length : Int) = ((q + upN s.length : Nat) : Int) by have := g2 hh; omega]
  have hst : freeStep q ((if q - 8 - e = 0 then ([] : List (Int × Int × Int)) else [((e : Int), ((q - 8 - e - 8 : Nat) : Int), 2)]).foldl (freeStep q) st) (((q - 8 : Nat) : Int), (s.length : Int), 1) = ((e : Int), ((q + upN s.length : Nat) : Int), true, ((q - 8 : Nat) : Int), (s.length : Int), 1) := by
    apply k
    · split
      · intro hh; exact absurd hh h2
      · intro _; simp only [List.foldl_cons, List.foldl_nil]; unfold freeStep; rw [if_neg (by simp), if_neg (by rw [h1]; simp)]
    · split
      · intro _; omega
      · intro hh; exfalso; apply hh; simp only [List.foldl_cons, List.foldl_nil]; unfold freeStep; rw [if_neg (by simp), if_neg (by rw [h1]; simp)]
  rw [hst]
  match R, o5 with
  | [], _ => exact ⟨rfl, rfl, rfl⟩
  | (p2, s2) :: R2, ⟨r1, r2, r3, r4, r5⟩ =>
    have hq8 := upN_8 s.length
    have hub2 := upN_bd s2.length
    rw [unitsOf, List.foldl_append, List.foldl_cons]
    have hrest : ∀ u ∈ ((((p2 - 8 : Nat) : Int), (s2.length : Int), 1) :: unitsOf (p2 + upN s2.length) R2 : List (Int × Int × Int)), (u.2.2 = 1 → u.1 + 8 ≠ (q : Int)) ∧ (u.2.2 = 2 → u.1 ≠ ((p2 - 8 : Nat) : Int)) := by
      intro u hu
      rcases List.mem_cons.1 hu with rfl | hu
      · exact ⟨fun _ => by simp only; omega, fun h => by simp at h⟩
      · have hge := units_ge R2 _ _ r5 u hu
        exact ⟨fun _ => by omega, fun _ => by omega⟩
    have := freeS_after (q : Int) (e : Int) ((p2 - 8 : Nat) : Int) ((((p2 - 8 : Nat) : Int), (s2.length : Int), 1) :: unitsOf (p2 + upN s2.length) R2)
    rw [← List.foldl_cons]
    refine this _ hrest ?_
    split
    · rename_i hz; exact ⟨rfl, by simp only [List.foldl_nil]; omega, rfl⟩
    · rename_i hz
      simp only [List.foldl_cons, List.foldl_nil]
      unfold freeStep
      rw [if_neg (by simp), if_pos ⟨rfl, rfl, rfl⟩]
      have hu : upZ ((p2 - 8 - (q + upN s.length) - 8 : Nat) : Int) = ((p2 - 8 - (q + upN s.length) - 8 : Nat) : Int) := by
        rw [upZ_nat]; unfold upN at *; omega
      refine ⟨rfl, ?_, rfl⟩
      simp only
      rw [hu]; omega
end Go.Proofs.Ytcfmimfkaabmkaa
/- area.Free on areas: the contract. -/
set_option linter.unusedVariables false
set_option linter.unusedSimpArgs false
namespace Go.Proofs.Ytcfmimfkaabmkaa
open Go.RowKit
attribute [local irreducible] num
theorem over_at {P M S Z : List UInt8} {k : Nat} (hk : P.length = k) (hz : Z.length = M.length) : over (P ++ (M ++ S)) k Z = P ++ (Z ++ S) := by
  subst hk
  unfold over
  rw [List.take_left, hz, ← List.append_assoc P M S, show P.length + M.length = (P ++ M).length by simp, List.drop_left, List.append_assoc]
theorem offs_lt : ∀ (A : Lay) (b : Bool) (e : Nat), ok b e A → ∀ x ∈ A, x.1 < endOf e A
  | [], _, _, _, x, hx => by cases hx
  | (q, s) :: r, b, e, ⟨o1, o2, o3, o4, o5⟩, x, hx => by
    have := endOf_ge o5
    have := upN_bd s.length
    unfold endOf
    rcases List.mem_cons.1 hx with rfl | hx
    · simp only; omega
    · exact offs_lt r _ _ o5 x hx
def gapX (e : Nat) : Lay → List UInt8
  | [] => []
  | (p, _) :: _ => gapB (p - 8 - e)
def tailY : Lay → List UInt8
  | [] => []
  | (p, s) :: r => usedB s ++ enc (p + upN s.length) r
theorem enc_xy (e : Nat) (R : Lay) : enc e R = gapX e R ++ tailY R := by cases R <;> rfl
theorem free_area {l : List UInt8} {lay : Lay} (h : Area l lay) (p : Int) : freeRaw l (unitsOf 8 lay) p = freeA l.length lay p := by
  have hA := h
  obtain ⟨h16, h81, hok, hend, ha⟩ := h
  obtain ⟨h4, hlen⟩ := area_num4 hA
  have h0 := (area_units hA).2
  unfold freeA
  by_cases hany : lay.any (fun x => decide ((x.1 : Int) = p)) = true
  · rw [if_pos hany]
    obtain ⟨x, hx, hxp⟩ := List.any_eq_true.1 hany
    have hxp : (x.1 : Int) = p := by simpa using hxp
    obtain ⟨A, R, hAR⟩ := List.append_of_mem hx
    obtain ⟨q, s⟩ := x
    simp only at hxp
    subst hxp
    subst hAR
    have hspl := (ok_append A ((q, s) :: R) true 8).1 hok
    obtain ⟨hoA, hoR⟩ := hspl
    have heA := endOf_ge hoA
    have he8 := endOf_8 (e := 8) rfl hoA
    obtain ⟨e, he⟩ : ∃ e, e = endOf 8 A := ⟨_, rfl⟩
    rw [← he] at hoR heA he8
    have hgq := gap_ok he8 hoR
    have hoR' := hoR
    obtain ⟨o1, o2, o3, o4, o5⟩ := hoR'
    have hub := upN_bd s.length
    have hu8 := upN_8 s.length
    have hneA : ∀ x ∈ A, (x.1 : Int) ≠ (q : Int) := fun x hx => by have := offs_lt A _ _ hoA x hx; omega
    have hneR : ∀ x ∈ R, (x.1 : Int) ≠ (q : Int) := fun x hx => by have := offs_ge R _ _ o5 x hx; omega
    have hfilt : (A ++ (q, s) :: R).filter (fun x => !decide ((x.1 : Int) = (q : Int))) = A ++ R := by
      rw [List.filter_append, List.filter_cons]
      have e1 : A.filter (fun x => !decide ((x.1 : Int) = (q : Int))) = A := List.filter_eq_self.2 (fun x hx => by have := hneA x hx; simp only [this]; rfl)
      have e2 : R.filter (fun x => !decide ((x.1 : Int) = (q : Int))) = R := List.filter_eq_self.2 (fun x hx => by have := hneR x hx; simp only [this]; rfl)
      rw [e1, e2]
      simp
    rw [hfilt]
    have hb := freeS_before (q : Int) A true 8 (-1, -1, false, 0, 0, 0) hoA hneA rfl (by simp)
    have hh := freeS_hit q s R _ e _ hoR hb.1 hb.2
    rw [he, ← List.foldl_append, ← unitsOf_append] at hh
    rw [← he] at hh
    unfold freeRaw
    rw [show freeS (q : Int) (unitsOf 8 (A ++ (q, s) :: R)) = (unitsOf 8 (A ++ (q, s) :: R)).foldl (freeStep q) (-1, -1, false, 0, 0, 0) from rfl]
    rw [if_pos hh.2.2, hh.1, hh.2.1]
    simp only
    obtain ⟨t, ht⟩ : ∃ t, t = nextAt (q + upN s.length) R := ⟨_, rfl⟩
    have htb : q + upN s.length ≤ t := by
      rw [ht]
      match R, o5 with
      | [], _ => exact Nat.le_refl _
      | (p2, s2) :: R2, ⟨r1, r2, r3, r4, r5⟩ => simp only [nextAt]; omega
    have hxl : (gapX (q + upN s.length) R).length = t - (q + upN s.length) := by
      rw [ht]
      match R, o5 with
      | [], _ => simp [gapX, nextAt]
      | (p2, s2) :: R2, hr => simp only [nextAt, gapX]; rw [gapB_length _ (gap_ok (by omega) hr)]
    have hE : endOf 8 (A ++ (q, s) :: R) = endOf (q + upN s.length) R := by rw [endOf_append, endOf]
    have hencA : (enc 8 A).length = e - 8 := by rw [enc_length (e := 8) rfl hoA, ← he]
    rw [← ht, Int.toNat_natCast, Int.toNat_natCast]
    have hl : l = (four (endOf 8 (A ++ (q, s) :: R) - 8) ++ (four (A ++ (q, s) :: R).length ++ enc 8 A)) ++ ((gapB (q - 8 - e) ++ (usedB s ++ gapX (q + upN s.length) R)) ++ (tailY R ++ zs (l.length - endOf 8 (A ++ (q, s) :: R)))) := by
      conv => lhs; rw [ha]
      unfold render
      rw [enc_append, ← he, enc, enc_xy (q + upN s.length) R]
      simp only [List.append_assoc]
    have hov : over l e (List.replicate (t - e) 0) = four (endOf 8 (A ++ (q, s) :: R) - 8) ++ (four (A ++ (q, s) :: R).length ++ (enc 8 A ++ (zs (t - e) ++ (tailY R ++ zs (l.length - endOf 8 (A ++ (q, s) :: R)))))) := by
      rw [congrArg (fun z => over z e (List.replicate (t - e) 0)) hl]
      rw [over_at (by simp only [List.length_append, four_length, hencA]; omega) (by simp only [List.length_append, List.length_replicate, gapB_length _ hgq, usedB_length, hxl]; omega)]
      simp only [List.append_assoc]
      rfl
    have hs4 : setL (over l e (List.replicate (t - e) 0)) 4 (num l 4 - 1).toNat = four (endOf 8 (A ++ (q, s) :: R) - 8) ++ (four (A ++ R).length ++ (enc 8 A ++ (zs (t - e) ++ (tailY R ++ zs (l.length - endOf 8 (A ++ (q, s) :: R)))))) := by
      rw [hov, h4, setL_at (q := 4) rfl (four_length _)]
      congr 3
      simp only [List.length_append, List.length_cons]
      omega
    have hend' : endOf (q + upN s.length) R ≤ l.length := by rw [← hE]; exact hend
    rw [hs4, h0, hE]
    match R, o5, ht, hend', hE with
    | [], _, ht, hend', hE =>
      simp only [nextAt] at ht
      rw [if_pos (show (t : Int) = ((endOf (q + upN s.length) ([] : Lay) : Nat) : Int) by simp only [endOf]; omega)]
      simp only [endOf] at hE hend' ⊢
      have := setL_at (pre := []) (m := four (q + upN s.length - 8)) (post := four (A ++ ([] : Lay)).length ++ (enc 8 A ++ (zs (t - e) ++ (tailY [] ++ zs (l.length - (q + upN s.length)))))) (q := 0) (y := ((e : Int) - 8).toNat) rfl (four_length _)
      rw [List.nil_append] at this
      rw [this, List.nil_append, List.append_nil, show ((e : Int) - 8).toNat = e - 8 by omega]
      unfold render
      rw [← he]
      simp only [tailY, List.nil_append]
      rw [← zs_add, show t - e + (l.length - (q + upN s.length)) = l.length - e by omega]
    | (p2, s2) :: R2, hr, ht, hend', hE =>
      have hr' := hr
      obtain ⟨r1, r2, r3, r4, r5⟩ := hr'
      have hge := endOf_ge r5
      simp only [nextAt] at ht
      have hub2 := upN_bd s2.length
      rw [if_neg (show ¬ (t : Int) = ((endOf (q + upN s.length) ((p2, s2) :: R2) : Nat) : Int) by simp only [endOf]; omega)]
      have e1 : four (endOf (q + upN s.length) ((p2, s2) :: R2) - 8) ++ (four (A ++ (p2, s2) :: R2).length ++ (enc 8 A ++ (zs (t - e) ++ (tailY ((p2, s2) :: R2) ++ zs (l.length - endOf (q + upN s.length) ((p2, s2) :: R2)))))) =
          (four (endOf (q + upN s.length) ((p2, s2) :: R2) - 8) ++ (four (A ++ (p2, s2) :: R2).length ++ enc 8 A)) ++ (zs 8 ++ (zs (t - e - 8) ++ (tailY ((p2, s2) :: R2) ++ zs (l.length - endOf (q + upN s.length) ((p2, s2) :: R2))))) := by
        rw [show zs (t - e) = zs 8 ++ zs (t - e - 8) by rw [← zs_add]; congr 1; omega]
        simp only [List.append_assoc]
      rw [e1, putHead_at (by simp only [List.length_append, four_length, hencA]; omega) (zs_length 8)]
      unfold render
      rw [enc_append, endOf_append, ← he, enc_xy e]
      simp only [gapX, endOf]
      have eg : gapB (p2 - 8 - e) = four (t - e - 8) ++ (four 2 ++ zs (t - e - 8)) := by
        unfold gapB; rw [if_neg (by omega), ht, List.append_assoc]
      rw [eg, show ((t : Int) - (e : Int) - 8).toNat = t - e - 8 by omega]
      simp only [List.append_assoc]
      rfl
  · rw [if_neg hany]
    have hne : ∀ x ∈ lay, (x.1 : Int) ≠ p := fun x hx hxp => hany (List.any_eq_true.2 ⟨x, hx, by simpa using hxp⟩)
    have hb := freeS_before p lay true 8 (-1, -1, false, 0, 0, 0) hok hne rfl (by simp)
    unfold freeRaw
    rw [if_neg (by rw [show freeS p (unitsOf 8 lay) = (unitsOf 8 lay).foldl (freeStep p) (-1, -1, false, 0, 0, 0) from rfl, hb.1]; simp)]
/-- The contract of area.Free. -/
theorem free_lay (s : ByteArray) (p : Int) (lay : Lay) (w : World) (hs : s.size ≤ maxLen) (h : Area s.data.toList lay) : Calls Try.prog 22 #[.string s, .int .i64 p] w (DuoPost (freeA s.data.toList.length lay p) w) := by
  have ho : openS s.data.toList = true := (openS_iff _).2 ⟨lay, h⟩
  rw [← free_area h p]
  have hu := area_units h
  have h4 := area_num4 h
  have hend := h.2.2.2.1
  refine free_main s p _ _ w hs rfl ho hu.1 h.1 h.2.1 (by rw [hu.2]; omega) (by omega) (fun hd => ?_)
  rw [h4.1]
  cases lay with
  | nil => simp [unitsOf, freeS] at hd
  | cons a r => simp only [List.length_cons]; omega
end Go.Proofs.Ytcfmimfkaabmkaa
