/- A string that open takes has a layout. -/
import Derived.Test.YtcfmimfkaabmkaaLayOpen
set_option linter.unusedVariables false
set_option linter.unusedSimpArgs false
namespace Go.Proofs.Ytcfmimfkaabmkaa
theorem four_sl {l : List UInt8} {i : Nat} {n : Nat} (h : i + 4 ≤ l.length) (hn : num l i = (n : Int)) : sl l i (i + 4) = four n := by
  have := four_num l i h
  rw [hn, Int.toNat_natCast] at this
  unfold sl
  rw [Nat.add_sub_cancel_left]
  exact this
theorem used_sl {l : List UInt8} {a s en : Nat} (hen : en ≤ l.length) (h0 : num l a = (s : Int)) (h1 : num l (a + 4) = 1) (hfit : a + 8 + upN s ≤ en) (hz : ((l.drop (a + 8 + s)).take (upN s - s)).all (· == 0) = true) :
    sl l a (a + 8 + upN s) = usedB (sl l (a + 8) (a + 8 + s)) := by
  have hu := upN_bd s
  have hl : (sl l (a + 8) (a + 8 + s)).length = s := by rw [sl_length (by omega)]; omega
  rw [sl_app (i := a) (j := a + 4) (k := a + 8 + upN s) (by omega) (by omega), sl_app (i := a + 4) (j := a + 8) (k := a + 8 + upN s) (by omega) (by omega), sl_app (i := a + 8) (j := a + 8 + s) (k := a + 8 + upN s) (by omega) (by omega)]
  rw [four_sl (by omega) h0]
  have e2 : sl l (a + 4) (a + 8) = four 1 := four_sl (i := a + 4) (n := 1) (by omega) h1
  have e3 : sl l (a + 8 + s) (a + 8 + upN s) = zs (upN s - s) := by
    unfold sl
    rw [show a + 8 + upN s - (a + 8 + s) = upN s - s by omega, all_zs hz, List.length_take, List.length_drop]
    congr 1; omega
  rw [e2, e3]
  unfold usedB
  rw [hl]
  simp
theorem gap_sl {l : List UInt8} {a s en : Nat} (hen : en ≤ l.length) (h0 : num l a = (s : Int)) (h1 : num l (a + 4) = 2) (hfit : a + 8 + s ≤ en) (hz : ((l.drop (a + 8)).take s).all (· == 0) = true) :
    sl l a (a + 8 + s) = gapB (8 + s) := by
  rw [sl_app (i := a) (j := a + 4) (k := a + 8 + s) (by omega) (by omega), sl_app (i := a + 4) (j := a + 8) (k := a + 8 + s) (by omega) (by omega), four_sl (by omega) h0]
  have e2 : sl l (a + 4) (a + 8) = four 2 := four_sl (i := a + 4) (n := 2) (by omega) h1
  have e3 : sl l (a + 8) (a + 8 + s) = zs s := by
    unfold sl
    rw [show a + 8 + s - (a + 8) = s by omega, all_zs hz, List.length_take, List.length_drop]
    congr 1; omega
  rw [e2, e3]
  unfold gapB
  rw [if_neg (by omega), Nat.add_sub_cancel_left]
  simp
/-- What whole has seen, in natural numbers. -/
theorem whole_used {l : List UInt8} {a en : Nat} {gap : Bool} (h : (wholeS l (a : Int) (en : Int) gap).2 = true) (h1 : num l (a + 4) = 1) :
    1 ≤ (num l a).toNat ∧ ((l.drop (a + 8 + (num l a).toNat)).take (upN (num l a).toNat - (num l a).toNat)).all (· == 0) = true := by
  have hb := num_bd l a
  obtain ⟨s, hs⟩ := Int.eq_ofNat_of_zero_le hb.1
  unfold wholeS at h
  split at h
  · cases h
  · split at h
    · cases h
    · rw [Int.toNat_natCast, if_pos h1] at h
      simp only [Bool.and_eq_true, decide_eq_true_eq] at h
      rw [hs] at h ⊢
      rw [upZ_nat] at h
      refine ⟨by omega, ?_⟩
      have := h.2
      have e1 : ((a : Int) + 8 + (s : Int)).toNat = a + 8 + s := by omega
      have e2 : ((upN s : Int) - (s : Int)).toNat = upN s - s := by omega
      rw [e1, e2] at this
      exact this
theorem whole_gap {l : List UInt8} {a en : Nat} {gap : Bool} (h : (wholeS l (a : Int) (en : Int) gap).2 = true) (h1 : num l (a + 4) = 2) :
    gap = false ∧ (num l a).toNat % 8 = 0 ∧ ((l.drop (a + 8)).take (num l a).toNat).all (· == 0) = true ∧ (8 < a ∨ 8 ≤ (num l a).toNat) := by
  have hb := num_bd l a
  obtain ⟨s, hs⟩ := Int.eq_ofNat_of_zero_le hb.1
  unfold wholeS at h
  split at h
  · cases h
  · split at h
    · cases h
    · rw [Int.toNat_natCast, if_neg (by rw [h1]; decide), if_pos h1] at h
      simp only [Bool.and_eq_true, decide_eq_true_eq, Bool.or_eq_true, Bool.not_eq_true'] at h
      rw [hs] at h ⊢
      obtain ⟨⟨⟨h2, h3⟩, h4⟩, h5⟩ := h
      refine ⟨h4, by omega, ?_, by omega⟩
      have e1 : ((a : Int) + 8).toNat = a + 8 := by omega
      rw [e1] at h3
      exact h3
theorem loop_fwd (l : List UInt8) (en : Nat) (hen : en ≤ l.length) (n' : Int) : ∀ (f a : Nat) (gap : Bool) (n : Int) (e : Nat) (b : Bool), e % 8 = 0 → 8 ≤ e → a % 8 = 0 → e ≤ a → a ≤ en → en - a ≤ f → (b = true → e = 8) → (gap = false → a = e) →
    (gap = true → e + 8 ≤ a ∧ sl l e a = gapB (a - e) ∧ (e = 8 → a ≠ 16)) → openLoop f l (a : Int) (en : Int) gap n = some (false, n') →
    ∃ lay : Lay, ok b e lay ∧ endOf e lay = en ∧ sl l e en = enc e lay ∧ n' = n + (lay.length : Int) := by
  intro f
  induction f with
  | zero =>
    intro a gap n e b he he8 ha hea haen hf hb hg0 hg1 h
    have : a = en := by omega
    subst this
    unfold openLoop at h
    simp only [Option.some.injEq, Prod.mk.injEq] at h
    obtain ⟨rfl, rfl⟩ := h
    obtain rfl := hg0 rfl
    exact ⟨[], trivial, rfl, by simp [sl, enc], by simp⟩
  | succ f ih =>
    intro a gap n e b he he8 ha hea haen hf hb hg0 hg1 h
    unfold openLoop at h
    split at h
    · rename_i hlt
      split at h
      · rename_i hok
        obtain ⟨h1, h2, h3, h4, h5⟩ := wholeS_ok l (a : Int) (en : Int) gap hok
        rw [Int.toNat_natCast] at h2 h3 h4 h5
        rw [h1, h2, h3] at h
        have hbd := num_bd l a
        obtain ⟨s, hs⟩ := Int.eq_ofNat_of_zero_le hbd.1
        have hu := upN_bd s
        have hu8 := upN_8 s
        rcases h5 with h5 | h5
        · obtain ⟨u1, u2⟩ := whole_used hok h5
          rw [hs, Int.toNat_natCast] at u1 u2
          rw [hs, upZ_nat] at h4
          rw [h5, hs, upZ_nat] at h
          have hsl := used_sl (a := a) (s := s) hen hs h5 (by omega) u2
          have hdl : (sl l (a + 8) (a + 8 + s)).length = s := by rw [sl_length (by omega)]; omega
          rw [show ((1 : Int) == 2) = false from rfl] at h
          simp only [Bool.false_eq_true, if_false] at h
          rw [show (a : Int) + 8 + (upN s : Int) = ((a + 8 + upN s : Nat) : Int) by omega] at h
          obtain ⟨r, r1, r2, r3, r4⟩ := ih (a + 8 + upN s) false (n + 1) (a + 8 + upN s) false (by omega) (by omega) (by omega) (by omega) (by omega) (by omega) (by intro h; cases h) (fun _ => rfl) (by intro h; cases h) h
          refine ⟨(a + 8, sl l (a + 8) (a + 8 + s)) :: r, ⟨by omega, by omega, ?_, by omega, ?_⟩, ?_, ?_, ?_⟩
          · intro hb1 heq
            have he1 := hb hb1
            cases gap with
            | false => have := hg0 rfl; omega
            | true => have := (hg1 rfl).2.2 he1; omega
          · rw [hdl]; exact r1
          · unfold endOf; rw [hdl]; exact r2
          · unfold enc
            rw [hdl, ← r3, ← hsl]
            have hgp : gapB (a + 8 - 8 - e) = sl l e a := by
              rw [Nat.add_sub_cancel]
              cases gap with
              | false =>
                have := hg0 rfl
                subst this
                simp [gapB, sl]
              | true => exact (hg1 rfl).2.1.symm
            rw [hgp, ← sl_app (by omega) (by omega), ← sl_app (by omega) (by omega)]
          · rw [r4]; simp only [List.length_cons]; omega
        · obtain ⟨u1, u2, u3, u4⟩ := whole_gap hok h5
          subst u1
          obtain rfl := hg0 rfl
          rw [hs, Int.toNat_natCast] at u2 u3 u4
          have hus : upN s = s := by unfold upN; omega
          rw [hs, upZ_nat, hus] at h4
          rw [h5, hs, upZ_nat, hus] at h
          have hsl := gap_sl (a := a) (s := s) hen hs h5 (by omega) u3
          rw [show ((2 : Int) == 2) = true from rfl] at h
          simp only [if_true] at h
          rw [show (a : Int) + 8 + (s : Int) = ((a + 8 + s : Nat) : Int) by omega] at h
          exact ih (a + 8 + s) true n a b he he8 (by omega) (by omega) (by omega) (by omega) hb (by intro h; cases h) (fun _ => ⟨by omega, by rw [hsl]; congr 1; omega, by omega⟩) h
      · cases h
    · rename_i hlt
      have : a = en := by omega
      subst this
      simp only [Option.some.injEq, Prod.mk.injEq] at h
      obtain ⟨rfl, rfl⟩ := h
      obtain rfl := hg0 rfl
      exact ⟨[], trivial, rfl, by simp [sl, enc], by simp⟩
/-- **open takes just the areas.** -/
theorem openS_iff (a : List UInt8) : openS a = true ↔ ∃ lay, Area a lay := by
  constructor
  · intro h
    unfold openS at h
    split at h
    · cases h
    · rename_i h1
      split at h
      · cases h
      · rename_i h2
        split at h
        · rename_i h3
          have hbd := num_bd a 0
          obtain ⟨x, hx⟩ := Int.eq_ofNat_of_zero_le hbd.1
          rw [hx] at h h2 h3
          have e8 : (8 + (x : Int)).toNat = 8 + x := by omega
          rw [e8] at h h3
          split at h
          · rename_i gap n hl
            simp only [Bool.and_eq_true, Bool.not_eq_true', beq_iff_eq] at h
            obtain ⟨rfl, hn⟩ := h
            have h8 : (8 : Int) + (x : Int) = ((8 + x : Nat) : Int) := by omega
            rw [h8] at hl
            have hl8 : (8 : Int) = ((8 : Nat) : Int) := rfl
            obtain ⟨lay, l1, l2, l3, l4⟩ := loop_fwd a (8 + x) (by omega) n (8 + x) 8 false 0 8 true rfl (Nat.le_refl _) rfl (Nat.le_refl _) (by omega) (by omega) (fun _ => rfl) (fun _ => rfl) (by intro h; cases h) hl
            refine ⟨lay, by omega, by omega, l1, by omega, ?_⟩
            unfold render
            rw [l2, ← l3, Nat.add_sub_cancel_left]
            have e0 : sl a 0 4 = four x := four_sl (i := 0) (by omega) hx
            have e4 : sl a 4 8 = four lay.length := four_sl (i := 4) (by omega) (by rw [← hn, l4]; omega)
            have ez : sl a (8 + x) a.length = zs (a.length - (8 + x)) := by
              have hz := all_zs h3
              rw [List.length_drop] at hz
              unfold sl
              rw [hz, List.take_of_length_le (by rw [zs_length]; exact Nat.le_refl _)]
            rw [← e0, ← e4, ← ez, ← sl_app (by omega) (by omega), ← sl_app (by omega) (by omega), ← sl_app (by omega) (by omega)]
            simp [sl]
          · cases h
        · cases h
  · rintro ⟨lay, h16, h81, hok, hend, ha⟩
    have hge := endOf_ge hok
    have n0 : num a 0 = ((endOf 8 lay - 8 : Nat) : Int) := num_at (pre := []) (by rw [List.nil_append]; exact ha) rfl (by omega)
    have hlen : lay.length < 4294967296 := by
      have hh : ∀ (l : Lay) (b : Bool) (e : Nat), ok b e l → l.length + e ≤ endOf e l := by
        intro l
        induction l with
        | nil => intro b e _; simp [endOf]
        | cons x r ih =>
          obtain ⟨p, s⟩ := x
          intro b e ⟨h1, h2, h3, h4, h5⟩
          have := ih false (p + upN s.length) h5
          have := upN_bd s.length
          unfold endOf; simp only [List.length_cons]; omega
      have := hh lay true 8 hok
      omega
    have n4 : num a 4 = (lay.length : Int) := num_at (pre := four (endOf 8 lay - 8)) ha rfl hlen
    have hsplit : a = (four (endOf 8 lay - 8) ++ four lay.length) ++ (enc 8 lay ++ zs (a.length - endOf 8 lay)) := by
      have := ha; unfold render at this; rw [List.append_assoc]; exact this
    obtain ⟨b1, -⟩ := loop_back (endOf 8 lay : Int) (by omega) lay true a (four (endOf 8 lay - 8) ++ four lay.length) (zs (a.length - endOf 8 lay)) 8 0 rfl (Nat.le_refl _) (fun _ => rfl) hok rfl hsplit rfl
    have e8 : 8 + ((endOf 8 lay - 8 : Nat) : Int) = (endOf 8 lay : Int) := by omega
    unfold openS
    rw [if_neg (by omega), n0, e8, if_neg (by omega)]
    have hz : a.drop ((endOf 8 lay : Nat) : Int).toNat = zs (a.length - endOf 8 lay) := by
      rw [Int.toNat_natCast]
      have e9 : a = (four (endOf 8 lay - 8) ++ four lay.length ++ enc 8 lay) ++ zs (a.length - endOf 8 lay) := by rw [List.append_assoc]; exact hsplit
      have el : (four (endOf 8 lay - 8) ++ four lay.length ++ enc 8 lay).length = endOf 8 lay := by
        simp only [List.length_append, four_length, enc_length (e := 8) rfl hok]; omega
      conv => lhs; rw [e9]
      exact List.drop_left' el
    rw [hz, zs_all, if_pos rfl]
    have b2 : openLoop ((endOf 8 lay : Nat) : Int).toNat a 8 (endOf 8 lay : Int) false 0 = some (false, 0 + (lay.length : Int)) := by
      rw [openLoop_fuel a (endOf 8 lay : Int) _ ((endOf 8 lay : Int) - ((8 : Nat) : Int)).toNat 8 false 0 (by omega) (by omega)]
      exact b1
    rw [b2]
    simp [n4]
/-- The units of an area, as the iterator gives them. -/
theorem area_units {a : List UInt8} {lay : Lay} (h : Area a lay) : UL a (8 + num a 0) 8 (unitsOf 8 lay) ∧ 8 + num a 0 = (endOf 8 lay : Int) := by
  obtain ⟨h16, h81, hok, hend, ha⟩ := h
  have hge := endOf_ge hok
  have n0 : num a 0 = ((endOf 8 lay - 8 : Nat) : Int) := num_at (pre := []) (by rw [List.nil_append]; exact ha) rfl (by omega)
  have hsplit : a = (four (endOf 8 lay - 8) ++ four lay.length) ++ (enc 8 lay ++ zs (a.length - endOf 8 lay)) := by
    have := ha; unfold render at this; rw [List.append_assoc]; exact this
  obtain ⟨-, b2⟩ := loop_back (endOf 8 lay : Int) (by omega) lay true a (four (endOf 8 lay - 8) ++ four lay.length) (zs (a.length - endOf 8 lay)) 8 0 rfl (Nat.le_refl _) (fun _ => rfl) hok rfl hsplit rfl
  have e8 : 8 + num a 0 = (endOf 8 lay : Int) := by rw [n0]; omega
  exact ⟨by rw [e8]; exact b2, e8⟩
end Go.Proofs.Ytcfmimfkaabmkaa
