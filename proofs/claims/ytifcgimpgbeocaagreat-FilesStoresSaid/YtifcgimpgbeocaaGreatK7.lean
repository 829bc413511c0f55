/- isOp, changes. -/
import Derived.Test.YtifcgimpgbeocaaGreatK6
set_option linter.unusedVariables false
set_option linter.unusedSimpArgs false
namespace Go.Proofs.YtifcgimpgbeocaaGreat
open Go.RowKit
attribute [local go_sem] Oper.semAt_some
/-- The last line of isOp: what its four tests are. -/
def opEnd (x y : Bool) (f : Int) : Bool := x && (y && (decide (0 ≤ f) && decide (f ≤ 7)))
theorem isOp_eq (o : FOp) : isOp o = if o.1 = 2 then opEnd (decide (o.2.2.1.length ≤ 16)) o.2.2.2.isEmpty o.2.1 else if o.1 = 3 ∨ o.1 = 4 then opEnd (isKey o.2.2.1) (decide (o.2.2.2.length ≤ 255)) o.2.1 else if o.1 = 1 ∨ o.1 = 5 then opEnd (isKey o.2.2.1) o.2.2.2.isEmpty o.2.1 else false := by
  unfold isOp opEnd
  obtain ⟨k, f, a, d⟩ := o
  simp only
  have ef : decide (0 ≤ f ∧ f ≤ 7) = (decide (0 ≤ f) && decide (f ≤ 7)) := Bool.decide_and _ _
  by_cases h2 : k = 2
  · subst h2
    rw [ef]
    simp only [if_pos trivial, if_true]
    cases decide (0 ≤ f) <;> cases decide (f ≤ 7) <;> cases decide (a.length ≤ 16) <;> cases d.isEmpty <;> simp
  · by_cases h3 : k = 3 ∨ k = 4
    · have hk : decide (1 ≤ k ∧ k ≤ 5) = true := by simp; omega
      rw [if_neg h2, if_pos h3, if_neg h2, if_pos h3, hk, ef]
      cases decide (0 ≤ f) <;> cases decide (f ≤ 7) <;> cases isKey a <;> cases decide (d.length ≤ 255) <;> rfl
    · by_cases h1 : k = 1 ∨ k = 5
      · have hk : decide (1 ≤ k ∧ k ≤ 5) = true := by simp; omega
        rw [if_neg h2, if_neg h3, if_neg h2, if_neg h3, if_pos h1, hk, ef]
        cases decide (0 ≤ f) <;> cases decide (f ≤ 7) <;> cases isKey a <;> cases d.isEmpty <;> rfl
      · have hk : decide (1 ≤ k ∧ k ≤ 5) = false := by simp; omega
        rw [if_neg h2, if_neg h3, if_neg h2, if_neg h3, if_neg h1, hk]
        rfl
set_option maxRecDepth 100000 in
theorem isop_any (o : FOp) (w : World) : Calls Tryz.prog 85 #[opV o] w (Ret (.bool (isOp o)) w) := by
  rw [isOp_eq]
  obtain ⟨k, f, a, d⟩ := o
  simp only
  have HD := hid (fun w => isdata_any d w)
  have HK := hid (fun w => iskey_same a w)
  obtain ⟨x, hx⟩ : ∃ x, isKey a = x := ⟨_, rfl⟩
  obtain ⟨z, hz⟩ : ∃ z, decide (d.length ≤ 255) = z := ⟨_, rfl⟩
  rw [hx] at HK ⊢
  rw [hz] at HD ⊢
  clear hx hz
  obtain ⟨R, hR⟩ : ∃ R, (if k = 2 then opEnd (decide (a.length ≤ 16)) d.isEmpty f else if k = 3 ∨ k = 4 then opEnd x z f else if k = 1 ∨ k = 5 then opEnd x d.isEmpty f else false) = R := ⟨_, rfl⟩
  rw [hR]
  have HR := hid hR
  clear hR
  have g0 : (w.alloc (.cells #[.int .i64 k, .int .i64 f, strV a, strV d] 55)).cell? ⟨w.heap.size, 0, none⟩ = some (.int .i64 k) := cell_new _ _ _ 0 _ rfl
  have g1 : (w.alloc (.cells #[.int .i64 k, .int .i64 f, strV a, strV d] 55)).cell? ⟨w.heap.size, 1, none⟩ = some (.int .i64 f) := cell_new _ _ _ 1 _ rfl
  have g2 : (w.alloc (.cells #[.int .i64 k, .int .i64 f, strV a, strV d] 55)).cell? ⟨w.heap.size, 2, none⟩ = some (strV a) := cell_new _ _ _ 2 _ rfl
  have g3 : (w.alloc (.cells #[.int .i64 k, .int .i64 f, strV a, strV d] 55)).cell? ⟨w.heap.size, 3, none⟩ = some (strV d) := cell_new _ _ _ 3 _ rfl
  go_enter Tryz.func85, Tryz.ntmps85
  go_wp2_with fail
  go_quiet ((go_at_call 64; exact Calls.quiet_of_same (HK.out _)))
  go_upto_block 0 with (fail)
  have HB : Hid (Below w.heap.size w ((w.alloc (.cells #[.int .i64 k, .int .i64 f, strV a, strV d] 55)).drewN nq)) := below_drewN ((Below.refl _ _).alloc (Nat.le_refl _) _) _
  obtain ⟨W1, hW1⟩ : ∃ W1, (w.alloc (.cells #[.int .i64 k, .int .i64 f, strV a, strV d] 55)).drewN nq = W1 := ⟨_, rfl⟩
  have c1 : W1.cell? ⟨w.heap.size, 1, none⟩ = some (.int .i64 f) := by rw [← hW1]; exact g1
  have c2 : W1.cell? ⟨w.heap.size, 2, none⟩ = some (strV a) := by rw [← hW1]; exact g2
  have c3 : W1.cell? ⟨w.heap.size, 3, none⟩ = some (strV d) := by rw [← hW1]; exact g3
  rw [hW1] at HB ⊢
  clear hW1 g0 g1 g2 g3
  go_cut [3, 4] (fun u v wx => ∃ p q : Bool, u = .bool p ∧ v = .bool q ∧ Hid (opEnd p q f = R) ∧ Hid (Below w.heap.size w wx) ∧ wx.cell? ⟨w.heap.size, 1, none⟩ = some (.int .i64 f))
  case first =>
    by_cases k2 : k = 2
    · subst k2
      have hr : opEnd (decide ((a.length : Int) ≤ 16)) d.isEmpty f = R := by have := HR.out; rw [if_pos rfl, ← dec_le16] at this; exact this
      have HRR := hid hr
      clear hr
      go_wp2_with fail
      go_meet
      case rel => exact ⟨_, _, rfl, rfl, HRR, HB, c1⟩
    have e2 : (k == 2) = false := by rw [beq_eq_false_iff_ne]; exact k2
    by_cases k3 : k = 3 ∨ k = 4
    · have hr : opEnd x z f = R := by have := HR.out; rw [if_neg k2, if_pos k3] at this; exact this
      have HRR := hid hr
      clear hr
      by_cases k3' : k = 3
      · subst k3'
        go_wp2_with fail
        refine (HD.out _).mono ?_
        rintro e w2 ⟨rfl, hb2⟩
        have c1 := keepc hb2 c1
        have HB2 := hid (below_step hb2 HB.out)
        clear hb2
        go_wp2_with fail
        go_meet
        case rel => exact ⟨_, _, rfl, rfl, HRR, HB2, c1⟩
      · have k4 : k = 4 := by omega
        subst k4
        go_wp2_with fail
        refine (HD.out _).mono ?_
        rintro e w2 ⟨rfl, hb2⟩
        have c1 := keepc hb2 c1
        have HB2 := hid (below_step hb2 HB.out)
        clear hb2
        go_wp2_with fail
        go_meet
        case rel => exact ⟨_, _, rfl, rfl, HRR, HB2, c1⟩
    by_cases k1 : k = 1 ∨ k = 5
    · have hr : opEnd x d.isEmpty f = R := by have := HR.out; rw [if_neg k2, if_neg k3, if_pos k1] at this; exact this
      have HRR := hid hr
      clear hr
      by_cases k1' : k = 1
      · subst k1'
        go_wp2_with fail
        go_meet
        case rel => exact ⟨_, _, rfl, rfl, HRR, HB, c1⟩
      · have k5 : k = 5 := by omega
        subst k5
        go_wp2_with fail
        go_meet
        case rel => exact ⟨_, _, rfl, rfl, HRR, HB, c1⟩
    have hr : false = R := by have := HR.out; rw [if_neg k2, if_neg k3, if_neg k1] at this; exact this
    have e3 : (k == 3) = false := by rw [beq_eq_false_iff_ne]; omega
    have e4 : (k == 4) = false := by rw [beq_eq_false_iff_ne]; omega
    have e1 : (k == 1) = false := by rw [beq_eq_false_iff_ne]; omega
    have e5 : (k == 5) = false := by rw [beq_eq_false_iff_ne]; omega
    have HRR := hid hr
    clear hr k1 k2 k3
    go_wp2_with fail
    go_ret
    exact ⟨ret_bool HRR.out, HB.out⟩
  case rest =>
    obtain ⟨p, q, rfl, rfl, HRR, HB2, c1⟩ := hcut
    clear HR HB HK HD c2 c3
    cases p with
    | false =>
      have hr : false = R := HRR.out
      have HRR := hid hr
      clear hr
      go_wp2_with fail
      go_ret
      exact ⟨ret_bool HRR.out, HB2.out⟩
    | true =>
      cases q with
      | false =>
        have hr : false = R := HRR.out
        have HRR := hid hr
        clear hr
        go_wp2_with fail
        go_ret
        exact ⟨ret_bool HRR.out, HB2.out⟩
      | true =>
        by_cases f0 : 0 ≤ f
        · have d0 : decide (0 ≤ f) = true := by simpa using f0
          have hr : decide (f ≤ 7) = R := by have := HRR.out; unfold opEnd at this; rw [d0] at this; simpa using this
          have HRR := hid hr
          clear hr
          go_wp2_with fail
          go_ret
          exact ⟨ret_bool HRR.out, HB2.out⟩
        · have d0 : decide (0 ≤ f) = false := by simpa using f0
          have hr : false = R := by have := HRR.out; unfold opEnd at this; rw [d0] at this; simpa using this
          have HRR := hid hr
          clear hr
          go_wp2_with fail
          go_ret
          exact ⟨ret_bool HRR.out, HB2.out⟩
/-- changes. -/
theorem changes_any (o : FOp) (w : World) : Calls Tryz.prog 50 #[opV o] w (Ret (.bool (chg o)) w) := by
  have HO := hid (fun w => isop_any o w)
  have ec : chg o = if o.1 = 3 ∨ o.1 = 4 ∨ o.1 = 5 then isOp o else false := by
    unfold chg
    by_cases h : o.1 = 3 ∨ o.1 = 4 ∨ o.1 = 5
    · have : decide (3 ≤ o.1 ∧ o.1 ≤ 5) = true := by simp; omega
      rw [if_pos h, this, Bool.true_and]
    · have : decide (3 ≤ o.1 ∧ o.1 ≤ 5) = false := by simp; omega
      rw [if_neg h, this, Bool.false_and]
  rw [ec]
  clear ec
  obtain ⟨R, hR⟩ : ∃ R, isOp o = R := ⟨_, rfl⟩
  rw [hR] at HO ⊢
  clear hR
  obtain ⟨k, f, a, d⟩ := o
  simp only at HO ⊢
  have g0 : (w.alloc (.cells #[.int .i64 k, .int .i64 f, strV a, strV d] 55)).cell? ⟨w.heap.size, 0, none⟩ = some (.int .i64 k) := cell_new _ _ _ 0 _ rfl
  have g1 : (w.alloc (.cells #[.int .i64 k, .int .i64 f, strV a, strV d] 55)).cell? ⟨w.heap.size, 1, none⟩ = some (.int .i64 f) := cell_new _ _ _ 1 _ rfl
  have g2 : (w.alloc (.cells #[.int .i64 k, .int .i64 f, strV a, strV d] 55)).cell? ⟨w.heap.size, 2, none⟩ = some (strV a) := cell_new _ _ _ 2 _ rfl
  have g3 : (w.alloc (.cells #[.int .i64 k, .int .i64 f, strV a, strV d] 55)).cell? ⟨w.heap.size, 3, none⟩ = some (strV d) := cell_new _ _ _ 3 _ rfl
  have HB := hid ((Below.refl w.heap.size w).alloc (Nat.le_refl _) (.cells #[.int .i64 k, .int .i64 f, strV a, strV d] 55))
  by_cases h : k = 3 ∨ k = 4 ∨ k = 5
  · rw [if_pos h]
    rcases h with rfl | rfl | rfl
    all_goals
      go_enter Tryz.func50, Tryz.ntmps50
      go_wp2_with fail
      refine (HO.out _).mono ?_
      rintro e w2 ⟨rfl, hb2⟩
      have HB2 := hid (below_step hb2 HB.out)
      clear hb2
      go_wp2_with fail
      go_ret
      exact ⟨rfl, HB2.out⟩
  · rw [if_neg h]
    have e3 : (k == 3) = false := by rw [beq_eq_false_iff_ne]; omega
    have e4 : (k == 4) = false := by rw [beq_eq_false_iff_ne]; omega
    have e5 : (k == 5) = false := by rw [beq_eq_false_iff_ne]; omega
    clear h
    go_enter Tryz.func50, Tryz.ntmps50
    go_wp2_with fail
    go_ret
    exact ⟨rfl, HB.out⟩
end Go.Proofs.YtifcgimpgbeocaaGreat
