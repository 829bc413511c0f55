/- The reference's Valid. -/
import Derived.Test.YtifcgimpgbeocaaGreatK7
import Derived.Test.YtifcgimpgbeocaaGreatK27
set_option linter.unusedVariables false
set_option linter.unusedSimpArgs false
namespace Go.Proofs.YtifcgimpgbeocaaGreat
open Go.RowKit
attribute [local go_sem] Oper.semAt_some
theorem opEnd_file {x y : Bool} {f : Int} (h : 0 ≤ f ∧ f ≤ 7) : opEnd x y f = (x && y) := by
  unfold opEnd
  have h1 : decide (0 ≤ f) = true := by simpa using h.1
  have h2 : decide (f ≤ 7) = true := by simpa using h.2
  rw [h1, h2]; simp
theorem opEnd_nofile {x y : Bool} {f : Int} (h : ¬ (0 ≤ f ∧ f ≤ 7)) : opEnd x y f = false := by
  unfold opEnd
  have : (decide (0 ≤ f) && decide (f ≤ 7)) = false := by rw [← Bool.decide_and]; simpa using h
  rw [this]; simp
set_option maxHeartbeats 1000000 in
set_option maxRecDepth 100000 in
theorem rvalid_any (o : FOp) (w : World) : Calls Tryz.prog 51 #[opV o] w (Ret (.bool (isOp o)) w) := by
  rw [isOp_eq]
  obtain ⟨k, f, a, d⟩ := o
  simp only
  have HK := hid (fun w => rkey_same a w)
  obtain ⟨x, hx⟩ : ∃ x, isKey a = x := ⟨_, rfl⟩
  rw [hx] at HK ⊢
  clear hx
  have g0 : (w.alloc (.cells #[.int .i64 k, .int .i64 f, strV a, strV d] 55)).cell? ⟨w.heap.size, 0, none⟩ = some (.int .i64 k) := cell_new _ _ _ 0 _ rfl
  have g1 : (w.alloc (.cells #[.int .i64 k, .int .i64 f, strV a, strV d] 55)).cell? ⟨w.heap.size, 1, none⟩ = some (.int .i64 f) := cell_new _ _ _ 1 _ rfl
  have g2 : (w.alloc (.cells #[.int .i64 k, .int .i64 f, strV a, strV d] 55)).cell? ⟨w.heap.size, 2, none⟩ = some (strV a) := cell_new _ _ _ 2 _ rfl
  have g3 : (w.alloc (.cells #[.int .i64 k, .int .i64 f, strV a, strV d] 55)).cell? ⟨w.heap.size, 3, none⟩ = some (strV d) := cell_new _ _ _ 3 _ rfl
  have HB := hid ((Below.refl w.heap.size w).alloc (Nat.le_refl _) (.cells #[.int .i64 k, .int .i64 f, strV a, strV d] 55))
  by_cases hkd : 1 ≤ k ∧ k ≤ 5
  rotate_left
  · rw [if_neg (by omega), if_neg (by omega), if_neg (by omega)]
    by_cases h1 : k < 1
    · have z1 : decide (k < 1) = true := by simpa using h1
      clear hkd h1
      go_enter Tryz.func51, Tryz.ntmps51
      go_wp2_with fail
      go_ret
      exact ⟨rfl, HB.out⟩
    · have z1 : decide (k < 1) = false := by simpa using h1
      have z2 : decide (5 < k) = true := by simp; omega
      clear hkd h1
      go_enter Tryz.func51, Tryz.ntmps51
      go_wp2_with fail
      go_ret
      exact ⟨rfl, HB.out⟩
  have z1 : decide (k < 1) = false := by simp; omega
  have z2 : decide (5 < k) = false := by simp; omega
  by_cases hf : 0 ≤ f ∧ f ≤ 7
  rotate_left
  · rw [opEnd_nofile hf, opEnd_nofile hf, opEnd_nofile hf]
    have hR : (if k = 2 then false else if k = 3 ∨ k = 4 then false else if k = 1 ∨ k = 5 then false else false) = false := by simp
    rw [hR]
    by_cases h1 : f < 0
    · have z3 : decide (f < 0) = true := by simpa using h1
      clear hkd h1 hR hf
      go_enter Tryz.func51, Tryz.ntmps51
      go_wp2_with fail
      go_ret
      exact ⟨rfl, HB.out⟩
    · have z3 : decide (f < 0) = false := by simpa using h1
      have z4 : decide (7 < f) = true := by simp; omega
      clear hkd h1 hR hf
      go_enter Tryz.func51, Tryz.ntmps51
      go_wp2_with fail
      go_ret
      exact ⟨rfl, HB.out⟩
  rw [opEnd_file hf, opEnd_file hf, opEnd_file hf]
  have z3 : decide (f < 0) = false := by simp; omega
  have z4 : decide (7 < f) = false := by simp; omega
  clear hf
  by_cases k2 : k = 2
  · subst k2
    rw [if_pos rfl]
    by_cases h16 : a.length ≤ 16
    · have e1 : decide (a.length ≤ 16) = true := by simpa using h16
      have z5 : decide ((a.length : Int) ≤ 16) = true := by rw [dec_le16]; exact e1
      rw [e1, Bool.true_and]
      clear hkd h16 e1
      go_enter Tryz.func51, Tryz.ntmps51
      go_wp2_with fail
      go_ret
      exact ⟨rfl, HB.out⟩
    · have e1 : decide (a.length ≤ 16) = false := by simpa using h16
      have z5 : decide ((a.length : Int) ≤ 16) = false := by rw [dec_le16]; exact e1
      rw [e1, Bool.false_and]
      clear hkd h16 e1
      go_enter Tryz.func51, Tryz.ntmps51
      go_wp2_with fail
      go_ret
      exact ⟨rfl, HB.out⟩
  rw [if_neg k2]
  have e2 : (k == 2) = false := by rw [beq_eq_false_iff_ne]; exact k2
  by_cases k15 : k = 1 ∨ k = 5
  · rw [if_neg (by omega), if_pos k15]
    rcases k15 with rfl | rfl
    all_goals
      clear hkd k2
      cases x
      all_goals
        go_enter Tryz.func51, Tryz.ntmps51
        go_wp2_with fail
        refine (HK.out _).mono ?_
        rintro e w1 ⟨rfl, rfl⟩
        go_wp2_with fail
        go_ret
        exact ⟨rfl, HB.out⟩
  · rw [if_pos (by omega), ← dec_le255]
    have e1 : (k == 1) = false := by rw [beq_eq_false_iff_ne]; omega
    have e5 : (k == 5) = false := by rw [beq_eq_false_iff_ne]; omega
    clear hkd k2 k15
    cases x
    all_goals
      go_enter Tryz.func51, Tryz.ntmps51
      go_wp2_with fail
      refine (HK.out _).mono ?_
      rintro e w1 ⟨rfl, rfl⟩
      go_wp2_with fail
      go_ret
      exact ⟨rfl, HB.out⟩
end Go.Proofs.YtifcgimpgbeocaaGreat
