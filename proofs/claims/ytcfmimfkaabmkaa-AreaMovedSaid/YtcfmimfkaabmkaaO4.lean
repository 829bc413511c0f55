/- Relocate of both packages, sameMoves. -/
import Derived.Test.YtcfmimfkaabmkaaO3
set_option linter.unusedVariables false
set_option linter.unusedSimpArgs false
namespace Go.Proofs.Ytcfmimfkaabmkaa
open Go.RowKit
attribute [local go_sem] Oper.semAt_some
attribute [local irreducible] num
set_option maxHeartbeats 400000 in
theorem badc_any (n : Int) (w : World) : Calls Try.prog 75 #[.int .i64 n] w (BoolPost (badN n) w) := by
  have HX : Hid (badN n = (decide (n < 0) || decide (8192 < n))) := rfl
  by_cases h0 : n < 0
  · have d0 : decide (n < 0) = true := by simpa using h0
    have HX : Hid (badN n = true) := by unfold Hid; rw [HX.out, d0]; rfl
    clear h0
    go_enter Try.func75, Try.ntmps75
    go_wp2_with fail
    go_ret
    exact ⟨by rw [HX.out] <;> rfl, Below.refl _ _⟩
  · have d0 : decide (n < 0) = false := by simpa using h0
    by_cases h1 : 8192 < n
    all_goals
      first
        | have d1 : decide (8192 < n) = true := by simpa using h1
        | have d1 : decide (8192 < n) = false := by simpa using h1
      have HX := hid HX.out
      rw [d0, d1] at HX
      clear h0 h1
      go_enter Try.func75, Try.ntmps75
      go_wp2_with fail
      go_ret
      exact ⟨by rw [HX.out] <;> rfl, Below.refl _ _⟩
set_option maxHeartbeats 400000 in
theorem rbad_any (n : Int) (w : World) : Calls Try.prog 76 #[.int .i64 n] w (BoolPost (badN n) w) := by
  have HX : Hid (badN n = (decide (n < 0) || decide (8192 < n))) := rfl
  by_cases h0 : n < 0
  · have d0 : decide (n < 0) = true := by simpa using h0
    have HX : Hid (badN n = true) := by unfold Hid; rw [HX.out, d0]; rfl
    clear h0
    go_enter Try.func76, Try.ntmps76
    go_wp2_with fail
    go_ret
    exact ⟨by rw [HX.out] <;> rfl, Below.refl _ _⟩
  · have d0 : decide (n < 0) = false := by simpa using h0
    by_cases h1 : 8192 < n
    all_goals
      first
        | have d1 : decide (8192 < n) = true := by simpa using h1
        | have d1 : decide (8192 < n) = false := by simpa using h1
      have HX := hid HX.out
      rw [d0, d1] at HX
      clear h0 h1
      go_enter Try.func76, Try.ntmps76
      go_wp2_with fail
      go_ret
      exact ⟨by rw [HX.out] <;> rfl, Below.refl _ _⟩
theorem badM_false {m : Mv} (h : badM m = false) : badN m.1 = false ∧ badN m.2.1 = false ∧ badN m.2.2 = false ∧ 0 ≤ m.1 ∧ m.1 ≤ 8192 ∧ 0 ≤ m.2.1 ∧ m.2.1 ≤ 8192 ∧ 0 ≤ m.2.2 ∧ m.2.2 ≤ 8192 := by
  simp only [badM, Bool.or_eq_false_iff] at h
  obtain ⟨h1, h2, h3⟩ := h
  refine ⟨h1, h2, h3, ?_⟩
  simp only [badN, Bool.or_eq_false_iff, decide_eq_false_iff_not] at h1 h2 h3
  omega
theorem any_false_at {α : Type} {f : α → Bool} {l : List α} (h : l.any f = false) {k : Nat} {x : α} (hx : l[k]? = some x) : f x = false := by
  rw [List.any_eq_false] at h
  simpa using h x (List.mem_of_getElem? hx)
set_option maxHeartbeats 4000000 in
set_option maxRecDepth 100000 in
theorem reloc_any (v : Value) (ms : List Mv) (at_ : Int) (w : World) (hR : RM w v ms) (hl : ms.length ≤ maxLen) : Calls Try.prog 34 #[v, .int .i64 at_] w (TwoPost (relocS ms at_) w) := by
  obtain ⟨o, cap, rfl, hc⟩ := hR
  have HC := hid hc; clear hc
  unfold maxLen at hl
  go_enter Try.func34, Try.ntmps34
  go_wp2_with fail
  go_loopw [13] (fun i wr => ∃ k : Nat, i = .int .i64 k ∧ k ≤ ms.length ∧ Hid ((ms.take k).any badM = false) ∧ Hid (Below w.heap.size w wr)) (fun i _ => ms.length - (intOf i).toNat)
  case atStart => exact ⟨0, rfl, Nat.zero_le _, rfl, Below.refl _ _⟩
  case round =>
    obtain ⟨k, rfl, hk, HA, HB⟩ := hrel
    by_cases hlt : k < ms.length
    · obtain ⟨m, hm⟩ : ∃ m, ms[k]? = some m := ⟨_, List.getElem?_eq_getElem hlt⟩
      obtain hc := HC.out
      rcases hc with hc | ⟨b, off, rfl, hbl, hc⟩
      · subst hc; simp at hlt
      obtain ⟨c0, c1, c2⟩ := hc k m hm
      have c0 := keepc HB.out c0
      have c1 := keepc HB.out c1
      have c2 := keepc HB.out c2
      have hzr := HB.out.size
      have HY : Hid (badM m = true → relocS ms at_ = (0, 1)) := fun h => by unfold relocS; rw [if_pos (any_find_hit hm h)]
      have HN : Hid (badM m = false → (ms.take (k + 1)).any badM = false) := fun h => any_snoc badM ms k m hm HA.out h
      have HBM : Hid (badM m = (badN m.1 || (badN m.2.1 || badN m.2.2))) := rfl
      clear hm hc
      obtain ⟨m0, m1, m2⟩ := m
      simp only at c0 c1 c2 HBM
      cases b0 : badN m0 with
      | true =>
        have HX := hid (HY.out (by rw [HBM.out, b0]; rfl))
        have B0 := hid b0
        clear HY HN HBM b0
        go_wp2_with fail
        refine (badc_any m0 _).mono ?_
        rintro e w2 ⟨rfl, hb2⟩
        rw [B0.out]
        have HB2 := hid (below_step hb2 (HB.out.alloc (by omega) _)); clear hb2
        go_wp2_with fail
        go_ret2
        exact ⟨by rw [HX.out] <;> rfl, HB2.out⟩
      | false =>
        cases b1 : badN m1 with
        | true =>
          have HX := hid (HY.out (by rw [HBM.out, b0, b1]; rfl))
          have B0 := hid b0; have B1 := hid b1
          clear HY HN HBM b0 b1
          go_wp2_with fail
          refine (badc_any m0 _).mono ?_
          rintro e w2 ⟨rfl, hb2⟩
          rw [B0.out]
          have a1 : w2.cell? ⟨wr.heap.size, 1, none⟩ = some (.int .i64 m1) := keepc hb2 (cell_new _ _ _ 1 _ rfl)
          have a2 : w2.cell? ⟨wr.heap.size, 2, none⟩ = some (.int .i64 m2) := keepc hb2 (cell_new _ _ _ 2 _ rfl)
          have HB2 := hid (below_step hb2 (HB.out.alloc (by omega) _)); clear hb2
          go_wp2_with fail
          refine (badc_any m1 _).mono ?_
          rintro e w3 ⟨rfl, hb3⟩
          rw [B1.out]
          have HB3 := hid (below_step hb3 HB2.out); clear hb3
          go_wp2_with fail
          go_ret2
          exact ⟨by rw [HX.out] <;> rfl, HB3.out⟩
        | false =>
          cases b2 : badN m2 with
          | true =>
            have HX := hid (HY.out (by rw [HBM.out, b0, b1, b2]; rfl))
            have B0 := hid b0; have B1 := hid b1; have B2 := hid b2
            clear HY HN HBM b0 b1 b2
            go_wp2_with fail
            refine (badc_any m0 _).mono ?_
            rintro e w2 ⟨rfl, hb2⟩
            rw [B0.out]
            have a1 : w2.cell? ⟨wr.heap.size, 1, none⟩ = some (.int .i64 m1) := keepc hb2 (cell_new _ _ _ 1 _ rfl)
            have a2 : w2.cell? ⟨wr.heap.size, 2, none⟩ = some (.int .i64 m2) := keepc hb2 (cell_new _ _ _ 2 _ rfl)
            have HB2 := hid (below_step hb2 (HB.out.alloc (by omega) _)); clear hb2
            go_wp2_with fail
            refine (badc_any m1 _).mono ?_
            rintro e w3 ⟨rfl, hb3⟩
            rw [B1.out]
            have a2 := keepc hb3 a2
            have HB3 := hid (below_step hb3 HB2.out); clear hb3
            go_wp2_with fail
            refine (badc_any m2 _).mono ?_
            rintro e w4 ⟨rfl, hb4⟩
            rw [B2.out]
            have HB4 := hid (below_step hb4 HB3.out); clear hb4
            go_wp2_with fail
            go_ret2
            exact ⟨by rw [HX.out] <;> rfl, HB4.out⟩
          | false =>
            have HX := hid (HN.out (by rw [HBM.out, b0, b1, b2]; rfl))
            have B0 := hid b0; have B1 := hid b1; have B2 := hid b2
            clear HY HN HBM b0 b1 b2
            go_wp2_with fail
            refine (badc_any m0 _).mono ?_
            rintro e w2 ⟨rfl, hb2⟩
            rw [B0.out]
            have a1 : w2.cell? ⟨wr.heap.size, 1, none⟩ = some (.int .i64 m1) := keepc hb2 (cell_new _ _ _ 1 _ rfl)
            have a2 : w2.cell? ⟨wr.heap.size, 2, none⟩ = some (.int .i64 m2) := keepc hb2 (cell_new _ _ _ 2 _ rfl)
            have HB2 := hid (below_step hb2 (HB.out.alloc (by omega) _)); clear hb2
            go_wp2_with fail
            refine (badc_any m1 _).mono ?_
            rintro e w3 ⟨rfl, hb3⟩
            rw [B1.out]
            have a2 := keepc hb3 a2
            have HB3 := hid (below_step hb3 HB2.out); clear hb3
            go_wp2_with fail
            refine (badc_any m2 _).mono ?_
            rintro e w4 ⟨rfl, hb4⟩
            rw [B2.out]
            have HB4 := hid (below_step hb4 HB3.out); clear hb4
            go_wp2_with fail
            go_roundw
            case rel => exact ⟨k + 1, by first | rfl | go_num, by omega, HX.out, HB4.out⟩
            case measure => simp [intOf]; omega
    · have HT : Hid (ms.any badM = false) := by have h := HA.out; rwa [List.take_of_length_le (by omega)] at h
      have HRS : Hid (relocS ms at_ = match ms.find? (hasM at_) with | some m => (m.2.1 + at_ - m.1, 0) | none => (0, 122)) := by unfold Hid relocS; rw [HT.out]; rfl
      clear hk HA
      have HB0 := HB
      clear HB
      go_wp2_with fail
      go_loopw [36] (fun i wq => ∃ k : Nat, i = .int .i64 k ∧ k ≤ ms.length ∧ Hid ((ms.take k).find? (hasM at_) = none) ∧ Hid (Below w.heap.size w wq)) (fun i _ => ms.length - (intOf i).toNat)
      case atStart => exact ⟨0, by first | rfl | go_num, Nat.zero_le _, rfl, HB0.out⟩
      case round =>
        obtain ⟨k, rfl, hk, HA, HB⟩ := hrel
        by_cases hlt : k < ms.length
        · obtain ⟨m, hm⟩ : ∃ m, ms[k]? = some m := ⟨_, List.getElem?_eq_getElem hlt⟩
          obtain hc := HC.out
          rcases hc with hc | ⟨b, off, rfl, hbl, hc⟩
          · subst hc; simp at hlt
          obtain ⟨c0, c1, c2⟩ := hc k m hm
          have c0 := keepc HB.out c0
          have c1 := keepc HB.out c1
          have c2 := keepc HB.out c2
          have hzr := HB.out.size
          obtain ⟨-, -, -, s0, s1, s2, s3, s4, s5⟩ := badM_false (any_false_at HT.out hm)
          have HY : Hid (hasM at_ m = true → relocS ms at_ = (m.2.1 + at_ - m.1, 0)) := fun h => by rw [HRS.out, find_hit (hasM at_) ms k m hm HA.out h]
          have HN : Hid (hasM at_ m = false → (ms.take (k + 1)).find? (hasM at_) = none) := fun h => find_snoc (hasM at_) ms k m hm HA.out h
          clear hm hc
          obtain ⟨m0, m1, m2⟩ := m
          simp only at c0 c1 c2 s0 s1 s2 s3 s4 s5
          by_cases g0 : m0 ≤ at_
          · have d0 : decide (m0 ≤ at_) = true := by simpa using g0
            by_cases g1 : at_ < m0 + m2
            · have d1 : decide (at_ < m0 + m2) = true := by simpa using g1
              have HX := hid (HY.out (by unfold hasM; rw [d0, d1]; rfl))
              have hw1 : IntKind.i64.wrap (m1 + at_) = m1 + at_ := IntWalk.i64_in _ ⟨by omega, by omega⟩
              have hw2 : IntKind.i64.wrap (m1 + at_ - m0) = m1 + at_ - m0 := IntWalk.i64_in _ ⟨by omega, by omega⟩
              have hw3 : IntKind.i64.wrap (m0 + m2) = m0 + m2 := IntWalk.i64_in _ ⟨by omega, by omega⟩
              clear HY HN
              go_wp2_with fail
              go_ret2
              exact ⟨by rw [HX.out] <;> rfl, HB.out.alloc (by omega) _⟩
            · have d1 : decide (at_ < m0 + m2) = false := by simpa using g1
              have HX := hid (HN.out (by unfold hasM; rw [d0, d1]; rfl))
              have hw3 : IntKind.i64.wrap (m0 + m2) = m0 + m2 := IntWalk.i64_in _ ⟨by omega, by omega⟩
              clear HY HN
              go_wp2_with fail
              go_roundw
              case rel => exact ⟨k + 1, by first | rfl | go_num, by omega, HX.out, HB.out.alloc (by omega) _⟩
              case measure => simp [intOf]; omega
          · have d0 : decide (m0 ≤ at_) = false := by simpa using g0
            have HX := hid (HN.out (by unfold hasM; rw [d0]; rfl))
            clear HY HN
            go_wp2_with fail
            go_roundw
            case rel => exact ⟨k + 1, by first | rfl | go_num, by omega, HX.out, HB.out.alloc (by omega) _⟩
            case measure => simp [intOf]; omega
        · have HX : Hid (relocS ms at_ = (0, 122)) := by
            have h := HA.out; rw [List.take_of_length_le (by omega)] at h
            unfold Hid; rw [HRS.out, h]
          go_wp2_with fail
          go_ret2
          exact ⟨by rw [HX.out] <;> rfl, HB.out⟩
set_option maxHeartbeats 4000000 in
set_option maxRecDepth 100000 in
theorem rreloc_any (v : Value) (ms : List Mv) (at_ : Int) (w : World) (hR : RM w v ms) (hl : ms.length ≤ maxLen) : Calls Try.prog 35 #[v, .int .i64 at_] w (TwoPost (relocS ms at_) w) := by
  obtain ⟨o, cap, rfl, hc⟩ := hR
  have HC := hid hc; clear hc
  unfold maxLen at hl
  go_enter Try.func35, Try.ntmps35
  go_wp2_with fail
  go_loopw [6] (fun i wr => ∃ k : Nat, i = .int .i64 k ∧ k ≤ ms.length ∧ Hid ((ms.take k).any badM = false) ∧ Hid (Below w.heap.size w wr)) (fun i _ => ms.length - (intOf i).toNat)
  case atStart => exact ⟨0, rfl, Nat.zero_le _, rfl, Below.refl _ _⟩
  case round =>
    obtain ⟨k, rfl, hk, HA, HB⟩ := hrel
    by_cases hlt : k < ms.length
    · obtain ⟨m, hm⟩ : ∃ m, ms[k]? = some m := ⟨_, List.getElem?_eq_getElem hlt⟩
      obtain hc := HC.out
      rcases hc with hc | ⟨b, off, rfl, hbl, hc⟩
      · subst hc; simp at hlt
      obtain ⟨c0, c1, c2⟩ := hc k m hm
      have c0 := keepc HB.out c0
      have c1 := keepc HB.out c1
      have c2 := keepc HB.out c2
      have hzr := HB.out.size
      have HY : Hid (badM m = true → relocS ms at_ = (0, 1)) := fun h => by unfold relocS; rw [if_pos (any_find_hit hm h)]
      have HN : Hid (badM m = false → (ms.take (k + 1)).any badM = false) := fun h => any_snoc badM ms k m hm HA.out h
      have HBM : Hid (badM m = (badN m.1 || (badN m.2.1 || badN m.2.2))) := rfl
      clear hm hc
      obtain ⟨m0, m1, m2⟩ := m
      simp only at c0 c1 c2 HBM
      cases b0 : badN m0 with
      | true =>
        have HX := hid (HY.out (by rw [HBM.out, b0]; rfl))
        have B0 := hid b0
        clear HY HN HBM b0
        go_wp2_with fail
        refine (rbad_any m0 _).mono ?_
        rintro e w2 ⟨rfl, hb2⟩
        rw [B0.out]
        have HB2 := hid (below_step hb2 (HB.out)); clear hb2
        go_wp2_with fail
        go_ret2
        exact ⟨by rw [HX.out] <;> rfl, HB2.out⟩
      | false =>
        cases b1 : badN m1 with
        | true =>
          have HX := hid (HY.out (by rw [HBM.out, b0, b1]; rfl))
          have B0 := hid b0; have B1 := hid b1
          clear HY HN HBM b0 b1
          go_wp2_with fail
          refine (rbad_any m0 _).mono ?_
          rintro e w2 ⟨rfl, hb2⟩
          rw [B0.out]
          have c1 := keepc hb2 c1; have c2 := keepc hb2 c2
          have HB2 := hid (below_step hb2 (HB.out)); clear hb2
          go_wp2_with fail
          refine (rbad_any m1 _).mono ?_
          rintro e w3 ⟨rfl, hb3⟩
          rw [B1.out]
          have HB3 := hid (below_step hb3 HB2.out); clear hb3
          go_wp2_with fail
          go_ret2
          exact ⟨by rw [HX.out] <;> rfl, HB3.out⟩
        | false =>
          cases b2 : badN m2 with
          | true =>
            have HX := hid (HY.out (by rw [HBM.out, b0, b1, b2]; rfl))
            have B0 := hid b0; have B1 := hid b1; have B2 := hid b2
            clear HY HN HBM b0 b1 b2
            go_wp2_with fail
            refine (rbad_any m0 _).mono ?_
            rintro e w2 ⟨rfl, hb2⟩
            rw [B0.out]
            have c1 := keepc hb2 c1; have c2 := keepc hb2 c2
            have HB2 := hid (below_step hb2 (HB.out)); clear hb2
            go_wp2_with fail
            refine (rbad_any m1 _).mono ?_
            rintro e w3 ⟨rfl, hb3⟩
            rw [B1.out]
            have c2 := keepc hb3 c2
            have HB3 := hid (below_step hb3 HB2.out); clear hb3
            go_wp2_with fail
            refine (rbad_any m2 _).mono ?_
            rintro e w4 ⟨rfl, hb4⟩
            rw [B2.out]
            have HB4 := hid (below_step hb4 HB3.out); clear hb4
            go_wp2_with fail
            go_ret2
            exact ⟨by rw [HX.out] <;> rfl, HB4.out⟩
          | false =>
            have HX := hid (HN.out (by rw [HBM.out, b0, b1, b2]; rfl))
            have B0 := hid b0; have B1 := hid b1; have B2 := hid b2
            clear HY HN HBM b0 b1 b2
            go_wp2_with fail
            refine (rbad_any m0 _).mono ?_
            rintro e w2 ⟨rfl, hb2⟩
            rw [B0.out]
            have c1 := keepc hb2 c1; have c2 := keepc hb2 c2
            have HB2 := hid (below_step hb2 (HB.out)); clear hb2
            go_wp2_with fail
            refine (rbad_any m1 _).mono ?_
            rintro e w3 ⟨rfl, hb3⟩
            rw [B1.out]
            have c2 := keepc hb3 c2
            have HB3 := hid (below_step hb3 HB2.out); clear hb3
            go_wp2_with fail
            refine (rbad_any m2 _).mono ?_
            rintro e w4 ⟨rfl, hb4⟩
            rw [B2.out]
            have HB4 := hid (below_step hb4 HB3.out); clear hb4
            go_wp2_with fail
            go_roundw
            case rel => exact ⟨k + 1, by first | rfl | go_num, by omega, HX.out, HB4.out⟩
            case measure => simp [intOf]; omega
    · have HT : Hid (ms.any badM = false) := by have h := HA.out; rwa [List.take_of_length_le (by omega)] at h
      have HRS : Hid (relocS ms at_ = match ms.find? (hasM at_) with | some m => (m.2.1 + at_ - m.1, 0) | none => (0, 122)) := by unfold Hid relocS; rw [HT.out]; rfl
      clear hk HA
      have HB0 := HB
      clear HB
      go_wp2_with fail
      go_loopw [7] (fun i wq => ∃ k : Nat, i = .int .i64 k ∧ k ≤ ms.length ∧ Hid ((ms.take k).find? (hasM at_) = none) ∧ Hid (Below w.heap.size w wq)) (fun i _ => ms.length - (intOf i).toNat)
      case atStart => exact ⟨0, by first | rfl | go_num, Nat.zero_le _, rfl, HB0.out⟩
      case round =>
        obtain ⟨k, rfl, hk, HA, HB⟩ := hrel
        by_cases hlt : k < ms.length
        · obtain ⟨m, hm⟩ : ∃ m, ms[k]? = some m := ⟨_, List.getElem?_eq_getElem hlt⟩
          obtain hc := HC.out
          rcases hc with hc | ⟨b, off, rfl, hbl, hc⟩
          · subst hc; simp at hlt
          obtain ⟨c0, c1, c2⟩ := hc k m hm
          have c0 := keepc HB.out c0
          have c1 := keepc HB.out c1
          have c2 := keepc HB.out c2
          have hzr := HB.out.size
          obtain ⟨-, -, -, s0, s1, s2, s3, s4, s5⟩ := badM_false (any_false_at HT.out hm)
          have HY : Hid (hasM at_ m = true → relocS ms at_ = (m.2.1 + at_ - m.1, 0)) := fun h => by rw [HRS.out, find_hit (hasM at_) ms k m hm HA.out h]
          have HN : Hid (hasM at_ m = false → (ms.take (k + 1)).find? (hasM at_) = none) := fun h => find_snoc (hasM at_) ms k m hm HA.out h
          clear hm hc
          obtain ⟨m0, m1, m2⟩ := m
          simp only at c0 c1 c2 s0 s1 s2 s3 s4 s5
          by_cases g0 : m0 ≤ at_
          · have d0 : decide (m0 ≤ at_) = true := by simpa using g0
            by_cases g1 : at_ < m0 + m2
            · have d1 : decide (at_ < m0 + m2) = true := by simpa using g1
              have HX := hid (HY.out (by unfold hasM; rw [d0, d1]; rfl))
              have hw1 : IntKind.i64.wrap (m1 + at_) = m1 + at_ := IntWalk.i64_in _ ⟨by omega, by omega⟩
              have hw2 : IntKind.i64.wrap (m1 + at_ - m0) = m1 + at_ - m0 := IntWalk.i64_in _ ⟨by omega, by omega⟩
              have hw3 : IntKind.i64.wrap (m0 + m2) = m0 + m2 := IntWalk.i64_in _ ⟨by omega, by omega⟩
              clear HY HN
              go_wp2_with fail
              go_quiet (fail)
              go_wp2_with fail
              go_quiet (fail)
              go_wp2_with fail
              go_ret2
              exact ⟨by rw [HX.out] <;> rfl, below_drewN (below_drewN HB.out _) _⟩
            · have d1 : decide (at_ < m0 + m2) = false := by simpa using g1
              have HX := hid (HN.out (by unfold hasM; rw [d0, d1]; rfl))
              have hw3 : IntKind.i64.wrap (m0 + m2) = m0 + m2 := IntWalk.i64_in _ ⟨by omega, by omega⟩
              clear HY HN
              go_wp2_with fail
              go_quiet (fail)
              go_wp2_with fail
              go_roundw
              case rel => exact ⟨k + 1, by first | rfl | go_num, by omega, HX.out, below_drewN HB.out _⟩
              case measure => simp [intOf]; omega
          · have d0 : decide (m0 ≤ at_) = false := by simpa using g0
            have HX := hid (HN.out (by unfold hasM; rw [d0]; rfl))
            clear HY HN
            go_wp2_with fail
            go_quiet (fail)
            go_wp2_with fail
            go_roundw
            case rel => exact ⟨k + 1, by first | rfl | go_num, by omega, HX.out, below_drewN HB.out _⟩
            case measure => simp [intOf]; omega
        · have HX : Hid (relocS ms at_ = (0, 122)) := by
            have h := HA.out; rw [List.take_of_length_le (by omega)] at h
            unfold Hid; rw [HRS.out, h]
          go_wp2_with fail
          go_ret2
          exact ⟨by rw [HX.out] <;> rfl, HB.out⟩
set_option maxHeartbeats 2000000 in
set_option maxRecDepth 100000 in
theorem samem_any (v1 v2 : Value) (ps qs : List Mv) (w : World) (hR : RM w v1 ps) (hT : RM w v2 qs) (hl1 : ps.length ≤ 1000000) (hl2 : qs.length ≤ 1000000) : Calls Try.prog 36 #[v1, v2] w (BoolPost (decide (ps = qs)) w) := by
  obtain ⟨o, cap, rfl, hc⟩ := hR
  obtain ⟨o2, cap2, rfl, hc2⟩ := hT
  have HC := hid hc; have HC2 := hid hc2; clear hc hc2
  by_cases hl : ps.length = qs.length
  rotate_left
  · have hd : ((ps.length : Int) != (qs.length : Int)) = true := by rw [bne_iff_ne]; omega
    have hd2 : ((ps.length : Int) == (qs.length : Int)) = false := by rw [beq_eq_false_iff_ne]; omega
    have HX : Hid (decide (ps = qs) = false) := by unfold Hid; rw [decide_eq_false_iff_not]; exact fun h => hl (by rw [h])
    clear hl
    go_enter Try.func36, Try.ntmps36
    go_wp2_with fail
    go_ret
    exact ⟨by rw [HX.out] <;> rfl, Below.refl _ _⟩
  obtain ⟨m, hm⟩ : ∃ m, qs.length = m := ⟨_, rfl⟩
  rw [hm] at hl hl2 ⊢
  rw [hl]
  have HL := hid hl; have HM := hid hm
  clear hl hm hl1
  go_enter Try.func36, Try.ntmps36
  go_wp2_with fail
  go_loopw [13] (fun i wr => ∃ k : Nat, i = .int .i64 k ∧ k ≤ m ∧ Hid (ps.take k = qs.take k) ∧ Hid (Below w.heap.size w wr)) (fun i _ => m - (intOf i).toNat)
  case atStart => exact ⟨0, rfl, Nat.zero_le _, rfl, Below.refl _ _⟩
  case round =>
    obtain ⟨k, rfl, hk, HT, HB⟩ := hrel
    by_cases hlt : k < m
    · obtain ⟨p, hp⟩ : ∃ p, ps[k]? = some p := ⟨_, List.getElem?_eq_getElem (by have := HL.out; omega)⟩
      obtain ⟨q, hq⟩ : ∃ q, qs[k]? = some q := ⟨_, List.getElem?_eq_getElem (by have := HM.out; omega)⟩
      obtain hc := HC.out
      obtain hc2 := HC2.out
      rcases hc with hc | ⟨b, off, rfl, hbl, hc⟩
      · subst hc; simp at hp
      rcases hc2 with hc2 | ⟨b2, off2, rfl, hbl2, hc2⟩
      · subst hc2; simp at hq
      obtain ⟨c0, c1, c2⟩ := hc k p hp
      obtain ⟨d0, d1, d2⟩ := hc2 k q hq
      have c0 := keepc HB.out c0
      have c1 := keepc HB.out c1
      have c2 := keepc HB.out c2
      have d0 := keepc HB.out d0
      have d1 := keepc HB.out d1
      have d2 := keepc HB.out d2
      have HTS : Hid (p = q → ps.take (k + 1) = qs.take (k + 1)) := fun e => by rw [take_snoc hp, take_snoc hq, HT.out, e]
      have HNE : Hid (p ≠ q → decide (ps = qs) = false) := fun e => by rw [decide_eq_false_iff_not]; intro h; rw [h, hq] at hp; exact e (Option.some.inj hp).symm
      clear hp hq hc hc2
      obtain ⟨p0, p1, p2⟩ := p
      obtain ⟨q0, q1, q2⟩ := q
      simp only at c0 c1 c2 d0 d1 d2
      by_cases h0 : p0 = q0
      · subst h0
        by_cases h1 : p1 = q1
        · subst h1
          by_cases h2 : p2 = q2
          · subst h2
            have HT2 := hid (HTS.out rfl)
            clear HNE HTS
            go_wp2_with fail
            go_quiet (fail)
            go_wp2_with fail
            go_roundw
            case rel => exact ⟨k + 1, rfl, by omega, HT2.out, below_drewN HB.out _⟩
            case measure => simp [intOf]; omega
          · have g1 : (p2 == q2) = false := by rw [beq_eq_false_iff_ne]; exact h2
            have HX := hid (HNE.out (by rw [ne_eq, Prod.mk.injEq, Prod.mk.injEq]; exact fun h => h2 h.2.2))
            clear h2 HNE HTS
            go_wp2_with fail
            go_quiet (fail)
            go_wp2_with fail
            go_ret
            exact ⟨by rw [HX.out] <;> rfl, below_drewN HB.out _⟩
        · have g1 : (p1 == q1) = false := by rw [beq_eq_false_iff_ne]; exact h1
          have HX := hid (HNE.out (by rw [ne_eq, Prod.mk.injEq, Prod.mk.injEq]; exact fun h => h1 h.2.1))
          clear h1 HNE HTS
          go_wp2_with fail
          go_quiet (fail)
          go_wp2_with fail
          go_ret
          exact ⟨by rw [HX.out] <;> rfl, below_drewN HB.out _⟩
      · have g1 : (p0 == q0) = false := by rw [beq_eq_false_iff_ne]; exact h0
        have HX := hid (HNE.out (by rw [ne_eq, Prod.mk.injEq]; exact fun h => h0 h.1))
        clear h0 HNE HTS
        go_wp2_with fail
        go_quiet (fail)
        go_wp2_with fail
        go_ret
        exact ⟨by rw [HX.out] <;> rfl, below_drewN HB.out _⟩
    · have HX : Hid (decide (ps = qs) = true) := by
        unfold Hid; rw [decide_eq_true_iff]
        have h := HT.out
        rw [List.take_of_length_le (by have := HL.out; omega), List.take_of_length_le (by have := HM.out; omega)] at h
        exact h
      go_wp2_with fail
      go_ret
      exact ⟨by rw [HX.out] <;> rfl, HB.out⟩
end Go.Proofs.Ytcfmimfkaabmkaa
