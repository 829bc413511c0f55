/- The reference's Span. -/
import Derived.Test.YtifcgimpgbeocaaK28
import Derived.Test.YtifcgimpgbeocaaK7
import Derived.Test.YtifcgimpgbeocaaK2
set_option linter.unusedVariables false
set_option linter.unusedSimpArgs false
namespace Go.Proofs.Ytifcgimpgbeocaa
open Go.RowKit
attribute [local go_sem] Oper.semAt_some
set_option maxHeartbeats 2000000 in
set_option maxRecDepth 100000 in
theorem rspan_any (d : Ds) (v : Value) (a b : Bs) (w : World) (hR : RdR w v d) : Calls Try.prog 55 #[v, strV a, strV b] w (RetR (spanD d a b).1 (spanD d a b).2 w) := by
  have HC := hid (fun w' (hb : Below w.heap.size w w') => rcheck_any d v w' (hR.below hb))
  cases hd : isDs d with
  | false =>
    rw [hd] at HC
    have hs : spanD d a b = ([], 140) := by unfold spanD; rw [hd]; rfl
    rw [hs]
    have HC2 : Hid (∀ w', Below w.heap.size w w' → Calls Try.prog 42 #[v] w' (Ret (.int .i64 140) w')) := HC.out
    clear HC hd hs hR
    go_enter Try.func55, Try.ntmps55
    go_wp2_with fail
    refine (HC2.out _ (Below.refl _ _)).mono ?_
    rintro e w1 ⟨rfl, hb1⟩
    have HB1 := hid hb1
    clear hb1
    go_wp2_with fail
    go_ret2
    exact ⟨_, rfl, oR_nil _ _, HB1.out⟩
  | true =>
    rw [hd] at HC
    have HC2 : Hid (∀ w', Below w.heap.size w w' → Calls Try.prog 42 #[v] w' (Ret (.int .i64 0) w')) := HC.out
    have hs : spanD d a b = (d.filter (inSp a b), 0) := by unfold spanD inSp; rw [hd]; rfl
    rw [hs]
    have hl := isDs_len hd
    obtain ⟨o, cap, rfl, hcap, hc⟩ := hR
    have HCC := hid hc
    obtain ⟨N, hN⟩ : ∃ N, d.length = N := ⟨_, rfl⟩
    rw [hN] at HC2 hl hcap ⊢
    have HN := hid hN
    clear HC hs hd hc hN
    obtain ⟨B, hBB⟩ : ∃ B, w.heap.size = B := ⟨_, rfl⟩
    have HBB := hid hBB
    rw [hBB] at HC2
    clear hBB
    go_enter Try.func55, Try.ntmps55
    go_wp2_with fail
    refine (HC2.out _ (Below.refl _ _)).mono ?_
    rintro e w1 ⟨rfl, hb1⟩
    rw [HBB.out] at hb1
    have HB1 := hid hb1
    have HO0 := hid (oR_new w1 B (by have := hb1.size; have := HBB.out; omega))
    have hz1 : B ≤ w1.heap.size := by have := hb1.size; have := HBB.out; omega
    have HB1' := hid (hb1.alloc hz1 (.cells #[] 59))
    clear hb1
    go_wp2_with fail
    go_loopw [8, 9] (fun u i wr => ∃ k : Nat, i = .int .i64 k ∧ k ≤ N ∧ Hid (OR wr B u ((d.take k).filter (inSp a b))) ∧ Hid (Below B w wr) ∧ B ≤ wr.heap.size) (fun _ i _ => N - (intOf i).toNat)
    case atStart => exact ⟨0, rfl, Nat.zero_le _, HO0, HB1', by simp; omega⟩
    case round =>
      obtain ⟨k, rfl, hk, HO, HB, hz⟩ := hrel
      by_cases hlt : k < N
      rotate_left
      · have e : d.take k = d := List.take_of_length_le (by have := HN.out; omega)
        have hO := HO.out
        rw [e] at hO
        have HO2 := hid hO
        clear e hO
        go_wp2_with fail
        go_ret2
        exact ⟨_, rfl, by rw [HBB.out]; exact HO2.out, by rw [HBB.out]; exact HB.out⟩
      obtain ⟨r, hr⟩ : ∃ r, d[k]? = some r := ⟨_, List.getElem?_eq_getElem (by have := HN.out; omega)⟩
      have hHC := HCC.out
      rcases hHC with hc | ⟨b1, off, rfl, hbl, hc⟩
      · rw [hc] at hr; simp at hr
      obtain ⟨c0, c1⟩ := hc k r hr
      have hbB : b1 < B := by have := HBB.out; omega
      have c0 := keepB HB.out (a := ⟨b1, off + k * 2, none⟩) hbB c0
      have c1 := keepB HB.out (a := ⟨b1, off + k * 2 + 1, none⟩) hbB c1
      have HF := hid (filter_succ hr (inSp a b))
      have hleq := leq_eq r.1 b
      have hsp : inSp a b r = (!ltB r.1 a && !ltB b r.1) := rfl
      obtain ⟨q1, hq1⟩ : ∃ q, Op.bytesLess r.1 a = q := ⟨_, rfl⟩
      cases q1 with
      | true =>
        have hno : inSp a b r = false := by rw [hsp]; have : ltB r.1 a = true := hq1; rw [this]; rfl
        have HO2 : Hid (OR wr B u8 ((d.take (k + 1)).filter (inSp a b))) := by unfold Hid; rw [HF.out, hno, if_neg (by simp), List.append_nil]; exact HO.out
        clear hc hr HF hleq hsp hno
        go_wp2_with fail
        go_roundw
        case rel => exact ⟨k + 1, by go_num, by omega, HO2, HB, hz⟩
        case measure => simp [intOf]; omega
      | false =>
        obtain ⟨q2, hq2⟩ : ∃ q, Op.bytesLess r.1 b = q := ⟨_, rfl⟩
        cases q2 with
        | true =>
          have hin : inSp a b r = true := by
            rw [hsp, ← hleq]
            have e1 : ltB r.1 a = false := hq1
            rw [e1, hq2]; rfl
          have HF2 : Hid ((d.take (k + 1)).filter (inSp a b) = (d.take k).filter (inSp a b) ++ [r]) := by unfold Hid; rw [HF.out, if_pos hin]
          have HLF := hid (show ((d.take k).filter (inSp a b)).length ≤ 1000000 by
            have := List.length_filter_le (inSp a b) (d.take k)
            have := List.length_take_le k d
            omega)
          have HY1 := hid (laid_one wr r)
          have HO3 := hid (HO.out.below ((Below.refl _ _).alloc (Nat.le_refl _) (.cells #[strV r.1, strV r.2] 59)))
          have HB3 := hid (HB.out.alloc hz (.cells #[strV r.1, strV r.2] 59))
          have HZ3 := hid (show B ≤ (wr.alloc (.cells #[strV r.1, strV r.2] 59)).heap.size by simp; omega)
          clear hc hr HF hleq hsp hin
          go_wp2_with (at_builtin; refine appR rfl _ _ rfl B _ ((d.take k).filter (inSp a b)) r _ _ rfl rfl HO3.out HY1.out HLF.out HZ3.out ?_)
          intro v7 w7 hop7 hg7
          have HB7 := hid (HO3.out.grown HB3.out hg7 HZ3.out)
          have hz7 : B ≤ w7.heap.size := by have := hg7.size; simp at this; omega
          have HO7 : Hid (OR w7 B v7 ((d.take (k + 1)).filter (inSp a b))) := by unfold Hid; rw [HF2.out]; exact hop7
          clear hop7 hg7
          go_wp2_with fail
          go_roundw
          case rel => exact ⟨k + 1, by go_num, by omega, HO7, HB7, hz7⟩
          case measure => simp [intOf]; omega
        | false =>
          obtain ⟨q3, hq3⟩ : ∃ q, (r.1 == b) = q := ⟨_, rfl⟩
          cases q3 with
          | true =>
            have hin : inSp a b r = true := by
              rw [hsp, ← hleq]
              have e1 : ltB r.1 a = false := hq1
              rw [e1, hq2, hq3]; rfl
            have HF2 : Hid ((d.take (k + 1)).filter (inSp a b) = (d.take k).filter (inSp a b) ++ [r]) := by unfold Hid; rw [HF.out, if_pos hin]
            have HLF := hid (show ((d.take k).filter (inSp a b)).length ≤ 1000000 by
              have := List.length_filter_le (inSp a b) (d.take k)
              have := List.length_take_le k d
              omega)
            have HY1 := hid (laid_one wr r)
            have HO3 := hid (HO.out.below ((Below.refl _ _).alloc (Nat.le_refl _) (.cells #[strV r.1, strV r.2] 59)))
            have HB3 := hid (HB.out.alloc hz (.cells #[strV r.1, strV r.2] 59))
            have HZ3 := hid (show B ≤ (wr.alloc (.cells #[strV r.1, strV r.2] 59)).heap.size by simp; omega)
            clear hc hr HF hleq hsp hin
            go_wp2_with (at_builtin; refine appR rfl _ _ rfl B _ ((d.take k).filter (inSp a b)) r _ _ rfl rfl HO3.out HY1.out HLF.out HZ3.out ?_)
            intro v7 w7 hop7 hg7
            have HB7 := hid (HO3.out.grown HB3.out hg7 HZ3.out)
            have hz7 : B ≤ w7.heap.size := by have := hg7.size; simp at this; omega
            have HO7 : Hid (OR w7 B v7 ((d.take (k + 1)).filter (inSp a b))) := by unfold Hid; rw [HF2.out]; exact hop7
            clear hop7 hg7
            go_wp2_with fail
            go_roundw
            case rel => exact ⟨k + 1, by go_num, by omega, HO7, HB7, hz7⟩
            case measure => simp [intOf]; omega
          | false =>
            have hno : inSp a b r = false := by
              rw [hsp, ← hleq, hq2, hq3]
              have e1 : ltB r.1 a = false := hq1
              rw [e1]; rfl
            have HO2 : Hid (OR wr B u8 ((d.take (k + 1)).filter (inSp a b))) := by unfold Hid; rw [HF.out, hno, if_neg (by simp), List.append_nil]; exact HO.out
            clear hc hr HF hleq hsp hno
            go_wp2_with fail
            go_roundw
            case rel => exact ⟨k + 1, by go_num, by omega, HO2, HB, hz⟩
            case measure => simp [intOf]; omega
end Go.Proofs.Ytifcgimpgbeocaa
/- The reference's Valid. -/
set_option linter.unusedVariables false
set_option linter.unusedSimpArgs false
namespace Go.Proofs.Ytifcgimpgbeocaa
open Go.RowKit
attribute [local go_sem] Oper.semAt_some
theorem opEnd_file {x y : Bool} {f : Int} (h : 0 ≤ f ∧ f ≤ 7) : opEnd x y f = (x && y) := by
  unfold opEnd
  have h1 : decide (0 ≤ f) = true := by simpa using h.1
  have h2 : decide (f ≤ 7) = true := by simpa using h.2
  rw [h1, h2]; simp
theorem opEnd_nofile {x y : Bool} {f : Int} (h : ¬ (0 ≤ f ∧ f ≤ 7)) : opEnd x y f = false := by
  unfold opEnd
  have : (decide (0 ≤ f) && decide (f ≤ 7)) = false := by rw [← Bool.decide_and]; simpa using h
  rw [this]; simp
set_option maxHeartbeats 1000000 in
set_option maxRecDepth 100000 in
theorem rvalid_any (o : FOp) (w : World) : Calls Try.prog 97 #[opV o] w (Ret (.bool (isOp o)) w) := by
  rw [isOp_eq]
  obtain ⟨k, f, a, d⟩ := o
  simp only
  have HK := hid (fun w => rkey_same a w)
  obtain ⟨x, hx⟩ : ∃ x, isKey a = x := ⟨_, rfl⟩
  rw [hx] at HK ⊢
  clear hx
  have g0 : (w.alloc (.cells #[.int .i64 k, .int .i64 f, strV a, strV d] 63)).cell? ⟨w.heap.size, 0, none⟩ = some (.int .i64 k) := cell_new _ _ _ 0 _ rfl
  have g1 : (w.alloc (.cells #[.int .i64 k, .int .i64 f, strV a, strV d] 63)).cell? ⟨w.heap.size, 1, none⟩ = some (.int .i64 f) := cell_new _ _ _ 1 _ rfl
  have g2 : (w.alloc (.cells #[.int .i64 k, .int .i64 f, strV a, strV d] 63)).cell? ⟨w.heap.size, 2, none⟩ = some (strV a) := cell_new _ _ _ 2 _ rfl
  have g3 : (w.alloc (.cells #[.int .i64 k, .int .i64 f, strV a, strV d] 63)).cell? ⟨w.heap.size, 3, none⟩ = some (strV d) := cell_new _ _ _ 3 _ rfl
  have HB := hid ((Below.refl w.heap.size w).alloc (Nat.le_refl _) (.cells #[.int .i64 k, .int .i64 f, strV a, strV d] 63))
  by_cases hkd : 1 ≤ k ∧ k ≤ 5
  rotate_left
  · rw [if_neg (by omega), if_neg (by omega), if_neg (by omega)]
    by_cases h1 : k < 1
    · have z1 : decide (k < 1) = true := by simpa using h1
      clear hkd h1
      go_enter Try.func97, Try.ntmps97
      go_wp2_with fail
      go_ret
      exact ⟨rfl, HB.out⟩
    · have z1 : decide (k < 1) = false := by simpa using h1
      have z2 : decide (5 < k) = true := by simp; omega
      clear hkd h1
      go_enter Try.func97, Try.ntmps97
      go_wp2_with fail
      go_ret
      exact ⟨rfl, HB.out⟩
  have z1 : decide (k < 1) = false := by simp; omega
  have z2 : decide (5 < k) = false := by simp; omega
  by_cases hf : 0 ≤ f ∧ f ≤ 7
  rotate_left
  · rw [opEnd_nofile hf, opEnd_nofile hf, opEnd_nofile hf]
    have hR : (if k = 2 then false else if k = 3 ∨ k = 4 then false else if k = 1 ∨ k = 5 then false else false) = false := by simp
    rw [hR]
    by_cases h1 : f < 0
    · have z3 : decide (f < 0) = true := by simpa using h1
      clear hkd h1 hR hf
      go_enter Try.func97, Try.ntmps97
      go_wp2_with fail
      go_ret
      exact ⟨rfl, HB.out⟩
    · have z3 : decide (f < 0) = false := by simpa using h1
      have z4 : decide (7 < f) = true := by simp; omega
      clear hkd h1 hR hf
      go_enter Try.func97, Try.ntmps97
      go_wp2_with fail
      go_ret
      exact ⟨rfl, HB.out⟩
  rw [opEnd_file hf, opEnd_file hf, opEnd_file hf]
  have z3 : decide (f < 0) = false := by simp; omega
  have z4 : decide (7 < f) = false := by simp; omega
  clear hf
  by_cases k2 : k = 2
  · subst k2
    rw [if_pos rfl]
    by_cases h16 : a.length ≤ 16
    · have e1 : decide (a.length ≤ 16) = true := by simpa using h16
      have z5 : decide ((a.length : Int) ≤ 16) = true := by rw [dec_le16]; exact e1
      rw [e1, Bool.true_and]
      clear hkd h16 e1
      go_enter Try.func97, Try.ntmps97
      go_wp2_with fail
      go_ret
      exact ⟨rfl, HB.out⟩
    · have e1 : decide (a.length ≤ 16) = false := by simpa using h16
      have z5 : decide ((a.length : Int) ≤ 16) = false := by rw [dec_le16]; exact e1
      rw [e1, Bool.false_and]
      clear hkd h16 e1
      go_enter Try.func97, Try.ntmps97
      go_wp2_with fail
      go_ret
      exact ⟨rfl, HB.out⟩
  rw [if_neg k2]
  have e2 : (k == 2) = false := by rw [beq_eq_false_iff_ne]; exact k2
  by_cases k15 : k = 1 ∨ k = 5
  · rw [if_neg (by omega), if_pos k15]
    rcases k15 with rfl | rfl
    all_goals
      clear hkd k2
      cases x
      all_goals
        go_enter Try.func97, Try.ntmps97
        go_wp2_with fail
        refine (HK.out _).mono ?_
        rintro e w1 ⟨rfl, rfl⟩
        go_wp2_with fail
        go_ret
        exact ⟨rfl, HB.out⟩
  · rw [if_pos (by omega), ← dec_le255]
    have e1 : (k == 1) = false := by rw [beq_eq_false_iff_ne]; omega
    have e5 : (k == 5) = false := by rw [beq_eq_false_iff_ne]; omega
    clear hkd k2 k15
    cases x
    all_goals
      go_enter Try.func97, Try.ntmps97
      go_wp2_with fail
      refine (HK.out _).mono ?_
      rintro e w1 ⟨rfl, rfl⟩
      go_wp2_with fail
      go_ret
      exact ⟨rfl, HB.out⟩
end Go.Proofs.Ytifcgimpgbeocaa
/- The reference's Changes. -/
set_option linter.unusedVariables false
set_option linter.unusedSimpArgs false
namespace Go.Proofs.Ytifcgimpgbeocaa
open Go.RowKit
attribute [local go_sem] Oper.semAt_some
theorem rchanges_any (k : Int) (w : World) : Calls Try.prog 101 #[.int .i64 k] w (Ret (.bool (decide (3 ≤ k ∧ k ≤ 5))) w) := by
  by_cases h3 : k = 3
  · subst h3
    go_enter Try.func101, Try.ntmps101
    go_wp2
    go_ret
    exact ⟨rfl, Below.refl _ _⟩
  by_cases h4 : k = 4
  · subst h4
    go_enter Try.func101, Try.ntmps101
    go_wp2
    go_ret
    exact ⟨rfl, Below.refl _ _⟩
  have e3 : (k == 3) = false := by rw [beq_eq_false_iff_ne]; exact h3
  have e4 : (k == 4) = false := by rw [beq_eq_false_iff_ne]; exact h4
  have e : decide (3 ≤ k ∧ k ≤ 5) = (k == 5) := by
    by_cases h5 : k = 5
    · subst h5; rfl
    · have h : (k == 5) = false := by rw [beq_eq_false_iff_ne]; exact h5
      rw [h]; simp; omega
  rw [e]
  clear e h3 h4
  go_enter Try.func101, Try.ntmps101
  go_wp2
  go_ret
  exact ⟨rfl, Below.refl _ _⟩
end Go.Proofs.Ytifcgimpgbeocaa
