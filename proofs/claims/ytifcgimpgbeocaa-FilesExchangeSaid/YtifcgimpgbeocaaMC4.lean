/- The law FilesExchange, walked. -/
import Derived.Test.YtifcgimpgbeocaaMC3
set_option linter.unusedVariables false
set_option linter.unusedSimpArgs false
namespace Go.Proofs.Ytifcgimpgbeocaa
open Go.RowKit
attribute [local go_sem] Oper.semAt_some
theorem stepE_ds {d : Ds} (hd : isDs d = true) (o : FOp) : isDs (stepE d o).1 = true := by
  unfold stepE
  simp only
  split
  · rename_i h
    exact apply_isDs hd h
  · exact hd
set_option maxHeartbeats 4000000 in
set_option maxRecDepth 100000 in
theorem exchange_law (d : Ds) (v : Value) (x y : FOp) (w : World) (hR : RdR w v d) : Calls Try.prog 6 #[v, opV x, opV y] w (Ret (.bool true) w) := by
  have HS := hid (fun w' => sane_any w')
  have H7 := hid (fun w' (hb : Below w.heap.size w w') => check_any d v w' (hR.below hb))
  have H8 := hid (fun w' (hb : Below w.heap.size w w') => rcheck_any d v w' (hR.below hb))
  have HF1 := hid (fun X w' (hb : Below w.heap.size w w') (hX : World.cell? w' ⟨X, 0, none⟩ = some v) => both_any d v X x y w' hX (hR.below hb))
  have HF2 := hid (fun X w' (hb : Below w.heap.size w w') (hX : World.cell? w' ⟨X, 0, none⟩ = some v) => both_any d v X y x w' hX (hR.below hb))
  have HEX := hid (fun hd ha hb hk n1 n2 m1 m2 => exchange (d := d) hd x y ha hb hk n1 n2 m1 m2)
  have HDS := hid (fun hd : isDs d = true => isDs_max (stepE_ds (stepE_ds hd x) y))
  obtain ⟨oo, cap, hv, -, -⟩ := id hR
  generalize d.length = N at *
  subst hv
  clear hR
  obtain ⟨k, f, a, s⟩ := x
  obtain ⟨k', f', a', s'⟩ := y
  obtain ⟨W1, hW1⟩ : ∃ W1, W1 = w.alloc (.cells #[.slice oo N cap] 69) := ⟨_, rfl⟩
  obtain ⟨W2, hW2⟩ : ∃ W2, W2 = W1.alloc (.cells #[.int .i64 k, .int .i64 f, strV a, strV s] 63) := ⟨_, rfl⟩
  obtain ⟨W, hW⟩ : ∃ W, W = W2.alloc (.cells #[.int .i64 k', .int .i64 f', strV a', strV s'] 63) := ⟨_, rfl⟩
  have hz1 : W1.heap.size = w.heap.size + 1 := by rw [hW1]; simp
  have hz2 : W2.heap.size = w.heap.size + 1 + 1 := by rw [hW2, World.size_alloc, hz1]
  have b1 : Below w.heap.size w W1 := by rw [hW1]; exact balloc (Below.refl _ _) _
  have b2 : Below W1.heap.size W1 W2 := by rw [hW2]; exact balloc (Below.refl _ _) _
  have b3 : Below W2.heap.size W2 W := by rw [hW]; exact balloc (Below.refl _ _) _
  have K0 : Hid (W.cell? ⟨w.heap.size, 0, none⟩ = some (.slice oo N cap)) := keepc b3 (keepc b2 (by rw [hW1]; exact cell_new _ _ _ 0 _ rfl))
  have HX : Hid (∀ j u, #[Value.int .i64 k, .int .i64 f, strV a, strV s][j]? = some u → W.cell? ⟨w.heap.size + 1, j, none⟩ = some u) := fun j u hj => keepc b3 (by rw [← hz1, hW2]; exact cell_new _ _ _ j _ hj)
  have HY : Hid (∀ j u, #[Value.int .i64 k', .int .i64 f', strV a', strV s'][j]? = some u → W.cell? ⟨w.heap.size + 1 + 1, j, none⟩ = some u) := fun j u hj => by rw [← hz2, hW]; exact cell_new _ _ _ j _ hj
  have HBW : Hid (Below w.heap.size w W) := below_step b3 (below_step b2 b1)
  have HWW := hid (show W = ((w.alloc (.cells #[.slice oo N cap] 69)).alloc (.cells #[.int .i64 k, .int .i64 f, strV a, strV s] 63)).alloc (.cells #[.int .i64 k', .int .i64 f', strV a', strV s'] 63) by rw [hW, hW2, hW1])
  clear hW hW1 hW2 hz1 hz2 b1 b2 b3
  go_enter Try.func6, Try.ntmps6
  go_upto_region 1 with fail
  have e := HWW.out
  rw [← e]
  clear e HWW
  go_wp2_with fail
  refine (HS.out _).mono ?_
  rintro e w1 ⟨rfl, hb1⟩
  have HB1 := hid (below_step hb1 (Below.refl W.heap.size W))
  have HT1 : Hid (Below w.heap.size w w1) := below_step HB1.out HBW.out
  have k0 := keepc hb1 K0.out
  clear hb1
  go_wp2_with fail
  refine (H8.out _ HT1.out).mono ?_
  rintro e w2 ⟨rfl, hb2⟩
  have HB2 : Hid (Below W.heap.size W w2) := below_step hb2 HB1.out
  have HT2 : Hid (Below w.heap.size w w2) := below_step hb2 HT1.out
  have k0 := keepc hb2 k0
  have x0 := keepc HB2.out (HX.out 0 _ rfl); have x1 := keepc HB2.out (HX.out 1 _ rfl); have x2 := keepc HB2.out (HX.out 2 _ rfl); have x3 := keepc HB2.out (HX.out 3 _ rfl)
  have y0 := keepc HB2.out (HY.out 0 _ rfl); have y1 := keepc HB2.out (HY.out 1 _ rfl); have y2 := keepc HB2.out (HY.out 2 _ rfl); have y3 := keepc HB2.out (HY.out 3 _ rfl)
  clear hb2
  cases hd : isDs d with
  | false =>
    rw [hd] at H7 H8
    have ec : chkE false = 140 := rfl
    rw [ec] at H7 H8
    have ec2 : chkE false = 140 := rfl
    rw [ec2]
    go_wp2_with fail
    go_region_held3 (fun w' => Below w2.heap.size w2 w' ∧ w'.cell? ⟨w.heap.size, 0, none⟩ = some (.slice oo N cap))
      ((refine (fun hS => ⟨hS, keepc hS k0⟩ : Below w2.heap.size w2 _ → _) ?_; first | exact (Below.refl _ _).drew | exact hbq))
      (first
        | (go_at_call 43; refine (H7.out _ (below_step (And.left (by assumption)) HT2.out)).mono ?_; rintro e w10 ⟨rfl, hb'⟩; have hbq : Below w2.heap.size w2 w10 := below_step hb' (And.left (by assumption)); clear hb')
        | (go_at_call 42; refine (H8.out _ (below_step (And.left (by assumption)) HT2.out)).mono ?_; rintro e w11 ⟨rfl, hb'⟩; have hbq : Below w2.heap.size w2 w11 := below_step hb' (And.left (by assumption)); clear hb'))
    all_goals
      go_wp2_with fail
      go_ret
      exact ⟨rfl, below_step (And.left (by assumption)) HT2.out⟩
  | true =>
    rw [hd] at H7 H8
    have ec : chkE true = 0 := rfl
    rw [ec] at H7 H8
    have ec2 : chkE true = 0 := rfl
    rw [ec2]
    by_cases hk : a = a'
    · subst hk
      go_wp2_with fail
      go_region_held3 (fun w' => Below w2.heap.size w2 w' ∧ w'.cell? ⟨w.heap.size, 0, none⟩ = some (.slice oo N cap))
        ((refine (fun hS => ⟨hS, keepc hS k0⟩ : Below w2.heap.size w2 _ → _) ?_; first | exact (Below.refl _ _).drew | exact hbq))
        (first
          | (go_at_call 43; refine (H7.out _ (below_step (And.left (by assumption)) HT2.out)).mono ?_; rintro e w10 ⟨rfl, hb'⟩; have hbq : Below w2.heap.size w2 w10 := below_step hb' (And.left (by assumption)); clear hb')
          | (go_at_call 42; refine (H8.out _ (below_step (And.left (by assumption)) HT2.out)).mono ?_; rintro e w11 ⟨rfl, hb'⟩; have hbq : Below w2.heap.size w2 w11 := below_step hb' (And.left (by assumption)); clear hb'))
      all_goals
        go_wp2_with fail
        go_ret
        exact ⟨rfl, below_step (And.left (by assumption)) HT2.out⟩
    have gk : (a == a') = false := by rw [beq_eq_false_iff_ne]; exact hk
    by_cases h1 : k = 2
    · subst h1
      go_wp2_with fail
      go_region_held3 (fun w' => Below w2.heap.size w2 w' ∧ w'.cell? ⟨w.heap.size, 0, none⟩ = some (.slice oo N cap))
        ((refine (fun hS => ⟨hS, keepc hS k0⟩ : Below w2.heap.size w2 _ → _) ?_; first | exact (Below.refl _ _).drew | exact hbq))
        (first
          | (go_at_call 43; refine (H7.out _ (below_step (And.left (by assumption)) HT2.out)).mono ?_; rintro e w10 ⟨rfl, hb'⟩; have hbq : Below w2.heap.size w2 w10 := below_step hb' (And.left (by assumption)); clear hb')
          | (go_at_call 42; refine (H8.out _ (below_step (And.left (by assumption)) HT2.out)).mono ?_; rintro e w11 ⟨rfl, hb'⟩; have hbq : Below w2.heap.size w2 w11 := below_step hb' (And.left (by assumption)); clear hb'))
      all_goals
        go_wp2_with fail
        go_ret
        exact ⟨rfl, below_step (And.left (by assumption)) HT2.out⟩
    have g1 : (k == 2) = false := by rw [beq_eq_false_iff_ne]; exact h1
    by_cases h2 : k' = 2
    · subst h2
      go_wp2_with fail
      go_region_held3 (fun w' => Below w2.heap.size w2 w' ∧ w'.cell? ⟨w.heap.size, 0, none⟩ = some (.slice oo N cap))
        ((refine (fun hS => ⟨hS, keepc hS k0⟩ : Below w2.heap.size w2 _ → _) ?_; first | exact (Below.refl _ _).drew | exact hbq))
        (first
          | (go_at_call 43; refine (H7.out _ (below_step (And.left (by assumption)) HT2.out)).mono ?_; rintro e w10 ⟨rfl, hb'⟩; have hbq : Below w2.heap.size w2 w10 := below_step hb' (And.left (by assumption)); clear hb')
          | (go_at_call 42; refine (H8.out _ (below_step (And.left (by assumption)) HT2.out)).mono ?_; rintro e w11 ⟨rfl, hb'⟩; have hbq : Below w2.heap.size w2 w11 := below_step hb' (And.left (by assumption)); clear hb'))
      all_goals
        go_wp2_with fail
        go_ret
        exact ⟨rfl, below_step (And.left (by assumption)) HT2.out⟩
    have g2 : (k' == 2) = false := by rw [beq_eq_false_iff_ne]; exact h2
    have HEX := hid (HEX.out hd h1 h2 hk)
    have HDS := hid (HDS.out hd)
    clear H7 H8 hd hk h1 h2 HS
    obtain ⟨S1, hS1⟩ : ∃ S1, stepE d (k, f, a, s) = S1 := ⟨_, rfl⟩
    obtain ⟨T1, hT1⟩ : ∃ T1, stepE d (k', f', a', s') = T1 := ⟨_, rfl⟩
    simp only [hS1, hT1] at HF1 HF2 HEX HDS
    clear hS1 hT1
    obtain ⟨D1, r1, e1⟩ := S1
    obtain ⟨E1, s1, f1⟩ := T1
    simp only at HF1 HF2 HEX HDS
    obtain ⟨S2, hS2⟩ : ∃ S2, stepE D1 (k', f', a', s') = S2 := ⟨_, rfl⟩
    obtain ⟨T2, hT2⟩ : ∃ T2, stepE E1 (k, f, a, s) = T2 := ⟨_, rfl⟩
    simp only [hS2, hT2] at HF1 HF2 HEX HDS
    clear hS2 hT2
    obtain ⟨D2, r2, e2⟩ := S2
    obtain ⟨E2, s2, f2⟩ := T2
    simp only at HF1 HF2 HEX HDS
    have HC1 := hid (HF1.out w.heap.size w2 HT2.out k0)
    go_wp2_with fail
    refine HC1.out.mono ?_
    rintro e w3 ⟨v3, rfl, hr3, hb3⟩
    have HR3 := hid hr3
    obtain ⟨o3, c3, rfl, -, -⟩ := id hr3
    have HB3 : Hid (Below W.heap.size W w3) := below_step hb3 HB2.out
    obtain ⟨w4, hw4⟩ : ∃ w4, w4 = (w3.alloc (.cells #[strV r1.1, strV r1.2, strV r2.1, strV r2.2] 80)).alloc (.cells #[.int .i64 e1, .int .i64 e2] 81) := ⟨_, rfl⟩
    have hb4 : Below w3.heap.size w3 w4 := by rw [hw4]; exact balloc (balloc (Below.refl _ _) _) _
    have A0 : Hid (∀ j u, #[strV r1.1, strV r1.2, strV r2.1, strV r2.2][j]? = some u → w4.cell? ⟨w3.heap.size, j, none⟩ = some u) := fun j u hj => by rw [hw4]; exact keepc (balloc (Below.refl _ _) _) (cell_new _ _ _ j _ hj)
    have A1 : Hid (∀ j u, #[Value.int .i64 e1, .int .i64 e2][j]? = some u → w4.cell? ⟨w3.heap.size + 1, j, none⟩ = some u) := fun j u hj => by rw [hw4]; have h := cell_new (w3.alloc (.cells #[strV r1.1, strV r1.2, strV r2.1, strV r2.2] 80)) #[Value.int .i64 e1, .int .i64 e2] 81 j u hj; rw [World.size_alloc] at h; exact h
    have HB4 : Hid (Below W.heap.size W w4) := below_step hb4 HB3.out
    have HT4 : Hid (Below w.heap.size w w4) := below_step HB4.out HBW.out
    have HR4 := hid (HR3.out.below hb4)
    have HW4 := hid hw4
    have k0 := keepc HB4.out K0.out
    have HC2 := hid (HF2.out w.heap.size w4 HT4.out k0)
    have x0 := keepc HB4.out (HX.out 0 _ rfl); have x1 := keepc HB4.out (HX.out 1 _ rfl); have x2 := keepc HB4.out (HX.out 2 _ rfl); have x3 := keepc HB4.out (HX.out 3 _ rfl)
    have y0 := keepc HB4.out (HY.out 0 _ rfl); have y1 := keepc HB4.out (HY.out 1 _ rfl); have y2 := keepc HB4.out (HY.out 2 _ rfl); have y3 := keepc HB4.out (HY.out 3 _ rfl)
    clear hb3 hb4 hw4 hr3 HC1 HF1 HF2
    go_upto_region 7 with fail
    have e := HW4.out
    rw [← e]
    clear e HW4
    obtain ⟨Z3, hZ3⟩ : ∃ Z3, w3.heap.size = Z3 := ⟨_, rfl⟩
    simp only [hZ3] at A0 A1 ⊢
    clear hZ3
    go_wp2_with fail
    refine HC2.out.mono ?_
    rintro e w5 ⟨v5, rfl, hr5, hb5⟩
    have HR5 := hid hr5
    obtain ⟨o5, c5, rfl, -, -⟩ := id hr5
    obtain ⟨w6, hw6⟩ : ∃ w6, w6 = (w5.alloc (.cells #[strV s1.1, strV s1.2, strV s2.1, strV s2.2] 80)).alloc (.cells #[.int .i64 f1, .int .i64 f2] 81) := ⟨_, rfl⟩
    have hb6 : Below w5.heap.size w5 w6 := by rw [hw6]; exact balloc (balloc (Below.refl _ _) _) _
    have C0 : Hid (∀ j u, #[strV s1.1, strV s1.2, strV s2.1, strV s2.2][j]? = some u → w6.cell? ⟨w5.heap.size, j, none⟩ = some u) := fun j u hj => by rw [hw6]; exact keepc (balloc (Below.refl _ _) _) (cell_new _ _ _ j _ hj)
    have C1 : Hid (∀ j u, #[Value.int .i64 f1, .int .i64 f2][j]? = some u → w6.cell? ⟨w5.heap.size + 1, j, none⟩ = some u) := fun j u hj => by rw [hw6]; have h := cell_new (w5.alloc (.cells #[strV s1.1, strV s1.2, strV s2.1, strV s2.2] 80)) #[Value.int .i64 f1, .int .i64 f2] 81 j u hj; rw [World.size_alloc] at h; exact h
    have hb46 : Below w4.heap.size w4 w6 := below_step hb6 (below_step hb5 (Below.refl _ _))
    have HT6 : Hid (Below w.heap.size w w6) := below_step hb46 HT4.out
    have HR6 := hid (HR5.out.below hb6)
    have HR4 := hid (HR4.out.below hb46)
    have HW6 := hid hw6
    have A0 : Hid (∀ j u, #[strV r1.1, strV r1.2, strV r2.1, strV r2.2][j]? = some u → w6.cell? ⟨Z3, j, none⟩ = some u) := fun j u hj => keepc hb46 (A0.out j u hj)
    have A1 : Hid (∀ j u, #[Value.int .i64 e1, .int .i64 e2][j]? = some u → w6.cell? ⟨Z3 + 1, j, none⟩ = some u) := fun j u hj => keepc hb46 (A1.out j u hj)
    clear hb5 hb6 hw6 hr5 hb46 HC2 x0 x1 x2 x3 y0 y1 y2 y3 k0
    go_upto_region 8 with fail
    have e := HW6.out
    rw [← e]
    clear e HW6
    obtain ⟨Z5, hZ5⟩ : ∃ Z5, w5.heap.size = Z5 := ⟨_, rfl⟩
    simp only [hZ5] at C0 C1 ⊢
    clear hZ5
    have q0 := A1.out 0 _ rfl; have q1 := A1.out 1 _ rfl; have p0 := C1.out 0 _ rfl; have p1 := C1.out 1 _ rfl
    go_wp2_with fail
    go_loopw [59] (fun i wr => ∃ k : Nat, i = .int .i64 (k : Int) ∧ k ≤ 2 ∧ Hid (Below w6.heap.size w6 wr) ∧ Hid (0 < k → e1 ≠ 2 ∧ f1 ≠ 2) ∧ Hid (1 < k → e2 ≠ 2 ∧ f2 ≠ 2)) (fun i _ => 2 - (intOf i).toNat)
    case atStart => exact ⟨0, rfl, by omega, Below.refl _ _, fun h => by omega, fun h => by omega⟩
    case round =>
      obtain ⟨k9, rfl, hk9, HBL, HE1, HE2⟩ := hrel
      have q0 := keepc HBL.out q0; have q1 := keepc HBL.out q1; have p0 := keepc HBL.out p0; have p1 := keepc HBL.out p1
      have HTL : Hid (Below w.heap.size w wr) := below_step HBL.out HT6.out
      have hcases : k9 = 0 ∨ k9 = 1 ∨ k9 = 2 := by omega
      rcases hcases with rfl | rfl | rfl
      · by_cases ha : e1 = 2
        · have ga : (e1 == 2) = true := by simpa using ha
          go_wp2_with fail
          go_ret
          exact ⟨rfl, HTL.out⟩
        · have ga : (e1 == 2) = false := by simpa using ha
          by_cases hb : f1 = 2
          · have gb : (f1 == 2) = true := by simpa using hb
            go_wp2_with fail
            go_ret
            exact ⟨rfl, HTL.out⟩
          · have gb : (f1 == 2) = false := by simpa using hb
            go_wp2_with fail
            go_roundw
            case rel => exact ⟨1, by go_num, by omega, HBL, fun _ => ⟨ha, hb⟩, fun h => by omega⟩
            case measure => simp [intOf]
      · by_cases ha : e2 = 2
        · have ga : (e2 == 2) = true := by simpa using ha
          go_wp2_with fail
          go_ret
          exact ⟨rfl, HTL.out⟩
        · have ga : (e2 == 2) = false := by simpa using ha
          by_cases hb : f2 = 2
          · have gb : (f2 == 2) = true := by simpa using hb
            go_wp2_with fail
            go_ret
            exact ⟨rfl, HTL.out⟩
          · have gb : (f2 == 2) = false := by simpa using hb
            have HE3 := hid (HE1.out (by omega))
            go_wp2_with fail
            go_roundw
            case rel => exact ⟨2, by go_num, by omega, HBL, fun _ => HE3.out, fun _ => ⟨ha, hb⟩⟩
            case measure => simp [intOf]
      · obtain ⟨n1, m1⟩ := HE1.out (by omega)
        obtain ⟨n2, m2⟩ := HE2.out (by omega)
        obtain ⟨z1, z2, z3⟩ := HEX.out n1 n2 m1 m2
        simp only [Prod.mk.injEq] at z2 z3
        obtain ⟨z21, z22⟩ := z2
        obtain ⟨z31, z32⟩ := z3
        subst z1 z21 z22 z31 z32
        have HSM := hid (rsame_any D2 D2 _ _ wr (HR4.out.below HBL.out) (HR6.out.below HBL.out) HDS.out)
        have A0 := hid (fun w' (hb : Below wr.heap.size wr w') j u hj => keepc hb (keepc HBL.out (A0.out j u hj)))
        have A1 := hid (fun w' (hb : Below wr.heap.size wr w') j u hj => keepc hb (keepc HBL.out (A1.out j u hj)))
        have C0 := hid (fun w' (hb : Below wr.heap.size wr w') j u hj => keepc hb (keepc HBL.out (C0.out j u hj)))
        have C1 := hid (fun w' (hb : Below wr.heap.size wr w') j u hj => keepc hb (keepc HBL.out (C1.out j u hj)))
        clear n1 n2 m1 m2 HEX HE1 HE2 q0 q1 p0 p1
        go_wp2_with fail
        refine HSM.out.mono ?_
        rintro e w7 ⟨rfl, hb7⟩
        have HT7 : Hid (Below w.heap.size w w7) := below_step hb7 HTL.out
        have a0 := A0.out w7 hb7 0 _ rfl; have a1 := A0.out w7 hb7 1 _ rfl; have a2 := A0.out w7 hb7 2 _ rfl; have a3 := A0.out w7 hb7 3 _ rfl
        have c0 := C0.out w7 hb7 0 _ rfl; have c1 := C0.out w7 hb7 1 _ rfl; have c2 := C0.out w7 hb7 2 _ rfl; have c3 := C0.out w7 hb7 3 _ rfl
        have q0 := A1.out w7 hb7 0 _ rfl; have q1 := A1.out w7 hb7 1 _ rfl; have p0 := C1.out w7 hb7 0 _ rfl; have p1 := C1.out w7 hb7 1 _ rfl
        have hq1 := fun w => run_eqR r1 r1 w
        have hq2 := fun w => run_eqR r2 r2 w
        simp only [decide_true] at hq1 hq2
        clear hb7 A0 A1 C0 C1
        go_wp2_with fail
        go_ret
        exact ⟨rfl, HT7.out⟩
end Go.Proofs.Ytifcgimpgbeocaa
