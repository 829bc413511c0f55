/- The function within FilesExchange. -/
import Derived.Test.YtifcgimpgbeocaaMC2
set_option linter.unusedVariables false
set_option linter.unusedSimpArgs false
namespace Go.Proofs.Ytifcgimpgbeocaa
open Go.RowKit
attribute [local go_sem] Oper.semAt_some
/-- What the function within returns. -/
def RetB (D : Ds) (r1 : Rec) (e1 : Int) (r2 : Rec) (e2 : Int) (w : World) (e : Ending) (w' : World) : Prop := ∃ v, e = .returned (.tuple #[v, .agg #[strV r1.1, strV r1.2, strV r2.1, strV r2.2], .agg #[.int .i64 e1, .int .i64 e2]]) ∧ RdR w' v D ∧ Below w.heap.size w w'
/-- v reads as records that lie below B0, or from B1 on. -/
def RdX (B0 B1 : Nat) (w : World) (v : Value) (d : Ds) : Prop := ∃ o cap, v = .slice o d.length cap ∧ d.length ≤ cap ∧ (d = [] ∨ ∃ b off, o = some ⟨b, off, none⟩ ∧ b < w.heap.size ∧ (b < B0 ∨ B1 ≤ b) ∧ ∀ i r, d[i]? = some r → w.cell? ⟨b, off + i * 2, none⟩ = some (strV r.1) ∧ w.cell? ⟨b, off + i * 2 + 1, none⟩ = some (strV r.2))
theorem RdX.rd {B0 B1 : Nat} {w : World} {v : Value} {d : Ds} (h : RdX B0 B1 w v d) : RdR w v d := by
  obtain ⟨o, cap, e, hc, h⟩ := h
  refine ⟨o, cap, e, hc, h.imp id ?_⟩
  rintro ⟨b, off, e1, e2, -, h3⟩
  exact ⟨b, off, e1, e2, h3⟩
theorem RdX.of_old {B1 : Nat} {w : World} {v : Value} {d : Ds} (h : RdR w v d) : RdX w.heap.size B1 w v d := by
  obtain ⟨o, cap, e, hc, h⟩ := h
  refine ⟨o, cap, e, hc, h.imp id ?_⟩
  rintro ⟨b, off, e1, e2, h3⟩
  exact ⟨b, off, e1, e2, .inl e2, h3⟩
theorem RdX.of_own {B B0 B1 : Nat} {w : World} {v : Value} {d : Ds} (h : OR w B v d) (hB : B1 ≤ B) : RdX B0 B1 w v d := by
  obtain ⟨o, cap, e, hc, h2⟩ := h.rd
  refine ⟨o, cap, e, hc, h2.imp id ?_⟩
  rintro ⟨b, off, e1, e2, h3⟩
  refine ⟨b, off, e1, e2, .inr ?_, h3⟩
  subst e1 e
  exact Nat.le_trans hB (World.ownsRow.lt h b rfl).1
theorem RdX.below {B0 B1 : Nat} {w w' : World} {v : Value} {d : Ds} (h : RdX B0 B1 w v d) (hb : Below w.heap.size w w') : RdX B0 B1 w' v d := by
  obtain ⟨o, cap, e, hc, h⟩ := h
  refine ⟨o, cap, e, hc, h.imp id ?_⟩
  rintro ⟨b, off, e1, e2, e3, h3⟩
  exact ⟨b, off, e1, Nat.lt_of_lt_of_le e2 hb.size, e3, fun i r hi => ⟨keepc hb (h3 i r hi).1, keepc hb (h3 i r hi).2⟩⟩
theorem RdX.drew {B0 B1 : Nat} {w : World} {v : Value} {d : Ds} (h : RdX B0 B1 w v d) : RdX B0 B1 w.drew v d := h.below (drew_below w)
theorem RdX.set {B0 B1 Z i : Nat} {w : World} {v : Value} {d : Ds} (h : RdX B0 B1 w v d) (hZ : B0 ≤ Z ∧ Z < B1) (u : Value) (_ : True) : RdX B0 B1 (w.setCell ⟨Z, i, none⟩ u) v d := by
  obtain ⟨o, cap, e, hc, h⟩ := h
  refine ⟨o, cap, e, hc, h.imp id ?_⟩
  rintro ⟨b, off, e1, e2, e3, h3⟩
  have hne : b ≠ Z := by omega
  refine ⟨b, off, e1, by simpa [World.setCell] using e2, e3, fun i r hi => ⟨?_, ?_⟩⟩
  · rw [World.cell?_setCell_other _ _ _ _ (fun e => hne (by cases e; rfl))]; exact (h3 i r hi).1
  · rw [World.cell?_setCell_other _ _ _ _ (fun e => hne (by cases e; rfl))]; exact (h3 i r hi).2
set_option maxHeartbeats 4000000 in
set_option maxRecDepth 100000 in
theorem both_any (d : Ds) (v : Value) (X : Nat) (x y : FOp) (w : World) (hX : w.cell? ⟨X, 0, none⟩ = some v) (hR : RdR w v d) :
    Calls Try.prog 44 #[opV x, opV y, .pointer (some ⟨X, 0, none⟩)] w (RetB (stepE (stepE d x).1 y).1 (stepE d x).2.1 (stepE d x).2.2 (stepE (stepE d x).1 y).2.1 (stepE (stepE d x).1 y).2.2 w) := by
  have HA := hid (fun w' (hb : Below w.heap.size w w') => apply_any d v x w' (hR.below hb))
  have HA2 := hid (fun d' v' w' (h : RdR w' v' d') => apply_any d' v' y w' h)
  have HRD := hid hR
  have hs1 : stepE d x = if (applyD d x).2.2 = 0 then applyD d x else (d, (applyD d x).2) := by unfold stepE; split <;> rfl
  have hs2 : ∀ d', stepE d' y = if (applyD d' y).2.2 = 0 then applyD d' y else (d', (applyD d' y).2) := fun d' => by unfold stepE; split <;> rfl
  have HS2 := hid hs2
  have HS1 := hid hs1
  clear hs1 hs2
  obtain ⟨k, f, a, s⟩ := x
  obtain ⟨k', f', a', s'⟩ := y
  obtain ⟨W1, hW1⟩ : ∃ W1, W1 = w.alloc (.cells #[.int .i64 k, .int .i64 f, strV a, strV s] 63) := ⟨_, rfl⟩
  obtain ⟨W2, hW2⟩ : ∃ W2, W2 = W1.alloc (.cells #[.int .i64 k', .int .i64 f', strV a', strV s'] 63) := ⟨_, rfl⟩
  obtain ⟨W3, hW3⟩ : ∃ W3, W3 = W2.alloc (.cells #[strV [], strV [], strV [], strV []] 80) := ⟨_, rfl⟩
  obtain ⟨W, hW⟩ : ∃ W, W = W3.alloc (.cells #[.int .i64 0, .int .i64 0] 81) := ⟨_, rfl⟩
  have hz1 : W1.heap.size = w.heap.size + 1 := by rw [hW1]; simp
  have hz2 : W2.heap.size = w.heap.size + 1 + 1 := by rw [hW2, World.size_alloc, hz1]
  have hz3 : W3.heap.size = w.heap.size + 1 + 1 + 1 := by rw [hW3, World.size_alloc, hz2]
  have hz4 : W.heap.size = w.heap.size + 4 := by rw [hW, World.size_alloc, hz3]
  have b1 : Below w.heap.size w W1 := by rw [hW1]; exact balloc (Below.refl _ _) _
  have b2 : Below W1.heap.size W1 W2 := by rw [hW2]; exact balloc (Below.refl _ _) _
  have b3 : Below W2.heap.size W2 W3 := by rw [hW3]; exact balloc (Below.refl _ _) _
  have b4 : Below W3.heap.size W3 W := by rw [hW]; exact balloc (Below.refl _ _) _
  have HX : Hid (∀ j u, #[Value.int .i64 k, .int .i64 f, strV a, strV s][j]? = some u → W.cell? ⟨w.heap.size, j, none⟩ = some u) := fun j u hj => keepc b4 (keepc b3 (keepc b2 (by rw [hW1]; exact cell_new _ _ _ j _ hj)))
  have HY : Hid (∀ j u, #[Value.int .i64 k', .int .i64 f', strV a', strV s'][j]? = some u → W.cell? ⟨w.heap.size + 1, j, none⟩ = some u) := fun j u hj => keepc b4 (keepc b3 (by rw [← hz1, hW2]; exact cell_new _ _ _ j _ hj))
  have HP : Hid (∀ j, j < 4 → OwnC W ⟨w.heap.size + 1 + 1, j, none⟩) := fun j hj => keepOwn b4 (by rw [← hz2, hW3]; exact ownc_new _ _ _ j (by simpa using hj))
  have HQ : Hid (∀ j, j < 2 → OwnC W ⟨w.heap.size + 1 + 1 + 1, j, none⟩) := fun j hj => by rw [← hz3, hW]; exact ownc_new _ _ _ j (by simpa using hj)
  have HBW : Hid (Below w.heap.size w W) := below_step b4 (below_step b3 (below_step b2 b1))
  have cX := keepc HBW.out hX
  obtain ⟨od, cd, hv, -, -⟩ := id hR
  have HRD := hid hR
  have HWW := hid (show W = (((w.alloc (.cells #[.int .i64 k, .int .i64 f, strV a, strV s] 63)).alloc (.cells #[.int .i64 k', .int .i64 f', strV a', strV s'] 63)).alloc (.cells #[strV [], strV [], strV [], strV []] 80)).alloc (.cells #[.int .i64 0, .int .i64 0] 81) by rw [hW, hW3, hW2, hW1])
  have HZ4 := hid hz4
  have HXB : Hid (X < w.heap.size) := World.block_lt_of_cell? _ _ hX
  have HVV := hid hv
  rw [hv] at cX HA
  clear hW hW1 hW2 hW3 hz1 hz2 hz3 hz4 b1 b2 b3 b4 hX hR hv
  have x0 := HX.out 0 _ rfl; have x1 := HX.out 1 _ rfl; have x2 := HX.out 2 _ rfl; have x3 := HX.out 3 _ rfl
  go_enter Try.func44, Try.ntmps44
  go_upto_region 1 with fail
  have e := HWW.out
  rw [← e]
  clear e HWW
  go_wp2_with fail
  refine (HA.out _ HBW.out).mono ?_
  rintro e w1 ⟨v1, rfl, ho1, hb1⟩
  obtain ⟨R1, hR1⟩ : ∃ R1, applyD d (k, f, a, s) = R1 := ⟨_, rfl⟩
  rw [hR1] at ho1 HS1
  simp only [hR1]
  obtain ⟨D1, r1, e1⟩ := R1
  simp only at ho1 HS1
  have HO1 := hid ho1
  obtain ⟨o1, c1, rfl, -, -⟩ := ho1.rd
  have HB1S : Hid (W.heap.size ≤ W.heap.size) := Nat.le_refl _
  obtain ⟨w2, hw2⟩ : ∃ w2, w2 = w1.alloc (.cells #[strV r1.1, strV r1.2] 59) := ⟨_, rfl⟩
  have hba : Below w1.heap.size w1 w2 := by rw [hw2]; exact balloc (Below.refl _ _) _
  have HB2 : Hid (Below W.heap.size W w2) := below_step hba (below_step hb1 (Below.refl _ _))
  have HO2 := hid (HO1.out.below hba)
  have q0 : w2.cell? ⟨w1.heap.size, 0, none⟩ = some (strV r1.1) := by rw [hw2]; exact cell_new _ _ _ 0 _ rfl
  have q1 : w2.cell? ⟨w1.heap.size, 1, none⟩ = some (strV r1.2) := by rw [hw2]; exact cell_new _ _ _ 1 _ rfl
  have cX := keepc HB2.out cX
  have HW2 := hid hw2
  clear hw2 hba hb1 ho1 HO1 x0 x1 x2 x3 hR1
  go_upto_region 2 with fail
  have e := HW2.out
  rw [← e]
  clear e HW2
  obtain ⟨Z1, hZ1⟩ : ∃ Z1, w1.heap.size = Z1 := ⟨_, rfl⟩
  rw [hZ1] at q0 q1 ⊢
  clear hZ1
  go_upto_if 22 with (fail)
  go_cut [8] (fun x8 wx => wx = w2 ∧ Hid (∃ n c o, x8 = .slice o n c ∧ n = (stepE d (k, f, a, s)).1.length ∧ RdX w.heap.size (w.heap.size + 4) w2 x8 (stepE d (k, f, a, s)).1))
  case first =>
    by_cases hE : e1 = 0
    · have ge : (e1 != 0) = false := by simpa using hE
      have HS : Hid (stepE d (k, f, a, s) = (D1, r1, e1)) := by rw [HS1.out, if_pos hE]; rfl
      go_wp2_with fail
      go_meet
      case rel => exact ⟨rfl, _, _, _, rfl, by rw [HS.out], by rw [HS.out]; exact RdX.of_own HO2.out (by have := HB1S.out; have := HZ4.out; omega)⟩
    · have ge : (e1 != 0) = true := by simpa using hE
      have HS : Hid (stepE d (k, f, a, s) = (d, r1, e1)) := by rw [HS1.out, if_neg hE]; rfl
      have HR2 : Hid (RdX w.heap.size (w.heap.size + 4) w2 v d) := (RdX.of_old HRD.out).below (below_step HB2.out HBW.out)
      go_wp2_with fail
      go_meet
      case rel => exact ⟨rfl, _, _, _, rfl, by rw [HS.out], by rw [HS.out, ← HVV.out]; exact HR2.out⟩
  case rest =>
    obtain ⟨rfl, n8, c8, o8, rfl, hn8, hr8⟩ := hcut
    have HST : Hid ((stepE d (k, f, a, s)).2 = (r1, e1)) := by rw [HS1.out]; split <;> rfl
    obtain ⟨S1, hS1⟩ : ∃ S1, stepE d (k, f, a, s) = S1 := ⟨_, rfl⟩
    rw [hS1] at hn8 hr8 HST
    obtain ⟨D2, rr, ee⟩ := S1
    simp only [Prod.mk.injEq] at HST
    obtain ⟨rfl, rfl⟩ := HST.out
    simp only at hn8 hr8
    have HE1 := hid hS1
    have HR8 := hid hr8
    have HA4 := hid (fun w' (hb : Below wc.heap.size wc w') => HA2.out D2 _ w' (hr8.rd.below hb))
    have HS4 := hid (HS2.out D2)
    have HN8 := hid hn8
    have y0 := keepc HB2.out (HY.out 0 _ rfl); have y1 := keepc HB2.out (HY.out 1 _ rfl); have y2 := keepc HB2.out (HY.out 2 _ rfl); have y3 := keepc HB2.out (HY.out 3 _ rfl)
    clear hr8 hn8 hS1 HST HS1 HS2 HA HA2 HO2
    go_wp2_with fail
    refine (HA4.out _ (Below.refl _ _)).mono ?_
    rintro e w3 ⟨v3, rfl, ho3, hb3⟩
    obtain ⟨R3, hR3⟩ : ∃ R3, applyD D2 (k', f', a', s') = R3 := ⟨_, rfl⟩
    rw [hR3] at ho3 HS4
    simp only [hR3]
    obtain ⟨D3, r3, e3⟩ := R3
    simp only at ho3 HS4
    have HO3 := hid ho3
    obtain ⟨o3, c3, rfl, -, -⟩ := ho3.rd
    obtain ⟨w4, hw4⟩ : ∃ w4, w4 = w3.alloc (.cells #[strV r3.1, strV r3.2] 59) := ⟨_, rfl⟩
    have hba : Below w3.heap.size w3 w4 := by rw [hw4]; exact balloc (Below.refl _ _) _
    have HB4' : Hid (Below wc.heap.size wc w4) := below_step hba (below_step hb3 (Below.refl _ _))
    have HB4 : Hid (Below W.heap.size W w4) := below_step HB4'.out HB2.out
    have HO4 := hid (HO3.out.below hba)
    have HR4 := hid (HR8.out.below HB4'.out)
    have p0 : w4.cell? ⟨w3.heap.size, 0, none⟩ = some (strV r3.1) := by rw [hw4]; exact cell_new _ _ _ 0 _ rfl
    have p1 : w4.cell? ⟨w3.heap.size, 1, none⟩ = some (strV r3.2) := by rw [hw4]; exact cell_new _ _ _ 1 _ rfl
    have q0 := keepc HB4'.out q0; have q1 := keepc HB4'.out q1
    have HW4 := hid hw4
    clear hw4 hba hb3 ho3 HO3 y0 y1 y2 y3 hR3 cX HA4
    go_upto_region 5 with fail
    have e := HW4.out
    rw [← e]
    clear e HW4
    obtain ⟨Z3, hZ3⟩ : ∃ Z3, w3.heap.size = Z3 := ⟨_, rfl⟩
    rw [hZ3] at p0 p1 ⊢
    clear hZ3
    go_upto_if 32 with (fail)
    go_cut [11] (fun x11 wx => wx = w4 ∧ Hid (∃ n c o, x11 = .slice o n c ∧ RdX w.heap.size (w.heap.size + 4) w4 x11 (stepE D2 (k', f', a', s')).1))
    case first =>
      by_cases hE : e3 = 0
      · have ge : (e3 != 0) = false := by simpa using hE
        have HS : Hid (stepE D2 (k', f', a', s') = (D3, r3, e3)) := by rw [HS4.out, if_pos hE]; rfl
        go_wp2_with fail
        go_meet
        case rel => exact ⟨rfl, _, _, _, rfl, by rw [HS.out]; exact RdX.of_own HO4.out (by have := HB2.out.size; have := HZ4.out; omega)⟩
      · have ge : (e3 != 0) = true := by simpa using hE
        have HS : Hid (stepE D2 (k', f', a', s') = (D2, r3, e3)) := by rw [HS4.out, if_neg hE]; rfl
        go_wp2_with fail
        go_meet
        case rel => exact ⟨rfl, _, _, _, rfl, by rw [HS.out]; exact HR4.out⟩
    case rest =>
      obtain ⟨rfl, n11, c11, o11, rfl, hr11⟩ := hcut
      have HST : Hid ((stepE D2 (k', f', a', s')).2 = (r3, e3)) := by rw [HS4.out]; split <;> rfl
      obtain ⟨S4, hS4⟩ : ∃ S4, stepE D2 (k', f', a', s') = S4 := ⟨_, rfl⟩
      rw [hS4] at hr11 HST
      obtain ⟨D4, rr4, ee4⟩ := S4
      simp only [Prod.mk.injEq] at HST
      obtain ⟨rfl, rfl⟩ := HST.out
      have HE4 := hid hS4
      have HR11 := hid hr11
      obtain ⟨⟨a0, m0⟩, z0⟩ := keepOwn HB4.out (HP.out 0 (by decide)); obtain ⟨⟨a1, m1⟩, z1⟩ := keepOwn HB4.out (HP.out 1 (by decide)); obtain ⟨⟨a2, m2⟩, z2⟩ := keepOwn HB4.out (HP.out 2 (by decide)); obtain ⟨⟨a3, m3⟩, z3⟩ := keepOwn HB4.out (HP.out 3 (by decide))
      obtain ⟨⟨a4, m4⟩, z4⟩ := keepOwn HB4.out (HQ.out 0 (by decide)); obtain ⟨⟨a5, m5⟩, z5⟩ := keepOwn HB4.out (HQ.out 1 (by decide))
      clear hr11 HST hS4 HS4
      go_wp2_with fail
      have HBF : Hid (Below w.heap.size w wc) := below_step HB4.out HBW.out
      have hzz := World.block_lt_of_cell? _ _ m5
      simp only at hzz
      go_region
      obtain ⟨P, hP⟩ : ∃ P, w.heap.size + 1 + 1 = P := ⟨_, rfl⟩
      obtain ⟨Q, hQ⟩ : ∃ Q, w.heap.size + 1 + 1 + 1 = Q := ⟨_, rfl⟩
      simp only [hQ] at m4 m5 z4 z5 hzz ⊢
      simp only [hP] at m0 m1 m2 m3 z0 z1 z2 z3 ⊢
      have hPQ : ¬ P = Q := by omega
      have hQP : ¬ Q = P := by omega
      obtain ⟨wf, hwf⟩ : ∃ wf, wf = ((((((wc.setCell ⟨P, 0, none⟩ (strV rr.1)).setCell ⟨P, 1, none⟩ (strV rr.2)).setCell ⟨P, 2, none⟩ (strV rr4.1)).setCell ⟨P, 3, none⟩ (strV rr4.2)).setCell ⟨Q, 0, none⟩ (.int .i64 ee)).setCell ⟨Q, 1, none⟩ (.int .i64 ee4)) := ⟨_, rfl⟩
      have t0 : wf.cell? ⟨P, 0, none⟩ = some (strV rr.1) := by rw [hwf]; go_simp
      have t1 : wf.cell? ⟨P, 1, none⟩ = some (strV rr.2) := by rw [hwf]; go_simp
      have t2 : wf.cell? ⟨P, 2, none⟩ = some (strV rr4.1) := by rw [hwf]; go_simp
      have t3 : wf.cell? ⟨P, 3, none⟩ = some (strV rr4.2) := by rw [hwf]; go_simp
      have t4 : wf.cell? ⟨Q, 0, none⟩ = some (.int .i64 ee) := by rw [hwf]; go_simp
      have t5 : wf.cell? ⟨Q, 1, none⟩ = some (.int .i64 ee4) := by rw [hwf]; go_simp
      have y0 : P < wf.heap.size := World.block_lt_of_cell? _ _ t0
      have y1 : Q < wf.heap.size := World.block_lt_of_cell? _ _ t4
      have HRF : Hid (RdX w.heap.size (w.heap.size + 4) wf (.slice o11 n11 c11) D4) := by
        rw [hwf]
        exact (((((HR11.out.set (by omega) _ trivial).set (by omega) _ trivial).set (by omega) _ trivial).set (by omega) _ trivial).set (by omega) _ trivial).set (by omega) _ trivial
      have HBN : Hid (Below w.heap.size w wf) := by
        rw [hwf]
        exact (((((HBF.out.setCell (p := ⟨P, 0, none⟩) (by simp only; omega) _).setCell (p := ⟨P, 1, none⟩) (by simp only; omega) _).setCell (p := ⟨P, 2, none⟩) (by simp only; omega) _).setCell (p := ⟨P, 3, none⟩) (by simp only; omega) _).setCell (p := ⟨Q, 0, none⟩) (by simp only; omega) _).setCell (p := ⟨Q, 1, none⟩) (by simp only; omega) _
      rw [← hwf]
      clear hwf m0 m1 m2 m3 m4 m5 z0 z1 z2 z3 z4 z5 p0 p1 q0 q1 HX HY HP HQ
      go_wp2_with fail
      rw [HE1.out, HE4.out]
      exact bodyPost_ret (v := .tuple #[.slice o11 n11 c11, .agg #[strV rr.1, strV rr.2, strV rr4.1, strV rr4.2], .agg #[.int .i64 ee, .int .i64 ee4]]) (by simp [results, Try.results44, go_sem, t0, t1, t2, t3, t4, t5, y0, y1]) rfl ⟨_, rfl, HRF.out.drew.rd, HBN.out.drew⟩
end Go.Proofs.Ytifcgimpgbeocaa
