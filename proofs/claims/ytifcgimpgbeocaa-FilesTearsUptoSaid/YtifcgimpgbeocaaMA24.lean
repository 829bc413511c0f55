/- Act. -/
import Derived.Test.YtifcgimpgbeocaaK9
import Derived.Test.YtifcgimpgbeocaaK14
set_option linter.unusedVariables false
set_option linter.unusedSimpArgs false
namespace Go.Proofs.Ytifcgimpgbeocaa
open Go.RowKit
attribute [local go_sem] Oper.semAt_some
set_option maxHeartbeats 1000000 in
set_option maxRecDepth 100000 in
theorem actE_any (d : Dk) (b : Bool) (p : Int) (s : Bs) (vp vq : Value) (w : World) (hp : RdS w vp d.1) (hq : RdW w vq d.2) (hl : d.2.length ≤ 1000000) : Calls Try.prog 67 #[.agg #[vp, vq], .agg #[.bool b, .int .i64 p, strV s]] w (RetDk (actE d (b, p, s)).1 (actE d (b, p, s)).2 w) := by
  have hb0 := (((Below.refl w.heap.size w).alloc (Nat.le_refl _) (.cells #[vp, vq] 27)).alloc (by rw [World.size_alloc]; omega) (.cells #[.bool b, .int .i64 p, strV s] 104))
  have hx0 := Lib.cell?_alloc_some (.cells #[.bool b, .int .i64 p, strV s] 104) (cell_new w #[vp, vq] 27 0 vp rfl)
  have hx1 := Lib.cell?_alloc_some (.cells #[.bool b, .int .i64 p, strV s] 104) (cell_new w #[vp, vq] 27 1 vq rfl)
  have hx2 := cell_new (w.alloc (.cells #[vp, vq] 27)) #[.bool b, .int .i64 p, strV s] 104 0 (.bool b) rfl
  have hx3 := cell_new (w.alloc (.cells #[vp, vq] 27)) #[.bool b, .int .i64 p, strV s] 104 1 (.int .i64 p) rfl
  have hx4 := cell_new (w.alloc (.cells #[vp, vq] 27)) #[.bool b, .int .i64 p, strV s] 104 2 (strV s) rfl
  rw [World.size_alloc] at hx2 hx3 hx4
  have HC := hid (fun w' (hb : Below w.heap.size w w') => checkdisk_any d vp vq w' (hp.below hb) (hq.below hb) (by omega))
  have HA : Hid (∀ w' (hb : Below w.heap.size w w'), Hid (isDk d = true) → Calls Try.prog 114 #[.agg #[vp, vq], .agg #[.bool b, .int .i64 p, strV s]] w' (RetD1 (actDk d (b, p, s)) w')) := fun w' hb hd => act_any d (b, p, s) vp vq w' (hp.below hb) (hq.below hb) hd.out hl
  have hr : actE d (b, p, s) = if isDk d = true then (if isAct d (b, p, s) = true then (actDk d (b, p, s), 0) else (([], []), 1)) else (([], []), 142) := rfl
  obtain ⟨op, cp, rfl, -, -⟩ := hp
  obtain ⟨oq, cq, rfl, -, -⟩ := hq
  obtain ⟨R, hR⟩ : ∃ R, actE d (b, p, s) = R := ⟨_, rfl⟩
  obtain ⟨A, hA⟩ : ∃ A, actDk d (b, p, s) = A := ⟨_, rfl⟩
  obtain ⟨q, hq⟩ : ∃ q, isDk d = q := ⟨_, rfl⟩
  obtain ⟨t, ht⟩ : ∃ t, isAct d (b, p, s) = t := ⟨_, rfl⟩
  rw [hR] at hr ⊢
  rw [hA, hq, ht] at hr
  simp only [hA, hq] at HA HC
  have HT := hid ht
  obtain ⟨N, hN⟩ : ∃ N, d.1.length = N := ⟨_, rfl⟩
  obtain ⟨M, hM⟩ : ∃ M, d.2.length = M := ⟨_, rfl⟩
  simp only [hN, hM] at hb0 hx0 hx1 hx2 hx3 hx4 HC HA ⊢
  have HN := hid hN
  clear hl hR hA hq ht hN hM
  have HB0 := hid hb0; have HX0 := hid hx0; have HX1 := hid hx1; have HX2 := hid hx2; have HX3 := hid hx3; have HX4 := hid hx4
  clear hb0 hx0 hx1 hx2 hx3 hx4
  have HRR := hid hr
  clear hr
  go_enter Try.func67, Try.ntmps67
  go_wp2_with fail
  obtain ⟨W, hW⟩ : ∃ W, W = ((w.alloc (.cells #[.slice op N cp, .slice oq M cq] 27)).alloc (.cells #[.bool b, .int .i64 p, strV s] 104)) := ⟨_, rfl⟩
  have hzz : w.heap.size + 1 + 1 = W.heap.size := by rw [hW]; simp
  simp only [← hW, hzz] at HB0 HX0 HX1 HX2 HX3 HX4 ⊢
  have HBW := hid (B2.new W 27 (.slice none 0 0) (.slice none 0 0))
  clear hW
  cases q with
  | false =>
    have HR1 : Hid (R = (([], []), 142)) := HRR.out
    refine (HC.out _ (below_step (Below.refl W.heap.size W |>.alloc (Nat.le_refl _) _) HB0.out)).mono ?_
    rintro e w1 ⟨rfl, hb1⟩
    have hB1 : B2 W W.heap.size w1 := B2.below HBW.out hb1
    clear hb1
    have HB1 := hid hB1
    obtain ⟨⟨u0, y0⟩, f0⟩ := hB1.2.1
    obtain ⟨⟨u1, y1⟩, f1⟩ := hB1.2.2
    have hz := hB1.lt
    have x0 := keepc hB1.1 HX0.out
    have x1 := keepc hB1.1 HX1.out
    have x2 := keepc hB1.1 HX2.out
    have x3 := keepc hB1.1 HX3.out
    have x4 := keepc hB1.1 HX4.out
    clear hB1
    go_wp2_with fail
    rw [HR1.out]
    exact bodyPost_ret (v := .tuple #[.agg #[.slice none 0 0, .slice none 0 0], .int .i64 142]) (by simp [results, Try.results67, go_sem, y0, y1, f0, f1, hz]) rfl ⟨_, _, rfl, oS_nil _ _, oW_nil _ _, below_step (((HB1.out.set (Nat.le_refl _) _ _).set (Nat.le_refl _) _ _).1) HB0.out⟩
  | true =>
    refine (HC.out _ (below_step (Below.refl W.heap.size W |>.alloc (Nat.le_refl _) _) HB0.out)).mono ?_
    rintro e w1 ⟨rfl, hb1⟩
    have hB1 : B2 W W.heap.size w1 := B2.below HBW.out hb1
    clear hb1
    have HB1 := hid hB1
    obtain ⟨⟨u0, y0⟩, f0⟩ := hB1.2.1
    obtain ⟨⟨u1, y1⟩, f1⟩ := hB1.2.2
    have hz := hB1.lt
    have x0 := keepc hB1.1 HX0.out
    have x1 := keepc hB1.1 HX1.out
    have x2 := keepc hB1.1 HX2.out
    have x3 := keepc hB1.1 HX3.out
    have x4 := keepc hB1.1 HX4.out
    clear hB1
    cases b with
    | true =>
      by_cases hp : p = 0
      · subst hp
        cases s with
        | nil =>
          have ht : t = true := by rw [← HT.out, isAct_sync]; simp
          have HR1 : Hid (R = (A, 0)) := by unfold Hid; rw [HRR.out, ht]; rfl
          subst ht
          go_wp2_with fail
          refine (HA.out _ (below_step HB1.out.1 HB0.out) (hid trivial)).mono ?_
          rintro e w2 ⟨u2, u3, rfl, ho2, ho3, hb2⟩
          obtain ⟨o2, c2, rfl, -, -⟩ := ho2.rd
          obtain ⟨o3, c3, rfl, -, -⟩ := ho3.rd
          have HO2 := hid (OS.mono ho2 (B' := W.heap.size + 1) HB1.out.lt)
          have HO3 := hid (OW.mono ho3 (B' := W.heap.size + 1) HB1.out.lt)
          have hb4 : B2 W W.heap.size w2 := B2.below HB1.out hb2
          clear ho2 ho3 hb2 x0 x1 x2 x3 x4 y0 y1 f0 f1 hz
          obtain ⟨⟨v0, y0⟩, f0⟩ := hb4.2.1
          obtain ⟨⟨v1, y1⟩, f1⟩ := hb4.2.2
          have hz := hb4.lt
          have HB4 := hid hb4
          clear hb4
          go_wp2_with fail
          rw [HR1.out]
          have n1 : (Value.slice o2 A.1.length c2).ownBlock ≠ some W.heap.size := fun e => by have := (World.ownsRow.lt HO2.out _ e).1; omega
          have n3 : (Value.slice o3 A.2.length c3).ownBlock ≠ some W.heap.size := fun e => by have := (World.ownsRow.lt HO3.out _ e).1; omega
          exact bodyPost_ret (v := .tuple #[.agg #[.slice o2 A.1.length c2, .slice o3 A.2.length c3], .int .i64 0]) (by simp [results, Try.results67, go_sem, y0, y1, f0, f1, hz]) rfl
            ⟨_, _, rfl, OS.mono (ownsRow_setCell_other (ownsRow_setCell_other HO2.out n1 _) n1 _) (by omega), OW.mono (ownsRow_setCell_other (ownsRow_setCell_other HO3.out n3 _) n3 _) (by omega), below_step (((HB4.out.set (Nat.le_refl _) _ _).set (Nat.le_refl _) _ _).1) HB0.out⟩
        | cons c s =>
          have ht : t = false := by rw [← HT.out, isAct_sync]; simp
          have HR1 : Hid (R = (([], []), 1)) := by unfold Hid; rw [HRR.out, ht]; rfl
          go_wp2_with fail
          rw [HR1.out]
          exact bodyPost_ret (v := .tuple #[.agg #[.slice none 0 0, .slice none 0 0], .int .i64 1]) (by simp [results, Try.results67, go_sem, y0, y1, f0, f1, hz]) rfl ⟨_, _, rfl, oS_nil _ _, oW_nil _ _, below_step (((HB1.out.set (Nat.le_refl _) _ _).set (Nat.le_refl _) _ _).1) HB0.out⟩
      · have hp' : (p == 0) = false := by simpa using hp
        have ht : t = false := by rw [← HT.out, isAct_sync]; simp [hp]
        have HR1 : Hid (R = (([], []), 1)) := by unfold Hid; rw [HRR.out, ht]; rfl
        go_wp2_with fail
        rw [HR1.out]
        exact bodyPost_ret (v := .tuple #[.agg #[.slice none 0 0, .slice none 0 0], .int .i64 1]) (by simp [results, Try.results67, go_sem, y0, y1, f0, f1, hz]) rfl ⟨_, _, rfl, oS_nil _ _, oW_nil _ _, below_step (((HB1.out.set (Nat.le_refl _) _ _).set (Nat.le_refl _) _ _).1) HB0.out⟩
    | false =>
      by_cases hp : p < 0
      · have g1 : decide (p < 0) = true := by simpa using hp
        have ht : t = false := by rw [← HT.out, isAct_write]; simp; omega
        have HR1 : Hid (R = (([], []), 1)) := by unfold Hid; rw [HRR.out, ht]; rfl
        go_wp2_with fail
        rw [HR1.out]
        exact bodyPost_ret (v := .tuple #[.agg #[.slice none 0 0, .slice none 0 0], .int .i64 1]) (by simp [results, Try.results67, go_sem, y0, y1, f0, f1, hz]) rfl ⟨_, _, rfl, oS_nil _ _, oW_nil _ _, below_step (((HB1.out.set (Nat.le_refl _) _ _).set (Nat.le_refl _) _ _).1) HB0.out⟩
      have g1 : decide (p < 0) = false := by simpa using hp
      by_cases hn : (N : Int) ≤ p
      · have g2 : decide ((N : Int) ≤ p) = true := by simpa using hn
        have ht : t = false := by rw [← HT.out, isAct_write, HN.out]; simp; omega
        have HR1 : Hid (R = (([], []), 1)) := by unfold Hid; rw [HRR.out, ht]; rfl
        go_wp2_with fail
        rw [HR1.out]
        exact bodyPost_ret (v := .tuple #[.agg #[.slice none 0 0, .slice none 0 0], .int .i64 1]) (by simp [results, Try.results67, go_sem, y0, y1, f0, f1, hz]) rfl ⟨_, _, rfl, oS_nil _ _, oW_nil _ _, below_step (((HB1.out.set (Nat.le_refl _) _ _).set (Nat.le_refl _) _ _).1) HB0.out⟩
      have g2 : decide ((N : Int) ≤ p) = false := by simpa using hn
      by_cases hs : s.length = 64
      · have g3 : ((s.length : Int) == 64) = true := by rw [hs]; rfl
        have ht : t = true := by rw [← HT.out, isAct_write, HN.out]; simp; omega
        have HR1 : Hid (R = (A, 0)) := by unfold Hid; rw [HRR.out, ht]; rfl
        subst ht
        go_wp2_with fail
        refine (HA.out _ (below_step HB1.out.1 HB0.out) (hid trivial)).mono ?_
        rintro e w2 ⟨u2, u3, rfl, ho2, ho3, hb2⟩
        obtain ⟨o2, c2, rfl, -, -⟩ := ho2.rd
        obtain ⟨o3, c3, rfl, -, -⟩ := ho3.rd
        have HO2 := hid (OS.mono ho2 (B' := W.heap.size + 1) HB1.out.lt)
        have HO3 := hid (OW.mono ho3 (B' := W.heap.size + 1) HB1.out.lt)
        have hb4 : B2 W W.heap.size w2 := B2.below HB1.out hb2
        clear ho2 ho3 hb2 x0 x1 x2 x3 x4 y0 y1 f0 f1 hz
        obtain ⟨⟨v0, y0⟩, f0⟩ := hb4.2.1
        obtain ⟨⟨v1, y1⟩, f1⟩ := hb4.2.2
        have hz := hb4.lt
        have HB4 := hid hb4
        clear hb4
        go_wp2_with fail
        rw [HR1.out]
        have n1 : (Value.slice o2 A.1.length c2).ownBlock ≠ some W.heap.size := fun e => by have := (World.ownsRow.lt HO2.out _ e).1; omega
        have n3 : (Value.slice o3 A.2.length c3).ownBlock ≠ some W.heap.size := fun e => by have := (World.ownsRow.lt HO3.out _ e).1; omega
        exact bodyPost_ret (v := .tuple #[.agg #[.slice o2 A.1.length c2, .slice o3 A.2.length c3], .int .i64 0]) (by simp [results, Try.results67, go_sem, y0, y1, f0, f1, hz]) rfl
          ⟨_, _, rfl, OS.mono (ownsRow_setCell_other (ownsRow_setCell_other HO2.out n1 _) n1 _) (by omega), OW.mono (ownsRow_setCell_other (ownsRow_setCell_other HO3.out n3 _) n3 _) (by omega), below_step (((HB4.out.set (Nat.le_refl _) _ _).set (Nat.le_refl _) _ _).1) HB0.out⟩
      · have g3 : ((s.length : Int) == 64) = false := by rw [beq_eq_false_iff_ne]; omega
        have ht : t = false := by rw [← HT.out, isAct_write, HN.out]; simp; omega
        have HR1 : Hid (R = (([], []), 1)) := by unfold Hid; rw [HRR.out, ht]; rfl
        go_wp2_with fail
        rw [HR1.out]
        exact bodyPost_ret (v := .tuple #[.agg #[.slice none 0 0, .slice none 0 0], .int .i64 1]) (by simp [results, Try.results67, go_sem, y0, y1, f0, f1, hz]) rfl ⟨_, _, rfl, oS_nil _ _, oW_nil _ _, below_step (((HB1.out.set (Nat.le_refl _) _ _).set (Nat.le_refl _) _ _).1) HB0.out⟩
end Go.Proofs.Ytifcgimpgbeocaa
