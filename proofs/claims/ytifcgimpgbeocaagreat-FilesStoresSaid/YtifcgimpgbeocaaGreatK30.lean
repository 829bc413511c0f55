/- The reference's Apply. -/
import Derived.Test.YtifcgimpgbeocaaGreatK23
import Derived.Test.YtifcgimpgbeocaaGreatK27
import Derived.Test.YtifcgimpgbeocaaGreatK28
import Derived.Test.YtifcgimpgbeocaaGreatK29
set_option linter.unusedVariables false
set_option linter.unusedSimpArgs false
namespace Go.Proofs.YtifcgimpgbeocaaGreat
open Go.RowKit
attribute [local go_sem] Oper.semAt_some
theorem retA_out {w w' : World} {u : Value} {A : Ds × Int} (hO : OR w' w.heap.size u A.1) (hB : Below w.heap.size w w') (hbad : A.2 ≠ 0 → A.1 = []) : RetA (outA A.1 ([], []) A.2).1 (outA A.1 ([], []) A.2).2.1 (outA A.1 ([], []) A.2).2.2 w (.returned (.tuple #[u, .agg #[strV [], strV []], .int .i64 A.2])) w' := by
  unfold outA
  split
  · rename_i h; rw [h]; exact ⟨u, rfl, hO, hB⟩
  · rename_i h; rw [hbad h] at hO; exact ⟨u, rfl, hO, hB⟩
set_option maxHeartbeats 4000000 in
set_option maxRecDepth 100000 in
theorem rapply_any (d : Ds) (v : Value) (o : FOp) (w : World) (hR : RdR w v d) : Calls Tryz.prog 52 #[v, opV o] w (RetA (applyD d o).1 (applyD d o).2.1 (applyD d o).2.2 w) := by
  have HIS := hid (fun w => rvalid_any o w)
  have HC := hid (fun w' (hb : Below w.heap.size w w') => rcheck_any d v w' (hR.below hb))
  obtain ⟨k, f, a, s⟩ := o
  have hB0 := ((Below.refl w.heap.size w).alloc (Nat.le_refl _) (.cells #[.int .i64 k, .int .i64 f, strV a, strV s] 55)).alloc (by rw [World.size_alloc]; omega) (.cells #[strV [], strV []] 59)
  have HB0 := hid hB0
  have hx0 := Lib.cell?_alloc_some (.cells #[strV [], strV []] 59) (cell_new w #[.int .i64 k, .int .i64 f, strV a, strV s] 55 0 (.int .i64 k) rfl)
  have hx1 := Lib.cell?_alloc_some (.cells #[strV [], strV []] 59) (cell_new w #[.int .i64 k, .int .i64 f, strV a, strV s] 55 1 (.int .i64 f) rfl)
  have hx2 := Lib.cell?_alloc_some (.cells #[strV [], strV []] 59) (cell_new w #[.int .i64 k, .int .i64 f, strV a, strV s] 55 2 (strV a) rfl)
  have hx3 := Lib.cell?_alloc_some (.cells #[strV [], strV []] 59) (cell_new w #[.int .i64 k, .int .i64 f, strV a, strV s] 55 3 (strV s) rfl)
  have hy0 := ownc_new (w.alloc (.cells #[.int .i64 k, .int .i64 f, strV a, strV s] 55)) #[strV [], strV []] 59 0 (by decide)
  have hy1 := ownc_new (w.alloc (.cells #[.int .i64 k, .int .i64 f, strV a, strV s] 55)) #[strV [], strV []] 59 1 (by decide)
  rw [World.size_alloc] at hy0 hy1
  have HX0 := hid hx0; have HX1 := hid hx1; have HX2 := hid hx2; have HX3 := hid hx3; have HZ0 := hid hy0; have HZ1 := hid hy1
  clear hB0 hx0 hx1 hx2 hx3 hy0 hy1
  cases hd : isDs d with
  | false =>
    rw [hd] at HC
    have hr : applyD d (k, f, a, s) = ([], ([], []), 140) := by unfold applyD; rw [hd]; rfl
    rw [hr]
    have HC2 : Hid (∀ w', Below w.heap.size w w' → Calls Tryz.prog 90 #[v] w' (Ret (.int .i64 140) w')) := HC.out
    clear HC hd hr hR HIS
    go_enter Tryz.func52, Tryz.ntmps52
    go_wp2_with fail
    refine (HC2.out _ HB0.out).mono ?_
    rintro e w1 ⟨rfl, hb1⟩
    have HB1 := hid (below_step hb1 HB0.out)
    have HY0 := hid (keepOwn hb1 HZ0.out)
    have HY1 := hid (keepOwn hb1 HZ1.out)
    clear hb1
    obtain ⟨⟨u0, y0⟩, f0⟩ := HY0.out
    obtain ⟨⟨u1, y1⟩, f1⟩ := HY1.out
    have hz := HB1.out.size
    go_wp2_with fail
    exact bodyPost_ret (v := .tuple #[.slice none 0 0, .agg #[strV [], strV []], .int .i64 140]) (by simp [results, Tryz.results52, go_sem, y0, y1, hz]) rfl ⟨_, rfl, oR_nil _ _, (HB1.out.setCell (by simp only; omega) _).setCell (by simp only; omega) _⟩
  | true =>
    rw [hd] at HC
    have HC2 : Hid (∀ w', Below w.heap.size w w' → Calls Tryz.prog 90 #[v] w' (Ret (.int .i64 0) w')) := HC.out
    cases ho : isOp (k, f, a, s) with
    | false =>
      rw [ho] at HIS
      have hr : applyD d (k, f, a, s) = ([], ([], []), 1) := by unfold applyD; rw [hd, ho]; rfl
      rw [hr]
      clear HC hd hr hR ho
      go_enter Tryz.func52, Tryz.ntmps52
      go_wp2_with fail
      refine (HC2.out _ HB0.out).mono ?_
      rintro e w1 ⟨rfl, hb1⟩
      have HB1 := hid (below_step hb1 HB0.out)
      have HY0 := hid (keepOwn hb1 HZ0.out)
      have HY1 := hid (keepOwn hb1 HZ1.out)
      have x0 := keepc hb1 HX0.out
      have x1 := keepc hb1 HX1.out
      have x2 := keepc hb1 HX2.out
      have x3 := keepc hb1 HX3.out
      clear hb1
      go_wp2_with fail
      refine (HIS.out _).mono ?_
      rintro e w2 ⟨rfl, hb2⟩
      have HB2 := hid (below_step hb2 HB1.out)
      have HY0 := hid (keepOwn hb2 HY0.out)
      have HY1 := hid (keepOwn hb2 HY1.out)
      clear hb2
      obtain ⟨⟨u0, y0⟩, f0⟩ := HY0.out
      obtain ⟨⟨u1, y1⟩, f1⟩ := HY1.out
      have hz := HB2.out.size
      go_wp2_with fail
      exact bodyPost_ret (v := .tuple #[.slice none 0 0, .agg #[strV [], strV []], .int .i64 1]) (by simp [results, Tryz.results52, go_sem, y0, y1, hz]) rfl ⟨_, rfl, oR_nil _ _, (HB2.out.setCell (by simp only; omega) _).setCell (by simp only; omega) _⟩
    | true =>
      rw [ho] at HIS
      obtain ⟨k1, k2⟩ := isOp_kinds ho
      simp only at k1 k2
      obtain ⟨R, hRR⟩ : ∃ R, applyD d (k, f, a, s) = R := ⟨_, rfl⟩
      rw [hRR]
      have HS1 := hid (fun (h : k = 1) => (applyD_1 (o := (k, f, a, s)) hd ho h).symm.trans hRR)
      have HS2 := hid (fun (h : k = 2) => (applyD_2 (o := (k, f, a, s)) hd ho h).symm.trans hRR)
      have HS3 := hid (fun (h : k = 3) => (applyD_3 (o := (k, f, a, s)) hd ho h).symm.trans hRR)
      have HS4 := hid (fun (h : k = 4) => (applyD_4 (o := (k, f, a, s)) hd ho h).symm.trans hRR)
      have HS5 := hid (fun (h : k = 5) => (applyD_5 (o := (k, f, a, s)) hd ho h).symm.trans hRR)
      have HW3 := hid (fun w' (hb : Below w.heap.size w w') => rwrite_any d v (a, s) w' (hR.below hb))
      have HW4 := hid (fun w' (hb : Below w.heap.size w w') => rrewrite_any d v (a, s) w' (hR.below hb))
      have HW5 := hid (fun w' (hb : Below w.heap.size w w') => rdelete_any d v a w' (hR.below hb))
      have HW2 := hid (fun w' (hb : Below w.heap.size w w') => rnext_any d v a w' (hR.below hb))
      have HW1 := hid (fun w' (hb : Below w.heap.size w w') => rread_any d v a w' (hR.below hb))
      have hwe := without_empty hd
      have HWO := hid (fun w' (hb : Below w.heap.size w w') => rwithout_any d v [] w' (hR.below hb) (isDs_len hd))
      rw [hwe] at HWO
      clear HC hd ho hRR hR hwe
      go_enter Tryz.func52, Tryz.ntmps52
      go_wp2_with fail
      refine (HC2.out _ HB0.out).mono ?_
      rintro e w1 ⟨rfl, hb1⟩
      have HB1 := hid (below_step hb1 HB0.out)
      have HP0 := hid (keepOwn hb1 HZ0.out)
      have HP1 := hid (keepOwn hb1 HZ1.out)
      have x0 := keepc hb1 HX0.out
      have x1 := keepc hb1 HX1.out
      have x2 := keepc hb1 HX2.out
      have x3 := keepc hb1 HX3.out
      clear hb1
      go_wp2_with fail
      refine (HIS.out _).mono ?_
      rintro e w2 ⟨rfl, hb2⟩
      have HB2 := hid (below_step hb2 HB1.out)
      have p0 := keepc hb2 x0
      have p2 := keepc hb2 x2
      have p3 := keepc hb2 x3
      have hy2 : w.heap.size + 1 < w2.heap.size := by
        obtain ⟨⟨u0, y0⟩, -⟩ := keepOwn hb2 HP0.out
        exact World.block_lt_of_cell? _ _ y0
      have q0 := Lib.cell?_alloc_some (.cells #[strV a, strV s] 59) p0
      have q2 := Lib.cell?_alloc_some (.cells #[strV a, strV s] 59) p2
      have q3 := Lib.cell?_alloc_some (.cells #[strV a, strV s] 59) p3
      have z0 : (w2.alloc (.cells #[strV a, strV s] 59)).cell? ⟨w2.heap.size, 0, none⟩ = some (strV a) := cell_new _ _ _ 0 _ rfl
      have z1 : (w2.alloc (.cells #[strV a, strV s] 59)).cell? ⟨w2.heap.size, 1, none⟩ = some (strV s) := cell_new _ _ _ 1 _ rfl
      have HQ0 := hid (keepOwn ((Below.refl w2.heap.size w2).alloc (Nat.le_refl _) (.cells #[strV a, strV s] 59)) (keepOwn hb2 HP0.out))
      have HQ1 := hid (keepOwn ((Below.refl w2.heap.size w2).alloc (Nat.le_refl _) (.cells #[strV a, strV s] 59)) (keepOwn hb2 HP1.out))
      have HB3 := hid (HB2.out.alloc HB2.out.size (.cells #[strV a, strV s] 59))
      have hz3 : w.heap.size + 2 ≤ (w2.alloc (.cells #[strV a, strV s] 59)).heap.size := by rw [World.size_alloc]; omega
      clear hb2 x0 x1 x2 x3 HP0 HP1 HX0 HX1 HX2 HX3 HZ0 HZ1
      by_cases c3 : k = 3
      · subst c3
        have HS := hid (HS3.out rfl)
        clear HS1 HS2 HS3 HS4 HS5
        go_wp2_with fail
        refine (HW3.out _ HB3.out).mono ?_
        rintro e w5 ⟨u5, rfl, ho5, hb5⟩
        have HY0 := hid (keepOwn hb5 HQ0.out)
        have HY1 := hid (keepOwn hb5 HQ1.out)
        have HO5 := hid (ho5.mono (B' := w.heap.size + 2) hz3)
        have HB5 := hid (below_step hb5 HB3.out)
        clear hb5 ho5
        obtain ⟨⟨u0, y0⟩, f0⟩ := HY0.out
        obtain ⟨⟨u1, y1⟩, f1⟩ := HY1.out
        have hz := HB5.out.size
        have hOa : OR ((w5.setCell ⟨w.heap.size + 1, 0, none⟩ (strV [])).setCell ⟨w.heap.size + 1, 1, none⟩ (strV [])) (w.heap.size + 2) u5 _ := ownsRow_setCell_below (ownsRow_setCell_below HO5.out (a := ⟨w.heap.size + 1, 0, none⟩) (by simp only; omega) (strV [])) (a := ⟨w.heap.size + 1, 1, none⟩) (by simp only; omega) (strV [])
        have HOa := hid (hOa.mono (B' := w.heap.size) (by omega))
        clear hOa
        go_wp2_with fail
        rw [← HS.out]
        exact bodyPost_ret (v := .tuple #[u5, .agg #[strV [], strV []], .int .i64 (writeD d (a, s)).2]) (by simp [results, Tryz.results52, go_sem, y0, y1, hz]) rfl (retA_out HOa.out ((HB5.out.setCell (by simp only; omega) _).setCell (by simp only; omega) _) writeD_bad)
      by_cases c4 : k = 4
      · subst c4
        have HS := hid (HS4.out rfl)
        clear HS1 HS2 HS3 HS4 HS5
        go_wp2_with fail
        refine (HW4.out _ HB3.out).mono ?_
        rintro e w5 ⟨u5, rfl, ho5, hb5⟩
        have HY0 := hid (keepOwn hb5 HQ0.out)
        have HY1 := hid (keepOwn hb5 HQ1.out)
        have HO5 := hid (ho5.mono (B' := w.heap.size + 2) hz3)
        have HB5 := hid (below_step hb5 HB3.out)
        clear hb5 ho5
        obtain ⟨⟨u0, y0⟩, f0⟩ := HY0.out
        obtain ⟨⟨u1, y1⟩, f1⟩ := HY1.out
        have hz := HB5.out.size
        have hOa : OR ((w5.setCell ⟨w.heap.size + 1, 0, none⟩ (strV [])).setCell ⟨w.heap.size + 1, 1, none⟩ (strV [])) (w.heap.size + 2) u5 _ := ownsRow_setCell_below (ownsRow_setCell_below HO5.out (a := ⟨w.heap.size + 1, 0, none⟩) (by simp only; omega) (strV [])) (a := ⟨w.heap.size + 1, 1, none⟩) (by simp only; omega) (strV [])
        have HOa := hid (hOa.mono (B' := w.heap.size) (by omega))
        clear hOa
        go_wp2_with fail
        rw [← HS.out]
        exact bodyPost_ret (v := .tuple #[u5, .agg #[strV [], strV []], .int .i64 (rewriteD d (a, s)).2]) (by simp [results, Tryz.results52, go_sem, y0, y1, hz]) rfl (retA_out HOa.out ((HB5.out.setCell (by simp only; omega) _).setCell (by simp only; omega) _) rewriteD_bad)
      by_cases c5 : k = 5
      · subst c5
        have HS := hid (HS5.out rfl)
        clear HS1 HS2 HS3 HS4 HS5
        go_wp2_with fail
        refine (HW5.out _ HB3.out).mono ?_
        rintro e w5 ⟨u5, rfl, ho5, hb5⟩
        have HY0 := hid (keepOwn hb5 HQ0.out)
        have HY1 := hid (keepOwn hb5 HQ1.out)
        have HO5 := hid (ho5.mono (B' := w.heap.size + 2) hz3)
        have HB5 := hid (below_step hb5 HB3.out)
        clear hb5 ho5
        obtain ⟨⟨u0, y0⟩, f0⟩ := HY0.out
        obtain ⟨⟨u1, y1⟩, f1⟩ := HY1.out
        have hz := HB5.out.size
        have hOa : OR ((w5.setCell ⟨w.heap.size + 1, 0, none⟩ (strV [])).setCell ⟨w.heap.size + 1, 1, none⟩ (strV [])) (w.heap.size + 2) u5 _ := ownsRow_setCell_below (ownsRow_setCell_below HO5.out (a := ⟨w.heap.size + 1, 0, none⟩) (by simp only; omega) (strV [])) (a := ⟨w.heap.size + 1, 1, none⟩) (by simp only; omega) (strV [])
        have HOa := hid (hOa.mono (B' := w.heap.size) (by omega))
        clear hOa
        go_wp2_with fail
        rw [← HS.out]
        exact bodyPost_ret (v := .tuple #[u5, .agg #[strV [], strV []], .int .i64 (deleteD d a).2]) (by simp [results, Tryz.results52, go_sem, y0, y1, hz]) rfl (retA_out HOa.out ((HB5.out.setCell (by simp only; omega) _).setCell (by simp only; omega) _) deleteD_bad)
      by_cases c2 : k = 2
      · subst c2
        have HS := hid (HS2.out rfl)
        clear HS1 HS2 HS3 HS4 HS5 HW3 HW4 HW5 HW1 
        obtain ⟨N, hN⟩ : ∃ N, nextD d a = N := ⟨_, rfl⟩
        rw [hN] at HS HW2
        clear hN
        obtain ⟨⟨nk, nd⟩, E⟩ := N
        go_wp2_with fail
        refine (HW2.out _ HB3.out).mono ?_
        rintro e w5 ⟨rfl, hb5⟩
        have HY0 := hid (keepOwn hb5 HQ0.out)
        have HY1 := hid (keepOwn hb5 HQ1.out)
        have HB5 := hid (below_step hb5 HB3.out)
        have HV0 := hid HY0.out
        have HV1 := hid HY1.out
        have hy5 : w.heap.size + 1 < w5.heap.size := by
          obtain ⟨⟨u0, y0⟩, -⟩ := HY0.out
          exact World.block_lt_of_cell? _ _ y0
        have hz5 : w.heap.size + 2 ≤ (w5.alloc (.cells #[strV nk, strV nd] 59)).heap.size := by rw [World.size_alloc]; omega
        have HB6 := hid (HB5.out.alloc HB5.out.size (.cells #[strV nk, strV nd] 59))
        have HY0 := hid (keepOwn ((Below.refl w5.heap.size w5).alloc (Nat.le_refl _) (.cells #[strV nk, strV nd] 59)) HY0.out)
        have HY1 := hid (keepOwn ((Below.refl w5.heap.size w5).alloc (Nat.le_refl _) (.cells #[strV nk, strV nd] 59)) HY1.out)
        have n0 : (w5.alloc (.cells #[strV nk, strV nd] 59)).cell? ⟨w5.heap.size, 0, none⟩ = some (strV nk) := cell_new _ _ _ 0 _ rfl
        have n1 : (w5.alloc (.cells #[strV nk, strV nd] 59)).cell? ⟨w5.heap.size, 1, none⟩ = some (strV nd) := cell_new _ _ _ 1 _ rfl
        clear hb5 HB3 HQ0 HQ1 hz3 q0 q2
        by_cases hE : E = 0
        · subst hE
          have hR : R = (d, (nk, nd), 0) := HS.out.symm
          subst hR
          clear HS
          go_wp2_with fail
          have HD := hid HB6.out.drew
          go_region_with (first
            | (go_at_call 95; refine (HWO.out _ HD.out).mono ?_; rintro e w7 ⟨u7, rfl, ho7, hb7⟩; have n0 : w7.cell? ⟨w5.heap.size, 0, none⟩ = some (strV nk) := keepc hb7 n0; have n1 : w7.cell? ⟨w5.heap.size, 1, none⟩ = some (strV nd) := keepc hb7 n1; have HB7 := hid (below_step hb7 HD.out); obtain ⟨⟨u0, y0⟩, f0⟩ := keepOwn hb7 HY0.out; obtain ⟨⟨u1, y1⟩, f1⟩ := keepOwn hb7 HY1.out; have HO7 := hid (ho7.mono (B' := w.heap.size + 2) hz5); clear hb7 ho7))
          all_goals
            have hz := HB7.out.size
            have hOa : OR ((w7.setCell ⟨w.heap.size + 1, 0, none⟩ (strV nk)).setCell ⟨w.heap.size + 1, 1, none⟩ (strV nd)) (w.heap.size + 2) u7 _ := ownsRow_setCell_below (ownsRow_setCell_below HO7.out (a := ⟨w.heap.size + 1, 0, none⟩) (by simp only; omega) (strV nk)) (a := ⟨w.heap.size + 1, 1, none⟩) (by simp only; omega) (strV nd)
            have HOa := hid (hOa.mono (B' := w.heap.size) (by omega))
            clear hOa
            go_wp2_with fail
            exact bodyPost_ret (v := .tuple #[u7, .agg #[strV nk, strV nd], .int .i64 0]) (by simp [results, Tryz.results52, go_sem, y0, y1, hz]) rfl ⟨_, rfl, HOa.out, ((HB7.out.setCell (by simp only; omega) _).setCell (by simp only; omega) _)⟩
        · have hR : R = ([], ([], []), E) := by rw [← HS.out]; exact if_neg hE
          subst hR
          have g1 : (E != 0) = true := by simpa using hE
          have g2 : (E == 0) = false := by simpa using hE
          clear HS
          obtain ⟨⟨u0, y0⟩, f0⟩ := HY0.out
          obtain ⟨⟨u1, y1⟩, f1⟩ := HY1.out
          obtain ⟨⟨e0, b0⟩, l0⟩ := HV0.out
          obtain ⟨⟨e1, b1⟩, l1⟩ := HV1.out
          have hz := HB6.out.size
          go_wp2_with fail
          have r0 := Lib.cell?_alloc_some (.cells #[strV nk, strV nd] 59) (show ((w5.setCell ⟨w.heap.size + 1, 0, none⟩ (strV [])).setCell ⟨w.heap.size + 1, 1, none⟩ (strV [])).cell? ⟨w.heap.size + 1, 0, none⟩ = some (strV []) by simp [go_sem, b0, b1])
          have r1 := Lib.cell?_alloc_some (.cells #[strV nk, strV nd] 59) (show ((w5.setCell ⟨w.heap.size + 1, 0, none⟩ (strV [])).setCell ⟨w.heap.size + 1, 1, none⟩ (strV [])).cell? ⟨w.heap.size + 1, 1, none⟩ = some (strV []) by simp [go_sem, b0, b1])
          simp only [strV] at r0 r1
          exact bodyPost_ret (v := .tuple #[.slice none 0 0, .agg #[strV [], strV []], .int .i64 E]) (by simp [results, Tryz.results52, go_sem, strV, r0, r1, hz]) rfl ⟨_, rfl, oR_nil _ _, (((HB5.out.setCell (p := ⟨w.heap.size + 1, 0, none⟩) (by simp only; omega) (strV [])).setCell (p := ⟨w.heap.size + 1, 1, none⟩) (by simp only; omega) (strV [])).alloc (by rw [World.size_setCell, World.size_setCell]; omega) _)⟩
      have c1 : k = 1 := by omega
      subst c1
      have HS := hid (HS1.out rfl)
      clear HS1 HS2 HS3 HS4 HS5 HW3 HW4 HW5 HW2
      obtain ⟨N, hN⟩ : ∃ N, readD d a = N := ⟨_, rfl⟩
      rw [hN] at HS HW1
      clear hN
      obtain ⟨nd, E⟩ := N
      go_wp2_with fail
      refine (HW1.out _ HB3.out).mono ?_
      rintro e w5 ⟨rfl, hb5⟩
      have HY0 := hid (keepOwn hb5 HQ0.out)
      have HY1 := hid (keepOwn hb5 HQ1.out)
      have HB5 := hid (below_step hb5 HB3.out)
      have q2 := keepc hb5 q2
      have hz5 : w.heap.size + 2 ≤ w5.heap.size := by
        obtain ⟨⟨u0, y0⟩, -⟩ := HY0.out
        exact World.block_lt_of_cell? _ _ y0
      clear hb5 HB3 HQ0 HQ1 hz3 q0
      by_cases hE : E = 0
      · subst hE
        have hR : R = (d, (a, nd), 0) := HS.out.symm
        subst hR
        clear HS
        go_wp2_with fail
        have HD := hid HB5.out.drew
        go_region_with (first
          | (go_at_call 95; refine (HWO.out _ HD.out).mono ?_; rintro e w7 ⟨u7, rfl, ho7, hb7⟩; have q2 : w7.cell? ⟨w.heap.size, 2, none⟩ = some (strV a) := keepc hb7 q2; have HB7 := hid (below_step hb7 HD.out); obtain ⟨⟨u0, y0⟩, f0⟩ := keepOwn hb7 HY0.out; obtain ⟨⟨u1, y1⟩, f1⟩ := keepOwn hb7 HY1.out; have HO7 := hid (ho7.mono (B' := w.heap.size + 2) hz5); clear hb7 ho7))
        all_goals
          have hz := HB7.out.size
          have hOa : OR ((w7.setCell ⟨w.heap.size + 1, 0, none⟩ (strV a)).setCell ⟨w.heap.size + 1, 1, none⟩ (strV nd)) (w.heap.size + 2) u7 _ := ownsRow_setCell_below (ownsRow_setCell_below HO7.out (a := ⟨w.heap.size + 1, 0, none⟩) (by simp only; omega) (strV a)) (a := ⟨w.heap.size + 1, 1, none⟩) (by simp only; omega) (strV nd)
          have HOa := hid (hOa.mono (B' := w.heap.size) (by omega))
          clear hOa
          go_wp2_with fail
          exact bodyPost_ret (v := .tuple #[u7, .agg #[strV a, strV nd], .int .i64 0]) (by simp [results, Tryz.results52, go_sem, y0, y1, hz]) rfl ⟨_, rfl, HOa.out, ((HB7.out.setCell (by simp only; omega) _).setCell (by simp only; omega) _)⟩
      · have hR : R = ([], ([], []), E) := by rw [← HS.out]; exact if_neg hE
        subst hR
        have g1 : (E != 0) = true := by simpa using hE
        have g2 : (E == 0) = false := by simpa using hE
        clear HS
        obtain ⟨⟨u0, y0⟩, f0⟩ := HY0.out
        obtain ⟨⟨u1, y1⟩, f1⟩ := HY1.out
        have hz := HB5.out.size
        go_wp2_with fail
        exact bodyPost_ret (v := .tuple #[.slice none 0 0, .agg #[strV [], strV []], .int .i64 E]) (by simp [results, Tryz.results52, go_sem, y0, y1, hz]) rfl ⟨_, rfl, oR_nil _ _, ((HB5.out.setCell (by simp only; omega) _).setCell (by simp only; omega) _)⟩
end Go.Proofs.YtifcgimpgbeocaaGreat
