/- The law FilesChanges, walked. -/
import Derived.Test.YtifcgimpgbeocaaMC1
import Derived.Test.YtifcgimpgbeocaaK29
import Derived.Test.YtifcgimpgbeocaaK31
set_option linter.unusedVariables false
set_option linter.unusedSimpArgs false
namespace Go.Proofs.Ytifcgimpgbeocaa
open Go.RowKit
attribute [local go_sem] Oper.semAt_some
theorem isDs_max {d : Ds} (h : isDs d = true) : d.length ≤ maxLen := by have := isDs_len h; unfold maxLen; omega
theorem writeD_ds (d : Ds) (r : Rec) : isDs (writeD d r).1 = true := by
  by_cases hd : isDs d = true
  · have e : applyD d (3, 0, r.1, r.2) = ((writeD d r).1, ([], []), (writeD d r).2) ∨ isOp (3, 0, r.1, r.2) = false := by
      unfold applyD
      rw [if_pos hd]
      by_cases ho : isOp (3, 0, r.1, r.2) = true
      · rw [if_pos ho]; exact .inl (by simp)
      · exact .inr (by simpa using ho)
    by_cases h0 : (writeD d r).2 = 0
    · rcases e with e | e
      · have := apply_isDs hd (o := (3, 0, r.1, r.2)) (by rw [e]; exact h0)
        rw [e] at this; exact this
      · exfalso
        unfold writeD at h0
        rw [if_pos hd] at h0
        split at h0
        · rename_i hr
          have := (isOp_write (i := 0) (by decide) hr).1
          have e2 : isOp (3, ((0 : Nat) : Int), r.1, r.2) = isOp (3, 0, r.1, r.2) := rfl
          rw [e2, e] at this; cases this
        · simp at h0
    · unfold writeD at h0 ⊢
      rw [if_pos hd] at h0 ⊢
      split
      · rename_i hr
        rw [if_pos hr] at h0
        split
        · rfl
        · rename_i hh
          rw [if_neg hh] at h0
          split
          · rfl
          · rename_i hl
            rw [if_neg hl] at h0
            exact absurd rfl h0
      · rfl
  · unfold writeD
    rw [if_neg hd]
    rfl
theorem rewriteD_ds (d : Ds) (r : Rec) : isDs (rewriteD d r).1 = true := by
  unfold rewriteD
  split
  · rename_i hd
    split
    · rename_i hr
      split
      · rename_i hh
        exact set_isDs hd hr hh
      · rfl
    · rfl
  · rfl
theorem deleteD_ds (d : Ds) (k : Bs) : isDs (deleteD d k).1 = true := by
  unfold deleteD
  split
  · rename_i hd
    split
    · split
      · exact erase_isDs hd _
      · rfl
    · rfl
  · rfl
theorem applyD_ds (d : Ds) (o : FOp) : isDs (applyD d o).1 = true := by
  unfold applyD
  split
  · rename_i hd
    split
    · split
      · split
        · exact hd
        · rfl
      · split
        · split
          · exact hd
          · rfl
        · split
          · exact writeD_ds d _
          · split
            · exact rewriteD_ds d _
            · exact deleteD_ds d _
    · rfl
  · rfl
set_option maxHeartbeats 4000000 in
set_option maxRecDepth 100000 in
theorem changes_law (d : Ds) (v : Value) (k tq : Bs) (r : Rec) (o : FOp) (w : World) (hR : RdR w v d) : Calls Try.prog 5 #[.agg #[v, strV k, strV tq, strV r.1, strV r.2, .int .i64 o.1, .int .i64 o.2.1, strV o.2.2.1, strV o.2.2.2]] w (Ret (.bool true) w) := by
  have HS := hid (fun w' => sane_any w')
  have H0 := hid (fun w' (hb : Below w.heap.size w w') => write_any d v r w' (hR.below hb))
  have H1 := hid (fun w' (hb : Below w.heap.size w w') => rwrite_any d v r w' (hR.below hb))
  have H2 := hid (fun w' (hb : Below w.heap.size w w') => rewrite_any d v r w' (hR.below hb))
  have H3 := hid (fun w' (hb : Below w.heap.size w w') => rrewrite_any d v r w' (hR.below hb))
  have H4 := hid (fun w' (hb : Below w.heap.size w w') => delete_any d v k w' (hR.below hb))
  have H5 := hid (fun w' (hb : Below w.heap.size w w') => rdelete_any d v k w' (hR.below hb))
  have H6 := hid (fun w' (hb : Below w.heap.size w w') => apply_any d v o w' (hR.below hb))
  have H7 := hid (fun w' (hb : Below w.heap.size w w') => rapply_any d v o w' (hR.below hb))
  have L1 := hid (isDs_max (writeD_ds d r))
  have L2 := hid (isDs_max (rewriteD_ds d r))
  have L3 := hid (isDs_max (deleteD_ds d k))
  have L4 := hid (isDs_max (applyD_ds d o))
  generalize writeD d r = R1 at *
  generalize rewriteD d r = R2 at *
  generalize deleteD d k = R3 at *
  generalize applyD d o = R4 at *
  obtain ⟨l1, e1⟩ := R1
  obtain ⟨l2, e2⟩ := R2
  obtain ⟨l3, e3⟩ := R3
  obtain ⟨l4, x4, e4⟩ := R4
  simp only at H0 H1 H2 H3 H4 H5 H6 H7 L1 L2 L3 L4
  obtain ⟨oo, cap, rfl, -, -⟩ := hR
  generalize d.length = N at *
  obtain ⟨r1, r2⟩ := r
  obtain ⟨o1, o2, o3, o4⟩ := o
  obtain ⟨W, hW⟩ : ∃ W, W = w.alloc (.cells #[.slice oo N cap, strV k, strV tq, strV r1, strV r2, .int .i64 o1, .int .i64 o2, strV o3, strV o4] 71) := ⟨_, rfl⟩
  have HBW : Hid (Below w.heap.size w W) := by rw [hW]; exact balloc (Below.refl _ _) _
  have KK : Hid (∀ j u, #[.slice oo N cap, strV k, strV tq, strV r1, strV r2, .int .i64 o1, .int .i64 o2, strV o3, strV o4][j]? = some u → W.cell? ⟨w.heap.size, j, none⟩ = some u) := fun j u hj => by rw [hW]; exact cell_new _ _ _ j _ hj
  have hn := run_neqR
  have HW := hid hW
  clear hW
  go_enter Try.func5, Try.ntmps5
  go_upto_region 1 with fail
  have e := HW.out
  simp only [← e]
  clear e HW
  go_wp2_with fail
  refine (HS.out _).mono ?_
  rintro e w1 ⟨rfl, hb1⟩
  have KK : Hid (∀ j u, #[.slice oo N cap, strV k, strV tq, strV r1, strV r2, .int .i64 o1, .int .i64 o2, strV o3, strV o4][j]? = some u → w1.cell? ⟨w.heap.size, j, none⟩ = some u) := fun j u hj => keepc hb1 (KK.out j u hj)
  have HT1 : Hid (Below w.heap.size w w1) := below_step hb1 HBW.out
  clear hb1
  have c0 := KK.out 0 _ rfl
  have c3 := KK.out 3 _ rfl
  have c4 := KK.out 4 _ rfl
  go_wp2_with fail
  refine (H0.out _ HT1.out).mono ?_
  rintro e w2 ⟨v0, rfl, ho, hb⟩
  have O0 := hid ho
  obtain ⟨p0, q0, rfl, -, -⟩ := ho.rd
  have KK : Hid (∀ j u, #[.slice oo N cap, strV k, strV tq, strV r1, strV r2, .int .i64 o1, .int .i64 o2, strV o3, strV o4][j]? = some u → w2.cell? ⟨w.heap.size, j, none⟩ = some u) := fun j u hj => keepc hb (KK.out j u hj)
  have HT2 := hid (below_step hb HT1.out)
  clear hb ho c0 c3 c4
  have c0 := KK.out 0 _ rfl
  have c3 := KK.out 3 _ rfl
  have c4 := KK.out 4 _ rfl
  go_wp2_with fail
  refine (H1.out _ HT2.out).mono ?_
  rintro e w3 ⟨v1, rfl, ho, hb⟩
  have O1 := hid ho
  obtain ⟨p1, q1, rfl, -, -⟩ := ho.rd
  have KK : Hid (∀ j u, #[.slice oo N cap, strV k, strV tq, strV r1, strV r2, .int .i64 o1, .int .i64 o2, strV o3, strV o4][j]? = some u → w3.cell? ⟨w.heap.size, j, none⟩ = some u) := fun j u hj => keepc hb (KK.out j u hj)
  have HT3 := hid (below_step hb HT2.out)
  have O0 := hid (O0.out.below hb)
  clear hb ho c0 c3 c4
  have c0 := KK.out 0 _ rfl
  have c3 := KK.out 3 _ rfl
  have c4 := KK.out 4 _ rfl
  go_wp2_with fail
  refine (H2.out _ HT3.out).mono ?_
  rintro e w4 ⟨v2, rfl, ho, hb⟩
  have O2 := hid ho
  obtain ⟨p2, q2, rfl, -, -⟩ := ho.rd
  have KK : Hid (∀ j u, #[.slice oo N cap, strV k, strV tq, strV r1, strV r2, .int .i64 o1, .int .i64 o2, strV o3, strV o4][j]? = some u → w4.cell? ⟨w.heap.size, j, none⟩ = some u) := fun j u hj => keepc hb (KK.out j u hj)
  have HT4 := hid (below_step hb HT3.out)
  have O0 := hid (O0.out.below hb)
  have O1 := hid (O1.out.below hb)
  clear hb ho c0 c3 c4
  have c0 := KK.out 0 _ rfl
  have c3 := KK.out 3 _ rfl
  have c4 := KK.out 4 _ rfl
  go_wp2_with fail
  refine (H3.out _ HT4.out).mono ?_
  rintro e w5 ⟨v3, rfl, ho, hb⟩
  have O3 := hid ho
  obtain ⟨p3, q3, rfl, -, -⟩ := ho.rd
  have KK : Hid (∀ j u, #[.slice oo N cap, strV k, strV tq, strV r1, strV r2, .int .i64 o1, .int .i64 o2, strV o3, strV o4][j]? = some u → w5.cell? ⟨w.heap.size, j, none⟩ = some u) := fun j u hj => keepc hb (KK.out j u hj)
  have HT5 := hid (below_step hb HT4.out)
  have O0 := hid (O0.out.below hb)
  have O1 := hid (O1.out.below hb)
  have O2 := hid (O2.out.below hb)
  clear hb ho c0 c3 c4
  have c0 := KK.out 0 _ rfl
  have c1 := KK.out 1 _ rfl
  go_wp2_with fail
  refine (H4.out _ HT5.out).mono ?_
  rintro e w6 ⟨v4, rfl, ho, hb⟩
  have O4 := hid ho
  obtain ⟨p4, q4, rfl, -, -⟩ := ho.rd
  have KK : Hid (∀ j u, #[.slice oo N cap, strV k, strV tq, strV r1, strV r2, .int .i64 o1, .int .i64 o2, strV o3, strV o4][j]? = some u → w6.cell? ⟨w.heap.size, j, none⟩ = some u) := fun j u hj => keepc hb (KK.out j u hj)
  have HT6 := hid (below_step hb HT5.out)
  have O0 := hid (O0.out.below hb)
  have O1 := hid (O1.out.below hb)
  have O2 := hid (O2.out.below hb)
  have O3 := hid (O3.out.below hb)
  clear hb ho c0 c1
  have c0 := KK.out 0 _ rfl
  have c1 := KK.out 1 _ rfl
  go_wp2_with fail
  refine (H5.out _ HT6.out).mono ?_
  rintro e w7 ⟨v5, rfl, ho, hb⟩
  have O5 := hid ho
  obtain ⟨p5, q5, rfl, -, -⟩ := ho.rd
  have KK : Hid (∀ j u, #[.slice oo N cap, strV k, strV tq, strV r1, strV r2, .int .i64 o1, .int .i64 o2, strV o3, strV o4][j]? = some u → w7.cell? ⟨w.heap.size, j, none⟩ = some u) := fun j u hj => keepc hb (KK.out j u hj)
  have HT7 := hid (below_step hb HT6.out)
  have O0 := hid (O0.out.below hb)
  have O1 := hid (O1.out.below hb)
  have O2 := hid (O2.out.below hb)
  have O3 := hid (O3.out.below hb)
  have O4 := hid (O4.out.below hb)
  clear hb ho c0 c1
  have c0 := KK.out 0 _ rfl
  have c5 := KK.out 5 _ rfl
  have c6 := KK.out 6 _ rfl
  have c7 := KK.out 7 _ rfl
  have c8 := KK.out 8 _ rfl
  go_wp2_with fail
  refine (H6.out _ HT7.out).mono ?_
  rintro e w8 ⟨v6, rfl, ho, hb⟩
  have O6 := hid ho
  obtain ⟨p6, q6, rfl, -, -⟩ := ho.rd
  have KK : Hid (∀ j u, #[.slice oo N cap, strV k, strV tq, strV r1, strV r2, .int .i64 o1, .int .i64 o2, strV o3, strV o4][j]? = some u → w8.cell? ⟨w.heap.size, j, none⟩ = some u) := fun j u hj => keepc hb (KK.out j u hj)
  have HT8 := hid (below_step hb HT7.out)
  have O0 := hid (O0.out.below hb)
  have O1 := hid (O1.out.below hb)
  have O2 := hid (O2.out.below hb)
  have O3 := hid (O3.out.below hb)
  have O4 := hid (O4.out.below hb)
  have O5 := hid (O5.out.below hb)
  clear hb ho c0 c5 c6 c7 c8
  obtain ⟨x8, hx8⟩ : ∃ X, X = w8.alloc (.cells #[strV x4.1, strV x4.2] 59) := ⟨_, rfl⟩
  have hb : Below w8.heap.size w8 x8 := by rw [hx8]; exact balloc (Below.refl _ _) _
  have y0 : x8.cell? ⟨w8.heap.size, 0, none⟩ = some (strV x4.1) := by rw [hx8]; exact cell_new _ _ _ 0 _ rfl
  have y1 : x8.cell? ⟨w8.heap.size, 1, none⟩ = some (strV x4.2) := by rw [hx8]; exact cell_new _ _ _ 1 _ rfl
  have KK : Hid (∀ j u, #[.slice oo N cap, strV k, strV tq, strV r1, strV r2, .int .i64 o1, .int .i64 o2, strV o3, strV o4][j]? = some u → x8.cell? ⟨w.heap.size, j, none⟩ = some u) := fun j u hj => keepc hb (KK.out j u hj)
  have HT9 := hid (below_step hb HT8.out)
  have O0 := hid (O0.out.below hb)
  have O1 := hid (O1.out.below hb)
  have O2 := hid (O2.out.below hb)
  have O3 := hid (O3.out.below hb)
  have O4 := hid (O4.out.below hb)
  have O5 := hid (O5.out.below hb)
  have O6 := hid (O6.out.below hb)
  have HX := hid hx8
  clear hb hx8
  go_upto_region 10 with fail
  have e := HX.out
  simp only [← e]
  clear e HX
  have c0 := KK.out 0 _ rfl
  have c5 := KK.out 5 _ rfl
  have c6 := KK.out 6 _ rfl
  have c7 := KK.out 7 _ rfl
  have c8 := KK.out 8 _ rfl
  go_wp2_with fail
  refine (H7.out _ HT9.out).mono ?_
  rintro e w9 ⟨v7, rfl, ho, hb⟩
  have O7 := hid ho
  obtain ⟨p7, q7, rfl, -, -⟩ := ho.rd
  have KK : Hid (∀ j u, #[.slice oo N cap, strV k, strV tq, strV r1, strV r2, .int .i64 o1, .int .i64 o2, strV o3, strV o4][j]? = some u → w9.cell? ⟨w.heap.size, j, none⟩ = some u) := fun j u hj => keepc hb (KK.out j u hj)
  have HT10 := hid (below_step hb HT9.out)
  have O0 := hid (O0.out.below hb)
  have O1 := hid (O1.out.below hb)
  have O2 := hid (O2.out.below hb)
  have O3 := hid (O3.out.below hb)
  have O4 := hid (O4.out.below hb)
  have O5 := hid (O5.out.below hb)
  have O6 := hid (O6.out.below hb)
  have y0 := keepc hb y0; have y1 := keepc hb y1
  clear hb ho c0 c5 c6 c7 c8
  obtain ⟨x9, hx9⟩ : ∃ X, X = w9.alloc (.cells #[strV x4.1, strV x4.2] 59) := ⟨_, rfl⟩
  have hb : Below w9.heap.size w9 x9 := by rw [hx9]; exact balloc (Below.refl _ _) _
  have z0 : x9.cell? ⟨w9.heap.size, 0, none⟩ = some (strV x4.1) := by rw [hx9]; exact cell_new _ _ _ 0 _ rfl
  have z1 : x9.cell? ⟨w9.heap.size, 1, none⟩ = some (strV x4.2) := by rw [hx9]; exact cell_new _ _ _ 1 _ rfl
  have KK : Hid (∀ j u, #[.slice oo N cap, strV k, strV tq, strV r1, strV r2, .int .i64 o1, .int .i64 o2, strV o3, strV o4][j]? = some u → x9.cell? ⟨w.heap.size, j, none⟩ = some u) := fun j u hj => keepc hb (KK.out j u hj)
  have HT11 := hid (below_step hb HT10.out)
  have O0 := hid (O0.out.below hb)
  have O1 := hid (O1.out.below hb)
  have O2 := hid (O2.out.below hb)
  have O3 := hid (O3.out.below hb)
  have O4 := hid (O4.out.below hb)
  have O5 := hid (O5.out.below hb)
  have O6 := hid (O6.out.below hb)
  have O7 := hid (O7.out.below hb)
  have y0 := keepc hb y0; have y1 := keepc hb y1
  have HX := hid hx9
  clear hb hx9
  go_upto_region 11 with fail
  have e := HX.out
  simp only [← e]
  clear e HX
  have hqe := fun w => run_eqR x4 x4 w
  simp only [decide_true] at hqe
  have S0 := hid (fun w' (hb : Below x9.heap.size x9 w') => rsame_any l1 l1 _ _ w' (O0.out.rd.below hb) (O1.out.rd.below hb) L1.out)
  have S1 := hid (fun w' (hb : Below x9.heap.size x9 w') => rsame_any l2 l2 _ _ w' (O2.out.rd.below hb) (O3.out.rd.below hb) L2.out)
  have S2 := hid (fun w' (hb : Below x9.heap.size x9 w') => rsame_any l3 l3 _ _ w' (O4.out.rd.below hb) (O5.out.rd.below hb) L3.out)
  have S3 := hid (fun w' (hb : Below x9.heap.size x9 w') => rsame_any l4 l4 _ _ w' (O6.out.rd.below hb) (O7.out.rd.below hb) L4.out)
  clear O0 O1 O2 O3 O4 O5 O6 O7
  go_wp2_with fail
  refine (S0.out _ (Below.refl _ _)).mono ?_
  rintro e u0 ⟨rfl, hb⟩
  have HU0 : Hid (Below x9.heap.size x9 u0) := below_step hb (Below.refl _ _)
  have y0 := keepc hb y0; have y1 := keepc hb y1; have z0 := keepc hb z0; have z1 := keepc hb z1
  clear hb
  go_wp2_with fail
  refine (S1.out _ HU0.out).mono ?_
  rintro e u1 ⟨rfl, hb⟩
  have HU1 : Hid (Below x9.heap.size x9 u1) := below_step hb HU0.out
  have y0 := keepc hb y0; have y1 := keepc hb y1; have z0 := keepc hb z0; have z1 := keepc hb z1
  clear hb
  go_wp2_with fail
  refine (S2.out _ HU1.out).mono ?_
  rintro e u2 ⟨rfl, hb⟩
  have HU2 : Hid (Below x9.heap.size x9 u2) := below_step hb HU1.out
  have y0 := keepc hb y0; have y1 := keepc hb y1; have z0 := keepc hb z0; have z1 := keepc hb z1
  clear hb
  go_wp2_with fail
  refine (S3.out _ HU2.out).mono ?_
  rintro e u3 ⟨rfl, hb⟩
  have HU3 : Hid (Below x9.heap.size x9 u3) := below_step hb HU2.out
  have y0 := keepc hb y0; have y1 := keepc hb y1; have z0 := keepc hb z0; have z1 := keepc hb z1
  clear hb
  go_wp2_with fail
  go_ret
  exact ⟨rfl, below_step HU3.out HT11.out⟩
end Go.Proofs.Ytifcgimpgbeocaa
