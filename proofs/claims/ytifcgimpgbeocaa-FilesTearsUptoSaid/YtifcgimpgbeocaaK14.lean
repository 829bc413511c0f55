/- Rewrite. -/
import Derived.Test.YtifcgimpgbeocaaK13
import Derived.Test.YtifcgimpgbeocaaK12
import Derived.Test.YtifcgimpgbeocaaK6
import Derived.Test.YtifcgimpgbeocaaK7
import Derived.Test.YtifcgimpgbeocaaK11
import Derived.OwnWalkIn
import Derived.LoopIn
import Derived.TacticsInMore
import Derived.Shelf.Abstract
import Derived.Test.YtifcgimpgbeocaaK1
import Derived.Test.YtifcgimpgbeocaaK9
set_option linter.unusedVariables false
set_option linter.unusedSimpArgs false
namespace Go.Proofs.Ytifcgimpgbeocaa
open Go.RowKit
attribute [local go_sem] Oper.semAt_some
theorem encR_set (d : Ds) (i : Nat) (r x : Rec) (h : d[i]? = some x) : encR (d.set i r) = ((encR d).set (i * 2) (strV r.1)).set (i * 2 + 1) (strV r.2) := by
  obtain ⟨hi, rfl⟩ := List.getElem?_eq_some_iff.1 h
  have hd : d = d.take i ++ d[i] :: d.drop (i + 1) := by rw [← List.drop_eq_getElem_cons hi, List.take_append_drop]
  have hl : (encR (d.take i)).length = i * 2 := by rw [encR_length, List.length_take]; congr 1; omega
  have e1 : d.set i r = d.take i ++ r :: d.drop (i + 1) := by rw [List.set_eq_take_append_cons_drop, if_pos hi]
  have e2 : encR d = encR (d.take i) ++ (strV d[i].1 :: strV d[i].2 :: encR (d.drop (i + 1))) := by
    conv => lhs; rw [hd]
    rw [encR_append, encR_cons]
    rfl
  rw [e1, encR_append, encR_cons, e2, List.set_append_right _ _ (by omega), hl, Nat.sub_self, List.set_cons_zero, List.set_append_right _ _ (by omega), hl, show i * 2 + 1 - i * 2 = 0 + 1 by omega, List.set_cons_succ, List.set_cons_zero]
  rfl
theorem oR_stored {w : World} {B g n cap i : Nat} {d : Ds} {r : Rec} (hO : OR w B (.slice (some ⟨g, 0, none⟩) n cap) d) (hn : d.length = n) (hi : i < n) :
    OR ((w.setCell ⟨g, i * 2, none⟩ (strV r.1)).setCell ⟨g, i * 2 + 1, none⟩ (strV r.2)) B (.slice (some ⟨g, 0, none⟩) n cap) (d.set i r) ∧ w.grownBy ((w.setCell ⟨g, i * 2, none⟩ (strV r.1)).setCell ⟨g, i * 2 + 1, none⟩ (strV r.2)) (some g) := by
  unfold OR at hO
  rw [hn] at hO
  obtain ⟨h1, g1⟩ := hO.stored (i * 2) (strV r.1)
  obtain ⟨h2, g2⟩ := h1.stored (i * 2 + 1) (strV r.2)
  unfold OR
  rw [List.length_set, hn, encR_set d i r _ (List.getElem?_eq_getElem (by omega))]
  exact ⟨h2, grown_trans g1 g2⟩
set_option maxHeartbeats 2000000 in
set_option maxRecDepth 100000 in
theorem rewrite_any (d : Ds) (v : Value) (r : Rec) (w : World) (hR : RdR w v d) : Calls Try.prog 35 #[v, recV r] w (RetR (rewriteD d r).1 (rewriteD d r).2 w) := by
  have hB0 := (Below.refl w.heap.size w).alloc (Nat.le_refl _) (.cells #[strV r.1, strV r.2] 59)
  have x0 : (w.alloc (.cells #[strV r.1, strV r.2] 59)).cell? ⟨w.heap.size, 0, none⟩ = some (strV r.1) := cell_new _ _ _ 0 _ rfl
  have x1 : (w.alloc (.cells #[strV r.1, strV r.2] 59)).cell? ⟨w.heap.size, 1, none⟩ = some (strV r.2) := cell_new _ _ _ 1 _ rfl
  have HB0 := hid hB0; have HX0 := hid x0; have HX1 := hid x1
  have HK := hid (fun w => isrecord_any r w)
  have HA := hid (fun w' (hb : Below w.heap.size w w') => ask_any' d v (isRec r) w' (hR.below hb))
  by_cases hok : isDs d = true ∧ isRec r = true
  rotate_left
  · have hr : rewriteD d r = ([], askE d (isRec r)) := by
      unfold rewriteD askE
      split
      · rename_i h1
        have h2 : ¬ isRec r = true := fun h2 => hok ⟨h1, h2⟩
        rw [if_neg h2, if_neg h2]
      · rfl
    rw [hr]
    have g := askE_ne hok
    obtain ⟨E, hE⟩ : ∃ E, askE d (isRec r) = E := ⟨_, rfl⟩
    rw [hE] at HA g ⊢
    clear hE hr hok hR hB0
    go_enter Try.func35, Try.ntmps35
    go_wp2_with fail
    refine (HK.out _).mono ?_
    rintro e w1 ⟨rfl, hb1⟩
    have HB1 := hid (below_step hb1 HB0.out)
    clear hb1
    go_wp2_with fail
    refine (HA.out _ HB1.out).mono ?_
    rintro e w2 ⟨rfl, hb2⟩
    have HB2 := hid (below_step hb2 HB1.out)
    clear hb2
    go_wp2_with fail
    go_ret2
    exact ⟨_, rfl, oR_nil _ _, HB2.out⟩
  obtain ⟨hd, hk⟩ := hok
  rw [askE_ok hd hk] at HA
  have HAT := hid (fun w' (hb : Below w.heap.size w w') => at_any d v r.1 w' (hR.below hb) (isDs_len hd))
  have hl := isDs_len hd
  cases hh : hasD d r.1 with
  | false =>
    have hr : rewriteD d r = ([], 4) := by unfold rewriteD; rw [if_pos hd, if_pos hk, hh]; rfl
    rw [hr]
    rw [hh] at HAT
    obtain ⟨J, hJ⟩ : ∃ J, atD d r.1 = J := ⟨_, rfl⟩
    rw [hJ] at HAT
    clear hr hh hJ hd hk hR hl hB0 x0 x1
    go_enter Try.func35, Try.ntmps35
    have x1 := HX1.out; have x0 := HX0.out
    go_wp2_with fail
    refine (HK.out _).mono ?_
    rintro e w1 ⟨rfl, hb1⟩
    have HB1 := hid (below_step hb1 HB0.out)
    have x0 := keepc hb1 HX0.out
    clear hb1
    go_wp2_with fail
    refine (HA.out _ HB1.out).mono ?_
    rintro e w2 ⟨rfl, hb2⟩
    have HB2 := hid (below_step hb2 HB1.out)
    have x0 := keepc hb2 x0
    clear hb2
    go_wp2_with fail
    refine (HAT.out _ HB2.out).mono ?_
    rintro e w3 ⟨rfl, hb3⟩
    have HB3 := hid (below_step hb3 HB2.out)
    clear hb3
    go_wp2_with fail
    go_ret2
    exact ⟨_, rfl, oR_nil _ _, HB3.out⟩
  | true =>
    rw [hh] at HAT
    have hr : rewriteD d r = (d.set (atD d r.1) r, 0) := by unfold rewriteD; rw [if_pos hd, if_pos hk, hh]; rfl
    rw [hr]
    obtain ⟨s, hs⟩ := hasD_at hh
    have hlt : atD d r.1 < d.length := (List.getElem?_eq_some_iff.1 hs).1
    have HCL := hid (fun w' (hb : Below w.heap.size w w') => cloneR_any d v w' (hR.below hb) (by omega))
    obtain ⟨J, hJ⟩ : ∃ J, atD d r.1 = J := ⟨_, rfl⟩
    obtain ⟨N, hN⟩ : ∃ N, d.length = N := ⟨_, rfl⟩
    rw [hJ] at HAT hlt ⊢
    rw [hN] at hl hlt
    have HN := hid hN
    clear hr hh hJ hd hk hR hB0 x0 x1 hs hN
    go_enter Try.func35, Try.ntmps35
    have x1 := HX1.out; have x0 := HX0.out
    go_wp2_with fail
    refine (HK.out _).mono ?_
    rintro e w1 ⟨rfl, hb1⟩
    have HB1 := hid (below_step hb1 HB0.out)
    have x0 := keepc hb1 HX0.out
    have x1 := keepc hb1 HX1.out
    clear hb1
    go_wp2_with fail
    refine (HA.out _ HB1.out).mono ?_
    rintro e w2 ⟨rfl, hb2⟩
    have HB2 := hid (below_step hb2 HB1.out)
    have x0 := keepc hb2 x0
    have x1 := keepc hb2 x1
    clear hb2
    go_wp2_with fail
    refine (HAT.out _ HB2.out).mono ?_
    rintro e w3 ⟨rfl, hb3⟩
    have HB3 := hid (below_step hb3 HB2.out)
    have x0 := keepc hb3 x0
    have x1 := keepc hb3 x1
    clear hb3
    go_wp2_with fail
    refine (HCL.out _ HB3.out).mono ?_
    rintro e w4 ⟨u4, rfl, ho4, hb4⟩
    have x0 := keepc hb4 x0
    have x1 := keepc hb4 x1
    have HB4 := hid (below_step hb4 HB3.out)
    have hz4 := HB3.out.size
    have hzz4 := hb4.size
    obtain ⟨g, cap, rfl, hgB, hgl, hgc, hfz, hcc⟩ := ho4.cells (by have := HN.out; omega)
    have hN := HN.out
    rw [hN] at ho4 hgc ⊢
    have f0 := hfz (J * 2)
    have f1 := hfz (J * 2 + 1)
    obtain ⟨y0, hy0⟩ : ∃ y, w4.cell? ⟨g, J * 2, none⟩ = some y := ⟨_, hcc _ _ (List.getElem?_eq_getElem (by rw [encR_length]; omega))⟩
    obtain ⟨y1, hy1⟩ : ∃ y, w4.cell? ⟨g, J * 2 + 1, none⟩ = some y := ⟨_, hcc _ _ (List.getElem?_eq_getElem (by rw [encR_length]; omega))⟩
    have HO4 := hid ho4
    have HST := hid (oR_stored (r := r) ho4 hN hlt)
    clear hfz hcc ho4 hN hb4
    go_wp2_with fail
    go_ret2
    exact ⟨_, rfl, HST.out.1.mono hz4, HB4.out.grown HST.out.2 (by omega) (fun k hk => by cases hk; omega)⟩
end Go.Proofs.Ytifcgimpgbeocaa
/- Delete. -/
set_option linter.unusedVariables false
set_option linter.unusedSimpArgs false
namespace Go.Proofs.Ytifcgimpgbeocaa
open Go.RowKit
attribute [local go_sem] Oper.semAt_some
set_option maxHeartbeats 2000000 in
set_option maxRecDepth 100000 in
theorem delete_any (d : Ds) (v : Value) (k : Bs) (w : World) (hR : RdR w v d) : Calls Try.prog 37 #[v, strV k] w (RetR (deleteD d k).1 (deleteD d k).2 w) := by
  have HK := hid (fun w => iskey_any k w)
  have HA := hid (fun w' (hb : Below w.heap.size w w') => ask_any' d v (isKey k) w' (hR.below hb))
  by_cases hok : isDs d = true ∧ isKey k = true
  rotate_left
  · have hr : deleteD d k = ([], askE d (isKey k)) := by
      unfold deleteD askE
      split
      · rename_i h1
        have h2 : ¬ isKey k = true := fun h2 => hok ⟨h1, h2⟩
        rw [if_neg h2, if_neg h2]
      · rfl
    rw [hr]
    have g := askE_ne hok
    obtain ⟨E, hE⟩ : ∃ E, askE d (isKey k) = E := ⟨_, rfl⟩
    rw [hE] at HA g ⊢
    clear hE hr hok hR
    go_enter Try.func37, Try.ntmps37
    go_wp2_with fail
    refine (HK.out _).mono ?_
    rintro e w1 ⟨rfl, hb1⟩
    have HB1 := hid hb1
    clear hb1
    go_wp2_with fail
    refine (HA.out _ HB1.out).mono ?_
    rintro e w2 ⟨rfl, hb2⟩
    have HB2 := hid (below_step hb2 HB1.out)
    clear hb2
    go_wp2_with fail
    go_ret2
    exact ⟨_, rfl, oR_nil _ _, HB2.out⟩
  obtain ⟨hd, hk⟩ := hok
  rw [askE_ok hd hk] at HA
  have HAT := hid (fun w' (hb : Below w.heap.size w w') => at_any d v k w' (hR.below hb) (isDs_len hd))
  have hl := isDs_len hd
  cases hh : hasD d k with
  | false =>
    have hr : deleteD d k = ([], 4) := by unfold deleteD; rw [if_pos hd, if_pos hk, hh]; rfl
    rw [hr]
    rw [hh] at HAT
    obtain ⟨J, hJ⟩ : ∃ J, atD d k = J := ⟨_, rfl⟩
    rw [hJ] at HAT
    clear hr hh hJ hd hk hR hl
    go_enter Try.func37, Try.ntmps37
    go_wp2_with fail
    refine (HK.out _).mono ?_
    rintro e w1 ⟨rfl, hb1⟩
    have HB1 := hid hb1
    clear hb1
    go_wp2_with fail
    refine (HA.out _ HB1.out).mono ?_
    rintro e w2 ⟨rfl, hb2⟩
    have HB2 := hid (below_step hb2 HB1.out)
    clear hb2
    go_wp2_with fail
    refine (HAT.out _ HB2.out).mono ?_
    rintro e w3 ⟨rfl, hb3⟩
    have HB3 := hid (below_step hb3 HB2.out)
    clear hb3
    go_wp2_with fail
    go_ret2
    exact ⟨_, rfl, oR_nil _ _, HB3.out⟩
  | true =>
    rw [hh] at HAT
    have hr : deleteD d k = (d.eraseIdx (atD d k), 0) := by unfold deleteD; rw [if_pos hd, if_pos hk, hh]; rfl
    rw [hr]
    obtain ⟨s, hs⟩ := hasD_at hh
    have hlt : atD d k < d.length := (List.getElem?_eq_some_iff.1 hs).1
    have HCL := hid (fun w' (hb : Below w.heap.size w w') => cloneR_any d v w' (hR.below hb) (by omega))
    obtain ⟨J, hJ⟩ : ∃ J, atD d k = J := ⟨_, rfl⟩
    obtain ⟨N, hN⟩ : ∃ N, d.length = N := ⟨_, rfl⟩
    rw [hJ] at HAT hlt ⊢
    have HDEL := hid (fun (g cap B : Nat) (w : World) (h1 : OR w B (.slice (some ⟨g, 0, none⟩) d.length cap) d) (h2 : B ≤ w.heap.size) => delR_any d g cap J B w h1 hlt hl h2)
    rw [hN] at hl hlt HDEL
    have HN := hid hN
    clear hr hh hJ hd hk hR hs hN
    have w0 : IntKind.i64.wrap ((J : Int) + 1) = (J : Int) + 1 := IntWalk.i64_in _ ⟨by omega, by omega⟩
    go_enter Try.func37, Try.ntmps37
    go_wp2_with fail
    refine (HK.out _).mono ?_
    rintro e w1 ⟨rfl, hb1⟩
    have HB1 := hid hb1
    clear hb1
    go_wp2_with fail
    refine (HA.out _ HB1.out).mono ?_
    rintro e w2 ⟨rfl, hb2⟩
    have HB2 := hid (below_step hb2 HB1.out)
    clear hb2
    go_wp2_with fail
    refine (HAT.out _ HB2.out).mono ?_
    rintro e w3 ⟨rfl, hb3⟩
    have HB3 := hid (below_step hb3 HB2.out)
    clear hb3
    go_wp2_with fail
    refine (HCL.out _ HB3.out).mono ?_
    rintro e w4 ⟨u4, rfl, ho4, hb4⟩
    have HB4 := hid (below_step hb4 HB3.out)
    have hz4 := HB3.out.size
    have hzz4 := hb4.size
    obtain ⟨g, cap, rfl, hgB, hgl, hgc, -, -⟩ := ho4.cells (by have := HN.out; omega)
    have hN := HN.out
    rw [hN] at ho4 hgc ⊢
    have HC4 := hid (HDEL.out g cap _ w4 ho4 hzz4)
    clear ho4 hN hb4 HDEL
    go_wp2_with fail
    refine (HC4.out).mono ?_
    rintro e w5 ⟨rfl, ho5, hg5⟩
    have HO5 := hid ho5; have HG5 := hid hg5
    clear ho5 hg5
    go_wp2_with fail
    go_ret2
    exact ⟨_, rfl, HO5.out.mono hz4, HB4.out.grown HG5.out (by omega) (fun k hk => by cases hk; omega)⟩
end Go.Proofs.Ytifcgimpgbeocaa
/- Apply. -/
set_option linter.unusedVariables false
set_option linter.unusedSimpArgs false
namespace Go.Proofs.Ytifcgimpgbeocaa
open Go.RowKit
attribute [local go_sem] Oper.semAt_some
/-- A call that returns records, a record and an error. -/
def RetA (l : Ds) (x : Rec) (n : Int) (w : World) (e : Ending) (w' : World) : Prop := ∃ v, e = .returned (.tuple #[v, .agg #[strV x.1, strV x.2], .int .i64 n]) ∧ OR w' w.heap.size v l ∧ Below w.heap.size w w'
theorem writeD_bad {d : Ds} {r : Rec} (h : (writeD d r).2 ≠ 0) : (writeD d r).1 = [] := by
  unfold writeD at *
  repeat (split at h <;> rename_i hh <;> first | rw [if_pos hh] | rw [if_neg hh])
  all_goals first | rfl | exact absurd rfl h
theorem rewriteD_bad {d : Ds} {r : Rec} (h : (rewriteD d r).2 ≠ 0) : (rewriteD d r).1 = [] := by
  unfold rewriteD at *
  repeat (split at h <;> rename_i hh <;> first | rw [if_pos hh] | rw [if_neg hh])
  all_goals first | rfl | exact absurd rfl h
theorem deleteD_bad {d : Ds} {k : Bs} (h : (deleteD d k).2 ≠ 0) : (deleteD d k).1 = [] := by
  unfold deleteD at *
  repeat (split at h <;> rename_i hh <;> first | rw [if_pos hh] | rw [if_neg hh])
  all_goals first | rfl | exact absurd rfl h
/-- What Apply makes of what its kind's function has answered. -/
def outA (out : Ds) (f : Rec) (E : Int) : Ds × Rec × Int := if E = 0 then (out, f, 0) else ([], ([], []), E)
theorem applyD_1 {d : Ds} {o : FOp} (hd : isDs d = true) (ho : isOp o = true) (h : o.1 = 1) : applyD d o = outA d (o.2.2.1, (readD d o.2.2.1).1) (readD d o.2.2.1).2 := by
  unfold applyD outA; rw [if_pos hd, if_pos ho, if_pos h]
theorem applyD_2 {d : Ds} {o : FOp} (hd : isDs d = true) (ho : isOp o = true) (h : o.1 = 2) : applyD d o = outA d (nextD d o.2.2.1).1 (nextD d o.2.2.1).2 := by
  unfold applyD outA; rw [if_pos hd, if_pos ho, if_neg (by omega), if_pos h]
theorem applyD_3 {d : Ds} {o : FOp} (hd : isDs d = true) (ho : isOp o = true) (h : o.1 = 3) : applyD d o = outA (writeD d o.2.2).1 ([], []) (writeD d o.2.2).2 := by
  unfold applyD outA; rw [if_pos hd, if_pos ho, if_neg (by omega), if_neg (by omega), if_pos h]
  split
  · rename_i he; rw [he]
  · rename_i he; rw [writeD_bad he]
theorem applyD_4 {d : Ds} {o : FOp} (hd : isDs d = true) (ho : isOp o = true) (h : o.1 = 4) : applyD d o = outA (rewriteD d o.2.2).1 ([], []) (rewriteD d o.2.2).2 := by
  unfold applyD outA; rw [if_pos hd, if_pos ho, if_neg (by omega), if_neg (by omega), if_neg (by omega), if_pos h]
  split
  · rename_i he; rw [he]
  · rename_i he; rw [rewriteD_bad he]
theorem applyD_5 {d : Ds} {o : FOp} (hd : isDs d = true) (ho : isOp o = true) (h : o.1 = 5) : applyD d o = outA (deleteD d o.2.2.1).1 ([], []) (deleteD d o.2.2.1).2 := by
  unfold applyD outA; rw [if_pos hd, if_pos ho, if_neg (by omega), if_neg (by omega), if_neg (by omega), if_neg (by omega)]
  split
  · rename_i he; rw [he]
  · rename_i he; rw [deleteD_bad he]
set_option maxHeartbeats 400000 in
set_option maxRecDepth 100000 in
theorem apply_any (d : Ds) (v : Value) (o : FOp) (w : World) (hR : RdR w v d) : Calls Try.prog 39 #[v, opV o] w (RetA (applyD d o).1 (applyD d o).2.1 (applyD d o).2.2 w) := by
  have HIS := hid (fun w => isop_any o w)
  have HA := hid (fun w' (hb : Below w.heap.size w w') => ask_any' d v (isOp o) w' (hR.below hb))
  obtain ⟨k, f, a, s⟩ := o
  have hB0 := ((Below.refl w.heap.size w).alloc (Nat.le_refl _) (.cells #[.int .i64 k, .int .i64 f, strV a, strV s] 63)).alloc (by rw [World.size_alloc]; omega) (.cells #[strV [], strV []] 59)
  have HB0 := hid hB0
  have hx0 := Lib.cell?_alloc_some (.cells #[strV [], strV []] 59) (cell_new w #[.int .i64 k, .int .i64 f, strV a, strV s] 63 0 (.int .i64 k) rfl)
  have hx1 := Lib.cell?_alloc_some (.cells #[strV [], strV []] 59) (cell_new w #[.int .i64 k, .int .i64 f, strV a, strV s] 63 1 (.int .i64 f) rfl)
  have hx2 := Lib.cell?_alloc_some (.cells #[strV [], strV []] 59) (cell_new w #[.int .i64 k, .int .i64 f, strV a, strV s] 63 2 (strV a) rfl)
  have hx3 := Lib.cell?_alloc_some (.cells #[strV [], strV []] 59) (cell_new w #[.int .i64 k, .int .i64 f, strV a, strV s] 63 3 (strV s) rfl)
  have hy0 := ownc_new (w.alloc (.cells #[.int .i64 k, .int .i64 f, strV a, strV s] 63)) #[strV [], strV []] 59 0 (by decide)
  have hy1 := ownc_new (w.alloc (.cells #[.int .i64 k, .int .i64 f, strV a, strV s] 63)) #[strV [], strV []] 59 1 (by decide)
  rw [World.size_alloc] at hy0 hy1
  have HX0 := hid hx0; have HX1 := hid hx1; have HX2 := hid hx2; have HX3 := hid hx3; have HY0 := hid hy0; have HY1 := hid hy1
  clear hB0 hx0 hx1 hx2 hx3 hy0 hy1
  by_cases hok : isDs d = true ∧ isOp (k, f, a, s) = true
  rotate_left
  · have hr : applyD d (k, f, a, s) = ([], ([], []), askE d (isOp (k, f, a, s))) := by
      unfold applyD askE
      split
      · rename_i h1
        have h2 : ¬ isOp (k, f, a, s) = true := fun h2 => hok ⟨h1, h2⟩
        rw [if_neg h2, if_neg h2]
      · rfl
    rw [hr]
    have g := askE_ne hok
    obtain ⟨E, hE⟩ : ∃ E, askE d (isOp (k, f, a, s)) = E := ⟨_, rfl⟩
    obtain ⟨q, hq⟩ : ∃ q, isOp (k, f, a, s) = q := ⟨_, rfl⟩
    rw [hE] at HA g ⊢
    rw [hq] at HA HIS
    clear hE hr hok hR hq
    go_enter Try.func39, Try.ntmps39
    have x0 := HX0.out; have x1 := HX1.out; have x2 := HX2.out; have x3 := HX3.out
    go_wp2_with fail
    refine (HIS.out _).mono ?_
    rintro e w1 ⟨rfl, hb1⟩
    have HB1 := hid (below_step hb1 HB0.out)
    have HY0 := hid (keepOwn hb1 HY0.out)
    have HY1 := hid (keepOwn hb1 HY1.out)
    clear hb1
    go_wp2_with fail
    refine (HA.out _ HB1.out).mono ?_
    rintro e w2 ⟨rfl, hb2⟩
    have HB2 := hid (below_step hb2 HB1.out)
    obtain ⟨⟨u0, y0⟩, f0⟩ := keepOwn hb2 HY0.out
    obtain ⟨⟨u1, y1⟩, f1⟩ := keepOwn hb2 HY1.out
    have hz := HB2.out.size
    clear hb2
    go_wp2_with fail
    exact bodyPost_ret (v := .tuple #[.slice none 0 0, .agg #[strV [], strV []], .int .i64 E]) (by simp [results, Try.results39, go_sem, y0, y1, hz]) rfl ⟨_, rfl, oR_nil _ _, (HB2.out.setCell (by simp only; omega) _).setCell (by simp only; omega) _⟩
  obtain ⟨hd, ho⟩ := hok
  rw [askE_ok hd ho] at HA
  rw [ho] at HIS HA
  have hl := isDs_len hd
  obtain ⟨k1, k2⟩ := isOp_kinds ho
  simp only at k1 k2
  have HCL := hid (fun w' (hb : Below w.heap.size w w') => cloneR_any d v w' (hR.below hb) (by omega))
  obtain ⟨R, hRR⟩ : ∃ R, applyD d (k, f, a, s) = R := ⟨_, rfl⟩
  rw [hRR]
  have HS1 := hid (fun (h : k = 1) => (applyD_1 (o := (k, f, a, s)) hd ho h).symm.trans hRR)
  have HS2 := hid (fun (h : k = 2) => (applyD_2 (o := (k, f, a, s)) hd ho h).symm.trans hRR)
  have HS3 := hid (fun (h : k = 3) => (applyD_3 (o := (k, f, a, s)) hd ho h).symm.trans hRR)
  have HS4 := hid (fun (h : k = 4) => (applyD_4 (o := (k, f, a, s)) hd ho h).symm.trans hRR)
  have HS5 := hid (fun (h : k = 5) => (applyD_5 (o := (k, f, a, s)) hd ho h).symm.trans hRR)
  have HRD := hid hR
  clear hRR hd ho hR hl
  go_enter Try.func39, Try.ntmps39
  have x0 := HX0.out; have x1 := HX1.out; have x2 := HX2.out; have x3 := HX3.out
  go_wp2_with fail
  refine (HIS.out _).mono ?_
  rintro e w1 ⟨rfl, hb1⟩
  have HB1 := hid (below_step hb1 HB0.out)
  have HY0 := hid (keepOwn hb1 HY0.out)
  have HY1 := hid (keepOwn hb1 HY1.out)
  have x0 := keepc hb1 x0
  have x2 := keepc hb1 x2
  have x3 := keepc hb1 x3
  clear hb1
  go_wp2_with fail
  refine (HA.out _ HB1.out).mono ?_
  rintro e w2 ⟨rfl, hb2⟩
  have HB2 := hid (below_step hb2 HB1.out)
  have HY0 := hid (keepOwn hb2 HY0.out)
  have HY1 := hid (keepOwn hb2 HY1.out)
  have x0 := keepc hb2 x0
  have x2 := keepc hb2 x2
  have x3 := keepc hb2 x3
  have hz2 := HB2.out.size
  have hy2 : w.heap.size + 1 < w2.heap.size := by
    obtain ⟨⟨u0, y0⟩, -⟩ := HY0.out
    exact World.block_lt_of_cell? _ _ y0
  have HB3 := hid (HB2.out.alloc hz2 (.cells #[strV a, strV s] 59))
  clear hb2
  go_wp2_with fail
  with_reducible refine (HCL.out _ HB3.out).mono ?_
  rintro e w3 ⟨u3, rfl, ho3, hb3⟩
  have z0 := keepc hb3 (cell_new w2 #[strV a, strV s] 59 0 _ rfl)
  have z1 := keepc hb3 (cell_new w2 #[strV a, strV s] 59 1 _ rfl)
  have hb23 := below_step hb3 ((Below.refl w2.heap.size w2).alloc (Nat.le_refl _) (.cells #[strV a, strV s] 59))
  have x0 := keepc hb23 x0
  have x2 := keepc hb23 x2
  have x3 := keepc hb23 x3
  have HY0 := hid (keepOwn hb23 HY0.out)
  have HY1 := hid (keepOwn hb23 HY1.out)
  have HB4 := hid (below_step hb23 HB2.out)
  have hz3 := hb3.size
  rw [World.size_alloc] at hz3
  have HO3 := hid (ho3.mono (B' := w.heap.size + 2) (by rw [World.size_alloc]; omega))
  have q0 := Lib.cell?_alloc_some (.cells #[.string ⟨#[]⟩, .string ⟨#[]⟩] 59) x0
  have q2 := Lib.cell?_alloc_some (.cells #[.string ⟨#[]⟩, .string ⟨#[]⟩] 59) x2
  have q3 := Lib.cell?_alloc_some (.cells #[.string ⟨#[]⟩, .string ⟨#[]⟩] 59) x3
  have z0 := Lib.cell?_alloc_some (.cells #[.string ⟨#[]⟩, .string ⟨#[]⟩] 59) z0
  have z1 := Lib.cell?_alloc_some (.cells #[.string ⟨#[]⟩, .string ⟨#[]⟩] 59) z1
  simp only [List.getElem_toArray, List.getElem_cons_zero, List.getElem_cons_succ] at z0 z1
  have hne : u3.ownBlock ≠ some w3.heap.size := fun e => by have := (World.ownsRow.lt HO3.out _ e).2; omega
  have HO4 := hid (HO3.out.below ((Below.refl w3.heap.size w3).alloc (Nat.le_refl _) (.cells #[.string ⟨#[]⟩, .string ⟨#[]⟩] 59)))
  have HB5 := hid (HB4.out.alloc HB4.out.size (.cells #[.string ⟨#[]⟩, .string ⟨#[]⟩] 59))
  have HT0 := hid (ownc_new w3 #[.string ⟨#[]⟩, .string ⟨#[]⟩] 59 0 (by decide))
  have HT1 := hid (ownc_new w3 #[.string ⟨#[]⟩, .string ⟨#[]⟩] 59 1 (by decide))
  have t0 : (w3.alloc (.cells #[.string ⟨#[]⟩, .string ⟨#[]⟩] 59)).cell? ⟨w3.heap.size, 0, none⟩ = some (strV []) := cell_new _ _ _ 0 _ rfl
  have t1 : (w3.alloc (.cells #[.string ⟨#[]⟩, .string ⟨#[]⟩] 59)).cell? ⟨w3.heap.size, 1, none⟩ = some (strV []) := cell_new _ _ _ 1 _ rfl
  have HQ0 := hid (keepOwn ((Below.refl w3.heap.size w3).alloc (Nat.le_refl _) (.cells #[.string ⟨#[]⟩, .string ⟨#[]⟩] 59)) HY0.out)
  have HQ1 := hid (keepOwn ((Below.refl w3.heap.size w3).alloc (Nat.le_refl _) (.cells #[.string ⟨#[]⟩, .string ⟨#[]⟩] 59)) HY1.out)
  clear hb3 hb23 ho3
  go_upto_block 0 with (fail)
  have hz4 : w.heap.size + 2 ≤ w3.heap.size := by omega
  obtain ⟨W4, hW4⟩ : ∃ W4, w3.alloc (.cells #[.string ⟨#[]⟩, .string ⟨#[]⟩] 59) = W4 := ⟨_, rfl⟩
  have hT4 : w3.heap.size < W4.heap.size := by rw [← hW4, World.size_alloc]; omega
  obtain ⟨T, hT⟩ : ∃ T, w3.heap.size = T := ⟨_, rfl⟩
  rw [hW4] at HO4 HB5 HT0 HT1 t0 t1 HQ0 HQ1 q0 q2 q3 z0 z1 ⊢
  rw [hT] at HT0 HT1 t0 t1 hz4 hne hT4 ⊢
  obtain ⟨Z, hZ⟩ : ∃ Z, w2.heap.size = Z := ⟨_, rfl⟩
  rw [hZ] at z0 z1 hy2 ⊢
  have hZT : Z < T := by omega
  clear hW4 hT hZ hz2 hz3 HB4 HB3 HB2 HB1 HB0 HX0 HX1 HX2 HX3 HA HIS HCL x0 x1 x2 x3 HY0 HY1
  go_cut [9, 11] (fun v9 e wx => ∃ (out : Ds) (f1 : Rec) (E : Int), e = .int .i64 E ∧ Hid (OR wx (w.heap.size + 2) v9 out) ∧ wx.cell? ⟨T, 0, none⟩ = some (strV f1.1) ∧ wx.cell? ⟨T, 1, none⟩ = some (strV f1.2) ∧ Hid (Below w.heap.size w wx) ∧ Hid (OwnC wx ⟨w.heap.size + 1, 0, none⟩) ∧ Hid (OwnC wx ⟨w.heap.size + 1, 1, none⟩) ∧ Hid (outA out f1 E = R))
  case first =>
    by_cases c3 : k = 3
    · subst c3
      have HW := hid (fun w' (hb : Below w.heap.size w w') => write_any d v (a, s) w' (HRD.out.below hb))
      have HS := hid (HS3.out rfl)
      go_wp2_with fail
      refine (HW.out _ HB5.out).mono ?_
      rintro e w5 ⟨u5, rfl, ho5, hb5⟩
      have t0 := keepc hb5 t0
      have t1 := keepc hb5 t1
      have HP0 := hid (keepOwn hb5 HQ0.out)
      have HP1 := hid (keepOwn hb5 HQ1.out)
      have HO5 := hid (ho5.mono (B' := w.heap.size + 2) (by omega))
      have HB6 := hid (below_step hb5 HB5.out)
      clear hb5 ho5
      go_wp2_with fail
      go_meet
      case rel => exact ⟨_, ([], []), _, rfl, HO5, t0, t1, HB6, HP0, HP1, HS⟩
    by_cases c4 : k = 4
    · subst c4
      have HW := hid (fun w' (hb : Below w.heap.size w w') => rewrite_any d v (a, s) w' (HRD.out.below hb))
      have HS := hid (HS4.out rfl)
      go_wp2_with fail
      refine (HW.out _ HB5.out).mono ?_
      rintro e w5 ⟨u5, rfl, ho5, hb5⟩
      have t0 := keepc hb5 t0
      have t1 := keepc hb5 t1
      have HP0 := hid (keepOwn hb5 HQ0.out)
      have HP1 := hid (keepOwn hb5 HQ1.out)
      have HO5 := hid (ho5.mono (B' := w.heap.size + 2) (by omega))
      have HB6 := hid (below_step hb5 HB5.out)
      clear hb5 ho5
      go_wp2_with fail
      go_meet
      case rel => exact ⟨_, ([], []), _, rfl, HO5, t0, t1, HB6, HP0, HP1, HS⟩
    by_cases c5 : k = 5
    · subst c5
      have HW := hid (fun w' (hb : Below w.heap.size w w') => delete_any d v a w' (HRD.out.below hb))
      have HS := hid (HS5.out rfl)
      go_wp2_with fail
      refine (HW.out _ HB5.out).mono ?_
      rintro e w5 ⟨u5, rfl, ho5, hb5⟩
      have t0 := keepc hb5 t0
      have t1 := keepc hb5 t1
      have HP0 := hid (keepOwn hb5 HQ0.out)
      have HP1 := hid (keepOwn hb5 HQ1.out)
      have HO5 := hid (ho5.mono (B' := w.heap.size + 2) (by omega))
      have HB6 := hid (below_step hb5 HB5.out)
      clear hb5 ho5
      go_wp2_with fail
      go_meet
      case rel => exact ⟨_, ([], []), _, rfl, HO5, t0, t1, HB6, HP0, HP1, HS⟩
    by_cases c2 : k = 2
    · subst c2
      have HW := hid (fun w' (hb : Below w.heap.size w w') => next_any d v a w' (HRD.out.below hb))
      have HS := hid (HS2.out rfl)
      go_wp2_with fail
      refine (HW.out _ HB5.out).mono ?_
      rintro e w5 ⟨rfl, hb5⟩
      obtain ⟨⟨b0, t0⟩, f0⟩ := keepOwn hb5 HT0.out
      obtain ⟨⟨b1, t1⟩, f1⟩ := keepOwn hb5 HT1.out
      have HP0 := hid (keepOwn hb5 HQ0.out)
      have HP1 := hid (keepOwn hb5 HQ1.out)
      have HO5 := hid (HO4.out.below hb5)
      have HB6 := hid (below_step hb5 HB5.out)
      clear hb5
      go_wp2_with fail
      go_meet
      case rel => exact ⟨d, _, _, rfl, ownsRow_setCell_other (ownsRow_setCell_other HO5.out hne _) hne _, by go_simp, by go_simp, (HB6.out.setCell (by simp only; omega) _).setCell (by simp only; omega) _, (HP0.out.set _ _).set _ _, (HP1.out.set _ _).set _ _, HS⟩
    have c1 : k = 1 := by omega
    subst c1
    have HW := hid (fun w' (hb : Below w.heap.size w w') => read_any d v a w' (HRD.out.below hb))
    have HS := hid (HS1.out rfl)
    obtain ⟨⟨b0, t0'⟩, f0⟩ := HT0.out
    obtain ⟨⟨b1, t1'⟩, f1⟩ := HT1.out
    have HBs := hid (HB5.out.setCell (p := ⟨T, 0, none⟩) (by simp only; omega) (strV a))
    go_wp2_with fail
    refine (HW.out _ HBs.out).mono ?_
    rintro e w5 ⟨rfl, hb5⟩
    have t0s := keepc hb5 (World.cell?_setCell_same' W4 ⟨T, 0, none⟩ (strV a) (by rw [t0']; rfl))
    obtain ⟨⟨b2, t1s⟩, f1s⟩ := keepOwn hb5 (HT1.out.set ⟨T, 0, none⟩ (strV a))
    have HP0 := hid (keepOwn hb5 (HQ0.out.set ⟨T, 0, none⟩ (strV a)))
    have HP1 := hid (keepOwn hb5 (HQ1.out.set ⟨T, 0, none⟩ (strV a)))
    have HO5 : Hid (OR w5 (w.heap.size + 2) u3 d) := OR.below (ownsRow_setCell_other HO4.out hne _) hb5
    have HB6 := hid (below_step hb5 HBs.out)
    clear hb5
    go_wp2_with fail
    go_meet
    case rel => exact ⟨d, (a, _), _, rfl, ownsRow_setCell_other HO5.out hne _, by go_simp, by go_simp, HB6.out.setCell (by simp only; omega) _, HP0.out.set _ _, HP1.out.set _ _, HS⟩
  case rest =>
    obtain ⟨out, f1, E, rfl, HO, t0, t1, HB, HY0, HY1, HS⟩ := hcut
    have hz := HB.out.size
    obtain ⟨⟨b0, y0⟩, f0⟩ := HY0.out
    obtain ⟨⟨b1, y1⟩, f1'⟩ := HY1.out
    by_cases hE : E = 0
    · subst hE
      have hR : R = (out, f1, 0) := HS.out.symm
      subst hR
      clear HS HS1 HS2 HS3 HS4 HS5 HO4 HB5 HT0 HT1 HQ0 HQ1
      go_wp2_with fail
      have hOa : OR ((wc.setCell ⟨w.heap.size + 1, 0, none⟩ (strV f1.1)).setCell ⟨w.heap.size + 1, 1, none⟩ (strV f1.2)) (w.heap.size + 2) u9 out := ownsRow_setCell_below (ownsRow_setCell_below HO.out (a := ⟨w.heap.size + 1, 0, none⟩) (by simp only; omega) (strV f1.1)) (a := ⟨w.heap.size + 1, 1, none⟩) (by simp only; omega) (strV f1.2)
      have HOa := hid ((hOa.below (Below.refl _ _).drew).mono (B' := w.heap.size) (by omega))
      have HBa := hid ((HB.out.setCell (p := ⟨w.heap.size + 1, 0, none⟩) (by simp only; omega) (strV f1.1)).setCell (p := ⟨w.heap.size + 1, 1, none⟩) (by simp only; omega) (strV f1.2)).drew
      clear hOa
      go_region
      all_goals go_wp2_with fail
      all_goals exact bodyPost_ret (v := .tuple #[u9, .agg #[strV f1.1, strV f1.2], .int .i64 0]) (by simp [results, Try.results39, go_sem, y0, y1, hz]) rfl ⟨_, rfl, HOa.out, HBa.out⟩
    · have g1 : (E == 0) = false := by rw [beq_eq_false_iff_ne]; exact hE
      have hR : R = ([], ([], []), E) := by rw [← HS.out]; unfold outA; rw [if_neg hE]
      subst hR
      clear HS HS1 HS2 HS3 HS4 HS5 HO4 HB5 HT0 HT1 HQ0 HQ1 hE
      go_wp2_with fail
      exact bodyPost_ret (v := .tuple #[.slice none 0 0, .agg #[strV [], strV []], .int .i64 E]) (by simp [results, Try.results39, go_sem, y0, y1, hz]) rfl ⟨_, rfl, oR_nil _ _, (HB.out.setCell (by simp only; omega) _).setCell (by simp only; omega) _⟩
end Go.Proofs.Ytifcgimpgbeocaa
/- slices.Backward at writes, as the iterator of a list; written. -/
set_option linter.unusedVariables false
set_option linter.unusedSimpArgs false
namespace Go.Proofs.Ytifcgimpgbeocaa
open Go.RowKit
attribute [local go_sem] Oper.semAt_some
/-- What slices.Backward gives of ws, in its order. -/
def bk (N : Nat) (j : Nat) (x : Wt) : Array Value := #[.int .i64 ((N - 1 - j : Nat) : Int), wtV x]
def bks (ws : List Wt) : List (Array Value) := ws.reverse.mapIdx (bk ws.length)
theorem bks_len (ws : List Wt) : (bks ws).length = ws.length := by unfold bks; simp
theorem bks_get {ws : List Wt} {j : Nat} {x : Wt} (h : ws.reverse[j]? = some x) : (bks ws)[j]? = some (bk ws.length j x) := by
  unfold bks; rw [List.getElem?_mapIdx, h]; rfl
theorem bks_some {ws : List Wt} {j : Nat} {u : Array Value} (h : (bks ws)[j]? = some u) : ∃ x, ws.reverse[j]? = some x ∧ u = bk ws.length j x := by
  unfold bks at h
  rw [List.getElem?_mapIdx] at h
  cases hx : ws.reverse[j]? with
  | none => rw [hx] at h; cases h
  | some x => rw [hx] at h; cases h; exact ⟨x, rfl, rfl⟩
theorem rev_get {ws : List Wt} {j : Nat} (h : j < ws.length) : ws.reverse[j]? = ws[ws.length - 1 - j]? := List.getElem?_reverse h
/-- What the iterator reads between two rounds. -/
def ReadsW (Bh : Nat) (v : Value) (ws : List Wt) (W : World) : Prop := RdW W v ws ∧ W.cell? ⟨Bh, 0, none⟩ = some v
set_option maxHeartbeats 1000000 in
set_option maxRecDepth 100000 in
theorem back_seq (Bh : Nat) (v : Value) (ws : List Wt) (hl : ws.length ≤ 1000000000) : SeqL Try.prog 148 #[.pointer (some ⟨Bh, 0, none⟩)] (bks ws) (ReadsW Bh v ws) := by
  intro n0 lp J Jx W hn0 hJ hJx hR hY h0
  obtain ⟨N, hN⟩ : ∃ N, ws.length = N := ⟨_, rfl⟩
  have h00 := hR 0 W h0
  obtain ⟨⟨o, cap, rfl, hcap, -⟩, hc⟩ := h00
  have HY := hid hY
  have HJ0 := hid hJ
  have HJx0 := hid hJx
  have HR := hid hR
  have HN := hid hN
  rw [hN] at hl hcap hc HR
  have HC0 := hid hc
  clear hY hJ hJx hR hN
  refine callsIn_of_wp Try.func148 rfl trivial ?_ rfl
  simp only [Try.ntmps148, List.size_toArray, List.length_cons, List.length_nil, Nat.reduceAdd, Nat.reduceSub, Array.replicate_succ, Array.replicate_zero, List.push_toArray, List.append_toArray, List.nil_append, List.cons_append]
  gi_wp2_with fail
  gi_loopw [3] (fun p wr => ∃ k m : Nat, p = .int .i64 ((m : Int) - 1) ∧ k + m = N ∧ Hid (J k wr)) (fun p wr => (intOf p + 1).toNat)
  case atStart => exact ⟨0, N, rfl, by omega, h0⟩
  case round =>
    obtain ⟨k, m, rfl, hkm, HJ⟩ := hrel
    cases m with
    | zero =>
      have e0 : (((0 : Nat) : Int) - 1) = -1 := rfl
      rw [e0]
      have HK : Hid ((bks ws).length = k) := by show _ = _; rw [bks_len, HN.out]; omega
      gi_wp2_with fail
      go_end0
      exact ⟨⟨_, rfl⟩, .inl (by rw [HK.out]; exact HJ.out)⟩
    | succ m =>
      have e0 : (((m + 1 : Nat) : Int) - 1) = (m : Int) := by omega
      rw [e0]
      obtain ⟨x, hx⟩ : ∃ x, ws.reverse[k]? = some x := ⟨_, List.getElem?_eq_getElem (by rw [List.length_reverse, HN.out]; omega)⟩
      have hx2 : ws[m]? = some x := by rw [rev_get (by rw [HN.out]; omega), HN.out] at hx; rw [← hx]; congr 1; omega
      have hbx := bks_get hx
      rw [HN.out] at hbx
      unfold bk at hbx
      rw [show N - 1 - k = m by omega] at hbx
      obtain ⟨fn, tmps, assign, body, hy, hRd⟩ := HY.out k _ wr hbx HJ.out
      obtain ⟨hr, hc1⟩ := HR.out k wr HJ.out
      obtain ⟨o', cap', e1, hc2, hrr⟩ := hr
      rw [HN.out] at e1
      cases e1
      rcases hrr with hrr | ⟨b, off, rfl, hb, hrr⟩
      · rw [hrr] at hx2; simp at hx2
      obtain ⟨c0, c1⟩ := hrr m x hx2
      have HKL : Hid (k + 1 ≤ (bks ws).length) := by show _ ≤ _; rw [bks_len, HN.out]; omega
      have hw1 : IntKind.i64.wrap ((m : Int) - 1) = (m : Int) - 1 := IntWalk.i64_in _ ⟨by omega, by omega⟩
      clear hrr hx hx2 hbx hc
      gi_wp2_with fail
      refine ⟨rfl, hRd.mono ?_⟩
      rintro e W2 (⟨rfl, hJ2, hk2⟩ | ⟨rfl, hJx2⟩)
      · have HJ2 := hid hJ2
        clear hJ2 hk2
        gi_wp2_with fail
        go_roundw
        case rel => exact ⟨k + 1, m, rfl, by omega, HJ2⟩
        case measure => simp [intOf]
      · have HJx2 := hid hJx2
        clear hJx2
        gi_wp2_with fail
        refine bodyPost_ret (results_none rfl _ _ _) rfl ⟨⟨_, rfl⟩, .inr ⟨k + 1, HKL.out, HJx2.out⟩⟩
end Go.Proofs.Ytifcgimpgbeocaa
/- written: what was written to a page last. -/
set_option linter.unusedVariables false
set_option linter.unusedSimpArgs false
namespace Go.Proofs.Ytifcgimpgbeocaa
open Go.RowKit
attribute [local go_sem] Oper.semAt_some
theorem back_any (v : Value) (o : Option Addr) (n c : Nat) (hv : v = .slice o n c) (w : World) : Calls Try.prog 138 #[v] w fun e w' => e = .returned (.func (.func 148) #[] #[.pointer (some ⟨w.heap.size, 0, none⟩)]) ∧ w' = w.alloc (.cells #[v] 25) := by
  subst hv
  go_enter Try.func138, Try.ntmps138
  go_wp2_with fail
  go_ret
  exact ⟨rfl, rfl⟩
def isP (p : Nat) (x : Wt) : Bool := x.1 == (p : Int)
theorem backP_find (p : Nat) (o : Bs) : ∀ l : List Wt, backP p o l = match l.find? (isP p) with | some x => x.2 | none => o
  | [] => rfl
  | x :: l => by
    unfold backP
    rw [backP_find p o l, List.find?_cons]
    unfold isP
    by_cases h : x.1 = (p : Int)
    · rw [if_pos h]; simp [h]
    · have h2 : (x.1 == (p : Int)) = false := beq_eq_false_iff_ne.2 h
      rw [if_neg h, h2]
theorem wrt_find (d : Dk) (p : Nat) : wrt d p = match d.2.reverse.find? (isP p) with | some x => x.2 | none => (d.1[p]?).getD [] := by
  unfold wrt; rw [← back_wrt, backP_find]
theorem find_at {l : List Wt} {p k : Nat} {x : Wt} (h : (l.take k).find? (isP p) = none) (hx : l[k]? = some x) (hp : isP p x = true) : l.find? (isP p) = some x := by
  obtain ⟨hk, he⟩ := List.getElem?_eq_some_iff.1 hx
  have hsp : l = l.take k ++ (x :: l.drop (k + 1)) := by
    have := List.take_append_drop k l
    rw [List.drop_eq_getElem_cons hk, he] at this
    exact this.symm
  rw [hsp, List.find?_append, h]
  simp [hp]
/-- Between two rounds of written: no write so far is to the page. -/
def WrI (p : Nat) (l : List Wt) (W0 : World) (k : Nat) (W : World) : Prop := Below W0.heap.size W0 W ∧ (l.take k).find? (isP p) = none
def WrX (s : Bs) (w : World) (c : Code) (_ : Nat) (W : World) : Prop := c = .ret ∧ Below w.heap.size w W ∧ W.cell? ⟨w.heap.size + 2, 0, none⟩ = some (strV s)
theorem wrI_own (p : Nat) (l : List Wt) (W0 : World) (B : Nat) (h : W0.heap.size ≤ B) : OwnFrom B (WrI p l W0) := OwnFrom.and (ownFrom_below (Nat.le_refl _) h) (ownF_pure _)
/-- The loop variable lies in a box of its own, at or beyond n0. -/
def WBox (n0 : Nat) (l : List Wt) (mk : Nat → Nat → Wt → Act) (I : Nat → World → Prop) (k : Nat) (a₁ : Act) (W : World) : Prop :=
  ∃ (Bx : Nat) (x : Wt), (l[k]? = some x ∧ n0 ≤ Bx ∧ a₁ = mk Bx k x) ∧ W.cell? ⟨Bx, 0, none⟩ = some (.int .i64 x.1) ∧ W.cell? ⟨Bx, 1, none⟩ = some (strV x.2) ∧ I k W
theorem wbox_own {n0 B : Nat} {l : List Wt} {mk : Nat → Nat → Wt → Act} {I : Nat → World → Prop} (hI : OwnFrom B I) (a₁ : Act) : OwnFrom B (fun k W => WBox n0 l mk I k a₁ W) :=
  ownF_ex fun Bx => ownF_ex fun x => OwnFrom.and (ownF_pure _) (OwnFrom.and (ownF_cell _ _) (OwnFrom.and (ownF_cell _ _) hI))
def wrAct (vp : Value) (o : Option Addr) (N cap p S : Nat) (Bx k : Nat) (x : Wt) : Act :=
  { tmps := #[.agg #[vp, .slice o N cap], .int .i64 p, .pointer (some ⟨S, 0, none⟩), .pointer (some ⟨S + 1, 0, none⟩), .pointer (some ⟨S + 1 + 1, 0, none⟩), undef, .pointer (some ⟨Bx, 0, none⟩),
  .pointer (some ⟨S, 1, none⟩), .slice o N cap, .func (.func 148) #[] #[.pointer (some ⟨S + 1 + 1 + 1, 0, none⟩)], .int .i64 ((N - 1 - k : Nat) : Int), .agg #[.int .i64 x.1, strV x.2],
  undef, undef, undef, undef, undef, undef, undef, undef, undef, undef, undef], defers := [] }
set_option maxHeartbeats 1000000 in
set_option maxRecDepth 100000 in
theorem written_any (d : Dk) (vp vq : Value) (p : Nat) (w : World) (hp : RdS w vp d.1) (hq : RdW w vq d.2) (hpl : p < d.1.length) (hl1 : d.1.length ≤ 4096) (hl2 : d.2.length ≤ 1000000000) : Calls Try.prog 112 #[.agg #[vp, vq], .int .i64 p] w (Ret (strV (wrt d p)) w) := by
  obtain ⟨o, cap, rfl, hcap, hc⟩ := hq
  obtain ⟨N, hN⟩ : ∃ N, d.2.length = N := ⟨_, rfl⟩
  refine (callsIn_wide (n := 0)).1 (callsIn_of_wp_marks Try.func112 rfl trivial ?_ rfl)
  simp only [Try.ntmps112, List.size_toArray, List.length_cons, List.length_nil, Nat.reduceAdd, Nat.reduceSub, Array.replicate_succ, Array.replicate_zero, List.push_toArray, List.append_toArray, List.nil_append, List.cons_append]
  gi_wp2_with fail
  refine ⟨trivial, rfl, ?_⟩
  refine (callsIn_wide.2 (back_any _ _ _ _ rfl _)).mono ?_
  rintro e w' ⟨rfl, rfl⟩
  gi_wp2_with fail
  obtain ⟨W0, hW0⟩ : ∃ W0, W0 = ((((w.alloc (.cells #[vp, .slice o N cap] 27)).alloc (.cells #[.int .i64 p] 3)).alloc (.cells #[.string ⟨#[]⟩] 9)).alloc (.cells #[.slice o N cap] 25)) := ⟨_, rfl⟩
  rw [← hW0]
  have hz0 : W0.heap.size = w.heap.size + 4 := by rw [hW0]; simp
  have hb0 : Below w.heap.size w W0 := by rw [hW0]; exact ((((Below.refl w.heap.size w).alloc (Nat.le_refl _) _).alloc (by simp) _).alloc (by simp; omega) _).alloc (by simp; omega) _
  have c0 : W0.cell? ⟨w.heap.size, 0, none⟩ = some vp := by rw [hW0]; go_simp
  have c1 : W0.cell? ⟨w.heap.size + 1, 0, none⟩ = some (.int .i64 p) := by rw [hW0]; go_simp
  have c2 : W0.cell? ⟨w.heap.size + 2, 0, none⟩ = some (strV []) := by rw [hW0]; go_simp
  have f2 : W0.frozen? ⟨w.heap.size + 2, 0, none⟩ = false := by rw [hW0]; go_simp
  have c3 : W0.cell? ⟨w.heap.size + 3, 0, none⟩ = some (.slice o N cap) := by rw [hW0]; go_simp
  have hq0 : RdW W0 (.slice o N cap) d.2 := by
    have : RdW w (.slice o N cap) d.2 := ⟨o, cap, by rw [hN], hcap, hc⟩
    exact this.below hb0
  have hp0 : RdS W0 vp d.1 := hp.below hb0
  clear hW0 hc hp
  have HW0 := hid hb0
  have HF := hid (wrt_find d p)
  obtain ⟨R, hR⟩ : ∃ R, wrt d p = R := ⟨_, rfl⟩
  rw [hR] at HF
  have HRR := hid hR
  clear hR
  refine wp_range (us := bks d.2) (R := ReadsW (w.heap.size + 3) (.slice o N cap) d.2) rfl (enters_of Try.func148 (by kernel_rfl) rfl) (back_seq (w.heap.size + 3) (.slice o N cap) d.2 hl2) ?hps
    (WrI p d.2.reverse W0) (WrX R w) (WBox W0.heap.size d.2.reverse (wrAct vp o N cap p w.heap.size) (WrI p d.2.reverse W0))
    ?hI ?hIx ?hAx ?hR ?h0 ?hassign ?hbody ?hdone ?hstop
  case hps =>
    intro k x hx
    obtain ⟨u, _, rfl⟩ := bks_some hx
    rfl
  case hI => exact wrI_own _ _ _ _ (by omega)
  case hIx => exact fun c => OwnFrom.and (ownF_pure _) (OwnFrom.and (ownFrom_below (Nat.le_refl _) (by omega)) (ownF_cell _ _))
  case hAx => exact wbox_own (wrI_own _ _ _ _ (by omega))
  case hR => exact fun k W hi => ⟨hq0.below hi.1, keepc hi.1 c3⟩
  case h0 => exact ⟨Below.refl _ _, rfl⟩
  case hassign =>
    intro lp k x W hx hi hsz
    obtain ⟨u, hu1, rfl⟩ := bks_some hx
    rw [hN]
    simp only [bk]
    go_simp
    gi_wp2_with fail
    exact ⟨(Rnd.refl _ _).alloc _, W.heap.size, u, ⟨hu1, by omega, rfl⟩, cell_new _ _ _ _ _ rfl, cell_new _ _ _ _ _ rfl, hi.1.alloc (by omega) _, hi.2⟩
  case hbody =>
    rintro lp k x a₁ W hx ⟨Bx, u, ⟨hu1, hBx, rfl⟩, q0, q1, hbw, hno⟩ hsz
    have HNO := hid hno
    have HBW := hid hbw
    have d1 := keepc hbw c1
    have d2 := keepc hbw c2
    have e2 := keepf hbw c2 f2
    have hlt3 : w.heap.size + 2 < W.heap.size := World.block_lt_of_cell? _ _ d2
    clear hx hbw hno hb0 c0 c1 c2 c3 f2 hq0 hp0
    obtain ⟨a, s⟩ := u
    simp only at q0 q1
    by_cases ha : a = (p : Int)
    · have g1 : (a == (p : Int)) = true := by rw [beq_iff_eq]; exact ha
      have hh : R = s := by rw [HF.out, find_at HNO.out hu1 g1]
      subst hh
      clear hu1
      unfold wrAct
      gi_wp2_with fail
      exact ⟨(Rnd.refl _ _).setCell (p := ⟨w.heap.size + 1 + 1, 0, none⟩) (.inl (by show w.heap.size + 1 + 1 < W0.heap.size; omega)) _, rfl, ((HW0.out.trans (HBW.out.mono (by omega))).setCell (p := ⟨w.heap.size + 1 + 1, 0, none⟩) (by show w.heap.size ≤ w.heap.size + 1 + 1; omega) _), by go_simp⟩
    · have g1 : (a == (p : Int)) = false := by rw [beq_eq_false_iff_ne]; exact ha
      have hnx : (d.2.reverse.take (k + 1)).find? (isP p) = none := by
        rw [List.take_add_one, hu1, List.find?_append, HNO.out]
        simp [isP, ha]
      have HNX := hid hnx
      clear hu1 hnx ha
      unfold wrAct
      gi_wp2_with fail
      exact ⟨Rnd.refl _ _, HBW.out, HNX.out⟩
  case hdone =>
    rintro D W hD ⟨hbw, hno⟩ hK
    have hh : R = (d.1[p]?).getD [] := by
      rw [HF.out]; rw [bks_len] at hno; rw [List.take_of_length_le (by simp)] at hno; rw [hno]
    obtain ⟨op, capp, e1, hcp, hpp⟩ := hp0.below hbw
    subst e1
    obtain ⟨s, hs⟩ : ∃ s, d.1[p]? = some s := ⟨_, List.getElem?_eq_getElem hpl⟩
    rcases hpp with hpp | ⟨bp, offp, rfl, hbp, hpp⟩
    · rw [hpp] at hs; simp at hs
    have x0 := hpp p s hs
    rw [hs] at hh
    simp only [Option.getD_some] at hh
    subst hh
    have HBW := hid hbw
    have d0 := keepc hbw c0
    have d1 := keepc hbw c1
    have d2 := keepc hbw c2
    have e2 := keepf hbw c2 f2
    have HK := hid hK
    have hlt3 : w.heap.size + 2 < W.heap.size := World.block_lt_of_cell? _ _ d2
    have hpl' : (p : Int) < (d.1.length : Int) := by omega
    clear hbw hb0 c0 c1 c2 c3 f2 hq0 hp0 hK hno hpp HF hs
    gi_wp2_with fail
    have HK2 : (W.setCell ⟨w.heap.size + 1 + 1, 0, none⟩ (strV R)).heap[D]? = some (.deferred (some [])) := by
      rw [Below.heap_setCell _ _ _ _ (by show D ≠ w.heap.size + 1 + 1; omega)]; exact HK.out
    refine ⟨by simp, .inl ⟨_, _, rfl, run_takeDeferred HK2, strV R, ?_, by rw [HRR.out], below_put ((HW0.out.trans (HBW.out.mono (by omega))).setCell (p := ⟨w.heap.size + 1 + 1, 0, none⟩) (by show w.heap.size ≤ w.heap.size + 1 + 1; omega) _) (by omega) _⟩⟩
    have p1 := cell_put (o' := .deferred none) HK2 rfl (show (W.setCell ⟨w.heap.size + 1 + 1, 0, none⟩ (strV R)).cell? ⟨w.heap.size + 2, 0, none⟩ = some (strV R) by go_simp)
    simp [results, Try.results112, go_sem, p1]
  case hstop =>
    rintro D c k W hD ⟨rfl, hbw, d1⟩ hK
    have HBW := hid hbw; clear hbw
    have hlt3 : w.heap.size + 2 < W.heap.size := World.block_lt_of_cell? _ _ d1
    have HK := hid hK; clear hK
    clear hb0 c0 c1 c2 c3 f2 hq0 hp0
    gi_wp2_with fail
    refine ⟨by simp, .inl ⟨_, _, rfl, run_takeDeferred HK.out, strV R, ?_, by rw [HRR.out], below_put HBW.out (by omega) _⟩⟩
    have p1 := cell_put (o' := .deferred none) HK.out rfl d1
    simp [results, Try.results112, go_sem, p1]
end Go.Proofs.Ytifcgimpgbeocaa
/- strings.Repeat of a zero byte; NewDisk. -/
set_option linter.unusedVariables false
set_option linter.unusedSimpArgs false
namespace Go.Proofs.Ytifcgimpgbeocaa
open Go.RowKit
attribute [local go_sem] Oper.semAt_some
theorem repL_zs : ∀ n, Lib.repeatL [0] n = zs n
  | 0 => rfl
  | n + 1 => by show [0] ++ Lib.repeatL [0] n = _; rw [repL_zs n]; unfold zs; rw [List.replicate_succ]; rfl
theorem srep_any (n : Nat) (w : World) (hn : n ≤ 1000000) : Calls Try.prog 110 #[strV [0], .int .i64 n] w (Ret (strV (zs n)) w) := by
  have h := Try.strings_Repeat ⟨#[0]⟩ n w (by omega) (by show #[(0 : UInt8)].size * n ≤ _; simp; omega)
  refine Calls.mono h ?_
  rintro e w' ⟨rfl, hb⟩
  refine ⟨?_, hb⟩
  show _ = Ending.returned (strV (zs n))
  rw [← repL_zs]
/-- A call that returns a disk, all of it new, and an error. -/
def RetDk (d : Dk) (n : Int) (w : World) (e : Ending) (w' : World) : Prop := ∃ vp vq, e = .returned (.tuple #[.agg #[vp, vq], .int .i64 n]) ∧ OS w' w.heap.size vp d.1 ∧ OW w' w.heap.size vq d.2 ∧ Below w.heap.size w w'
set_option maxHeartbeats 1000000 in
set_option maxRecDepth 100000 in
theorem newdisk_any (n : Int) (w : World) : Calls Try.prog 63 #[.int .i64 n] w (RetDk (newDk n).1 (newDk n).2 w) := by
  by_cases hn : 4 ≤ n ∧ n ≤ 4096
  · obtain ⟨m, rfl⟩ : ∃ m : Nat, n = (m : Int) := ⟨n.toNat, by omega⟩
    have hr : newDk (m : Int) = ((List.replicate m (zs 64), []), 0) := by unfold newDk; rw [if_pos hn]; rfl
    rw [hr]
    have HS := hid (fun w' => srep_any 64 w' (by decide))
    have HR := hid (fun b w' hc => rptS_any (zs 64) b m w' hc (by omega))
    obtain ⟨Z, hZ⟩ : ∃ Z, zs 64 = Z := ⟨_, rfl⟩
    rw [hZ] at HS HR ⊢
    obtain ⟨L, hL⟩ : ∃ L, List.replicate m Z = L := ⟨_, rfl⟩
    rw [hL] at HR ⊢
    clear hr hZ hL
    have hd1 : decide ((m : Int) < 4) = false := by simp; omega
    have hd2 : decide (4096 < (m : Int)) = false := by simp; omega
    have hx0 := ownc_new w #[.slice none 0 0, .slice none 0 0] 27 0 (by decide)
    have hx1 := ownc_new w #[.slice none 0 0, .slice none 0 0] 27 1 (by decide)
    have HX0 := hid hx0
    have HX1 := hid hx1
    have HB0 := hid ((Below.refl w.heap.size w).alloc (Nat.le_refl _) (.cells #[.slice none 0 0, .slice none 0 0] 27))
    clear hx0 hx1 hn
    go_enter Try.func63, Try.ntmps63
    go_wp2_with (go_at_call 110; refine (HS.out _).mono ?_; rintro e w1 ⟨rfl, hb1⟩; have HB1 := hid (below_step hb1 HB0.out); have HX0 := hid (keepOwn hb1 HX0.out); have HX1 := hid (keepOwn hb1 HX1.out); clear hb1)
    have HB2 := hid (HB1.out.alloc HB1.out.size (.cells #[strV Z] 9))
    have hz1 := HB1.out.size
    have HX0 := hid (keepOwn ((Below.refl w1.heap.size w1).alloc (Nat.le_refl _) (.cells #[strV Z] 9)) HX0.out)
    have HX1 := hid (keepOwn ((Below.refl w1.heap.size w1).alloc (Nat.le_refl _) (.cells #[strV Z] 9)) HX1.out)
    refine (HR.out w1.heap.size _ (cell_new _ _ _ 0 _ rfl)).mono ?_
    rintro e w2 ⟨vp, rfl, hos, hb2⟩
    have HB3 := hid (below_step hb2 HB2.out)
    obtain ⟨⟨u0, x0⟩, f0⟩ := keepOwn hb2 HX0.out
    obtain ⟨⟨u1, x1⟩, f1⟩ := keepOwn hb2 HX1.out
    have hz2 : w.heap.size + 1 ≤ (w1.alloc (.cells #[strV Z] 9)).heap.size := by
      obtain ⟨⟨u, hu⟩, -⟩ := HX0.out
      exact World.block_lt_of_cell? _ _ hu
    have HOS := hid (hos.mono (B' := w.heap.size + 1) hz2)
    have hz3 : w.heap.size < w2.heap.size := World.block_lt_of_cell? _ _ x0
    clear hb2 hos hz2
    obtain ⟨o, cap, rfl, -, -⟩ := HOS.out.rd
    go_wp2_with fail
    have hne : (Value.slice o L.length cap).ownBlock ≠ some w.heap.size := fun e => by have := (World.ownsRow.lt HOS.out _ e).1; omega
    exact bodyPost_ret (v := .tuple #[.agg #[.slice o L.length cap, .slice none 0 0], .int .i64 0]) (by simp [results, Try.results63, go_sem, x0, x1, hz3]) rfl
      ⟨_, _, rfl, OS.mono (ownsRow_setCell_other (ownsRow_setCell_other HOS.out hne _) hne _) (by omega), oW_nil _ _, (HB3.out.setCell (by simp only; omega) _).setCell (by simp only; omega) _⟩
  · have hr : newDk n = (([], []), 1) := by unfold newDk; rw [if_neg hn]
    rw [hr]
    have hx0 := ownc_new w #[.slice none 0 0, .slice none 0 0] 27 0 (by decide)
    have hb := ((Below.refl w.heap.size w).alloc (Nat.le_refl _) (.cells #[.slice none 0 0, .slice none 0 0] 27))
    have HF := hid (((hb.setCell (p := ⟨w.heap.size, 0, none⟩) (by simp only; omega) (.slice none 0 0)).setCell (p := ⟨w.heap.size, 1, none⟩) (by simp only; omega) (.slice none 0 0)))
    clear hr hx0 hb
    by_cases h4 : n < 4
    · have hd1 : decide (n < 4) = true := by simp; omega
      clear hn
      go_enter Try.func63, Try.ntmps63
      go_wp2_with fail
      exact bodyPost_ret (v := .tuple #[.agg #[.slice none 0 0, .slice none 0 0], .int .i64 1]) (by simp [results, Try.results63, go_sem]) rfl ⟨_, _, rfl, oS_nil _ _, oW_nil _ _, by first | exact HF.out | exact (Below.refl w.heap.size w).alloc (Nat.le_refl _) _⟩
    · have hd1 : decide (n < 4) = false := by simp; omega
      have hd2 : decide (4096 < n) = true := by simp; omega
      clear hn
      go_enter Try.func63, Try.ntmps63
      go_wp2_with fail
      exact bodyPost_ret (v := .tuple #[.agg #[.slice none 0 0, .slice none 0 0], .int .i64 1]) (by simp [results, Try.results63, go_sem]) rfl ⟨_, _, rfl, oS_nil _ _, oW_nil _ _, by first | exact HF.out | exact (Below.refl w.heap.size w).alloc (Nat.le_refl _) _⟩
end Go.Proofs.Ytifcgimpgbeocaa
/- Crash, ReadPage. -/
set_option linter.unusedVariables false
set_option linter.unusedSimpArgs false
namespace Go.Proofs.Ytifcgimpgbeocaa
open Go.RowKit
attribute [local go_sem] Oper.semAt_some
set_option maxHeartbeats 1000000 in
set_option maxRecDepth 100000 in
theorem readpage_any (d : Dk) (vp vq : Value) (p : Int) (w : World) (hp : RdS w vp d.1) (hq : RdW w vq d.2) (hl : d.2.length ≤ 1000000000) : Calls Try.prog 65 #[.agg #[vp, vq], .int .i64 p] w (Ret (.tuple #[strV (readPg d p).1, .int .i64 (readPg d p).2]) w) := by
  have hb0 := (Below.refl w.heap.size w).alloc (Nat.le_refl _) (.cells #[vp, vq] 27)
  have hx : (w.alloc (.cells #[vp, vq] 27)).cell? ⟨w.heap.size, 0, none⟩ = some vp := cell_new _ _ _ 0 _ rfl
  have hy : (w.alloc (.cells #[vp, vq] 27)).cell? ⟨w.heap.size, 1, none⟩ = some vq := cell_new _ _ _ 1 _ rfl
  have HC := hid (fun w' (hb : Below w.heap.size w w') => checkdisk_any d vp vq w' (hp.below hb) (hq.below hb) hl)
  have HR : Hid (∀ w' (hb : Below w.heap.size w w'), Hid (isDk d = true) → ∀ (p : Nat) (hpl : p < d.1.length), Calls Try.prog 112 #[.agg #[vp, vq], .int .i64 p] w' (Ret (strV (wrt d p)) w')) := fun w' (hb : Below w.heap.size w w') (hd : Hid (isDk d = true)) (p : Nat) (hpl : p < d.1.length) => written_any d vp vq p w' (hp.below hb) (hq.below hb) hpl (isDk_len hd.out).2 hl
  have hr : readPg d p = if isDk d = true then (if 0 ≤ p ∧ p < (d.1.length : Int) then (wrt d p.toNat, 0) else ([], 1)) else ([], 142) := rfl
  obtain ⟨op, cp, rfl, -, -⟩ := hp
  obtain ⟨oq, cq, rfl, -, -⟩ := hq
  obtain ⟨q, hq⟩ : ∃ q, isDk d = q := ⟨_, rfl⟩
  obtain ⟨N, hN⟩ : ∃ N, d.1.length = N := ⟨_, rfl⟩
  obtain ⟨R, hR⟩ : ∃ R, readPg d p = R := ⟨_, rfl⟩
  rw [hq] at hr
  simp only [hq] at HC HR
  simp only [hN] at HC HR hr
  rw [hR] at hr ⊢
  simp only [hN] at hx hy hb0 ⊢
  obtain ⟨M, hM⟩ : ∃ M, d.2.length = M := ⟨_, rfl⟩
  simp only [hM] at hx hy hb0 HC HR ⊢
  clear hq hN hR hM
  have HB0 := hid hb0
  have HX := hid hx
  have HY := hid hy
  clear hb0 hx hy hl
  cases q with
  | false =>
    have HRR := hid (show R = ([], 142) from hr)
    clear hr
    go_enter Try.func65, Try.ntmps65
    go_wp2_with fail
    refine (HC.out _ HB0.out).mono ?_
    rintro e w1 ⟨rfl, hb1⟩
    have HB1 := hid (below_step hb1 HB0.out)
    clear hb1
    go_wp2_with fail
    go_ret2
    rw [HRR.out]
    exact ⟨rfl, HB1.out⟩
  | true =>
    by_cases h0 : p < 0
    · have HRR : Hid (R = ([], 1)) := by show R = _; rw [hr, if_pos rfl, if_neg (by omega)]
      clear hr
      have g1 : decide (p < 0) = true := by simpa using h0
      go_enter Try.func65, Try.ntmps65
      go_wp2_with fail
      refine (HC.out _ HB0.out).mono ?_
      rintro e w1 ⟨rfl, hb1⟩
      have HB1 := hid (below_step hb1 HB0.out)
      clear hb1
      go_wp2_with fail
      go_ret2
      rw [HRR.out]
      exact ⟨rfl, HB1.out⟩
    have g1 : decide (p < 0) = false := by simpa using h0
    obtain ⟨m, rfl⟩ : ∃ m : Nat, p = (m : Int) := ⟨p.toNat, by omega⟩
    by_cases h1 : m < N
    · have HRR : Hid (R = (wrt d m, 0)) := by show R = _; rw [hr, if_pos rfl, if_pos (by omega)]; rfl
      clear hr
      have HR1 := hid (fun w' hb => HR.out w' hb (hid rfl) m h1)
      clear HR
      have g2 : decide ((N : Int) ≤ m) = false := by simp; omega
      go_enter Try.func65, Try.ntmps65
      go_wp2_with fail
      refine (HC.out _ HB0.out).mono ?_
      rintro e w1 ⟨rfl, hb1⟩
      have HB1 := hid (below_step hb1 HB0.out)
      have x0 := keepc hb1 HX.out
      have x1 := keepc hb1 HY.out
      clear hb1
      go_wp2_with fail
      refine (HR1.out _ HB1.out).mono ?_
      rintro e w2 ⟨rfl, hb2⟩
      have HB2 := hid (below_step hb2 HB1.out)
      clear hb2
      go_wp2_with fail
      go_ret2
      rw [HRR.out]
      exact ⟨rfl, HB2.out⟩
    · have HRR : Hid (R = ([], 1)) := by show R = _; rw [hr, if_pos rfl, if_neg (by omega)]
      clear hr
      have g2 : decide ((N : Int) ≤ m) = true := by simp; omega
      go_enter Try.func65, Try.ntmps65
      go_wp2_with fail
      refine (HC.out _ HB0.out).mono ?_
      rintro e w1 ⟨rfl, hb1⟩
      have HB1 := hid (below_step hb1 HB0.out)
      have x0 := keepc hb1 HX.out
      have x1 := keepc hb1 HY.out
      clear hb1
      go_wp2_with fail
      go_ret2
      rw [HRR.out]
      exact ⟨rfl, HB1.out⟩
set_option maxHeartbeats 1000000 in
set_option maxRecDepth 100000 in
theorem crashE_any (d : Dk) (vp vq : Value) (cuts : List Int) (vc : Value) (w : World) (hp : RdS w vp d.1) (hq : RdW w vq d.2) (hc : RdI w vc cuts) (hl : d.2.length ≤ 1000000000) : Calls Try.prog 30 #[.agg #[vp, vq], vc] w (RetDk (crashE d cuts).1 (crashE d cuts).2 w) := by
  have hb0 := ((Below.refl w.heap.size w).alloc (Nat.le_refl _) (.cells #[vp, vq] 27)).alloc (by rw [World.size_alloc]; omega) (.cells #[.slice none 0 0, .slice none 0 0] 27)
  have hx := Lib.cell?_alloc_some (.cells #[.slice none 0 0, .slice none 0 0] 27) (cell_new w #[vp, vq] 27 0 vp rfl)
  have hy := Lib.cell?_alloc_some (.cells #[.slice none 0 0, .slice none 0 0] 27) (cell_new w #[vp, vq] 27 1 vq rfl)
  have hy0 := ownc_new (w.alloc (.cells #[vp, vq] 27)) #[.slice none 0 0, .slice none 0 0] 27 0 (by decide)
  have hy1 := ownc_new (w.alloc (.cells #[vp, vq] 27)) #[.slice none 0 0, .slice none 0 0] 27 1 (by decide)
  rw [World.size_alloc] at hy0 hy1
  have HC := hid (fun w' (hb : Below w.heap.size w w') => checkdisk_any d vp vq w' (hp.below hb) (hq.below hb) hl)
  have HR : Hid (∀ w' (hb : Below w.heap.size w w'), Hid (isDk d = true) → Calls Try.prog 83 #[.agg #[vp, vq], vc] w' (RetD1 (crashDk d cuts) w')) := fun w' (hb : Below w.heap.size w w') hd => crash_any d vp vq cuts vc w' (hp.below hb) (hq.below hb) (hc.below hb) hd.out hl
  have hr : crashE d cuts = if isDk d = true then (crashDk d cuts, 0) else (([], []), 142) := rfl
  obtain ⟨op, cp, rfl, -, -⟩ := hp
  obtain ⟨oq, cq, rfl, -, -⟩ := hq
  obtain ⟨q, hq⟩ : ∃ q, isDk d = q := ⟨_, rfl⟩
  obtain ⟨R, hR⟩ : ∃ R, crashE d cuts = R := ⟨_, rfl⟩
  rw [hq] at hr
  simp only [hq] at HC HR
  rw [hR] at hr ⊢
  clear hq hR
  have HB0 := hid hb0
  have HX := hid hx
  have HY := hid hy
  have HY0 := hid hy0
  have HY1 := hid hy1
  clear hb0 hx hy hl hy0 hy1
  cases q with
  | false =>
    have HRR := hid (show R = (([], []), 142) from hr)
    clear hr
    go_enter Try.func30, Try.ntmps30
    have x0 := HX.out
    have x1 := HY.out
    go_wp2_with fail
    refine (HC.out _ HB0.out).mono ?_
    rintro e w1 ⟨rfl, hb1⟩
    have HB1 := hid (below_step hb1 HB0.out)
    obtain ⟨⟨u0, y0⟩, f0⟩ := keepOwn hb1 HY0.out
    obtain ⟨⟨u1, y1⟩, f1⟩ := keepOwn hb1 HY1.out
    have hz := HB1.out.size
    clear hb1
    go_wp2_with fail
    rw [HRR.out]
    exact bodyPost_ret (v := .tuple #[.agg #[.slice none 0 0, .slice none 0 0], .int .i64 142]) (by simp [results, Try.results30, go_sem, y0, y1, hz]) rfl ⟨_, _, rfl, oS_nil _ _, oW_nil _ _, (HB1.out.setCell (by simp only; omega) _).setCell (by simp only; omega) _⟩
  | true =>
    have HRR := hid (show R = (crashDk d cuts, 0) from hr)
    clear hr
    have HR1 := hid (fun w' hb => HR.out w' hb (hid rfl))
    clear HR
    go_enter Try.func30, Try.ntmps30
    have x0 := HX.out
    have x1 := HY.out
    go_wp2_with fail
    refine (HC.out _ HB0.out).mono ?_
    rintro e w1 ⟨rfl, hb1⟩
    have HB1 := hid (below_step hb1 HB0.out)
    have x0 := keepc hb1 HX.out
    have x1 := keepc hb1 HY.out
    have HY0 := hid (keepOwn hb1 HY0.out)
    have HY1 := hid (keepOwn hb1 HY1.out)
    clear hb1
    go_wp2_with fail
    refine (HR1.out _ HB1.out).mono ?_
    rintro e w2 ⟨up, uq, rfl, ho1, ho2, hb2⟩
    have HB2 := hid (below_step hb2 HB1.out)
    have HO1 := hid ho1
    have HO2 := hid ho2
    obtain ⟨⟨u0, y0⟩, f0⟩ := keepOwn hb2 HY0.out
    obtain ⟨⟨u1, y1⟩, f1⟩ := keepOwn hb2 HY1.out
    have hz := HB2.out.size
    have hz1 : w.heap.size + 1 < w1.heap.size := by obtain ⟨⟨u, hu⟩, -⟩ := HY0.out; exact World.block_lt_of_cell? _ _ hu
    clear hb2 ho1 ho2
    obtain ⟨o1, q1, rfl, -, -⟩ := HO1.out.rd
    obtain ⟨o2, q2, rfl, -, -⟩ := HO2.out.rd
    go_wp2_with fail
    rw [HRR.out]
    have hn1 : (Value.slice o1 (crashDk d cuts).1.length q1).ownBlock ≠ some (w.heap.size + 1) := fun e => by have := (World.ownsRow.lt HO1.out _ e).1; omega
    have hn2 : (Value.slice o2 (crashDk d cuts).2.length q2).ownBlock ≠ some (w.heap.size + 1) := fun e => by have := (World.ownsRow.lt HO2.out _ e).1; omega
    exact bodyPost_ret (v := .tuple #[.agg #[.slice o1 (crashDk d cuts).1.length q1, .slice o2 (crashDk d cuts).2.length q2], .int .i64 0]) (by simp [results, Try.results30, go_sem, y0, y1, hz]) rfl
      ⟨_, _, rfl, OS.mono (ownsRow_setCell_other (ownsRow_setCell_other HO1.out hn1 _) hn1 _) (by omega), OW.mono (ownsRow_setCell_other (ownsRow_setCell_other HO2.out hn2 _) hn2 _) (by omega), (HB2.out.setCell (by simp only; omega) _).setCell (by simp only; omega) _⟩
end Go.Proofs.Ytifcgimpgbeocaa
