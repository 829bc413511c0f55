/- Rewrite. -/
import Derived.Test.YtifcgimpgbeocaaGreatK22
import Derived.Test.YtifcgimpgbeocaaGreatK9
import Derived.Deep.RegionLaw
import Derived.Test.YtifcgimpgbeocaaGreatK20
import Derived.Test.YtifcgimpgbeocaaGreatK21
import Derived.Test.YtifcgimpgbeocaaGreatK10
import Derived.Test.YtifcgimpgbeocaaGreatK7
set_option linter.unusedVariables false
set_option linter.unusedSimpArgs false
namespace Go.Proofs.YtifcgimpgbeocaaGreat
open Go.RowKit
attribute [local go_sem] Oper.semAt_some
theorem encR_set (d : Ds) (i : Nat) (r x : Rec) (h : d[i]? = some x) : encR (d.set i r) = ((encR d).set (i * 2) (strV r.1)).set (i * 2 + 1) (strV r.2) := by
  obtain ⟨hi, rfl⟩ := List.getElem?_eq_some_iff.1 h
  have hd : d = d.take i ++ d[i] :: d.drop (i + 1) := by rw [← List.drop_eq_getElem_cons hi, List.take_append_drop]
  have hl : (encR (d.take i)).length = i * 2 := by rw [encR_length, List.length_take]; congr 1; omega
  have e1 : d.set i r = d.take i ++ r :: d.drop (i + 1) := by rw [List.set_eq_take_append_cons_drop, if_pos hi]
  have e2 : encR d = encR (d.take i) ++ (strV d[i].1 :: strV d[i].2 :: encR (d.drop (i + 1))) := by
    conv => lhs; rw [hd]
    rw [encR_append, encR_cons]
    rfl
  rw [e1, encR_append, encR_cons, e2, List.set_append_right _ _ (by omega), hl, Nat.sub_self, List.set_cons_zero, List.set_append_right _ _ (by omega), hl, show i * 2 + 1 - i * 2 = 0 + 1 by omega, List.set_cons_succ, List.set_cons_zero]
  rfl
theorem oR_stored {w : World} {B g n cap i : Nat} {d : Ds} {r : Rec} (hO : OR w B (.slice (some ⟨g, 0, none⟩) n cap) d) (hn : d.length = n) (hi : i < n) :
    OR ((w.setCell ⟨g, i * 2, none⟩ (strV r.1)).setCell ⟨g, i * 2 + 1, none⟩ (strV r.2)) B (.slice (some ⟨g, 0, none⟩) n cap) (d.set i r) ∧ w.grownBy ((w.setCell ⟨g, i * 2, none⟩ (strV r.1)).setCell ⟨g, i * 2 + 1, none⟩ (strV r.2)) (some g) := by
  unfold OR at hO
  rw [hn] at hO
  obtain ⟨h1, g1⟩ := hO.stored (i * 2) (strV r.1)
  obtain ⟨h2, g2⟩ := h1.stored (i * 2 + 1) (strV r.2)
  unfold OR
  rw [List.length_set, hn, encR_set d i r _ (List.getElem?_eq_getElem (by omega))]
  exact ⟨h2, grown_trans g1 g2⟩
set_option maxHeartbeats 2000000 in
set_option maxRecDepth 100000 in
theorem rewrite_any (d : Ds) (v : Value) (r : Rec) (w : World) (hR : RdR w v d) : Calls Tryz.prog 114 #[v, recV r] w (RetR (rewriteD d r).1 (rewriteD d r).2 w) := by
  have hB0 := (Below.refl w.heap.size w).alloc (Nat.le_refl _) (.cells #[strV r.1, strV r.2] 59)
  have x0 : (w.alloc (.cells #[strV r.1, strV r.2] 59)).cell? ⟨w.heap.size, 0, none⟩ = some (strV r.1) := cell_new _ _ _ 0 _ rfl
  have x1 : (w.alloc (.cells #[strV r.1, strV r.2] 59)).cell? ⟨w.heap.size, 1, none⟩ = some (strV r.2) := cell_new _ _ _ 1 _ rfl
  have HB0 := hid hB0; have HX0 := hid x0; have HX1 := hid x1
  have HK := hid (fun w => isrecord_any r w)
  have HA := hid (fun w' (hb : Below w.heap.size w w') => ask_any' d v (isRec r) w' (hR.below hb))
  by_cases hok : isDs d = true ∧ isRec r = true
  rotate_left
  · have hr : rewriteD d r = ([], askE d (isRec r)) := by
      unfold rewriteD askE
      split
      · rename_i h1
        have h2 : ¬ isRec r = true := fun h2 => hok ⟨h1, h2⟩
        rw [if_neg h2, if_neg h2]
      · rfl
    rw [hr]
    have g := askE_ne hok
    obtain ⟨E, hE⟩ : ∃ E, askE d (isRec r) = E := ⟨_, rfl⟩
    rw [hE] at HA g ⊢
    clear hE hr hok hR hB0
    go_enter Tryz.func114, Tryz.ntmps114
    go_wp2_with fail
    refine (HK.out _).mono ?_
    rintro e w1 ⟨rfl, hb1⟩
    have HB1 := hid (below_step hb1 HB0.out)
    clear hb1
    go_wp2_with fail
    refine (HA.out _ HB1.out).mono ?_
    rintro e w2 ⟨rfl, hb2⟩
    have HB2 := hid (below_step hb2 HB1.out)
    clear hb2
    go_wp2_with fail
    go_ret2
    exact ⟨_, rfl, oR_nil _ _, HB2.out⟩
  obtain ⟨hd, hk⟩ := hok
  rw [askE_ok hd hk] at HA
  have HAT := hid (fun w' (hb : Below w.heap.size w w') => at_any d v r.1 w' (hR.below hb) (isDs_len hd))
  have hl := isDs_len hd
  cases hh : hasD d r.1 with
  | false =>
    have hr : rewriteD d r = ([], 4) := by unfold rewriteD; rw [if_pos hd, if_pos hk, hh]; rfl
    rw [hr]
    rw [hh] at HAT
    obtain ⟨J, hJ⟩ : ∃ J, atD d r.1 = J := ⟨_, rfl⟩
    rw [hJ] at HAT
    clear hr hh hJ hd hk hR hl hB0 x0 x1
    go_enter Tryz.func114, Tryz.ntmps114
    have x1 := HX1.out; have x0 := HX0.out
    go_wp2_with fail
    refine (HK.out _).mono ?_
    rintro e w1 ⟨rfl, hb1⟩
    have HB1 := hid (below_step hb1 HB0.out)
    have x0 := keepc hb1 HX0.out
    clear hb1
    go_wp2_with fail
    refine (HA.out _ HB1.out).mono ?_
    rintro e w2 ⟨rfl, hb2⟩
    have HB2 := hid (below_step hb2 HB1.out)
    have x0 := keepc hb2 x0
    clear hb2
    go_wp2_with fail
    refine (HAT.out _ HB2.out).mono ?_
    rintro e w3 ⟨rfl, hb3⟩
    have HB3 := hid (below_step hb3 HB2.out)
    clear hb3
    go_wp2_with fail
    go_ret2
    exact ⟨_, rfl, oR_nil _ _, HB3.out⟩
  | true =>
    rw [hh] at HAT
    have hr : rewriteD d r = (d.set (atD d r.1) r, 0) := by unfold rewriteD; rw [if_pos hd, if_pos hk, hh]; rfl
    rw [hr]
    obtain ⟨s, hs⟩ := hasD_at hh
    have hlt : atD d r.1 < d.length := (List.getElem?_eq_some_iff.1 hs).1
    have HCL := hid (fun w' (hb : Below w.heap.size w w') => cloneR_any d v w' (hR.below hb) (by omega))
    obtain ⟨J, hJ⟩ : ∃ J, atD d r.1 = J := ⟨_, rfl⟩
    obtain ⟨N, hN⟩ : ∃ N, d.length = N := ⟨_, rfl⟩
    rw [hJ] at HAT hlt ⊢
    rw [hN] at hl hlt
    have HN := hid hN
    clear hr hh hJ hd hk hR hB0 x0 x1 hs hN
    go_enter Tryz.func114, Tryz.ntmps114
    have x1 := HX1.out; have x0 := HX0.out
    go_wp2_with fail
    refine (HK.out _).mono ?_
    rintro e w1 ⟨rfl, hb1⟩
    have HB1 := hid (below_step hb1 HB0.out)
    have x0 := keepc hb1 HX0.out
    have x1 := keepc hb1 HX1.out
    clear hb1
    go_wp2_with fail
    refine (HA.out _ HB1.out).mono ?_
    rintro e w2 ⟨rfl, hb2⟩
    have HB2 := hid (below_step hb2 HB1.out)
    have x0 := keepc hb2 x0
    have x1 := keepc hb2 x1
    clear hb2
    go_wp2_with fail
    refine (HAT.out _ HB2.out).mono ?_
    rintro e w3 ⟨rfl, hb3⟩
    have HB3 := hid (below_step hb3 HB2.out)
    have x0 := keepc hb3 x0
    have x1 := keepc hb3 x1
    clear hb3
    go_wp2_with fail
    refine (HCL.out _ HB3.out).mono ?_
    rintro e w4 ⟨u4, rfl, ho4, hb4⟩
    have x0 := keepc hb4 x0
    have x1 := keepc hb4 x1
    have HB4 := hid (below_step hb4 HB3.out)
    have hz4 := HB3.out.size
    have hzz4 := hb4.size
    obtain ⟨g, cap, rfl, hgB, hgl, hgc, hfz, hcc⟩ := ho4.cells (by have := HN.out; omega)
    have hN := HN.out
    rw [hN] at ho4 hgc ⊢
    have f0 := hfz (J * 2)
    have f1 := hfz (J * 2 + 1)
    obtain ⟨y0, hy0⟩ : ∃ y, w4.cell? ⟨g, J * 2, none⟩ = some y := ⟨_, hcc _ _ (List.getElem?_eq_getElem (by rw [encR_length]; omega))⟩
    obtain ⟨y1, hy1⟩ : ∃ y, w4.cell? ⟨g, J * 2 + 1, none⟩ = some y := ⟨_, hcc _ _ (List.getElem?_eq_getElem (by rw [encR_length]; omega))⟩
    have HO4 := hid ho4
    have HST := hid (oR_stored (r := r) ho4 hN hlt)
    clear hfz hcc ho4 hN hb4
    go_wp2_with fail
    go_ret2
    exact ⟨_, rfl, HST.out.1.mono hz4, HB4.out.grown HST.out.2 (by omega) (fun k hk => by cases hk; omega)⟩
end Go.Proofs.YtifcgimpgbeocaaGreat
/- slices.Delete at records: one of them struck out. -/
set_option linter.unusedVariables false
set_option linter.unusedSimpArgs false
namespace Go.Proofs.YtifcgimpgbeocaaGreat
open Go.RowKit
attribute [local go_sem] Oper.semAt_some
/-- Clear, as the walk has it. -/
theorem wpList_clear_run {w : World} {ops : Array Oper} {rest : List Oper} {o : Oper} {a : Act} {Q : Exit → Act → World → Prop} (hgd : o.guard = none) (s : Operand) (t : TypeId)
    (ho : o.op = .call { callee := .builtin .clear, args := #[s], argTypes := #[t] }) (v : Value) (hs : a.eval s = v) {v' : Value} {w' : World}
    (hr : (Builtin.clear_ #[t] o.type #[v]).run Tryz.prog w = .ok v' w') (h : wpList Tryz.prog ops Q rest (a.put o.dst v') w') : wpList Tryz.prog ops Q (o :: rest) a w :=
  wpList_plain hgd fun K hK => by
    unfold Oper.wp execOp
    simp only [ho, resolve, invoke, builtin, Sem.run_bind, Sem.run_pure, Result.andThen_ok, List.map_toArray, List.map_cons, List.map_nil, hs, hr]
    exact hK _ _ h
set_option maxRecDepth 100000 in
theorem delR_any (d : Ds) (g cap i B : Nat) (w : World) (hO : OR w B (.slice (some ⟨g, 0, none⟩) d.length cap) d) (hi : i < d.length) (hl : d.length ≤ 64) (hB : B ≤ w.heap.size) :
    Calls Tryz.prog 128 #[.slice (some ⟨g, 0, none⟩) d.length cap, .int .i64 (i : Int), .int .i64 ((i : Int) + 1)] w (fun e w' => e = .returned (.slice (some ⟨g, 0, none⟩) (d.length - 1) cap) ∧ OR w' B (.slice (some ⟨g, 0, none⟩) (d.length - 1) cap) (d.eraseIdx i) ∧ w.grownBy w' (some g)) := by
  obtain ⟨g', cap', hv, hgB, hgl, hgc, hfz, hcc⟩ := hO.cells (by omega)
  simp only [Value.slice.injEq, Option.some.injEq, Addr.mk.injEq, true_and, and_true] at hv
  obtain ⟨rfl, rfl⟩ := hv
  obtain ⟨N, hN⟩ : ∃ N, d.length = N := ⟨_, rfl⟩
  rw [hN] at hO hi hl hgc ⊢
  have HN := hid hN; have HO := hid hO
  clear hcc hfz hN hO
  have q1 : (0 : Int) ≤ (i : Int) := by omega
  have q2 : (i : Int) ≤ (i : Int) + 1 := by omega
  have q3 : (i : Int) + 1 ≤ (N : Int) := by omega
  have q4 : (N : Int) ≤ (cap : Int) := by omega
  have q5 : (i : Int) ≤ cap := by omega
  have q6 : (0 : Int) ≤ (i : Int) + 1 := by omega
  have q7 : ((i : Int) + 1).toNat = i + 1 := by omega
  have g1 : ((i : Int) == (i : Int) + 1) = false := by rw [beq_eq_false_iff_ne]; omega
  go_enter Tryz.func128, Tryz.ntmps128
  go_wp2_with fail
  have hA := hid (show N - (i + 1) = 0 ∨ cutR g (i + 1) cap = ⟨g, (i + 1) * 2, none⟩ by unfold cutR; split <;> simp <;> omega)
  go_region_law (refine step_delR rfl (.tmp 22) (.tmp 25) rfl B g N cap i (cap - (i + 1)) (cutR g (i + 1) cap) d (by simp [Act.eval, Act.put]) (by simp [Act.eval, Act.put]) (HO.out.below (by first | exact (Below.refl _ _).drew | exact Below.refl _ _)) HN.out hi hA.out ?_; intro w7 hop7 hg7)
  have hel : (d.eraseIdx i).length = N - 1 := by rw [List.length_eraseIdx, HN.out, if_pos hi]
  obtain ⟨w8, hcl, hO8, hg8⟩ := exec_clearR (c := cap - (N - 1)) 1 hop7 hel (by omega) (by omega)
  have hg0 : w.grownBy w8 (some g) := grown_trans (grown_trans (below_grow (Below.refl _ _).drew _) hg7) hg8
  have HCL := hid hcl; have HO8 := hid hO8; have HG0 := hid hg0
  clear hop7 hg7 hcl hO8 hg8 hg0 hel
  have r1 : (0 : Int) ≤ ((N - 1 : Nat) : Int) := by omega
  have r2 : ((N - 1 : Nat) : Int) ≤ (N : Int) := by omega
  have r3 : cutR g (N - 1) cap = ⟨g, (N - 1) * 2, none⟩ := cutR_lt (by omega)
  have r4 : N - (N - 1) = 1 := by omega
  go_wp2_with (refine wpList_clear_run rfl _ _ rfl _ rfl (HCL.out _) ?_)
  go_wp2_with fail
  go_ret
  exact ⟨rfl, HO8.out, HG0.out⟩
end Go.Proofs.YtifcgimpgbeocaaGreat
/- Delete. -/
set_option linter.unusedVariables false
set_option linter.unusedSimpArgs false
namespace Go.Proofs.YtifcgimpgbeocaaGreat
open Go.RowKit
attribute [local go_sem] Oper.semAt_some
set_option maxHeartbeats 2000000 in
set_option maxRecDepth 100000 in
theorem delete_any (d : Ds) (v : Value) (k : Bs) (w : World) (hR : RdR w v d) : Calls Tryz.prog 115 #[v, strV k] w (RetR (deleteD d k).1 (deleteD d k).2 w) := by
  have HK := hid (fun w => iskey_any k w)
  have HA := hid (fun w' (hb : Below w.heap.size w w') => ask_any' d v (isKey k) w' (hR.below hb))
  by_cases hok : isDs d = true ∧ isKey k = true
  rotate_left
  · have hr : deleteD d k = ([], askE d (isKey k)) := by
      unfold deleteD askE
      split
      · rename_i h1
        have h2 : ¬ isKey k = true := fun h2 => hok ⟨h1, h2⟩
        rw [if_neg h2, if_neg h2]
      · rfl
    rw [hr]
    have g := askE_ne hok
    obtain ⟨E, hE⟩ : ∃ E, askE d (isKey k) = E := ⟨_, rfl⟩
    rw [hE] at HA g ⊢
    clear hE hr hok hR
    go_enter Tryz.func115, Tryz.ntmps115
    go_wp2_with fail
    refine (HK.out _).mono ?_
    rintro e w1 ⟨rfl, hb1⟩
    have HB1 := hid hb1
    clear hb1
    go_wp2_with fail
    refine (HA.out _ HB1.out).mono ?_
    rintro e w2 ⟨rfl, hb2⟩
    have HB2 := hid (below_step hb2 HB1.out)
    clear hb2
    go_wp2_with fail
    go_ret2
    exact ⟨_, rfl, oR_nil _ _, HB2.out⟩
  obtain ⟨hd, hk⟩ := hok
  rw [askE_ok hd hk] at HA
  have HAT := hid (fun w' (hb : Below w.heap.size w w') => at_any d v k w' (hR.below hb) (isDs_len hd))
  have hl := isDs_len hd
  cases hh : hasD d k with
  | false =>
    have hr : deleteD d k = ([], 4) := by unfold deleteD; rw [if_pos hd, if_pos hk, hh]; rfl
    rw [hr]
    rw [hh] at HAT
    obtain ⟨J, hJ⟩ : ∃ J, atD d k = J := ⟨_, rfl⟩
    rw [hJ] at HAT
    clear hr hh hJ hd hk hR hl
    go_enter Tryz.func115, Tryz.ntmps115
    go_wp2_with fail
    refine (HK.out _).mono ?_
    rintro e w1 ⟨rfl, hb1⟩
    have HB1 := hid hb1
    clear hb1
    go_wp2_with fail
    refine (HA.out _ HB1.out).mono ?_
    rintro e w2 ⟨rfl, hb2⟩
    have HB2 := hid (below_step hb2 HB1.out)
    clear hb2
    go_wp2_with fail
    refine (HAT.out _ HB2.out).mono ?_
    rintro e w3 ⟨rfl, hb3⟩
    have HB3 := hid (below_step hb3 HB2.out)
    clear hb3
    go_wp2_with fail
    go_ret2
    exact ⟨_, rfl, oR_nil _ _, HB3.out⟩
  | true =>
    rw [hh] at HAT
    have hr : deleteD d k = (d.eraseIdx (atD d k), 0) := by unfold deleteD; rw [if_pos hd, if_pos hk, hh]; rfl
    rw [hr]
    obtain ⟨s, hs⟩ := hasD_at hh
    have hlt : atD d k < d.length := (List.getElem?_eq_some_iff.1 hs).1
    have HCL := hid (fun w' (hb : Below w.heap.size w w') => cloneR_any d v w' (hR.below hb) (by omega))
    obtain ⟨J, hJ⟩ : ∃ J, atD d k = J := ⟨_, rfl⟩
    obtain ⟨N, hN⟩ : ∃ N, d.length = N := ⟨_, rfl⟩
    rw [hJ] at HAT hlt ⊢
    have HDEL := hid (fun (g cap B : Nat) (w : World) (h1 : OR w B (.slice (some ⟨g, 0, none⟩) d.length cap) d) (h2 : B ≤ w.heap.size) => delR_any d g cap J B w h1 hlt hl h2)
    rw [hN] at hl hlt HDEL
    have HN := hid hN
    clear hr hh hJ hd hk hR hs hN
    have w0 : IntKind.i64.wrap ((J : Int) + 1) = (J : Int) + 1 := IntWalk.i64_in _ ⟨by omega, by omega⟩
    go_enter Tryz.func115, Tryz.ntmps115
    go_wp2_with fail
    refine (HK.out _).mono ?_
    rintro e w1 ⟨rfl, hb1⟩
    have HB1 := hid hb1
    clear hb1
    go_wp2_with fail
    refine (HA.out _ HB1.out).mono ?_
    rintro e w2 ⟨rfl, hb2⟩
    have HB2 := hid (below_step hb2 HB1.out)
    clear hb2
    go_wp2_with fail
    refine (HAT.out _ HB2.out).mono ?_
    rintro e w3 ⟨rfl, hb3⟩
    have HB3 := hid (below_step hb3 HB2.out)
    clear hb3
    go_wp2_with fail
    refine (HCL.out _ HB3.out).mono ?_
    rintro e w4 ⟨u4, rfl, ho4, hb4⟩
    have HB4 := hid (below_step hb4 HB3.out)
    have hz4 := HB3.out.size
    have hzz4 := hb4.size
    obtain ⟨g, cap, rfl, hgB, hgl, hgc, -, -⟩ := ho4.cells (by have := HN.out; omega)
    have hN := HN.out
    rw [hN] at ho4 hgc ⊢
    have HC4 := hid (HDEL.out g cap _ w4 ho4 hzz4)
    clear ho4 hN hb4 HDEL
    go_wp2_with fail
    refine (HC4.out).mono ?_
    rintro e w5 ⟨rfl, ho5, hg5⟩
    have HO5 := hid ho5; have HG5 := hid hg5
    clear ho5 hg5
    go_wp2_with fail
    go_ret2
    exact ⟨_, rfl, HO5.out.mono hz4, HB4.out.grown HG5.out (by omega) (fun k hk => by cases hk; omega)⟩
end Go.Proofs.YtifcgimpgbeocaaGreat
/- Apply. -/
set_option linter.unusedVariables false
set_option linter.unusedSimpArgs false
namespace Go.Proofs.YtifcgimpgbeocaaGreat
open Go.RowKit
attribute [local go_sem] Oper.semAt_some
/-- A call that returns records, a record and an error. -/
def RetA (l : Ds) (x : Rec) (n : Int) (w : World) (e : Ending) (w' : World) : Prop := ∃ v, e = .returned (.tuple #[v, .agg #[strV x.1, strV x.2], .int .i64 n]) ∧ OR w' w.heap.size v l ∧ Below w.heap.size w w'
theorem writeD_bad {d : Ds} {r : Rec} (h : (writeD d r).2 ≠ 0) : (writeD d r).1 = [] := by
  unfold writeD at *
  repeat (split at h <;> rename_i hh <;> first | rw [if_pos hh] | rw [if_neg hh])
  all_goals first | rfl | exact absurd rfl h
theorem rewriteD_bad {d : Ds} {r : Rec} (h : (rewriteD d r).2 ≠ 0) : (rewriteD d r).1 = [] := by
  unfold rewriteD at *
  repeat (split at h <;> rename_i hh <;> first | rw [if_pos hh] | rw [if_neg hh])
  all_goals first | rfl | exact absurd rfl h
theorem deleteD_bad {d : Ds} {k : Bs} (h : (deleteD d k).2 ≠ 0) : (deleteD d k).1 = [] := by
  unfold deleteD at *
  repeat (split at h <;> rename_i hh <;> first | rw [if_pos hh] | rw [if_neg hh])
  all_goals first | rfl | exact absurd rfl h
/-- What Apply makes of what its kind's function has answered. -/
def outA (out : Ds) (f : Rec) (E : Int) : Ds × Rec × Int := if E = 0 then (out, f, 0) else ([], ([], []), E)
theorem applyD_1 {d : Ds} {o : FOp} (hd : isDs d = true) (ho : isOp o = true) (h : o.1 = 1) : applyD d o = outA d (o.2.2.1, (readD d o.2.2.1).1) (readD d o.2.2.1).2 := by
  unfold applyD outA; rw [if_pos hd, if_pos ho, if_pos h]
theorem applyD_2 {d : Ds} {o : FOp} (hd : isDs d = true) (ho : isOp o = true) (h : o.1 = 2) : applyD d o = outA d (nextD d o.2.2.1).1 (nextD d o.2.2.1).2 := by
  unfold applyD outA; rw [if_pos hd, if_pos ho, if_neg (by omega), if_pos h]
theorem applyD_3 {d : Ds} {o : FOp} (hd : isDs d = true) (ho : isOp o = true) (h : o.1 = 3) : applyD d o = outA (writeD d o.2.2).1 ([], []) (writeD d o.2.2).2 := by
  unfold applyD outA; rw [if_pos hd, if_pos ho, if_neg (by omega), if_neg (by omega), if_pos h]
  split
  · rename_i he; rw [he]
  · rename_i he; rw [writeD_bad he]
theorem applyD_4 {d : Ds} {o : FOp} (hd : isDs d = true) (ho : isOp o = true) (h : o.1 = 4) : applyD d o = outA (rewriteD d o.2.2).1 ([], []) (rewriteD d o.2.2).2 := by
  unfold applyD outA; rw [if_pos hd, if_pos ho, if_neg (by omega), if_neg (by omega), if_neg (by omega), if_pos h]
  split
  · rename_i he; rw [he]
  · rename_i he; rw [rewriteD_bad he]
theorem applyD_5 {d : Ds} {o : FOp} (hd : isDs d = true) (ho : isOp o = true) (h : o.1 = 5) : applyD d o = outA (deleteD d o.2.2.1).1 ([], []) (deleteD d o.2.2.1).2 := by
  unfold applyD outA; rw [if_pos hd, if_pos ho, if_neg (by omega), if_neg (by omega), if_neg (by omega), if_neg (by omega)]
  split
  · rename_i he; rw [he]
  · rename_i he; rw [deleteD_bad he]
set_option maxHeartbeats 400000 in
set_option maxRecDepth 100000 in
theorem apply_any (d : Ds) (v : Value) (o : FOp) (w : World) (hR : RdR w v d) : Calls Tryz.prog 86 #[v, opV o] w (RetA (applyD d o).1 (applyD d o).2.1 (applyD d o).2.2 w) := by
  have HIS := hid (fun w => isop_any o w)
  have HA := hid (fun w' (hb : Below w.heap.size w w') => ask_any' d v (isOp o) w' (hR.below hb))
  obtain ⟨k, f, a, s⟩ := o
  have hB0 := ((Below.refl w.heap.size w).alloc (Nat.le_refl _) (.cells #[.int .i64 k, .int .i64 f, strV a, strV s] 55)).alloc (by rw [World.size_alloc]; omega) (.cells #[strV [], strV []] 59)
  have HB0 := hid hB0
  have hx0 := Lib.cell?_alloc_some (.cells #[strV [], strV []] 59) (cell_new w #[.int .i64 k, .int .i64 f, strV a, strV s] 55 0 (.int .i64 k) rfl)
  have hx1 := Lib.cell?_alloc_some (.cells #[strV [], strV []] 59) (cell_new w #[.int .i64 k, .int .i64 f, strV a, strV s] 55 1 (.int .i64 f) rfl)
  have hx2 := Lib.cell?_alloc_some (.cells #[strV [], strV []] 59) (cell_new w #[.int .i64 k, .int .i64 f, strV a, strV s] 55 2 (strV a) rfl)
  have hx3 := Lib.cell?_alloc_some (.cells #[strV [], strV []] 59) (cell_new w #[.int .i64 k, .int .i64 f, strV a, strV s] 55 3 (strV s) rfl)
  have hy0 := ownc_new (w.alloc (.cells #[.int .i64 k, .int .i64 f, strV a, strV s] 55)) #[strV [], strV []] 59 0 (by decide)
  have hy1 := ownc_new (w.alloc (.cells #[.int .i64 k, .int .i64 f, strV a, strV s] 55)) #[strV [], strV []] 59 1 (by decide)
  rw [World.size_alloc] at hy0 hy1
  have HX0 := hid hx0; have HX1 := hid hx1; have HX2 := hid hx2; have HX3 := hid hx3; have HY0 := hid hy0; have HY1 := hid hy1
  clear hB0 hx0 hx1 hx2 hx3 hy0 hy1
  by_cases hok : isDs d = true ∧ isOp (k, f, a, s) = true
  rotate_left
  · have hr : applyD d (k, f, a, s) = ([], ([], []), askE d (isOp (k, f, a, s))) := by
      unfold applyD askE
      split
      · rename_i h1
        have h2 : ¬ isOp (k, f, a, s) = true := fun h2 => hok ⟨h1, h2⟩
        rw [if_neg h2, if_neg h2]
      · rfl
    rw [hr]
    have g := askE_ne hok
    obtain ⟨E, hE⟩ : ∃ E, askE d (isOp (k, f, a, s)) = E := ⟨_, rfl⟩
    obtain ⟨q, hq⟩ : ∃ q, isOp (k, f, a, s) = q := ⟨_, rfl⟩
    rw [hE] at HA g ⊢
    rw [hq] at HA HIS
    clear hE hr hok hR hq
    go_enter Tryz.func86, Tryz.ntmps86
    have x0 := HX0.out; have x1 := HX1.out; have x2 := HX2.out; have x3 := HX3.out
    go_wp2_with fail
    refine (HIS.out _).mono ?_
    rintro e w1 ⟨rfl, hb1⟩
    have HB1 := hid (below_step hb1 HB0.out)
    have HY0 := hid (keepOwn hb1 HY0.out)
    have HY1 := hid (keepOwn hb1 HY1.out)
    clear hb1
    go_wp2_with fail
    refine (HA.out _ HB1.out).mono ?_
    rintro e w2 ⟨rfl, hb2⟩
    have HB2 := hid (below_step hb2 HB1.out)
    obtain ⟨⟨u0, y0⟩, f0⟩ := keepOwn hb2 HY0.out
    obtain ⟨⟨u1, y1⟩, f1⟩ := keepOwn hb2 HY1.out
    have hz := HB2.out.size
    clear hb2
    go_wp2_with fail
    exact bodyPost_ret (v := .tuple #[.slice none 0 0, .agg #[strV [], strV []], .int .i64 E]) (by simp [results, Tryz.results86, go_sem, y0, y1, hz]) rfl ⟨_, rfl, oR_nil _ _, (HB2.out.setCell (by simp only; omega) _).setCell (by simp only; omega) _⟩
  obtain ⟨hd, ho⟩ := hok
  rw [askE_ok hd ho] at HA
  rw [ho] at HIS HA
  have hl := isDs_len hd
  obtain ⟨k1, k2⟩ := isOp_kinds ho
  simp only at k1 k2
  have HCL := hid (fun w' (hb : Below w.heap.size w w') => cloneR_any d v w' (hR.below hb) (by omega))
  obtain ⟨R, hRR⟩ : ∃ R, applyD d (k, f, a, s) = R := ⟨_, rfl⟩
  rw [hRR]
  have HS1 := hid (fun (h : k = 1) => (applyD_1 (o := (k, f, a, s)) hd ho h).symm.trans hRR)
  have HS2 := hid (fun (h : k = 2) => (applyD_2 (o := (k, f, a, s)) hd ho h).symm.trans hRR)
  have HS3 := hid (fun (h : k = 3) => (applyD_3 (o := (k, f, a, s)) hd ho h).symm.trans hRR)
  have HS4 := hid (fun (h : k = 4) => (applyD_4 (o := (k, f, a, s)) hd ho h).symm.trans hRR)
  have HS5 := hid (fun (h : k = 5) => (applyD_5 (o := (k, f, a, s)) hd ho h).symm.trans hRR)
  have HRD := hid hR
  clear hRR hd ho hR hl
  go_enter Tryz.func86, Tryz.ntmps86
  have x0 := HX0.out; have x1 := HX1.out; have x2 := HX2.out; have x3 := HX3.out
  go_wp2_with fail
  refine (HIS.out _).mono ?_
  rintro e w1 ⟨rfl, hb1⟩
  have HB1 := hid (below_step hb1 HB0.out)
  have HY0 := hid (keepOwn hb1 HY0.out)
  have HY1 := hid (keepOwn hb1 HY1.out)
  have x0 := keepc hb1 x0
  have x2 := keepc hb1 x2
  have x3 := keepc hb1 x3
  clear hb1
  go_wp2_with fail
  refine (HA.out _ HB1.out).mono ?_
  rintro e w2 ⟨rfl, hb2⟩
  have HB2 := hid (below_step hb2 HB1.out)
  have HY0 := hid (keepOwn hb2 HY0.out)
  have HY1 := hid (keepOwn hb2 HY1.out)
  have x0 := keepc hb2 x0
  have x2 := keepc hb2 x2
  have x3 := keepc hb2 x3
  have hz2 := HB2.out.size
  have hy2 : w.heap.size + 1 < w2.heap.size := by
    obtain ⟨⟨u0, y0⟩, -⟩ := HY0.out
    exact World.block_lt_of_cell? _ _ y0
  have HB3 := hid (HB2.out.alloc hz2 (.cells #[strV a, strV s] 59))
  clear hb2
  go_wp2_with fail
  with_reducible refine (HCL.out _ HB3.out).mono ?_
  rintro e w3 ⟨u3, rfl, ho3, hb3⟩
  have z0 := keepc hb3 (cell_new w2 #[strV a, strV s] 59 0 _ rfl)
  have z1 := keepc hb3 (cell_new w2 #[strV a, strV s] 59 1 _ rfl)
  have hb23 := below_step hb3 ((Below.refl w2.heap.size w2).alloc (Nat.le_refl _) (.cells #[strV a, strV s] 59))
  have x0 := keepc hb23 x0
  have x2 := keepc hb23 x2
  have x3 := keepc hb23 x3
  have HY0 := hid (keepOwn hb23 HY0.out)
  have HY1 := hid (keepOwn hb23 HY1.out)
  have HB4 := hid (below_step hb23 HB2.out)
  have hz3 := hb3.size
  rw [World.size_alloc] at hz3
  have HO3 := hid (ho3.mono (B' := w.heap.size + 2) (by rw [World.size_alloc]; omega))
  have q0 := Lib.cell?_alloc_some (.cells #[.string ⟨#[]⟩, .string ⟨#[]⟩] 59) x0
  have q2 := Lib.cell?_alloc_some (.cells #[.string ⟨#[]⟩, .string ⟨#[]⟩] 59) x2
  have q3 := Lib.cell?_alloc_some (.cells #[.string ⟨#[]⟩, .string ⟨#[]⟩] 59) x3
  have z0 := Lib.cell?_alloc_some (.cells #[.string ⟨#[]⟩, .string ⟨#[]⟩] 59) z0
  have z1 := Lib.cell?_alloc_some (.cells #[.string ⟨#[]⟩, .string ⟨#[]⟩] 59) z1
  simp only [List.getElem_toArray, List.getElem_cons_zero, List.getElem_cons_succ] at z0 z1
  have hne : u3.ownBlock ≠ some w3.heap.size := fun e => by have := (World.ownsRow.lt HO3.out _ e).2; omega
  have HO4 := hid (HO3.out.below ((Below.refl w3.heap.size w3).alloc (Nat.le_refl _) (.cells #[.string ⟨#[]⟩, .string ⟨#[]⟩] 59)))
  have HB5 := hid (HB4.out.alloc HB4.out.size (.cells #[.string ⟨#[]⟩, .string ⟨#[]⟩] 59))
  have HT0 := hid (ownc_new w3 #[.string ⟨#[]⟩, .string ⟨#[]⟩] 59 0 (by decide))
  have HT1 := hid (ownc_new w3 #[.string ⟨#[]⟩, .string ⟨#[]⟩] 59 1 (by decide))
  have t0 : (w3.alloc (.cells #[.string ⟨#[]⟩, .string ⟨#[]⟩] 59)).cell? ⟨w3.heap.size, 0, none⟩ = some (strV []) := cell_new _ _ _ 0 _ rfl
  have t1 : (w3.alloc (.cells #[.string ⟨#[]⟩, .string ⟨#[]⟩] 59)).cell? ⟨w3.heap.size, 1, none⟩ = some (strV []) := cell_new _ _ _ 1 _ rfl
  have HQ0 := hid (keepOwn ((Below.refl w3.heap.size w3).alloc (Nat.le_refl _) (.cells #[.string ⟨#[]⟩, .string ⟨#[]⟩] 59)) HY0.out)
  have HQ1 := hid (keepOwn ((Below.refl w3.heap.size w3).alloc (Nat.le_refl _) (.cells #[.string ⟨#[]⟩, .string ⟨#[]⟩] 59)) HY1.out)
  clear hb3 hb23 ho3
  go_upto_block 0 with (fail)
  have hz4 : w.heap.size + 2 ≤ w3.heap.size := by omega
  obtain ⟨W4, hW4⟩ : ∃ W4, w3.alloc (.cells #[.string ⟨#[]⟩, .string ⟨#[]⟩] 59) = W4 := ⟨_, rfl⟩
  have hT4 : w3.heap.size < W4.heap.size := by rw [← hW4, World.size_alloc]; omega
  obtain ⟨T, hT⟩ : ∃ T, w3.heap.size = T := ⟨_, rfl⟩
  rw [hW4] at HO4 HB5 HT0 HT1 t0 t1 HQ0 HQ1 q0 q2 q3 z0 z1 ⊢
  rw [hT] at HT0 HT1 t0 t1 hz4 hne hT4 ⊢
  obtain ⟨Z, hZ⟩ : ∃ Z, w2.heap.size = Z := ⟨_, rfl⟩
  rw [hZ] at z0 z1 hy2 ⊢
  have hZT : Z < T := by omega
  clear hW4 hT hZ hz2 hz3 HB4 HB3 HB2 HB1 HB0 HX0 HX1 HX2 HX3 HA HIS HCL x0 x1 x2 x3 HY0 HY1
  go_cut [9, 11] (fun v9 e wx => ∃ (out : Ds) (f1 : Rec) (E : Int), e = .int .i64 E ∧ Hid (OR wx (w.heap.size + 2) v9 out) ∧ wx.cell? ⟨T, 0, none⟩ = some (strV f1.1) ∧ wx.cell? ⟨T, 1, none⟩ = some (strV f1.2) ∧ Hid (Below w.heap.size w wx) ∧ Hid (OwnC wx ⟨w.heap.size + 1, 0, none⟩) ∧ Hid (OwnC wx ⟨w.heap.size + 1, 1, none⟩) ∧ Hid (outA out f1 E = R))
  case first =>
    by_cases c3 : k = 3
    · subst c3
      have HW := hid (fun w' (hb : Below w.heap.size w w') => write_any d v (a, s) w' (HRD.out.below hb))
      have HS := hid (HS3.out rfl)
      go_wp2_with fail
      refine (HW.out _ HB5.out).mono ?_
      rintro e w5 ⟨u5, rfl, ho5, hb5⟩
      have t0 := keepc hb5 t0
      have t1 := keepc hb5 t1
      have HP0 := hid (keepOwn hb5 HQ0.out)
      have HP1 := hid (keepOwn hb5 HQ1.out)
      have HO5 := hid (ho5.mono (B' := w.heap.size + 2) (by omega))
      have HB6 := hid (below_step hb5 HB5.out)
      clear hb5 ho5
      go_wp2_with fail
      go_meet
      case rel => exact ⟨_, ([], []), _, rfl, HO5, t0, t1, HB6, HP0, HP1, HS⟩
    by_cases c4 : k = 4
    · subst c4
      have HW := hid (fun w' (hb : Below w.heap.size w w') => rewrite_any d v (a, s) w' (HRD.out.below hb))
      have HS := hid (HS4.out rfl)
      go_wp2_with fail
      refine (HW.out _ HB5.out).mono ?_
      rintro e w5 ⟨u5, rfl, ho5, hb5⟩
      have t0 := keepc hb5 t0
      have t1 := keepc hb5 t1
      have HP0 := hid (keepOwn hb5 HQ0.out)
      have HP1 := hid (keepOwn hb5 HQ1.out)
      have HO5 := hid (ho5.mono (B' := w.heap.size + 2) (by omega))
      have HB6 := hid (below_step hb5 HB5.out)
      clear hb5 ho5
      go_wp2_with fail
      go_meet
      case rel => exact ⟨_, ([], []), _, rfl, HO5, t0, t1, HB6, HP0, HP1, HS⟩
    by_cases c5 : k = 5
    · subst c5
      have HW := hid (fun w' (hb : Below w.heap.size w w') => delete_any d v a w' (HRD.out.below hb))
      have HS := hid (HS5.out rfl)
      go_wp2_with fail
      refine (HW.out _ HB5.out).mono ?_
      rintro e w5 ⟨u5, rfl, ho5, hb5⟩
      have t0 := keepc hb5 t0
      have t1 := keepc hb5 t1
      have HP0 := hid (keepOwn hb5 HQ0.out)
      have HP1 := hid (keepOwn hb5 HQ1.out)
      have HO5 := hid (ho5.mono (B' := w.heap.size + 2) (by omega))
      have HB6 := hid (below_step hb5 HB5.out)
      clear hb5 ho5
      go_wp2_with fail
      go_meet
      case rel => exact ⟨_, ([], []), _, rfl, HO5, t0, t1, HB6, HP0, HP1, HS⟩
    by_cases c2 : k = 2
    · subst c2
      have HW := hid (fun w' (hb : Below w.heap.size w w') => next_any d v a w' (HRD.out.below hb))
      have HS := hid (HS2.out rfl)
      go_wp2_with fail
      refine (HW.out _ HB5.out).mono ?_
      rintro e w5 ⟨rfl, hb5⟩
      obtain ⟨⟨b0, t0⟩, f0⟩ := keepOwn hb5 HT0.out
      obtain ⟨⟨b1, t1⟩, f1⟩ := keepOwn hb5 HT1.out
      have HP0 := hid (keepOwn hb5 HQ0.out)
      have HP1 := hid (keepOwn hb5 HQ1.out)
      have HO5 := hid (HO4.out.below hb5)
      have HB6 := hid (below_step hb5 HB5.out)
      clear hb5
      go_wp2_with fail
      go_meet
      case rel => exact ⟨d, _, _, rfl, ownsRow_setCell_other (ownsRow_setCell_other HO5.out hne _) hne _, by go_simp, by go_simp, (HB6.out.setCell (by simp only; omega) _).setCell (by simp only; omega) _, (HP0.out.set _ _).set _ _, (HP1.out.set _ _).set _ _, HS⟩
    have c1 : k = 1 := by omega
    subst c1
    have HW := hid (fun w' (hb : Below w.heap.size w w') => read_any d v a w' (HRD.out.below hb))
    have HS := hid (HS1.out rfl)
    obtain ⟨⟨b0, t0'⟩, f0⟩ := HT0.out
    obtain ⟨⟨b1, t1'⟩, f1⟩ := HT1.out
    have HBs := hid (HB5.out.setCell (p := ⟨T, 0, none⟩) (by simp only; omega) (strV a))
    go_wp2_with fail
    refine (HW.out _ HBs.out).mono ?_
    rintro e w5 ⟨rfl, hb5⟩
    have t0s := keepc hb5 (World.cell?_setCell_same' W4 ⟨T, 0, none⟩ (strV a) (by rw [t0']; rfl))
    obtain ⟨⟨b2, t1s⟩, f1s⟩ := keepOwn hb5 (HT1.out.set ⟨T, 0, none⟩ (strV a))
    have HP0 := hid (keepOwn hb5 (HQ0.out.set ⟨T, 0, none⟩ (strV a)))
    have HP1 := hid (keepOwn hb5 (HQ1.out.set ⟨T, 0, none⟩ (strV a)))
    have HO5 : Hid (OR w5 (w.heap.size + 2) u3 d) := OR.below (ownsRow_setCell_other HO4.out hne _) hb5
    have HB6 := hid (below_step hb5 HBs.out)
    clear hb5
    go_wp2_with fail
    go_meet
    case rel => exact ⟨d, (a, _), _, rfl, ownsRow_setCell_other HO5.out hne _, by go_simp, by go_simp, HB6.out.setCell (by simp only; omega) _, HP0.out.set _ _, HP1.out.set _ _, HS⟩
  case rest =>
    obtain ⟨out, f1, E, rfl, HO, t0, t1, HB, HY0, HY1, HS⟩ := hcut
    have hz := HB.out.size
    obtain ⟨⟨b0, y0⟩, f0⟩ := HY0.out
    obtain ⟨⟨b1, y1⟩, f1'⟩ := HY1.out
    by_cases hE : E = 0
    · subst hE
      have hR : R = (out, f1, 0) := HS.out.symm
      subst hR
      clear HS HS1 HS2 HS3 HS4 HS5 HO4 HB5 HT0 HT1 HQ0 HQ1
      go_wp2_with fail
      have hOa : OR ((wc.setCell ⟨w.heap.size + 1, 0, none⟩ (strV f1.1)).setCell ⟨w.heap.size + 1, 1, none⟩ (strV f1.2)) (w.heap.size + 2) u9 out := ownsRow_setCell_below (ownsRow_setCell_below HO.out (a := ⟨w.heap.size + 1, 0, none⟩) (by simp only; omega) (strV f1.1)) (a := ⟨w.heap.size + 1, 1, none⟩) (by simp only; omega) (strV f1.2)
      have HOa := hid ((hOa.below (Below.refl _ _).drew).mono (B' := w.heap.size) (by omega))
      have HBa := hid ((HB.out.setCell (p := ⟨w.heap.size + 1, 0, none⟩) (by simp only; omega) (strV f1.1)).setCell (p := ⟨w.heap.size + 1, 1, none⟩) (by simp only; omega) (strV f1.2)).drew
      clear hOa
      go_region
      all_goals go_wp2_with fail
      all_goals exact bodyPost_ret (v := .tuple #[u9, .agg #[strV f1.1, strV f1.2], .int .i64 0]) (by simp [results, Tryz.results86, go_sem, y0, y1, hz]) rfl ⟨_, rfl, HOa.out, HBa.out⟩
    · have g1 : (E == 0) = false := by rw [beq_eq_false_iff_ne]; exact hE
      have hR : R = ([], ([], []), E) := by rw [← HS.out]; unfold outA; rw [if_neg hE]
      subst hR
      clear HS HS1 HS2 HS3 HS4 HS5 HO4 HB5 HT0 HT1 HQ0 HQ1 hE
      go_wp2_with fail
      exact bodyPost_ret (v := .tuple #[.slice none 0 0, .agg #[strV [], strV []], .int .i64 E]) (by simp [results, Tryz.results86, go_sem, y0, y1, hz]) rfl ⟨_, rfl, oR_nil _ _, (HB.out.setCell (by simp only; omega) _).setCell (by simp only; omega) _⟩
end Go.Proofs.YtifcgimpgbeocaaGreat
