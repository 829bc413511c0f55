/- The store's do. -/
import Derived.Test.YtifcgimpgbeocaaGreatK23
import Derived.Test.YtifcgimpgbeocaaGreatK7
import Derived.Test.YtifcgimpgbeocaaGreatK11
set_option linter.unusedVariables false
set_option linter.unusedSimpArgs false
namespace Go.Proofs.YtifcgimpgbeocaaGreat
open Go.RowKit
attribute [local go_sem] Oper.semAt_some
theorem inDo_bad {st : St} {o : FOp} (h : doData st.now o = (st.now, ([], []), 1)) : inDo st o = st := by unfold inDo; rw [h]
theorem B2.put {W w : World} {b Z : Nat} (h : B2 W b w) (hZ : W.heap.size ≤ Z) (i : Nat) (v : Value) : B2 W b (w.setCell ⟨Z, i, none⟩ v) := ⟨h.1.setCell (by exact hZ) _, h.2.1.set _ _, h.2.2.set _ _⟩
/-- Nothing that was there has turned. -/
theorem stPost_below {U : Nat → Prop} {S : Nat} {st : St} {w w' : World} {v : Value} (h : So w U S st) (hb : Below w.heap.size w w') : StPost U S v st w (.returned v) w' := by
  obtain ⟨D, vp, vq, va, vw, vd, vk, us, ks, h⟩ := h
  exact ⟨rfl, U, ⟨D, vp, vq, va, vw, vd, vk, us, ks, h.below hb⟩, Frm.of_below hb, fun k hk => .inl hk⟩
set_option maxHeartbeats 2000000 in
set_option maxRecDepth 100000 in
theorem indo_any (U : Nat → Prop) (S : Nat) (st : St) (o : FOp) (w : World) (h : So w U S st) (hl : st.now.length ≤ 8) :
    Calls Tryz.prog 39 #[.pointer (some ⟨S, 0, none⟩), opV o] w (StPost U S (.tuple #[.agg #[strV (doData st.now o).2.1.1, strV (doData st.now o).2.1.2], .int .i64 (doData st.now o).2.2]) (inDo st o) w) := by
  have HSO := hid h
  obtain ⟨D, vp, vq, va, vw, vd, vk, us, ks, h⟩ := h
  have HH := hid h
  have HIS := hid (fun w => isop_any o w)
  obtain ⟨q, hq⟩ : ∃ q, isOp o = q := ⟨_, rfl⟩
  obtain ⟨k, f, a, s⟩ := o
  have hvd : ∃ od cd, vd = .slice od us.length cd := by
    obtain ⟨-, ⟨e, h0⟩ | ⟨g, cp, cur, e, -⟩⟩ := h.od
    · exact ⟨none, 0, by rw [h0]; exact e⟩
    · exact ⟨_, _, e⟩
  obtain ⟨od, cd, rfl⟩ := hvd
  have HUL := hid h.ul
  have s7 := h.s7
  have HPOS : Hid (q = true → 0 ≤ f) := fun h => by
    have h1 := hq.trans h
    unfold isOp at h1
    simp only [Bool.and_eq_true, decide_eq_true_eq] at h1
    exact h1.2.1.1
  have HOK := hid (fun (hn : ¬ (q = true ∧ f < (st.now.length : Int))) => doData_bad (data := st.now) (o := (k, f, a, s)) (by rw [hq]; exact hn))
  have hS := World.block_lt_of_cell? _ _ s7
  rw [hq] at HIS
  obtain ⟨W, hW⟩ : ∃ W, W = w.alloc (.cells #[.int .i64 k, .int .i64 f, strV a, strV s] 55) := ⟨_, rfl⟩
  have hzW : W.heap.size = w.heap.size + 1 := by rw [hW]; simp
  have HBW : Hid (Below w.heap.size w W) := by rw [hW]; exact balloc (Below.refl _ _) _
  have k0 : W.cell? ⟨w.heap.size, 0, none⟩ = some (.int .i64 k) := by rw [hW]; exact cell_new _ _ _ 0 _ rfl
  have k1 : W.cell? ⟨w.heap.size, 1, none⟩ = some (.int .i64 f) := by rw [hW]; exact cell_new _ _ _ 1 _ rfl
  have k2 : W.cell? ⟨w.heap.size, 2, none⟩ = some (strV a) := by rw [hW]; exact cell_new _ _ _ 2 _ rfl
  have k3 : W.cell? ⟨w.heap.size, 3, none⟩ = some (strV s) := by rw [hW]; exact cell_new _ _ _ 3 _ rfl
  have t7 := keepc HBW.out s7
  have HBR := hid (B2.new W 59 (strV []) (strV []))
  have K0 := hid k0; have K1 := hid k1; have K2 := hid k2; have K3 := hid k3; have T7 := hid t7
  have HW := hid hW
  clear hW h s7
  go_enter Tryz.func39, Tryz.ntmps39
  go_upto_region 1 with fail
  have e := HW.out
  simp only [← e, ← hzW]
  clear e HW hzW
  have kk0 := keepc HBR.out.1 k0; have kk1 := keepc HBR.out.1 k1; have kk2 := keepc HBR.out.1 k2; have kk3 := keepc HBR.out.1 k3; have kk7 := keepc HBR.out.1 t7
  cases q with
  | false =>
    refine (fun hm hB S hS h => wp_region_freeL S hm hB hS h) (by kernel_rfl) (by kernel_rfl) (fun L w' => Below W.heap.size W w' ∧ w'.cell? ⟨w.heap.size, 0, none⟩ = some (.int .i64 k) ∧ w'.cell? ⟨w.heap.size, 1, none⟩ = some (.int .i64 f) ∧ w'.cell? ⟨w.heap.size, 2, none⟩ = some (strV a) ∧ w'.cell? ⟨w.heap.size, 3, none⟩ = some (strV s) ∧ w'.cell? ⟨S, 7, none⟩ = some (.slice od us.length cd) ∧ OwnC w' ⟨W.heap.size, 0, none⟩ ∧ OwnC w' ⟨W.heap.size, 1, none⟩) ⟨(HBR.out.1).drew, kk0, kk1, kk2, kk3, kk7, HBR.out.2.1, HBR.out.2.2⟩ ?_
    refine wpFreeL_val rfl (fun _ _ _ h => h) (fun K hK => ?_); apply Exists.intro; refine ⟨fun L w' hS => ?_, ?_⟩; (have hb := hS.1; have g0 := hS.2.1; have g1 := hS.2.2.1; have g2 := hS.2.2.2.1; have g3 := hS.2.2.2.2.1; have g4 := hS.2.2.2.2.2.1; have o0 := hS.2.2.2.2.2.2.1; have o1 := hS.2.2.2.2.2.2.2; clear hS; go_simp; rfl); (go_simp; refine hK _ ?_; clear hK K)
    refine wpFreeL_gen rfl (fun K hK => ?_); apply Exists.intro; refine ⟨fun L w' hcl hL hdep hS => ?_, ?_⟩
    · have hb := hS.1; have g0 := hS.2.1; have g1 := hS.2.2.1; have g2 := hS.2.2.2.1; have g3 := hS.2.2.2.2.1; have g4 := hS.2.2.2.2.2.1; have o0 := hS.2.2.2.2.2.2.1; have o1 := hS.2.2.2.2.2.2.2; go_simp; refine (HIS.out _).mono ?_; rintro e w1 ⟨rfl, hb1⟩; exact ⟨rfl, ⟨hb.trans (hb1.mono (by have := hb.size; omega)), keepc hb1 g0, keepc hb1 g1, keepc hb1 g2, keepc hb1 g3, keepc hb1 g4, keepOwn hb1 o0, keepOwn hb1 o1⟩⟩
    go_simp; refine hK _ ?_; clear hK K
    iterate 2 (refine wpFreeL_val rfl (fun _ _ _ h => h) (fun K hK => ?_); apply Exists.intro; refine ⟨fun L w' hS => ?_, ?_⟩; (have hb := hS.1; have g0 := hS.2.1; have g1 := hS.2.2.1; have g2 := hS.2.2.2.1; have g3 := hS.2.2.2.2.1; have g4 := hS.2.2.2.2.2.1; have o0 := hS.2.2.2.2.2.2.1; have o1 := hS.2.2.2.2.2.2.2; clear hS; go_simp; rfl); (go_simp; refine hK _ ?_; clear hK K))
    iterate 8 (refine wpFreeL_skip rfl (fun _ _ _ h => h) (fun K hK => ?_); go_simp; refine hK _ ?_; clear hK K)
    refine wpFreeL_val rfl (fun _ _ _ h => h) (fun K hK => ?_); apply Exists.intro; refine ⟨fun L w' hS => ?_, ?_⟩; (have hb := hS.1; have g0 := hS.2.1; have g1 := hS.2.2.1; have g2 := hS.2.2.2.1; have g3 := hS.2.2.2.2.1; have g4 := hS.2.2.2.2.2.1; have o0 := hS.2.2.2.2.2.2.1; have o1 := hS.2.2.2.2.2.2.2; clear hS; go_simp; rfl); (go_simp; refine hK _ ?_; clear hK K)
    refine wpFreeL_nil (fun L w' hL hS => ?_)
    have hb := hS.1; have g0 := hS.2.1; have g1 := hS.2.2.1; have g2 := hS.2.2.2.1; have g3 := hS.2.2.2.2.1; have g4 := hS.2.2.2.2.2.1; have o0 := hS.2.2.2.2.2.2.1; have o1 := hS.2.2.2.2.2.2.2
    clear hL hS
    have HB1 : Hid (B2 W W.heap.size w') := ⟨hb, o0, o1⟩
    obtain ⟨⟨v0, y0⟩, f0⟩ := o0
    obtain ⟨⟨v1, y1⟩, f1⟩ := o1
    have hz := HB1.out.lt
    all_goals
      go_wp2_with fail
      rw [(HOK.out (by simp)), inDo_bad (HOK.out (by simp))]
      have hB9 := ((HB1.out.set (Nat.le_refl _) 0 (strV [])).set (Nat.le_refl _) 1 (strV []))
      exact bodyPost_ret (v := .tuple #[.agg #[strV [], strV []], .int .i64 1]) (by simp [results, Tryz.results39, go_sem, y0, y1, f0, f1, hz]) rfl (stPost_below HSO.out (below_step hB9.1 HBW.out))
  | true =>
    by_cases hf : (us.length : Int) ≤ f
    · have gd : decide ((us.length : Int) ≤ f) = true := by simpa using hf
      refine (fun hm hB S hS h => wp_region_freeL S hm hB hS h) (by kernel_rfl) (by kernel_rfl) (fun L w' => Below W.heap.size W w' ∧ w'.cell? ⟨w.heap.size, 0, none⟩ = some (.int .i64 k) ∧ w'.cell? ⟨w.heap.size, 1, none⟩ = some (.int .i64 f) ∧ w'.cell? ⟨w.heap.size, 2, none⟩ = some (strV a) ∧ w'.cell? ⟨w.heap.size, 3, none⟩ = some (strV s) ∧ w'.cell? ⟨S, 7, none⟩ = some (.slice od us.length cd) ∧ OwnC w' ⟨W.heap.size, 0, none⟩ ∧ OwnC w' ⟨W.heap.size, 1, none⟩) ⟨(HBR.out.1).drew, kk0, kk1, kk2, kk3, kk7, HBR.out.2.1, HBR.out.2.2⟩ ?_
      refine wpFreeL_val rfl (fun _ _ _ h => h) (fun K hK => ?_); apply Exists.intro; refine ⟨fun L w' hS => ?_, ?_⟩; (have hb := hS.1; have g0 := hS.2.1; have g1 := hS.2.2.1; have g2 := hS.2.2.2.1; have g3 := hS.2.2.2.2.1; have g4 := hS.2.2.2.2.2.1; have o0 := hS.2.2.2.2.2.2.1; have o1 := hS.2.2.2.2.2.2.2; clear hS; go_simp; rfl); (go_simp; refine hK _ ?_; clear hK K)
      refine wpFreeL_gen rfl (fun K hK => ?_); apply Exists.intro; refine ⟨fun L w' hcl hL hdep hS => ?_, ?_⟩
      · have hb := hS.1; have g0 := hS.2.1; have g1 := hS.2.2.1; have g2 := hS.2.2.2.1; have g3 := hS.2.2.2.2.1; have g4 := hS.2.2.2.2.2.1; have o0 := hS.2.2.2.2.2.2.1; have o1 := hS.2.2.2.2.2.2.2; go_simp; refine (HIS.out _).mono ?_; rintro e w1 ⟨rfl, hb1⟩; exact ⟨rfl, ⟨hb.trans (hb1.mono (by have := hb.size; omega)), keepc hb1 g0, keepc hb1 g1, keepc hb1 g2, keepc hb1 g3, keepc hb1 g4, keepOwn hb1 o0, keepOwn hb1 o1⟩⟩
      go_simp; refine hK _ ?_; clear hK K
      iterate 11 (refine wpFreeL_val rfl (fun _ _ _ h => h) (fun K hK => ?_); apply Exists.intro; refine ⟨fun L w' hS => ?_, ?_⟩; (have hb := hS.1; have g0 := hS.2.1; have g1 := hS.2.2.1; have g2 := hS.2.2.2.1; have g3 := hS.2.2.2.2.1; have g4 := hS.2.2.2.2.2.1; have o0 := hS.2.2.2.2.2.2.1; have o1 := hS.2.2.2.2.2.2.2; clear hS; go_simp; rfl); (go_simp; refine hK _ ?_; clear hK K))
      refine wpFreeL_nil (fun L w' hL hS => ?_)
      have hb := hS.1; have g0 := hS.2.1; have g1 := hS.2.2.1; have g2 := hS.2.2.2.1; have g3 := hS.2.2.2.2.1; have g4 := hS.2.2.2.2.2.1; have o0 := hS.2.2.2.2.2.2.1; have o1 := hS.2.2.2.2.2.2.2
      clear hL hS
      have HB1 : Hid (B2 W W.heap.size w') := ⟨hb, o0, o1⟩
      obtain ⟨⟨v0, y0⟩, f0⟩ := o0
      obtain ⟨⟨v1, y1⟩, f1⟩ := o1
      have hz := HB1.out.lt
      all_goals
        go_wp2_with fail
        rw [(HOK.out (by have := HUL.out; simp; omega)), inDo_bad (HOK.out (by have := HUL.out; simp; omega))]
        have hB9 := ((HB1.out.set (Nat.le_refl _) 0 (strV [])).set (Nat.le_refl _) 1 (strV []))
        exact bodyPost_ret (v := .tuple #[.agg #[strV [], strV []], .int .i64 1]) (by simp [results, Tryz.results39, go_sem, y0, y1, f0, f1, hz]) rfl (stPost_below HSO.out (below_step hB9.1 HBW.out))
    have gd : decide ((us.length : Int) ≤ f) = false := by simpa using hf
    refine (fun hm hB S hS h => wp_region_freeL S hm hB hS h) (by kernel_rfl) (by kernel_rfl) (fun L w' => Below W.heap.size W w' ∧ w'.cell? ⟨w.heap.size, 0, none⟩ = some (.int .i64 k) ∧ w'.cell? ⟨w.heap.size, 1, none⟩ = some (.int .i64 f) ∧ w'.cell? ⟨w.heap.size, 2, none⟩ = some (strV a) ∧ w'.cell? ⟨w.heap.size, 3, none⟩ = some (strV s) ∧ w'.cell? ⟨S, 7, none⟩ = some (.slice od us.length cd) ∧ OwnC w' ⟨W.heap.size, 0, none⟩ ∧ OwnC w' ⟨W.heap.size, 1, none⟩) ⟨(HBR.out.1).drew, kk0, kk1, kk2, kk3, kk7, HBR.out.2.1, HBR.out.2.2⟩ ?_
    refine wpFreeL_val rfl (fun _ _ _ h => h) (fun K hK => ?_); apply Exists.intro; refine ⟨fun L w' hS => ?_, ?_⟩; (have hb := hS.1; have g0 := hS.2.1; have g1 := hS.2.2.1; have g2 := hS.2.2.2.1; have g3 := hS.2.2.2.2.1; have g4 := hS.2.2.2.2.2.1; have o0 := hS.2.2.2.2.2.2.1; have o1 := hS.2.2.2.2.2.2.2; clear hS; go_simp; rfl); (go_simp; refine hK _ ?_; clear hK K)
    refine wpFreeL_gen rfl (fun K hK => ?_); apply Exists.intro; refine ⟨fun L w' hcl hL hdep hS => ?_, ?_⟩
    · have hb := hS.1; have g0 := hS.2.1; have g1 := hS.2.2.1; have g2 := hS.2.2.2.1; have g3 := hS.2.2.2.2.1; have g4 := hS.2.2.2.2.2.1; have o0 := hS.2.2.2.2.2.2.1; have o1 := hS.2.2.2.2.2.2.2; go_simp; refine (HIS.out _).mono ?_; rintro e w1 ⟨rfl, hb1⟩; exact ⟨rfl, ⟨hb.trans (hb1.mono (by have := hb.size; omega)), keepc hb1 g0, keepc hb1 g1, keepc hb1 g2, keepc hb1 g3, keepc hb1 g4, keepOwn hb1 o0, keepOwn hb1 o1⟩⟩
    go_simp; refine hK _ ?_; clear hK K
    iterate 11 (refine wpFreeL_val rfl (fun _ _ _ h => h) (fun K hK => ?_); apply Exists.intro; refine ⟨fun L w' hS => ?_, ?_⟩; (have hb := hS.1; have g0 := hS.2.1; have g1 := hS.2.2.1; have g2 := hS.2.2.2.1; have g3 := hS.2.2.2.2.1; have g4 := hS.2.2.2.2.2.1; have o0 := hS.2.2.2.2.2.2.1; have o1 := hS.2.2.2.2.2.2.2; clear hS; go_simp; rfl); (go_simp; refine hK _ ?_; clear hK K))
    refine wpFreeL_nil (fun L w' hL hS => ?_)
    have hb := hS.1; have g0 := hS.2.1; have g1 := hS.2.2.1; have g2 := hS.2.2.2.1; have g3 := hS.2.2.2.2.1; have g4 := hS.2.2.2.2.2.1; have o0 := hS.2.2.2.2.2.2.1; have o1 := hS.2.2.2.2.2.2.2
    clear hL hS
    have hB5 : B2 W W.heap.size w' := ⟨hb, o0, o1⟩
    obtain ⟨w5, hw5⟩ : ∃ w5, w' = w5 := ⟨_, rfl⟩
    rw [hw5] at hB5 ⊢
    have HB5 := hid hB5
    clear hb o0 o1 hB5 g0 g1 g2 g3 g4 hw5
    obtain ⟨i, rfl⟩ : ∃ i : Nat, f = (i : Int) := ⟨f.toNat, by have := HPOS.out (by first | rfl | trivial); omega⟩
    have hil : i < us.length := by omega
    obtain ⟨g, cg, hv, hg0, hgl, hgc, hgf, hgcell⟩ := OV.cells HH.out.od (by omega)
    simp only [Value.slice.injEq, true_and] at hv
    obtain ⟨rfl, rfl⟩ := hv
    obtain ⟨u, hu⟩ : ∃ u, us[i]? = some u := ⟨_, List.getElem?_eq_getElem hil⟩
    obtain ⟨d, hd⟩ : ∃ d, st.now[i]? = some d := ⟨_, List.getElem?_eq_getElem (by have := HUL.out; omega)⟩
    have HOU := hid (HH.out.ur i u d hu hd)
    have kg : W.cell? ⟨g, i, none⟩ = some u := keepc HBW.out (hgcell i u hu)
    have KG := hid kg
    have hou : ∃ o c, u = .slice o d.length c := by obtain ⟨o, c, e, -⟩ := HOU.out.rd; exact ⟨o, c, e⟩
    have HAP := hid (fun w' (hb : Below w.heap.size w w') => apply_any d u (k, (i : Int), a, s) w' (HOU.out.rd.below hb))
    have HDD : Hid (doData st.now (k, (i : Int), a, s) = if (applyD d (k, (i : Int), a, s)).2.2 = 0 then (st.now.set i (applyD d (k, (i : Int), a, s)).1, (applyD d (k, (i : Int), a, s)).2) else (st.now, ([], []), (applyD d (k, (i : Int), a, s)).2.2)) := by
      unfold Hid doData
      rw [if_pos ⟨hq, by have := HUL.out; simp only; omega⟩]
      simp only [Int.toNat_natCast, hd, Option.getD_some]
    obtain ⟨ou, cu, rfl⟩ := hou
    obtain ⟨A, hA⟩ : ∃ A, applyD d (k, (i : Int), a, s) = A := ⟨_, rfl⟩
    obtain ⟨d', x, E⟩ := A
    simp only [hA] at HAP HDD
    have HGF := hid (keepf HBW.out (hgcell i _ hu) (hgf i))
    clear hA hgf hgcell hgc gd
    have hi0 : (0 : Int) ≤ (i : Int) := by omega
    have hi1 : (i : Int) < (us.length : Int) := by omega
    have HZ7 : Hid (∀ j, j < 2 → OwnC ((w5.alloc (.cells #[.string ⟨#[]⟩, .string ⟨#[]⟩] 59)).drew) ⟨w5.heap.size, j, none⟩) := fun j hj => keepOwn (drew_below _) (ownc_new w5 #[.string ⟨#[]⟩, .string ⟨#[]⟩] 59 j (by simpa using hj))
    have HUI := hid hu
    clear hu hd
    go_wp2_with fail
    go_region_held3 (fun w' => B2 W W.heap.size w' ∧ w'.cell? ⟨w.heap.size, 0, none⟩ = some (.int .i64 k) ∧ w'.cell? ⟨w.heap.size, 1, none⟩ = some (.int .i64 (i : Int)) ∧ w'.cell? ⟨w.heap.size, 2, none⟩ = some (strV a) ∧ w'.cell? ⟨w.heap.size, 3, none⟩ = some (strV s) ∧ w'.cell? ⟨S, 7, none⟩ = some (.slice (some ⟨g, 0, none⟩) us.length cd) ∧ w'.cell? ⟨g, i, none⟩ = some (.slice ou d.length cu))
      ((refine (fun hS => ⟨hS, keepc hS.1 K0.out, keepc hS.1 K1.out, keepc hS.1 K2.out, keepc hS.1 K3.out, keepc hS.1 T7.out, keepc hS.1 KG.out⟩ : B2 W W.heap.size _ → _) ?_; first | exact HB5.out.drew | exact hb6 | exact hb6.alloc _ | exact (hb6.put (Nat.le_of_lt HB5.out.lt) _ _).put (Nat.le_of_lt HB5.out.lt) _ _ | exact B2.alloc (And.left (by assumption)) _ | exact (B2.alloc HB5.out _).drew))
      (first
        | (go_at_call 86; refine (HAP.out _ (below_step (And.left (And.left (by assumption))) HBW.out)).mono ?_; rintro e w6 ⟨v6, rfl, ho6, hb6'⟩; have hb6 : B2 W W.heap.size w6 := B2.below (And.left (by assumption)) hb6'; have HO6 := hid (OR.mono ho6 (B' := W.heap.size + 1) (B2.lt (And.left (by assumption)))); have HF6 := hid (fun kk (hk : v6.ownBlock = some kk) => (World.ownsRow.lt ho6 kk hk).1); obtain ⟨o6, c6, rfl⟩ : ∃ o c, v6 = .slice o d'.length c := (by obtain ⟨o, c, e, -⟩ := ho6.rd; exact ⟨o, c, e⟩); (try have HZ8 := hid (fun j (hj : j < 2) => keepOwn hb6' (HZ7.out j hj))); (try obtain ⟨⟨zv0, zc0⟩, zf0⟩ := HZ8.out 0 (by decide)); (try obtain ⟨⟨zv1, zc1⟩, zf1⟩ := HZ8.out 1 (by decide)); clear ho6 hb6')
        | (fail "x"))
    · obtain ⟨W8, hW8⟩ : ∃ W8, W8 = w6.alloc (.cells #[.string ⟨x.1.toArray⟩, .string ⟨x.2.toArray⟩] 59) := ⟨_, rfl⟩
      obtain ⟨Z8, hZ8⟩ : ∃ Z8, w6.heap.size = Z8 := ⟨_, rfl⟩
      have HB8 : Hid (B2 W W.heap.size W8) := by rw [hW8]; exact And.left (by assumption)
      have X0 : Hid (W8.cell? ⟨Z8, 0, none⟩ = some (strV x.1)) := by rw [hW8, ← hZ8]; exact cell_new _ _ _ 0 _ rfl
      have X1 : Hid (W8.cell? ⟨Z8, 1, none⟩ = some (strV x.2)) := by rw [hW8, ← hZ8]; exact cell_new _ _ _ 1 _ rfl
      have HO8 : Hid (OR W8 (W.heap.size + 1) (.slice o6 d'.length c6) d') := by rw [hW8]; exact HO6.out.below (balloc (Below.refl _ _) _)
      have hZW : W.heap.size < Z8 := by rw [← hZ8]; have := HB5.out.lt; have := hb6.lt; omega
      rw [← hW8, hZ8]
      clear hW8 hZ8 HO6 hb6 HAP
      have c7 := keepc HB8.out.1 T7.out
      have cb := keepc HB8.out.1 K1.out
      obtain ⟨⟨v0, y0⟩, f0⟩ := HB8.out.2.1
      obtain ⟨⟨v1, y1⟩, f1⟩ := HB8.out.2.2
      have hz := HB8.out.lt
      have x0 := X0.out; have x1 := X1.out
      by_cases hE : E = 0
      · subst hE
        have HDX : Hid (doData st.now (k, (i : Int), a, s) = (st.now.set i d', x, 0)) := by unfold Hid; rw [HDD.out]; rfl
        have hcg : OwnC W8 ⟨g, i, none⟩ := keepOwn HB8.out.1 ⟨⟨_, KG.out⟩, HGF.out⟩
        obtain ⟨⟨vg, yg⟩, fg⟩ := hcg
        have hWW := HBW.out.size
        have q1 : ¬ Z8 = g := by omega
        have q2 : ¬ g = Z8 := by omega
        have q3 : ¬ W.heap.size = g := by omega
        have q4 : ¬ g = W.heap.size := by omega
        clear hWW
        go_wp2_with fail
        go_region
        have HP := hid (fun (x y : Value) => SA.data_post (x := x) (y := y) (R := W.heap.size) HH.out (below_step HB8.out.1 HBW.out) rfl hil HO8.out HBW.out.size (by omega))
        all_goals
          go_wp2_with fail
          rw [HDX.out]
          have hin : inDo st (k, (i : Int), a, s) = { st with now := st.now.set i d' } := by unfold inDo; rw [HDX.out]
          rw [hin]
          exact bodyPost_ret (v := .tuple #[.agg #[strV x.1, strV x.2], .int .i64 0]) (by simp [results, Tryz.results39, go_sem, y0, y1, f0, f1, hz]) rfl ⟨rfl, HP.out _ _⟩
      · have HDX : Hid (doData st.now (k, (i : Int), a, s) = (st.now, ([], []), E)) := by unfold Hid; rw [HDD.out, if_neg hE]
        have hEb : (E != 0) = true := by simpa using hE
        go_wp2_with fail
        rw [HDX.out]
        have hin : inDo st (k, (i : Int), a, s) = st := by unfold inDo; rw [HDX.out]
        rw [hin]
        have hB9 := ((HB8.out.set (Nat.le_refl _) 0 (strV [])).set (Nat.le_refl _) 1 (strV []))
        exact bodyPost_ret (v := .tuple #[.agg #[strV [], strV []], .int .i64 E]) (by simp [results, Tryz.results39, go_sem, y0, y1, f0, f1, hz]) rfl (stPost_below HSO.out (below_step hB9.1 HBW.out))
    · obtain ⟨W8, hW8⟩ : ∃ W8, W8 = (w6.setCell ⟨w5.heap.size, 0, none⟩ (.string ⟨x.1.toArray⟩)).setCell ⟨w5.heap.size, 1, none⟩ (.string ⟨x.2.toArray⟩) := ⟨_, rfl⟩
      obtain ⟨Z8, hZ8⟩ : ∃ Z8, w5.heap.size = Z8 := ⟨_, rfl⟩
      have HB8 : Hid (B2 W W.heap.size W8) := by rw [hW8]; exact And.left (by assumption)
      have X0 : Hid (W8.cell? ⟨Z8, 0, none⟩ = some (strV x.1)) := by rw [hW8, ← hZ8]; rw [World.cell?_setCell_other _ _ _ _ (by simp)]; exact World.cell?_setCell_same _ _ _ zc0
      have X1 : Hid (W8.cell? ⟨Z8, 1, none⟩ = some (strV x.2)) := by rw [hW8, ← hZ8]; exact World.cell?_setCell_same _ _ _ (by rw [World.cell?_setCell_other _ _ _ _ (by simp)]; exact zc1)
      have HNZ : Hid ((Value.slice o6 d'.length c6).ownBlock ≠ some w5.heap.size) := fun e => by have h1 := HF6.out _ e; simp only [World.size_alloc, World.drew] at h1; omega
      have HO8 : Hid (OR W8 (W.heap.size + 1) (.slice o6 d'.length c6) d') := by rw [hW8]; exact ownsRow_setCell_other (ownsRow_setCell_other HO6.out (HNZ.out) _) (HNZ.out) _
      have hZW : W.heap.size < Z8 := by rw [← hZ8]; have := HB5.out.lt; have := hb6.lt; omega
      rw [← hW8, hZ8]
      clear hW8 hZ8 HO6 hb6 HAP
      have c7 := keepc HB8.out.1 T7.out
      have cb := keepc HB8.out.1 K1.out
      obtain ⟨⟨v0, y0⟩, f0⟩ := HB8.out.2.1
      obtain ⟨⟨v1, y1⟩, f1⟩ := HB8.out.2.2
      have hz := HB8.out.lt
      have x0 := X0.out; have x1 := X1.out
      by_cases hE : E = 0
      · subst hE
        have HDX : Hid (doData st.now (k, (i : Int), a, s) = (st.now.set i d', x, 0)) := by unfold Hid; rw [HDD.out]; rfl
        have hcg : OwnC W8 ⟨g, i, none⟩ := keepOwn HB8.out.1 ⟨⟨_, KG.out⟩, HGF.out⟩
        obtain ⟨⟨vg, yg⟩, fg⟩ := hcg
        have hWW := HBW.out.size
        have q1 : ¬ Z8 = g := by omega
        have q2 : ¬ g = Z8 := by omega
        have q3 : ¬ W.heap.size = g := by omega
        have q4 : ¬ g = W.heap.size := by omega
        clear hWW
        go_wp2_with fail
        go_region
        have HP := hid (fun (x y : Value) => SA.data_post (x := x) (y := y) (R := W.heap.size) HH.out (below_step HB8.out.1 HBW.out) rfl hil HO8.out HBW.out.size (by omega))
        all_goals
          go_wp2_with fail
          rw [HDX.out]
          have hin : inDo st (k, (i : Int), a, s) = { st with now := st.now.set i d' } := by unfold inDo; rw [HDX.out]
          rw [hin]
          exact bodyPost_ret (v := .tuple #[.agg #[strV x.1, strV x.2], .int .i64 0]) (by simp [results, Tryz.results39, go_sem, y0, y1, f0, f1, hz]) rfl ⟨rfl, HP.out _ _⟩
      · have HDX : Hid (doData st.now (k, (i : Int), a, s) = (st.now, ([], []), E)) := by unfold Hid; rw [HDD.out, if_neg hE]
        have hEb : (E != 0) = true := by simpa using hE
        go_wp2_with fail
        rw [HDX.out]
        have hin : inDo st (k, (i : Int), a, s) = st := by unfold inDo; rw [HDX.out]
        rw [hin]
        have hB9 := ((HB8.out.set (Nat.le_refl _) 0 (strV [])).set (Nat.le_refl _) 1 (strV []))
        exact bodyPost_ret (v := .tuple #[.agg #[strV [], strV []], .int .i64 E]) (by simp [results, Tryz.results39, go_sem, y0, y1, f0, f1, hz]) rfl (stPost_below HSO.out (below_step hB9.1 HBW.out))
end Go.Proofs.YtifcgimpgbeocaaGreat
