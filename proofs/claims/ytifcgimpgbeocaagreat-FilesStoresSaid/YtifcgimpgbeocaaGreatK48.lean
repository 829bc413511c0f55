/- The law FilesStores, walked. -/
import Derived.Test.YtifcgimpgbeocaaGreatK43
import Derived.Test.YtifcgimpgbeocaaGreatK35
import Derived.Test.YtifcgimpgbeocaaGreatK46
import Derived.Test.YtifcgimpgbeocaaGreatK47
set_option linter.unusedVariables false
set_option linter.unusedSimpArgs false
namespace Go.Proofs.YtifcgimpgbeocaaGreat
open Go.RowKit
attribute [local go_sem] Oper.semAt_some
theorem createD_no' {n f : Int} (h : ¬ ((4 ≤ n ∧ n ≤ 4096) ∧ 1 ≤ f ∧ f ≤ 8)) : createD n f = (([], []), 1) := by unfold createD; rw [if_neg h]
theorem stNew_gone' {n f : Int} (hn : 4 ≤ n ∧ n ≤ 4096) (hf : 1 ≤ f ∧ f ≤ 8) : Gone 1 0 0 (stNew n f) := gone_open (create_open hn hf) (Nat.le_refl _)
theorem doSt_hd (st : St) (o : FOp) : (doSt st o).1.hd = st.hd := by unfold doSt; split <;> rfl
theorem stNew_open {n f : Int} (hn : 4 ≤ n ∧ n ≤ 4096) (hf : 1 ≤ f ∧ f ≤ 8) : openD (stNew n f).dk = (some (stNew n f), 0) := open_as (create_open hn hf)
set_option maxHeartbeats 8000000 in
set_option maxRecDepth 100000 in
theorem stores_law (HRCM : Hid (∀ (U : Nat → Prop) (st : St) (v : Value) (w : World), (∀ k, U k → k < w.heap.size) → KSt U w v st → Live st → st.ops.length ≤ 1000 → st.acts.length ≤ 800000 → Calls Tryz.prog 20 #[v] w (RetCo U (commitD st) w)))
    (p f : Int) (v : Value) (l : List Stp) (w : World) (hR : RdSt w v l) :
    Calls Tryz.prog 4 #[.agg #[.int .i64 p, .int .i64 f, v]] w (Ret (.bool true) w) := by
  have HS := hid (fun w' => sane_any w')
  have HRS := hid (fun w' (hb : Below w.heap.size w w') => hR.below hb)
  obtain ⟨os, cs, rfl, -, -⟩ := id hR
  obtain ⟨N, hN⟩ : ∃ N, l.length = N := ⟨_, rfl⟩
  simp only [hN] at HRS ⊢
  have HN := hid hN
  have HFI := hid (fun w' => fits_any p f os N cs w')
  obtain ⟨W, hW⟩ : ∃ W, W = w.alloc (.cells #[.int .i64 p, .int .i64 f, .slice os N cs] 50) := ⟨_, rfl⟩
  have HBW : Hid (Below w.heap.size w W) := by rw [hW]; exact balloc (Below.refl _ _) _
  have KK : Hid (∀ j u, #[.int .i64 p, .int .i64 f, .slice os N cs][j]? = some u → W.cell? ⟨w.heap.size, j, none⟩ = some u) := fun j u hj => by rw [hW]; exact cell_new _ _ _ j _ hj
  have HW := hid hW
  clear hW hN hR
  by_cases hfit : (4 ≤ p ∧ p ≤ 4096) ∧ 1 ≤ f ∧ f ≤ 8
  rotate_left
  · have hd : decide ((4 ≤ p ∧ p ≤ 4096) ∧ 1 ≤ f ∧ f ≤ 8) = false := by simpa using hfit
    rw [hd] at HFI
    have HC1 := hid (fun w' => create_any p f w')
    rw [createD_no' hfit] at HC1
    clear hd hfit HRS
    go_enter Tryz.func4, Tryz.ntmps4
    go_upto_region 1 with fail
    have e := HW.out
    simp only [← e]
    clear e HW
    go_wp2_with fail
    refine (HS.out _).mono ?_
    rintro e w1 ⟨rfl, hb1⟩
    have HB1 : Hid (Below W.heap.size W w1) := hb1
    have c0 := keepc hb1 (KK.out 0 _ rfl); have c1 := keepc hb1 (KK.out 1 _ rfl); have c2 := keepc hb1 (KK.out 2 _ rfl)
    clear hb1
    go_wp2_with fail
    refine (HFI.out _).mono ?_
    rintro e w2 ⟨rfl, hb2⟩
    have HB2 := hid (below_step hb2 HB1.out)
    have c0 := keepc hb2 c0; have c1 := keepc hb2 c1
    clear hb2 c2
    go_wp2_with fail
    refine (HC1.out _).mono ?_
    rintro e w3 ⟨up, uq, rfl, ho1, ho2, hb3⟩
    obtain ⟨o1, c1', rfl, -, -⟩ := ho1.rd
    obtain ⟨o2, c2', rfl, -, -⟩ := ho2.rd
    have hb4 := balloc (below_step hb3 (Below.refl w2.heap.size w2)) (.cells #[.slice o1 0 c1', .slice o2 0 c2'] 25)
    have HB4 := hid (below_step (below_step hb4 HB2.out) HBW.out)
    clear hb3 hb4 ho1 ho2
    go_wp2_with fail
    go_ret
    exact ⟨rfl, HB4.out⟩
  have hd : decide ((4 ≤ p ∧ p ≤ 4096) ∧ 1 ≤ f ∧ f ≤ 8) = true := by simpa using hfit
  rw [hd] at HFI
  have HOP := hid (fun w' => opened_any p f w' hfit.1 hfit.2)
  have HGN := hid (stNew_gone' hfit.1 hfit.2)
  have HOE := hid (stNew_open hfit.1 hfit.2)
  obtain ⟨st0, hst0⟩ : ∃ st0, stNew p f = st0 := ⟨_, rfl⟩
  simp only [hst0] at HOP HGN HOE
  clear hd hfit hst0
  go_enter Tryz.func4, Tryz.ntmps4
  go_upto_region 1 with fail
  have e := HW.out
  simp only [← e]
  clear e HW
  obtain ⟨Z, hZ⟩ : ∃ Z, w.heap.size = Z := ⟨_, rfl⟩
  have HZ := hid hZ
  simp only [hZ] at KK ⊢
  clear hZ
  go_wp2_with fail
  refine (HS.out _).mono ?_
  rintro e w1 ⟨rfl, hb1⟩
  have HB1 : Hid (Below W.heap.size W w1) := hb1
  have c0 := keepc hb1 (KK.out 0 _ rfl); have c1 := keepc hb1 (KK.out 1 _ rfl); have c2 := keepc hb1 (KK.out 2 _ rfl)
  clear hb1
  go_wp2_with fail
  refine (HFI.out _).mono ?_
  rintro e w2 ⟨rfl, hb2⟩
  have HB2 := hid (below_step hb2 HB1.out)
  have c0 := keepc hb2 c0; have c1 := keepc hb2 c1
  clear hb2 c2
  go_wp2_with fail
  refine (HOP.out _).mono ?_
  rintro e w3 ⟨S, U, up, uq, rfl, hold, kp, kq⟩
  obtain ⟨o1, k1, rfl, -, -⟩ := kp.now
  obtain ⟨o2, k2, rfl, -, -⟩ := kq.now
  obtain ⟨n1, hn1⟩ : ∃ n1, st0.dk.1.length = n1 := ⟨_, rfl⟩
  obtain ⟨n2, hn2⟩ : ∃ n2, st0.dk.2.length = n2 := ⟨_, rfl⟩
  simp only [hn1, hn2] at kp kq ⊢
  obtain ⟨w4, hw4⟩ : ∃ w4, w4 = w3.alloc (.cells #[.slice o1 n1 k1, .slice o2 n2 k2] 25) := ⟨_, rfl⟩
  have hba : Below w3.heap.size w3 w4 := by rw [hw4]; exact balloc (Below.refl _ _) _
  have HHO := hid (hold.below hba)
  have HKP := hid (kp.below hba); have HKQ := hid (kq.below hba)
  have d0 : w4.cell? ⟨w3.heap.size, 0, none⟩ = some (.slice o1 n1 k1) := by rw [hw4]; exact cell_new _ _ _ 0 _ rfl
  have d1 : w4.cell? ⟨w3.heap.size, 1, none⟩ = some (.slice o2 n2 k2) := by rw [hw4]; exact cell_new _ _ _ 1 _ rfl
  have HU3 : Hid (∀ k, U k → k < w3.heap.size) := hold.so.ult
  have HW4 := hid hw4
  have HBH := hid (below_step HHO.out.b HB2.out)
  have c2 := keepc HBH.out (KK.out 2 _ rfl)
  clear hw4 hba hold kp kq c0 c1 hn1 hn2
  go_upto_region 7 with fail
  have e := HW4.out
  rw [← e]
  clear e HW4
  obtain ⟨Y, hY⟩ : ∃ Y, w3.heap.size = Y := ⟨_, rfl⟩
  simp only [hY] at d0 d1 HU3 ⊢
  clear hY
  have hdl := isDk_len HGN.out.live.as_.dk
  have HNW := hid HGN.out.live.as_.nw
  have HOR := hid (fun w' (hb : Below w4.heap.size w4 w') => ropen_any U st0.dk (.slice o1 n1 k1) (.slice o2 n2 k2) w' (fun q hq => Nat.lt_of_lt_of_le (HHO.out.so.ult q hq) hb.size) (HKP.out.below hb) (HKQ.out.below hb) (by omega) (by rw [HNW.out]; exact Nat.zero_le _))
  rw [HOE.out] at HOR
  have HDL := hid hdl
  clear hdl
  go_wp2_with fail
  refine (HOR.out _ (Below.refl _ _)).mono ?_
  rintro e w5 ⟨hb5, hr1, -⟩
  obtain ⟨v5, e5, hk5⟩ := hr1 st0 rfl
  simp only at e5
  subst e5
  obtain ⟨ok', nk', ck', on', nn', cn', oo', no', co', op', np', cp', oq', nq', cq', oa', na', ca', rfl, hk5⟩ := hk5.parts
  obtain ⟨hd, hhd⟩ : ∃ x, st0.hd = x := ⟨_, rfl⟩
  rw [hhd] at hk5 ⊢
  have HHD0 := hid hhd
  obtain ⟨w6, hw6⟩ : ∃ x, x = w5.alloc (.cells #[.int .i64 hd.1, .int .i64 hd.2.1, .int .i64 hd.2.2.1, .int .i64 hd.2.2.2, .slice ok' nk' ck', .slice on' nn' cn', .slice oo' no' co', .slice op' np' cp', .slice oq' nq' cq', .slice oa' na' ca'] 39) := ⟨_, rfl⟩
  have hb6 : Below w5.heap.size w5 w6 := by rw [hw6]; exact balloc (Below.refl _ _) _
  have hb46 := below_step hb6 hb5
  have HT0 : Hid (Two w2 U S w5.heap.size hd (.slice ok' nk' ck') (.slice on' nn' cn') (.slice oo' no' co') (.slice op' np' cp') (.slice oq' nq' cq') (.slice oa' na' ca') st0 st0 w6) := by
    have h1 := HHO.out.so.ult
    have h2 := hb5.size
    refine ⟨HHO.out.below hb46, by rw [hw6]; exact StC.new _ _ _ _ _ _ _ _, by rw [hw6]; exact own_newN w5 _ _ 10 (by simp), hk5.step (Frm.of_below hb6) (fun q hq => hq.imp id (fun e => by omega)), fun h => by have := h1 _ h; omega, by have := HHO.out.b.size; omega⟩
  have HW6 := hid hw6
  obtain ⟨X, hX⟩ : ∃ x, w5.heap.size = x := ⟨_, rfl⟩
  rw [hX] at HT0
  have HX := hid hX
  clear hw6 hb6 hb46 hb5 hhd hX hk5 hr1 HOR
  go_upto_region 8 with fail
  have e := HW6.out
  simp only [← e]
  try rw [HX.out]
  clear e HW6
  go_wp2_with fail
  go_loopw [10] (fun i wr => ∃ (k : Nat) (U' : Nat → Prop) (hd : Hd) (vk vn vo vp vq va : Value) (st' : St), i = .int .i64 (k : Int) ∧ k ≤ N ∧ k ≤ 100 ∧ Hid (Gone (1 + k) k (3000 * k) st') ∧ Hid (Two w2 U' S X hd vk vn vo vp vq va st' st' wr) ∧ Hid (st'.hd = hd)) (fun i _ => 100 - (intOf i).toNat)
  case atStart => exact ⟨0, U, hd, _, _, _, _, _, _, st0, rfl, Nat.zero_le _, Nat.zero_le _, HGN, HT0, HHD0⟩
  case round =>
    clear HGN HT0 HHD0
    obtain ⟨k, U', hd2, vk, vn, vo, vp, vq, va, st', rfl, hk, hk2, HG, HT, HHD⟩ := hrel
    have c2 : wr.cell? ⟨Z, 2, none⟩ = some (.slice os N cs) := keepc (below_step HT.out.h.b HB2.out) (KK.out 2 _ rfl)
    by_cases hlt : k < N ∧ k < 100
    · obtain ⟨hkN, hk100⟩ := hlt
      obtain ⟨⟨kd, o1, o2, o3, o4⟩, hx⟩ : ∃ r, l[k]? = some r := ⟨_, List.getElem?_eq_getElem (by have := HN.out; omega)⟩
      have hRS := HRS.out wr (below_step HT.out.h.b (below_step HB2.out HBW.out))
      obtain ⟨o', c', e, -, hRS⟩ := hRS
      rcases hRS with hq | ⟨b1, off, rfl, hbq, hq⟩
      · rw [hq] at hx; simp at hx
      rw [HN.out] at e
      cases e
      obtain ⟨x0, x1, x2, x3, x4⟩ := hq k _ hx
      obtain ⟨wx, hwx⟩ : ∃ wx, wx = wr.alloc (.cells #[.int .i64 kd, .int .i64 o1, .int .i64 o2, strV o3, strV o4] 57) := ⟨_, rfl⟩
      have hba : Below wr.heap.size wr wx := by rw [hwx]; exact balloc (Below.refl _ _) _
      have y0 : wx.cell? ⟨wr.heap.size, 0, none⟩ = some (.int .i64 kd) := by rw [hwx]; exact cell_new _ _ _ 0 _ rfl
      have y1 : wx.cell? ⟨wr.heap.size, 1, none⟩ = some (.int .i64 o1) := by rw [hwx]; exact cell_new _ _ _ 1 _ rfl
      have y2 : wx.cell? ⟨wr.heap.size, 2, none⟩ = some (.int .i64 o2) := by rw [hwx]; exact cell_new _ _ _ 2 _ rfl
      have y3 : wx.cell? ⟨wr.heap.size, 3, none⟩ = some (strV o3) := by rw [hwx]; exact cell_new _ _ _ 3 _ rfl
      have y4 : wx.cell? ⟨wr.heap.size, 4, none⟩ = some (strV o4) := by rw [hwx]; exact cell_new _ _ _ 4 _ rfl
      have HTX := hid (HT.out.below hba)
      have hYU : ¬ U' wr.heap.size := fun hk => by have := HT.out.h.so.ult _ hk; omega
      have hYX : ¬ X = wr.heap.size := by have := HT.out.xlt; omega
      have HYU := hid hYU; have HYX := hid hYX
      have HWX := hid hwx
      clear hwx hba hq hbq hx hYU hYX HT
      go_upto_region 14 with fail
      have e := HWX.out
      rw [← e]
      clear e HWX x0 x1 x2 x3 x4 c2
      obtain ⟨Y, hY⟩ : ∃ Y, wr.heap.size = Y := ⟨_, rfl⟩
      simp only [hY] at y0 y1 y2 y3 y4 HYU HYX ⊢
      clear hY
      go_upto_block 2 with fail
      go_cut [] (fun wf => ∃ (U2 : Nat → Prop) (h2 : Hd) (uk un uo up uq ua : Value) (s2 : St), Hid (Gone (1 + (k + 1)) (k + 1) (3000 * (k + 1)) s2) ∧ Hid (Two w2 U2 S X h2 uk un uo up uq ua s2 s2 wf) ∧ Hid (s2.hd = h2))
      case first =>
        obtain ⟨⟨ok', nk', ck', rfl⟩, ⟨on', nn', cn', rfl⟩, ⟨oo', no', co', rfl⟩, ⟨op', np', cp', rfl⟩, ⟨oq', nq', cq', rfl⟩, ⟨oa', na', ca', rfl⟩⟩ := HTX.out.k.sl
        by_cases hk0 : kd = 0
        · subst hk0
          have HDO := hid (do_any U' S st' (o1, o2, o3, o4) wx HTX.out.h.so HG.out.now8.1 (by have := HG.out.ops; omega))
          have HGD := hid (gone_do HG.out (o1, o2, o3, o4))
          have HSN := hid (doSt_snd st' (o1, o2, o3, o4))
          obtain ⟨q, E, hqE⟩ : ∃ q E, (doData st'.now (o1, o2, o3, o4)).2 = (q, E) := ⟨_, _, rfl⟩
          simp only [hqE] at HDO HSN
          clear hqE
          go_wp2_with fail
          refine HDO.out.mono ?_
          rintro e w8 hp8
          obtain ⟨rfl, U8, hh8, hf8⟩ := HTX.out.prog hp8
          have y1 := hf8.cell (a := ⟨Y, 1, none⟩) HYU.out y1; have y2 := hf8.cell (a := ⟨Y, 2, none⟩) HYU.out y2; have y3 := hf8.cell (a := ⟨Y, 3, none⟩) HYU.out y3; have y4 := hf8.cell (a := ⟨Y, 4, none⟩) HYU.out y4
          obtain ⟨w9, hw9⟩ : ∃ w9, w9 = w8.alloc (.cells #[strV q.1, strV q.2] 59) := ⟨_, rfl⟩
          have hba : Below w8.heap.size w8 w9 := by rw [hw9]; exact balloc (Below.refl _ _) _
          have y1 := keepc hba y1; have y2 := keepc hba y2; have y3 := keepc hba y3; have y4 := keepc hba y4
          have HT9 := hid (hh8.below hba)
          have HXW8 : Hid (X < w8.heap.size) := hh8.xlt
          have HRD := hid (rdo_any _ st' (o1, o2, o3, o4) _ w9 HT9.out.lt HT9.out.k (now_all HG.out.live) HG.out.now8.1 (by have := HG.out.ops; omega))
          have r0 : w9.cell? ⟨w8.heap.size, 0, none⟩ = some (strV q.1) := by rw [hw9]; exact cell_new _ _ _ 0 _ rfl
          have r1 : w9.cell? ⟨w8.heap.size, 1, none⟩ = some (strV q.2) := by rw [hw9]; exact cell_new _ _ _ 1 _ rfl
          have HW9 := hid hw9
          obtain ⟨k0, k1, k2, k3, k4, k5, k6, k7, k8, k9⟩ := HT9.out.c
          obtain ⟨RA, hRA⟩ : ∃ x, w8.heap.size = x := ⟨_, rfl⟩
          rw [hRA] at r0 r1
          have HRA := hid hRA
          clear hw9 hba hp8 hh8 hf8 y0 HDO HTX hRA
          go_upto_region 19 with fail
          have e := HW9.out
          rw [← e]
          try rw [HRA.out]
          clear e HW9
          go_wp2_with fail
          refine HRD.out.mono ?_
          rintro e w10 ⟨v10, rfl, hk10, hb10⟩
          obtain ⟨ok3, nk3, ck3, on3, nn3, cn3, oo3, no3, co3, op3, np3, cp3, oq3, nq3, cq3, oa3, na3, ca3, rfl, hk10⟩ := hk10.parts
          have hh1 := (doSt_hd st' (o1, o2, o3, o4)).trans HHD.out
          rw [hh1] at hk10 ⊢
          simp only [HSN.out]
          obtain ⟨st1, hst1⟩ : ∃ x, (doSt st' (o1, o2, o3, o4)).1 = x := ⟨_, rfl⟩
          rw [hst1] at HGD HT9 hk10 hh1
          have r0 := keepc hb10 r0; have r1 := keepc hb10 r1
          have HK10 := hid hk10; have HB10 := hid hb10; have HH1 := hid hh1
          clear hk10 hb10 hh1 hst1 k0 k1 k2 k3 k4 k5 k6 k7 k8 k9 y1 y2 y3 y4 HRD
          obtain ⟨w11, hw11⟩ : ∃ x, x = w10.alloc (.cells #[.int .i64 hd2.1, .int .i64 hd2.2.1, .int .i64 hd2.2.2.1, .int .i64 hd2.2.2.2, .slice ok3 nk3 ck3, .slice on3 nn3 cn3, .slice oo3 no3 co3, .slice op3 np3 cp3, .slice oq3 nq3 cq3, .slice oa3 na3 ca3] 39) := ⟨_, rfl⟩
          have hb11 : Below w10.heap.size w10 w11 := by rw [hw11]; exact balloc (Below.refl _ _) _
          have hs11 : StC w11 w10.heap.size hd2 (.slice ok3 nk3 ck3) (.slice on3 nn3 cn3) (.slice oo3 no3 co3) (.slice op3 np3 cp3) (.slice oq3 nq3 cq3) (.slice oa3 na3 ca3) := by rw [hw11]; exact StC.new _ _ _ _ _ _ _ _
          obtain ⟨w12, hw12⟩ : ∃ x, x = w11.alloc (.cells #[strV q.1, strV q.2] 59) := ⟨_, rfl⟩
          have hb12 : Below w11.heap.size w11 w12 := by rw [hw12]; exact balloc (Below.refl _ _) _
          have hz11 : w11.heap.size = w10.heap.size + 1 := by rw [hw11]; simp
          have t0 : w12.cell? ⟨w10.heap.size + 1, 0, none⟩ = some (strV q.1) := by rw [hw12, ← hz11]; exact cell_new _ _ _ 0 _ rfl
          have t1 : w12.cell? ⟨w10.heap.size + 1, 1, none⟩ = some (strV q.2) := by rw [hw12, ← hz11]; exact cell_new _ _ _ 1 _ rfl
          have hb1012 := below_step hb12 hb11
          have hs12 := hs11.below hb12
          have hrs : w10.heap.size + 1 < w12.heap.size := World.block_lt_of_cell? _ _ t0
          have HTM := hid (HT9.out.below (below_step hb1012 HB10.out))
          have HTN := hid (HTM.out.ref (Below.refl _ _) (HK10.out.below hb1012))
          obtain ⟨RS, hRS⟩ : ∃ x, w10.heap.size = x := ⟨_, rfl⟩
          have hxr : X < RS := by have h1 := HT9.out.xlt; have h2 := HB10.out.size; omega
          have HW11 := hid hw11; have HW12 := hid hw12
          have r0 := keepc hb1012 r0; have r1 := keepc hb1012 r1
          have hra : RA ≠ X := by have h1 := HRA.out; have h2 := HXW8.out; omega
          rw [hRS] at t0 t1 hs12
          have HRS := hid hRS
          obtain ⟨k0, k1, k2, k3, k4, k5, k6, k7, k8, k9⟩ := hs12
          obtain ⟨⟨xv0, x0⟩, f0⟩ := HTM.out.o 0 (by decide)
          obtain ⟨⟨xv1, x1⟩, f1⟩ := HTM.out.o 1 (by decide)
          obtain ⟨⟨xv2, x2⟩, f2⟩ := HTM.out.o 2 (by decide)
          obtain ⟨⟨xv3, x3⟩, f3⟩ := HTM.out.o 3 (by decide)
          obtain ⟨⟨xv4, x4⟩, f4⟩ := HTM.out.o 4 (by decide)
          obtain ⟨⟨xv5, x5⟩, f5⟩ := HTM.out.o 5 (by decide)
          obtain ⟨⟨xv6, x6⟩, f6⟩ := HTM.out.o 6 (by decide)
          obtain ⟨⟨xv7, x7⟩, f7⟩ := HTM.out.o 7 (by decide)
          obtain ⟨⟨xv8, x8⟩, f8⟩ := HTM.out.o 8 (by decide)
          obtain ⟨⟨xv9, x9⟩, f9⟩ := HTM.out.o 9 (by decide)
          obtain ⟨wN, hwN⟩ : ∃ x, x = setSt w12 X hd2 (.slice ok3 nk3 ck3) (.slice on3 nn3 cn3) (.slice oo3 no3 co3) (.slice op3 np3 cp3) (.slice oq3 nq3 cq3) (.slice oa3 na3 ca3) := ⟨_, rfl⟩
          have hfN : Frm (fun q => q = X) w12 wN := by rw [hwN]; exact setSt_frm _ _ _ _ _ _ _ _ _
          have R0 := hid (hfN.cell (a := ⟨RA, 0, none⟩) hra r0); have R1 := hid (hfN.cell (a := ⟨RA, 1, none⟩) hra r1)
          have T0 := hid (hfN.cell (a := ⟨RS + 1, 0, none⟩) (by show ¬ RS + 1 = X; omega) t0); have T1 := hid (hfN.cell (a := ⟨RS + 1, 1, none⟩) (by show ¬ RS + 1 = X; omega) t1)
          rw [← hwN] at HTN
          unfold setSt at hwN
          have HWN := hid hwN
          have hn1 : ¬ RS = X := by omega
          have hn2 : ¬ X = RS := by omega
          clear hb11 hs11 hb12 hz11 hb1012 hw11 hw12 hRS hwN hfN hrs t0 t1 r0 r1 HT9
          go_upto_region 20 with fail
          have e := HW11.out
          simp only [← e]
          have e2 := HW12.out
          simp only [← e2]
          clear e e2
          try rw [HRS.out]
          go_upto_region 21 with fail
          have e := HWN.out
          simp only [← e]
          clear e HWN HW11 HW12 k0 k1 k2 k3 k4 k5 k6 k7 k8 k9 x0 x1 x2 x3 x4 x5 x6 x7 x8 x9 f0 f1 f2 f3 f4 f5 f6 f7 f8 f9
          have r0 := R0.out; have r1 := R1.out; have t0 := T0.out; have t1 := T1.out
          have hneq : ∀ w : World, (binOp .neq 59 (.agg #[strV q.1, strV q.2]) (.agg #[strV q.1, strV q.2])).run Tryz.prog w = .ok (.bool false) w := fun w => by
            have h := run_neqR q q w
            rw [decide_eq_true rfl] at h
            exact h
          go_wp2_with fail
          go_meet
          case rel => exact ⟨U8, hd2, _, _, _, _, _, _, st1, HGD.out.mono (by omega) (by omega) (by omega), HTN, HH1⟩
        by_cases hk1 : kd = 1
        · subst hk1
          have HRC := hid (HRCM.out _ st' _ wx HTX.out.lt HTX.out.k HG.out.live (by have := HG.out.ops; omega) (by have := HG.out.acts; omega))
          have HCO := hid (fun w' (h : So w' U' S st') => commit_any U' S st' w' h HG.out.live (by have := HG.out.ops; omega) (by have := HG.out.acts; omega))
          have HGD := hid (gone_commit HG.out (by omega))
          obtain ⟨⟨st1, E⟩, hqE⟩ : ∃ r, commitD st' = r := ⟨_, rfl⟩
          simp only [hqE] at HRC HCO HGD
          obtain ⟨k0, k1, k2, k3, k4, k5, k6, k7, k8, k9⟩ := HTX.out.c
          clear hqE y1 y2 y3 y4 hk0
          go_wp2_with fail
          refine HRC.out.mono ?_
          rintro e w10 ⟨v10, rfl, hk10, hb10⟩
          obtain ⟨ok3, nk3, ck3, on3, nn3, cn3, oo3, no3, co3, op3, np3, cp3, oq3, nq3, cq3, oa3, na3, ca3, rfl, hk10⟩ := hk10.parts
          obtain ⟨hd3, hhd3⟩ : ∃ x, st1.hd = x := ⟨_, rfl⟩
          simp only [hhd3] at hk10 ⊢
          have HH1 := hid hhd3
          obtain ⟨w11, hw11⟩ : ∃ x, x = w10.alloc (.cells #[.int .i64 hd3.1, .int .i64 hd3.2.1, .int .i64 hd3.2.2.1, .int .i64 hd3.2.2.2, .slice ok3 nk3 ck3, .slice on3 nn3 cn3, .slice oo3 no3 co3, .slice op3 np3 cp3, .slice oq3 nq3 cq3, .slice oa3 na3 ca3] 39) := ⟨_, rfl⟩
          have hb11 : Below w10.heap.size w10 w11 := by rw [hw11]; exact balloc (Below.refl _ _) _
          have hs11 : StC w11 w10.heap.size hd3 (.slice ok3 nk3 ck3) (.slice on3 nn3 cn3) (.slice oo3 no3 co3) (.slice op3 np3 cp3) (.slice oq3 nq3 cq3) (.slice oa3 na3 ca3) := by rw [hw11]; exact StC.new _ _ _ _ _ _ _ _
          have HTM := hid (HTX.out.below (below_step hb11 hb10))
          have HTN := hid (HTM.out.ref (Below.refl _ _) (hk10.below hb11))
          obtain ⟨RS, hRS⟩ : ∃ x, w10.heap.size = x := ⟨_, rfl⟩
          have hxr : X < RS := by have h1 := HTX.out.xlt; have h2 := hb10.size; omega
          rw [hRS] at hs11
          have HW11 := hid hw11
          have HRS := hid hRS
          clear k0 k1 k2 k3 k4 k5 k6 k7 k8 k9
          obtain ⟨k0, k1, k2, k3, k4, k5, k6, k7, k8, k9⟩ := hs11
          obtain ⟨⟨xv0, x0⟩, f0⟩ := HTM.out.o 0 (by decide)
          obtain ⟨⟨xv1, x1⟩, f1⟩ := HTM.out.o 1 (by decide)
          obtain ⟨⟨xv2, x2⟩, f2⟩ := HTM.out.o 2 (by decide)
          obtain ⟨⟨xv3, x3⟩, f3⟩ := HTM.out.o 3 (by decide)
          obtain ⟨⟨xv4, x4⟩, f4⟩ := HTM.out.o 4 (by decide)
          obtain ⟨⟨xv5, x5⟩, f5⟩ := HTM.out.o 5 (by decide)
          obtain ⟨⟨xv6, x6⟩, f6⟩ := HTM.out.o 6 (by decide)
          obtain ⟨⟨xv7, x7⟩, f7⟩ := HTM.out.o 7 (by decide)
          obtain ⟨⟨xv8, x8⟩, f8⟩ := HTM.out.o 8 (by decide)
          obtain ⟨⟨xv9, x9⟩, f9⟩ := HTM.out.o 9 (by decide)
          obtain ⟨wN, hwN⟩ : ∃ x, x = setSt w11 X hd3 (.slice ok3 nk3 ck3) (.slice on3 nn3 cn3) (.slice oo3 no3 co3) (.slice op3 np3 cp3) (.slice oq3 nq3 cq3) (.slice oa3 na3 ca3) := ⟨_, rfl⟩
          rw [← hwN] at HTN
          unfold setSt at hwN
          have HWN := hid hwN
          have hn1 : ¬ RS = X := by omega
          have hn2 : ¬ X = RS := by omega
          clear hb11 hw11 hRS hwN hb10 hk10 hhd3 HTX HRC
          go_upto_region 25 with fail
          have e := HW11.out
          simp only [← e]
          clear e
          try rw [HRS.out]
          go_upto_region 26 with fail
          have e := HWN.out
          simp only [← e]
          clear e HWN HW11 k0 k1 k2 k3 k4 k5 k6 k7 k8 k9 x0 x1 x2 x3 x4 x5 x6 x7 x8 x9 f0 f1 f2 f3 f4 f5 f6 f7 f8 f9
          go_wp2_with fail
          refine (HCO.out _ HTN.out.h.so).mono ?_
          rintro e w13 hp13
          obtain ⟨rfl, U8, hh8, hf8⟩ := HTN.out.prog hp13
          have HT8 := hid hh8
          clear hp13 hh8 hf8 HTN
          go_wp2_with fail
          go_meet
          case rel => exact ⟨U8, hd3, _, _, _, _, _, _, st1, by have h := HGD.out; exact h.mono (by omega) (by omega) (by omega), HT8, HH1⟩
        have HUN := hid (undo_any U' S st' wx HTX.out.h.so (by have := now_len HG.out.live; have := kept_len HG.out.live; have := HG.out.file; omega) (kept_all HG.out.live))
        have HGD := hid (gone_undo HG.out)
        have HRU := hid (fun (U2 : Nat → Prop) v w' (h : ∀ q, U2 q → q < w'.heap.size) (hk : KSt U2 w' v st') => rundo_any U2 st' v w' h hk)
        have hh1 : (undoD st').hd = hd2 := HHD.out
        have g0 : (kd == 0) = false := by simpa using hk0
        have g1 : (kd == 1) = false := by simpa using hk1
        obtain ⟨st1, hst1⟩ : ∃ x, undoD st' = x := ⟨_, rfl⟩
        simp only [hst1] at HUN HGD HRU hh1
        have HH1 := hid hh1
        clear hst1 hk0 hk1 y1 y2 y3 y4 hh1
        go_wp2_with fail
        refine HUN.out.mono ?_
        rintro e w8 hp8
        obtain ⟨rfl, U8, hh8, hf8⟩ := HTX.out.prog hp8
        have HT8 := hid hh8
        obtain ⟨k0, k1, k2, k3, k4, k5, k6, k7, k8, k9⟩ := HT8.out.c
        clear hp8 hh8 hf8 HTX
        go_wp2_with fail
        refine (HRU.out _ _ w8 HT8.out.lt HT8.out.k).mono ?_
        rintro e w10 ⟨v10, rfl, hk10, hb10⟩
        obtain ⟨ok3, nk3, ck3, on3, nn3, cn3, oo3, no3, co3, op3, np3, cp3, oq3, nq3, cq3, oa3, na3, ca3, rfl, hk10⟩ := hk10.parts
        obtain ⟨hd3, hhd3⟩ : ∃ x, st1.hd = x := ⟨_, rfl⟩
        simp only [hhd3] at hk10 ⊢
        have HH3 := hid hhd3
        have HTM := hid (HT8.out.below hb10)
        have HTN := hid (HTM.out.ref (Below.refl _ _) hk10)
        clear k0 k1 k2 k3 k4 k5 k6 k7 k8 k9
        obtain ⟨⟨xv0, x0⟩, f0⟩ := HTM.out.o 0 (by decide)
        obtain ⟨⟨xv1, x1⟩, f1⟩ := HTM.out.o 1 (by decide)
        obtain ⟨⟨xv2, x2⟩, f2⟩ := HTM.out.o 2 (by decide)
        obtain ⟨⟨xv3, x3⟩, f3⟩ := HTM.out.o 3 (by decide)
        obtain ⟨⟨xv4, x4⟩, f4⟩ := HTM.out.o 4 (by decide)
        obtain ⟨⟨xv5, x5⟩, f5⟩ := HTM.out.o 5 (by decide)
        obtain ⟨⟨xv6, x6⟩, f6⟩ := HTM.out.o 6 (by decide)
        obtain ⟨⟨xv7, x7⟩, f7⟩ := HTM.out.o 7 (by decide)
        obtain ⟨⟨xv8, x8⟩, f8⟩ := HTM.out.o 8 (by decide)
        obtain ⟨⟨xv9, x9⟩, f9⟩ := HTM.out.o 9 (by decide)
        obtain ⟨wN, hwN⟩ : ∃ x, x = setSt w10 X hd3 (.slice ok3 nk3 ck3) (.slice on3 nn3 cn3) (.slice oo3 no3 co3) (.slice op3 np3 cp3) (.slice oq3 nq3 cq3) (.slice oa3 na3 ca3) := ⟨_, rfl⟩
        rw [← hwN] at HTN
        unfold setSt at hwN
        have HWN := hid hwN
        clear hwN hb10 hk10 hhd3 HT8
        go_wp2_with fail
        have e := HWN.out
        simp only [← e]
        clear e HWN
        go_meet
        case rel => exact ⟨U8, hd3, _, _, _, _, _, _, st1, HGD.out.mono (by omega) (by omega) (by omega), HTN, HH3⟩
      case rest =>
      obtain ⟨U2, h2, uk, un, uo, up, uq, ua, s2, HG2, HT2, HH2⟩ := hcut
      obtain ⟨⟨ok4, nk4, ck4, rfl⟩, ⟨on4, nn4, cn4, rfl⟩, ⟨oo4, no4, co4, rfl⟩, ⟨op4, np4, cp4, rfl⟩, ⟨oq4, nq4, cq4, rfl⟩, ⟨oa4, na4, ca4, rfl⟩⟩ := HT2.out.k.sl
      obtain ⟨k0, k1, k2, k3, k4, k5, k6, k7, k8, k9⟩ := HT2.out.c
      obtain ⟨p1, p2, -, -, -, -⟩ := HT2.out.k.pc
      have P1 := hid p1.now; have P2 := hid p2.now
      obtain ⟨wz, hwz⟩ : ∃ x, x = wc := ⟨_, rfl⟩
      subst hwz
      have hnl : s2.now.length ≤ 8 := by have := now_len HG2.out.live; have := HG2.out.file; omega
      have hkl : s2.kept.length ≤ 8 := by have := kept_len HG2.out.live; have := HG2.out.file; omega
      have HDA := hid (fun w' (hb : Below wz.heap.size wz w') => data_any U2 S s2 w' (HT2.out.h.so.below hb) hnl (now_all HG2.out.live))
      have HKE := hid (fun w' (hb : Below wz.heap.size wz w') => kept_any U2 S s2 w' (HT2.out.h.so.below hb) hkl (kept_all HG2.out.live))
      have HSA1 : Hid (∀ x w' (hb : Below wz.heap.size wz w') (h1 : RdD w' x s2.now), Calls Tryz.prog 11 #[x, .slice on4 nn4 cn4] w' (Ret (.bool true) w')) := fun x w' hb h1 => by
        have h := rsameall_any s2.now s2.now x _ w' h1 (P2.out.below hb) (by unfold maxLen; omega) (fun e he => by have := isDs_len (now_all HG2.out.live e he); unfold maxLen; omega)
        rw [decide_eq_true rfl] at h
        exact h
      have HSA2 : Hid (∀ x w' (hb : Below wz.heap.size wz w') (h1 : RdD w' x s2.kept), Calls Tryz.prog 11 #[x, .slice ok4 nk4 ck4] w' (Ret (.bool true) w')) := fun x w' hb h1 => by
        have h := rsameall_any s2.kept s2.kept x _ w' h1 (P1.out.below hb) (by unfold maxLen; omega) (fun e he => by have := isDs_len (kept_all HG2.out.live e he); unfold maxLen; omega)
        rw [decide_eq_true rfl] at h
        exact h
      clear p1 p2 hnl hkl k0 k1 k2 k3 k6 k7 k8 k9 y0 y1 y2 y3 y4
      go_upto_region 28 with fail
      go_cut [127] (fun x wx => x = .bool false ∧ Hid (Below wz.heap.size wz wx))
      case first =>
        refine wp_region_any (by kernel_rfl) ?_
        try (change wpAny _ _ _ _ _ _ _ (World.drew _))
        refine wpAny_take (i := 0) (v := ?_) rfl (by kernel_rfl) (by kernel_rfl) (by kernel_rfl) (fun _ _ _ h => h) (Or.inl ⟨by rfl, ?_⟩) ?_
        rotate_left
        · (intro w; go_simp; try with_reducible rfl)
        try go_simp
        refine wpAny_take (i := 2) (v := ?_) rfl (by kernel_rfl) (by kernel_rfl) (by kernel_rfl) (fun _ _ _ h => h) (Or.inl ⟨by rfl, ?_⟩) ?_
        rotate_left
        · (intro w; go_simp; try with_reducible rfl)
        try go_simp
        refine wpAny_ready (rs := [1, 3]) (by kernel_rfl) (by simp) ?_
        refine AllReady.cons rfl (fun K hK => ?_) ?_
        · go_simp
          go_wp2_with (go_at_call 12; refine (HDA.out _ (drew_below wz)).mono ?_; rintro e w20 ⟨v20, rfl, ho20, hb20⟩; have hbb := below_step hb20 (drew_below wz); have HB20 := hid hbb; have HR20 := hid ho20.rd; obtain ⟨o20, n20, c20, rfl⟩ : ∃ o n c, v20 = .slice o n c := (by obtain ⟨o, c, e, -⟩ := ho20.rd; exact ⟨o, _, c, e⟩); have k4 := keepc hbb k4; have k5 := keepc hbb k5; clear ho20 hb20 hbb)
          refine wpAny_ready (rs := [3]) (by kernel_rfl) (by simp) ?_
          refine AllReady.cons rfl (fun K hK => ?_) AllReady.nil
          go_simp
          refine hK _ _ ?_; clear hK K
          refine wpAny_ready (rs := [4]) (by kernel_rfl) (by simp) ?_
          refine AllReady.cons rfl (fun K hK => ?_) AllReady.nil
          go_simp
          go_wp2_with (go_at_call 11; refine (HSA1.out _ _ HB20.out HR20.out).mono ?_; rintro e w21 ⟨rfl, hbb⟩; have HB21 := hid (below_step hbb HB20.out); have k4 := keepc hbb k4; have k5 := keepc hbb k5; clear hbb)
          refine wpAny_take (i := 5) (v := ?_) rfl (by kernel_rfl) (by kernel_rfl) (by kernel_rfl) (fun _ _ _ h => h) (Or.inl ⟨by rfl, ?_⟩) ?_
          rotate_left
          · (intro w; go_simp; try with_reducible rfl)
          try go_simp
          refine wpAny_take (i := 6) (v := ?_) rfl (by kernel_rfl) (by kernel_rfl) (by kernel_rfl) (fun _ _ _ h => h) (Or.inl ⟨by rfl, ?_⟩) ?_
          rotate_left
          · (intro w; go_simp; try with_reducible rfl)
          try go_simp
          refine wpAny_take (i := 7) (v := ?_) rfl (by kernel_rfl) (by kernel_rfl) (by kernel_rfl) (fun _ _ _ h => h) (Or.inl ⟨by rfl, ?_⟩) ?_
          rotate_left
          · (intro w; go_simp; try with_reducible rfl)
          try go_simp
          refine wpAny_take (i := 9) (v := ?_) rfl (by kernel_rfl) (by kernel_rfl) (by kernel_rfl) (fun _ _ _ h => h) (Or.inl ⟨by rfl, ?_⟩) ?_
          rotate_left
          · (intro w; go_simp; try with_reducible rfl)
          try go_simp
          refine wpAny_ready (rs := [8, 10]) (by kernel_rfl) (by simp) ?_
          refine AllReady.cons rfl (fun K hK => ?_) ?_
          · go_simp
            go_wp2_with (go_at_call 13; refine (HKE.out _ HB21.out).mono ?_; rintro e w22 ⟨v22, rfl, ho22, hbb⟩; have HB22 := hid (below_step hbb HB21.out); have HR22 := hid ho22.rd; obtain ⟨o22, n22, c22, rfl⟩ : ∃ o n c, v22 = .slice o n c := (by obtain ⟨o, c, e, -⟩ := ho22.rd; exact ⟨o, _, c, e⟩); have k4 := keepc hbb k4; have k5 := keepc hbb k5; clear ho22 hbb)
            refine wpAny_ready (rs := [10]) (by kernel_rfl) (by simp) ?_
            refine AllReady.cons rfl (fun K hK => ?_) AllReady.nil
            go_simp
            refine hK _ _ ?_; clear hK K
            refine wpAny_ready (rs := [11]) (by kernel_rfl) (by simp) ?_
            refine AllReady.cons rfl (fun K hK => ?_) AllReady.nil
            go_simp
            go_wp2_with (go_at_call 11; refine (HSA2.out _ _ HB22.out HR22.out).mono ?_; rintro e w23 ⟨rfl, hbb⟩; have HB23 := hid (below_step hbb HB22.out); clear hbb)
            refine wpAny_take (i := 12) (v := ?_) rfl (by kernel_rfl) (by kernel_rfl) (by kernel_rfl) (fun _ _ _ h => h) (Or.inl ⟨by rfl, ?_⟩) ?_
            rotate_left
            · (intro w; go_simp; try with_reducible rfl)
            try go_simp
            refine wpAny_take (i := 13) (v := ?_) rfl (by kernel_rfl) (by kernel_rfl) (by kernel_rfl) (fun _ _ _ h => h) (Or.inl ⟨by rfl, ?_⟩) ?_
            rotate_left
            · (intro w; go_simp; try with_reducible rfl)
            try go_simp
            refine wpAny_done (by kernel_rfl) ?_ _
            go_wp2_with fail
            go_meet
            case rel => exact ⟨rfl, HB23⟩
          refine AllReady.cons rfl (fun K hK => ?_) ?_
          · go_simp
            refine hK _ _ ?_; clear hK K
            refine wpAny_ready (rs := [8]) (by kernel_rfl) (by simp) ?_
            refine AllReady.cons rfl (fun K hK => ?_) AllReady.nil
            go_simp
            go_wp2_with (go_at_call 13; refine (HKE.out _ HB21.out).mono ?_; rintro e w22 ⟨v22, rfl, ho22, hbb⟩; have HB22 := hid (below_step hbb HB21.out); have HR22 := hid ho22.rd; obtain ⟨o22, n22, c22, rfl⟩ : ∃ o n c, v22 = .slice o n c := (by obtain ⟨o, c, e, -⟩ := ho22.rd; exact ⟨o, _, c, e⟩); have k4 := keepc hbb k4; have k5 := keepc hbb k5; clear ho22 hbb)
            refine wpAny_ready (rs := [11]) (by kernel_rfl) (by simp) ?_
            refine AllReady.cons rfl (fun K hK => ?_) AllReady.nil
            go_simp
            go_wp2_with (go_at_call 11; refine (HSA2.out _ _ HB22.out HR22.out).mono ?_; rintro e w23 ⟨rfl, hbb⟩; have HB23 := hid (below_step hbb HB22.out); clear hbb)
            refine wpAny_take (i := 12) (v := ?_) rfl (by kernel_rfl) (by kernel_rfl) (by kernel_rfl) (fun _ _ _ h => h) (Or.inl ⟨by rfl, ?_⟩) ?_
            rotate_left
            · (intro w; go_simp; try with_reducible rfl)
            try go_simp
            refine wpAny_take (i := 13) (v := ?_) rfl (by kernel_rfl) (by kernel_rfl) (by kernel_rfl) (fun _ _ _ h => h) (Or.inl ⟨by rfl, ?_⟩) ?_
            rotate_left
            · (intro w; go_simp; try with_reducible rfl)
            try go_simp
            refine wpAny_done (by kernel_rfl) ?_ _
            go_wp2_with fail
            go_meet
            case rel => exact ⟨rfl, HB23⟩
          exact AllReady.nil
        refine AllReady.cons rfl (fun K hK => ?_) ?_
        · go_simp
          refine hK _ _ ?_; clear hK K
          refine wpAny_ready (rs := [1]) (by kernel_rfl) (by simp) ?_
          refine AllReady.cons rfl (fun K hK => ?_) AllReady.nil
          go_simp
          go_wp2_with (go_at_call 12; refine (HDA.out _ (drew_below wz)).mono ?_; rintro e w20 ⟨v20, rfl, ho20, hb20⟩; have hbb := below_step hb20 (drew_below wz); have HB20 := hid hbb; have HR20 := hid ho20.rd; obtain ⟨o20, n20, c20, rfl⟩ : ∃ o n c, v20 = .slice o n c := (by obtain ⟨o, c, e, -⟩ := ho20.rd; exact ⟨o, _, c, e⟩); have k4 := keepc hbb k4; have k5 := keepc hbb k5; clear ho20 hb20 hbb)
          refine wpAny_ready (rs := [4]) (by kernel_rfl) (by simp) ?_
          refine AllReady.cons rfl (fun K hK => ?_) AllReady.nil
          go_simp
          go_wp2_with (go_at_call 11; refine (HSA1.out _ _ HB20.out HR20.out).mono ?_; rintro e w21 ⟨rfl, hbb⟩; have HB21 := hid (below_step hbb HB20.out); have k4 := keepc hbb k4; have k5 := keepc hbb k5; clear hbb)
          refine wpAny_take (i := 5) (v := ?_) rfl (by kernel_rfl) (by kernel_rfl) (by kernel_rfl) (fun _ _ _ h => h) (Or.inl ⟨by rfl, ?_⟩) ?_
          rotate_left
          · (intro w; go_simp; try with_reducible rfl)
          try go_simp
          refine wpAny_take (i := 6) (v := ?_) rfl (by kernel_rfl) (by kernel_rfl) (by kernel_rfl) (fun _ _ _ h => h) (Or.inl ⟨by rfl, ?_⟩) ?_
          rotate_left
          · (intro w; go_simp; try with_reducible rfl)
          try go_simp
          refine wpAny_take (i := 7) (v := ?_) rfl (by kernel_rfl) (by kernel_rfl) (by kernel_rfl) (fun _ _ _ h => h) (Or.inl ⟨by rfl, ?_⟩) ?_
          rotate_left
          · (intro w; go_simp; try with_reducible rfl)
          try go_simp
          refine wpAny_take (i := 9) (v := ?_) rfl (by kernel_rfl) (by kernel_rfl) (by kernel_rfl) (fun _ _ _ h => h) (Or.inl ⟨by rfl, ?_⟩) ?_
          rotate_left
          · (intro w; go_simp; try with_reducible rfl)
          try go_simp
          refine wpAny_ready (rs := [8, 10]) (by kernel_rfl) (by simp) ?_
          refine AllReady.cons rfl (fun K hK => ?_) ?_
          · go_simp
            go_wp2_with (go_at_call 13; refine (HKE.out _ HB21.out).mono ?_; rintro e w22 ⟨v22, rfl, ho22, hbb⟩; have HB22 := hid (below_step hbb HB21.out); have HR22 := hid ho22.rd; obtain ⟨o22, n22, c22, rfl⟩ : ∃ o n c, v22 = .slice o n c := (by obtain ⟨o, c, e, -⟩ := ho22.rd; exact ⟨o, _, c, e⟩); have k4 := keepc hbb k4; have k5 := keepc hbb k5; clear ho22 hbb)
            refine wpAny_ready (rs := [10]) (by kernel_rfl) (by simp) ?_
            refine AllReady.cons rfl (fun K hK => ?_) AllReady.nil
            go_simp
            refine hK _ _ ?_; clear hK K
            refine wpAny_ready (rs := [11]) (by kernel_rfl) (by simp) ?_
            refine AllReady.cons rfl (fun K hK => ?_) AllReady.nil
            go_simp
            go_wp2_with (go_at_call 11; refine (HSA2.out _ _ HB22.out HR22.out).mono ?_; rintro e w23 ⟨rfl, hbb⟩; have HB23 := hid (below_step hbb HB22.out); clear hbb)
            refine wpAny_take (i := 12) (v := ?_) rfl (by kernel_rfl) (by kernel_rfl) (by kernel_rfl) (fun _ _ _ h => h) (Or.inl ⟨by rfl, ?_⟩) ?_
            rotate_left
            · (intro w; go_simp; try with_reducible rfl)
            try go_simp
            refine wpAny_take (i := 13) (v := ?_) rfl (by kernel_rfl) (by kernel_rfl) (by kernel_rfl) (fun _ _ _ h => h) (Or.inl ⟨by rfl, ?_⟩) ?_
            rotate_left
            · (intro w; go_simp; try with_reducible rfl)
            try go_simp
            refine wpAny_done (by kernel_rfl) ?_ _
            go_wp2_with fail
            go_meet
            case rel => exact ⟨rfl, HB23⟩
          refine AllReady.cons rfl (fun K hK => ?_) ?_
          · go_simp
            refine hK _ _ ?_; clear hK K
            refine wpAny_ready (rs := [8]) (by kernel_rfl) (by simp) ?_
            refine AllReady.cons rfl (fun K hK => ?_) AllReady.nil
            go_simp
            go_wp2_with (go_at_call 13; refine (HKE.out _ HB21.out).mono ?_; rintro e w22 ⟨v22, rfl, ho22, hbb⟩; have HB22 := hid (below_step hbb HB21.out); have HR22 := hid ho22.rd; obtain ⟨o22, n22, c22, rfl⟩ : ∃ o n c, v22 = .slice o n c := (by obtain ⟨o, c, e, -⟩ := ho22.rd; exact ⟨o, _, c, e⟩); have k4 := keepc hbb k4; have k5 := keepc hbb k5; clear ho22 hbb)
            refine wpAny_ready (rs := [11]) (by kernel_rfl) (by simp) ?_
            refine AllReady.cons rfl (fun K hK => ?_) AllReady.nil
            go_simp
            go_wp2_with (go_at_call 11; refine (HSA2.out _ _ HB22.out HR22.out).mono ?_; rintro e w23 ⟨rfl, hbb⟩; have HB23 := hid (below_step hbb HB22.out); clear hbb)
            refine wpAny_take (i := 12) (v := ?_) rfl (by kernel_rfl) (by kernel_rfl) (by kernel_rfl) (fun _ _ _ h => h) (Or.inl ⟨by rfl, ?_⟩) ?_
            rotate_left
            · (intro w; go_simp; try with_reducible rfl)
            try go_simp
            refine wpAny_take (i := 13) (v := ?_) rfl (by kernel_rfl) (by kernel_rfl) (by kernel_rfl) (fun _ _ _ h => h) (Or.inl ⟨by rfl, ?_⟩) ?_
            rotate_left
            · (intro w; go_simp; try with_reducible rfl)
            try go_simp
            refine wpAny_done (by kernel_rfl) ?_ _
            go_wp2_with fail
            go_meet
            case rel => exact ⟨rfl, HB23⟩
          exact AllReady.nil
        exact AllReady.nil
      case rest =>
      obtain ⟨rfl, HBE⟩ := hcut
      have HT3 := hid (HT2.out.below HBE.out)
      clear HDA HKE HSA1 HSA2 k4 k5
      go_wp2_with fail
      go_roundw
      case rel => exact ⟨k + 1, U2, h2, _, _, _, _, _, _, s2, by go_num, by omega, by omega, HG2, HT3, HH2⟩
      case measure => simp [intOf]; omega
    · obtain ⟨⟨ok4, nk4, ck4, rfl⟩, ⟨on4, nn4, cn4, rfl⟩, ⟨oo4, no4, co4, rfl⟩, ⟨op4, np4, cp4, rfl⟩, ⟨oq4, nq4, cq4, rfl⟩, ⟨oa4, na4, ca4, rfl⟩⟩ := HT.out.k.sl
      obtain ⟨k0, k1, k2, k3, k4, k5, k6, k7, k8, k9⟩ := HT.out.c
      obtain ⟨-, -, -, p4, p5, p6⟩ := HT.out.k.pc
      have P4 := hid p4.now; have P5 := hid p5.now; have P6 := hid p6.now
      obtain ⟨wz, hwz⟩ : ∃ x, x = wr := ⟨_, rfl⟩
      subst hwz
      have hdl' := isDk_len HG.out.live.as_.dk
      have hnw' := HG.out.live.as_.nw
      have hac' := HG.out.acts
      have HDI := hid (fun w' (hb : Below wz.heap.size wz w') => disk_any U' S st' w' (HT.out.h.so.below hb) hdl'.2 (by rw [hnw']; exact Nat.zero_le _))
      have HAC := hid (fun w' (hb : Below wz.heap.size wz w') => acts_any U' S st' w' (HT.out.h.so.below hb) (by omega))
      have HSD : Hid (∀ x1 x2 w' (hb : Below wz.heap.size wz w') (h1 : RdS w' x1 st'.dk.1) (h2 : RdW w' x2 st'.dk.2), Calls Tryz.prog 10 #[.agg #[x1, x2], .agg #[.slice op4 np4 cp4, .slice oq4 nq4 cq4]] w' (Ret (.bool true) w')) := fun x1 x2 w' hb h1 h2 =>
        rsamedisk_self st'.dk _ _ _ _ w' h1 h2 (P4.out.below hb) (P5.out.below hb) (by omega) (by rw [hnw']; exact Nat.zero_le _)
      have HSC : Hid (∀ x w' (hb : Below wz.heap.size wz w') (h1 : RdA w' x st'.acts), Calls Tryz.prog 24 #[x, .slice oa4 na4 ca4] w' (Ret (.bool true) w')) := fun x w' hb h1 => by
        have h := lsameacts_any st'.acts st'.acts x _ w' h1 (P6.out.below hb) (by unfold maxLen; omega)
        rw [decide_eq_true rfl] at h
        exact h
      have HBZ := hid (below_step HT.out.h.b (below_step HB2.out HBW.out))
      clear p4 p5 p6 hdl' hnw' hac' k0 k1 k2 k3 k4 k5 k6
      by_cases hkN : k < N
      · have hk100 : ¬ k < 100 := fun h => hlt ⟨hkN, h⟩
        have gi1 : (k : Int) < (N : Int) := by omega
        have gi2 : ¬ (k : Int) < 100 := by omega
        go_upto_region 30 with fail
        refine wp_region_any (by kernel_rfl) ?_
        try (change wpAny _ _ _ _ _ _ _ (World.drew _))
        refine wpAny_take (i := 0) (v := ?_) rfl (by kernel_rfl) (by kernel_rfl) (by kernel_rfl) (fun _ _ _ h => h) (Or.inl ⟨by rfl, ?_⟩) ?_
        rotate_left
        · (intro w; go_simp; try with_reducible rfl)
        try go_simp
        refine wpAny_take (i := 2) (v := ?_) rfl (by kernel_rfl) (by kernel_rfl) (by kernel_rfl) (fun _ _ _ h => h) (Or.inl ⟨by rfl, ?_⟩) ?_
        rotate_left
        · (intro w; go_simp; try with_reducible rfl)
        try go_simp
        refine wpAny_ready (rs := [1, 3]) (by kernel_rfl) (by simp) ?_
        refine AllReady.cons rfl (fun K hK => ?_) ?_
        · go_simp
          go_wp2_with (go_at_call 14; refine (HDI.out _ (drew_below wz)).mono ?_; rintro e w20 ⟨x1, x2, rfl, ho1, ho2, hb20⟩; have hbb := below_step hb20 (drew_below wz); have HP1 := hid ho1.rd; have HQ1 := hid ho2.rd; have HB20 := hid hbb; have k7 := keepc hbb k7; have k8 := keepc hbb k8; have k9 := keepc hbb k9; clear ho1 ho2 hb20 hbb)
          refine wpAny_ready (rs := [3]) (by kernel_rfl) (by simp) ?_
          refine AllReady.cons rfl (fun K hK => ?_) AllReady.nil
          go_simp
          refine hK _ _ ?_; clear hK K
          refine wpAny_ready (rs := [4]) (by kernel_rfl) (by simp) ?_
          refine AllReady.cons rfl (fun K hK => ?_) AllReady.nil
          go_simp
          go_wp2_with (go_at_call 10; refine (HSD.out _ _ _ HB20.out HP1.out HQ1.out).mono ?_; rintro e w21 ⟨rfl, hbb⟩; have HB21 := hid (below_step hbb HB20.out); have k7 := keepc hbb k7; have k8 := keepc hbb k8; have k9 := keepc hbb k9; clear hbb)
          refine wpAny_take (i := 5) (v := ?_) rfl (by kernel_rfl) (by kernel_rfl) (by kernel_rfl) (fun _ _ _ h => h) (Or.inl ⟨by rfl, ?_⟩) ?_
          rotate_left
          · (intro w; go_simp; try with_reducible rfl)
          try go_simp
          refine wpAny_take (i := 6) (v := ?_) rfl (by kernel_rfl) (by kernel_rfl) (by kernel_rfl) (fun _ _ _ h => h) (Or.inl ⟨by rfl, ?_⟩) ?_
          rotate_left
          · (intro w; go_simp; try with_reducible rfl)
          try go_simp
          refine wpAny_take (i := 8) (v := ?_) rfl (by kernel_rfl) (by kernel_rfl) (by kernel_rfl) (fun _ _ _ h => h) (Or.inl ⟨by rfl, ?_⟩) ?_
          rotate_left
          · (intro w; go_simp; try with_reducible rfl)
          try go_simp
          refine wpAny_ready (rs := [7, 9]) (by kernel_rfl) (by simp) ?_
          refine AllReady.cons rfl (fun K hK => ?_) ?_
          · go_simp
            go_wp2_with (go_at_call 15; refine (HAC.out _ HB21.out).mono ?_; rintro e w22 ⟨v22, rfl, ho22, hbb⟩; have HB22 := hid (below_step hbb HB21.out); have HR22 := hid ho22.rd; obtain ⟨o22, n22, c22, rfl⟩ : ∃ o n c, v22 = .slice o n c := (by obtain ⟨o, c, e, -⟩ := ho22.rd; exact ⟨o, _, c, e⟩); have k7 := keepc hbb k7; have k8 := keepc hbb k8; have k9 := keepc hbb k9; clear ho22 hbb)
            refine wpAny_ready (rs := [9]) (by kernel_rfl) (by simp) ?_
            refine AllReady.cons rfl (fun K hK => ?_) AllReady.nil
            go_simp
            refine hK _ _ ?_; clear hK K
            refine wpAny_ready (rs := [10]) (by kernel_rfl) (by simp) ?_
            refine AllReady.cons rfl (fun K hK => ?_) AllReady.nil
            go_simp
            go_wp2_with (go_at_call 24; refine (HSC.out _ _ HB22.out HR22.out).mono ?_; rintro e w23 ⟨rfl, hbb⟩; have HB23 := hid (below_step hbb HB22.out); clear hbb)
            refine wpAny_take (i := 11) (v := ?_) rfl (by kernel_rfl) (by kernel_rfl) (by kernel_rfl) (fun _ _ _ h => h) (Or.inl ⟨by rfl, ?_⟩) ?_
            rotate_left
            · (intro w; go_simp; try with_reducible rfl)
            try go_simp
            refine wpAny_take (i := 12) (v := ?_) rfl (by kernel_rfl) (by kernel_rfl) (by kernel_rfl) (fun _ _ _ h => h) (Or.inl ⟨by rfl, ?_⟩) ?_
            rotate_left
            · (intro w; go_simp; try with_reducible rfl)
            try go_simp
            refine wpAny_done (by kernel_rfl) ?_ _
            go_wp2_with fail
            go_ret
            exact ⟨rfl, below_step HB23.out HBZ.out⟩
          refine AllReady.cons rfl (fun K hK => ?_) ?_
          · go_simp
            refine hK _ _ ?_; clear hK K
            refine wpAny_ready (rs := [7]) (by kernel_rfl) (by simp) ?_
            refine AllReady.cons rfl (fun K hK => ?_) AllReady.nil
            go_simp
            go_wp2_with (go_at_call 15; refine (HAC.out _ HB21.out).mono ?_; rintro e w22 ⟨v22, rfl, ho22, hbb⟩; have HB22 := hid (below_step hbb HB21.out); have HR22 := hid ho22.rd; obtain ⟨o22, n22, c22, rfl⟩ : ∃ o n c, v22 = .slice o n c := (by obtain ⟨o, c, e, -⟩ := ho22.rd; exact ⟨o, _, c, e⟩); have k7 := keepc hbb k7; have k8 := keepc hbb k8; have k9 := keepc hbb k9; clear ho22 hbb)
            refine wpAny_ready (rs := [10]) (by kernel_rfl) (by simp) ?_
            refine AllReady.cons rfl (fun K hK => ?_) AllReady.nil
            go_simp
            go_wp2_with (go_at_call 24; refine (HSC.out _ _ HB22.out HR22.out).mono ?_; rintro e w23 ⟨rfl, hbb⟩; have HB23 := hid (below_step hbb HB22.out); clear hbb)
            refine wpAny_take (i := 11) (v := ?_) rfl (by kernel_rfl) (by kernel_rfl) (by kernel_rfl) (fun _ _ _ h => h) (Or.inl ⟨by rfl, ?_⟩) ?_
            rotate_left
            · (intro w; go_simp; try with_reducible rfl)
            try go_simp
            refine wpAny_take (i := 12) (v := ?_) rfl (by kernel_rfl) (by kernel_rfl) (by kernel_rfl) (fun _ _ _ h => h) (Or.inl ⟨by rfl, ?_⟩) ?_
            rotate_left
            · (intro w; go_simp; try with_reducible rfl)
            try go_simp
            refine wpAny_done (by kernel_rfl) ?_ _
            go_wp2_with fail
            go_ret
            exact ⟨rfl, below_step HB23.out HBZ.out⟩
          exact AllReady.nil
        refine AllReady.cons rfl (fun K hK => ?_) ?_
        · go_simp
          refine hK _ _ ?_; clear hK K
          refine wpAny_ready (rs := [1]) (by kernel_rfl) (by simp) ?_
          refine AllReady.cons rfl (fun K hK => ?_) AllReady.nil
          go_simp
          go_wp2_with (go_at_call 14; refine (HDI.out _ (drew_below wz)).mono ?_; rintro e w20 ⟨x1, x2, rfl, ho1, ho2, hb20⟩; have hbb := below_step hb20 (drew_below wz); have HP1 := hid ho1.rd; have HQ1 := hid ho2.rd; have HB20 := hid hbb; have k7 := keepc hbb k7; have k8 := keepc hbb k8; have k9 := keepc hbb k9; clear ho1 ho2 hb20 hbb)
          refine wpAny_ready (rs := [4]) (by kernel_rfl) (by simp) ?_
          refine AllReady.cons rfl (fun K hK => ?_) AllReady.nil
          go_simp
          go_wp2_with (go_at_call 10; refine (HSD.out _ _ _ HB20.out HP1.out HQ1.out).mono ?_; rintro e w21 ⟨rfl, hbb⟩; have HB21 := hid (below_step hbb HB20.out); have k7 := keepc hbb k7; have k8 := keepc hbb k8; have k9 := keepc hbb k9; clear hbb)
          refine wpAny_take (i := 5) (v := ?_) rfl (by kernel_rfl) (by kernel_rfl) (by kernel_rfl) (fun _ _ _ h => h) (Or.inl ⟨by rfl, ?_⟩) ?_
          rotate_left
          · (intro w; go_simp; try with_reducible rfl)
          try go_simp
          refine wpAny_take (i := 6) (v := ?_) rfl (by kernel_rfl) (by kernel_rfl) (by kernel_rfl) (fun _ _ _ h => h) (Or.inl ⟨by rfl, ?_⟩) ?_
          rotate_left
          · (intro w; go_simp; try with_reducible rfl)
          try go_simp
          refine wpAny_take (i := 8) (v := ?_) rfl (by kernel_rfl) (by kernel_rfl) (by kernel_rfl) (fun _ _ _ h => h) (Or.inl ⟨by rfl, ?_⟩) ?_
          rotate_left
          · (intro w; go_simp; try with_reducible rfl)
          try go_simp
          refine wpAny_ready (rs := [7, 9]) (by kernel_rfl) (by simp) ?_
          refine AllReady.cons rfl (fun K hK => ?_) ?_
          · go_simp
            go_wp2_with (go_at_call 15; refine (HAC.out _ HB21.out).mono ?_; rintro e w22 ⟨v22, rfl, ho22, hbb⟩; have HB22 := hid (below_step hbb HB21.out); have HR22 := hid ho22.rd; obtain ⟨o22, n22, c22, rfl⟩ : ∃ o n c, v22 = .slice o n c := (by obtain ⟨o, c, e, -⟩ := ho22.rd; exact ⟨o, _, c, e⟩); have k7 := keepc hbb k7; have k8 := keepc hbb k8; have k9 := keepc hbb k9; clear ho22 hbb)
            refine wpAny_ready (rs := [9]) (by kernel_rfl) (by simp) ?_
            refine AllReady.cons rfl (fun K hK => ?_) AllReady.nil
            go_simp
            refine hK _ _ ?_; clear hK K
            refine wpAny_ready (rs := [10]) (by kernel_rfl) (by simp) ?_
            refine AllReady.cons rfl (fun K hK => ?_) AllReady.nil
            go_simp
            go_wp2_with (go_at_call 24; refine (HSC.out _ _ HB22.out HR22.out).mono ?_; rintro e w23 ⟨rfl, hbb⟩; have HB23 := hid (below_step hbb HB22.out); clear hbb)
            refine wpAny_take (i := 11) (v := ?_) rfl (by kernel_rfl) (by kernel_rfl) (by kernel_rfl) (fun _ _ _ h => h) (Or.inl ⟨by rfl, ?_⟩) ?_
            rotate_left
            · (intro w; go_simp; try with_reducible rfl)
            try go_simp
            refine wpAny_take (i := 12) (v := ?_) rfl (by kernel_rfl) (by kernel_rfl) (by kernel_rfl) (fun _ _ _ h => h) (Or.inl ⟨by rfl, ?_⟩) ?_
            rotate_left
            · (intro w; go_simp; try with_reducible rfl)
            try go_simp
            refine wpAny_done (by kernel_rfl) ?_ _
            go_wp2_with fail
            go_ret
            exact ⟨rfl, below_step HB23.out HBZ.out⟩
          refine AllReady.cons rfl (fun K hK => ?_) ?_
          · go_simp
            refine hK _ _ ?_; clear hK K
            refine wpAny_ready (rs := [7]) (by kernel_rfl) (by simp) ?_
            refine AllReady.cons rfl (fun K hK => ?_) AllReady.nil
            go_simp
            go_wp2_with (go_at_call 15; refine (HAC.out _ HB21.out).mono ?_; rintro e w22 ⟨v22, rfl, ho22, hbb⟩; have HB22 := hid (below_step hbb HB21.out); have HR22 := hid ho22.rd; obtain ⟨o22, n22, c22, rfl⟩ : ∃ o n c, v22 = .slice o n c := (by obtain ⟨o, c, e, -⟩ := ho22.rd; exact ⟨o, _, c, e⟩); have k7 := keepc hbb k7; have k8 := keepc hbb k8; have k9 := keepc hbb k9; clear ho22 hbb)
            refine wpAny_ready (rs := [10]) (by kernel_rfl) (by simp) ?_
            refine AllReady.cons rfl (fun K hK => ?_) AllReady.nil
            go_simp
            go_wp2_with (go_at_call 24; refine (HSC.out _ _ HB22.out HR22.out).mono ?_; rintro e w23 ⟨rfl, hbb⟩; have HB23 := hid (below_step hbb HB22.out); clear hbb)
            refine wpAny_take (i := 11) (v := ?_) rfl (by kernel_rfl) (by kernel_rfl) (by kernel_rfl) (fun _ _ _ h => h) (Or.inl ⟨by rfl, ?_⟩) ?_
            rotate_left
            · (intro w; go_simp; try with_reducible rfl)
            try go_simp
            refine wpAny_take (i := 12) (v := ?_) rfl (by kernel_rfl) (by kernel_rfl) (by kernel_rfl) (fun _ _ _ h => h) (Or.inl ⟨by rfl, ?_⟩) ?_
            rotate_left
            · (intro w; go_simp; try with_reducible rfl)
            try go_simp
            refine wpAny_done (by kernel_rfl) ?_ _
            go_wp2_with fail
            go_ret
            exact ⟨rfl, below_step HB23.out HBZ.out⟩
          exact AllReady.nil
        exact AllReady.nil
      · have gi1 : ¬ (k : Int) < (N : Int) := by omega
        go_upto_region 30 with fail
        refine wp_region_any (by kernel_rfl) ?_
        try (change wpAny _ _ _ _ _ _ _ (World.drew _))
        refine wpAny_take (i := 0) (v := ?_) rfl (by kernel_rfl) (by kernel_rfl) (by kernel_rfl) (fun _ _ _ h => h) (Or.inl ⟨by rfl, ?_⟩) ?_
        rotate_left
        · (intro w; go_simp; try with_reducible rfl)
        try go_simp
        refine wpAny_take (i := 2) (v := ?_) rfl (by kernel_rfl) (by kernel_rfl) (by kernel_rfl) (fun _ _ _ h => h) (Or.inl ⟨by rfl, ?_⟩) ?_
        rotate_left
        · (intro w; go_simp; try with_reducible rfl)
        try go_simp
        refine wpAny_ready (rs := [1, 3]) (by kernel_rfl) (by simp) ?_
        refine AllReady.cons rfl (fun K hK => ?_) ?_
        · go_simp
          go_wp2_with (go_at_call 14; refine (HDI.out _ (drew_below wz)).mono ?_; rintro e w20 ⟨x1, x2, rfl, ho1, ho2, hb20⟩; have hbb := below_step hb20 (drew_below wz); have HP1 := hid ho1.rd; have HQ1 := hid ho2.rd; have HB20 := hid hbb; have k7 := keepc hbb k7; have k8 := keepc hbb k8; have k9 := keepc hbb k9; clear ho1 ho2 hb20 hbb)
          refine wpAny_ready (rs := [3]) (by kernel_rfl) (by simp) ?_
          refine AllReady.cons rfl (fun K hK => ?_) AllReady.nil
          go_simp
          refine hK _ _ ?_; clear hK K
          refine wpAny_ready (rs := [4]) (by kernel_rfl) (by simp) ?_
          refine AllReady.cons rfl (fun K hK => ?_) AllReady.nil
          go_simp
          go_wp2_with (go_at_call 10; refine (HSD.out _ _ _ HB20.out HP1.out HQ1.out).mono ?_; rintro e w21 ⟨rfl, hbb⟩; have HB21 := hid (below_step hbb HB20.out); have k7 := keepc hbb k7; have k8 := keepc hbb k8; have k9 := keepc hbb k9; clear hbb)
          refine wpAny_take (i := 5) (v := ?_) rfl (by kernel_rfl) (by kernel_rfl) (by kernel_rfl) (fun _ _ _ h => h) (Or.inl ⟨by rfl, ?_⟩) ?_
          rotate_left
          · (intro w; go_simp; try with_reducible rfl)
          try go_simp
          refine wpAny_take (i := 6) (v := ?_) rfl (by kernel_rfl) (by kernel_rfl) (by kernel_rfl) (fun _ _ _ h => h) (Or.inl ⟨by rfl, ?_⟩) ?_
          rotate_left
          · (intro w; go_simp; try with_reducible rfl)
          try go_simp
          refine wpAny_take (i := 8) (v := ?_) rfl (by kernel_rfl) (by kernel_rfl) (by kernel_rfl) (fun _ _ _ h => h) (Or.inl ⟨by rfl, ?_⟩) ?_
          rotate_left
          · (intro w; go_simp; try with_reducible rfl)
          try go_simp
          refine wpAny_ready (rs := [7, 9]) (by kernel_rfl) (by simp) ?_
          refine AllReady.cons rfl (fun K hK => ?_) ?_
          · go_simp
            go_wp2_with (go_at_call 15; refine (HAC.out _ HB21.out).mono ?_; rintro e w22 ⟨v22, rfl, ho22, hbb⟩; have HB22 := hid (below_step hbb HB21.out); have HR22 := hid ho22.rd; obtain ⟨o22, n22, c22, rfl⟩ : ∃ o n c, v22 = .slice o n c := (by obtain ⟨o, c, e, -⟩ := ho22.rd; exact ⟨o, _, c, e⟩); have k7 := keepc hbb k7; have k8 := keepc hbb k8; have k9 := keepc hbb k9; clear ho22 hbb)
            refine wpAny_ready (rs := [9]) (by kernel_rfl) (by simp) ?_
            refine AllReady.cons rfl (fun K hK => ?_) AllReady.nil
            go_simp
            refine hK _ _ ?_; clear hK K
            refine wpAny_ready (rs := [10]) (by kernel_rfl) (by simp) ?_
            refine AllReady.cons rfl (fun K hK => ?_) AllReady.nil
            go_simp
            go_wp2_with (go_at_call 24; refine (HSC.out _ _ HB22.out HR22.out).mono ?_; rintro e w23 ⟨rfl, hbb⟩; have HB23 := hid (below_step hbb HB22.out); clear hbb)
            refine wpAny_take (i := 11) (v := ?_) rfl (by kernel_rfl) (by kernel_rfl) (by kernel_rfl) (fun _ _ _ h => h) (Or.inl ⟨by rfl, ?_⟩) ?_
            rotate_left
            · (intro w; go_simp; try with_reducible rfl)
            try go_simp
            refine wpAny_take (i := 12) (v := ?_) rfl (by kernel_rfl) (by kernel_rfl) (by kernel_rfl) (fun _ _ _ h => h) (Or.inl ⟨by rfl, ?_⟩) ?_
            rotate_left
            · (intro w; go_simp; try with_reducible rfl)
            try go_simp
            refine wpAny_done (by kernel_rfl) ?_ _
            go_wp2_with fail
            go_ret
            exact ⟨rfl, below_step HB23.out HBZ.out⟩
          refine AllReady.cons rfl (fun K hK => ?_) ?_
          · go_simp
            refine hK _ _ ?_; clear hK K
            refine wpAny_ready (rs := [7]) (by kernel_rfl) (by simp) ?_
            refine AllReady.cons rfl (fun K hK => ?_) AllReady.nil
            go_simp
            go_wp2_with (go_at_call 15; refine (HAC.out _ HB21.out).mono ?_; rintro e w22 ⟨v22, rfl, ho22, hbb⟩; have HB22 := hid (below_step hbb HB21.out); have HR22 := hid ho22.rd; obtain ⟨o22, n22, c22, rfl⟩ : ∃ o n c, v22 = .slice o n c := (by obtain ⟨o, c, e, -⟩ := ho22.rd; exact ⟨o, _, c, e⟩); have k7 := keepc hbb k7; have k8 := keepc hbb k8; have k9 := keepc hbb k9; clear ho22 hbb)
            refine wpAny_ready (rs := [10]) (by kernel_rfl) (by simp) ?_
            refine AllReady.cons rfl (fun K hK => ?_) AllReady.nil
            go_simp
            go_wp2_with (go_at_call 24; refine (HSC.out _ _ HB22.out HR22.out).mono ?_; rintro e w23 ⟨rfl, hbb⟩; have HB23 := hid (below_step hbb HB22.out); clear hbb)
            refine wpAny_take (i := 11) (v := ?_) rfl (by kernel_rfl) (by kernel_rfl) (by kernel_rfl) (fun _ _ _ h => h) (Or.inl ⟨by rfl, ?_⟩) ?_
            rotate_left
            · (intro w; go_simp; try with_reducible rfl)
            try go_simp
            refine wpAny_take (i := 12) (v := ?_) rfl (by kernel_rfl) (by kernel_rfl) (by kernel_rfl) (fun _ _ _ h => h) (Or.inl ⟨by rfl, ?_⟩) ?_
            rotate_left
            · (intro w; go_simp; try with_reducible rfl)
            try go_simp
            refine wpAny_done (by kernel_rfl) ?_ _
            go_wp2_with fail
            go_ret
            exact ⟨rfl, below_step HB23.out HBZ.out⟩
          exact AllReady.nil
        refine AllReady.cons rfl (fun K hK => ?_) ?_
        · go_simp
          refine hK _ _ ?_; clear hK K
          refine wpAny_ready (rs := [1]) (by kernel_rfl) (by simp) ?_
          refine AllReady.cons rfl (fun K hK => ?_) AllReady.nil
          go_simp
          go_wp2_with (go_at_call 14; refine (HDI.out _ (drew_below wz)).mono ?_; rintro e w20 ⟨x1, x2, rfl, ho1, ho2, hb20⟩; have hbb := below_step hb20 (drew_below wz); have HP1 := hid ho1.rd; have HQ1 := hid ho2.rd; have HB20 := hid hbb; have k7 := keepc hbb k7; have k8 := keepc hbb k8; have k9 := keepc hbb k9; clear ho1 ho2 hb20 hbb)
          refine wpAny_ready (rs := [4]) (by kernel_rfl) (by simp) ?_
          refine AllReady.cons rfl (fun K hK => ?_) AllReady.nil
          go_simp
          go_wp2_with (go_at_call 10; refine (HSD.out _ _ _ HB20.out HP1.out HQ1.out).mono ?_; rintro e w21 ⟨rfl, hbb⟩; have HB21 := hid (below_step hbb HB20.out); have k7 := keepc hbb k7; have k8 := keepc hbb k8; have k9 := keepc hbb k9; clear hbb)
          refine wpAny_take (i := 5) (v := ?_) rfl (by kernel_rfl) (by kernel_rfl) (by kernel_rfl) (fun _ _ _ h => h) (Or.inl ⟨by rfl, ?_⟩) ?_
          rotate_left
          · (intro w; go_simp; try with_reducible rfl)
          try go_simp
          refine wpAny_take (i := 6) (v := ?_) rfl (by kernel_rfl) (by kernel_rfl) (by kernel_rfl) (fun _ _ _ h => h) (Or.inl ⟨by rfl, ?_⟩) ?_
          rotate_left
          · (intro w; go_simp; try with_reducible rfl)
          try go_simp
          refine wpAny_take (i := 8) (v := ?_) rfl (by kernel_rfl) (by kernel_rfl) (by kernel_rfl) (fun _ _ _ h => h) (Or.inl ⟨by rfl, ?_⟩) ?_
          rotate_left
          · (intro w; go_simp; try with_reducible rfl)
          try go_simp
          refine wpAny_ready (rs := [7, 9]) (by kernel_rfl) (by simp) ?_
          refine AllReady.cons rfl (fun K hK => ?_) ?_
          · go_simp
            go_wp2_with (go_at_call 15; refine (HAC.out _ HB21.out).mono ?_; rintro e w22 ⟨v22, rfl, ho22, hbb⟩; have HB22 := hid (below_step hbb HB21.out); have HR22 := hid ho22.rd; obtain ⟨o22, n22, c22, rfl⟩ : ∃ o n c, v22 = .slice o n c := (by obtain ⟨o, c, e, -⟩ := ho22.rd; exact ⟨o, _, c, e⟩); have k7 := keepc hbb k7; have k8 := keepc hbb k8; have k9 := keepc hbb k9; clear ho22 hbb)
            refine wpAny_ready (rs := [9]) (by kernel_rfl) (by simp) ?_
            refine AllReady.cons rfl (fun K hK => ?_) AllReady.nil
            go_simp
            refine hK _ _ ?_; clear hK K
            refine wpAny_ready (rs := [10]) (by kernel_rfl) (by simp) ?_
            refine AllReady.cons rfl (fun K hK => ?_) AllReady.nil
            go_simp
            go_wp2_with (go_at_call 24; refine (HSC.out _ _ HB22.out HR22.out).mono ?_; rintro e w23 ⟨rfl, hbb⟩; have HB23 := hid (below_step hbb HB22.out); clear hbb)
            refine wpAny_take (i := 11) (v := ?_) rfl (by kernel_rfl) (by kernel_rfl) (by kernel_rfl) (fun _ _ _ h => h) (Or.inl ⟨by rfl, ?_⟩) ?_
            rotate_left
            · (intro w; go_simp; try with_reducible rfl)
            try go_simp
            refine wpAny_take (i := 12) (v := ?_) rfl (by kernel_rfl) (by kernel_rfl) (by kernel_rfl) (fun _ _ _ h => h) (Or.inl ⟨by rfl, ?_⟩) ?_
            rotate_left
            · (intro w; go_simp; try with_reducible rfl)
            try go_simp
            refine wpAny_done (by kernel_rfl) ?_ _
            go_wp2_with fail
            go_ret
            exact ⟨rfl, below_step HB23.out HBZ.out⟩
          refine AllReady.cons rfl (fun K hK => ?_) ?_
          · go_simp
            refine hK _ _ ?_; clear hK K
            refine wpAny_ready (rs := [7]) (by kernel_rfl) (by simp) ?_
            refine AllReady.cons rfl (fun K hK => ?_) AllReady.nil
            go_simp
            go_wp2_with (go_at_call 15; refine (HAC.out _ HB21.out).mono ?_; rintro e w22 ⟨v22, rfl, ho22, hbb⟩; have HB22 := hid (below_step hbb HB21.out); have HR22 := hid ho22.rd; obtain ⟨o22, n22, c22, rfl⟩ : ∃ o n c, v22 = .slice o n c := (by obtain ⟨o, c, e, -⟩ := ho22.rd; exact ⟨o, _, c, e⟩); have k7 := keepc hbb k7; have k8 := keepc hbb k8; have k9 := keepc hbb k9; clear ho22 hbb)
            refine wpAny_ready (rs := [10]) (by kernel_rfl) (by simp) ?_
            refine AllReady.cons rfl (fun K hK => ?_) AllReady.nil
            go_simp
            go_wp2_with (go_at_call 24; refine (HSC.out _ _ HB22.out HR22.out).mono ?_; rintro e w23 ⟨rfl, hbb⟩; have HB23 := hid (below_step hbb HB22.out); clear hbb)
            refine wpAny_take (i := 11) (v := ?_) rfl (by kernel_rfl) (by kernel_rfl) (by kernel_rfl) (fun _ _ _ h => h) (Or.inl ⟨by rfl, ?_⟩) ?_
            rotate_left
            · (intro w; go_simp; try with_reducible rfl)
            try go_simp
            refine wpAny_take (i := 12) (v := ?_) rfl (by kernel_rfl) (by kernel_rfl) (by kernel_rfl) (fun _ _ _ h => h) (Or.inl ⟨by rfl, ?_⟩) ?_
            rotate_left
            · (intro w; go_simp; try with_reducible rfl)
            try go_simp
            refine wpAny_done (by kernel_rfl) ?_ _
            go_wp2_with fail
            go_ret
            exact ⟨rfl, below_step HB23.out HBZ.out⟩
          exact AllReady.nil
        exact AllReady.nil
end Go.Proofs.YtifcgimpgbeocaaGreat
