/- The law FilesFull, walked. -/
import Derived.Test.YtifcgimpgbeocaaK27
import Derived.Test.YtifcgimpgbeocaaK34
import Derived.Test.YtifcgimpgbeocaaK35
import Derived.Test.YtifcgimpgbeocaaK32
set_option linter.unusedVariables false
set_option linter.unusedSimpArgs false
namespace Go.Proofs.Ytifcgimpgbeocaa
open Go.RowKit
attribute [local go_sem] Oper.semAt_some
theorem createD_no' {n f : Int} (h : ¬ ((4 ≤ n ∧ n ≤ 4096) ∧ 1 ≤ f ∧ f ≤ 8)) : createD n f = (([], []), 1) := by unfold createD; rw [if_neg h]
theorem stNew_gone' {n f : Int} (hn : 4 ≤ n ∧ n ≤ 4096) (hf : 1 ≤ f ∧ f ≤ 8) : Gone 1 0 0 (stNew n f) := gone_open (create_open hn hf) (Nat.le_refl _)
theorem stNew_room {pn : Nat} {f : Int} (hn : 4 ≤ pn ∧ pn ≤ 4096) (hf : 1 ≤ f ∧ f ≤ 8) : room (stNew (pn : Int) f) = 64 * halfN pn := by
  unfold room
  show 64 * halfN (createD (pn : Int) f).1.1.length = _
  rw [createD_ok (by omega) hf]
  simp
theorem stNew_acc {pn : Nat} {f : Int} (hn : 4 ≤ pn ∧ pn ≤ 4096) (hf : 1 ≤ f ∧ f ≤ 8) : Acc (stNew (pn : Int) f) 0 0 := ⟨live_open (create_open (by omega) hf), rfl, rfl⟩
theorem acc_bd {T n a u w : Nat} {st : St} (h : Acc st u w) (hg : Gone T n a st) : u ≤ room st ∧ w ≤ 514 * n := by
  refine ⟨?_, ?_⟩
  · obtain ⟨-, -, -, -, -, g6⟩ := hdOk_parts h.live.as_.hd
    have h1 := h.live.as_.loglen
    have h2 := h.u
    unfold room
    omega
  · have h1 := encL_bd st.ops (fun o ho => chg_bd (h.live.chg o ho))
    have h2 := h.w
    have h3 := hg.ops
    omega
theorem room_do (st : St) (o : FOp) : room (doSt st o).1 = room st := by unfold doSt; split <;> rfl
theorem do_err {st : St} {o : FOp} (h : (doData st.now o).2.2 ≠ 0) : (doSt st o).1 = st := by unfold doSt; rw [if_neg h]
theorem do_now {st : St} {o : FOp} (h : (doData st.now o).2.2 = 0) : (doSt st o).1.now = (doData st.now o).1 := by unfold doSt; rw [if_pos h]
theorem op_chg {data : List Ds} {o : FOp} (he : (doData data o).2.2 = 0) (h3 : 3 ≤ o.1) : chg o = true := by
  have hi := doData_op he
  have := isOp_kinds hi
  unfold chg
  rw [hi]
  simp
  omega
theorem keep_DU {U : Nat → Prop} {w : World} {B n c : Nat} {o : Option Addr} {us : List Value} {l : List Ds} (ho : OV w B (.slice o n c) us) (hr : ∀ (i : Nat) (u : Value) (d : Ds), us[i]? = some u → l[i]? = some d → OR w B u d) (hU : ∀ k, U k → k < B) :
    Keep U w (fun x => ∀ (j : Nat) (u : Value) (d : Ds), us[j]? = some u → l[j]? = some d → (∃ g, o = some ⟨g, 0, none⟩ ∧ x.cell? ⟨g, j, none⟩ = some u) ∧ RdR x u d) := fun w' hf j u d hu hd => by
  have h1 : OV w' B (.slice o n c) us := hf.row ho (own_not ho hU)
  have h2 : OR w' B u d := hf.row (hr j u d hu hd) (own_not (hr j u d hu hd) hU)
  have hjl := (List.getElem?_eq_some_iff.1 hu).1
  obtain ⟨g, cap, e, -, -, -, -, hc⟩ := h1.cells (by omega)
  simp only [Value.slice.injEq] at e
  exact ⟨⟨g, e.1, hc j u hu⟩, h2.rd⟩
theorem clrs {X : List Ds} {j : Nat} {d : Ds} (h : X[j]? = some d) : clrJ X j 0 = clr X j ∧ ∀ i, d.length ≤ i → clrJ X j i = clr X (j + 1) := ⟨clrJ_zero h, fun i hi => clrJ_end h hi⟩
set_option maxHeartbeats 8000000 in
set_option maxRecDepth 100000 in
theorem full_law (p f : Int) (v : Value) (l : List Stp) (w : World) (hR : RdSt w v l) :
    Calls Try.prog 11 #[.agg #[.int .i64 p, .int .i64 f, v]] w (Ret (.bool true) w) := by
  have HS := hid (fun w' => sane_any w')
  have HRS := hid (fun w' (hb : Below w.heap.size w w') => hR.below hb)
  obtain ⟨os, cs, rfl, -, -⟩ := id hR
  obtain ⟨N, hN⟩ : ∃ N, l.length = N := ⟨_, rfl⟩
  simp only [hN] at HRS ⊢
  have HN := hid hN
  have HFI := hid (fun w' => fits_any p f os N cs w')
  obtain ⟨W, hW⟩ : ∃ W, W = w.alloc (.cells #[.int .i64 p, .int .i64 f, .slice os N cs] 42) := ⟨_, rfl⟩
  have HBW : Hid (Below w.heap.size w W) := by rw [hW]; exact balloc (Below.refl _ _) _
  have KK : Hid (∀ j u, #[.int .i64 p, .int .i64 f, .slice os N cs][j]? = some u → W.cell? ⟨w.heap.size, j, none⟩ = some u) := fun j u hj => by rw [hW]; exact cell_new _ _ _ j _ hj
  have HW := hid hW
  clear hW hN hR
  by_cases hfit : (4 ≤ p ∧ p ≤ 4096) ∧ 1 ≤ f ∧ f ≤ 8
  rotate_left
  · have hd : decide ((4 ≤ p ∧ p ≤ 4096) ∧ 1 ≤ f ∧ f ≤ 8) = false := by simpa using hfit
    rw [hd] at HFI
    have HC1 := hid (fun w' => create_any p f w')
    rw [createD_no' hfit] at HC1
    clear hd hfit HRS
    go_enter Try.func11, Try.ntmps11
    go_upto_region 1 with fail
    have e := HW.out
    simp only [← e]
    clear e HW
    go_wp2_with fail
    refine (HS.out _).mono ?_
    rintro e w1 ⟨rfl, hb1⟩
    have HB1 : Hid (Below W.heap.size W w1) := hb1
    have c0 := keepc hb1 (KK.out 0 _ rfl); have c1 := keepc hb1 (KK.out 1 _ rfl); have c2 := keepc hb1 (KK.out 2 _ rfl)
    clear hb1
    go_wp2_with fail
    refine (HFI.out _).mono ?_
    rintro e w2 ⟨rfl, hb2⟩
    have HB2 := hid (below_step hb2 HB1.out)
    have c0 := keepc hb2 c0; have c1 := keepc hb2 c1
    clear hb2 c2
    go_wp2_with fail
    refine (HC1.out _).mono ?_
    rintro e w3 ⟨up, uq, rfl, ho1, ho2, hb3⟩
    obtain ⟨o1, c1', rfl, -, -⟩ := ho1.rd
    obtain ⟨o2, c2', rfl, -, -⟩ := ho2.rd
    have hb4 := balloc (below_step hb3 (Below.refl w2.heap.size w2)) (.cells #[.slice o1 0 c1', .slice o2 0 c2'] 27)
    have HB4 := hid (below_step (below_step hb4 HB2.out) HBW.out)
    clear hb3 hb4 ho1 ho2
    go_wp2_with fail
    go_ret
    exact ⟨rfl, HB4.out⟩
  have hd : decide ((4 ≤ p ∧ p ≤ 4096) ∧ 1 ≤ f ∧ f ≤ 8) = true := by simpa using hfit
  rw [hd] at HFI
  have HOP := hid (fun w' => opened_any p f w' hfit.1 hfit.2)
  obtain ⟨pn, rfl⟩ : ∃ pn : Nat, p = (pn : Int) := ⟨p.toNat, by omega⟩
  have hpn : 4 ≤ pn ∧ pn ≤ 4096 := by omega
  have HRM := hid (stNew_room (f := f) hpn hfit.2)
  have HAC0 := hid (stNew_acc (f := f) hpn hfit.2)
  have HGN := hid (stNew_gone' hfit.1 hfit.2)
  obtain ⟨st0, hst0⟩ : ∃ st0, stNew (pn : Int) f = st0 := ⟨_, rfl⟩
  simp only [hst0] at HOP HRM HAC0 HGN
  clear hd hfit hst0
  go_enter Try.func11, Try.ntmps11
  go_upto_region 1 with fail
  have e := HW.out
  simp only [← e]
  clear e HW
  obtain ⟨Z, hZ⟩ : ∃ Z, w.heap.size = Z := ⟨_, rfl⟩
  have HZ := hid hZ
  simp only [hZ] at KK ⊢
  clear hZ
  go_wp2_with fail
  refine (HS.out _).mono ?_
  rintro e w1 ⟨rfl, hb1⟩
  have HB1 : Hid (Below W.heap.size W w1) := hb1
  have c0 := keepc hb1 (KK.out 0 _ rfl); have c1 := keepc hb1 (KK.out 1 _ rfl); have c2 := keepc hb1 (KK.out 2 _ rfl)
  clear hb1
  go_wp2_with fail
  refine (HFI.out _).mono ?_
  rintro e w2 ⟨rfl, hb2⟩
  have HB2 := hid (below_step hb2 HB1.out)
  have c0 := keepc hb2 c0; have c1 := keepc hb2 c1
  clear hb2 c2
  go_wp2_with fail
  refine (HOP.out _).mono ?_
  rintro e w3 ⟨S, U, up, uq, rfl, hold, kp, kq⟩
  obtain ⟨o1, k1, rfl, -, -⟩ := kp.now
  obtain ⟨o2, k2, rfl, -, -⟩ := kq.now
  obtain ⟨n1, hn1⟩ : ∃ n1, st0.dk.1.length = n1 := ⟨_, rfl⟩
  obtain ⟨n2, hn2⟩ : ∃ n2, st0.dk.2.length = n2 := ⟨_, rfl⟩
  simp only [hn1, hn2] at kp kq ⊢
  obtain ⟨w4, hw4⟩ : ∃ w4, w4 = w3.alloc (.cells #[.slice o1 n1 k1, .slice o2 n2 k2] 27) := ⟨_, rfl⟩
  have hba : Below w3.heap.size w3 w4 := by rw [hw4]; exact balloc (Below.refl _ _) _
  have HHO := hid (hold.below hba)
  have HKP := hid (kp.below hba); have HKQ := hid (kq.below hba)
  have d0 : w4.cell? ⟨w3.heap.size, 0, none⟩ = some (.slice o1 n1 k1) := by rw [hw4]; exact cell_new _ _ _ 0 _ rfl
  have d1 : w4.cell? ⟨w3.heap.size, 1, none⟩ = some (.slice o2 n2 k2) := by rw [hw4]; exact cell_new _ _ _ 1 _ rfl
  have HU3 : Hid (∀ k, U k → k < w3.heap.size) := hold.so.ult
  have HW4 := hid hw4
  have HBH := hid (below_step HHO.out.b HB2.out)
  have c2 := keepc HBH.out (KK.out 2 _ rfl)
  clear hw4 hba hold kp kq c0 c1 hn1 hn2
  go_upto_region 7 with fail
  have e := HW4.out
  rw [← e]
  clear e HW4
  obtain ⟨Y, hY⟩ : ∃ Y, w3.heap.size = Y := ⟨_, rfl⟩
  simp only [hY] at d0 d1 HU3 ⊢
  clear hY
  have HHO2 := HHO
  obtain ⟨hN, hhN⟩ : ∃ hN, halfN pn = hN := ⟨_, rfl⟩
  have hhNb : hN ≤ 2047 := by rw [← hhN]; unfold halfN; omega
  have f1 : IntKind.i64.wrap ((pn : Int) - 2) = (pn : Int) - 2 := IntWalk.i64_in _ ⟨by omega, by omega⟩
  have f2 : ((pn : Int) - 2).tdiv 2 = (hN : Int) := by rw [← hhN]; unfold halfN; rw [Int.tdiv_eq_ediv_of_nonneg (by omega)]; omega
  have f2b : IntKind.i64.wrap ((hN : Nat) : Int) = (hN : Int) := IntWalk.i64_in _ ⟨by omega, by omega⟩
  obtain ⟨R, hRR⟩ : ∃ R, 64 * hN = R := ⟨_, rfl⟩
  have f3 : IntKind.i64.wrap ((hN : Int) * 64) = ((R : Nat) : Int) := by rw [IntWalk.i64_in _ ⟨by omega, by omega⟩]; omega
  have hRb : R ≤ 131008 := by omega
  have hrm := HRM.out
  rw [hhN, hRR] at hrm
  have HRM0 := hid hrm
  have c0 : w4.cell? ⟨Z, 0, none⟩ = some (.int .i64 (pn : Int)) := keepc HBH.out (KK.out 0 _ rfl)
  have HC2 : Hid (Keep U w4 (fun x => x.cell? ⟨Z, 2, none⟩ = some (.slice os N cs))) := HHO.out.keep0 fun w' hb => keepc (below_step hb HB2.out) (KK.out 2 _ rfl)
  clear hrm HRM hhN hRR hpn d0 d1 c2 HKP HKQ HU3 hhNb
  go_wp2_with fail
  clear f1 f2 f2b f3 c0
  go_loopw [9, 10, 11] (fun s9 s10 i wr => ∃ (k u wt : Nat) (U' : Nat → Prop) (st' : St), s9 = .int .i64 (u : Int) ∧ s10 = .int .i64 (wt : Int) ∧ i = .int .i64 (k : Int) ∧ k ≤ N ∧ k ≤ 100 ∧ Hid (Acc st' u wt) ∧ Hid (room st' = R) ∧ Hid (Gone (1 + k) k (3000 * k) st') ∧ Hid (Hold w2 U' S st' wr)) (fun _ _ i _ => 100 - (intOf i).toNat)
  case atStart => exact ⟨0, 0, 0, U, st0, rfl, rfl, rfl, Nat.zero_le _, Nat.zero_le _, HAC0, HRM0, HGN, HHO⟩
  case round =>
    clear HAC0 HRM0 HGN HHO HC2 HHO2
    obtain ⟨k, u, wt, U', st', rfl, rfl, rfl, hk, hk2, HA, HRM, HG, HH⟩ := hrel
    have hab := acc_bd HA.out HG.out
    rw [HRM.out] at hab
    obtain ⟨hub, hwb⟩ := hab
    have c2 : wr.cell? ⟨Z, 2, none⟩ = some (.slice os N cs) := keepc (below_step HH.out.b HB2.out) (KK.out 2 _ rfl)
    by_cases hlt : k < N ∧ k < 100
    · obtain ⟨hkN, hk100⟩ := hlt
      obtain ⟨⟨kd, o1, o2, o3, o4⟩, hx⟩ : ∃ r, l[k]? = some r := ⟨_, List.getElem?_eq_getElem (by have := HN.out; omega)⟩
      have hRS := HRS.out wr (below_step HH.out.b (below_step HB2.out HBW.out))
      obtain ⟨o', c', e, -, hRS⟩ := hRS
      rcases hRS with hq | ⟨b1, off, rfl, hbq, hq⟩
      · rw [hq] at hx; simp at hx
      rw [HN.out] at e
      cases e
      obtain ⟨x0, x1, x2, x3, x4⟩ := hq k _ hx
      obtain ⟨wx, hwx⟩ : ∃ wx, wx = wr.alloc (.cells #[.int .i64 kd, .int .i64 o1, .int .i64 o2, strV o3, strV o4] 98) := ⟨_, rfl⟩
      have hba : Below wr.heap.size wr wx := by rw [hwx]; exact balloc (Below.refl _ _) _
      have y0 : wx.cell? ⟨wr.heap.size, 0, none⟩ = some (.int .i64 kd) := by rw [hwx]; exact cell_new _ _ _ 0 _ rfl
      have y1 : wx.cell? ⟨wr.heap.size, 1, none⟩ = some (.int .i64 o1) := by rw [hwx]; exact cell_new _ _ _ 1 _ rfl
      have y2 : wx.cell? ⟨wr.heap.size, 2, none⟩ = some (.int .i64 o2) := by rw [hwx]; exact cell_new _ _ _ 2 _ rfl
      have y3 : wx.cell? ⟨wr.heap.size, 3, none⟩ = some (strV o3) := by rw [hwx]; exact cell_new _ _ _ 3 _ rfl
      have y4 : wx.cell? ⟨wr.heap.size, 4, none⟩ = some (strV o4) := by rw [hwx]; exact cell_new _ _ _ 4 _ rfl
      have HHX := hid (HH.out.below hba)
      have hYU : ¬ U' wr.heap.size := fun hk => by have := HH.out.so.ult _ hk; omega
      have HYU := hid hYU
      have HWX := hid hwx
      clear hwx hba hq hbq hx hYU
      go_upto_region 16 with fail
      have e := HWX.out
      rw [← e]
      clear e HWX x0 x1 x2 x3 x4 c2
      obtain ⟨Y, hY⟩ : ∃ Y, wr.heap.size = Y := ⟨_, rfl⟩
      simp only [hY] at y0 y1 y2 y3 y4 HYU ⊢
      clear hY
      by_cases hk0 : kd = 0
      · subst hk0
        have HDO := hid (do_any U' S st' (o1, o2, o3, o4) wx HHX.out.so HG.out.now8.1 (by have := HG.out.ops; omega))
        have HAD := hid (acc_do HA.out (o1, o2, o3, o4))
        have HGD := hid (gone_do HG.out (o1, o2, o3, o4))
        have HRD := hid ((room_do st' (o1, o2, o3, o4)).trans HRM.out)
        have HCH := hid (fun he h3 => chg_parts (op_chg (data := st'.now) (o := (o1, o2, o3, o4)) he h3))
        obtain ⟨q, E, hqE⟩ : ∃ q E, (doData st'.now (o1, o2, o3, o4)).2 = (q, E) := ⟨_, _, rfl⟩
        simp only [hqE] at HDO HAD HCH
        clear hqE
        go_wp2_with fail
        refine HDO.out.mono ?_
        rintro e w8 hp8
        obtain ⟨rfl, U8, hh8, hf8, hu8⟩ := HHX.out.step hp8
        have y1 := hf8.cell (a := ⟨Y, 1, none⟩) HYU.out y1; have y3 := hf8.cell (a := ⟨Y, 3, none⟩) HYU.out y3; have y4 := hf8.cell (a := ⟨Y, 4, none⟩) HYU.out y4
        obtain ⟨w9, hw9⟩ : ∃ w9, w9 = w8.alloc (.cells #[strV q.1, strV q.2] 59) := ⟨_, rfl⟩
        have hba : Below w8.heap.size w8 w9 := by rw [hw9]; exact balloc (Below.refl _ _) _
        have y1 := keepc hba y1; have y3 := keepc hba y3; have y4 := keepc hba y4
        have HH9 := hid (hh8.below hba)
        have HW9 := hid hw9
        clear hw9 hba hp8 hh8 hf8 hu8 y0 y2 HDO HHX
        go_upto_region 21 with fail
        have e := HW9.out
        rw [← e]
        clear e HW9
        by_cases hE : E = 0
        · subst hE
          by_cases h3 : 3 ≤ o1
          · obtain ⟨-, -, ⟨hka, hkb⟩, hdb, -⟩ := HCH.out (by rfl) h3
            obtain ⟨n3, hn3⟩ : ∃ n, o3.length = n := ⟨_, rfl⟩
            obtain ⟨n4, hn4⟩ : ∃ n, o4.length = n := ⟨_, rfl⟩
            have HN3 := hid hn3; have HN4 := hid hn4
            rw [hn3] at hkb; rw [hn4] at hdb
            have l3 := HN3.out; have l4 := HN4.out
            have g3 : decide (3 ≤ o1) = true := by simpa using h3
            have s1 : IntKind.i64.wrap (3 + (n3 : Int)) = 3 + n3 := IntWalk.i64_in _ ⟨by omega, by omega⟩
            have s2 : IntKind.i64.wrap ((wt : Int) + (3 + n3)) = wt + (3 + n3) := IntWalk.i64_in _ ⟨by omega, by omega⟩
            by_cases h5 : o1 = 5
            · have HW : Hid (Acc (doSt st' (o1, o2, o3, o4)).1 u (wt + (3 + n3))) := by
                have h := HAD.out
                rw [if_pos ⟨rfl, h3⟩] at h
                have e : opLen (o1, o2, o3, o4) = 3 + n3 := by unfold opLen; simp only; rw [if_pos h5, HN3.out, Nat.add_zero]
                rw [e] at h
                exact h
              have g5 : (o1 == 5) = true := by simpa using h5
              clear HAD hka hn3 hn4
              go_wp2_with fail
              go_roundw
              case rel => exact ⟨k + 1, u, wt + (3 + n3), U8, _, rfl, by go_num, by go_num, by omega, by omega, HW, HRD, HGD.out.mono (by omega) (by omega) (by omega), HH9⟩
              case measure => simp [intOf]; omega
            · have HW : Hid (Acc (doSt st' (o1, o2, o3, o4)).1 u (wt + (3 + n3) + (1 + n4))) := by
                have h := HAD.out
                rw [if_pos ⟨rfl, h3⟩] at h
                have e : opLen (o1, o2, o3, o4) = 3 + n3 + (1 + n4) := by unfold opLen; simp only; rw [if_neg h5, HN3.out, HN4.out]
                rw [e, ← Nat.add_assoc] at h
                exact h
              have g5 : (o1 == 5) = false := by simpa using h5
              have s3 : IntKind.i64.wrap (1 + (n4 : Int)) = 1 + n4 := IntWalk.i64_in _ ⟨by omega, by omega⟩
              have s4 : IntKind.i64.wrap ((wt : Int) + (3 + n3) + (1 + n4)) = wt + (3 + n3) + (1 + n4) := IntWalk.i64_in _ ⟨by omega, by omega⟩
              clear HAD hka hn3 hn4
              go_wp2_with fail
              go_roundw
              case rel => exact ⟨k + 1, u, wt + (3 + n3) + (1 + n4), U8, _, rfl, by go_num, by go_num, by omega, by omega, HW, HRD, HGD.out.mono (by omega) (by omega) (by omega), HH9⟩
              case measure => simp [intOf]; omega
          · have HW : Hid (Acc (doSt st' (o1, o2, o3, o4)).1 u wt) := by have h := HAD.out; rw [if_neg (by omega)] at h; exact h
            have g3 : decide (3 ≤ o1) = false := by simpa using h3
            clear HAD
            go_wp2_with fail
            go_roundw
            case rel => exact ⟨k + 1, u, wt, U8, _, rfl, rfl, by go_num, by omega, by omega, HW, HRD, HGD.out.mono (by omega) (by omega) (by omega), HH9⟩
            case measure => simp [intOf]; omega
        · have HW : Hid (Acc (doSt st' (o1, o2, o3, o4)).1 u wt) := by have h := HAD.out; rw [if_neg (by omega)] at h; exact h
          have gE : (E == 0) = false := by simpa using hE
          clear HAD
          go_wp2_with fail
          go_roundw
          case rel => exact ⟨k + 1, u, wt, U8, _, rfl, rfl, by go_num, by omega, by omega, HW, HRD, HGD.out.mono (by omega) (by omega) (by omega), HH9⟩
          case measure => simp [intOf]; omega
      by_cases hk1 : kd = 1
      · subst hk1
        have hlv := HG.out.live
        have htn := HG.out.turn
        have HKE := hid (kept_any U' S st' wx HHX.out.so HG.out.now8.2.2.1 HG.out.now8.2.2.2)
        have HCM := hid (fun w' (hb : Below wx.heap.size wx w') => commit_any U' S st' w' (HHX.out.so.below hb) hlv (by have := HG.out.ops; omega) (by have := HG.out.acts; omega))
        obtain ⟨hac1, hac2, hac3⟩ := acc_commit HA.out (by omega)
        rw [HRM.out] at hac1 hac2
        have hce := com_err hlv
        have hgc := gone_commit HG.out (by omega)
        have hnw := com_now st'
        have hwl := wrAll_bd st'.now HG.out.now8.2.1
        have hn8 := HG.out.now8.1
        have hkk := HG.out.now8
        generalize hst6 : (commitD st').1 = st6 at *
        obtain ⟨E, hE⟩ : ∃ E, (commitD st').2 = E := ⟨_, rfl⟩
        simp only [hE] at HCM hac1 hac2 hac3 hce
        have HST6 := hid hst6
        have HDA := hid (fun U6 w' (h : So w' U6 S st6) => data_any U6 S st6 w' h hgc.now8.1 hgc.now8.2.1)
        have HKE6 := hid (fun U6 w' (h : So w' U6 S st6) => kept_any U6 S st6 w' h hgc.now8.2.2.1 hgc.now8.2.2.2)
        rw [hnw] at HDA
        have HWR := hid (fun v w' (h : RdD w' v st'.now) => writes_any st'.now v w' h hkk.2.1 hkk.1)
        obtain ⟨A, hA⟩ : ∃ A, wrAll st'.now = A := ⟨_, rfl⟩
        simp only [hA] at HWR hac1 hac2 hwl
        have hAb : A ≤ 140800 := by omega
        have HGC := hid hgc
        have HAC1 := hid hac1; have HAC2 := hid hac2; have HAC3 := hid hac3
        have HSM := hid (fun x y w' (h1 : RdD w' x st'.kept) (h2 : RdD w' y st'.kept) => rsameall_any st'.kept st'.kept x y w' h1 h2 (by have := hkk.2.2.1; unfold maxLen; omega) (fun d hd => by have := isDs_len (hkk.2.2.2 d hd); unfold maxLen; omega))
        simp only [decide_true] at HSM
        obtain ⟨kk, hkk2⟩ : ∃ kk, st'.kept.length = kk := ⟨_, rfl⟩
        have HKK := hid hkk2
        clear hgc hnw hwl hn8 hkk hst6 hE hA hkk2 hac1 hac2 hac3 hlv htn y1 y2 y3 y4 HYU
        go_wp2_with fail
        refine HKE.out.mono ?_
        rintro e w7 ⟨v7, rfl, ho7, hb7⟩
        obtain ⟨o7, c7, rfl⟩ := ho7.rd.slice
        rw [HKK.out] at ho7 ⊢
        have HK7 := hid (keep_D ho7 HHX.out.so.ult)
        have HH7 := hid (HHX.out.below hb7)
        have HB7 := hid hb7
        clear ho7 hb7
        go_wp2_with fail
        refine (HCM.out _ HB7.out).mono ?_
        rintro e w8 hp8
        obtain ⟨rfl, U8, hh8, hf8, hu8⟩ := HH7.out.step hp8
        have HK8 := hid (HK7.out.step hf8 hu8)
        have HH8 := hid hh8
        clear hh8 hf8 hu8 hp8 HK7 HH7 HCM
        go_wp2_with fail
        refine (HDA.out _ _ HH8.out.so).mono ?_
        rintro e w9 ⟨v9, rfl, ho9, hb9⟩
        have HR9 := hid ho9.rd
        have HK9 := hid (HK8.out.below hb9)
        have HH9 := hid (HH8.out.below hb9)
        clear ho9 hb9
        go_wp2_with fail
        refine (HWR.out _ _ HR9.out).mono ?_
        rintro e w10 ⟨rfl, hb10⟩
        have HK10 := hid (HK9.out.below hb10)
        have HH10 := hid (HH9.out.below hb10)
        clear hb10
        have s1 : IntKind.i64.wrap ((u : Int) + wt) = u + wt := IntWalk.i64_in _ ⟨by omega, by omega⟩
        rcases hce with hce | hce
        · subst hce
          have h1 : ¬ (R < u + wt ∧ R < A) := fun h => by have := HAC1.out.2 h; simp at this
          obtain ⟨ha6, hr6⟩ := HAC2.out rfl
          have hr6' := hr6
          have HRM6 := hid hr6
          by_cases h2 : R < u + wt
          · have h3 : ¬ R < A := fun h => h1 ⟨h2, h⟩
            rw [if_pos h2] at ha6
            have HA6 := hid ha6
            have g1 : decide ((R : Int) < (u : Int) + wt) = true := by simp; omega
            have g2 : decide ((R : Int) < (A : Int)) = false := by simp; omega
            clear ha6 hr6 hr6' h1
            go_wp2_with fail
            go_roundw
            case rel => exact ⟨k + 1, A, 0, U8, st6, rfl, rfl, by go_num, by omega, by omega, HA6, HRM6, HGC.out.mono (by omega) (by omega) (by omega), HH10⟩
            case measure => simp [intOf]; omega
          · rw [if_neg h2] at ha6
            have HA6 := hid ha6
            have g1 : decide ((R : Int) < (u : Int) + wt) = false := by simp; omega
            clear ha6 hr6 hr6' h1
            go_wp2_with fail
            go_roundw
            case rel => exact ⟨k + 1, u + wt, 0, U8, st6, by go_num, rfl, by go_num, by omega, by omega, HA6, HRM6, HGC.out.mono (by omega) (by omega) (by omega), HH10⟩
            case measure => simp [intOf]; omega
        · subst hce
          obtain ⟨h2, h3⟩ := HAC1.out.1 rfl
          have h6 : st6 = st' := HAC3.out (by decide)
          subst h6
          have g1 : decide ((R : Int) < (u : Int) + wt) = true := by simp; omega
          have g2 : decide ((R : Int) < (A : Int)) = true := by simp; omega
          have HKL := hid (HKE6.out U8 w10 HH10.out.so)
          go_wp2_with fail
          refine HKL.out.mono ?_
          rintro e w11 ⟨v11, rfl, ho11, hb11⟩
          have HR11 := hid ho11.rd
          have HK11 := hid (HK10.out.below hb11)
          have HH11 := hid (HH10.out.below hb11)
          clear ho11 hb11
          go_wp2_with fail
          refine (HSM.out _ _ _ HR11.out HK11.out.now).mono ?_
          rintro e w12 ⟨rfl, hb12⟩
          have HH12 := hid (HH11.out.below hb12)
          clear hb12
          go_wp2_with fail
          go_roundw
          case rel => exact ⟨k + 1, u, wt, U8, st6, rfl, rfl, by go_num, by omega, by omega, HA, HRM, HG.out.mono (by omega) (by omega) (by omega), HH12⟩
          case measure => simp [intOf]; omega
      · have hb0 : (kd == 0) = false := by simpa using hk0
        have hb1 : (kd == 1) = false := by simpa using hk1
        have HUN := hid (undo_any U' S st' wx HHX.out.so HG.out.now8.2.2.1 HG.out.now8.2.2.2)
        have HAU := hid (acc_undo HA.out)
        have HGU := hid (gone_undo HG.out)
        have HRU : Hid (room (undoD st') = R) := HRM.out
        go_wp2_with fail
        refine HUN.out.mono ?_
        rintro e w8 hp8
        obtain ⟨rfl, U8, hh8, hf8, hu8⟩ := HHX.out.step hp8
        have HH8 := hid hh8
        clear hh8 hf8 hu8 hp8
        go_wp2_with fail
        go_roundw
        case rel => exact ⟨k + 1, u, 0, U8, _, rfl, rfl, by go_num, by omega, by omega, HAU, HRU, HGU.out.mono (by omega) (by omega) (by omega), HH8⟩
        case measure => simp [intOf]; omega
    have c2' := c2
    by_cases hkQ : k < N
    · have hge : ¬ (k : Int) < 100 := by omega
      have hlv := HG.out.live
      have HDA := hid (data_any U' S st' wr HH.out.so HG.out.now8.1 HG.out.now8.2.1)
      have HX8 := hid HG.out.now8
      obtain ⟨X, hX⟩ : ∃ X, st'.now = X := ⟨_, rfl⟩
      rw [hX] at HDA HX8
      have HS0 : Hid (st'.now = clr X 0) := hX
      obtain ⟨m, hm⟩ : ∃ m, X.length = m := ⟨_, rfl⟩
      have HM := hid hm
      have hm8 : m ≤ 8 := by rw [← hm]; exact HX8.out.1
      have HDC := hid (fun (n j : Nat) (d : Ds) (r : Rec) (h : X[n]? = some d) (hr : d[j]? = some r) => do_clr HX8.out.2.1 HX8.out.1 h hr)
      have HG2 := hid (HG.out.mono (T' := 200) (n' := 100 + 64 * 0) (a' := 300000) (by omega) (by omega) (by omega))
      clear hX hm hlv
      go_wp2_with fail
      refine HDA.out.mono ?_
      rintro e w5 ⟨v5, rfl, ho5, hb5⟩
      obtain ⟨o5, c5, rfl⟩ := ho5.rd.slice
      obtain ⟨us, hul, hov, hur⟩ := ho5
      have HKU := hid (keep_DU hov hur HH.out.so.ult)
      have HUL := hid hul
      have HH5 := hid (HH.out.below hb5)
      rw [HM.out]
      clear hul hov hur hb5
      go_wp2_with fail
      go_loopw [157] (fun i wr => ∃ (j wt : Nat) (U' : Nat → Prop) (s : St), i = .int .i64 (j : Int) ∧ j ≤ m ∧ Hid (s.now = clr X j) ∧ Hid (Acc s u wt) ∧ Hid (Gone 200 (100 + 64 * j) 300000 s) ∧ Hid (Hold w2 U' S s wr) ∧ Hid (Keep U' wr (fun x => ∀ (j : Nat) (u : Value) (d : Ds), us[j]? = some u → X[j]? = some d → (∃ g, o5 = some ⟨g, 0, none⟩ ∧ x.cell? ⟨g, j, none⟩ = some u) ∧ RdR x u d))) (fun i _ => m - (intOf i).toNat)
      case atStart => exact ⟨0, wt, U', st', rfl, Nat.zero_le _, HS0, HA, HG2, HH5, HKU⟩
      case round =>
        clear HS0 HG2 HH5 HKU HDA HA HG HH HRM
        obtain ⟨j, wt, U', s, rfl, hj, HS1, HA, HG, HH, HK⟩ := hrel
        by_cases hlt : j < m
        · obtain ⟨d, hd⟩ : ∃ d, X[j]? = some d := ⟨_, List.getElem?_eq_getElem (by have := HM.out; omega)⟩
          obtain ⟨uu, huu⟩ : ∃ uu, us[j]? = some uu := ⟨_, List.getElem?_eq_getElem (by have := HM.out; have := HUL.out; omega)⟩
          obtain ⟨⟨g, hg5, cg⟩, hrd⟩ := HK.out.now j uu d huu hd
          subst hg5
          obtain ⟨ou, cu, rfl, -, -⟩ := hrd
          have HKD := hid (fun U6 x (h : Keep U6 x (fun x => ∀ (j : Nat) (u : Value) (d : Ds), us[j]? = some u → X[j]? = some d → (∃ g', (some ⟨g, 0, none⟩ : Option Addr) = some ⟨g', 0, none⟩ ∧ x.cell? ⟨g', j, none⟩ = some u) ∧ RdR x u d)) => (h.now j _ d huu hd).2)
          obtain ⟨M, hM⟩ : ∃ M, d.length = M := ⟨_, rfl⟩
          have HMM := hid hM
          have h64 : M ≤ 64 := by rw [← hM]; exact isDs_len (HX8.out.2.1 d (List.mem_of_getElem? hd))
          have HCL := hid (clrs hd)
          have HD2 := hid (fun i r (hr : d[i]? = some r) => HDC.out j i d r hd hr)
          rw [hM] at cg HKD
          have HS2 : Hid (s.now = clrJ X j 0) := by rw [HCL.out.1]; exact HS1.out
          have HG0 : Hid (Gone 200 (100 + 64 * j + 0) 300000 s) := HG.out
          obtain ⟨W1, hW1⟩ : ∃ W1, W1 = wr := ⟨_, rfl⟩
          subst hW1
          clear hd huu hM HS1
          go_wp2_with fail
          go_loopw [164] (fun i wr => ∃ (i2 wt : Nat) (U' : Nat → Prop) (s : St), i = .int .i64 (i2 : Int) ∧ i2 ≤ M ∧ Hid (s.now = clrJ X j i2) ∧ Hid (Acc s u wt) ∧ Hid (Gone 200 (100 + 64 * j + i2) 300000 s) ∧ Hid (Hold w2 U' S s wr) ∧ Hid (Keep U' wr (fun x => ∀ (j : Nat) (u : Value) (d : Ds), us[j]? = some u → X[j]? = some d → (∃ g', (some ⟨g, 0, none⟩ : Option Addr) = some ⟨g', 0, none⟩ ∧ x.cell? ⟨g', j, none⟩ = some u) ∧ RdR x u d))) (fun i _ => M - (intOf i).toNat)
          case atStart => exact ⟨0, wt, U', s, rfl, Nat.zero_le _, HS2, HA, HG0, HH, HK⟩
          case round =>
            clear HS2 HG0 HG HA HH HK cg
            obtain ⟨i2, wt, U', s, rfl, hi2, HS1, HA, HG, HH, HK⟩ := hrel
            by_cases hlt2 : i2 < M
            · obtain ⟨⟨ra, rb⟩, hr⟩ : ∃ r, d[i2]? = some r := ⟨_, List.getElem?_eq_getElem (by have := HMM.out; omega)⟩
              have hrd := HKD.out _ _ HK.out
              obtain ⟨o', c', e, -, hq⟩ := hrd
              rcases hq with hq | ⟨b1, off, rfl, hbq, hq⟩
              · rw [hq] at hr; simp at hr
              rw [HMM.out] at e
              cases e
              obtain ⟨x0, x1⟩ := hq i2 _ hr
              have hdo := HD2.out i2 _ hr
              rw [← HS1.out] at hdo
              have HDO := hid (do_any U' S s ((5 : Int), (j : Int), ra, []))
              have hnx : (doSt s ((5 : Int), (j : Int), ra, [])).1.now = clrJ X j (i2 + 1) := by rw [do_now (by rw [hdo])]; rw [hdo]
              have HNX := hid hnx
              have HAX := hid (acc_do HA.out ((5 : Int), (j : Int), ra, []))
              have HGX := hid (gone_do HG.out ((5 : Int), (j : Int), ra, []))
              rw [hdo] at HDO
              obtain ⟨wx, hwx⟩ : ∃ wx, wx = wr.alloc (.cells #[strV ra, strV rb] 59) := ⟨_, rfl⟩
              have hba : Below wr.heap.size wr wx := by rw [hwx]; exact balloc (Below.refl _ _) _
              have y0 : wx.cell? ⟨wr.heap.size, 0, none⟩ = some (strV ra) := by rw [hwx]; exact cell_new _ _ _ 0 _ rfl
              have y1 : wx.cell? ⟨wr.heap.size, 1, none⟩ = some (strV rb) := by rw [hwx]; exact cell_new _ _ _ 1 _ rfl
              have HHX := hid (HH.out.below hba)
              have HKX := hid (HK.out.below hba)
              have HDO2 := hid (HDO.out wx HHX.out.so HG.out.now8.1 (by have := HG.out.ops; omega))
              have HWX := hid hwx
              clear hwx hba hq hbq hr hdo hnx HDO
              go_upto_region 44 with fail
              have e := HWX.out
              rw [← e]
              clear e HWX x0 x1
              go_wp2_with fail
              refine HDO2.out.mono ?_
              rintro e w8 hp8
              obtain ⟨rfl, U8, hh8, hf8, hu8⟩ := HHX.out.step hp8
              have HK8 := hid (HKX.out.step hf8 hu8)
              have hba := balloc (Below.refl w8.heap.size w8) (.cells #[strV [], strV []] 59)
              have HH9 := hid (hh8.below hba)
              have HK9 := hid (HK8.out.below hba)
              clear hba hp8 hh8 hf8 hu8 y0 y1 HHX HKX
              go_wp2_with fail
              go_roundw
              case rel => exact ⟨i2 + 1, _, U8, _, by go_num, by omega, HNX, HAX, HGX.out.mono (by omega) (by omega) (by omega), HH9, HK9⟩
              case measure => simp [intOf]; omega
            · have hnx : s.now = clr X (j + 1) := by rw [HS1.out]; exact HCL.out.2 i2 (by have := HMM.out; omega)
              have HNX := hid hnx
              clear hnx
              go_wp2_with fail
              go_roundw
              case rel => exact ⟨j + 1, wt, U', s, by go_num, by omega, HNX, HA, HG.out.mono (by omega) (by omega) (by omega), HH, HK⟩
              case measure => simp [intOf]; omega
        · have hjm : j = m := by omega
          have hge : ¬ (j : Int) < (m : Int) := by omega
          have hem : s.now = empties m := by rw [HS1.out, hjm, ← HM.out]; exact clr_end X
          have htn := HG.out.turn
          obtain ⟨h0, hkp⟩ := commit_empty HA.out (by omega) hem
          have HCM := hid (commit_any U' S s wr HH.out.so HG.out.live (by have := HG.out.ops; omega) (by have := HG.out.acts; omega))
          have hgc := gone_commit HG.out (by omega)
          rw [h0] at HCM
          generalize (commitD s).1 = s6 at *
          have HKE := hid (fun U6 w' (h : So w' U6 S s6) => kept_any U6 S s6 w' h hgc.now8.2.2.1 hgc.now8.2.2.2)
          rw [hkp] at HKE
          have hea : AllDs (empties m) := by rw [← hkp]; exact hgc.now8.2.2.2
          have HWR := hid (fun v w' (h : RdD w' v (empties m)) => writes_any (empties m) v w' h hea (by unfold empties; simp; exact hm8))
          rw [wrAll_empties] at HWR
          have HTR := hid (below_step HB2.out HBW.out)
          clear h0 hkp hgc hea hem htn hjm
          go_wp2_with fail
          refine HCM.out.mono ?_
          rintro e w8 hp8
          obtain ⟨rfl, U8, hh8, hf8, hu8⟩ := HH.out.step hp8
          have HH8 := hid hh8
          clear hh8 hf8 hu8 hp8
          go_wp2_with fail
          refine (HKE.out _ _ HH8.out.so).mono ?_
          rintro e w9 ⟨v9, rfl, ho9, hb9⟩
          have HR9 := hid ho9.rd
          have HH9 := hid (HH8.out.below hb9)
          clear ho9 hb9
          go_wp2_with fail
          refine (HWR.out _ _ HR9.out).mono ?_
          rintro e w10 ⟨rfl, hb10⟩
          have HH10 := hid (HH9.out.below hb10)
          clear hb10
          go_wp2_with fail
          go_ret
          exact ⟨rfl, below_step HH10.out.b HTR.out⟩
    · have hge : ¬ (k : Int) < (N : Int) := by omega
      have hlv := HG.out.live
      have HDA := hid (data_any U' S st' wr HH.out.so HG.out.now8.1 HG.out.now8.2.1)
      have HX8 := hid HG.out.now8
      obtain ⟨X, hX⟩ : ∃ X, st'.now = X := ⟨_, rfl⟩
      rw [hX] at HDA HX8
      have HS0 : Hid (st'.now = clr X 0) := hX
      obtain ⟨m, hm⟩ : ∃ m, X.length = m := ⟨_, rfl⟩
      have HM := hid hm
      have hm8 : m ≤ 8 := by rw [← hm]; exact HX8.out.1
      have HDC := hid (fun (n j : Nat) (d : Ds) (r : Rec) (h : X[n]? = some d) (hr : d[j]? = some r) => do_clr HX8.out.2.1 HX8.out.1 h hr)
      have HG2 := hid (HG.out.mono (T' := 200) (n' := 100 + 64 * 0) (a' := 300000) (by omega) (by omega) (by omega))
      clear hX hm hlv
      go_wp2_with fail
      refine HDA.out.mono ?_
      rintro e w5 ⟨v5, rfl, ho5, hb5⟩
      obtain ⟨o5, c5, rfl⟩ := ho5.rd.slice
      obtain ⟨us, hul, hov, hur⟩ := ho5
      have HKU := hid (keep_DU hov hur HH.out.so.ult)
      have HUL := hid hul
      have HH5 := hid (HH.out.below hb5)
      rw [HM.out]
      clear hul hov hur hb5
      go_wp2_with fail
      go_loopw [157] (fun i wr => ∃ (j wt : Nat) (U' : Nat → Prop) (s : St), i = .int .i64 (j : Int) ∧ j ≤ m ∧ Hid (s.now = clr X j) ∧ Hid (Acc s u wt) ∧ Hid (Gone 200 (100 + 64 * j) 300000 s) ∧ Hid (Hold w2 U' S s wr) ∧ Hid (Keep U' wr (fun x => ∀ (j : Nat) (u : Value) (d : Ds), us[j]? = some u → X[j]? = some d → (∃ g, o5 = some ⟨g, 0, none⟩ ∧ x.cell? ⟨g, j, none⟩ = some u) ∧ RdR x u d))) (fun i _ => m - (intOf i).toNat)
      case atStart => exact ⟨0, wt, U', st', rfl, Nat.zero_le _, HS0, HA, HG2, HH5, HKU⟩
      case round =>
        clear HS0 HG2 HH5 HKU HDA HA HG HH HRM
        obtain ⟨j, wt, U', s, rfl, hj, HS1, HA, HG, HH, HK⟩ := hrel
        by_cases hlt : j < m
        · obtain ⟨d, hd⟩ : ∃ d, X[j]? = some d := ⟨_, List.getElem?_eq_getElem (by have := HM.out; omega)⟩
          obtain ⟨uu, huu⟩ : ∃ uu, us[j]? = some uu := ⟨_, List.getElem?_eq_getElem (by have := HM.out; have := HUL.out; omega)⟩
          obtain ⟨⟨g, hg5, cg⟩, hrd⟩ := HK.out.now j uu d huu hd
          subst hg5
          obtain ⟨ou, cu, rfl, -, -⟩ := hrd
          have HKD := hid (fun U6 x (h : Keep U6 x (fun x => ∀ (j : Nat) (u : Value) (d : Ds), us[j]? = some u → X[j]? = some d → (∃ g', (some ⟨g, 0, none⟩ : Option Addr) = some ⟨g', 0, none⟩ ∧ x.cell? ⟨g', j, none⟩ = some u) ∧ RdR x u d)) => (h.now j _ d huu hd).2)
          obtain ⟨M, hM⟩ : ∃ M, d.length = M := ⟨_, rfl⟩
          have HMM := hid hM
          have h64 : M ≤ 64 := by rw [← hM]; exact isDs_len (HX8.out.2.1 d (List.mem_of_getElem? hd))
          have HCL := hid (clrs hd)
          have HD2 := hid (fun i r (hr : d[i]? = some r) => HDC.out j i d r hd hr)
          rw [hM] at cg HKD
          have HS2 : Hid (s.now = clrJ X j 0) := by rw [HCL.out.1]; exact HS1.out
          have HG0 : Hid (Gone 200 (100 + 64 * j + 0) 300000 s) := HG.out
          obtain ⟨W1, hW1⟩ : ∃ W1, W1 = wr := ⟨_, rfl⟩
          subst hW1
          clear hd huu hM HS1
          go_wp2_with fail
          go_loopw [164] (fun i wr => ∃ (i2 wt : Nat) (U' : Nat → Prop) (s : St), i = .int .i64 (i2 : Int) ∧ i2 ≤ M ∧ Hid (s.now = clrJ X j i2) ∧ Hid (Acc s u wt) ∧ Hid (Gone 200 (100 + 64 * j + i2) 300000 s) ∧ Hid (Hold w2 U' S s wr) ∧ Hid (Keep U' wr (fun x => ∀ (j : Nat) (u : Value) (d : Ds), us[j]? = some u → X[j]? = some d → (∃ g', (some ⟨g, 0, none⟩ : Option Addr) = some ⟨g', 0, none⟩ ∧ x.cell? ⟨g', j, none⟩ = some u) ∧ RdR x u d))) (fun i _ => M - (intOf i).toNat)
          case atStart => exact ⟨0, wt, U', s, rfl, Nat.zero_le _, HS2, HA, HG0, HH, HK⟩
          case round =>
            clear HS2 HG0 HG HA HH HK cg
            obtain ⟨i2, wt, U', s, rfl, hi2, HS1, HA, HG, HH, HK⟩ := hrel
            by_cases hlt2 : i2 < M
            · obtain ⟨⟨ra, rb⟩, hr⟩ : ∃ r, d[i2]? = some r := ⟨_, List.getElem?_eq_getElem (by have := HMM.out; omega)⟩
              have hrd := HKD.out _ _ HK.out
              obtain ⟨o', c', e, -, hq⟩ := hrd
              rcases hq with hq | ⟨b1, off, rfl, hbq, hq⟩
              · rw [hq] at hr; simp at hr
              rw [HMM.out] at e
              cases e
              obtain ⟨x0, x1⟩ := hq i2 _ hr
              have hdo := HD2.out i2 _ hr
              rw [← HS1.out] at hdo
              have HDO := hid (do_any U' S s ((5 : Int), (j : Int), ra, []))
              have hnx : (doSt s ((5 : Int), (j : Int), ra, [])).1.now = clrJ X j (i2 + 1) := by rw [do_now (by rw [hdo])]; rw [hdo]
              have HNX := hid hnx
              have HAX := hid (acc_do HA.out ((5 : Int), (j : Int), ra, []))
              have HGX := hid (gone_do HG.out ((5 : Int), (j : Int), ra, []))
              rw [hdo] at HDO
              obtain ⟨wx, hwx⟩ : ∃ wx, wx = wr.alloc (.cells #[strV ra, strV rb] 59) := ⟨_, rfl⟩
              have hba : Below wr.heap.size wr wx := by rw [hwx]; exact balloc (Below.refl _ _) _
              have y0 : wx.cell? ⟨wr.heap.size, 0, none⟩ = some (strV ra) := by rw [hwx]; exact cell_new _ _ _ 0 _ rfl
              have y1 : wx.cell? ⟨wr.heap.size, 1, none⟩ = some (strV rb) := by rw [hwx]; exact cell_new _ _ _ 1 _ rfl
              have HHX := hid (HH.out.below hba)
              have HKX := hid (HK.out.below hba)
              have HDO2 := hid (HDO.out wx HHX.out.so HG.out.now8.1 (by have := HG.out.ops; omega))
              have HWX := hid hwx
              clear hwx hba hq hbq hr hdo hnx HDO
              go_upto_region 44 with fail
              have e := HWX.out
              rw [← e]
              clear e HWX x0 x1
              go_wp2_with fail
              refine HDO2.out.mono ?_
              rintro e w8 hp8
              obtain ⟨rfl, U8, hh8, hf8, hu8⟩ := HHX.out.step hp8
              have HK8 := hid (HKX.out.step hf8 hu8)
              have hba := balloc (Below.refl w8.heap.size w8) (.cells #[strV [], strV []] 59)
              have HH9 := hid (hh8.below hba)
              have HK9 := hid (HK8.out.below hba)
              clear hba hp8 hh8 hf8 hu8 y0 y1 HHX HKX
              go_wp2_with fail
              go_roundw
              case rel => exact ⟨i2 + 1, _, U8, _, by go_num, by omega, HNX, HAX, HGX.out.mono (by omega) (by omega) (by omega), HH9, HK9⟩
              case measure => simp [intOf]; omega
            · have hnx : s.now = clr X (j + 1) := by rw [HS1.out]; exact HCL.out.2 i2 (by have := HMM.out; omega)
              have HNX := hid hnx
              clear hnx
              go_wp2_with fail
              go_roundw
              case rel => exact ⟨j + 1, wt, U', s, by go_num, by omega, HNX, HA, HG.out.mono (by omega) (by omega) (by omega), HH, HK⟩
              case measure => simp [intOf]; omega
        · have hjm : j = m := by omega
          have hge : ¬ (j : Int) < (m : Int) := by omega
          have hem : s.now = empties m := by rw [HS1.out, hjm, ← HM.out]; exact clr_end X
          have htn := HG.out.turn
          obtain ⟨h0, hkp⟩ := commit_empty HA.out (by omega) hem
          have HCM := hid (commit_any U' S s wr HH.out.so HG.out.live (by have := HG.out.ops; omega) (by have := HG.out.acts; omega))
          have hgc := gone_commit HG.out (by omega)
          rw [h0] at HCM
          generalize (commitD s).1 = s6 at *
          have HKE := hid (fun U6 w' (h : So w' U6 S s6) => kept_any U6 S s6 w' h hgc.now8.2.2.1 hgc.now8.2.2.2)
          rw [hkp] at HKE
          have hea : AllDs (empties m) := by rw [← hkp]; exact hgc.now8.2.2.2
          have HWR := hid (fun v w' (h : RdD w' v (empties m)) => writes_any (empties m) v w' h hea (by unfold empties; simp; exact hm8))
          rw [wrAll_empties] at HWR
          have HTR := hid (below_step HB2.out HBW.out)
          clear h0 hkp hgc hea hem htn hjm
          go_wp2_with fail
          refine HCM.out.mono ?_
          rintro e w8 hp8
          obtain ⟨rfl, U8, hh8, hf8, hu8⟩ := HH.out.step hp8
          have HH8 := hid hh8
          clear hh8 hf8 hu8 hp8
          go_wp2_with fail
          refine (HKE.out _ _ HH8.out.so).mono ?_
          rintro e w9 ⟨v9, rfl, ho9, hb9⟩
          have HR9 := hid ho9.rd
          have HH9 := hid (HH8.out.below hb9)
          clear ho9 hb9
          go_wp2_with fail
          refine (HWR.out _ _ HR9.out).mono ?_
          rintro e w10 ⟨rfl, hb10⟩
          have HH10 := hid (HH9.out.below hb10)
          clear hb10
          go_wp2_with fail
          go_ret
          exact ⟨rfl, below_step HH10.out.b HTR.out⟩
end Go.Proofs.Ytifcgimpgbeocaa
