/- The law FilesAcknowledged, walked. -/
import Derived.Test.YtifcgimpgbeocaaMC10
set_option linter.unusedVariables false
set_option linter.unusedSimpArgs false
namespace Go.Proofs.Ytifcgimpgbeocaa
open Go.RowKit
attribute [local go_sem] Oper.semAt_some
def doAll (st : St) (l : List FOp) : St := l.foldl (fun s o => (doSt s o).1) st
theorem doAll_succ (st : St) (l : List FOp) (k : Nat) (o : FOp) (h : l[k]? = some o) : doAll st (l.take (k + 1)) = (doSt (doAll st (l.take k)) o).1 := by
  unfold doAll
  rw [List.take_add_one, h, List.foldl_append]
  rfl
theorem doAll_gone {T n a : Nat} {st : St} (h : Gone T n a st) (l : List FOp) : ∀ k, k ≤ l.length → Gone T (n + k) a (doAll st (l.take k)) ∧ (doAll st (l.take k)).kept = st.kept
  | 0, _ => ⟨h, rfl⟩
  | k + 1, hk => by
    obtain ⟨x, hx⟩ : ∃ x, l[k]? = some x := ⟨_, List.getElem?_eq_getElem hk⟩
    obtain ⟨h1, h2⟩ := doAll_gone h l k (by omega)
    rw [doAll_succ st l k x hx]
    refine ⟨gone_do h1 x, ?_⟩
    rw [← h2]
    unfold doSt
    split <;> rfl
/-- The last of a history's datasets are those kept. -/
theorem went_last {d0 : Dk} {T n a : Nat} {s : St × Hist} (h : Went d0 T n a s) : ∃ m, s.2.length = m + 1 ∧ (HDt s.2)[m]? = some s.1.kept := by
  obtain ⟨G, hG, -⟩ := h.told.last
  refine ⟨G.length, by rw [hG]; simp, ?_⟩
  rw [hG]
  simp
theorem live_crash {st : St} (h : Live st) (cuts : List Int) : crashDk st.dk cuts = st.dk := by
  have e : st.dk = (st.dk.1, []) := dk_eta h.as_.nw rfl
  rw [e, crash_nw]
theorem Keep.and {U : Nat → Prop} {w : World} {P Q : World → Prop} (h : Keep U w P) (k : Keep U w Q) : Keep U w (fun x => P x ∧ Q x) := fun w' hf => ⟨h w' hf, k w' hf⟩
set_option maxHeartbeats 8000000 in
set_option maxRecDepth 100000 in
theorem acknowledged_law (p f : Int) (v : Value) (l : List Stp) (at0 : Int) (vc : Value) (cuts : List Int) (vm : Value) (lm : List FOp) (w : World) (hR : RdSt w v l) (hC : RdI w vc cuts) (hM : RdO w vm lm) :
    Calls Try.prog 4 #[.agg #[.int .i64 p, .int .i64 f, v, .int .i64 at0, vc], vm] w (Ret (.bool true) w) := by
  have HS := hid (fun w' => sane_any w')
  have HRS := hid (fun w' (hb : Below w.heap.size w w') => hR.below hb)
  have HRC := hid (fun w' (hb : Below w.heap.size w w') => hC.below hb)
  obtain ⟨os, cs, rfl, -, -⟩ := id hR
  obtain ⟨oc, cc, rfl, -, -⟩ := id hC
  obtain ⟨N, hN⟩ : ∃ N, l.length = N := ⟨_, rfl⟩
  obtain ⟨M, hM2⟩ : ∃ M, cuts.length = M := ⟨_, rfl⟩
  simp only [hN, hM2] at HRS HRC ⊢
  have HRM := hid (fun w' (hb : Below w.heap.size w w') => hM.below hb)
  obtain ⟨om, cm, rfl, hcm, -⟩ := id hM
  obtain ⟨Q, hQ⟩ : ∃ Q, lm.length = Q := ⟨_, rfl⟩
  simp only [hQ] at HRM hcm ⊢
  have HQ := hid hQ
  have HFI := hid (fun w' => fits_any p f os N cs w')
  obtain ⟨W, hW⟩ : ∃ W, W = w.alloc (.cells #[.int .i64 p, .int .i64 f, .slice os N cs, .int .i64 at0, .slice oc M cc] 44) := ⟨_, rfl⟩
  have HBW : Hid (Below w.heap.size w W) := by rw [hW]; exact balloc (Below.refl _ _) _
  have KK : Hid (∀ j u, #[.int .i64 p, .int .i64 f, .slice os N cs, .int .i64 at0, .slice oc M cc][j]? = some u → W.cell? ⟨w.heap.size, j, none⟩ = some u) := fun j u hj => by rw [hW]; exact cell_new _ _ _ j _ hj
  have HW := hid hW
  clear hW hN hM2 hM hQ hR hC
  by_cases hfit : (4 ≤ p ∧ p ≤ 4096) ∧ 1 ≤ f ∧ f ≤ 8
  rotate_left
  · have hd : decide ((4 ≤ p ∧ p ≤ 4096) ∧ 1 ≤ f ∧ f ≤ 8) = false := by simpa using hfit
    rw [hd] at HFI
    have HC1 := hid (fun w' => create_any p f w')
    rw [createD_no hfit] at HC1
    clear hd hfit HRS HRC HRM
    go_enter Try.func4, Try.ntmps4
    go_upto_region 1 with fail
    have e := HW.out
    simp only [← e]
    clear e HW
    go_wp2_with fail
    refine (HS.out _).mono ?_
    rintro e w1 ⟨rfl, hb1⟩
    have HB1 : Hid (Below W.heap.size W w1) := hb1
    have c0 := keepc hb1 (KK.out 0 _ rfl); have c1 := keepc hb1 (KK.out 1 _ rfl); have c2 := keepc hb1 (KK.out 2 _ rfl)
    clear hb1
    go_wp2_with fail
    refine (HFI.out _).mono ?_
    rintro e w2 ⟨rfl, hb2⟩
    have HB2 := hid (below_step hb2 HB1.out)
    have c0 := keepc hb2 c0; have c1 := keepc hb2 c1
    clear hb2 c2
    go_wp2_with fail
    refine (HC1.out _).mono ?_
    rintro e w3 ⟨up, uq, rfl, ho1, ho2, hb3⟩
    obtain ⟨o1, c1', rfl, -, -⟩ := ho1.rd
    obtain ⟨o2, c2', rfl, -, -⟩ := ho2.rd
    have hb4 := balloc (below_step hb3 (Below.refl w2.heap.size w2)) (.cells #[.slice o1 0 c1', .slice o2 0 c2'] 27)
    have HB4 := hid (below_step (below_step hb4 HB2.out) HBW.out)
    clear hb3 hb4 ho1 ho2
    go_wp2_with fail
    go_ret
    exact ⟨rfl, HB4.out⟩
  have hd : decide ((4 ≤ p ∧ p ≤ 4096) ∧ 1 ≤ f ∧ f ≤ 8) = true := by simpa using hfit
  rw [hd] at HFI
  have HOP := hid (fun w' => opened_any p f w' hfit.1 hfit.2)
  have HPL := hid (fun s (hs : playP (stNew p f) (l.take 100) = s) => And.intro (survive_plain hfit.1 hfit.2 l 0 cuts s hs (Nat.zero_le _)).1 (survive_plain hfit.1 hfit.2 l 0 cuts s hs (Nat.zero_le _)).2.2.1)
  have HGN := hid (stNew_gone hfit.1 hfit.2)
  obtain ⟨st0, hst0⟩ : ∃ st0, stNew p f = st0 := ⟨_, rfl⟩
  simp only [hst0] at HOP HPL HGN
  clear hd hfit hst0
  go_enter Try.func4, Try.ntmps4
  go_upto_region 1 with fail
  have e := HW.out
  simp only [← e]
  clear e HW
  obtain ⟨Z, hZ⟩ : ∃ Z, w.heap.size = Z := ⟨_, rfl⟩
  have HZ := hid hZ
  simp only [hZ] at KK ⊢
  clear hZ
  go_wp2_with fail
  refine (HS.out _).mono ?_
  rintro e w1 ⟨rfl, hb1⟩
  have HB1 : Hid (Below W.heap.size W w1) := hb1
  have c0 := keepc hb1 (KK.out 0 _ rfl); have c1 := keepc hb1 (KK.out 1 _ rfl); have c2 := keepc hb1 (KK.out 2 _ rfl)
  clear hb1
  go_wp2_with fail
  refine (HFI.out _).mono ?_
  rintro e w2 ⟨rfl, hb2⟩
  have HB2 := hid (below_step hb2 HB1.out)
  have c0 := keepc hb2 c0; have c1 := keepc hb2 c1
  clear hb2 c2
  go_wp2_with fail
  refine (HOP.out _).mono ?_
  rintro e w3 ⟨S, U, up, uq, rfl, hold, kp, kq⟩
  obtain ⟨o1, k1, rfl, -, -⟩ := kp.now
  obtain ⟨o2, k2, rfl, -, -⟩ := kq.now
  obtain ⟨n1, hn1⟩ : ∃ n1, st0.dk.1.length = n1 := ⟨_, rfl⟩
  obtain ⟨n2, hn2⟩ : ∃ n2, st0.dk.2.length = n2 := ⟨_, rfl⟩
  simp only [hn1, hn2] at kp kq ⊢
  obtain ⟨w4, hw4⟩ : ∃ w4, w4 = w3.alloc (.cells #[.slice o1 n1 k1, .slice o2 n2 k2] 27) := ⟨_, rfl⟩
  have hba : Below w3.heap.size w3 w4 := by rw [hw4]; exact balloc (Below.refl _ _) _
  have HHO := hid (hold.below hba)
  have HKP := hid (kp.below hba); have HKQ := hid (kq.below hba)
  have d0 : w4.cell? ⟨w3.heap.size, 0, none⟩ = some (.slice o1 n1 k1) := by rw [hw4]; exact cell_new _ _ _ 0 _ rfl
  have d1 : w4.cell? ⟨w3.heap.size, 1, none⟩ = some (.slice o2 n2 k2) := by rw [hw4]; exact cell_new _ _ _ 1 _ rfl
  have HU3 : Hid (∀ k, U k → k < w3.heap.size) := hold.so.ult
  have HW4 := hid hw4
  have HBH := hid (below_step HHO.out.b HB2.out)
  have c2 := keepc HBH.out (KK.out 2 _ rfl)
  clear hw4 hba hold kp kq c0 c1 hn1 hn2
  go_upto_region 7 with fail
  have e := HW4.out
  rw [← e]
  clear e HW4
  obtain ⟨Y, hY⟩ : ∃ Y, w3.heap.size = Y := ⟨_, rfl⟩
  simp only [hY] at d0 d1 HU3 ⊢
  clear hY
  have HPY := hid (play_any U S st0 l (.slice os N cs) 1 0 0 w4 HGN.out (by decide) (by decide) (by decide) HHO.out.so (HHO.out.keep0 fun w' hb => HRS.out w' (below_step hb (below_step HB2.out HBW.out))))
  go_wp2_with fail
  refine HPY.out.mono ?_
  rintro e w5 ⟨va, vd, U5, rfl, hso5, hf5, hu5, ka, kd⟩
  obtain ⟨oA, qA, cA, eA⟩ : ∃ o n c, va = .slice o n c := by obtain ⟨o, c, e, -⟩ := ka.now; exact ⟨o, _, c, e⟩
  obtain ⟨oD, qD, cD, eD⟩ : ∃ o n c, vd = .slice o n c := by obtain ⟨o, c, e, -⟩ := kd.now; exact ⟨o, _, c, e⟩
  subst eA eD
  obtain ⟨s5, hs5⟩ : ∃ s, playP st0 (l.take 100) = s := ⟨_, rfl⟩
  rw [hs5] at hso5 ka kd
  have HS5 := hid hs5
  have hYU : ¬ U Y := fun hk => by have := HU3.out Y hk; omega
  have d0 := hf5.cell (a := ⟨Y, 0, none⟩) hYU d0
  have d1 := hf5.cell (a := ⟨Y, 1, none⟩) hYU d1
  have HB5 := hid (Frm.below HHO.out.b hf5 HHO.out.ge HHO.out.b.size)
  have HKP5 := hid (HKP.out.step hf5 hu5).now; have HKQ5 := hid (HKQ.out.step hf5 hu5).now
  have KD : Hid (Keep U5 w5 (fun x => RdH x (.slice oD qD cD) (HDt s5.2))) := fun w' hf => kd w' (hf.mono fun i _ h => .inl h); have HSO5 := hid hso5
  have HGE : Hid (∀ k, U5 k → w2.heap.size ≤ k) := fun k hk => (hu5 k hk).elim (HHO.out.ge k) (fun h => Nat.le_trans HHO.out.b.size h)
  obtain ⟨w6, hw6⟩ : ∃ w6, w6 = w5.alloc (.cells #[.slice oA qA cA, .slice oD qD cD] 37) := ⟨_, rfl⟩
  have hba : Below w5.heap.size w5 w6 := by rw [hw6]; exact balloc (Below.refl _ _) _
  have h0 : w6.cell? ⟨w5.heap.size, 0, none⟩ = some (.slice oA qA cA) := by rw [hw6]; exact cell_new _ _ _ 0 _ rfl
  have h1 : w6.cell? ⟨w5.heap.size, 1, none⟩ = some (.slice oD qD cD) := by rw [hw6]; exact cell_new _ _ _ 1 _ rfl
  have d0 := keepc hba d0; have d1 := keepc hba d1
  have HBA := hid hba
  have HW6 := hid hw6
  clear hw6 hba hso5 hf5 hu5 ka kd hYU HPY HU3 HKP HKQ HHO c2 hs5 HBH HGN
  go_upto_region 10 with fail
  have e := HW6.out
  rw [← e]
  clear e HW6
  obtain ⟨X, hX⟩ : ∃ X, w5.heap.size = X := ⟨_, rfl⟩
  simp only [hX] at h0 h1 ⊢
  have HXX := hid hX
  clear hX
  have HB6 := hid (below_step HBA.out HB5.out)
  obtain ⟨hW5, hHl⟩ := HPL.out s5 HS5.out
  have HG5 := hid hW5.gone
  obtain ⟨m, hm, hlast⟩ := went_last hW5
  have HLAST := hid hlast
  have HKE := hid (kept_any U5 S s5.1 w6 (HSO5.out.below HBA.out) hW5.gone.now8.2.2.1 hW5.gone.now8.2.2.2)
  have hX : ¬ U5 X := fun hk => by have := HSO5.out.ult X hk; have := HXX.out; omega
  have HKX : Hid (Keep U5 w6 (fun x => x.cell? ⟨X, 1, none⟩ = some (.slice oD qD cD))) := fun w' hf => hf.cell (a := ⟨X, 1, none⟩) hX h1
  have HKH := hid (KD.out.below HBA.out)
  have hqD : qD = m + 1 := by obtain ⟨_, _, e, -⟩ := KD.out.now; simp only [Value.slice.injEq] at e; rw [e.2.1]; rw [List.length_map]; exact hm
  subst hqD
  have HD9 : Hid (doAll s5.1 (lm.take 0) = s5.1) := rfl
  have HDG := hid (fun k (hk : k ≤ lm.length) => doAll_gone hW5.gone lm k hk)
  have HDS := hid (fun k o (h : lm[k]? = some o) => doAll_succ s5.1 lm k o h)
  have hm1 : m ≤ 100 := by omega
  have HH6 : Hid (Hold w2 U5 S s5.1 w6) := ⟨HSO5.out.below HBA.out, HB6.out, HGE.out⟩
  obtain ⟨kk, hkk⟩ : ∃ kk, s5.1.kept.length = kk := ⟨_, rfl⟩
  have HKK := hid hkk
  clear hX hlast hm hkk
  go_wp2_with fail
  refine HKE.out.mono ?_
  rintro e w7 ⟨v7, rfl, ho7, hb7⟩
  obtain ⟨o7, c7, rfl⟩ := ho7.rd.slice
  rw [HKK.out] at ho7 ⊢
  have HK7 := hid (keep_D ho7 HH6.out.so.ult)
  have HP7 : Hid (Keep U5 w7 (fun x => RdD x (.slice o7 kk c7) s5.1.kept ∧ RdH x (.slice oD (m + 1) cD) (HDt s5.2) ∧ x.cell? ⟨X, 1, none⟩ = some (.slice oD (m + 1) cD))) := HK7.out.and ((HKH.out.below hb7).and (HKX.out.below hb7))
  have HH7 := hid (HH6.out.below hb7)
  clear hb7 ho7 HK7 HKH HKX HKE h0 h1 d0 d1
  go_wp2_with fail
  go_loopw [12] (fun i wr => ∃ (k : Nat) (U' : Nat → Prop) (st' : St), i = .int .i64 k ∧ k ≤ Q ∧ k ≤ 100 ∧ Hid (doAll s5.1 (lm.take k) = st') ∧ Hid (Hold w2 U' S st' wr) ∧ Hid (Keep U' wr (fun x => RdD x (.slice o7 kk c7) s5.1.kept ∧ RdH x (.slice oD (m + 1) cD) (HDt s5.2) ∧ x.cell? ⟨X, 1, none⟩ = some (.slice oD (m + 1) cD)))) (fun i _ => 100 - (intOf i).toNat)
  case atStart => exact ⟨0, U5, s5.1, rfl, Nat.zero_le _, Nat.zero_le _, HD9, HH7, HP7⟩
  case round =>
    clear HH7 HP7
    obtain ⟨k, U', st', rfl, hk, hk2, HD, HH, HP⟩ := hrel
    have hg := HDG.out k (by rw [HQ.out]; exact hk)
    rw [HD.out] at hg
    have HG := hid hg
    clear hg
    by_cases hlt : k < Q ∧ k < 100
    · obtain ⟨hkQ, hk100⟩ := hlt
      obtain ⟨⟨o1', o2', o3', o4'⟩, hx⟩ : ∃ r, lm[k]? = some r := ⟨_, List.getElem?_eq_getElem (by have := HQ.out; omega)⟩
      have hRS := HRM.out wr (below_step HH.out.b (below_step HB2.out HBW.out))
      obtain ⟨o', c', e, -, hRS⟩ := hRS
      rcases hRS with hq | ⟨b1, off, rfl, hbq, hq⟩
      · rw [hq] at hx; simp at hx
      rw [HQ.out] at e
      cases e
      obtain ⟨c0, c1, c2, c3⟩ := hq k _ hx
      have hds := HDS.out k _ hx
      rw [HD.out] at hds
      have HDS2 := hid hds
      have HDO := hid (do_any U' S st' (o1', o2', o3', o4') wr HH.out.so HG.out.1.now8.1 (by have h := HG.out.1.ops; omega))
      clear hds hx hq hbq HD
      go_wp2_with fail
      refine HDO.out.mono ?_
      rintro e w8 hp8
      obtain ⟨rfl, U8, hh8, hf8, hu8⟩ := HH.out.step hp8
      have HP8 := hid (HP.out.step hf8 hu8)
      have HH8 := hid hh8
      clear hh8 hf8 hu8 hp8
      go_wp2_with fail
      go_roundw
      case rel => exact ⟨k + 1, U8, _, by go_num, by omega, by omega, HDS2, HH8, HP8⟩
      case measure => simp [intOf]; omega
    have HE : Hid (k = Q ∨ k = 100) := by unfold Hid; omega
    have hlv := HG.out.1.live
    have hdl := isDk_len hlv.as_.dk
    have hnw := hlv.as_.nw
    have HDI := hid (fun w' (hb : Below wr.heap.size wr w') => disk_any U' S st' w' (HH.out.so.below hb) hdl.2 (by rw [hnw]; decide))
    have hcr : crashE st'.dk cuts = (st'.dk, 0) := by unfold crashE; rw [if_pos hlv.as_.dk, live_crash hlv]
    have HCR := hid (fun u1 u2 w' (h1 : RdS w' u1 st'.dk.1) (h2 : RdW w' u2 st'.dk.2) (hb : Below wr.heap.size wr w') => crashE_any st'.dk u1 u2 cuts (.slice oc M cc) w' h1 h2 (HRC.out w' (below_step hb (below_step HH.out.b (below_step HB2.out HBW.out)))) (by rw [hnw]; decide))
    rw [hcr] at HCR
    have hop := open_as hlv.as_
    rw [HG.out.2] at hop
    have HLN := hid hnw
    have hkn : s5.1.kept.length ≤ 8 ∧ AllDs s5.1.kept := by rw [← HG.out.2]; exact ⟨HG.out.1.now8.2.2.1, HG.out.1.now8.2.2.2⟩
    have HKN := hid hkn
    have HKP := hid (fun w' (hb : Below wr.heap.size wr w') => kept_any U' S st' w' (HH.out.so.below hb) HG.out.1.now8.2.2.1 HG.out.1.now8.2.2.2)
    rw [HG.out.2] at HKP
    have HRS := hid (fun w' (hb : Below wr.heap.size wr w') => ((HP.out.below hb).now))
    have HSM := hid (fun u x w' (h1 : RdD w' u s5.1.kept) (h2 : RdD w' x s5.1.kept) => rsameall_any s5.1.kept s5.1.kept u x w' h1 h2 (by have := HKN.out.1; unfold maxLen; omega) (fun d hd => by have := isDs_len (HKN.out.2 d hd); unfold maxLen; omega))
    simp only [decide_true] at HSM
    have HTR := hid (below_step HH.out.b (below_step HB2.out HBW.out))
    have HOPN := hid (fun u1 u2 w' (h1 : RdS w' u1 st'.dk.1) (h2 : RdW w' u2 st'.dk.2) => open_any st'.dk u1 u2 w' h1 h2 (by rw [HLN.out]; decide))
    rw [hop] at HOPN
    have C4 : Hid (wr.cell? ⟨Z, 4, none⟩ = some (.slice oc M cc)) := keepc (below_step HH.out.b HB2.out) (KK.out 4 _ rfl)
    have hba := balloc (Below.refl wr.heap.size wr) (.cells #[.slice none 0 0, .slice none 0 0] 27)
    have C4A := hid (keepc hba C4.out)
    have HBA9 := hid hba.drew
    obtain ⟨m1, hm1'⟩ : ∃ m, st'.dk.1.length = m := ⟨_, rfl⟩
    obtain ⟨m2, hm2'⟩ : ∃ m, st'.dk.2.length = m := ⟨_, rfl⟩
    have HM1 := hid hm1'; have HM2 := hid hm2'
    have hend : ¬ ((k : Int) < (Q : Int) ∧ (k : Int) < 100) := by omega
    clear hdl hnw hcr hop hkn hba hm1' hm2' hlv
    obtain ⟨W9, hW9⟩ : ∃ W9, W9 = wr := ⟨_, rfl⟩
    subst hW9
    have c4 := C4.out; have c4a := C4A.out
    by_cases hkQ : k < Q
    · have hge : ¬ (k : Int) < 100 := by have := HE.out; omega
      go_upto_region 17 with fail
      go_cut [13, 14] (fun u13 u14 wx => ∃ (Y2 : Nat) (q1 : Option Addr) (e1 : Nat) (q2 : Option Addr) (e2 : Nat), u13 = .pointer (some ⟨Y2, 0, none⟩) ∧ u14 = .int .i64 0 ∧ Hid (wx.cell? ⟨Y2, 0, none⟩ = some (.slice q1 m1 e1)) ∧ Hid (wx.cell? ⟨Y2, 1, none⟩ = some (.slice q2 m2 e2)) ∧ Hid (RdS wx (.slice q1 m1 e1) st'.dk.1) ∧ Hid (RdW wx (.slice q2 m2 e2) st'.dk.2) ∧ Hid (Below W9.heap.size W9 wx))
      case first =>
        go_region_with (first
          | (go_at_call 31; refine (HDI.out _ (by first | exact drew_below W9 | exact HBA9.out)).mono ?_; rintro e wd ⟨x1, x2, rfl, ho1, ho2, hbd⟩; obtain ⟨p1, j1, rfl, -, -⟩ := ho1.rd; obtain ⟨p2, j2, rfl, -, -⟩ := ho2.rd; rw [HM1.out] at ho1; rw [HM2.out] at ho2; simp only [HM1.out, HM2.out]; have HRP := hid ho1.rd; have HRQ := hid ho2.rd; (first | (have own0 : OwnC wd ⟨W9.heap.size, 0, none⟩ := keepOwn hbd (keepOwn (drew_below _) (ownc_new W9 #[.slice none 0 0, .slice none 0 0] 27 0 (by decide))); have own1 : OwnC wd ⟨W9.heap.size, 1, none⟩ := keepOwn hbd (keepOwn (drew_below _) (ownc_new W9 #[.slice none 0 0, .slice none 0 0] 27 1 (by decide))); have OWD := hid (And.intro own0 own1); have HBD := hid (below_step hbd HBA9.out); clear own0 own1) | (have HBD := hid (below_step hbd (drew_below W9)))); have c4 := keepc HBD.out C4.out; have hbx := balloc (Below.refl wd.heap.size wd) (.cells #[.slice none 0 0, .slice none 0 0] 27); have c4b := keepc hbx c4; have HBX := hid hbx; clear hbd ho1 ho2 hbx)
          | (go_at_call 30; refine (HCR.out _ _ _ (by first | exact HRP.out | exact HRP.out.below HBX.out) (by first | exact HRQ.out | exact HRQ.out.below HBX.out) (by first | exact HBD.out | exact below_step HBX.out HBD.out)).mono ?_; rintro e w8 ⟨x3, x4, rfl, ho1, ho2, hb8⟩; obtain ⟨q1, e1, rfl, -, -⟩ := ho1.rd; obtain ⟨q2, e2, rfl, -, -⟩ := ho2.rd; rw [HM1.out] at ho1; rw [HM2.out] at ho2; simp only [HM1.out, HM2.out]; (first | (have own0 : OwnC w8 ⟨W9.heap.size, 0, none⟩ := keepOwn hb8 OWD.out.1; have own1 : OwnC w8 ⟨W9.heap.size, 1, none⟩ := keepOwn hb8 OWD.out.2; have hyy : W9.heap.size < wd.heap.size := (by obtain ⟨⟨q, hq⟩, -⟩ := OWD.out.1; exact World.block_lt_of_cell? _ _ hq); have HYY := hid hyy; have OWN := hid (And.intro own0 own1); obtain ⟨⟨z0, y0⟩, f0⟩ := own0; obtain ⟨⟨z1, y1⟩, f1⟩ := own1; clear hyy) | (have own0 : OwnC w8 ⟨wd.heap.size, 0, none⟩ := keepOwn hb8 (ownc_new wd #[.slice none 0 0, .slice none 0 0] 27 0 (by decide)); have own1 : OwnC w8 ⟨wd.heap.size, 1, none⟩ := keepOwn hb8 (ownc_new wd #[.slice none 0 0, .slice none 0 0] 27 1 (by decide)); have OWX := hid (And.intro own0 own1); obtain ⟨⟨z0, y0⟩, f0⟩ := own0; obtain ⟨⟨z1, y1⟩, f1⟩ := own1) | skip); (first | (have HB8 := hid (below_step hb8 HBD.out)) | (have HB8 := hid (below_step hb8 (below_step HBX.out HBD.out)))); clear hb8))
        all_goals
          go_wp2_with fail
          go_meet
          case rel => first | exact ⟨_, q1, e1, q2, e2, rfl, rfl, cutPB ho1 ho2 HB8.out⟩ | exact ⟨_, q1, e1, q2, e2, rfl, rfl, cutA ho1 ho2 HB8.out (Nat.le_refl _) HYY.out OWN.out.1 OWN.out.2⟩ | exact ⟨_, q1, e1, q2, e2, rfl, rfl, cutA ho1 ho2 HB8.out HBD.out.size (by rw [World.size_alloc]; exact Nat.lt_succ_self _) OWX.out.1 OWX.out.2⟩
      case rest =>
        obtain ⟨Y2, q1, e1, q2, e2, rfl, rfl, C0, C1, HP9, HQ9, HB9⟩ := hcut
        obtain ⟨hk7, hh7, hx1⟩ := HRS.out wc HB9.out
        have HK7 := hid hk7
        obtain ⟨o, cap, e, hcap, hor⟩ := hh7
        simp only [Value.slice.injEq] at e
        obtain ⟨rfl, -, rfl⟩ := e
        rcases hor with hn | ⟨b2, off2, rfl, hb2, hcc⟩
        · have := HLAST.out; rw [hn] at this; simp at this
        obtain ⟨u, cu, hu⟩ := hcc m _ HLAST.out
        have HU := hid hu
        have fs : IntKind.i64.wrap (((m + 1 : Nat) : Int) - 1) = (m : Int) := by rw [IntWalk.i64_in _ ⟨by omega, by omega⟩]; omega
        have c0 := C0.out; have c1 := C1.out
        have HB9' := HB9
        clear hk7 hcap hb2 hcc hu c4 c4a
        go_wp2_with fail
        refine (HSM.out _ _ _ HK7.out HU.out).mono ?_
        rintro e w10 ⟨rfl, hb10⟩
        have HB10 := hid (below_step hb10 HB9.out)
        have HK10 := hid (HK7.out.below hb10)
        have c0 := keepc hb10 c0; have c1 := keepc hb10 c1
        have HP10 := hid (HP9.out.below hb10); have HQ10 := hid (HQ9.out.below hb10)
        clear hb10 cu
        go_wp2_with fail
        refine (HKP.out _ HB10.out).mono ?_
        rintro e w11 ⟨v11, rfl, ho11, hb11⟩
        have HR11 := hid ho11.rd
        have HB11 := hid (below_step hb11 HB10.out)
        have HK11 := hid (HK10.out.below hb11)
        have c0 := keepc hb11 c0; have c1 := keepc hb11 c1
        have HP11 := hid (HP10.out.below hb11); have HQ11 := hid (HQ10.out.below hb11)
        clear hb11 ho11
        go_wp2_with fail
        refine (HSM.out _ _ _ HR11.out HK11.out).mono ?_
        rintro e w12 ⟨rfl, hb12⟩
        have HB12 := hid (below_step hb12 HB11.out)
        have HK12 := hid (HK11.out.below hb12)
        have c0 := keepc hb12 c0; have c1 := keepc hb12 c1
        have HP12 := hid (HP11.out.below hb12); have HQ12 := hid (HQ11.out.below hb12)
        clear hb12
        go_wp2_with fail
        refine (HOPN.out _ _ _ HP12.out HQ12.out).mono ?_
        rintro e w13 ⟨hb13, hS, -⟩
        obtain ⟨S2, U2, rfl, hso, hU2⟩ := hS _ rfl
        have HB13 := hid (below_step hb13 HB12.out)
        have HK13 := hid (HK12.out.below hb13)
        have HDA := hid (data_any U2 S2 _ w13 hso HKN.out.1 HKN.out.2)
        clear hb13 hS hso hU2 c0 c1
        go_wp2_with fail
        refine HDA.out.mono ?_
        rintro e w14 ⟨v14, rfl, ho14, hb14⟩
        have HR14 := hid ho14.rd
        have HB14 := hid (below_step hb14 HB13.out)
        have HK14 := hid (HK13.out.below hb14)
        clear hb14 ho14
        go_wp2_with fail
        refine (HSM.out _ _ _ HR14.out HK14.out).mono ?_
        rintro e w15 ⟨rfl, hb15⟩
        have HB15 := hid (below_step hb15 HB14.out)
        clear hb15
        go_wp2_with fail
        go_ret
        exact ⟨rfl, below_step HB15.out HTR.out⟩
    · have hge : ¬ (k : Int) < (Q : Int) := by omega
      go_upto_region 17 with fail
      go_cut [13, 14] (fun u13 u14 wx => ∃ (Y2 : Nat) (q1 : Option Addr) (e1 : Nat) (q2 : Option Addr) (e2 : Nat), u13 = .pointer (some ⟨Y2, 0, none⟩) ∧ u14 = .int .i64 0 ∧ Hid (wx.cell? ⟨Y2, 0, none⟩ = some (.slice q1 m1 e1)) ∧ Hid (wx.cell? ⟨Y2, 1, none⟩ = some (.slice q2 m2 e2)) ∧ Hid (RdS wx (.slice q1 m1 e1) st'.dk.1) ∧ Hid (RdW wx (.slice q2 m2 e2) st'.dk.2) ∧ Hid (Below W9.heap.size W9 wx))
      case first =>
        go_region_with (first
          | (go_at_call 31; refine (HDI.out _ (by first | exact drew_below W9 | exact HBA9.out)).mono ?_; rintro e wd ⟨x1, x2, rfl, ho1, ho2, hbd⟩; obtain ⟨p1, j1, rfl, -, -⟩ := ho1.rd; obtain ⟨p2, j2, rfl, -, -⟩ := ho2.rd; rw [HM1.out] at ho1; rw [HM2.out] at ho2; simp only [HM1.out, HM2.out]; have HRP := hid ho1.rd; have HRQ := hid ho2.rd; (first | (have own0 : OwnC wd ⟨W9.heap.size, 0, none⟩ := keepOwn hbd (keepOwn (drew_below _) (ownc_new W9 #[.slice none 0 0, .slice none 0 0] 27 0 (by decide))); have own1 : OwnC wd ⟨W9.heap.size, 1, none⟩ := keepOwn hbd (keepOwn (drew_below _) (ownc_new W9 #[.slice none 0 0, .slice none 0 0] 27 1 (by decide))); have OWD := hid (And.intro own0 own1); have HBD := hid (below_step hbd HBA9.out); clear own0 own1) | (have HBD := hid (below_step hbd (drew_below W9)))); have c4 := keepc HBD.out C4.out; have hbx := balloc (Below.refl wd.heap.size wd) (.cells #[.slice none 0 0, .slice none 0 0] 27); have c4b := keepc hbx c4; have HBX := hid hbx; clear hbd ho1 ho2 hbx)
          | (go_at_call 30; refine (HCR.out _ _ _ (by first | exact HRP.out | exact HRP.out.below HBX.out) (by first | exact HRQ.out | exact HRQ.out.below HBX.out) (by first | exact HBD.out | exact below_step HBX.out HBD.out)).mono ?_; rintro e w8 ⟨x3, x4, rfl, ho1, ho2, hb8⟩; obtain ⟨q1, e1, rfl, -, -⟩ := ho1.rd; obtain ⟨q2, e2, rfl, -, -⟩ := ho2.rd; rw [HM1.out] at ho1; rw [HM2.out] at ho2; simp only [HM1.out, HM2.out]; (first | (have own0 : OwnC w8 ⟨W9.heap.size, 0, none⟩ := keepOwn hb8 OWD.out.1; have own1 : OwnC w8 ⟨W9.heap.size, 1, none⟩ := keepOwn hb8 OWD.out.2; have hyy : W9.heap.size < wd.heap.size := (by obtain ⟨⟨q, hq⟩, -⟩ := OWD.out.1; exact World.block_lt_of_cell? _ _ hq); have HYY := hid hyy; have OWN := hid (And.intro own0 own1); obtain ⟨⟨z0, y0⟩, f0⟩ := own0; obtain ⟨⟨z1, y1⟩, f1⟩ := own1; clear hyy) | (have own0 : OwnC w8 ⟨wd.heap.size, 0, none⟩ := keepOwn hb8 (ownc_new wd #[.slice none 0 0, .slice none 0 0] 27 0 (by decide)); have own1 : OwnC w8 ⟨wd.heap.size, 1, none⟩ := keepOwn hb8 (ownc_new wd #[.slice none 0 0, .slice none 0 0] 27 1 (by decide)); have OWX := hid (And.intro own0 own1); obtain ⟨⟨z0, y0⟩, f0⟩ := own0; obtain ⟨⟨z1, y1⟩, f1⟩ := own1) | skip); (first | (have HB8 := hid (below_step hb8 HBD.out)) | (have HB8 := hid (below_step hb8 (below_step HBX.out HBD.out)))); clear hb8))
        all_goals
          go_wp2_with fail
          go_meet
          case rel => first | exact ⟨_, q1, e1, q2, e2, rfl, rfl, cutPB ho1 ho2 HB8.out⟩ | exact ⟨_, q1, e1, q2, e2, rfl, rfl, cutA ho1 ho2 HB8.out (Nat.le_refl _) HYY.out OWN.out.1 OWN.out.2⟩ | exact ⟨_, q1, e1, q2, e2, rfl, rfl, cutA ho1 ho2 HB8.out HBD.out.size (by rw [World.size_alloc]; exact Nat.lt_succ_self _) OWX.out.1 OWX.out.2⟩
      case rest =>
        obtain ⟨Y2, q1, e1, q2, e2, rfl, rfl, C0, C1, HP9, HQ9, HB9⟩ := hcut
        obtain ⟨hk7, hh7, hx1⟩ := HRS.out wc HB9.out
        have HK7 := hid hk7
        obtain ⟨o, cap, e, hcap, hor⟩ := hh7
        simp only [Value.slice.injEq] at e
        obtain ⟨rfl, -, rfl⟩ := e
        rcases hor with hn | ⟨b2, off2, rfl, hb2, hcc⟩
        · have := HLAST.out; rw [hn] at this; simp at this
        obtain ⟨u, cu, hu⟩ := hcc m _ HLAST.out
        have HU := hid hu
        have fs : IntKind.i64.wrap (((m + 1 : Nat) : Int) - 1) = (m : Int) := by rw [IntWalk.i64_in _ ⟨by omega, by omega⟩]; omega
        have c0 := C0.out; have c1 := C1.out
        have HB9' := HB9
        clear hk7 hcap hb2 hcc hu c4 c4a
        go_wp2_with fail
        refine (HSM.out _ _ _ HK7.out HU.out).mono ?_
        rintro e w10 ⟨rfl, hb10⟩
        have HB10 := hid (below_step hb10 HB9.out)
        have HK10 := hid (HK7.out.below hb10)
        have c0 := keepc hb10 c0; have c1 := keepc hb10 c1
        have HP10 := hid (HP9.out.below hb10); have HQ10 := hid (HQ9.out.below hb10)
        clear hb10 cu
        go_wp2_with fail
        refine (HKP.out _ HB10.out).mono ?_
        rintro e w11 ⟨v11, rfl, ho11, hb11⟩
        have HR11 := hid ho11.rd
        have HB11 := hid (below_step hb11 HB10.out)
        have HK11 := hid (HK10.out.below hb11)
        have c0 := keepc hb11 c0; have c1 := keepc hb11 c1
        have HP11 := hid (HP10.out.below hb11); have HQ11 := hid (HQ10.out.below hb11)
        clear hb11 ho11
        go_wp2_with fail
        refine (HSM.out _ _ _ HR11.out HK11.out).mono ?_
        rintro e w12 ⟨rfl, hb12⟩
        have HB12 := hid (below_step hb12 HB11.out)
        have HK12 := hid (HK11.out.below hb12)
        have c0 := keepc hb12 c0; have c1 := keepc hb12 c1
        have HP12 := hid (HP11.out.below hb12); have HQ12 := hid (HQ11.out.below hb12)
        clear hb12
        go_wp2_with fail
        refine (HOPN.out _ _ _ HP12.out HQ12.out).mono ?_
        rintro e w13 ⟨hb13, hS, -⟩
        obtain ⟨S2, U2, rfl, hso, hU2⟩ := hS _ rfl
        have HB13 := hid (below_step hb13 HB12.out)
        have HK13 := hid (HK12.out.below hb13)
        have HDA := hid (data_any U2 S2 _ w13 hso HKN.out.1 HKN.out.2)
        clear hb13 hS hso hU2 c0 c1
        go_wp2_with fail
        refine HDA.out.mono ?_
        rintro e w14 ⟨v14, rfl, ho14, hb14⟩
        have HR14 := hid ho14.rd
        have HB14 := hid (below_step hb14 HB13.out)
        have HK14 := hid (HK13.out.below hb14)
        clear hb14 ho14
        go_wp2_with fail
        refine (HSM.out _ _ _ HR14.out HK14.out).mono ?_
        rintro e w15 ⟨rfl, hb15⟩
        have HB15 := hid (below_step hb15 HB14.out)
        clear hb15
        go_wp2_with fail
        go_ret
        exact ⟨rfl, below_step HB15.out HTR.out⟩
end Go.Proofs.Ytifcgimpgbeocaa
