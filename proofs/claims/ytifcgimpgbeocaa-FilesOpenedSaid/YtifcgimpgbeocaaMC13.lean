/- The law FilesOpened, walked. -/
import Derived.Test.YtifcgimpgbeocaaK27
import Derived.Test.YtifcgimpgbeocaaK34
import Derived.Test.YtifcgimpgbeocaaK35
import Derived.Test.YtifcgimpgbeocaaMB22
import Derived.Test.YtifcgimpgbeocaaK32
set_option linter.unusedVariables false
set_option linter.unusedSimpArgs false
namespace Go.Proofs.Ytifcgimpgbeocaa
open Go.RowKit
attribute [local go_sem] Oper.semAt_some
theorem createD_no' {n f : Int} (h : ¬ ((4 ≤ n ∧ n ≤ 4096) ∧ 1 ≤ f ∧ f ≤ 8)) : createD n f = (([], []), 1) := by unfold createD; rw [if_neg h]
theorem stNew_gone' {n f : Int} (hn : 4 ≤ n ∧ n ≤ 4096) (hf : 1 ≤ f ∧ f ≤ 8) : Gone 1 0 0 (stNew n f) := gone_open (create_open hn hf) (Nat.le_refl _)
theorem gone_p {st : St} (h : Gone 1 0 0 st) (l : List Stp) : Gone 101 100 300000 (playP st (l.take 100)).1 := by
  have hm : ∃ k, k ≤ l.length ∧ k ≤ 100 ∧ l.take 100 = l.take k := by
    by_cases h : l.length ≤ 100
    · exact ⟨l.length, Nat.le_refl _, h, by rw [List.take_of_length_le h, List.take_length]⟩
    · exact ⟨100, by omega, Nat.le_refl _, rfl⟩
  obtain ⟨k, k1, k2, k3⟩ := hm
  rw [k3]
  exact (gone_play h l k (by omega) k1).mono (by omega) (by omega) (by omega)
theorem run_neqR2 (x y : Rec) (w : World) : (binOp .neq 59 (.agg #[strV x.1, strV x.2]) (.agg #[strV y.1, strV y.2])).run Try.prog w = .ok (.bool (!decide (x = y))) w := run_neqR x y w
/-- Two stores side by side: a step of the first. -/
theorem Hold.beside {w0 w w1 : World} {U U2 : Nat → Prop} {S2 : Nat} {st2 : St} (h : Hold w0 U2 S2 st2 w) (hf : Frm U w w1) (hd : ∀ k, U k → ¬ U2 k) (hb : Below w0.heap.size w0 w1) : Hold w0 U2 S2 st2 w1 :=
  ⟨h.so.frm hf fun k hk hu => hd k hu hk, hb, h.ge⟩
theorem apart_step {w : World} {U U' U2 : Nat → Prop} (hd : ∀ k, U k → ¬ U2 k) (hu : ∀ k, U' k → U k ∨ w.heap.size ≤ k) (h2 : ∀ k, U2 k → k < w.heap.size) : ∀ k, U' k → ¬ U2 k := fun k hk h => by
  rcases hu k hk with h1 | h1
  · exact hd k h1 h
  · have := h2 k h; omega
set_option maxHeartbeats 8000000 in
set_option maxRecDepth 100000 in
theorem opened_law (p f : Int) (v : Value) (l : List Stp) (v2 : Value) (l2 : List Stp) (w : World) (hR : RdSt w v l) (hC : RdSt w v2 l2) :
    Calls Try.prog 16 #[.agg #[.int .i64 p, .int .i64 f, v], v2] w (Ret (.bool true) w) := by
  have HS := hid (fun w' => sane_any w')
  have HRS := hid (fun w' (hb : Below w.heap.size w w') => hR.below hb)
  have HRC := hid (fun w' (hb : Below w.heap.size w w') => hC.below hb)
  obtain ⟨os, cs, rfl, -, -⟩ := id hR
  obtain ⟨oc, cc, rfl, -, -⟩ := id hC
  obtain ⟨N, hN⟩ : ∃ N, l.length = N := ⟨_, rfl⟩
  obtain ⟨M, hM⟩ : ∃ M, l2.length = M := ⟨_, rfl⟩
  have HM := hid hM
  simp only [hN, hM] at HRS HRC ⊢
  have HFI := hid (fun w' => fits_any p f os N cs w')
  obtain ⟨W, hW⟩ : ∃ W, W = w.alloc (.cells #[.int .i64 p, .int .i64 f, .slice os N cs] 42) := ⟨_, rfl⟩
  have HBW : Hid (Below w.heap.size w W) := by rw [hW]; exact balloc (Below.refl _ _) _
  have KK : Hid (∀ j u, #[.int .i64 p, .int .i64 f, .slice os N cs][j]? = some u → W.cell? ⟨w.heap.size, j, none⟩ = some u) := fun j u hj => by rw [hW]; exact cell_new _ _ _ j _ hj
  have HW := hid hW
  clear hW hN hM hR hC
  by_cases hfit : (4 ≤ p ∧ p ≤ 4096) ∧ 1 ≤ f ∧ f ≤ 8
  rotate_left
  · have hd : decide ((4 ≤ p ∧ p ≤ 4096) ∧ 1 ≤ f ∧ f ≤ 8) = false := by simpa using hfit
    rw [hd] at HFI
    have HC1 := hid (fun w' => create_any p f w')
    rw [createD_no' hfit] at HC1
    clear hd hfit HRS HRC
    go_enter Try.func16, Try.ntmps16
    go_upto_region 1 with fail
    have e := HW.out
    simp only [← e]
    clear e HW
    go_wp2_with fail
    refine (HS.out _).mono ?_
    rintro e w1 ⟨rfl, hb1⟩
    have HB1 : Hid (Below W.heap.size W w1) := hb1
    have c0 := keepc hb1 (KK.out 0 _ rfl); have c1 := keepc hb1 (KK.out 1 _ rfl); have c2 := keepc hb1 (KK.out 2 _ rfl)
    clear hb1
    go_wp2_with fail
    refine (HFI.out _).mono ?_
    rintro e w2 ⟨rfl, hb2⟩
    have HB2 := hid (below_step hb2 HB1.out)
    have c0 := keepc hb2 c0; have c1 := keepc hb2 c1
    clear hb2 c2
    go_wp2_with fail
    refine (HC1.out _).mono ?_
    rintro e w3 ⟨up, uq, rfl, ho1, ho2, hb3⟩
    obtain ⟨o1, c1', rfl, -, -⟩ := ho1.rd
    obtain ⟨o2, c2', rfl, -, -⟩ := ho2.rd
    have hb4 := balloc (below_step hb3 (Below.refl w2.heap.size w2)) (.cells #[.slice o1 0 c1', .slice o2 0 c2'] 27)
    have HB4 := hid (below_step (below_step hb4 HB2.out) HBW.out)
    clear hb3 hb4 ho1 ho2
    go_wp2_with fail
    go_ret
    exact ⟨rfl, HB4.out⟩
  have hd : decide ((4 ≤ p ∧ p ≤ 4096) ∧ 1 ≤ f ∧ f ≤ 8) = true := by simpa using hfit
  rw [hd] at HFI
  have HOP := hid (fun w' => opened_any p f w' hfit.1 hfit.2)
  have HPL := hid (gone_p (stNew_gone' hfit.1 hfit.2) l)
  have HGN := hid (stNew_gone' hfit.1 hfit.2)
  obtain ⟨st0, hst0⟩ : ∃ st0, stNew p f = st0 := ⟨_, rfl⟩
  simp only [hst0] at HOP HPL HGN
  clear hd hfit hst0
  go_enter Try.func16, Try.ntmps16
  go_upto_region 1 with fail
  have e := HW.out
  simp only [← e]
  clear e HW
  obtain ⟨Z, hZ⟩ : ∃ Z, w.heap.size = Z := ⟨_, rfl⟩
  have HZ := hid hZ
  simp only [hZ] at KK ⊢
  clear hZ
  go_wp2_with fail
  refine (HS.out _).mono ?_
  rintro e w1 ⟨rfl, hb1⟩
  have HB1 : Hid (Below W.heap.size W w1) := hb1
  have c0 := keepc hb1 (KK.out 0 _ rfl); have c1 := keepc hb1 (KK.out 1 _ rfl); have c2 := keepc hb1 (KK.out 2 _ rfl)
  clear hb1
  go_wp2_with fail
  refine (HFI.out _).mono ?_
  rintro e w2 ⟨rfl, hb2⟩
  have HB2 := hid (below_step hb2 HB1.out)
  have c0 := keepc hb2 c0; have c1 := keepc hb2 c1
  clear hb2 c2
  go_wp2_with fail
  refine (HOP.out _).mono ?_
  rintro e w3 ⟨S, U, up, uq, rfl, hold, kp, kq⟩
  obtain ⟨o1, k1, rfl, -, -⟩ := kp.now
  obtain ⟨o2, k2, rfl, -, -⟩ := kq.now
  obtain ⟨n1, hn1⟩ : ∃ n1, st0.dk.1.length = n1 := ⟨_, rfl⟩
  obtain ⟨n2, hn2⟩ : ∃ n2, st0.dk.2.length = n2 := ⟨_, rfl⟩
  simp only [hn1, hn2] at kp kq ⊢
  obtain ⟨w4, hw4⟩ : ∃ w4, w4 = w3.alloc (.cells #[.slice o1 n1 k1, .slice o2 n2 k2] 27) := ⟨_, rfl⟩
  have hba : Below w3.heap.size w3 w4 := by rw [hw4]; exact balloc (Below.refl _ _) _
  have HHO := hid (hold.below hba)
  have HKP := hid (kp.below hba); have HKQ := hid (kq.below hba)
  have d0 : w4.cell? ⟨w3.heap.size, 0, none⟩ = some (.slice o1 n1 k1) := by rw [hw4]; exact cell_new _ _ _ 0 _ rfl
  have d1 : w4.cell? ⟨w3.heap.size, 1, none⟩ = some (.slice o2 n2 k2) := by rw [hw4]; exact cell_new _ _ _ 1 _ rfl
  have HU3 : Hid (∀ k, U k → k < w3.heap.size) := hold.so.ult
  have HW4 := hid hw4
  have HBH := hid (below_step HHO.out.b HB2.out)
  have c2 := keepc HBH.out (KK.out 2 _ rfl)
  clear hw4 hba hold kp kq c0 c1 hn1 hn2
  go_upto_region 7 with fail
  have e := HW4.out
  rw [← e]
  clear e HW4
  obtain ⟨Y, hY⟩ : ∃ Y, w3.heap.size = Y := ⟨_, rfl⟩
  simp only [hY] at d0 d1 HU3 ⊢
  clear hY
  have HPY := hid (play_any U S st0 l (.slice os N cs) 1 0 0 w4 HGN.out (by decide) (by decide) (by decide) HHO.out.so (HHO.out.keep0 fun w' hb => HRS.out w' (below_step hb (below_step HB2.out HBW.out))))
  clear d0 d1
  go_wp2_with fail
  refine HPY.out.mono ?_
  rintro e w5 ⟨va, vd, U5, rfl, hso5, hf5, hu5, ka, kd⟩
  obtain ⟨oA, qA, cA, eA⟩ : ∃ o n c, va = .slice o n c := by obtain ⟨o, c, e, -⟩ := ka.now; exact ⟨o, _, c, e⟩
  obtain ⟨oD, qD, cD, eD⟩ : ∃ o n c, vd = .slice o n c := by obtain ⟨o, c, e, -⟩ := kd.now; exact ⟨o, _, c, e⟩
  subst eA eD
  have hg5 := HPL.out
  obtain ⟨s5, hs5⟩ : ∃ s, (playP st0 (l.take 100)).1 = s := ⟨_, rfl⟩
  rw [hs5] at hso5 hg5
  have HH5 : Hid (Hold w2 U5 S s5 w5) := ⟨hso5, Frm.below HHO.out.b hf5 HHO.out.ge HHO.out.b.size, fun k hk => (hu5 k hk).elim (HHO.out.ge k) (fun h => Nat.le_trans HHO.out.b.size h)⟩
  have HG5 := hid hg5
  have hnw := hg5.live.as_.nw
  have HDK := hid (disk_any U5 S s5 w5 hso5 (isDk_len hg5.live.as_.dk).2 (by rw [hnw]; decide))
  obtain ⟨hop, htw⟩ := twin_start hg5.live
  have hgb : Gone 101 0 0 ⟨s5.dk, s5.hd, s5.log, [], s5.kept, s5.kept, []⟩ := gone_open hg5.live.as_ hg5.turn
  obtain ⟨sb, hsb⟩ : ∃ sb, (⟨s5.dk, s5.hd, s5.log, [], s5.kept, s5.kept, []⟩ : St) = sb := ⟨_, rfl⟩
  rw [hsb] at hop htw hgb
  have HOP := hid (fun u1 u2 w' (h1 : RdS w' u1 s5.dk.1) (h2 : RdW w' u2 s5.dk.2) => open_any s5.dk u1 u2 w' h1 h2 (by rw [hnw]; decide))
  rw [hop] at HOP
  have HTW := hid htw
  have HGB := hid hgb
  obtain ⟨A0, hA0⟩ : ∃ A0, s5.acts.length = A0 := ⟨_, rfl⟩
  have HA0 := hid hA0
  have hA0b : A0 ≤ 300000 := by rw [← hA0]; exact hg5.acts
  clear hop htw hgb hsb hg5 hnw hso5 hf5 hu5 ka kd HPY hs5 HPL hA0
  go_wp2_with fail
  refine HDK.out.mono ?_
  rintro e w6 ⟨u1, u2, rfl, ho1, ho2, hb6⟩
  have HP6 := hid ho1.rd; have HQ6 := hid ho2.rd
  have HH6 := hid (HH5.out.below hb6)
  clear hb6 ho1 ho2
  go_wp2_with fail
  refine (HOP.out _ _ _ HP6.out HQ6.out).mono ?_
  rintro e w7 ⟨hb7, hS, -⟩
  obtain ⟨S2, U7, rfl, hso7, hU7⟩ := hS _ rfl
  have hsz := HH6.out.b.size
  have HH7b : Hid (Hold w2 U7 S2 sb w7) := ⟨hso7, below_step hb7 HH6.out.b, fun k hk => by have := hU7 k hk; omega⟩
  have HAP7 : Hid (∀ k, U5 k → ¬ U7 k) := fun k hk h => by have h1 := HH6.out.so.ult k hk; have := hU7 k h; omega
  have HH7 := hid (HH6.out.below hb7)
  have HUN := hid (undo_any U5 S s5 w7 HH7.out.so HG5.out.now8.2.2.1 HG5.out.now8.2.2.2)
  clear hb7 hS hso7 hU7 hsz
  go_wp2_with fail
  refine HUN.out.mono ?_
  rintro e w8 hp8
  obtain ⟨rfl, U8, hh8, hf8, hu8⟩ := HH7.out.step hp8
  have HH8b := hid (HH7b.out.beside hf8 HAP7.out hh8.b)
  have HAP8 := hid (apart_step HAP7.out hu8 HH7b.out.so.ult)
  have HH8 := hid hh8
  have HG8 := hid (gone_undo HG5.out)
  have HA8 : Hid ((undoD s5).acts.length = A0) := HA0.out
  have HAC := hid (acts_any U8 S _ w8 hh8.so (by rw [HA8.out]; omega))
  obtain ⟨sa, hsa⟩ : ∃ sa, undoD s5 = sa := ⟨_, rfl⟩
  rw [hsa] at HH8 HG8 HA8 HAC
  have HTW8 := HTW.out
  rw [hsa] at HTW8
  have HTW8 := hid HTW8
  clear hp8 hh8 hf8 hu8 hsa HTW
  go_wp2_with fail
  refine HAC.out.mono ?_
  rintro e w9 ⟨v9, rfl, ho9, hb9⟩
  obtain ⟨o9, c9, rfl, -, -⟩ := ho9.rd
  rw [HA8.out]
  have HH9 := hid (HH8.out.below hb9); have HH9b := hid (HH8b.out.below hb9)
  clear hb9 ho9
  go_wp2_with fail
  go_loopw [13] (fun i wr => ∃ (k : Nat) (Ua Ub : Nat → Prop) (sa sb : St), i = .int .i64 (k : Int) ∧ k ≤ M ∧ k ≤ 100 ∧ Hid (Twin s5.acts sa sb) ∧ Hid (Gone (101 + k) (100 + k) (300000 + 3000 * k) sa) ∧ Hid (Gone (101 + k) (100 + k) (300000 + 3000 * k) sb) ∧ Hid (Hold w2 Ua S sa wr) ∧ Hid (Hold w2 Ub S2 sb wr) ∧ Hid (∀ k, Ua k → ¬ Ub k)) (fun i _ => 100 - (intOf i).toNat)
  case atStart => exact ⟨0, U8, U7, sa, sb, rfl, Nat.zero_le _, Nat.zero_le _, HTW8, HG8, HGB.out.mono (by omega) (by omega) (by omega), HH9, HH9b, HAP8⟩
  case round =>
    clear HTW8 HG8 HGB HH9 HH9b HAP8 HH8 HH8b HH7 HH7b HAP7 HAC HUN HA8
    obtain ⟨k, Ua, Ub, sa, sb, rfl, hk, hk2, HTW, HGA, HGB, HHA, HHB, HAP⟩ := hrel
    by_cases hlt : k < M ∧ k < 100
    · obtain ⟨hkM, hk100⟩ := hlt
      obtain ⟨⟨kd, o1, o2, o3, o4⟩, hx⟩ : ∃ r, l2[k]? = some r := ⟨_, List.getElem?_eq_getElem (by have := HM.out; omega)⟩
      have hRS := HRC.out w (Below.refl _ _)
      obtain ⟨o', c', e, -, hRS⟩ := hRS
      rcases hRS with hq | ⟨b1, off, rfl, hbq, hq⟩
      · rw [hq] at hx; simp at hx
      rw [HM.out] at e
      cases e
      obtain ⟨x0, x1, x2, x3, x4⟩ := hq k _ hx
      have XW := hid (And.intro x1 (And.intro x2 (And.intro x3 x4)))
      have HBE := hid (below_step HB2.out HBW.out)
      have x0 := keepc (below_step HHA.out.b HBE.out) x0
      have x1 := keepc (below_step HHA.out.b HBE.out) x1; have x2 := keepc (below_step HHA.out.b HBE.out) x2
      have x3 := keepc (below_step HHA.out.b HBE.out) x3; have x4 := keepc (below_step HHA.out.b HBE.out) x4
      obtain ⟨hnw, hkp, hdk, hac⟩ := twin_now HTW.out
      have HNW := hid hnw
      clear hq hx hbq hkp hdk hac
      go_upto_block 2 with fail
      go_cut [] (fun wx => ∃ (Ua Ub : Nat → Prop) (sa sb : St), Hid (Twin s5.acts sa sb) ∧ Hid (Gone (101 + (k + 1)) (100 + (k + 1)) (300000 + 3000 * (k + 1)) sa) ∧ Hid (Gone (101 + (k + 1)) (100 + (k + 1)) (300000 + 3000 * (k + 1)) sb) ∧ Hid (Hold w2 Ua S sa wx) ∧ Hid (Hold w2 Ub S2 sb wx) ∧ Hid (∀ k, Ua k → ¬ Ub k))
      case first =>
        by_cases hk0 : kd = 0
        · subst hk0
          have hda := do_any Ua S sa (o1, o2, o3, o4) wr HHA.out.so HGA.out.now8.1 (by have := HGA.out.ops; omega)
          rw [hnw] at hda
          have HDB := hid (fun w' (h : So w' Ub S2 sb) => do_any Ub S2 sb (o1, o2, o3, o4) w' h HGB.out.now8.1 (by have := HGB.out.ops; omega))
          have HTD := hid (twin_do HTW.out (o1, o2, o3, o4)).1
          have HGA2 := hid (gone_do HGA.out (o1, o2, o3, o4)); have HGB2 := hid (gone_do HGB.out (o1, o2, o3, o4))
          obtain ⟨q, E, hqE⟩ : ∃ q E, (doData sb.now (o1, o2, o3, o4)).2 = (q, E) := ⟨_, _, rfl⟩
          simp only [hqE] at hda HDB
          have HDA := hid hda
          have hneq := fun w => run_neqR2 q q w
          simp only [decide_true, Bool.not_true] at hneq
          clear hqE hda hnw
          go_wp2_with fail
          refine HDA.out.mono ?_
          rintro e w6 hp6
          obtain ⟨rfl, U1, hh1, hf1, hu1⟩ := HHA.out.step hp6
          have HHB1 := hid (HHB.out.beside hf1 HAP.out hh1.b)
          have HAP1 := hid (apart_step HAP.out hu1 HHB.out.so.ult)
          obtain ⟨w7, hw7⟩ : ∃ w7, w7 = w6.alloc (.cells #[strV q.1, strV q.2] 59) := ⟨_, rfl⟩
          have hba : Below w6.heap.size w6 w7 := by rw [hw7]; exact balloc (Below.refl _ _) _
          have y0 : w7.cell? ⟨w6.heap.size, 0, none⟩ = some (strV q.1) := by rw [hw7]; exact cell_new _ _ _ 0 _ rfl
          have y1 : w7.cell? ⟨w6.heap.size, 1, none⟩ = some (strV q.2) := by rw [hw7]; exact cell_new _ _ _ 1 _ rfl
          have HHA1 := hid (hh1.below hba); have HHB2 := hid (HHB1.out.below hba)
          have HYB : Hid (¬ Ub w6.heap.size) := fun hk => by have := HHB1.out.so.ult _ hk; omega
          have x1 := keepc (below_step HHA1.out.b HBE.out) XW.out.1; have x2 := keepc (below_step HHA1.out.b HBE.out) XW.out.2.1
          have x3 := keepc (below_step HHA1.out.b HBE.out) XW.out.2.2.1; have x4 := keepc (below_step HHA1.out.b HBE.out) XW.out.2.2.2
          have HW7 := hid hw7
          clear hw7 hba hp6 hh1 hf1 hu1 x0 HDA HHA HHB HHB1 HAP
          go_upto_region 25 with fail
          have e := HW7.out
          rw [← e]
          clear e HW7
          obtain ⟨Y1, hY1⟩ : ∃ Y1, w6.heap.size = Y1 := ⟨_, rfl⟩
          simp only [hY1] at y0 y1 HYB ⊢
          clear hY1
          go_wp2_with fail
          refine (HDB.out _ HHB2.out.so).mono ?_
          rintro e w8 hp8
          obtain ⟨rfl, U2, hh2, hf2, hu2⟩ := HHB2.out.step hp8
          have HAP1' : Hid (∀ k, Ub k → ¬ U1 k) := fun k h1 h2 => HAP1.out k h2 h1
          have HHA2 := hid (HHA1.out.beside hf2 HAP1'.out hh2.b)
          have HAP2 := hid (apart_step HAP1'.out hu2 HHA1.out.so.ult)
          have HAP3 : Hid (∀ k, U1 k → ¬ U2 k) := fun k h1 h2 => HAP2.out k h2 h1
          have y0 := hf2.cell (a := ⟨Y1, 0, none⟩) HYB.out y0; have y1 := hf2.cell (a := ⟨Y1, 1, none⟩) HYB.out y1
          obtain ⟨w9', hw9⟩ : ∃ w9, w9 = w8.alloc (.cells #[strV q.1, strV q.2] 59) := ⟨_, rfl⟩
          have hba : Below w8.heap.size w8 w9' := by rw [hw9]; exact balloc (Below.refl _ _) _
          have z0 : w9'.cell? ⟨w8.heap.size, 0, none⟩ = some (strV q.1) := by rw [hw9]; exact cell_new _ _ _ 0 _ rfl
          have z1 : w9'.cell? ⟨w8.heap.size, 1, none⟩ = some (strV q.2) := by rw [hw9]; exact cell_new _ _ _ 1 _ rfl
          have y0 := keepc hba y0; have y1 := keepc hba y1
          have HHA3 := hid (HHA2.out.below hba); have HHB3 := hid (hh2.below hba)
          have HW9 := hid hw9
          clear hw9 hba hp8 hh2 hf2 hu2 x1 x2 x3 x4 HDB HHA1 HHA2 HHB2 HAP1 HAP1' HAP2
          go_upto_region 26 with fail
          have e := HW9.out
          rw [← e]
          clear e HW9
          go_wp2_with fail
          go_meet
          case rel => exact ⟨U1, U2, _, _, HTD, HGA2.out.mono (by omega) (by omega) (by omega), HGB2.out.mono (by omega) (by omega) (by omega), HHA3, HHB3, HAP3⟩
        by_cases hk1 : kd = 1
        · subst hk1
          have hta := HGA.out.turn
          have hcm := twin_commit HTW.out
          have HTD := hid hcm.1
          have hca := commit_any Ua S sa wr HHA.out.so HGA.out.live (by have := HGA.out.ops; omega) (by have := HGA.out.acts; omega)
          rw [hcm.2] at hca
          have HCB := hid (fun w' (h : So w' Ub S2 sb) => commit_any Ub S2 sb w' h HGB.out.live (by have := HGB.out.ops; omega) (by have := HGB.out.acts; omega))
          have HGA2 := hid (gone_commit HGA.out (by omega)); have HGB2 := hid (gone_commit HGB.out (by omega))
          obtain ⟨E, hE⟩ : ∃ E, (commitD sb).2 = E := ⟨_, rfl⟩
          rw [hE] at hca
          simp only [hE] at HCB
          have HCA := hid hca
          clear hE hca hcm hta hnw x1 x2 x3 x4
          go_wp2_with fail
          refine HCA.out.mono ?_
          rintro e w6 hp6
          obtain ⟨rfl, U1, hh1, hf1, hu1⟩ := HHA.out.step hp6
          have HHB1 := hid (HHB.out.beside hf1 HAP.out hh1.b)
          have HAP1 := hid (apart_step HAP.out hu1 HHB.out.so.ult)
          have HHA1 := hid hh1
          clear hp6 hh1 hf1 hu1 x0
          go_wp2_with fail
          refine (HCB.out _ HHB1.out.so).mono ?_
          rintro e w8 hp8
          obtain ⟨rfl, U2, hh2, hf2, hu2⟩ := HHB1.out.step hp8
          have HAP1' : Hid (∀ k, Ub k → ¬ U1 k) := fun k h1 h2 => HAP1.out k h2 h1
          have HHA2 := hid (HHA1.out.beside hf2 HAP1'.out hh2.b)
          have HAP2 := hid (apart_step HAP1'.out hu2 HHA1.out.so.ult)
          have HAP3 : Hid (∀ k, U1 k → ¬ U2 k) := fun k h1 h2 => HAP2.out k h2 h1
          have HHB3 := hid hh2
          clear hp8 hh2 hf2 hu2
          go_wp2_with fail
          go_meet
          case rel => exact ⟨U1, U2, _, _, HTD, HGA2.out.mono (by omega) (by omega) (by omega), HGB2.out.mono (by omega) (by omega) (by omega), HHA2, HHB3, HAP3⟩
        · have hb0 : (kd == 0) = false := by simpa using hk0
          have hb1 : (kd == 1) = false := by simpa using hk1
          have HTD := hid (twin_undo HTW.out)
          have HUA := hid (undo_any Ua S sa wr HHA.out.so HGA.out.now8.2.2.1 HGA.out.now8.2.2.2)
          have HUB := hid (fun w' (h : So w' Ub S2 sb) => undo_any Ub S2 sb w' h HGB.out.now8.2.2.1 HGB.out.now8.2.2.2)
          have HGA2 := hid (gone_undo HGA.out); have HGB2 := hid (gone_undo HGB.out)
          clear hnw x1 x2 x3 x4
          go_wp2_with fail
          refine HUA.out.mono ?_
          rintro e w6 hp6
          obtain ⟨rfl, U1, hh1, hf1, hu1⟩ := HHA.out.step hp6
          have HHB1 := hid (HHB.out.beside hf1 HAP.out hh1.b)
          have HAP1 := hid (apart_step HAP.out hu1 HHB.out.so.ult)
          have HHA1 := hid hh1
          clear hp6 hh1 hf1 hu1 x0
          go_wp2_with fail
          refine (HUB.out _ HHB1.out.so).mono ?_
          rintro e w8 hp8
          obtain ⟨rfl, U2, hh2, hf2, hu2⟩ := HHB1.out.step hp8
          have HAP1' : Hid (∀ k, Ub k → ¬ U1 k) := fun k h1 h2 => HAP1.out k h2 h1
          have HHA2 := hid (HHA1.out.beside hf2 HAP1'.out hh2.b)
          have HAP2 := hid (apart_step HAP1'.out hu2 HHA1.out.so.ult)
          have HAP3 : Hid (∀ k, U1 k → ¬ U2 k) := fun k h1 h2 => HAP2.out k h2 h1
          have HHB3 := hid hh2
          clear hp8 hh2 hf2 hu2
          go_wp2_with fail
          go_meet
          case rel => exact ⟨U1, U2, _, _, HTD, HGA2.out.mono (by omega) (by omega) (by omega), HGB2.out.mono (by omega) (by omega) (by omega), HHA2, HHB3, HAP3⟩
      case rest =>
        clear HTW HGA HGB HHA HHB HAP HNW hnw x0 x1 x2 x3 x4
        obtain ⟨Ua, Ub, sa, sb, HTW, HGA, HGB, HHA, HHB, HAP⟩ := hcut
        obtain ⟨hnw, hkp, -, -⟩ := twin_now HTW.out
        have hda := fun w' (h : So w' Ua S sa) => data_any Ua S sa w' h HGA.out.now8.1 HGA.out.now8.2.1
        have hka := fun w' (h : So w' Ua S sa) => kept_any Ua S sa w' h HGA.out.now8.2.2.1 HGA.out.now8.2.2.2
        rw [hnw] at hda
        rw [hkp] at hka
        have HDA := hid hda; have HKA := hid hka
        have HDB := hid (fun w' (h : So w' Ub S2 sb) => data_any Ub S2 sb w' h HGB.out.now8.1 HGB.out.now8.2.1)
        have HKB := hid (fun w' (h : So w' Ub S2 sb) => kept_any Ub S2 sb w' h HGB.out.now8.2.2.1 HGB.out.now8.2.2.2)
        have HS1 := hid (fun u x w' (h1 : RdD w' u sb.now) (h2 : RdD w' x sb.now) => rsameall_any sb.now sb.now u x w' h1 h2 (by have := HGB.out.now8.1; unfold maxLen; omega) (fun d hd => by have := isDs_len (HGB.out.now8.2.1 d hd); unfold maxLen; omega))
        have HS2 := hid (fun u x w' (h1 : RdD w' u sb.kept) (h2 : RdD w' x sb.kept) => rsameall_any sb.kept sb.kept u x w' h1 h2 (by have := HGB.out.now8.2.2.1; unfold maxLen; omega) (fun d hd => by have := isDs_len (HGB.out.now8.2.2.2 d hd); unfold maxLen; omega))
        simp only [decide_true] at HS1 HS2
        clear hda hka hnw hkp
        go_wp2_with fail
        refine (HDA.out _ HHA.out.so).mono ?_
        rintro e w10 ⟨v10, rfl, ho10, hb10⟩
        have HR10 := hid ho10.rd
        have HHA1 := hid (HHA.out.below hb10); have HHB1 := hid (HHB.out.below hb10)
        clear ho10 hb10
        go_wp2_with fail
        refine (HDB.out _ HHB1.out.so).mono ?_
        rintro e w11 ⟨v11, rfl, ho11, hb11⟩
        have HR11 := hid ho11.rd
        have HR10 := hid (HR10.out.below hb11)
        have HHA2 := hid (HHA1.out.below hb11); have HHB2 := hid (HHB1.out.below hb11)
        clear ho11 hb11
        go_wp2_with fail
        refine (HS1.out _ _ _ HR10.out HR11.out).mono ?_
        rintro e w12 ⟨rfl, hb12⟩
        have HHA3 := hid (HHA2.out.below hb12); have HHB3 := hid (HHB2.out.below hb12)
        clear hb12
        go_wp2_with fail
        refine (HKA.out _ HHA3.out.so).mono ?_
        rintro e w13 ⟨v13, rfl, ho13, hb13⟩
        have HR13 := hid ho13.rd
        have HHA4 := hid (HHA3.out.below hb13); have HHB4 := hid (HHB3.out.below hb13)
        clear ho13 hb13
        go_wp2_with fail
        refine (HKB.out _ HHB4.out.so).mono ?_
        rintro e w14 ⟨v14, rfl, ho14, hb14⟩
        have HR14 := hid ho14.rd
        have HR13 := hid (HR13.out.below hb14)
        have HHA5 := hid (HHA4.out.below hb14); have HHB5 := hid (HHB4.out.below hb14)
        clear ho14 hb14
        go_wp2_with fail
        refine (HS2.out _ _ _ HR13.out HR14.out).mono ?_
        rintro e w15 ⟨rfl, hb15⟩
        have HHA6 := hid (HHA5.out.below hb15); have HHB6 := hid (HHB5.out.below hb15)
        clear hb15
        go_wp2_with fail
        go_roundw
        case rel => exact ⟨k + 1, Ua, Ub, sa, sb, by go_num, by omega, by omega, HTW, HGA, HGB, HHA6, HHB6, HAP⟩
        case measure => simp [intOf]; omega
    by_cases hkM : k < M
    · have hge : ¬ (k : Int) < 100 := by omega
      obtain ⟨-, -, hdk, hac⟩ := twin_now HTW.out
      have hal := HGA.out.acts
      have hnwa := HGA.out.live.as_.nw
      have hnwb := HGB.out.live.as_.nw
      have hdl := isDk_len HGB.out.live.as_.dk
      have HACA := hid (acts_any Ua S sa wr HHA.out.so (by omega))
      have hda := fun w' (h : So w' Ua S sa) => disk_any Ua S sa w' h (by rw [hdk]; exact hdl.2) (by rw [hnwa]; decide)
      rw [hdk] at hda
      have HDK1' := hid hda
      have hbl := HGB.out.acts
      have HSA := hid (fun u x w' (h1 : RdA w' u sb.acts) (h2 : RdA w' x sb.acts) => lsameacts_any sb.acts sb.acts u x w' h1 h2 (by unfold maxLen; omega))
      simp only [decide_true] at HSA
      have HSD := hid (fun ap aq bp bq w' h1 h2 h3 h4 => rsamedisk_self sb.dk ap aq bp bq w' h1 h2 h3 h4 (by omega) (by rw [hnwb]; decide))
      have hdrop : sa.acts.drop A0 = sb.acts := by rw [hac, ← HA0.out, List.drop_left]
      have HDROP := hid hdrop
      obtain ⟨na, hna⟩ : ∃ na, sa.acts.length = na := ⟨_, rfl⟩
      have hA0n : A0 ≤ na := by rw [← hna, hac, List.length_append, HA0.out]; omega
      have HNA := hid hna
      have HDL := hid (And.intro hdl.2 hnwb)
      rw [hna] at hal
      clear hdk hac hnwa hnwb hdl hda hdrop hna
      go_wp2_with fail
      refine HACA.out.mono ?_
      rintro e wz ⟨vz, rfl, hoz, hbz⟩
      have hrz := hoz.rd
      obtain ⟨oz, cz, rfl, hcz, -⟩ := hoz.rd
      rw [HNA.out] at hcz hrz ⊢
      obtain ⟨o', hcut', ho'⟩ := run_cutl_ex oz na cz A0 hA0n hcz
      have hrx := hrz.cut (m := A0) (by rw [HNA.out]; exact hA0n) ho'
      rw [HDROP.out] at hrx
      have HRX := hid hrx
      have HHAz := hid (HHA.out.below hbz); have HHBz := hid (HHB.out.below hbz)
      have HDK1 := hid (fun w' (hb : Below wz.heap.size wz w') => HDK1'.out w' (HHAz.out.so.below hb))
      have HDK2 := hid (fun w' (hb : Below wz.heap.size wz w') => disk_any Ub S2 sb w' (HHBz.out.so.below hb) HDL.out.1 (by rw [HDL.out.2]; decide))
      have HAB := hid (fun w' (hb : Below wz.heap.size wz w') => acts_any Ub S2 sb w' (HHBz.out.so.below hb) (by have := HGB.out.acts; omega))
      have HTR := hid (below_step HHAz.out.b (below_step HB2.out HBW.out))
      have hge2 : (A0 : Int) ≤ (na : Int) := by omega
      have hge3 : (0 : Int) ≤ (A0 : Int) := by omega
      have hcut := hcut'
      clear hoz hbz hrz hrx ho' hcut' hcz hal hbl
      go_upto_region 34 with fail
      refine wp_region_any (by kernel_rfl) ?_
      try (change wpAny _ _ _ _ _ _ _ (World.drew _))
      refine wpAny_take (i := 0) (v := ?_) rfl (by kernel_rfl) (by kernel_rfl) (by kernel_rfl) (fun _ _ _ h => h) (Or.inl ⟨by rfl, ?_⟩) ?_
      rotate_left
      · (intro w; go_simp; try with_reducible rfl)
      try go_simp
      refine wpAny_take (i := 1) (v := ?_) rfl (by kernel_rfl) (by kernel_rfl) (by kernel_rfl) (fun _ _ _ h => h) (Or.inl ⟨by rfl, ?_⟩) ?_
      rotate_left
      · (intro w; go_simp; try with_reducible rfl)
      try go_simp
      refine wpAny_take (i := 2) (v := ?_) rfl (by kernel_rfl) (by kernel_rfl) (by kernel_rfl) (fun _ _ _ h => h) (Or.inl ⟨by rfl, ?_⟩) ?_
      rotate_left
      · (intro w; go_simp; try with_reducible rfl)
      try go_simp
      refine wpAny_take (i := 3) (v := ?_) rfl (by kernel_rfl) (by kernel_rfl) (by kernel_rfl) (fun _ _ _ h => h) (Or.inl ⟨by rfl, ?_⟩) ?_
      rotate_left
      · (intro w; go_simp; try with_reducible rfl)
      try go_simp
      refine wpAny_take (i := 4) (v := ?_) rfl (by kernel_rfl) (by kernel_rfl) (by kernel_rfl) (fun _ _ _ h => h) (Or.inl ⟨by rfl, ?_⟩) ?_
      rotate_left
      · (intro w; go_simp; try with_reducible rfl)
      try go_simp
      refine wpAny_take (i := 5) (v := ?_) rfl (by kernel_rfl) (by kernel_rfl) (by kernel_rfl) (fun _ _ _ h => h) (Or.inl ⟨by rfl, ?_⟩) ?_
      rotate_left
      · (intro w; go_simp; try with_reducible rfl)
      try go_simp
      refine wpAny_take (i := 6) (v := ?_) rfl (by kernel_rfl) (by kernel_rfl) (by kernel_rfl) (fun _ _ _ h => h) (Or.inl ⟨by rfl, ?_⟩) ?_
      rotate_left
      · (intro w; go_simp; try with_reducible rfl)
      try go_simp
      refine wpAny_take (i := 7) (v := ?_) rfl (by kernel_rfl) (by kernel_rfl) (by kernel_rfl) (fun _ _ _ h => h) (Or.inl ⟨by rfl, ?_⟩) ?_
      rotate_left
      · (intro w; go_simp; try with_reducible rfl)
      try go_simp
      refine wpAny_take (i := 8) (v := ?_) rfl (by kernel_rfl) (by kernel_rfl) (by kernel_rfl) (fun _ _ _ h => h) (Or.inl ⟨by rfl, ?_⟩) ?_
      rotate_left
      · (intro w; go_simp; try with_reducible rfl)
      try go_simp
      refine wpAny_ready (rs := [9]) (by kernel_rfl) (by simp) ?_
      refine AllReady.cons rfl (fun K hK => ?_) AllReady.nil
      go_simp
      go_wp2_with (go_at_call 22; refine (HAB.out _ (drew_below wz)).mono ?_; rintro e w20 ⟨v20, rfl, ho20, hb20⟩; have HR20 := hid ho20.rd; have HB20 := hid (below_step hb20 (drew_below wz)); have HRA := hid (HRX.out.below HB20.out); clear ho20 hb20)
      refine wpAny_ready (rs := [10]) (by kernel_rfl) (by simp) ?_
      refine AllReady.cons rfl (fun K hK => ?_) AllReady.nil
      go_simp
      go_wp2_with (go_at_call 73; refine (HSA.out _ _ _ HRA.out HR20.out).mono ?_; rintro e w21 ⟨rfl, hb21⟩; have HB21 := hid (below_step hb21 HB20.out); clear hb21)
      refine wpAny_take (i := 11) (v := ?_) rfl (by kernel_rfl) (by kernel_rfl) (by kernel_rfl) (fun _ _ _ h => h) (Or.inl ⟨by rfl, ?_⟩) ?_
      rotate_left
      · (intro w; go_simp; try with_reducible rfl)
      try go_simp
      refine wpAny_take (i := 12) (v := ?_) rfl (by kernel_rfl) (by kernel_rfl) (by kernel_rfl) (fun _ _ _ h => h) (Or.inl ⟨by rfl, ?_⟩) ?_
      rotate_left
      · (intro w; go_simp; try with_reducible rfl)
      try go_simp
      refine wpAny_take (i := 13) (v := ?_) rfl (by kernel_rfl) (by kernel_rfl) (by kernel_rfl) (fun _ _ _ h => h) (Or.inl ⟨by rfl, ?_⟩) ?_
      rotate_left
      · (intro w; go_simp; try with_reducible rfl)
      try go_simp
      refine wpAny_take (i := 15) (v := ?_) rfl (by kernel_rfl) (by kernel_rfl) (by kernel_rfl) (fun _ _ _ h => h) (Or.inl ⟨by rfl, ?_⟩) ?_
      rotate_left
      · (intro w; go_simp; try with_reducible rfl)
      try go_simp
      refine wpAny_ready (rs := [14]) (by kernel_rfl) (by simp) ?_
      refine AllReady.cons rfl (fun K hK => ?_) AllReady.nil
      go_simp
      go_wp2_with (go_at_call 31; refine (HDK1.out _ HB21.out).mono ?_; rintro e w22 ⟨x1, x2, rfl, ho1, ho2, hb22⟩; have HP1 := hid ho1.rd; have HQ1 := hid ho2.rd; have HB22 := hid (below_step hb22 HB21.out); clear ho1 ho2 hb22)
      refine wpAny_ready (rs := [16]) (by kernel_rfl) (by simp) ?_
      refine AllReady.cons rfl (fun K hK => ?_) AllReady.nil
      go_simp
      go_wp2_with (go_at_call 31; refine (HDK2.out _ HB22.out).mono ?_; rintro e w23 ⟨x3, x4, rfl, ho1, ho2, hb23⟩; have HP2 := hid ho1.rd; have HQ2 := hid ho2.rd; have HP1 := hid (HP1.out.below hb23); have HQ1 := hid (HQ1.out.below hb23); have HB23 := hid (below_step hb23 HB22.out); clear ho1 ho2 hb23)
      refine wpAny_ready (rs := [17]) (by kernel_rfl) (by simp) ?_
      refine AllReady.cons rfl (fun K hK => ?_) AllReady.nil
      go_simp
      go_wp2_with (go_at_call 72; refine (HSD.out _ _ _ _ _ HP1.out HQ1.out HP2.out HQ2.out).mono ?_; rintro e w24 ⟨rfl, hb24⟩; have HB24 := hid (below_step hb24 HB23.out); clear hb24)
      refine wpAny_take (i := 18) (v := ?_) rfl (by kernel_rfl) (by kernel_rfl) (by kernel_rfl) (fun _ _ _ h => h) (Or.inl ⟨by rfl, ?_⟩) ?_
      rotate_left
      · (intro w; go_simp; try with_reducible rfl)
      try go_simp
      refine wpAny_take (i := 19) (v := ?_) rfl (by kernel_rfl) (by kernel_rfl) (by kernel_rfl) (fun _ _ _ h => h) (Or.inl ⟨by rfl, ?_⟩) ?_
      rotate_left
      · (intro w; go_simp; try with_reducible rfl)
      try go_simp
      refine wpAny_done (by kernel_rfl) ?_ _
      go_wp2_with fail
      go_ret
      exact ⟨rfl, below_step HB24.out HTR.out⟩
    · have hge : ¬ (k : Int) < (M : Int) := by omega
      obtain ⟨-, -, hdk, hac⟩ := twin_now HTW.out
      have hal := HGA.out.acts
      have hnwa := HGA.out.live.as_.nw
      have hnwb := HGB.out.live.as_.nw
      have hdl := isDk_len HGB.out.live.as_.dk
      have HACA := hid (acts_any Ua S sa wr HHA.out.so (by omega))
      have hda := fun w' (h : So w' Ua S sa) => disk_any Ua S sa w' h (by rw [hdk]; exact hdl.2) (by rw [hnwa]; decide)
      rw [hdk] at hda
      have HDK1' := hid hda
      have hbl := HGB.out.acts
      have HSA := hid (fun u x w' (h1 : RdA w' u sb.acts) (h2 : RdA w' x sb.acts) => lsameacts_any sb.acts sb.acts u x w' h1 h2 (by unfold maxLen; omega))
      simp only [decide_true] at HSA
      have HSD := hid (fun ap aq bp bq w' h1 h2 h3 h4 => rsamedisk_self sb.dk ap aq bp bq w' h1 h2 h3 h4 (by omega) (by rw [hnwb]; decide))
      have hdrop : sa.acts.drop A0 = sb.acts := by rw [hac, ← HA0.out, List.drop_left]
      have HDROP := hid hdrop
      obtain ⟨na, hna⟩ : ∃ na, sa.acts.length = na := ⟨_, rfl⟩
      have hA0n : A0 ≤ na := by rw [← hna, hac, List.length_append, HA0.out]; omega
      have HNA := hid hna
      have HDL := hid (And.intro hdl.2 hnwb)
      rw [hna] at hal
      clear hdk hac hnwa hnwb hdl hda hdrop hna
      go_wp2_with fail
      refine HACA.out.mono ?_
      rintro e wz ⟨vz, rfl, hoz, hbz⟩
      have hrz := hoz.rd
      obtain ⟨oz, cz, rfl, hcz, -⟩ := hoz.rd
      rw [HNA.out] at hcz hrz ⊢
      obtain ⟨o', hcut', ho'⟩ := run_cutl_ex oz na cz A0 hA0n hcz
      have hrx := hrz.cut (m := A0) (by rw [HNA.out]; exact hA0n) ho'
      rw [HDROP.out] at hrx
      have HRX := hid hrx
      have HHAz := hid (HHA.out.below hbz); have HHBz := hid (HHB.out.below hbz)
      have HDK1 := hid (fun w' (hb : Below wz.heap.size wz w') => HDK1'.out w' (HHAz.out.so.below hb))
      have HDK2 := hid (fun w' (hb : Below wz.heap.size wz w') => disk_any Ub S2 sb w' (HHBz.out.so.below hb) HDL.out.1 (by rw [HDL.out.2]; decide))
      have HAB := hid (fun w' (hb : Below wz.heap.size wz w') => acts_any Ub S2 sb w' (HHBz.out.so.below hb) (by have := HGB.out.acts; omega))
      have HTR := hid (below_step HHAz.out.b (below_step HB2.out HBW.out))
      have hge2 : (A0 : Int) ≤ (na : Int) := by omega
      have hge3 : (0 : Int) ≤ (A0 : Int) := by omega
      have hcut := hcut'
      clear hoz hbz hrz hrx ho' hcut' hcz hal hbl
      go_upto_region 34 with fail
      refine wp_region_any (by kernel_rfl) ?_
      try (change wpAny _ _ _ _ _ _ _ (World.drew _))
      refine wpAny_take (i := 0) (v := ?_) rfl (by kernel_rfl) (by kernel_rfl) (by kernel_rfl) (fun _ _ _ h => h) (Or.inl ⟨by rfl, ?_⟩) ?_
      rotate_left
      · (intro w; go_simp; try with_reducible rfl)
      try go_simp
      refine wpAny_take (i := 1) (v := ?_) rfl (by kernel_rfl) (by kernel_rfl) (by kernel_rfl) (fun _ _ _ h => h) (Or.inl ⟨by rfl, ?_⟩) ?_
      rotate_left
      · (intro w; go_simp; try with_reducible rfl)
      try go_simp
      refine wpAny_take (i := 2) (v := ?_) rfl (by kernel_rfl) (by kernel_rfl) (by kernel_rfl) (fun _ _ _ h => h) (Or.inl ⟨by rfl, ?_⟩) ?_
      rotate_left
      · (intro w; go_simp; try with_reducible rfl)
      try go_simp
      refine wpAny_take (i := 3) (v := ?_) rfl (by kernel_rfl) (by kernel_rfl) (by kernel_rfl) (fun _ _ _ h => h) (Or.inl ⟨by rfl, ?_⟩) ?_
      rotate_left
      · (intro w; go_simp; try with_reducible rfl)
      try go_simp
      refine wpAny_take (i := 4) (v := ?_) rfl (by kernel_rfl) (by kernel_rfl) (by kernel_rfl) (fun _ _ _ h => h) (Or.inl ⟨by rfl, ?_⟩) ?_
      rotate_left
      · (intro w; go_simp; try with_reducible rfl)
      try go_simp
      refine wpAny_take (i := 5) (v := ?_) rfl (by kernel_rfl) (by kernel_rfl) (by kernel_rfl) (fun _ _ _ h => h) (Or.inl ⟨by rfl, ?_⟩) ?_
      rotate_left
      · (intro w; go_simp; try with_reducible rfl)
      try go_simp
      refine wpAny_take (i := 6) (v := ?_) rfl (by kernel_rfl) (by kernel_rfl) (by kernel_rfl) (fun _ _ _ h => h) (Or.inl ⟨by rfl, ?_⟩) ?_
      rotate_left
      · (intro w; go_simp; try with_reducible rfl)
      try go_simp
      refine wpAny_take (i := 7) (v := ?_) rfl (by kernel_rfl) (by kernel_rfl) (by kernel_rfl) (fun _ _ _ h => h) (Or.inl ⟨by rfl, ?_⟩) ?_
      rotate_left
      · (intro w; go_simp; try with_reducible rfl)
      try go_simp
      refine wpAny_take (i := 8) (v := ?_) rfl (by kernel_rfl) (by kernel_rfl) (by kernel_rfl) (fun _ _ _ h => h) (Or.inl ⟨by rfl, ?_⟩) ?_
      rotate_left
      · (intro w; go_simp; try with_reducible rfl)
      try go_simp
      refine wpAny_ready (rs := [9]) (by kernel_rfl) (by simp) ?_
      refine AllReady.cons rfl (fun K hK => ?_) AllReady.nil
      go_simp
      go_wp2_with (go_at_call 22; refine (HAB.out _ (drew_below wz)).mono ?_; rintro e w20 ⟨v20, rfl, ho20, hb20⟩; have HR20 := hid ho20.rd; have HB20 := hid (below_step hb20 (drew_below wz)); have HRA := hid (HRX.out.below HB20.out); clear ho20 hb20)
      refine wpAny_ready (rs := [10]) (by kernel_rfl) (by simp) ?_
      refine AllReady.cons rfl (fun K hK => ?_) AllReady.nil
      go_simp
      go_wp2_with (go_at_call 73; refine (HSA.out _ _ _ HRA.out HR20.out).mono ?_; rintro e w21 ⟨rfl, hb21⟩; have HB21 := hid (below_step hb21 HB20.out); clear hb21)
      refine wpAny_take (i := 11) (v := ?_) rfl (by kernel_rfl) (by kernel_rfl) (by kernel_rfl) (fun _ _ _ h => h) (Or.inl ⟨by rfl, ?_⟩) ?_
      rotate_left
      · (intro w; go_simp; try with_reducible rfl)
      try go_simp
      refine wpAny_take (i := 12) (v := ?_) rfl (by kernel_rfl) (by kernel_rfl) (by kernel_rfl) (fun _ _ _ h => h) (Or.inl ⟨by rfl, ?_⟩) ?_
      rotate_left
      · (intro w; go_simp; try with_reducible rfl)
      try go_simp
      refine wpAny_take (i := 13) (v := ?_) rfl (by kernel_rfl) (by kernel_rfl) (by kernel_rfl) (fun _ _ _ h => h) (Or.inl ⟨by rfl, ?_⟩) ?_
      rotate_left
      · (intro w; go_simp; try with_reducible rfl)
      try go_simp
      refine wpAny_take (i := 15) (v := ?_) rfl (by kernel_rfl) (by kernel_rfl) (by kernel_rfl) (fun _ _ _ h => h) (Or.inl ⟨by rfl, ?_⟩) ?_
      rotate_left
      · (intro w; go_simp; try with_reducible rfl)
      try go_simp
      refine wpAny_ready (rs := [14]) (by kernel_rfl) (by simp) ?_
      refine AllReady.cons rfl (fun K hK => ?_) AllReady.nil
      go_simp
      go_wp2_with (go_at_call 31; refine (HDK1.out _ HB21.out).mono ?_; rintro e w22 ⟨x1, x2, rfl, ho1, ho2, hb22⟩; have HP1 := hid ho1.rd; have HQ1 := hid ho2.rd; have HB22 := hid (below_step hb22 HB21.out); clear ho1 ho2 hb22)
      refine wpAny_ready (rs := [16]) (by kernel_rfl) (by simp) ?_
      refine AllReady.cons rfl (fun K hK => ?_) AllReady.nil
      go_simp
      go_wp2_with (go_at_call 31; refine (HDK2.out _ HB22.out).mono ?_; rintro e w23 ⟨x3, x4, rfl, ho1, ho2, hb23⟩; have HP2 := hid ho1.rd; have HQ2 := hid ho2.rd; have HP1 := hid (HP1.out.below hb23); have HQ1 := hid (HQ1.out.below hb23); have HB23 := hid (below_step hb23 HB22.out); clear ho1 ho2 hb23)
      refine wpAny_ready (rs := [17]) (by kernel_rfl) (by simp) ?_
      refine AllReady.cons rfl (fun K hK => ?_) AllReady.nil
      go_simp
      go_wp2_with (go_at_call 72; refine (HSD.out _ _ _ _ _ HP1.out HQ1.out HP2.out HQ2.out).mono ?_; rintro e w24 ⟨rfl, hb24⟩; have HB24 := hid (below_step hb24 HB23.out); clear hb24)
      refine wpAny_take (i := 18) (v := ?_) rfl (by kernel_rfl) (by kernel_rfl) (by kernel_rfl) (fun _ _ _ h => h) (Or.inl ⟨by rfl, ?_⟩) ?_
      rotate_left
      · (intro w; go_simp; try with_reducible rfl)
      try go_simp
      refine wpAny_take (i := 19) (v := ?_) rfl (by kernel_rfl) (by kernel_rfl) (by kernel_rfl) (fun _ _ _ h => h) (Or.inl ⟨by rfl, ?_⟩) ?_
      rotate_left
      · (intro w; go_simp; try with_reducible rfl)
      try go_simp
      refine wpAny_done (by kernel_rfl) ?_ _
      go_wp2_with fail
      go_ret
      exact ⟨rfl, below_step HB24.out HTR.out⟩
end Go.Proofs.Ytifcgimpgbeocaa
