/- The reference's Crash. -/
import Derived.Test.YtifcgimpgbeocaaGreatK33
import Derived.Test.YtifcgimpgbeocaaGreatK11
set_option linter.unusedVariables false
set_option linter.unusedSimpArgs false
namespace Go.Proofs.YtifcgimpgbeocaaGreat
open Go.RowKit
attribute [local go_sem] Oper.semAt_some
theorem crashTo_succ' {pages : List Bs} {ws : List Wt} {cuts : List Int} {k : Nat} {x : Wt} (h : ws[k]? = some x) : crashTo pages ws cuts (k + 1) = tear (crashTo pages ws cuts k) x (cutAt cuts k) := by
  show (match ws[k]? with | some w => tear (crashTo pages ws cuts k) w (cutAt cuts k) | none => crashTo pages ws cuts k) = _
  rw [h]
set_option maxHeartbeats 8000000 in
set_option maxRecDepth 100000 in
theorem rcrash_any (d : Dk) (vp vq : Value) (cuts : List Int) (vc : Value) (w : World) (hp : RdS w vp d.1) (hq : RdW w vq d.2) (hc : RdI w vc cuts) (hl1 : d.1.length ≤ 1000000000) (hl2 : d.2.length ≤ 1000000) (hl3 : cuts.length ≤ maxLen) :
    Calls Tryz.prog 118 #[.agg #[vp, vq], vc] w (RetDk (crashE d cuts).1 (crashE d cuts).2 w) := by
  have HCK := hid (fun w' (hb : Below w.heap.size w w') => rcheckdisk_any d vp vq w' (hp.below hb) (hq.below hb) hl1 (by omega))
  have HCUT := hid (fun k (hk : k ≤ 1000000) w' (hb : Below w.heap.size w w') => rcut_any cuts vc k w' (hc.below hb) hl3 (by omega))
  obtain ⟨oc, cc, rfl, -, -⟩ := hc
  obtain ⟨o1, c1, rfl, hc1, h1⟩ := hp
  obtain ⟨o2, c2, rfl, hc2, h2⟩ := hq
  have H1 := hid h1; have H2 := hid h2
  obtain ⟨N, hN⟩ : ∃ N, d.1.length = N := ⟨_, rfl⟩
  obtain ⟨M, hM⟩ : ∃ M, d.2.length = M := ⟨_, rfl⟩
  obtain ⟨L, hL⟩ : ∃ L, cuts.length = L := ⟨_, rfl⟩
  simp only [hN, hM, hL] at HCK HCUT hl1 hl2 hc1 hc2 ⊢
  have HN := hid hN; have HM := hid hM
  obtain ⟨W0, hW0⟩ : ∃ W0, W0 = w.alloc (.cells #[.slice o1 N c1, .slice o2 M c2] 25) := ⟨_, rfl⟩
  have hb0 : Below w.heap.size w W0 := by rw [hW0]; exact balloc (Below.refl _ _) _
  have hz0 : W0.heap.size = w.heap.size + 1 := by rw [hW0]; simp
  have e0 : W0.cell? ⟨w.heap.size, 0, none⟩ = some (.slice o1 N c1) := by rw [hW0]; exact cell_new _ _ _ 0 _ rfl
  have e1 : W0.cell? ⟨w.heap.size, 1, none⟩ = some (.slice o2 M c2) := by rw [hW0]; exact cell_new _ _ _ 1 _ rfl
  have hB2 := B2.new W0 25 (.slice none 0 0) (.slice none 0 0)
  have y0 : (W0.alloc (.cells #[.slice none 0 0, .slice none 0 0] 25)).cell? ⟨W0.heap.size, 0, none⟩ = some (.slice none 0 0) := cell_new _ _ _ 0 _ rfl
  have y1 : (W0.alloc (.cells #[.slice none 0 0, .slice none 0 0] 25)).cell? ⟨W0.heap.size, 1, none⟩ = some (.slice none 0 0) := cell_new _ _ _ 1 _ rfl
  obtain ⟨W1, hW1⟩ : ∃ W1, W1 = W0.alloc (.cells #[.slice none 0 0, .slice none 0 0] 25) := ⟨_, rfl⟩
  rw [← hW1] at hB2 y0 y1
  have HB1 := hid (below_step hB2.1 hb0)
  have E0 := hid (keepc hB2.1 e0); have E1 := hid (keepc hB2.1 e1)
  have HOW := hid hB2.2
  have HY := hid (And.intro y0 y1)
  have HW0 := hid hW0; have HW1 := hid hW1; have HZ0 := hid hz0
  have hz1 : W1.heap.size = w.heap.size + 2 := by rw [hW1]; simp [hz0]
  have HZ1 := hid hz1
  clear h1 h2 hN hM hL hW0 hW1 hb0 hz0 e0 e1 hB2 y0 y1 hz1
  cases hd : isDk d with
  | false =>
    have hr : crashE d cuts = (([], []), 142) := by unfold crashE; rw [hd]; rfl
    rw [hr]
    have hck : chkD d = 142 := by unfold chkD; rw [hd]; rfl
    rw [hck] at HCK
    clear hr hck hd
    go_enter Tryz.func118, Tryz.ntmps118
    go_upto_region 1 with fail
    have e := HW0.out
    simp only [← e]
    have e2 := HW1.out
    simp only [← e2]
    clear e e2 HW0 HW1
    have E0 := E0.out; have E1 := E1.out
    rw [HZ0.out] at HY HOW
    try rw [HZ0.out]
    go_wp2_with fail
    refine (HCK.out _ HB1.out).mono ?_
    rintro e w1 ⟨rfl, hb1⟩
    have y0 := keepc hb1 HY.out.1; have y1 := keepc hb1 HY.out.2
    have f0 := (keepOwn hb1 HOW.out.1).2; have f1 := (keepOwn hb1 HOW.out.2).2
    have HB2 := hid (below_step hb1 HB1.out)
    have hz : w.heap.size + 1 < w1.heap.size := World.block_lt_of_cell? _ _ y0
    clear hb1
    go_wp2_with fail
    first
      | exact bodyPost_ret (v := .tuple #[.agg #[.slice none 0 0, .slice none 0 0], .int .i64 142]) (by simp [results, Tryz.results118, go_sem, y0, y1, f0, f1, hz]) rfl ⟨_, _, rfl, oS_nil _ _, oW_nil _ _, HB2.out⟩
      | exact bodyPost_ret (v := .tuple #[.agg #[.slice none 0 0, .slice none 0 0], .int .i64 142]) (by simp [results, Tryz.results118, go_sem, y0, y1, f0, f1, hz]) rfl ⟨_, _, rfl, oS_nil _ _, oW_nil _ _, (HB2.out.setCell (by simp) _).setCell (by simp) _⟩
  | true =>
  have hdl := isDk_len hd
  rw [HN.out] at hdl
  have HR : Hid (crashE d cuts = (crashDk d cuts, 0)) := by unfold Hid crashE; rw [hd]; rfl
  have hck : chkD d = 0 := by unfold chkD; rw [hd]; rfl
  rw [hck] at HCK
  have HPG := hid (fun i s (h : d.1[i]? = some s) => isDk_page hd h)
  have HWT := hid (fun x (h : x ∈ d.2) => isDk_wait hd h)
  have HCP := hid (fun k => crashTo_page d.1 d.2 cuts (fun s hs => by obtain ⟨i, hi⟩ := List.getElem?_of_mem hs; exact isDk_page hd hi) (fun x hx => (isDk_wait hd hx).2.2) k)
  have HCL := hid (fun k => (crashTo_len d.1 d.2 cuts k).trans HN.out)
  have HTS := hid (fun k x (h : d.2[k]? = some x) => crashTo_succ' (pages := d.1) (cuts := cuts) h)
  clear hck hd
  go_enter Tryz.func118, Tryz.ntmps118
  go_upto_region 1 with fail
  have e := HW0.out
  simp only [← e]
  have e2 := HW1.out
  simp only [← e2]
  clear e e2 HW0 HW1
  rw [HZ0.out] at HY HOW
  try rw [HZ0.out]
  obtain ⟨Z, hZ⟩ : ∃ Z, w.heap.size = Z := ⟨_, rfl⟩
  have HZ := hid hZ
  simp only [hZ] at E0 E1 HY HOW HZ1 ⊢
  clear hZ HZ0
  have a0 := E0.out; have a1 := E1.out
  go_wp2_with fail
  refine (HCK.out _ HB1.out).mono ?_
  rintro e w1 ⟨rfl, hb1⟩
  have HB2 := hid (below_step hb1 HB1.out)
  have A0 := hid (keepc hb1 a0); have A1 := hid (keepc hb1 a1)
  have hzz : Z + 1 < w1.heap.size := by have := hb1.size; have := HZ1.out; omega
  have HLD := hid (LD.start (w0 := w) (R := Z + 1) (D := w1.heap.size) HB2.out (by have := HZ.out; omega) hzz rfl (keepOwn hb1 HOW.out.1) (keepOwn hb1 HOW.out.2))
  obtain ⟨w2, hw2⟩ : ∃ w2, w2 = w1.alloc (.cells #[.slice none 0 0, .slice none 0 0] 25) := ⟨_, rfl⟩
  have hba : Below w1.heap.size w1 w2 := by rw [hw2]; exact balloc (Below.refl _ _) _
  rw [← hw2] at HLD
  have A0 := hid (keepc hba A0.out); have A1 := hid (keepc hba A1.out)
  have HW2 := hid hw2
  have HBB2 := hid (below_step hba HB2.out)
  clear hw2 hba hb1 hzz a0 a1 HOW HY HZ1 E0 E1
  go_upto_region 4 with fail
  have e := HW2.out
  rw [← e]
  clear e HW2
  obtain ⟨D, hD⟩ : ∃ D, w1.heap.size = D := ⟨_, rfl⟩
  simp only [hD] at HLD ⊢
  clear hD
  have HLD0 : Hid (LD w (Z + 1) D (.slice none 0 0) (.slice none 0 0) (d.1.take 0) [] w2) := HLD.out
  have HZD : Hid (Z < D) := by have := HLD.out.rd; unfold Hid; omega
  clear HLD
  go_wp2_with fail
  go_loopw [7] (fun i wr => ∃ (k : Nat) (o : Option Addr) (c : Nat), i = .int .i64 (k : Int) ∧ k ≤ N ∧ Hid (LD w (Z + 1) D (.slice o k c) (.slice none 0 0) (d.1.take k) [] wr) ∧ Hid (wr.cell? ⟨Z, 0, none⟩ = some (.slice o1 N c1)) ∧ Hid (wr.cell? ⟨Z, 1, none⟩ = some (.slice o2 M c2))) (fun i _ => N - (intOf i).toNat)
  case atStart => exact ⟨0, none, 0, rfl, Nat.zero_le _, HLD0, A0, A1⟩
  case round =>
    clear HLD0 A0 A1
    obtain ⟨k, o, c, rfl, hk, HLD, A0, A1⟩ := hrel
    have a0 := A0.out
    by_cases hlt : k < N
    · obtain ⟨x, hx⟩ : ∃ r, d.1[k]? = some r := ⟨_, List.getElem?_eq_getElem (by have := HN.out; omega)⟩
      have hP := H1.out
      rcases hP with hq | ⟨b1, off, rfl, -, hP⟩
      · rw [hq] at hx; simp at hx
      have x0 := keepc HLD.out.b (hP k x hx)
      have hlti : (k : Int) < (N : Int) := by omega
      have d0 := HLD.out.d0
      have df := HLD.out.df 0
      have HT1 : Hid (d.1.take (k + 1) = d.1.take k ++ [x]) := by unfold Hid; rw [List.take_add_one, hx]; rfl
      have hba := balloc (Below.refl wr.heap.size wr) (.cells #[strV x] 9)
      have HLY := hid (HLD.out.below hba.drew)
      have d0a := keepc hba d0
      have a0a := keepc hba a0
      have HLEN : Hid ((d.1.take k).length ≤ 1000000) := by unfold Hid; rw [List.length_take]; have := hdl.2; omega
      have HTL : Hid ((d.1.take k).length = k) := by unfold Hid; rw [List.length_take]; have := HN.out; omega
      have HBA := hid hba.drew
      have HNO := hid (fun kk (e : (Value.slice o k c).ownBlock = some kk) => (World.ownsRow.lt HLY.out.o1 kk e).1)
      clear hP hx hba
      go_wp2_with fail
      go_region_law (first
        | (refine step_appS (by rfl) (.tmp 24) (.tmp 30) (by rfl) (D + 1) (.slice o k c) (d.1.take k) x wr.heap.size 1 (by simp [Act.eval, Act.put]) (by simp [Act.eval, Act.put]) HLY.out.o1 (cellsS _ _ _ (cell_new wr #[strV x] 9 0 _ rfl)) HLEN.out (by have := HLY.out.dlt; omega) ?_; intro v13 w13 ho13 hg13 hat13; obtain ⟨o13, c13, hv13⟩ : ∃ o c, v13 = .slice o (k + 1) c := (by obtain ⟨o, c, e, -⟩ := ho13.rd; rw [List.length_append, HTL.out] at e; exact ⟨o, c, e⟩); subst hv13; have HPUT := hid (HLY.out.put1 hg13 ho13); obtain ⟨⟨x13, zz0⟩, zzf⟩ := own_grown' ⟨⟨_, HLY.out.d0⟩, HLY.out.df 0⟩ hg13 (fun e => by have := (World.ownsRow.lt HLY.out.o1 _ e).1; simp only at this; omega))
        | (fail "x"))
      all_goals
        obtain ⟨w14, hw14⟩ : ∃ w14, w14 = w13.setCell ⟨D, 0, none⟩ (.slice o13 (k + 1) c13) := ⟨_, rfl⟩
        have HN2 : Hid (LD w (Z + 1) D (.slice o13 (k + 1) c13) (.slice none 0 0) (d.1.take (k + 1)) [] w14) := by unfold Hid; rw [HT1.out, hw14]; exact HPUT.out
        have HA0 : Hid (w14.cell? ⟨Z, 0, none⟩ = some (.slice (some ⟨b1, off, none⟩) N c1)) := by
          unfold Hid
          rw [hw14, World.cell?_setCell_other _ _ _ _ (fun e => by cases e; have := HZD.out; omega)]
          exact grown_cell hg13 (fun e => by have hno := HNO.out _ e; have := HZD.out; simp only at hno; omega) (keepc HBA.out A0.out)
        have HA1 : Hid (w14.cell? ⟨Z, 1, none⟩ = some (.slice o2 M c2)) := by
          unfold Hid
          rw [hw14, World.cell?_setCell_other _ _ _ _ (fun e => by cases e)]
          exact grown_cell hg13 (fun e => by have hno := HNO.out _ e; have := HZD.out; simp only at hno; omega) (keepc HBA.out A1.out)
        have HW14 := hid hw14
        clear hw14 zz0 zzf ho13 hg13 hat13 d0 HPUT df d0a a0a a0
        have e14 := HW14.out
        rw [← e14]
        clear e14
        go_wp2_with fail
        go_roundw
        case rel => exact ⟨k + 1, o13, c13, by go_num, by omega, HN2, HA0, HA1⟩
        case measure => simp [intOf]; omega
    · have hge : ¬ (k : Int) < (N : Int) := by omega
      have hkN : k = N := by omega
      subst hkN
      have hLD := HLD.out
      rw [List.take_of_length_le (by have := HN.out; omega)] at hLD
      obtain ⟨g, cg, hv, -⟩ := OS.cells hLD.o1 (by have := HN.out; omega)
      simp only [Value.slice.injEq] at hv
      obtain ⟨rfl, -, rfl⟩ := hv
      have HLD1 : Hid (LD w (Z + 1) D (.slice (some ⟨g, 0, none⟩) k c) (.slice none 0 0) (crashTo d.1 d.2 cuts 0) [] wr) := hLD
      have A0' := A0; have A1' := A1
      obtain ⟨W3, hW3⟩ : ∃ W3, W3 = wr := ⟨_, rfl⟩
      subst hW3
      clear hLD HLD hlt
      have a0 := A0'.out
      have a1 := A1'.out
      go_wp2_with fail
      go_loopw [8] (fun i wr => ∃ j : Nat, i = .int .i64 (j : Int) ∧ j ≤ M ∧ Hid (LD w (Z + 1) D (.slice (some ⟨g, 0, none⟩) k c) (.slice none 0 0) (crashTo d.1 d.2 cuts j) [] wr) ∧ Hid (wr.cell? ⟨Z, 0, none⟩ = some (.slice o1 k c1)) ∧ Hid (wr.cell? ⟨Z, 1, none⟩ = some (.slice o2 M c2))) (fun i _ => M - (intOf i).toNat)
      case atStart => exact ⟨0, rfl, Nat.zero_le _, HLD1, A0', A1'⟩
      case round =>
        clear HLD1 A0' A1' A0 A1 a0 a1
        obtain ⟨j, rfl, hj, HLD, A0, A1⟩ := hrel
        have a1 := A1.out
        by_cases hlt : j < M
        · obtain ⟨⟨xp, xs⟩, hx⟩ : ∃ r, d.2[j]? = some r := ⟨_, List.getElem?_eq_getElem (by have := HM.out; omega)⟩
          have hP := H2.out
          rcases hP with hq | ⟨b1, off, rfl, -, hP⟩
          · rw [hq] at hx; simp at hx
          obtain ⟨x0, x1⟩ := hP j _ hx
          have X0 := hid x0; have X1 := hid x1
          obtain ⟨hw0, hw1, hw64⟩ := HWT.out _ (List.mem_of_getElem? hx)
          rw [HN.out] at hw1
          simp only at hw0 hw1 hw64
          obtain ⟨p, rfl⟩ : ∃ p : Nat, xp = (p : Int) := ⟨xp.toNat, by omega⟩
          have hst := HTS.out j _ hx
          have hcl := HCL.out j
          have hcp := HCP.out j
          obtain ⟨P, hP2⟩ : ∃ P, crashTo d.1 d.2 cuts j = P := ⟨_, rfl⟩
          rw [hP2] at hst hcl hcp
          have hLD := HLD.out
          rw [hP2] at hLD
          have HLDP := hid hLD
          have hpk : p < k := by omega
          obtain ⟨old, hold⟩ : ∃ s, P[p]? = some s := ⟨_, List.getElem?_eq_getElem (by omega)⟩
          have ho64 : old.length = 64 := hcp old (List.mem_of_getElem? hold)
          obtain ⟨C, hC⟩ : ∃ C, cutAt cuts j = C := ⟨_, rfl⟩
          have hC64 : C ≤ 64 := by rw [← hC]; exact cutAt_le _ _
          have HST : Hid (crashTo d.1 d.2 cuts (j + 1) = P.set p (xs.take C ++ old.drop C)) := by
            unfold Hid
            rw [hst, hC]; unfold tear; simp only [Int.toNat_natCast, hold, Option.getD_some]
          obtain ⟨g', cap', hv, -, -, -, hfz, hcc⟩ := OS.cells hLD.o1 (by omega)
          simp only [Value.slice.injEq, Option.some.injEq, Addr.mk.injEq, true_and, and_true] at hv
          obtain ⟨rfl, -, rfl⟩ := hv
          have R0 := hid (hcc p _ (encS_at P p old hold))
          have RF := hid (hfz p)
          have HCLP := hid hcl
          have hcu := HCUT.out j (by omega)
          rw [hC] at hcu
          have HCU := hid (hcu wr HLD.out.b)
          have hpN : (p : Int) < (k : Int) := by omega
          have hC1 : (C : Int) ≤ (xs.length : Int) := by omega
          have hC0 : (C : Int) ≤ 64 := by omega
          have hC2 : (C : Int) ≤ (old.length : Int) := by omega
          have hC3 : (xs.take C).length + (old.drop C).length ≤ 9223372036854775807 := by simp; omega
          have hE1 := ext_take xs C
          have hE2 := ext_drop old C 64 ho64
          have hltj : (j : Int) < (M : Int) := by omega
          have D0 := hid HLD.out.d0
          clear hP hx hst hcl hcp hP2 hLD hold hC hfz hcc hcu x0 x1 hw0 hw1
          go_wp2_with fail
          refine HCU.out.mono ?_
          rintro e w5 ⟨rfl, hb5⟩
          have a1 := keepc hb5 A1.out
          have d0 := keepc hb5 D0.out
          have r0 := keepc hb5 R0.out
          have HLD5 := hid (HLDP.out.below hb5)
          have rf := (hb5.frozen (p := ⟨g, p, none⟩) (World.block_lt_of_cell? _ _ R0.out)).trans RF.out
          have x0 := keepc HLD5.out.b X0.out; have x1 := keepc HLD5.out.b X1.out
          have HA0 := hid (keepc hb5 A0.out); have HA1 := hid a1
          clear hb5
          go_wp2_with fail
          go_wp2_with fail
          go_region_law (fail "x")
          all_goals
            try simp only [hE1, hE2, str_app]
            have HPG2 := hid (HLD5.out.page (s := xs.take C ++ old.drop C) HCLP.out hpk)
            obtain ⟨W7, hW7⟩ : ∃ W7, W7 = w5.setCell ⟨g, p, none⟩ (strV (xs.take C ++ old.drop C)) := ⟨_, rfl⟩
            obtain ⟨W8, hW8⟩ : ∃ W8, W8 = (w5.setCell ⟨g, p, none⟩ (strV (xs.take C ++ old.drop C))).drew := ⟨_, rfl⟩
            have hgZ : g ≠ Z := fun e => by have := (World.ownsRow.lt HLD5.out.o1 g rfl).1; have := HZD.out; omega
            have HL8 : Hid (LD w (Z + 1) D (.slice (some ⟨g, 0, none⟩) k c) (.slice none 0 0) (crashTo d.1 d.2 cuts (j + 1)) [] W8) := by unfold Hid; rw [HST.out, hW8]; exact HPG2.out.below (drew_below _)
            have HA08 : Hid (W8.cell? ⟨Z, 0, none⟩ = some (.slice o1 k c1)) := by
              unfold Hid
              rw [hW8]
              refine keepc (drew_below _) ?_
              rw [World.cell?_setCell_other _ _ _ _ (fun e => by cases e; exact hgZ rfl)]; exact HA0.out
            have HA18 : Hid (W8.cell? ⟨Z, 1, none⟩ = some (.slice (some ⟨b1, off, none⟩) M c2)) := by
              unfold Hid
              rw [hW8]
              refine keepc (drew_below _) ?_
              rw [World.cell?_setCell_other _ _ _ _ (fun e => by cases e; exact hgZ rfl)]; exact HA1.out
            clear W7 hW7
            simp only [strV] at hW8
            first | rw [← hW8] | (change Exit.inBlock _ _ _ _ (w5.setCell ⟨g, p, none⟩ (.string ⟨(xs.take C ++ old.drop C).toArray⟩)).drew; rw [← hW8])
            clear hW8 r0 rf hgZ HPG2 x0 x1 a1 d0
            go_wp2_with fail
            go_roundw
            case rel => exact ⟨j + 1, by go_num, by omega, HL8, HA08, HA18⟩
            case measure => simp [intOf]; omega
        · have hge2 : ¬ (j : Int) < (M : Int) := by omega
          have hjM : j = M := by omega
          have hfin : crashTo d.1 d.2 cuts j = (crashDk d cuts).1 := by rw [hjM, ← HM.out]; rfl
          have hLD := HLD.out
          rw [hfin] at hLD
          have HLE := hid hLD
          have d0 := hLD.d0; have d1 := hLD.d1
          obtain ⟨⟨v0, y0⟩, f0⟩ := hLD.r0
          obtain ⟨⟨v1, y1⟩, f1⟩ := hLD.r1
          have hz : Z + 1 < wr.heap.size := World.block_lt_of_cell? _ _ y0
          clear hfin hLD hjM
          go_wp2_with fail
          rw [HR.out]
          obtain ⟨e1, e2, e3⟩ := HLE.out.end
          exact bodyPost_ret (v := .tuple #[.agg #[.slice (some ⟨g, 0, none⟩) k c, .slice none 0 0], .int .i64 0]) (by simp [results, Tryz.results118, go_sem, y0, y1, f0, f1, hz]) rfl ⟨_, _, rfl, e1, e2, e3⟩
end Go.Proofs.YtifcgimpgbeocaaGreat
