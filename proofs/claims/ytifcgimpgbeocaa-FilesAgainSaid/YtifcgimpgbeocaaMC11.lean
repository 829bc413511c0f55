/- The law FilesAgain, walked. -/
import Derived.Test.YtifcgimpgbeocaaMC10
import Derived.Test.YtifcgimpgbeocaaK36
set_option linter.unusedVariables false
set_option linter.unusedSimpArgs false
namespace Go.Proofs.Ytifcgimpgbeocaa
open Go.RowKit
attribute [local go_sem] Oper.semAt_some
theorem again_plain {st : St} {T : Nat} (hg : Gone T 0 0 st) (ha : st.acts = []) (hT : T ≤ 10000) (l : List Stp) (K : Nat) (cuts : List Int) (s : St × Hist) (hs : playP st (l.take 100) = s) (hK : K ≤ s.1.acts.length) :
    Went st.dk (T + 100) 100 300000 s ∧ s.2.length ≤ 101 ∧ Acted st.dk.1.length (s.1.acts.take K) ∧
    ∃ h L data, OpenAs (crashDk ((s.1.acts.take K).foldl actDk st.dk) cuts) h L data ∧ AllowedP s.2 K data ∧ h.1 ≤ T + 100 := by
  have hm : ∃ k, k ≤ l.length ∧ k ≤ 100 ∧ l.take 100 = l.take k := by
    by_cases h : l.length ≤ 100
    · exact ⟨l.length, Nat.le_refl _, h, by rw [List.take_of_length_le h, List.take_length]⟩
    · exact ⟨100, by omega, Nat.le_refl _, rfl⟩
  obtain ⟨k, k1, k2, k3⟩ := hm
  rw [k3] at hs
  have hw := went_play hg ha l k (by omega) k1
  have hL := hist_len st l k
  rw [hs] at hw hL
  obtain ⟨h, L, data, h1, h2, h3, -⟩ := hw.told.all K cuts hK
  have ht := hw.gone.turn
  exact ⟨⟨hw.gone.mono (by omega) (by omega) (by omega), hw.told, hw.acted, hw.pages⟩, by omega, acted_take hw.acted K, h, L, data, h1, h2, by omega⟩
/-- The disk's two cells set anew. -/
theorem setY {w8 w4 : World} {Y B : Nat} {v1 v2 : Value} {d : Dk} (h1 : OS w8 B v1 d.1) (h2 : OW w8 B v2 d.2) (hY : Y < B) (c0 : OwnC w8 ⟨Y, 0, none⟩) (c1 : OwnC w8 ⟨Y, 1, none⟩) (fz : ∀ j, w8.frozen? ⟨Y, j, none⟩ = false) :
    ((w8.setCell ⟨Y, 0, none⟩ v1).setCell ⟨Y, 1, none⟩ v2).cell? ⟨Y, 0, none⟩ = some v1 ∧ ((w8.setCell ⟨Y, 0, none⟩ v1).setCell ⟨Y, 1, none⟩ v2).cell? ⟨Y, 1, none⟩ = some v2 ∧ (∀ j, ((w8.setCell ⟨Y, 0, none⟩ v1).setCell ⟨Y, 1, none⟩ v2).frozen? ⟨Y, j, none⟩ = false) ∧
      Keep (fun b => b = Y) ((w8.setCell ⟨Y, 0, none⟩ v1).setCell ⟨Y, 1, none⟩ v2) (fun x => RdS x v1 d.1) ∧ Keep (fun b => b = Y) ((w8.setCell ⟨Y, 0, none⟩ v1).setCell ⟨Y, 1, none⟩ v2) (fun x => RdW x v2 d.2) := by
  obtain ⟨⟨x0, y0⟩, -⟩ := c0
  obtain ⟨⟨x1, y1⟩, -⟩ := c1
  have hf := frm_two w8 Y 0 1 v1 v2
  have n1 := own_not h1 (U := fun b => b = Y) fun k hk => by omega
  have n2 := own_not h2 (U := fun b => b = Y) fun k hk => by omega
  refine ⟨?_, ?_, fun j => by rw [World.frozen?_setCell, World.frozen?_setCell]; exact fz j, keep_S (hf.row h1 n1) n1, keep_W (hf.row h2 n2) n2⟩
  · rw [setO _ _ _ _ _ (by decide)]; exact setF _ y0
  · exact setF (w := w8.setCell _ _) _ (by rw [setO _ _ _ _ _ (by decide)]; exact y1)
set_option maxHeartbeats 8000000 in
set_option maxRecDepth 100000 in
theorem again_law (l : List FailT) (v : Value) (w : World) (hR : RdF w v l) : Calls Try.prog 3 #[v] w (Ret (.bool true) w) := by
  have HS := hid (fun w' => sane_any w')
  have HC := hid (fun w' => create_any 8 2 w')
  have hco := create_open (n := 8) (f := 2) (by decide) (by decide)
  have hce : (createD 8 2).2 = 0 := by rw [createD_ok (by decide) (by decide)]
  rw [hce] at HC
  obtain ⟨D0, hD0⟩ : ∃ D0, (createD 8 2).1 = D0 := ⟨_, rfl⟩
  rw [hD0] at HC hco
  have HOA0 : Hid (∃ h L data, OpenAs D0 h L data ∧ h.1 ≤ 1 + 100 * 0) := ⟨_, _, _, hco, Nat.le_refl _⟩
  obtain ⟨oF, cF, rfl, hcF, hF⟩ := hR
  have HF := hid hF
  obtain ⟨N, hN⟩ : ∃ N, l.length = N := ⟨_, rfl⟩
  have HN := hid hN
  rw [hN] at hcF ⊢
  obtain ⟨n1, hn1⟩ : ∃ n1, D0.1.length = n1 := ⟨_, rfl⟩
  obtain ⟨n2, hn2⟩ : ∃ n2, D0.2.length = n2 := ⟨_, rfl⟩
  have HN1 := hid hn1; have HN2 := hid hn2
  clear hco hce hD0 hF hN hn1 hn2
  go_enter Try.func3, Try.ntmps3
  go_wp2_with fail
  refine (HS.out _).mono ?_
  rintro e w1 ⟨rfl, hb1⟩
  have HB1 : Hid (Below w.heap.size w w1) := hb1
  clear hb1
  go_wp2_with fail
  refine (HC.out _).mono ?_
  rintro e w2 ⟨up, uq, rfl, ho1, ho2, hb2⟩
  obtain ⟨o1, c1, rfl, -, -⟩ := ho1.rd
  obtain ⟨o2, c2, rfl, -, -⟩ := ho2.rd
  rw [HN1.out] at ho1; rw [HN2.out] at ho2
  simp only [HN1.out, HN2.out]
  obtain ⟨w3, hw3⟩ : ∃ w3, w3 = w2.alloc (.cells #[.slice o1 n1 c1, .slice o2 n2 c2] 27) := ⟨_, rfl⟩
  have hba : Below w2.heap.size w2 w3 := by rw [hw3]; exact balloc (Below.refl _ _) _
  have d0 : w3.cell? ⟨w2.heap.size, 0, none⟩ = some (.slice o1 n1 c1) := by rw [hw3]; exact cell_new _ _ _ 0 _ rfl
  have d1 : w3.cell? ⟨w2.heap.size, 1, none⟩ = some (.slice o2 n2 c2) := by rw [hw3]; exact cell_new _ _ _ 1 _ rfl
  have FZ : Hid (∀ j, w3.frozen? ⟨w2.heap.size, j, none⟩ = false) := fun j => by rw [hw3]; unfold World.frozen?; rw [heap_alloc_new]; simp
  have HB3 := hid (below_step hba (below_step hb2 HB1.out))
  have HK1 := hid (keep_S (U := fun b => b = w2.heap.size) (ho1.below hba) (fun k hk e => by have := (World.ownsRow.lt ho1 k hk).2; omega))
  have HK2 := hid (keep_W (U := fun b => b = w2.heap.size) (ho2.below hba) (fun k hk e => by have := (World.ownsRow.lt ho2 k hk).2; omega))
  have HYW : Hid (w.heap.size ≤ w2.heap.size) := (below_step hb2 HB1.out).size
  have D0c := hid d0; have D1c := hid d1
  have HW3 := hid hw3
  clear hw3 hba hb2 ho1 ho2 d0 d1 HB1
  go_upto_region 4 with fail
  have e := HW3.out
  rw [← e]
  clear e HW3
  obtain ⟨Y, hY⟩ : ∃ Y, w2.heap.size = Y := ⟨_, rfl⟩
  simp only [hY] at D0c D1c FZ HK1 HK2 HYW ⊢
  clear hY
  go_wp2_with fail
  go_loopw [5] (fun i wr => ∃ (k : Nat) (dk : Dk) (o1 : Option Addr) (n1 c1 : Nat) (o2 : Option Addr) (n2 c2 : Nat), i = .int .i64 (k : Int) ∧ k ≤ N ∧ k ≤ 6 ∧ Hid (∃ h L data, OpenAs dk h L data ∧ h.1 ≤ 1 + 100 * k) ∧ Hid (wr.cell? ⟨Y, 0, none⟩ = some (.slice o1 n1 c1)) ∧ Hid (wr.cell? ⟨Y, 1, none⟩ = some (.slice o2 n2 c2)) ∧ Hid (∀ j, wr.frozen? ⟨Y, j, none⟩ = false) ∧
    Hid (Keep (fun b => b = Y) wr (fun x => RdS x (.slice o1 n1 c1) dk.1)) ∧ Hid (Keep (fun b => b = Y) wr (fun x => RdW x (.slice o2 n2 c2) dk.2)) ∧ Hid (Below w.heap.size w wr)) (fun i _ => 6 - (intOf i).toNat)
  case atStart => exact ⟨0, D0, o1, n1, c1, o2, n2, c2, rfl, Nat.zero_le _, Nat.zero_le _, HOA0, D0c, D1c, FZ, HK1, HK2, HB3⟩
  case round =>
    clear HOA0 D0c D1c FZ HK1 HK2 HB3 HN1 HN2
    obtain ⟨k, dk, o1, n1, c1, o2, n2, c2, rfl, hk, hk6, HOA, D0c, D1c, FZ, HK1, HK2, HB⟩ := hrel
    by_cases hlt : k < N ∧ k < 6
    rotate_left
    · by_cases h1 : k < N
      · have h6 : ¬ (k : Int) < 6 := by omega
        go_wp2_with fail
        go_ret
        exact ⟨rfl, HB.out⟩
      · have h6 : ¬ (k : Int) < (N : Int) := by omega
        go_wp2_with fail
        go_ret
        exact ⟨rfl, HB.out⟩
    obtain ⟨hkN, hk6'⟩ := hlt
    have hkNi : (k : Int) < (N : Int) := by omega
    have hk6i : (k : Int) < 6 := by omega
    have hk0i : (0 : Int) ≤ (k : Int) := by omega
    obtain ⟨h, L, data, hoa, hturn⟩ := HOA.out
    obtain ⟨⟨⟨q1, q2, vs, at0, vc⟩, ls, cuts⟩, hq⟩ : ∃ r, l[k]? = some r := ⟨_, List.getElem?_eq_getElem (by have := HN.out; omega)⟩
    have hFF := HF.out
    rcases hFF with hq' | ⟨bF, offF, rfl, hbF, hFF⟩
    · rw [hq'] at hq; simp at hq
    obtain ⟨z0, z1, z2, z3, z4, hrs, hrc⟩ := hFF k _ hq
    simp only at z0 z1 z2 z3 z4 hrs hrc
    obtain ⟨os, cs, rfl, -, -⟩ := id hrs
    obtain ⟨oc, cc, rfl, -, -⟩ := id hrc
    obtain ⟨NS, hNS⟩ : ∃ NS, ls.length = NS := ⟨_, rfl⟩
    obtain ⟨M, hM⟩ : ∃ M, cuts.length = M := ⟨_, rfl⟩
    simp only [hNS, hM] at z2 z4 hrs hrc
    have HRS := hid (fun w' (hb : Below w.heap.size w w') => hrs.below hb)
    have HRC := hid (fun w' (hb : Below w.heap.size w w') => hrc.below hb)
    have Z2 := hid z2; have Z3 := hid z3; have Z4 := hid z4
    have hop := open_as hoa
    have HOPN := hid (open_any dk _ _ wr HK1.out.now HK2.out.now (by rw [hoa.nw]; decide))
    rw [hop] at HOPN
    have hg0 : Gone (1 + 100 * k) 0 0 ⟨dk, h, L, [], data, data, []⟩ := gone_open hoa hturn
    have hac0 : (⟨dk, h, L, [], data, data, []⟩ : St).acts = [] := rfl
    have hdk0 : (⟨dk, h, L, [], data, data, []⟩ : St).dk = dk := rfl
    obtain ⟨st0, hst0⟩ : ∃ st0, (⟨dk, h, L, [], data, data, []⟩ : St) = st0 := ⟨_, rfl⟩
    rw [hst0] at HOPN hg0 hac0 hdk0
    have HGN := hid hg0
    have HPL := hid (fun K s (hs : playP st0 (ls.take 100) = s) (hK : K ≤ s.1.acts.length) => again_plain hg0 hac0 (by omega) ls K cuts s hs hK)
    rw [hdk0] at HPL
    have HDKL := hid (And.intro hoa.dk hoa.nw)
    have HYR : Hid (Y < wr.heap.size) := World.block_lt_of_cell? _ _ D0c.out
    have d0 := D0c.out; have d1 := D1c.out
    clear hop hg0 hac0 hdk0 hst0 hoa hturn HOA hq hFF hbF hrs hrc z0 z1 z2 z3 z4 hNS hM
    go_wp2_with fail
    refine HOPN.out.mono ?_
    rintro e w1 ⟨hb1, hS, -⟩
    obtain ⟨S, U, rfl, hso, hU⟩ := hS _ rfl
    have HHO : Hid (Hold wr U S st0 w1) := ⟨hso, hb1, hU⟩
    have HB1 := hid (below_step hb1 HB.out)
    have d0 := keepc hb1 d0; have d1 := keepc hb1 d1
    have z2 : w1.cell? ⟨bF, offF + k * 5 + 2, none⟩ = some (.slice os NS cs) := keepc HB1.out Z2.out
    have HPY := hid (play_any U S st0 ls (.slice os NS cs) (1 + 100 * k) 0 0 w1 HGN.out (by omega) (by decide) (by decide) hso (HHO.out.keep0 fun w' hb => HRS.out w' (below_step hb HB.out)))
    have HYU : Hid (¬ U Y) := fun hu => by have := hU Y hu; have := HYR.out; omega
    have HY1 : Hid (Y < w1.heap.size) := by have := hb1.size; have := HYR.out; unfold Hid; omega
    have HK1b := hid (HK1.out.below hb1); have HK2b := hid (HK2.out.below hb1)
    have HFZ1 : Hid (∀ j, w1.frozen? ⟨Y, j, none⟩ = false) := fun j => (hb1.frozen (p := ⟨Y, j, none⟩) HYR.out).trans (FZ.out j)
    clear hb1 hS hso hU
    go_wp2_with fail
    refine HPY.out.mono ?_
    rintro e w2 ⟨va, vd, U2, rfl, hso2, hf2, hu2, ka, kd⟩
    obtain ⟨oA, qA, cA, eA⟩ : ∃ o n c, va = .slice o n c := by obtain ⟨o, c, e, -⟩ := ka.now; exact ⟨o, _, c, e⟩
    obtain ⟨oD, qD, cD, eD⟩ : ∃ o n c, vd = .slice o n c := by obtain ⟨o, c, e, -⟩ := kd.now; exact ⟨o, _, c, e⟩
    subst eA eD
    obtain ⟨s5, hs5⟩ : ∃ s, playP st0 (ls.take 100) = s := ⟨_, rfl⟩
    rw [hs5] at hso2 ka kd
    have HS5 := hid hs5
    have d0 := hf2.cell (a := ⟨Y, 0, none⟩) HYU.out d0
    have d1 := hf2.cell (a := ⟨Y, 1, none⟩) HYU.out d1
    have HB2 := hid (Frm.below HHO.out.b hf2 HHO.out.ge HHO.out.b.size)
    have HKA : Hid (Keep (fun b => b = Y) w2 (fun x => RdI x (.slice oA qA cA) (HA s5.2))) := fun w' hf => ka w' (hf.mono fun i _ e => .inr (by rw [e]; exact HY1.out))
    have HKD : Hid (Keep (fun b => b = Y) w2 (fun x => RdH x (.slice oD qD cD) (HDt s5.2))) := fun w' hf => kd w' (hf.mono fun i _ e => .inr (by rw [e]; exact HY1.out))
    have HSO2 := hid hso2
    have HFZ2 : Hid (∀ j, w2.frozen? ⟨Y, j, none⟩ = false) := fun j => (frozen_at (hf2.block Y HY1.out HYU.out)).trans (HFZ1.out j)
    have HY2 : Hid (Y < w2.heap.size) := by have := hf2.size; have := HY1.out; unfold Hid; omega
    obtain ⟨w3, hw3⟩ : ∃ w3, w3 = w2.alloc (.cells #[.slice oA qA cA, .slice oD qD cD] 37) := ⟨_, rfl⟩
    have hba : Below w2.heap.size w2 w3 := by rw [hw3]; exact balloc (Below.refl _ _) _
    have h0 : w3.cell? ⟨w2.heap.size, 0, none⟩ = some (.slice oA qA cA) := by rw [hw3]; exact cell_new _ _ _ 0 _ rfl
    have h1 : w3.cell? ⟨w2.heap.size, 1, none⟩ = some (.slice oD qD cD) := by rw [hw3]; exact cell_new _ _ _ 1 _ rfl
    have d0 := keepc hba d0; have d1 := keepc hba d1
    have HBA := hid hba
    have HW3 := hid hw3
    clear hw3 hba hso2 hf2 hu2 ka kd HPY z2 hs5 HHO HGN HFZ1
    go_upto_region 13 with fail
    have e := HW3.out
    rw [← e]
    clear e HW3
    obtain ⟨X, hX⟩ : ∃ X, w2.heap.size = X := ⟨_, rfl⟩
    have HXY : Hid (X ≠ Y) := fun e => by have := HY2.out; omega
    simp only [hX] at h0 h1 ⊢
    clear hX
    have hPL0 := HPL.out 0 s5 HS5.out (Nat.zero_le _)
    have HAC := hid (acts_any U2 S s5.1 w3 (HSO2.out.below HBA.out) (by have := hPL0.1.gone.acts; omega))
    obtain ⟨A, hA⟩ : ∃ A, s5.1.acts.length = A := ⟨_, rfl⟩
    have hAb : A ≤ 300000 := by rw [← hA]; exact hPL0.1.gone.acts
    have HPL5 := hid (fun K (hK : K ≤ A) => HPL.out K s5 HS5.out (by rw [hA]; exact hK))
    clear hPL0 HPL HS5
    go_wp2_with fail
    refine HAC.out.mono ?_
    rintro e w4 ⟨v4, rfl, ho4, hb4⟩
    have HR4 := hid ho4.rd
    obtain ⟨o4, c4', rfl, hc4, -⟩ := ho4.rd
    rw [hA] at hc4 HR4 ⊢
    have h0 := keepc hb4 h0; have h1 := keepc hb4 h1; have d0 := keepc hb4 d0; have d1 := keepc hb4 d1
    have HB24 := hid (below_step hb4 HBA.out)
    have HBr4 := hid (below_step HB24.out HB2.out)
    have HBw4 := hid (below_step HBr4.out HB.out)
    have z3 : w4.cell? ⟨bF, offF + k * 5 + 3, none⟩ = some (.int .i64 at0) := keepc HBw4.out Z3.out
    have z4 : w4.cell? ⟨bF, offF + k * 5 + 4, none⟩ = some (.slice oc M cc) := keepc HBw4.out Z4.out
    obtain ⟨K, hKA, u1, u2, u3⟩ := uidx2 at0 A (by omega)
    obtain ⟨hwent, hHl, hact, hh, LL, data2, hoa2, hal, hturn2⟩ := HPL5.out K hKA
    have hA2 : (s5.1.acts.take K).length ≤ 300000 := by have := List.length_take_le' K s5.1.acts; omega
    have HBH := hid (fun w' (hb : Below w4.heap.size w4 w') => behind_any dk (s5.1.acts.take K) cuts (.slice o1 n1 c1) (.slice o2 n2 c2) (.slice o4 K c4') (.slice oc M cc) w' ((HK1.out.below HBr4.out).below hb).now ((HK2.out.below HBr4.out).below hb).now ((HR4.out.take K (by rw [hA]; exact hKA)).below hb) (HRC.out w' (below_step hb HBw4.out)) HDKL.out.1 hact (by rw [HDKL.out.2]; simp; omega))
    have HAL := hid hal
    have hdn : data2.length ≤ 8 ∧ AllDs data2 := ⟨(gone_open hoa2 (Nat.le_refl _)).now8.1, (gone_open hoa2 (Nat.le_refl _)).now8.2.1⟩
    have HDN := hid hdn
    have HHL := hid hHl
    obtain ⟨DK, hDK⟩ : ∃ DK, crashDk ((s5.1.acts.take K).foldl actDk dk) cuts = DK := ⟨_, rfl⟩
    rw [hDK] at HBH hoa2
    have HOA2 := hid hoa2
    have HOA3 : Hid (∃ h L data, OpenAs DK h L data ∧ h.1 ≤ 1 + 100 * (k + 1)) := ⟨_, _, _, hoa2, by omega⟩
    obtain ⟨m1, hm1⟩ : ∃ m, DK.1.length = m := ⟨_, rfl⟩
    obtain ⟨m2, hm2⟩ : ∃ m, DK.2.length = m := ⟨_, rfl⟩
    have HM1 := hid hm1; have HM2 := hid hm2
    have hcut := fun w => run_cuthA o4 A c4' w .i64 (K : Int) (by omega) (by omega)
    simp only [Int.toNat_natCast] at hcut
    have HFZ4 : Hid (∀ j, w4.frozen? ⟨Y, j, none⟩ = false) := fun j => (HB24.out.frozen (p := ⟨Y, j, none⟩) HY2.out).trans (HFZ2.out j)
    have HY4 : Hid (Y < w4.heap.size) := by have := HB24.out.size; have := HY2.out; unfold Hid; omega
    have HKA4 := hid (HKA.out.below HB24.out); have HKD4 := hid (HKD.out.below HB24.out)
    have OY0 : OwnC w4 ⟨Y, 0, none⟩ := ⟨⟨_, d0⟩, HFZ4.out 0⟩
    have OY1 : OwnC w4 ⟨Y, 1, none⟩ := ⟨⟨_, d1⟩, HFZ4.out 1⟩
    have HOY := hid (And.intro OY0 OY1)
    have H0 := hid h0; have H1 := hid h1; have D0K := hid d0; have D1K := hid d1
    clear hb4 ho4 HAC hA hwent hact hoa2 hal HPL5 hA2 hdn hHl hDK hm1 hm2 hturn2 OY0 OY1 HB24 HKA HKD HFZ2 HY1 HY2 HK1b HK2b d0 d1 h0 h1
    go_upto_region 17 with fail
    have d0 := D0K.out; have d1 := D1K.out
    go_cut [9] (fun u9 wx => ∃ (q1 : Option Addr) (e1 : Nat) (q2 : Option Addr) (e2 : Nat), u9 = .bool true ∧ Hid (wx.cell? ⟨Y, 0, none⟩ = some (.slice q1 m1 e1)) ∧ Hid (wx.cell? ⟨Y, 1, none⟩ = some (.slice q2 m2 e2)) ∧ Hid (∀ j, wx.frozen? ⟨Y, j, none⟩ = false) ∧ Hid (Keep (fun b => b = Y) wx (fun x => RdS x (.slice q1 m1 e1) DK.1)) ∧ Hid (Keep (fun b => b = Y) wx (fun x => RdW x (.slice q2 m2 e2) DK.2)) ∧
      Hid (RdI wx (.slice oA qA cA) (HA s5.2)) ∧ Hid (RdH wx (.slice oD qD cD) (HDt s5.2)) ∧ Hid (wx.cell? ⟨X, 0, none⟩ = some (.slice oA qA cA)) ∧ Hid (wx.cell? ⟨X, 1, none⟩ = some (.slice oD qD cD)) ∧ Hid (Below w.heap.size w wx))
    case first =>
      go_region_with (go_at_call 23; refine (HBH.out _ (drew_below w4)).mono ?_; rintro e w8 ⟨x1, x2, rfl, ho1, ho2, hb8⟩; obtain ⟨q1, e1, rfl, -, -⟩ := ho1.rd; obtain ⟨q2, e2, rfl, -, -⟩ := ho2.rd; rw [HM1.out] at ho1; rw [HM2.out] at ho2; simp only [HM1.out, HM2.out]; have hb8 := below_step hb8 (drew_below w4); have HB8 := hid hb8; have own0 := keepOwn hb8 HOY.out.1; have own1 := keepOwn hb8 HOY.out.2; have OWN := hid (And.intro own0 own1); obtain ⟨⟨g0, y0⟩, f0⟩ := own0; obtain ⟨⟨g1, y1⟩, f1⟩ := own1; clear hb8)
      all_goals
        go_wp2_with fail
        go_meet
        case rel =>
          have hs := setY (w4 := w4) ho1 ho2 HY4.out OWN.out.1 OWN.out.2 (fun j => (HB8.out.frozen (p := ⟨Y, j, none⟩) HY4.out).trans (HFZ4.out j))
          have hf := frm_two w8 Y 0 1 (.slice q1 m1 e1) (.slice q2 m2 e2)
          refine ⟨q1, e1, q2, e2, rfl, hs.1, hs.2.1, hs.2.2.1, hs.2.2.2.1, hs.2.2.2.2, (HKA4.out.below HB8.out) _ hf, (HKD4.out.below HB8.out) _ hf, hf.cell (a := ⟨X, 0, none⟩) HXY.out (keepc HB8.out H0.out), hf.cell (a := ⟨X, 1, none⟩) HXY.out (keepc HB8.out H1.out), Frm.below (below_step HB8.out HBw4.out) hf (fun i hi => by rw [hi]; exact HYW.out) (below_step HB8.out HBw4.out).size⟩
    case rest =>
      obtain ⟨q1, e1, q2, e2, rfl, C0, C1, CF, HP9, HQ9, HRA, HRD, H0, H1, HB9⟩ := hcut
      have hop := open_as HOA2.out
      have HOPN2 := hid (open_any DK _ _ wc HP9.out.now HQ9.out.now (by rw [HOA2.out.nw]; decide))
      rw [hop] at HOPN2
      have c0 := C0.out; have c1 := C1.out
      have h0 := H0.out; have h1 := H1.out
      clear hop d0 d1 z3 z4 hcut
      go_wp2_with fail
      refine HOPN2.out.mono ?_
      rintro e w10 ⟨hb10, hS, -⟩
      obtain ⟨S2, U3, rfl, hso, hU2⟩ := hS _ rfl
      have h0 := keepc hb10 h0; have h1 := keepc hb10 h1
      have HB10 := hid hb10
      have HDA := hid (fun w' (hb : Below w10.heap.size w10 w') => data_any U3 S2 _ w' (hso.below hb) HDN.out.1 HDN.out.2)
      have HALW := hid (fun vx w' (hb : Below w10.heap.size w10 w') (hX : RdD w' vx data2) => allowed_any s5.2 (.slice oA qA cA) (.slice oD qD cD) vx K data2 w' (HRA.out.below (below_step hb HB10.out)) (HRD.out.below (below_step hb HB10.out)) hX HAL.out (by have := HHL.out; omega) (by omega) HDN.out.1 HDN.out.2)
      clear hso hU2 hS hb10 c0 c1
      go_upto_region 21 with fail
      refine wp_region_any (by kernel_rfl) ?_
      try (change wpAny _ _ _ _ _ _ _ (World.drew _))
      refine wpAny_take (i := 0) (v := ?_) rfl (by kernel_rfl) (by kernel_rfl) (by kernel_rfl) (fun _ _ _ h => h) (Or.inl ⟨by rfl, ?_⟩) ?_
      rotate_left
      · (intro w; go_simp; try with_reducible rfl)
      try go_simp
      refine wpAny_take (i := 1) (v := ?_) rfl (by kernel_rfl) (by kernel_rfl) (by kernel_rfl) (fun _ _ _ h => h) (Or.inl ⟨by rfl, ?_⟩) ?_
      rotate_left
      · (intro w; go_simp; try with_reducible rfl)
      try go_simp
      refine wpAny_take (i := 2) (v := ?_) rfl (by kernel_rfl) (by kernel_rfl) (by kernel_rfl) (fun _ _ _ h => h) (Or.inl ⟨by rfl, ?_⟩) ?_
      rotate_left
      · (intro w; go_simp; try with_reducible rfl)
      try go_simp
      refine wpAny_take (i := 3) (v := ?_) rfl (by kernel_rfl) (by kernel_rfl) (by kernel_rfl) (fun _ _ _ h => h) (Or.inl ⟨by rfl, ?_⟩) ?_
      rotate_left
      · (intro w; go_simp; try with_reducible rfl)
      try go_simp
      refine wpAny_take (i := 4) (v := ?_) rfl (by kernel_rfl) (by kernel_rfl) (by kernel_rfl) (fun _ _ _ h => h) (Or.inl ⟨by rfl, ?_⟩) ?_
      rotate_left
      · (intro w; go_simp; try with_reducible rfl)
      try go_simp
      refine wpAny_take (i := 5) (v := ?_) rfl (by kernel_rfl) (by kernel_rfl) (by kernel_rfl) (fun _ _ _ h => h) (Or.inl ⟨by rfl, ?_⟩) ?_
      rotate_left
      · (intro w; go_simp; try with_reducible rfl)
      try go_simp
      refine wpAny_take (i := 6) (v := ?_) rfl (by kernel_rfl) (by kernel_rfl) (by kernel_rfl) (fun _ _ _ h => h) (Or.inl ⟨by rfl, ?_⟩) ?_
      rotate_left
      · (intro w; go_simp; try with_reducible rfl)
      try go_simp
      refine wpAny_take (i := 8) (v := ?_) rfl (by kernel_rfl) (by kernel_rfl) (by kernel_rfl) (fun _ _ _ h => h) (Or.inl ⟨by rfl, ?_⟩) ?_
      rotate_left
      · (intro w; go_simp; try with_reducible rfl)
      try go_simp
      refine wpAny_take (i := 9) (v := ?_) rfl (by kernel_rfl) (by kernel_rfl) (by kernel_rfl) (fun _ _ _ h => h) (Or.inl ⟨by rfl, ?_⟩) ?_
      rotate_left
      · (intro w; go_simp; try with_reducible rfl)
      try go_simp
      refine wpAny_ready (rs := [7, 10]) (by kernel_rfl) (by simp) ?_
      refine AllReady.cons rfl (fun K hK => ?_) ?_
      · go_simp
        refine hK _ _ ?_; clear hK K
        refine wpAny_ready (rs := [10]) (by kernel_rfl) (by simp) ?_
        refine AllReady.cons rfl (fun K hK => ?_) AllReady.nil
        go_simp
        go_wp2_with (go_at_call 25; refine (HDA.out _ (drew_below w10)).mono ?_; rintro e w20 ⟨v20, rfl, ho20, hb20⟩; have HR20 := hid ho20.rd; have HB20 := hid (below_step hb20 (drew_below w10)); have h0 := keepc HB20.out h0; have h1 := keepc HB20.out h1; clear ho20 hb20)
        refine wpAny_ready (rs := [11]) (by kernel_rfl) (by simp) ?_
        refine AllReady.cons rfl (fun K hK => ?_) AllReady.nil
        go_simp
        go_wp2_with (go_at_call 24; refine (HALW.out _ _ HB20.out HR20.out).mono ?_; rintro e w21 ⟨rfl, hb21⟩; have HB21 := hid (below_step hb21 HB20.out); clear hb21)
        refine wpAny_take (i := 12) (v := ?_) rfl (by kernel_rfl) (by kernel_rfl) (by kernel_rfl) (fun _ _ _ h => h) (Or.inl ⟨by rfl, ?_⟩) ?_
        rotate_left
        · (intro w; go_simp; try with_reducible rfl)
        try go_simp
        refine wpAny_take (i := 13) (v := ?_) rfl (by kernel_rfl) (by kernel_rfl) (by kernel_rfl) (fun _ _ _ h => h) (Or.inl ⟨by rfl, ?_⟩) ?_
        rotate_left
        · (intro w; go_simp; try with_reducible rfl)
        try go_simp
        refine wpAny_done (by kernel_rfl) ?_ _
        go_wp2_with fail
        have HBE := hid (below_step HB21.out HB10.out)
        go_roundw
        case rel => exact ⟨k + 1, DK, q1, m1, e1, q2, m2, e2, by go_num, by omega, by omega, HOA3, keepc HBE.out C0.out, keepc HBE.out C1.out, fun j => (HBE.out.frozen (p := ⟨Y, j, none⟩) (by have hh := World.block_lt_of_cell? _ _ C0.out; exact hh)).trans (CF.out j), HP9.out.below HBE.out, HQ9.out.below HBE.out, below_step HBE.out HB9.out⟩
        case measure => simp [intOf]; omega
      refine AllReady.cons rfl (fun K hK => ?_) ?_
      · go_simp
        go_wp2_with (go_at_call 25; refine (HDA.out _ (drew_below w10)).mono ?_; rintro e w20 ⟨v20, rfl, ho20, hb20⟩; have HR20 := hid ho20.rd; have HB20 := hid (below_step hb20 (drew_below w10)); have h0 := keepc HB20.out h0; have h1 := keepc HB20.out h1; clear ho20 hb20)
        refine wpAny_ready (rs := [7]) (by kernel_rfl) (by simp) ?_
        refine AllReady.cons rfl (fun K hK => ?_) AllReady.nil
        go_simp
        refine hK _ _ ?_; clear hK K
        refine wpAny_ready (rs := [11]) (by kernel_rfl) (by simp) ?_
        refine AllReady.cons rfl (fun K hK => ?_) AllReady.nil
        go_simp
        go_wp2_with (go_at_call 24; refine (HALW.out _ _ HB20.out HR20.out).mono ?_; rintro e w21 ⟨rfl, hb21⟩; have HB21 := hid (below_step hb21 HB20.out); clear hb21)
        refine wpAny_take (i := 12) (v := ?_) rfl (by kernel_rfl) (by kernel_rfl) (by kernel_rfl) (fun _ _ _ h => h) (Or.inl ⟨by rfl, ?_⟩) ?_
        rotate_left
        · (intro w; go_simp; try with_reducible rfl)
        try go_simp
        refine wpAny_take (i := 13) (v := ?_) rfl (by kernel_rfl) (by kernel_rfl) (by kernel_rfl) (fun _ _ _ h => h) (Or.inl ⟨by rfl, ?_⟩) ?_
        rotate_left
        · (intro w; go_simp; try with_reducible rfl)
        try go_simp
        refine wpAny_done (by kernel_rfl) ?_ _
        go_wp2_with fail
        have HBE := hid (below_step HB21.out HB10.out)
        go_roundw
        case rel => exact ⟨k + 1, DK, q1, m1, e1, q2, m2, e2, by go_num, by omega, by omega, HOA3, keepc HBE.out C0.out, keepc HBE.out C1.out, fun j => (HBE.out.frozen (p := ⟨Y, j, none⟩) (by have hh := World.block_lt_of_cell? _ _ C0.out; exact hh)).trans (CF.out j), HP9.out.below HBE.out, HQ9.out.below HBE.out, below_step HBE.out HB9.out⟩
        case measure => simp [intOf]; omega
      exact AllReady.nil
end Go.Proofs.Ytifcgimpgbeocaa
