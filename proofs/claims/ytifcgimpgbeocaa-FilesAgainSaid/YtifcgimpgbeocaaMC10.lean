/- The law FilesSurvive, walked. -/
import Derived.Test.YtifcgimpgbeocaaK27
import Derived.Test.YtifcgimpgbeocaaK34
import Derived.Test.YtifcgimpgbeocaaK35
set_option linter.unusedVariables false
set_option linter.unusedSimpArgs false
namespace Go.Proofs.Ytifcgimpgbeocaa
open Go.RowKit
attribute [local go_sem] Oper.semAt_some
/-- int(uint(n) % uint(L+1)). -/
theorem uidx2 (n : Int) (L : Nat) (hL : L ≤ 1000000000) : ∃ K : Nat, K ≤ L ∧ IntKind.i64.wrap ((L : Int) + 1) = (L : Int) + 1 ∧ IntKind.u64.wrap ((L : Int) + 1) = (L : Int) + 1 ∧ IntKind.i64.wrap ((IntKind.u64.wrap n).tmod ((L : Int) + 1)) = (K : Int) := by
  have h1 : 0 ≤ IntKind.u64.wrap n := by rw [IntKind.wrap_u64]; omega
  have h2 := Int.tmod_eq_emod_of_nonneg (b := (L : Int) + 1) h1
  have h3 := Int.emod_nonneg (IntKind.u64.wrap n) (b := (L : Int) + 1) (by omega)
  have h4 := Int.emod_lt_of_pos (IntKind.u64.wrap n) (b := (L : Int) + 1) (by omega)
  refine ⟨(IntKind.u64.wrap n % ((L : Int) + 1)).toNat, by omega, IntWalk.i64_in _ ⟨by omega, by omega⟩, by rw [IntKind.wrap_u64]; omega, ?_⟩
  rw [h2, IntWalk.i64_in _ ⟨by omega, by omega⟩]
  omega
theorem createD_no {n f : Int} (h : ¬ ((4 ≤ n ∧ n ≤ 4096) ∧ 1 ≤ f ∧ f ≤ 8)) : createD n f = (([], []), 1) := by unfold createD; rw [if_neg h]
theorem stNew_gone {n f : Int} (hn : 4 ≤ n ∧ n ≤ 4096) (hf : 1 ≤ f ∧ f ≤ 8) : Gone 1 0 0 (stNew n f) := gone_open (create_open hn hf) (Nat.le_refl _)
theorem RdA.take {w : World} {o : Option Addr} {n c : Nat} {l : List Ac} (h : RdA w (.slice o n c) l) (m : Nat) (hm : m ≤ l.length) : RdA w (.slice o m c) (l.take m) := by
  obtain ⟨o', c', e, hc, h⟩ := h
  cases e
  refine ⟨o, c, by rw [List.length_take, Nat.min_eq_left hm], by rw [List.length_take]; omega, ?_⟩
  rcases h with h | ⟨b, off, e1, e2, h⟩
  · exact .inl (by rw [h]; simp)
  · refine .inr ⟨b, off, e1, e2, fun i r hi => h i r ?_⟩
    rw [List.getElem?_take] at hi
    split at hi
    · exact hi
    · cases hi
theorem elemAc : Try.prog.elem 45 = 104 := by kernel_rfl
theorem sliceAc : Try.prog.underlying 45 = some (.slice (Try.prog.elem 45)) := by kernel_rfl
theorem sizeOfAc (w : World) : (sizeOf 104).run Try.prog w = .ok 3 w := by kernel_rfl
theorem run_cuthA (o : Option Addr) (len cap : Nat) (w : World) (kh : IntKind) (h : Int) (h0 : 0 ≤ h) (h1 : h ≤ cap) :
    (Instr.slice 45 (.slice o len cap) none (some (.int kh h)) none).run Try.prog w = .ok (.slice o h.toNat cap) w := by
  rw [run_slice_h (t := 45) (ht := sliceAc) (kh := kh) (h := h) (h0 := h0) (h2 := h1), elemAc, sizeOfAc]
  simp only [Result.andThen, sliced, Nat.zero_mul, Nat.sub_zero]
  cases o with
  | none => split <;> simp
  | some x =>
    have e : x.add 0 = x := by cases x; simp [Addr.add]
    split <;> simp [e]
/-- What a played script and a crash leave. -/
theorem survive_plain {n f : Int} (hn : 4 ≤ n ∧ n ≤ 4096) (hf : 1 ≤ f ∧ f ≤ 8) (l : List Stp) (K : Nat) (cuts : List Int) (s : St × Hist) (hs : playP (stNew n f) (l.take 100) = s) (hK : K ≤ s.1.acts.length) :
    Went (stNew n f).dk 200 200 300000 s ∧ allH s.2 ∧ s.2.length ≤ 101 ∧ Acted (stNew n f).dk.1.length (s.1.acts.take K) ∧ isDk (stNew n f).dk = true ∧ (stNew n f).dk.2.length = 0 ∧
    ∃ h L data, OpenAs (crashDk ((s.1.acts.take K).foldl actDk (stNew n f).dk) cuts) h L data ∧ AllowedP s.2 K data := by
  have hg := stNew_gone hn hf
  have hm : ∃ k, k ≤ l.length ∧ k ≤ 100 ∧ l.take 100 = l.take k := by
    by_cases h : l.length ≤ 100
    · exact ⟨l.length, Nat.le_refl _, h, by rw [List.take_of_length_le h, List.take_length]⟩
    · exact ⟨100, by omega, Nat.le_refl _, rfl⟩
  obtain ⟨k, k1, k2, k3⟩ := hm
  rw [k3] at hs
  have hw := went_play hg rfl l k (by omega) k1
  have hH := allH_play hg l k (by omega) k1
  have hL := hist_len (stNew n f) l k
  rw [hs] at hw hH hL
  have hc := create_open hn hf
  refine ⟨⟨hw.gone.mono (by omega) (by omega) (by omega), hw.told, hw.acted, hw.pages⟩, hH, by omega, acted_take hw.acted K, hc.dk, by rw [show (stNew n f).dk = (createD n f).1 from rfl, createD_ok hn hf]; rfl, ?_⟩
  obtain ⟨h, L, data, h1, h2, -⟩ := hw.told.all K cuts hK
  exact ⟨h, L, data, h1, h2⟩
theorem cutA {w7 w8 : World} {Y B : Nat} {v1 v2 : Value} {d : Dk} (h1 : OS w8 B v1 d.1) (h2 : OW w8 B v2 d.2) (hb : Below w7.heap.size w7 w8) (hY : w7.heap.size ≤ Y) (hB : Y < B) (c0 : OwnC w8 ⟨Y, 0, none⟩) (c1 : OwnC w8 ⟨Y, 1, none⟩) :
    ((w8.setCell ⟨Y, 0, none⟩ v1).setCell ⟨Y, 1, none⟩ v2).cell? ⟨Y, 0, none⟩ = some v1 ∧ ((w8.setCell ⟨Y, 0, none⟩ v1).setCell ⟨Y, 1, none⟩ v2).cell? ⟨Y, 1, none⟩ = some v2 ∧ RdS ((w8.setCell ⟨Y, 0, none⟩ v1).setCell ⟨Y, 1, none⟩ v2) v1 d.1 ∧ RdW ((w8.setCell ⟨Y, 0, none⟩ v1).setCell ⟨Y, 1, none⟩ v2) v2 d.2 ∧ Below w7.heap.size w7 ((w8.setCell ⟨Y, 0, none⟩ v1).setCell ⟨Y, 1, none⟩ v2) := by
  obtain ⟨⟨x0, y0⟩, -⟩ := c0
  obtain ⟨⟨x1, y1⟩, -⟩ := c1
  have hf := frm_two w8 Y 0 1 v1 v2
  refine ⟨?_, ?_, OS.rd (B := B) (hf.row h1 (own_not h1 fun k hk => by omega)), OW.rd (B := B) (hf.row h2 (own_not h2 fun k hk => by omega)), Frm.below hb hf (fun k hk => by omega) hb.size⟩
  · rw [setO _ _ _ _ _ (by decide)]; exact setF _ y0
  · exact setF (w := w8.setCell _ _) _ (by rw [setO _ _ _ _ _ (by decide)]; exact y1)
theorem cutPB {w7 w8 : World} {B : Nat} {v1 v2 : Value} {d : Dk} (h1 : OS w8 B v1 d.1) (h2 : OW w8 B v2 d.2) (hb : Below w7.heap.size w7 w8) :
    (w8.alloc (.cells #[v1, v2] 27)).cell? ⟨w8.heap.size, 0, none⟩ = some v1 ∧ (w8.alloc (.cells #[v1, v2] 27)).cell? ⟨w8.heap.size, 1, none⟩ = some v2 ∧ RdS (w8.alloc (.cells #[v1, v2] 27)) v1 d.1 ∧ RdW (w8.alloc (.cells #[v1, v2] 27)) v2 d.2 ∧ Below w7.heap.size w7 (w8.alloc (.cells #[v1, v2] 27)) := by
  have hba := balloc (Below.refl w8.heap.size w8) (.cells #[v1, v2] 27)
  exact ⟨cell_new _ _ _ 0 _ rfl, cell_new _ _ _ 1 _ rfl, h1.rd.below hba, h2.rd.below hba, below_step hba hb⟩
set_option maxHeartbeats 8000000 in
set_option maxRecDepth 100000 in
theorem survive_law (p f : Int) (v : Value) (l : List Stp) (at0 : Int) (vc : Value) (cuts : List Int) (w : World) (hR : RdSt w v l) (hC : RdI w vc cuts) :
    Calls Try.prog 17 #[.agg #[.int .i64 p, .int .i64 f, v, .int .i64 at0, vc]] w (Ret (.bool true) w) := by
  have HS := hid (fun w' => sane_any w')
  have HRS := hid (fun w' (hb : Below w.heap.size w w') => hR.below hb)
  have HRC := hid (fun w' (hb : Below w.heap.size w w') => hC.below hb)
  obtain ⟨os, cs, rfl, -, -⟩ := id hR
  obtain ⟨oc, cc, rfl, -, -⟩ := id hC
  obtain ⟨N, hN⟩ : ∃ N, l.length = N := ⟨_, rfl⟩
  obtain ⟨M, hM⟩ : ∃ M, cuts.length = M := ⟨_, rfl⟩
  simp only [hN, hM] at HRS HRC ⊢
  have HFI := hid (fun w' => fits_any p f os N cs w')
  obtain ⟨W, hW⟩ : ∃ W, W = w.alloc (.cells #[.int .i64 p, .int .i64 f, .slice os N cs, .int .i64 at0, .slice oc M cc] 44) := ⟨_, rfl⟩
  have HBW : Hid (Below w.heap.size w W) := by rw [hW]; exact balloc (Below.refl _ _) _
  have KK : Hid (∀ j u, #[.int .i64 p, .int .i64 f, .slice os N cs, .int .i64 at0, .slice oc M cc][j]? = some u → W.cell? ⟨w.heap.size, j, none⟩ = some u) := fun j u hj => by rw [hW]; exact cell_new _ _ _ j _ hj
  have HW := hid hW
  clear hW hN hM hR hC
  by_cases hfit : (4 ≤ p ∧ p ≤ 4096) ∧ 1 ≤ f ∧ f ≤ 8
  rotate_left
  · have hd : decide ((4 ≤ p ∧ p ≤ 4096) ∧ 1 ≤ f ∧ f ≤ 8) = false := by simpa using hfit
    rw [hd] at HFI
    have HC1 := hid (fun w' => create_any p f w')
    rw [createD_no hfit] at HC1
    clear hd hfit HRS HRC
    go_enter Try.func17, Try.ntmps17
    go_upto_region 1 with fail
    have e := HW.out
    simp only [← e]
    clear e HW
    go_wp2_with fail
    refine (HS.out _).mono ?_
    rintro e w1 ⟨rfl, hb1⟩
    have HB1 : Hid (Below W.heap.size W w1) := hb1
    have c0 := keepc hb1 (KK.out 0 _ rfl); have c1 := keepc hb1 (KK.out 1 _ rfl); have c2 := keepc hb1 (KK.out 2 _ rfl)
    clear hb1
    go_wp2_with fail
    refine (HFI.out _).mono ?_
    rintro e w2 ⟨rfl, hb2⟩
    have HB2 := hid (below_step hb2 HB1.out)
    have c0 := keepc hb2 c0; have c1 := keepc hb2 c1
    clear hb2 c2
    go_wp2_with fail
    refine (HC1.out _).mono ?_
    rintro e w3 ⟨up, uq, rfl, ho1, ho2, hb3⟩
    obtain ⟨o1, c1', rfl, -, -⟩ := ho1.rd
    obtain ⟨o2, c2', rfl, -, -⟩ := ho2.rd
    have hb4 := balloc (below_step hb3 (Below.refl w2.heap.size w2)) (.cells #[.slice o1 0 c1', .slice o2 0 c2'] 27)
    have HB4 := hid (below_step (below_step hb4 HB2.out) HBW.out)
    clear hb3 hb4 ho1 ho2
    go_wp2_with fail
    go_ret
    exact ⟨rfl, HB4.out⟩
  have hd : decide ((4 ≤ p ∧ p ≤ 4096) ∧ 1 ≤ f ∧ f ≤ 8) = true := by simpa using hfit
  rw [hd] at HFI
  have HOP := hid (fun w' => opened_any p f w' hfit.1 hfit.2)
  have HPL := hid (fun K s (hs : playP (stNew p f) (l.take 100) = s) (hK : K ≤ s.1.acts.length) => survive_plain hfit.1 hfit.2 l K cuts s hs hK)
  have HGN := hid (stNew_gone hfit.1 hfit.2)
  obtain ⟨st0, hst0⟩ : ∃ st0, stNew p f = st0 := ⟨_, rfl⟩
  simp only [hst0] at HOP HPL HGN
  clear hd hfit hst0
  go_enter Try.func17, Try.ntmps17
  go_upto_region 1 with fail
  have e := HW.out
  simp only [← e]
  clear e HW
  obtain ⟨Z, hZ⟩ : ∃ Z, w.heap.size = Z := ⟨_, rfl⟩
  have HZ := hid hZ
  simp only [hZ] at KK ⊢
  clear hZ
  go_wp2_with fail
  refine (HS.out _).mono ?_
  rintro e w1 ⟨rfl, hb1⟩
  have HB1 : Hid (Below W.heap.size W w1) := hb1
  have c0 := keepc hb1 (KK.out 0 _ rfl); have c1 := keepc hb1 (KK.out 1 _ rfl); have c2 := keepc hb1 (KK.out 2 _ rfl)
  clear hb1
  go_wp2_with fail
  refine (HFI.out _).mono ?_
  rintro e w2 ⟨rfl, hb2⟩
  have HB2 := hid (below_step hb2 HB1.out)
  have c0 := keepc hb2 c0; have c1 := keepc hb2 c1
  clear hb2 c2
  go_wp2_with fail
  refine (HOP.out _).mono ?_
  rintro e w3 ⟨S, U, up, uq, rfl, hold, kp, kq⟩
  obtain ⟨o1, k1, rfl, -, -⟩ := kp.now
  obtain ⟨o2, k2, rfl, -, -⟩ := kq.now
  obtain ⟨n1, hn1⟩ : ∃ n1, st0.dk.1.length = n1 := ⟨_, rfl⟩
  obtain ⟨n2, hn2⟩ : ∃ n2, st0.dk.2.length = n2 := ⟨_, rfl⟩
  simp only [hn1, hn2] at kp kq ⊢
  obtain ⟨w4, hw4⟩ : ∃ w4, w4 = w3.alloc (.cells #[.slice o1 n1 k1, .slice o2 n2 k2] 27) := ⟨_, rfl⟩
  have hba : Below w3.heap.size w3 w4 := by rw [hw4]; exact balloc (Below.refl _ _) _
  have HHO := hid (hold.below hba)
  have HKP := hid (kp.below hba); have HKQ := hid (kq.below hba)
  have d0 : w4.cell? ⟨w3.heap.size, 0, none⟩ = some (.slice o1 n1 k1) := by rw [hw4]; exact cell_new _ _ _ 0 _ rfl
  have d1 : w4.cell? ⟨w3.heap.size, 1, none⟩ = some (.slice o2 n2 k2) := by rw [hw4]; exact cell_new _ _ _ 1 _ rfl
  have HU3 : Hid (∀ k, U k → k < w3.heap.size) := hold.so.ult
  have HW4 := hid hw4
  have HBH := hid (below_step HHO.out.b HB2.out)
  have c2 := keepc HBH.out (KK.out 2 _ rfl)
  clear hw4 hba hold kp kq c0 c1 hn1 hn2
  go_upto_region 7 with fail
  have e := HW4.out
  rw [← e]
  clear e HW4
  obtain ⟨Y, hY⟩ : ∃ Y, w3.heap.size = Y := ⟨_, rfl⟩
  simp only [hY] at d0 d1 HU3 ⊢
  clear hY
  have HPY := hid (play_any U S st0 l (.slice os N cs) 1 0 0 w4 HGN.out (by decide) (by decide) (by decide) HHO.out.so (HHO.out.keep0 fun w' hb => HRS.out w' (below_step hb (below_step HB2.out HBW.out))))
  go_wp2_with fail
  refine HPY.out.mono ?_
  rintro e w5 ⟨va, vd, U5, rfl, hso5, hf5, hu5, ka, kd⟩
  obtain ⟨oA, qA, cA, eA⟩ : ∃ o n c, va = .slice o n c := by obtain ⟨o, c, e, -⟩ := ka.now; exact ⟨o, _, c, e⟩
  obtain ⟨oD, qD, cD, eD⟩ : ∃ o n c, vd = .slice o n c := by obtain ⟨o, c, e, -⟩ := kd.now; exact ⟨o, _, c, e⟩
  subst eA eD
  obtain ⟨s5, hs5⟩ : ∃ s, playP st0 (l.take 100) = s := ⟨_, rfl⟩
  rw [hs5] at hso5 ka kd
  have HS5 := hid hs5
  have hYU : ¬ U Y := fun hk => by have := HU3.out Y hk; omega
  have d0 := hf5.cell (a := ⟨Y, 0, none⟩) hYU d0
  have d1 := hf5.cell (a := ⟨Y, 1, none⟩) hYU d1
  have HB5 := hid (Frm.below HHO.out.b hf5 HHO.out.ge HHO.out.b.size)
  have HKP5 := hid (HKP.out.step hf5 hu5).now; have HKQ5 := hid (HKQ.out.step hf5 hu5).now
  have HKA := hid ka.now; have HKD := hid kd.now; have HSO5 := hid hso5
  obtain ⟨w6, hw6⟩ : ∃ w6, w6 = w5.alloc (.cells #[.slice oA qA cA, .slice oD qD cD] 37) := ⟨_, rfl⟩
  have hba : Below w5.heap.size w5 w6 := by rw [hw6]; exact balloc (Below.refl _ _) _
  have h0 : w6.cell? ⟨w5.heap.size, 0, none⟩ = some (.slice oA qA cA) := by rw [hw6]; exact cell_new _ _ _ 0 _ rfl
  have h1 : w6.cell? ⟨w5.heap.size, 1, none⟩ = some (.slice oD qD cD) := by rw [hw6]; exact cell_new _ _ _ 1 _ rfl
  have d0 := keepc hba d0; have d1 := keepc hba d1
  have HBA := hid hba
  have HW6 := hid hw6
  clear hw6 hba hso5 hf5 hu5 ka kd hYU HPY HU3 HKP HKQ HHO c2 hs5 HBH HGN
  go_upto_region 10 with fail
  have e := HW6.out
  rw [← e]
  clear e HW6
  obtain ⟨X, hX⟩ : ∃ X, w5.heap.size = X := ⟨_, rfl⟩
  simp only [hX] at h0 h1 ⊢
  clear hX
  have HB6 := hid (below_step HBA.out HB5.out)
  have hPL0 := HPL.out 0 s5 HS5.out (Nat.zero_le _)
  have HAC := hid (acts_any U5 S s5.1 w6 (HSO5.out.below HBA.out) (by have := hPL0.1.gone.acts; omega))
  obtain ⟨A, hA⟩ : ∃ A, s5.1.acts.length = A := ⟨_, rfl⟩
  have hAb : A ≤ 300000 := by rw [← hA]; exact hPL0.1.gone.acts
  have HPL5 := hid (fun K (hK : K ≤ A) => HPL.out K s5 HS5.out (by rw [hA]; exact hK))
  have HH5 := hid (And.intro hPL0.2.1 hPL0.2.2.1)
  clear hPL0 HPL HS5
  go_wp2_with fail
  refine HAC.out.mono ?_
  rintro e w7 ⟨v7, rfl, ho7, hb7⟩
  have HR7 := hid ho7.rd
  obtain ⟨o7, c7, rfl, hc7, -⟩ := ho7.rd
  rw [hA] at hc7 HR7 ⊢
  have HB7 := hid (below_step hb7 HB6.out)
  have h0 := keepc hb7 h0; have h1 := keepc hb7 h1; have d0 := keepc hb7 d0; have d1 := keepc hb7 d1
  have HB57 := hid (below_step hb7 HBA.out)
  have HB2_7 := hid (below_step HB7.out HB2.out)
  have c3 := keepc HB2_7.out (KK.out 3 _ rfl)
  have c4 : w7.cell? ⟨Z, 4, none⟩ = some (.slice oc M cc) := keepc HB2_7.out (KK.out 4 _ rfl)
  obtain ⟨K, hKA, u1, u2, u3⟩ := uidx2 at0 A (by omega)
  obtain ⟨hwent, hallH, hHl, hact, hdk, hdk2, hh, LL, data, hoa, hal⟩ := HPL5.out K hKA
  have hA2 : (s5.1.acts.take K).length ≤ 300000 := by have := List.length_take_le' K s5.1.acts; omega
  have HBH := hid (fun w' (hb : Below w7.heap.size w7 w') => behind_any st0.dk (s5.1.acts.take K) cuts (.slice o1 n1 k1) (.slice o2 n2 k2) (.slice o7 K c7) (.slice oc M cc) w' ((HKP5.out.below HB57.out).below hb) ((HKQ5.out.below HB57.out).below hb) ((HR7.out.take K (by rw [hA]; exact hKA)).below hb) (HRC.out w' (below_step hb (below_step HB2_7.out HBW.out))) hdk hact (by omega))
  have HOA := hid hoa; have HAL := hid hal; have HNB := hid (isDk_len hoa.dk)
  have hdne : data.length ≤ 8 ∧ AllDs data := by
    have hg := gone_open hoa (Nat.le_refl _)
    exact ⟨hg.now8.1, hg.now8.2.1⟩
  have HDN := hid hdne
  have HHL := hid hHl
  have hcut := fun w => run_cuthA o7 A c7 w .i64 (K : Int) (by omega) (by omega)
  simp only [Int.toNat_natCast] at hcut
  clear hb7 ho7 HAC hA hwent hallH hact hdk hdk2 hoa hal HPL5 hA2 hdne hHl
  obtain ⟨DK, hDK⟩ : ∃ DK, crashDk ((s5.1.acts.take K).foldl actDk st0.dk) cuts = DK := ⟨_, rfl⟩
  simp only [hDK] at HBH HOA HNB
  clear hDK
  obtain ⟨m1, hm1⟩ : ∃ m, DK.1.length = m := ⟨_, rfl⟩
  obtain ⟨m2, hm2⟩ : ∃ m, DK.2.length = m := ⟨_, rfl⟩
  have HM1 := hid hm1; have HM2 := hid hm2
  have hba := balloc (Below.refl w7.heap.size w7) (.cells #[.slice none 0 0, .slice none 0 0] 27)
  have D0 := hid (keepc hba d0); have D1 := hid (keepc hba d1); have C4 := hid (keepc hba c4)
  have HBA7 := hid hba.drew
  clear hm1 hm2 hba
  go_upto_region 14 with fail
  have d0a := D0.out; have d1a := D1.out; have c4a := C4.out
  go_cut [11, 7] (fun u11 u7 wx => ∃ (Y2 : Nat) (q1 : Option Addr) (e1 : Nat) (q2 : Option Addr) (e2 : Nat), u11 = .pointer (some ⟨Y2, 0, none⟩) ∧ u7 = .bool true ∧ Hid (wx.cell? ⟨Y2, 0, none⟩ = some (.slice q1 m1 e1)) ∧ Hid (wx.cell? ⟨Y2, 1, none⟩ = some (.slice q2 m2 e2)) ∧ Hid (RdS wx (.slice q1 m1 e1) DK.1) ∧ Hid (RdW wx (.slice q2 m2 e2) DK.2) ∧ Hid (Below w7.heap.size w7 wx))
  case first =>
    go_region_with (go_at_call 23; refine (HBH.out _ (by first | exact drew_below w7 | exact HBA7.out)).mono ?_; rintro e w8 ⟨x1, x2, rfl, ho1, ho2, hb8⟩; obtain ⟨q1, e1, rfl, -, -⟩ := ho1.rd; obtain ⟨q2, e2, rfl, -, -⟩ := ho2.rd; rw [HM1.out] at ho1; rw [HM2.out] at ho2; simp only [HM1.out, HM2.out]; (first | (have own0 : OwnC w8 ⟨w7.heap.size, 0, none⟩ := keepOwn hb8 (keepOwn (drew_below _) (ownc_new w7 #[.slice none 0 0, .slice none 0 0] 27 0 (by decide))); have own1 : OwnC w8 ⟨w7.heap.size, 1, none⟩ := keepOwn hb8 (keepOwn (drew_below _) (ownc_new w7 #[.slice none 0 0, .slice none 0 0] 27 1 (by decide))); have OWN := hid (And.intro own0 own1); obtain ⟨⟨z0, y0⟩, f0⟩ := own0; obtain ⟨⟨z1, y1⟩, f1⟩ := own1; have HB8 := hid (below_step hb8 HBA7.out)) | (have HB8 := hid (below_step hb8 (drew_below w7)))); clear hb8)
    all_goals
      go_wp2_with fail
      go_meet
      case rel => first | exact ⟨_, q1, e1, q2, e2, rfl, rfl, cutPB ho1 ho2 HB8.out⟩ | exact ⟨_, q1, e1, q2, e2, rfl, rfl, cutA ho1 ho2 HB8.out (Nat.le_refl _) (by show w7.heap.size < (w7.alloc (.cells #[.slice none 0 0, .slice none 0 0] 27)).heap.size; rw [World.size_alloc]; exact Nat.lt_succ_self _) OWN.out.1 OWN.out.2⟩
  case rest =>
    obtain ⟨Y2, q1, e1, q2, e2, rfl, rfl, C0, C1, HP9, HQ9, HB9⟩ := hcut
    have hop := open_as HOA.out
    have HOPN := hid (open_any DK _ _ wc HP9.out HQ9.out (by rw [HOA.out.nw]; decide))
    rw [hop] at HOPN
    have c0 := C0.out; have c1 := C1.out
    have h0 := keepc HB9.out h0; have h1 := keepc HB9.out h1
    clear hop d0 d1 d0a d1a c3 c4 c4a hcut
    go_wp2_with fail
    refine HOPN.out.mono ?_
    rintro e w10 ⟨hb10, hS, -⟩
    obtain ⟨S2, U2, rfl, hso, hU2⟩ := hS _ rfl
    have h0 := keepc hb10 h0; have h1 := keepc hb10 h1
    have HB10 := hid (below_step hb10 HB9.out)
    have HT := hid (below_step (below_step HB10.out HB2_7.out) HBW.out)
    have HDA := hid (fun w' (hb : Below w10.heap.size w10 w') => data_any U2 S2 _ w' (hso.below hb) HDN.out.1 HDN.out.2)
    have HKE := hid (fun w' (hb : Below w10.heap.size w10 w') => kept_any U2 S2 _ w' (hso.below hb) HDN.out.1 HDN.out.2)
    have HALW := hid (fun vx w' (hb : Below w10.heap.size w10 w') (hX : RdD w' vx data) => allowed_any s5.2 (.slice oA qA cA) (.slice oD qD cD) vx K data w' ((HKA.out.below HB57.out).below (below_step hb HB10.out)) ((HKD.out.below HB57.out).below (below_step hb HB10.out)) hX HAL.out (by have := HHL.out; omega) (by omega) HDN.out.1 HDN.out.2)
    have HSM := hid (fun u x w' (h1 : RdD w' u data) (h2 : RdD w' x data) => rsameall_any data data u x w' h1 h2 (by have := HDN.out.1; unfold maxLen; omega) (fun d hd => by have := isDs_len (HDN.out.2 d hd); unfold maxLen; omega))
    simp only [decide_true] at HSM
    clear hso hU2 hS hb10 c0 c1 C0 C1
    go_upto_region 18 with fail
    refine wp_region_any (by kernel_rfl) ?_
    try (change wpAny _ _ _ _ _ _ _ (World.drew _))
    refine wpAny_take (i := 0) (v := ?_) rfl (by kernel_rfl) (by kernel_rfl) (by kernel_rfl) (fun _ _ _ h => h) (Or.inl ⟨by rfl, ?_⟩) ?_
    rotate_left
    · (intro w; go_simp; try with_reducible rfl)
    try go_simp
    refine wpAny_take (i := 1) (v := ?_) rfl (by kernel_rfl) (by kernel_rfl) (by kernel_rfl) (fun _ _ _ h => h) (Or.inl ⟨by rfl, ?_⟩) ?_
    rotate_left
    · (intro w; go_simp; try with_reducible rfl)
    try go_simp
    refine wpAny_take (i := 2) (v := ?_) rfl (by kernel_rfl) (by kernel_rfl) (by kernel_rfl) (fun _ _ _ h => h) (Or.inl ⟨by rfl, ?_⟩) ?_
    rotate_left
    · (intro w; go_simp; try with_reducible rfl)
    try go_simp
    refine wpAny_take (i := 3) (v := ?_) rfl (by kernel_rfl) (by kernel_rfl) (by kernel_rfl) (fun _ _ _ h => h) (Or.inl ⟨by rfl, ?_⟩) ?_
    rotate_left
    · (intro w; go_simp; try with_reducible rfl)
    try go_simp
    refine wpAny_take (i := 4) (v := ?_) rfl (by kernel_rfl) (by kernel_rfl) (by kernel_rfl) (fun _ _ _ h => h) (Or.inl ⟨by rfl, ?_⟩) ?_
    rotate_left
    · (intro w; go_simp; try with_reducible rfl)
    try go_simp
    refine wpAny_take (i := 5) (v := ?_) rfl (by kernel_rfl) (by kernel_rfl) (by kernel_rfl) (fun _ _ _ h => h) (Or.inl ⟨by rfl, ?_⟩) ?_
    rotate_left
    · (intro w; go_simp; try with_reducible rfl)
    try go_simp
    refine wpAny_take (i := 6) (v := ?_) rfl (by kernel_rfl) (by kernel_rfl) (by kernel_rfl) (fun _ _ _ h => h) (Or.inl ⟨by rfl, ?_⟩) ?_
    rotate_left
    · (intro w; go_simp; try with_reducible rfl)
    try go_simp
    refine wpAny_take (i := 8) (v := ?_) rfl (by kernel_rfl) (by kernel_rfl) (by kernel_rfl) (fun _ _ _ h => h) (Or.inl ⟨by rfl, ?_⟩) ?_
    rotate_left
    · (intro w; go_simp; try with_reducible rfl)
    try go_simp
    refine wpAny_take (i := 9) (v := ?_) rfl (by kernel_rfl) (by kernel_rfl) (by kernel_rfl) (fun _ _ _ h => h) (Or.inl ⟨by rfl, ?_⟩) ?_
    rotate_left
    · (intro w; go_simp; try with_reducible rfl)
    try go_simp
    refine wpAny_ready (rs := [7, 10]) (by kernel_rfl) (by simp) ?_
    refine AllReady.cons rfl (fun K hK => ?_) ?_
    · go_simp
      refine hK _ _ ?_; clear hK K
      refine wpAny_ready (rs := [10]) (by kernel_rfl) (by simp) ?_
      refine AllReady.cons rfl (fun K hK => ?_) AllReady.nil
      go_simp
      go_wp2_with (go_at_call 25; refine (HDA.out _ (drew_below w10)).mono ?_; rintro e w20 ⟨v20, rfl, ho20, hb20⟩; have HR20 := hid ho20.rd; have HB20 := hid (below_step hb20 (drew_below w10)); have h0 := keepc HB20.out h0; have h1 := keepc HB20.out h1; clear ho20 hb20)
      refine wpAny_ready (rs := [11]) (by kernel_rfl) (by simp) ?_
      refine AllReady.cons rfl (fun K hK => ?_) AllReady.nil
      go_simp
      go_wp2_with (go_at_call 24; refine (HALW.out _ _ HB20.out HR20.out).mono ?_; rintro e w21 ⟨rfl, hb21⟩; have HB21 := hid (below_step hb21 HB20.out); clear hb21)
      refine wpAny_take (i := 12) (v := ?_) rfl (by kernel_rfl) (by kernel_rfl) (by kernel_rfl) (fun _ _ _ h => h) (Or.inl ⟨by rfl, ?_⟩) ?_
      rotate_left
      · (intro w; go_simp; try with_reducible rfl)
      try go_simp
      refine wpAny_take (i := 13) (v := ?_) rfl (by kernel_rfl) (by kernel_rfl) (by kernel_rfl) (fun _ _ _ h => h) (Or.inl ⟨by rfl, ?_⟩) ?_
      rotate_left
      · (intro w; go_simp; try with_reducible rfl)
      try go_simp
      refine wpAny_take (i := 14) (v := ?_) rfl (by kernel_rfl) (by kernel_rfl) (by kernel_rfl) (fun _ _ _ h => h) (Or.inl ⟨by rfl, ?_⟩) ?_
      rotate_left
      · (intro w; go_simp; try with_reducible rfl)
      try go_simp
      refine wpAny_take (i := 16) (v := ?_) rfl (by kernel_rfl) (by kernel_rfl) (by kernel_rfl) (fun _ _ _ h => h) (Or.inl ⟨by rfl, ?_⟩) ?_
      rotate_left
      · (intro w; go_simp; try with_reducible rfl)
      try go_simp
      refine wpAny_ready (rs := [15]) (by kernel_rfl) (by simp) ?_
      refine AllReady.cons rfl (fun K hK => ?_) AllReady.nil
      go_simp
      go_wp2_with (go_at_call 25; refine (HDA.out _ HB21.out).mono ?_; rintro e w22 ⟨v22, rfl, ho22, hb22⟩; have HR22 := hid ho22.rd; have HB22 := hid (below_step hb22 HB21.out); clear ho22 hb22)
      refine wpAny_ready (rs := [17]) (by kernel_rfl) (by simp) ?_
      refine AllReady.cons rfl (fun K hK => ?_) AllReady.nil
      go_simp
      go_wp2_with (go_at_call 28; refine (HKE.out _ HB22.out).mono ?_; rintro e w23 ⟨v23, rfl, ho23, hb23⟩; have HR23 := hid ho23.rd; have HR22 := hid (HR22.out.below hb23); have HB23 := hid (below_step hb23 HB22.out); clear ho23 hb23)
      refine wpAny_ready (rs := [18]) (by kernel_rfl) (by simp) ?_
      refine AllReady.cons rfl (fun K hK => ?_) AllReady.nil
      go_simp
      go_wp2_with (go_at_call 32; refine (HSM.out _ _ _ HR22.out HR23.out).mono ?_; rintro e w24 ⟨rfl, hb24⟩; have HB24 := hid (below_step hb24 HB23.out); clear hb24)
      refine wpAny_take (i := 19) (v := ?_) rfl (by kernel_rfl) (by kernel_rfl) (by kernel_rfl) (fun _ _ _ h => h) (Or.inl ⟨by rfl, ?_⟩) ?_
      rotate_left
      · (intro w; go_simp; try with_reducible rfl)
      try go_simp
      refine wpAny_take (i := 20) (v := ?_) rfl (by kernel_rfl) (by kernel_rfl) (by kernel_rfl) (fun _ _ _ h => h) (Or.inl ⟨by rfl, ?_⟩) ?_
      rotate_left
      · (intro w; go_simp; try with_reducible rfl)
      try go_simp
      refine wpAny_done (by kernel_rfl) ?_ _
      go_wp2_with fail
      go_ret
      exact ⟨rfl, below_step HB24.out HT.out⟩
    refine AllReady.cons rfl (fun K hK => ?_) ?_
    · go_simp
      go_wp2_with (go_at_call 25; refine (HDA.out _ (drew_below w10)).mono ?_; rintro e w20 ⟨v20, rfl, ho20, hb20⟩; have HR20 := hid ho20.rd; have HB20 := hid (below_step hb20 (drew_below w10)); have h0 := keepc HB20.out h0; have h1 := keepc HB20.out h1; clear ho20 hb20)
      refine wpAny_ready (rs := [7]) (by kernel_rfl) (by simp) ?_
      refine AllReady.cons rfl (fun K hK => ?_) AllReady.nil
      go_simp
      refine hK _ _ ?_; clear hK K
      refine wpAny_ready (rs := [11]) (by kernel_rfl) (by simp) ?_
      refine AllReady.cons rfl (fun K hK => ?_) AllReady.nil
      go_simp
      go_wp2_with (go_at_call 24; refine (HALW.out _ _ HB20.out HR20.out).mono ?_; rintro e w21 ⟨rfl, hb21⟩; have HB21 := hid (below_step hb21 HB20.out); clear hb21)
      refine wpAny_take (i := 12) (v := ?_) rfl (by kernel_rfl) (by kernel_rfl) (by kernel_rfl) (fun _ _ _ h => h) (Or.inl ⟨by rfl, ?_⟩) ?_
      rotate_left
      · (intro w; go_simp; try with_reducible rfl)
      try go_simp
      refine wpAny_take (i := 13) (v := ?_) rfl (by kernel_rfl) (by kernel_rfl) (by kernel_rfl) (fun _ _ _ h => h) (Or.inl ⟨by rfl, ?_⟩) ?_
      rotate_left
      · (intro w; go_simp; try with_reducible rfl)
      try go_simp
      refine wpAny_take (i := 14) (v := ?_) rfl (by kernel_rfl) (by kernel_rfl) (by kernel_rfl) (fun _ _ _ h => h) (Or.inl ⟨by rfl, ?_⟩) ?_
      rotate_left
      · (intro w; go_simp; try with_reducible rfl)
      try go_simp
      refine wpAny_take (i := 16) (v := ?_) rfl (by kernel_rfl) (by kernel_rfl) (by kernel_rfl) (fun _ _ _ h => h) (Or.inl ⟨by rfl, ?_⟩) ?_
      rotate_left
      · (intro w; go_simp; try with_reducible rfl)
      try go_simp
      refine wpAny_ready (rs := [15]) (by kernel_rfl) (by simp) ?_
      refine AllReady.cons rfl (fun K hK => ?_) AllReady.nil
      go_simp
      go_wp2_with (go_at_call 25; refine (HDA.out _ HB21.out).mono ?_; rintro e w22 ⟨v22, rfl, ho22, hb22⟩; have HR22 := hid ho22.rd; have HB22 := hid (below_step hb22 HB21.out); clear ho22 hb22)
      refine wpAny_ready (rs := [17]) (by kernel_rfl) (by simp) ?_
      refine AllReady.cons rfl (fun K hK => ?_) AllReady.nil
      go_simp
      go_wp2_with (go_at_call 28; refine (HKE.out _ HB22.out).mono ?_; rintro e w23 ⟨v23, rfl, ho23, hb23⟩; have HR23 := hid ho23.rd; have HR22 := hid (HR22.out.below hb23); have HB23 := hid (below_step hb23 HB22.out); clear ho23 hb23)
      refine wpAny_ready (rs := [18]) (by kernel_rfl) (by simp) ?_
      refine AllReady.cons rfl (fun K hK => ?_) AllReady.nil
      go_simp
      go_wp2_with (go_at_call 32; refine (HSM.out _ _ _ HR22.out HR23.out).mono ?_; rintro e w24 ⟨rfl, hb24⟩; have HB24 := hid (below_step hb24 HB23.out); clear hb24)
      refine wpAny_take (i := 19) (v := ?_) rfl (by kernel_rfl) (by kernel_rfl) (by kernel_rfl) (fun _ _ _ h => h) (Or.inl ⟨by rfl, ?_⟩) ?_
      rotate_left
      · (intro w; go_simp; try with_reducible rfl)
      try go_simp
      refine wpAny_take (i := 20) (v := ?_) rfl (by kernel_rfl) (by kernel_rfl) (by kernel_rfl) (fun _ _ _ h => h) (Or.inl ⟨by rfl, ?_⟩) ?_
      rotate_left
      · (intro w; go_simp; try with_reducible rfl)
      try go_simp
      refine wpAny_done (by kernel_rfl) ?_ _
      go_wp2_with fail
      go_ret
      exact ⟨rfl, below_step HB24.out HT.out⟩
    exact AllReady.nil
end Go.Proofs.Ytifcgimpgbeocaa
