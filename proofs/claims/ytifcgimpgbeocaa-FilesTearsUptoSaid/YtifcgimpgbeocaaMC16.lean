/- The law FilesTears, walked. -/
import Derived.Test.YtifcgimpgbeocaaMC15
import Derived.Test.YtifcgimpgbeocaaK33
set_option linter.unusedVariables false
set_option linter.unusedSimpArgs false
namespace Go.Proofs.Ytifcgimpgbeocaa
open Go.RowKit
attribute [local go_sem] Oper.semAt_some
theorem byteTo_step {b : UInt8} {ws : List Wt} {cuts : List Int} {n i j : Nat} {x : Wt} (h : ws[j]? = some x) : byteTo b ws cuts n i (j + 1) = if x.1 = (n : Int) ∧ i < cutAt cuts j then (x.2[i]?).getD 0 else byteTo b ws cuts n i j := by
  conv => lhs; unfold byteTo
  rw [h]
theorem cut_lt {cuts : List Int} {j i : Nat} {c : Int} (h : cuts[j]? = some c) (hi : i < 64) : i < cutAt cuts j ↔ (i : Int) < c := by
  unfold cutAt clamp
  rw [h]
  simp only
  omega
theorem cut_none {cuts : List Int} {j i : Nat} (h : cuts.length ≤ j) : ¬ i < cutAt cuts j := by
  unfold cutAt
  rw [List.getElem?_eq_none h]
  simp
/-- The byte that stands in a page behind a crash. -/
theorem crash_byt {d : Dk} (hd : isDk d = true) (cuts : List Int) {k i : Nat} {s pg : Bs} (hs : d.1[k]? = some s) (hp : (crashDk d cuts).1[k]? = some pg) (hi : i < 64) :
    byt pg i = (((byteTo ((s[i]?).getD 0) d.2 cuts k i d.2.length).toNat : Nat) : Int) := by
  have hk : k < d.1.length := (List.getElem?_eq_some_iff.1 hs).1
  have h := crashTo_byte d.1 d.2 cuts k i hk hi (fun s hs => by obtain ⟨i, hi⟩ := List.getElem?_of_mem hs; exact isDk_page hd hi) (fun w hw => ⟨(isDk_wait hd hw).1, (isDk_wait hd hw).2.2⟩) d.2.length
  have hp' : (crashTo d.1 d.2 cuts d.2.length)[k]? = some pg := hp
  rw [hp', hs] at h
  simp only [Option.getD_some] at h
  unfold byt
  rw [h]
  rfl
set_option maxHeartbeats 8000000 in
set_option maxRecDepth 100000 in
theorem tears_law (d : Dk) (cuts : List Int) (vp vq vc : Value) (w : World) (hp : RdS w vp d.1) (hq : RdW w vq d.2) (hc : RdI w vc cuts) (hl1 : d.1.length ≤ 100000000) (hl2 : d.2.length ≤ 900000) (hl3 : cuts.length ≤ maxLen) :
    Calls Try.prog 15 #[.agg #[vp, vq], vc] w (Ret (.bool true) w) := by
  have HS := hid (fun w' => sane_any w')
  have HC1 := hid (fun cs vs w' (hb : Below w.heap.size w w') (hcs : RdI w' vs cs) => crashE_any d vp vq cs vs w' (hp.below hb) (hq.below hb) hcs (by omega))
  have HA1 := hid (fun w' (hb : Below w.heap.size w w') => actE_any d true 0 [] vp vq w' (hp.below hb) (hq.below hb) (by omega))
  have HP1 := hid (fun p w' (hb : Below w.heap.size w w') => readpage_any d vp vq p w' (hp.below hb) (hq.below hb) (by omega))
  have HK1 : Hid (∀ w' (hb : Below w.heap.size w w'), Calls Try.prog 70 #[.agg #[vp, vq]] w' (Ret (.int .i64 (chkD d)) w')) := fun w' hb => checkdisk_any d vp vq w' (hp.below hb) (hq.below hb) (by omega)
  have HK2 := hid (fun w' (hb : Below w.heap.size w w') => rcheckdisk_any d vp vq w' (hp.below hb) (hq.below hb) (by omega) (by omega))
  have HRI := hid (fun w' (hb : Below w.heap.size w w') => hc.below hb)
  obtain ⟨op, cp, rfl, -, h1⟩ := id hp
  obtain ⟨oq, cq, rfl, -, h2⟩ := id hq
  obtain ⟨oc, cc, rfl, -, h3⟩ := id hc
  have H1 := hid h1; have H2 := hid h2; have H3 := hid h3
  obtain ⟨N, hN⟩ : ∃ N, d.1.length = N := ⟨_, rfl⟩
  obtain ⟨M, hM⟩ : ∃ M, d.2.length = M := ⟨_, rfl⟩
  obtain ⟨L, hL⟩ : ∃ L, cuts.length = L := ⟨_, rfl⟩
  simp only [hN, hM, hL] at HC1 HA1 HP1 HK1 HK2 HRI ⊢
  have HN := hid hN; have HM := hid hM; have HL := hid hL
  have HLM : Hid (M ≤ 900000) := by unfold Hid; omega
  obtain ⟨W0, hW0⟩ : ∃ W0, W0 = w.alloc (.cells #[.slice op N cp, .slice oq M cq] 27) := ⟨_, rfl⟩
  have hb0 : Below w.heap.size w W0 := by rw [hW0]; exact balloc (Below.refl _ _) _
  have z0 : W0.cell? ⟨w.heap.size, 0, none⟩ = some (.slice op N cp) := by rw [hW0]; exact cell_new _ _ _ 0 _ rfl
  have z1 : W0.cell? ⟨w.heap.size, 1, none⟩ = some (.slice oq M cq) := by rw [hW0]; exact cell_new _ _ _ 1 _ rfl
  have Z0 := hid z0; have Z1 := hid z1
  have HB1 := hid hb0
  have HW0 := hid hW0
  clear hp hq hc h1 h2 h3 hl1 hl2 hl3 hN hM hL hW0 hb0 z0 z1
  go_enter Try.func15, Try.ntmps15
  go_upto_region 1 with fail
  have ew := HW0.out
  simp only [← ew]
  clear ew HW0
  obtain ⟨Z, hZ⟩ : ∃ Z, w.heap.size = Z := ⟨_, rfl⟩
  have HZ := hid hZ
  simp only [hZ] at Z0 Z1 ⊢
  clear hZ
  go_wp2_with fail
  refine (HS.out _).mono ?_
  rintro e w1 ⟨rfl, hb1⟩
  have HB1 := hid (below_step hb1 HB1.out)
  have Z0 := hid (keepc hb1 Z0.out); have Z1 := hid (keepc hb1 Z1.out)
  clear hb1
  have z0 := Z0.out; have z1 := Z1.out
  go_wp2_with fail
  refine (HK2.out _ HB1.out).mono ?_
  rintro e w2 ⟨rfl, hb2⟩
  have HB2 := hid (below_step hb2 HB1.out)
  have Z0 := hid (keepc hb2 Z0.out); have Z1 := hid (keepc hb2 Z1.out)
  clear hb2 z0 z1
  have z0 := Z0.out; have z1 := Z1.out
  cases hd : isDk d with
  | false =>
    have hck : chkD d = 142 := by unfold chkD; rw [hd]; rfl
    rw [hck] at HK1 ⊢
    clear hck hd
    go_wp2_with fail
    refine (HK1.out _ HB2.out).mono ?_
    rintro e w3 ⟨rfl, hb3⟩
    have HB3 := hid (below_step hb3 HB2.out)
    clear hb3 z0 z1
    go_wp2_with fail
    go_ret
    exact ⟨rfl, HB3.out⟩
  | true =>
  have hck : chkD d = 0 := by unfold chkD; rw [hd]; rfl
  rw [hck]
  have HD := hid hd
  have HCE := hid (fun cs => show crashE d cs = (crashDk d cs, 0) from by unfold crashE; rw [hd]; rfl)
  have HCN := hid (fun cs => (crashTo_len d.1 d.2 cs d.2.length).trans HN.out)
  have hca := HC1.out cuts _ w2 HB2.out (HRI.out _ HB2.out)
  rw [HCE.out] at hca
  have HCA := hid hca
  clear hck hd hca
  go_wp2_with fail
  refine HCA.out.mono ?_
  rintro e w2 ⟨v1, v2, rfl, ho1, ho2, hb2⟩
  obtain ⟨o1x1, c1x1, rfl, -, -⟩ := ho1.rd
  obtain ⟨o2x1, c2x1, rfl, -, -⟩ := ho2.rd
  have hcn := HCN.out cuts
  have hc0 : (crashDk d cuts).2.length = 0 := rfl
  have hcn2 : (crashDk d cuts).1.length = N := hcn
  simp only [hcn2, hc0] at ho1 ho2 ⊢
  obtain ⟨w3, hw3⟩ : ∃ w3, w3 = w2.alloc (.cells #[.slice o1x1 N c1x1, .slice o2x1 0 c2x1] 27) := ⟨_, rfl⟩
  have DB1 := hid (DB.new ho1.rd ho2.rd hw3)
  have hba : Below w2.heap.size w2 w3 := by rw [hw3]; exact balloc (Below.refl _ _) _
  have hbb := below_step hba hb2
  have Z0 := hid (keepc hbb Z0.out); have Z1 := hid (keepc hbb Z1.out)
  have HB1 := hid (below_step hbb HB2.out)
  have HW3 := hid hw3
  clear hw3 hba hbb hb2 ho1 ho2 hcn hc0 hcn2 z0 z1 HB2
  go_upto_region 6 with fail
  have ew := HW3.out
  rw [← ew]
  clear ew HW3
  obtain ⟨Y1, hY⟩ : ∃ Y, w2.heap.size = Y := ⟨_, rfl⟩
  simp only [hY] at DB1 ⊢
  clear hY
  have z0 := Z0.out; have z1 := Z1.out
  have y0 := DB1.out.c0; have y1 := DB1.out.c1
  go_wp2_with fail
  go_loopw [54] (fun i wr => ∃ k : Nat, i = .int .i64 (k : Int) ∧ k ≤ N ∧ Hid (Below w3.heap.size w3 wr)) (fun i _ => N - (intOf i).toNat)
  case atStart => exact ⟨0, rfl, Nat.zero_le _, Below.refl _ _⟩
  case round =>
    clear z0 z1 y0 y1
    obtain ⟨k, rfl, hk, HB⟩ := hrel
    by_cases hlt : k < N
    · obtain ⟨pg, hpg⟩ : ∃ r, (crashDk d cuts).1[k]? = some r := ⟨_, List.getElem?_eq_getElem (by have := HCN.out cuts; have h : (crashDk d cuts).1.length = N := this; omega)⟩
      obtain ⟨s0, hs0⟩ : ∃ r, d.1[k]? = some r := ⟨_, List.getElem?_eq_getElem (by have := HN.out; omega)⟩
      have HBT := hid (fun i (hi : i < 64) => crash_byt HD.out cuts hs0 hpg hi)
      have hp64 : pg.length = 64 := isDk_page (crash_isDk HD.out cuts) hpg
      have hs64 : s0.length = 64 := isDk_page HD.out hs0
      obtain ⟨ox, cx, ex, -, hPX⟩ := DB1.out.s
      have hcn2 : (crashDk d cuts).1.length = N := HCN.out cuts
      rw [hcn2] at ex
      cases ex
      clear hcn2
      rcases hPX with hq | ⟨bx, offx, rfl, -, hPX⟩
      · rw [hq] at hpg; simp at hpg
      have hPP := H1.out
      rcases hPP with hq | ⟨b1, off1, rfl, -, hPP⟩
      · rw [hq] at hs0; simp at hs0
      have X0 := hid (hPX k _ hpg)
      have S0 := hid (keepc HB1.out (hPP k _ hs0))
      have y0 := keepc HB.out DB1.out.c0
      have x0 := keepc HB.out X0.out
      have hlti : (k : Int) < (N : Int) := by omega
      have HP64 := hid hp64; have HS64 := hid hs64
      clear hpg hs0 hPX hPP
      go_wp2_with fail
      obtain ⟨W3, hW3⟩ : ∃ W3, W3 = wr := ⟨_, rfl⟩
      subst hW3
      clear y0 x0
      have HKL := hid hlt
      have HW1 : Hid (IntKind.i64.wrap ((k : Int) + 1) = (k : Int) + 1) := by
        have h1 := (isDk_len HD.out).2
        rw [HN.out] at h1
        exact IntWalk.i64_in _ ⟨by omega, by omega⟩
      go_loopw [64] (fun i wr => ∃ i' : Nat, i = .int .i64 (i' : Int) ∧ i' ≤ 64 ∧ Hid (Below w3.heap.size w3 wr)) (fun i _ => 64 - (intOf i).toNat)
      case atStart => exact ⟨0, rfl, Nat.zero_le _, HB⟩
      case round =>
        clear HB
        obtain ⟨i, rfl, hi, HB⟩ := hrel
        by_cases hlt2 : i < 64
        · have hlt2i : (i : Int) < 64 := by omega
          have z0 := keepc HB.out Z0.out
          have z1 := keepc HB.out Z1.out
          have s0c := keepc HB.out S0.out
          have hbyt := fun w => strv_at s0 i .i64 (by have := HS64.out; omega) w
          go_wp2_with fail
          obtain ⟨W4, hW4⟩ : ∃ W4, W4 = wr := ⟨_, rfl⟩
          subst hW4
          have HILT := hid hlt2
          clear hbyt s0c z0 z1 hlt2i
          go_loopw [9, 77] (fun b i' wr => ∃ j : Nat, b = .int .u8 (((byteTo ((s0[i]?).getD 0) d.2 cuts k i j).toNat : Nat) : Int) ∧ i' = .int .i64 (j : Int) ∧ j ≤ M ∧ Hid (Below w3.heap.size w3 wr)) (fun _ i' _ => M - (intOf i').toNat)
          case atStart => exact ⟨0, rfl, rfl, Nat.zero_le _, HB⟩
          case round =>
            clear HB
            obtain ⟨j, rfl, rfl, hj, HB⟩ := hrel
            by_cases hlt3 : j < M
            · obtain ⟨⟨xp, xs⟩, hx⟩ : ∃ r, d.2[j]? = some r := ⟨_, List.getElem?_eq_getElem (by have := HM.out; omega)⟩
              have hQ := H2.out
              rcases hQ with hq | ⟨b2, off2, rfl, -, hQ⟩
              · rw [hq] at hx; simp at hx
              obtain ⟨q0, q1⟩ := hQ j _ hx
              have q0 := keepc (below_step HB.out HB1.out) q0; have q1 := keepc (below_step HB.out HB1.out) q1
              have hx64 : xs.length = 64 := (isDk_wait HD.out (List.mem_of_getElem? hx)).2.2
              have HWJ : Hid (IntKind.i64.wrap ((j : Int) + 1) = (j : Int) + 1) := IntWalk.i64_in _ ⟨by omega, by have := HLM.out; omega⟩
              have hst := byteTo_step (b := (s0[i]?).getD 0) (cuts := cuts) (n := k) (i := i) hx
              obtain ⟨w7, hw7⟩ : ∃ w7, w7 = wr.alloc (.cells #[.int .i64 xp, strV xs] 112) := ⟨_, rfl⟩
              have hba : Below wr.heap.size wr w7 := by rw [hw7]; exact balloc (Below.refl _ _) _
              have p0 : w7.cell? ⟨wr.heap.size, 0, none⟩ = some (.int .i64 xp) := by rw [hw7]; exact cell_new _ _ _ 0 _ rfl
              have p1 : w7.cell? ⟨wr.heap.size, 1, none⟩ = some (strV xs) := by rw [hw7]; exact cell_new _ _ _ 1 _ rfl
              have HB8 := hid (below_step hba HB.out)
              have P0 := hid p0; have P1 := hid p1
              have HW7 := hid hw7
              have hltj : (j : Int) < (M : Int) := by omega
              clear hw7 hba p0 p1 hx hQ
              go_upto_region 20 with fail
              have ew := HW7.out
              rw [← ew]
              clear ew HW7 q0 q1
              have p0 := P0.out; have p1 := P1.out
              by_cases hxp : xp = (k : Int)
              rotate_left
              · have g1 : (xp == (k : Int)) = false := by simpa using hxp
                have HBS : Hid (byteTo ((s0[i]?).getD 0) d.2 cuts k i (j + 1) = byteTo ((s0[i]?).getD 0) d.2 cuts k i j) := by unfold Hid; rw [hst]; simp [hxp]
                clear hst hx64
                have hwj := HWJ.out
                go_wp2_with fail
                go_roundw
                case rel => exact ⟨j + 1, by rw [HBS.out], by go_num, by omega, HB8⟩
                case measure => simp [intOf]; omega
              have g1 : (xp == (k : Int)) = true := by simpa using hxp
              by_cases hjL : j < L
              rotate_left
              · have g2 : decide ((j : Int) < (L : Int)) = false := by simp; omega
                have g3 : ¬ (j : Int) < (L : Int) := by omega
                have HBS : Hid (byteTo ((s0[i]?).getD 0) d.2 cuts k i (j + 1) = byteTo ((s0[i]?).getD 0) d.2 cuts k i j) := by
                  unfold Hid; rw [hst]; simp [cut_none (i := i) (cuts := cuts) (j := j) (by have := HL.out; omega)]
                clear hst hx64
                have hwj := HWJ.out
                go_wp2_with fail
                go_roundw
                case rel => exact ⟨j + 1, by rw [HBS.out], by go_num, by omega, HB8⟩
                case measure => simp [intOf]; omega
              have g3 : (j : Int) < (L : Int) := by omega
              obtain ⟨c, hcj⟩ : ∃ c, cuts[j]? = some c := ⟨_, List.getElem?_eq_getElem (by have := HL.out; omega)⟩
              have hCC := H3.out
              rcases hCC with hq | ⟨b3, off3, rfl, -, hCC⟩
              · rw [hq] at hcj; simp at hcj
              have r0 := keepc (below_step HB8.out HB1.out) (hCC j _ hcj)
              have hlc := cut_lt hcj HILT.out
              by_cases hic : (i : Int) < c
              rotate_left
              · have g4 : ¬ (i : Int) < c := hic
                have g5 : ¬ c > (i : Int) := hic
                have HBS : Hid (byteTo ((s0[i]?).getD 0) d.2 cuts k i (j + 1) = byteTo ((s0[i]?).getD 0) d.2 cuts k i j) := by
                  unfold Hid; rw [hst]; rw [if_neg (fun e => hic (hlc.1 e.2))]
                clear hst hx64 hlc hcj hCC
                have hwj := HWJ.out
                go_wp2_with fail
                go_roundw
                case rel => exact ⟨j + 1, by rw [HBS.out], by go_num, by omega, HB8⟩
                case measure => simp [intOf]; omega
              have g5 : c > (i : Int) := hic
              have HBS : Hid (byteTo ((s0[i]?).getD 0) d.2 cuts k i (j + 1) = (xs[i]?).getD 0) := by
                unfold Hid; rw [hst]; rw [if_pos ⟨hxp, hlc.2 hic⟩]
              have hbx := fun w => strv_at xs i .i64 (by have := HILT.out; omega) w
              clear hst hx64 hlc hcj hCC
              have hwj := HWJ.out
              go_wp2_with fail
              go_roundw
              case rel => exact ⟨j + 1, by rw [HBS.out]; rfl, by go_num, by omega, HB8⟩
              case measure => simp [intOf]; omega
            · have hge2 : ¬ (j : Int) < (M : Int) := by omega
              have hjM : j = M := by omega
              have hE : (((byteTo ((s0[i]?).getD 0) d.2 cuts k i j).toNat : Nat) : Int) = byt pg i := by rw [HBT.out i HILT.out, hjM, ← HM.out]
              rw [hE]
              have hby := fun w => strv_at pg i .i64 (by have := HP64.out; have := HILT.out; omega) w
              have y0 := keepc HB.out DB1.out.c0
              have x0 := keepc HB.out X0.out
              clear hE
              have hwi : IntKind.i64.wrap ((i : Int) + 1) = (i : Int) + 1 := IntWalk.i64_in _ ⟨by omega, by have := HILT.out; omega⟩
              go_wp2_with fail
              go_roundw
              case rel => exact ⟨i + 1, by go_num, by have := HILT.out; omega, HB⟩
              case measure => have := HILT.out; simp [intOf]; omega
        · have hge : ¬ (i : Int) < 64 := by omega
          have hw1 := HW1.out
          go_wp2_with fail
          go_roundw
          case rel => exact ⟨k + 1, by go_num, by have := HKL.out; omega, HB⟩
          case measure => have := HKL.out; simp [intOf]; omega
    · have hge : ¬ (k : Int) < (N : Int) := by omega
      have z0 := keepc HB.out Z0.out; have z1 := keepc HB.out Z1.out
      have HBW := hid (below_step HB.out HB1.out)
      have Z0 := hid z0; have Z1 := hid z1
      obtain ⟨W5, hW5⟩ : ∃ W5, W5 = wr := ⟨_, rfl⟩
      subst hW5
      have HOI : Hid (OI (W5.alloc (.cells #[] 3)) W5.heap.size (.slice (some ⟨W5.heap.size, 0, none⟩) 0 0) (List.replicate 0 64)) := oI_new W5 _ (Nat.le_refl _)
      have HBA := hid (balloc (Below.refl W5.heap.size W5) (.cells #[] 3))
      have z1a := keepc HBA.out z1
      clear hk hlt
      go_wp2_with fail
      go_loopw [12, 120] (fun u i wr => ∃ m : Nat, i = .int .i64 (m : Int) ∧ m ≤ M ∧ Hid (OI wr W5.heap.size u (List.replicate m 64)) ∧ Hid (Below W5.heap.size W5 wr)) (fun _ i _ => M - (intOf i).toNat)
      case atStart => exact ⟨0, rfl, Nat.zero_le _, HOI, HBA⟩
      case round =>
        clear HOI HBA z0 z1 z1a
        obtain ⟨m, rfl, hm, HO, HB⟩ := hrel
        by_cases hlt : m < M
        · have hba := balloc (Below.refl wr.heap.size wr) (.cells #[.int .i64 64] 3)
          have HO3 := hid (HO.out.below hba)
          have HB3' := hid (below_step hba HB.out)
          have HLN : Hid ((List.replicate m (64 : Int)).length ≤ 1000000) := by unfold Hid; rw [List.length_replicate]; have := HLM.out; omega
          have hwm : IntKind.i64.wrap ((m : Int) + 1) = (m : Int) + 1 := IntWalk.i64_in _ ⟨by omega, by have := HLM.out; omega⟩
          have hltm : (m : Int) < (M : Int) := by omega
          clear hba
          go_wp2_with (at_builtin; refine appI rfl _ _ rfl W5.heap.size _ (List.replicate m 64) 64 _ _ rfl rfl HO3.out (by intro j u hj; match j, hj with | 0, hj => (cases hj; exact cell_new wr #[.int .i64 64] 3 0 _ rfl) | j + 1, hj => simp [encI] at hj) HLN.out HB3'.out.size ?_)
          intro v7 w9 ho7 hg7
          have HB9 := hid (HO3.out.grown HB3'.out hg7 HB3'.out.size)
          have HO9 : Hid (OI w9 W5.heap.size v7 (List.replicate (m + 1) 64)) := by unfold Hid; rw [List.replicate_succ']; exact ho7
          clear ho7 hg7
          go_wp2_with fail
          go_roundw
          case rel => exact ⟨m + 1, by go_num, by omega, HO9, HB9⟩
          case measure => simp [intOf]; omega
        · have hge2 : ¬ (m : Int) < (M : Int) := by omega
          have hmM : m = M := by omega
          subst hmM
          obtain ⟨ou, cu, hu, -, -⟩ := HO.out.rd
          rw [List.length_replicate] at hu
          subst hu
          have HBW6 := hid (below_step HB.out HBW.out)
          have hca := HC1.out (List.replicate m 64) _ wr HBW6.out HO.out.rd
          rw [HCE.out] at hca
          have HCA2 := hid hca
          have HAE : Hid (actE d (true, 0, []) = (crashDk d (List.replicate m 64), 0)) := by unfold Hid actE; rw [HD.out, isAct_sync, ← HM.out]; rfl
          rw [HAE.out] at HA1
          have Z0 := hid (keepc HB.out Z0.out); have Z1 := hid (keepc HB.out Z1.out)
          have z0 := Z0.out; have z1 := Z1.out
          clear hca hlt hge
          go_wp2_with fail
          clear z0 z1
          refine (HCA2.out).mono ?_
          rintro e w2 ⟨v1, v2, rfl, ho1, ho2, hb2⟩
          obtain ⟨o1x2, c1x2, rfl, -, -⟩ := ho1.rd
          obtain ⟨o2x2, c2x2, rfl, -, -⟩ := ho2.rd
          have hcn2 : (crashDk d (List.replicate m 64)).1.length = N := HCN.out (List.replicate m 64)
          have hc0 : (crashDk d (List.replicate m 64)).2.length = 0 := rfl
          simp only [hcn2, hc0] at ho1 ho2 ⊢
          obtain ⟨w8, hw8⟩ : ∃ w8, w8 = w2.alloc (.cells #[.slice o1x2 N c1x2, .slice o2x2 0 c2x2] 27) := ⟨_, rfl⟩
          have DB2 := hid (DB.new ho1.rd ho2.rd hw8)
          have hba : Below w2.heap.size w2 w8 := by rw [hw8]; exact balloc (Below.refl _ _) _
          have hbb := below_step hba hb2
          have Z0 := hid (keepc hbb Z0.out); have Z1 := hid (keepc hbb Z1.out)
          have HBW6 := hid (below_step hbb HBW6.out)
          have HW8 := hid hw8
          clear hw8 hba hbb hb2 ho1 ho2 hcn2 hc0
          go_upto_region 33 with fail
          have ew := HW8.out
          rw [← ew]
          clear ew HW8
          obtain ⟨Y2, hY⟩ : ∃ Y, w2.heap.size = Y := ⟨_, rfl⟩
          simp only [hY] at DB2 ⊢
          clear hY
          have z0 := Z0.out; have z1 := Z1.out
          obtain ⟨wv, hwv⟩ : ∃ wv, wv = w8 := ⟨_, rfl⟩
          subst hwv
          go_wp2_with fail
          clear z0 z1
          refine (HA1.out _ HBW6.out).mono ?_
          rintro e w2 ⟨v1, v2, rfl, ho1, ho2, hb2⟩
          obtain ⟨o1x3, c1x3, rfl, -, -⟩ := ho1.rd
          obtain ⟨o2x3, c2x3, rfl, -, -⟩ := ho2.rd
          have hcn2 : (crashDk d (List.replicate m 64)).1.length = N := HCN.out (List.replicate m 64)
          have hc0 : (crashDk d (List.replicate m 64)).2.length = 0 := rfl
          simp only [hcn2, hc0] at ho1 ho2 ⊢
          obtain ⟨w8, hw8⟩ : ∃ w8, w8 = w2.alloc (.cells #[.slice o1x3 N c1x3, .slice o2x3 0 c2x3] 27) := ⟨_, rfl⟩
          have DB3 := hid (DB.new ho1.rd ho2.rd hw8)
          have hba : Below w2.heap.size w2 w8 := by rw [hw8]; exact balloc (Below.refl _ _) _
          have hbb := below_step hba hb2
          have Z0 := hid (keepc hbb Z0.out); have Z1 := hid (keepc hbb Z1.out)
          have DB2 := hid (DB2.out.below hbb)
          have HBW6 := hid (below_step hbb HBW6.out)
          have HW8 := hid hw8
          clear hw8 hba hbb hb2 ho1 ho2 hcn2 hc0
          go_upto_region 34 with fail
          have ew := HW8.out
          rw [← ew]
          clear ew HW8
          obtain ⟨Y3, hY⟩ : ∃ Y, w2.heap.size = Y := ⟨_, rfl⟩
          simp only [hY] at DB3 ⊢
          clear hY
          have z0 := Z0.out; have z1 := Z1.out
          obtain ⟨wv, hwv⟩ : ∃ wv, wv = w8 := ⟨_, rfl⟩
          subst hwv
          have HSD := hid (DB2.out.same DB3.out (by have h : (crashDk d (List.replicate m 64)).1.length = N := HCN.out _; have h2 := (isDk_len HD.out).2; have h3 := HN.out; omega) (by show 0 ≤ _; omega))
          have y0 := DB2.out.c0; have y1 := DB2.out.c1; have x0 := DB3.out.c0; have x1 := DB3.out.c1
          go_wp2_with fail
          refine (HSD.out _ (Below.refl _ _)).mono ?_
          rintro e w6 ⟨rfl, hb6⟩
          have HB6 := hid (below_step hb6 HBW6.out)
          have DB3 := hid (DB3.out.below hb6)
          have Z0 := hid (keepc hb6 Z0.out); have Z1 := hid (keepc hb6 Z1.out)
          clear z0 z1 y0 y1 x0 x1 hb6
          have z0 := Z0.out; have z1 := Z1.out; have x0 := DB3.out.c0; have x1 := DB3.out.c1
          go_wp2_with fail
          go_loopw [153] (fun i wr => ∃ n : Nat, i = .int .i64 (n : Int) ∧ n ≤ N ∧ Hid (Below w6.heap.size w6 wr)) (fun i _ => N - (intOf i).toNat)
          case atStart => exact ⟨0, rfl, Nat.zero_le _, Below.refl _ _⟩
          case round =>
            clear z0 z1 x0 x1
            obtain ⟨n, rfl, hn, HBn⟩ := hrel
            by_cases hltn : n < N
            · have hcn3 : (crashDk d (List.replicate m 64)).1.length = N := HCN.out _
              have hpage : (crashDk d (List.replicate m 64)).1[n]? = some (wrt d n) := by
                have h1 := sync_wrt HD.out m n (by have := HM.out; omega)
                rw [List.getElem?_eq_getElem (by omega)] at h1 ⊢
                simpa using h1
              obtain ⟨ox, cx, ex, -, hPX⟩ := DB3.out.s
              rw [hcn3] at ex
              cases ex
              rcases hPX with hq | ⟨b9, off9, rfl, -, hPX⟩
              · rw [hq] at hpage; simp at hpage
              have p0 := keepc HBn.out (hPX n _ hpage)
              have hrp : readPg d (n : Int) = (wrt d n, 0) := by
                unfold readPg
                rw [if_pos HD.out, if_pos ⟨by omega, by rw [HN.out]; omega⟩]
                rfl
              have hcp := HP1.out (n : Int) wr (below_step HBn.out HB6.out)
              rw [hrp] at hcp
              have HCP := hid hcp
              obtain ⟨S, hS⟩ : ∃ S, wrt d n = S := ⟨_, rfl⟩
              simp only [hS] at HCP p0
              have P0 := hid p0
              have HWN : Hid (IntKind.i64.wrap ((n : Int) + 1) = (n : Int) + 1) := by
                have h1 := (isDk_len HD.out).2
                rw [HN.out] at h1
                exact IntWalk.i64_in _ ⟨by omega, by omega⟩
              have hltn2 : (n : Int) < (N : Int) := by omega
              have z0 := keepc HBn.out Z0.out; have z1 := keepc HBn.out Z1.out
              clear hcn3 hpage hPX hrp hcp hS p0
              go_wp2_with fail
              refine HCP.out.mono ?_
              rintro e w7 ⟨rfl, hb7⟩
              have HB7 := hid (below_step hb7 HBn.out)
              have p0 := keepc hb7 P0.out
              have x0 := keepc HB7.out DB3.out.c0
              have hwn := HWN.out
              clear hb7 z0 z1
              go_wp2_with fail
              go_roundw
              case rel => exact ⟨n + 1, by go_num, by omega, HB7⟩
              case measure => simp [intOf]; omega
            · have hgen : ¬ (n : Int) < (N : Int) := by omega
              have HBE := hid (below_step HBn.out HB6.out)
              go_wp2_with fail
              go_ret
              exact ⟨rfl, HBE.out⟩
end Go.Proofs.Ytifcgimpgbeocaa
