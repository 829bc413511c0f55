/- The reference's Act. -/
import Derived.Test.YtifcgimpgbeocaaGreatK34
import Derived.Test.YtifcgimpgbeocaaGreatK35
set_option linter.unusedVariables false
set_option linter.unusedSimpArgs false
namespace Go.Proofs.YtifcgimpgbeocaaGreat
open Go.RowKit
attribute [local go_sem] Oper.semAt_some
set_option maxHeartbeats 8000000 in
set_option maxRecDepth 100000 in
theorem ract_any (d : Dk) (b : Bool) (p : Int) (s : Bs) (vp vq : Value) (w : World) (hp : RdS w vp d.1) (hq : RdW w vq d.2) (hl1 : d.1.length ≤ 1000000000) (hl2 : d.2.length ≤ 900000) (hs : s.length ≤ maxLen) :
    Calls Tryz.prog 98 #[.agg #[vp, vq], .agg #[.bool b, .int .i64 p, strV s]] w (RetDk (actE d (b, p, s)).1 (actE d (b, p, s)).2 w) := by
  have HCK := hid (fun w' (hb : Below w.heap.size w w') => rcheckdisk_any d vp vq w' (hp.below hb) (hq.below hb) hl1 (by omega))
  have HCR := hid (fun cuts vc w' (hb : Below w.heap.size w w') (hc : RdI w' vc cuts) (h3 : cuts.length ≤ maxLen) => rcrash_any d vp vq cuts vc w' (hp.below hb) (hq.below hb) hc hl1 (by omega) h3)
  obtain ⟨o1, c1, rfl, hc1, h1⟩ := hp
  obtain ⟨o2, c2, rfl, hc2, h2⟩ := hq
  have H1 := hid h1; have H2 := hid h2
  obtain ⟨N, hN⟩ : ∃ N, d.1.length = N := ⟨_, rfl⟩
  obtain ⟨M, hM⟩ : ∃ M, d.2.length = M := ⟨_, rfl⟩
  simp only [hN, hM] at HCK HCR hl1 hl2 hc1 hc2 ⊢
  have HN := hid hN; have HM := hid hM
  unfold maxLen at hs
  obtain ⟨W0, hW0⟩ : ∃ W0, W0 = w.alloc (.cells #[.slice o1 N c1, .slice o2 M c2] 25) := ⟨_, rfl⟩
  have hb0 : Below w.heap.size w W0 := by rw [hW0]; exact balloc (Below.refl _ _) _
  have hz0 : W0.heap.size = w.heap.size + 1 := by rw [hW0]; simp
  have e0 : W0.cell? ⟨w.heap.size, 0, none⟩ = some (.slice o1 N c1) := by rw [hW0]; exact cell_new _ _ _ 0 _ rfl
  have e1 : W0.cell? ⟨w.heap.size, 1, none⟩ = some (.slice o2 M c2) := by rw [hW0]; exact cell_new _ _ _ 1 _ rfl
  obtain ⟨W1, hW1⟩ : ∃ W1, W1 = W0.alloc (.cells #[.bool b, .int .i64 p, strV s] 77) := ⟨_, rfl⟩
  have hb1 : Below W0.heap.size W0 W1 := by rw [hW1]; exact balloc (Below.refl _ _) _
  have hz1 : W1.heap.size = w.heap.size + 2 := by rw [hW1]; simp [hz0]
  have q0 : W1.cell? ⟨W0.heap.size, 0, none⟩ = some (.bool b) := by rw [hW1]; exact cell_new _ _ _ 0 _ rfl
  have q1 : W1.cell? ⟨W0.heap.size, 1, none⟩ = some (.int .i64 p) := by rw [hW1]; exact cell_new _ _ _ 1 _ rfl
  have q2 : W1.cell? ⟨W0.heap.size, 2, none⟩ = some (strV s) := by rw [hW1]; exact cell_new _ _ _ 2 _ rfl
  have hB2 := B2.new W1 25 (.slice none 0 0) (.slice none 0 0)
  have y0 : (W1.alloc (.cells #[.slice none 0 0, .slice none 0 0] 25)).cell? ⟨W1.heap.size, 0, none⟩ = some (.slice none 0 0) := cell_new _ _ _ 0 _ rfl
  have y1 : (W1.alloc (.cells #[.slice none 0 0, .slice none 0 0] 25)).cell? ⟨W1.heap.size, 1, none⟩ = some (.slice none 0 0) := cell_new _ _ _ 1 _ rfl
  obtain ⟨W2, hW2⟩ : ∃ W2, W2 = W1.alloc (.cells #[.slice none 0 0, .slice none 0 0] 25) := ⟨_, rfl⟩
  rw [← hW2] at hB2 y0 y1
  rw [hz1] at hB2 y0 y1
  rw [hz0] at q0 q1 q2
  have hz2 : W2.heap.size = w.heap.size + 3 := by rw [hW2]; simp [hz1]
  have HB2 := hid (below_step hB2.1 (below_step hb1 hb0))
  have hb12 := below_step hB2.1 hb1
  have E0 := hid (keepc hb12 e0); have E1 := hid (keepc hb12 e1)
  have Q0 := hid (keepc hB2.1 q0); have Q1 := hid (keepc hB2.1 q1); have Q2 := hid (keepc hB2.1 q2)
  have OW := hid hB2.2; have YY := hid (And.intro y0 y1)
  have HW0 := hid hW0; have HW1 := hid hW1; have HW2 := hid hW2; have HZ0 := hid hz0; have HZ1 := hid hz1; have HZ2 := hid hz2
  clear h1 h2 hN hM hW0 hW1 hW2 hb0 hb1 hb12 hz0 hz1 hz2 e0 e1 q0 q1 q2 y0 y1 hB2
  go_enter Tryz.func98, Tryz.ntmps98
  go_upto_region 1 with fail
  have e := HW0.out
  simp only [← e]
  have e2 := HW1.out
  simp only [← e2]
  have e3 := HW2.out
  simp only [← e3]
  clear e e2 e3 HW0 HW1 HW2
  try rw [HZ1.out]
  try rw [HZ0.out]
  obtain ⟨Z, hZ⟩ : ∃ Z, w.heap.size = Z := ⟨_, rfl⟩
  have HZ := hid hZ
  simp only [hZ] at E0 E1 Q0 Q1 Q2 OW YY HZ2 ⊢
  clear hZ HZ0 HZ1
  have a0 := E0.out; have a1 := E1.out
  go_wp2_with fail
  refine (HCK.out _ HB2.out).mono ?_
  rintro e w1 ⟨rfl, hb1⟩
  have HB3 := hid (below_step hb1 HB2.out)
  have A0 := hid (keepc hb1 a0); have A1 := hid (keepc hb1 a1)
  have Q0 := hid (keepc hb1 Q0.out); have Q1 := hid (keepc hb1 Q1.out); have Q2 := hid (keepc hb1 Q2.out)
  have OW := hid (And.intro (keepOwn hb1 OW.out.1) (keepOwn hb1 OW.out.2))
  have YY := hid (And.intro (keepc hb1 YY.out.1) (keepc hb1 YY.out.2))
  have hz1 : Z + 2 < w1.heap.size := by have := hb1.size; have := HZ2.out; omega
  have q0 := Q0.out; have q1 := Q1.out; have q2 := Q2.out; have a0 := A0.out; have a1 := A1.out
  clear hb1 E0 E1 HZ2
  have hbad : ∀ n : Int, actE d (b, p, s) = (([], []), n) → chkD d = (if n = 142 then 142 else 0) → True := fun _ _ _ => trivial
  clear hbad
  cases hd : isDk d with
  | false =>
    have HR : Hid (actE d (b, p, s) = (([], []), 142)) := by unfold Hid actE; rw [hd]; rfl
    have hck : chkD d = 142 := by unfold chkD; rw [hd]; rfl
    rw [hck]
    have y0 := YY.out.1; have y1 := YY.out.2
    have f0 := OW.out.1.2; have f1 := OW.out.2.2
    clear hck hd
    go_wp2_with fail
    rw [HR.out]
    first
      | exact bodyPost_ret (v := .tuple #[.agg #[.slice none 0 0, .slice none 0 0], .int .i64 142]) (by simp [results, Tryz.results98, go_sem, y0, y1, f0, f1, hz1]) rfl ⟨_, _, rfl, oS_nil _ _, oW_nil _ _, HB3.out⟩
      | exact bodyPost_ret (v := .tuple #[.agg #[.slice none 0 0, .slice none 0 0], .int .i64 142]) (by simp [results, Tryz.results98, go_sem, y0, y1, f0, f1, hz1]) rfl ⟨_, _, rfl, oS_nil _ _, oW_nil _ _, (HB3.out.setCell (by simp; have := HZ.out; omega) _).setCell (by simp; have := HZ.out; omega) _⟩
  | true =>
  have hck : chkD d = 0 := by unfold chkD; rw [hd]; rfl
  have hdl := isDk_len hd
  rw [HN.out] at hdl
  rw [hck]
  have HAE : Hid (actE d (b, p, s) = if isAct d (b, p, s) = true then (actDk d (b, p, s), 0) else (([], []), 1)) := by unfold Hid actE; rw [hd]; rfl
  have HCD := hid (fun cuts => show crashE d cuts = (crashDk d cuts, 0) from by unfold crashE; rw [hd]; rfl)
  clear hck hd
  cases b with
  | true =>
    have HIA := hid (isAct_sync d p s)
    by_cases h0 : p = 0
    rotate_left
    · have HR : Hid (actE d (true, p, s) = (([], []), 1)) := by unfold Hid; rw [HAE.out, HIA.out, decide_eq_false h0]; rfl
      have g : (p == 0) = false := by simpa using h0
      have g' : (p != 0) = true := by simpa using h0
      have y0 := YY.out.1; have y1 := YY.out.2
      have f0 := OW.out.1.2; have f1 := OW.out.2.2
      clear h0 HIA HAE
      go_wp2_with fail
      rw [HR.out]
      first
        | exact bodyPost_ret (v := .tuple #[.agg #[.slice none 0 0, .slice none 0 0], .int .i64 1]) (by simp [results, Tryz.results98, go_sem, y0, y1, f0, f1, hz1]) rfl ⟨_, _, rfl, oS_nil _ _, oW_nil _ _, HB3.out⟩
        | exact bodyPost_ret (v := .tuple #[.agg #[.slice none 0 0, .slice none 0 0], .int .i64 1]) (by simp [results, Tryz.results98, go_sem, y0, y1, f0, f1, hz1]) rfl ⟨_, _, rfl, oS_nil _ _, oW_nil _ _, (HB3.out.setCell (by simp; have := HZ.out; omega) _).setCell (by simp; have := HZ.out; omega) _⟩
    subst h0
    by_cases hs0 : s = []
    rotate_left
    · have HR : Hid (actE d (true, 0, s) = (([], []), 1)) := by unfold Hid; rw [HAE.out, HIA.out, decide_eq_false hs0]; rfl
      have hg1 : ¬ ((⟨s.toArray⟩ : ByteArray) = ⟨#[]⟩) := fun e => hs0 (by have := congrArg (fun x => x.data.toList) e; simpa using this)
      have hg2 : (s == []) = false := by rw [beq_eq_false_iff_ne]; exact hs0
      have hg3 : (s != []) = true := by simpa using hs0
      have hg4 : s.isEmpty = false := by cases s with
        | nil => exact absurd rfl hs0
        | cons _ _ => rfl
      have hg5 : ¬ s.toArray = #[] := fun e => hs0 (by simpa using congrArg Array.toList e)
      have y0 := YY.out.1; have y1 := YY.out.2
      have f0 := OW.out.1.2; have f1 := OW.out.2.2
      clear HIA HAE
      go_wp2_with fail
      rw [HR.out]
      first
        | exact bodyPost_ret (v := .tuple #[.agg #[.slice none 0 0, .slice none 0 0], .int .i64 1]) (by simp [results, Tryz.results98, go_sem, y0, y1, f0, f1, hz1]) rfl ⟨_, _, rfl, oS_nil _ _, oW_nil _ _, HB3.out⟩
        | exact bodyPost_ret (v := .tuple #[.agg #[.slice none 0 0, .slice none 0 0], .int .i64 1]) (by simp [results, Tryz.results98, go_sem, y0, y1, f0, f1, hz1]) rfl ⟨_, _, rfl, oS_nil _ _, oW_nil _ _, (HB3.out.setCell (by simp; have := HZ.out; omega) _).setCell (by simp; have := HZ.out; omega) _⟩
    cases s with
    | cons _ _ => cases hs0
    | nil =>
      clear hs0
      have HR : Hid (actE d (true, 0, []) = (crashDk d (List.replicate M 64), 0)) := by
        unfold Hid; rw [HAE.out, HIA.out, ← HM.out]; rfl
      have HS0 : Hid (List.replicate 0 (64 : Int) = []) := rfl
      have HOI : Hid (OI (w1.alloc (.cells #[] 3)) w1.heap.size (.slice (some ⟨w1.heap.size, 0, none⟩) 0 0) []) := oI_new w1 _ (Nat.le_refl _)
      have hba := balloc (Below.refl w1.heap.size w1) (.cells #[] 3)
      have HBA := hid hba
      clear HIA HAE hba
      go_wp2_with fail
      go_loopw [6, 7] (fun u i wr => ∃ k : Nat, i = .int .i64 (k : Int) ∧ k ≤ M ∧ Hid (OI wr w1.heap.size u (List.replicate k 64)) ∧ Hid (Below w1.heap.size w1 wr)) (fun _ i _ => M - (intOf i).toNat)
      case atStart => exact ⟨0, rfl, Nat.zero_le _, HOI, HBA⟩
      case round =>
        clear HOI HBA
        obtain ⟨k, rfl, hk, HO, HB⟩ := hrel
        have a0 := keepc HB.out A0.out; have a1 := keepc HB.out A1.out
        by_cases hlt : k < M
        · have hba := balloc (Below.refl wr.heap.size wr) (.cells #[.int .i64 64] 3)
          have HO3 := hid (HO.out.below hba)
          have HB3' := hid (below_step hba HB.out)
          have HLN : Hid ((List.replicate k (64 : Int)).length ≤ 1000000) := by unfold Hid; rw [List.length_replicate]; omega
          clear hba
          go_wp2_with (at_builtin; refine appI rfl _ _ rfl w1.heap.size _ (List.replicate k 64) 64 _ _ rfl rfl HO3.out (by intro j u hj; match j, hj with | 0, hj => (cases hj; exact cell_new wr #[.int .i64 64] 3 0 _ rfl) | j + 1, hj => simp [encI] at hj) HLN.out HB3'.out.size ?_)
          intro v7 w9 ho7 hg7
          have HB9 := hid (HO3.out.grown HB3'.out hg7 HB3'.out.size)
          have HO9 : Hid (OI w9 w1.heap.size v7 (List.replicate (k + 1) 64)) := by unfold Hid; rw [List.replicate_succ']; exact ho7
          clear ho7 hg7
          go_wp2_with fail
          go_roundw
          case rel => exact ⟨k + 1, by go_num, by omega, HO9, HB9⟩
          case measure => simp [intOf]; omega
        · have hge : ¬ (k : Int) < (M : Int) := by omega
          have hkM : k = M := by omega
          subst hkM
          obtain ⟨ou, cu, hu6, -, -⟩ := HO.out.rd
          rw [List.length_replicate] at hu6
          subst hu6
          have HC2 := hid (HCR.out (List.replicate k 64) _ wr (below_step HB.out HB3.out) HO.out.rd (by rw [List.length_replicate]; unfold maxLen; omega))
          rw [HCD.out] at HC2
          have OW9 := hid (And.intro (keepOwn HB.out OW.out.1) (keepOwn HB.out OW.out.2))
          clear q0 q1 q2 hlt
          go_wp2_with fail
          refine HC2.out.mono ?_
          rintro e w5 ⟨x1, x2, rfl, ho1, ho2, hb5⟩
          obtain ⟨p1, j1, rfl, -, -⟩ := ho1.rd
          obtain ⟨p2, j2, rfl, -, -⟩ := ho2.rd
          have OW5 := hid (And.intro (keepOwn hb5 OW9.out.1) (keepOwn hb5 OW9.out.2))
          obtain ⟨⟨v0, y0⟩, f0⟩ := OW5.out.1
          obtain ⟨⟨v1, y1⟩, f1⟩ := OW5.out.2
          have hz5 : Z + 2 < w5.heap.size := World.block_lt_of_cell? _ _ y0
          have HBW5 := hid (below_step hb5 (below_step HB.out HB3.out))
          have HZR : Hid (Z + 2 < wr.heap.size) := by have := HB.out.size; unfold Hid; omega
          have HO1 := hid ho1; have HO2 := hid ho2
          obtain ⟨m1, hm1⟩ : ∃ m, (crashDk d (List.replicate k 64)).1.length = m := ⟨_, rfl⟩
          obtain ⟨m2, hm2⟩ : ∃ m, (crashDk d (List.replicate k 64)).2.length = m := ⟨_, rfl⟩
          simp only [hm1, hm2] at HO1 HO2 ⊢
          clear ho1 ho2 hb5 hm1 hm2
          go_wp2_with fail
          rw [HR.out]
          have hf := frm_two w5 (Z + 2) 0 1 (.slice p1 m1 j1) (.slice p2 m2 j2)
          have n1 := own_not HO1.out (U := fun kk => kk = Z + 2) (fun kk hk => by have := HZR.out; omega)
          have n2 := own_not HO2.out (U := fun kk => kk = Z + 2) (fun kk hk => by have := HZR.out; omega)
          have hwz : w.heap.size ≤ wr.heap.size := by have := HZ.out; have := HZR.out; omega
          exact bodyPost_ret (v := .tuple #[.agg #[.slice p1 m1 j1, .slice p2 m2 j2], .int .i64 0]) (by simp [results, Tryz.results98, go_sem, y0, y1, f0, f1, hz5]) rfl ⟨_, _, rfl, OS.mono (hf.row HO1.out n1) hwz, _root_.Go.Proofs.YtifcgimpgbeocaaGreat.OW.mono (hf.row HO2.out n2) hwz, Frm.below HBW5.out hf (fun kk hk => by have := HZ.out; omega) HBW5.out.size⟩
  | false =>
    have hia := isAct_write d p s
    rw [HN.out] at hia
    have HIA := hid hia
    obtain ⟨ns, hns⟩ : ∃ ns, s.length = ns := ⟨_, rfl⟩
    have HNS := hid hns
    clear hia hns
    have hsl := HNS.out
    by_cases h1 : p < 0
    · have HR : Hid (actE d (false, p, s) = (([], []), 1)) := by unfold Hid; rw [HAE.out, HIA.out, decide_eq_false (by omega : ¬ 0 ≤ p)]; rfl
      have g1 : decide (p < 0) = true := by simpa using h1
      have y0 := YY.out.1; have y1 := YY.out.2
      have f0 := OW.out.1.2; have f1 := OW.out.2.2
      clear HIA HAE
      go_wp2_with fail
      rw [HR.out]
      first
        | exact bodyPost_ret (v := .tuple #[.agg #[.slice none 0 0, .slice none 0 0], .int .i64 1]) (by simp [results, Tryz.results98, go_sem, y0, y1, f0, f1, hz1]) rfl ⟨_, _, rfl, oS_nil _ _, oW_nil _ _, HB3.out⟩
        | exact bodyPost_ret (v := .tuple #[.agg #[.slice none 0 0, .slice none 0 0], .int .i64 1]) (by simp [results, Tryz.results98, go_sem, y0, y1, f0, f1, hz1]) rfl ⟨_, _, rfl, oS_nil _ _, oW_nil _ _, (HB3.out.setCell (by simp; have := HZ.out; omega) _).setCell (by simp; have := HZ.out; omega) _⟩
    have g1 : decide (p < 0) = false := by simpa using h1
    by_cases h2 : (N : Int) ≤ p
    · have HR : Hid (actE d (false, p, s) = (([], []), 1)) := by unfold Hid; rw [HAE.out, HIA.out, decide_eq_false (by omega : ¬ p < (N : Int))]; simp
      have g2 : decide ((N : Int) ≤ p) = true := by simpa using h2
      have y0 := YY.out.1; have y1 := YY.out.2
      have f0 := OW.out.1.2; have f1 := OW.out.2.2
      clear HIA HAE
      go_wp2_with fail
      rw [HR.out]
      first
        | exact bodyPost_ret (v := .tuple #[.agg #[.slice none 0 0, .slice none 0 0], .int .i64 1]) (by simp [results, Tryz.results98, go_sem, y0, y1, f0, f1, hz1]) rfl ⟨_, _, rfl, oS_nil _ _, oW_nil _ _, HB3.out⟩
        | exact bodyPost_ret (v := .tuple #[.agg #[.slice none 0 0, .slice none 0 0], .int .i64 1]) (by simp [results, Tryz.results98, go_sem, y0, y1, f0, f1, hz1]) rfl ⟨_, _, rfl, oS_nil _ _, oW_nil _ _, (HB3.out.setCell (by simp; have := HZ.out; omega) _).setCell (by simp; have := HZ.out; omega) _⟩
    have g2 : decide ((N : Int) ≤ p) = false := by simpa using h2
    by_cases h3 : ns = 64
    rotate_left
    · have HR : Hid (actE d (false, p, s) = (([], []), 1)) := by unfold Hid; rw [HAE.out, HIA.out, HNS.out, decide_eq_false h3]; simp
      have g3 : ((ns : Int) == 64) = false := by rw [beq_eq_false_iff_ne]; omega
      have y0 := YY.out.1; have y1 := YY.out.2
      have f0 := OW.out.1.2; have f1 := OW.out.2.2
      clear HIA HAE
      go_wp2_with fail
      rw [HR.out]
      first
        | exact bodyPost_ret (v := .tuple #[.agg #[.slice none 0 0, .slice none 0 0], .int .i64 1]) (by simp [results, Tryz.results98, go_sem, y0, y1, f0, f1, hz1]) rfl ⟨_, _, rfl, oS_nil _ _, oW_nil _ _, HB3.out⟩
        | exact bodyPost_ret (v := .tuple #[.agg #[.slice none 0 0, .slice none 0 0], .int .i64 1]) (by simp [results, Tryz.results98, go_sem, y0, y1, f0, f1, hz1]) rfl ⟨_, _, rfl, oS_nil _ _, oW_nil _ _, (HB3.out.setCell (by simp; have := HZ.out; omega) _).setCell (by simp; have := HZ.out; omega) _⟩
    have g3 : ((ns : Int) == 64) = true := by simp [h3]
    have HR : Hid (actE d (false, p, s) = ((d.1, d.2 ++ [(p, s)]), 0)) := by
      unfold Hid; rw [HAE.out, HIA.out, HNS.out, decide_eq_true h3, decide_eq_true (by omega : 0 ≤ p), decide_eq_true (by omega : p < (N : Int))]; rfl
    have HLD := hid (LD.start (w0 := w) (R := Z + 2) (D := w1.heap.size) HB3.out (by have := HZ.out; omega) hz1 rfl OW.out.1 OW.out.2)
    obtain ⟨w2, hw2⟩ : ∃ w2, w2 = w1.alloc (.cells #[.slice none 0 0, .slice none 0 0] 25) := ⟨_, rfl⟩
    have hba : Below w1.heap.size w1 w2 := by rw [hw2]; exact balloc (Below.refl _ _) _
    rw [← hw2] at HLD
    have HST : Hid (∀ (bk i : Nat) (u : Value), bk < w1.heap.size → w1.cell? ⟨bk, i, none⟩ = some u → w2.cell? ⟨bk, i, none⟩ = some u) := fun bk i u _ h => keepc hba h
    have HW2 := hid hw2
    clear hw2 hba HIA HAE h1 h2
    go_upto_region 15 with fail
    have e := HW2.out
    rw [← e]
    clear e HW2
    obtain ⟨D, hD⟩ : ∃ D, w1.heap.size = D := ⟨_, rfl⟩
    simp only [hD] at HLD HST hz1 ⊢
    clear hD
    have HLD0 : Hid (LD w (Z + 2) D (.slice none 0 0) (.slice none 0 0) (d.1.take 0) [] w2) := HLD.out
    clear HLD a0 a1 q0 q1 q2
    go_wp2_with fail
    go_loopw [9] (fun i wr => ∃ (k : Nat) (o : Option Addr) (c : Nat), i = .int .i64 (k : Int) ∧ k ≤ N ∧ Hid (LD w (Z + 2) D (.slice o k c) (.slice none 0 0) (d.1.take k) [] wr) ∧ Hid (∀ (bk i : Nat) (u : Value), bk < D → w1.cell? ⟨bk, i, none⟩ = some u → wr.cell? ⟨bk, i, none⟩ = some u)) (fun i _ => N - (intOf i).toNat)
    case atStart => exact ⟨0, none, 0, rfl, Nat.zero_le _, HLD0, HST⟩
    case round =>
      clear HLD0 HST
      obtain ⟨k, o, c, rfl, hk, HLD, HST⟩ := hrel
      have a0 := HST.out Z 0 _ (by omega) A0.out; have a1 := HST.out Z 1 _ (by omega) A1.out
      by_cases hlt : k < N
      · obtain ⟨x, hx⟩ : ∃ r, d.1[k]? = some r := ⟨_, List.getElem?_eq_getElem (by have := HN.out; omega)⟩
        have hP := H1.out
        rcases hP with hq | ⟨b1, off, rfl, -, hP⟩
        · rw [hq] at hx; simp at hx
        have x0 := keepc HLD.out.b (hP k x hx)
        have hlti : (k : Int) < (N : Int) := by omega
        have d0 := HLD.out.d0
        have df := HLD.out.df 0
        have HT1 : Hid (d.1.take (k + 1) = d.1.take k ++ [x]) := by unfold Hid; rw [List.take_add_one, hx]; rfl
        have hba := balloc (Below.refl wr.heap.size wr) (.cells #[strV x] 9)
        have HLY := hid (HLD.out.below hba.drew)
        have d0a := keepc hba d0
        have a0a := keepc hba a0
        have HLEN : Hid ((d.1.take k).length ≤ 1000000) := by unfold Hid; rw [List.length_take]; have := hdl.2; omega
        have HTL : Hid ((d.1.take k).length = k) := by unfold Hid; rw [List.length_take]; have := HN.out; omega
        have HBA := hid hba.drew
        have HNO := hid (fun kk (e : (Value.slice o k c).ownBlock = some kk) => (World.ownsRow.lt HLY.out.o1 kk e).1)
        clear hP hx hba
        go_wp2_with fail
        go_region_law (first
          | (refine step_appS (by rfl) (.tmp 69) (.tmp 75) (by rfl) (D + 1) (.slice o k c) (d.1.take k) x wr.heap.size 1 (by simp [Act.eval, Act.put]) (by simp [Act.eval, Act.put]) HLY.out.o1 (cellsS _ _ _ (cell_new wr #[strV x] 9 0 _ rfl)) HLEN.out (by have := HLY.out.dlt; omega) ?_; intro v13 w13 ho13 hg13 hat13; obtain ⟨o13, c13, hv13⟩ : ∃ o c, v13 = .slice o (k + 1) c := (by obtain ⟨o, c, e, -⟩ := ho13.rd; rw [List.length_append, HTL.out] at e; exact ⟨o, c, e⟩); subst hv13; have HPUT := hid (HLY.out.put1 hg13 ho13); obtain ⟨⟨x13, zz0⟩, zzf⟩ := own_grown' ⟨⟨_, HLY.out.d0⟩, HLY.out.df 0⟩ hg13 (fun e => by have := (World.ownsRow.lt HLY.out.o1 _ e).1; simp only at this; omega))
          | (fail "x"))
        all_goals
          obtain ⟨w14, hw14⟩ : ∃ w14, w14 = w13.setCell ⟨D, 0, none⟩ (.slice o13 (k + 1) c13) := ⟨_, rfl⟩
          have HN2 : Hid (LD w (Z + 2) D (.slice o13 (k + 1) c13) (.slice none 0 0) (d.1.take (k + 1)) [] w14) := by unfold Hid; rw [HT1.out, hw14]; exact HPUT.out
          have HST2 : Hid (∀ (bk i : Nat) (u : Value), bk < D → w1.cell? ⟨bk, i, none⟩ = some u → w14.cell? ⟨bk, i, none⟩ = some u) := fun bk i u hbk h => by
            rw [hw14, World.cell?_setCell_other _ _ _ _ (fun e => by cases e; omega)]
            exact grown_cell hg13 (fun e => by have := HNO.out _ e; simp only at this; omega) (keepc HBA.out (HST.out bk i u hbk h))
          have HW14 := hid hw14
          clear hw14 zz0 zzf ho13 hg13 hat13 d0 HPUT df d0a a0a a0 a1
          have e14 := HW14.out
          rw [← e14]
          clear e14
          go_wp2_with fail
          go_roundw
          case rel => exact ⟨k + 1, o13, c13, by go_num, by omega, HN2, HST2⟩
          case measure => simp [intOf]; omega
      · have hge : ¬ (k : Int) < (N : Int) := by omega
        have hkN : k = N := by omega
        subst hkN
        have hLD := HLD.out
        rw [List.take_of_length_le (by have := HN.out; omega)] at hLD
        have HLD1 : Hid (LD w (Z + 2) D (.slice o k c) (.slice none 0 0) d.1 (d.2.take 0) wr) := hLD
        have HST1 := HST
        obtain ⟨W3, hW3⟩ : ∃ W3, W3 = wr := ⟨_, rfl⟩
        subst hW3
        clear hLD HLD HST hlt a1
        go_wp2_with fail
        go_loopw [10] (fun i wr => ∃ (j : Nat) (oq : Option Addr) (cq : Nat), i = .int .i64 (j : Int) ∧ j ≤ M ∧ Hid (LD w (Z + 2) D (.slice o k c) (.slice oq j cq) d.1 (d.2.take j) wr) ∧ Hid (∀ (bk i : Nat) (u : Value), bk < D → w1.cell? ⟨bk, i, none⟩ = some u → wr.cell? ⟨bk, i, none⟩ = some u)) (fun i _ => M - (intOf i).toNat)
        case atStart => exact ⟨0, none, 0, rfl, Nat.zero_le _, HLD1, HST1⟩
        case round =>
          clear HLD1 HST1 a0
          obtain ⟨j, oq, cq, rfl, hj, HLD, HST⟩ := hrel
          have a1 := HST.out Z 1 _ (by omega) A1.out
          by_cases hlt : j < M
          · obtain ⟨⟨xp, xs⟩, hx⟩ : ∃ r, d.2[j]? = some r := ⟨_, List.getElem?_eq_getElem (by have := HM.out; omega)⟩
            have hP := H2.out
            rcases hP with hq | ⟨b1, off, rfl, -, hP⟩
            · rw [hq] at hx; simp at hx
            obtain ⟨x0, x1⟩ := hP j _ hx
            have x0 := keepc HLD.out.b x0; have x1 := keepc HLD.out.b x1
            have hltj : (j : Int) < (M : Int) := by omega
            have d1 := HLD.out.d1
            have df := HLD.out.df 1
            have HT1 : Hid (d.2.take (j + 1) = d.2.take j ++ [(xp, xs)]) := by unfold Hid; rw [List.take_add_one, hx]; rfl
            have hba := balloc (Below.refl wr.heap.size wr) (.cells #[.int .i64 xp, strV xs] 92)
            have HLY := hid (HLD.out.below hba.drew)
            have d1a := keepc hba d1
            have a1a := keepc hba a1
            have HLEN : Hid ((d.2.take j).length ≤ 1000000) := by unfold Hid; rw [List.length_take]; omega
            have HTL : Hid ((d.2.take j).length = j) := by unfold Hid; rw [List.length_take]; have := HM.out; omega
            have HBA := hid hba.drew
            have HNO := hid (fun kk (e : (Value.slice oq j cq).ownBlock = some kk) => (World.ownsRow.lt HLY.out.o2 kk e).1)
            clear hP hx hba
            go_wp2_with fail
            go_region_law (first
              | (refine step_appW (by rfl) (.tmp 86) (.tmp 92) (by rfl) (D + 1) (.slice oq j cq) (d.2.take j) (xp, xs) wr.heap.size 1 (by simp [Act.eval, Act.put]) (by simp [Act.eval, Act.put]) HLY.out.o2 (cellsW _ _ _ (cell_new wr #[.int .i64 xp, strV xs] 92 0 _ rfl) (cell_new wr #[.int .i64 xp, strV xs] 92 1 _ rfl)) HLEN.out (by have := HLY.out.dlt; omega) ?_; intro v13 w13 ho13 hg13 hat13; obtain ⟨o13, c13, hv13⟩ : ∃ o c, v13 = .slice o (j + 1) c := (by obtain ⟨o, c, e, -⟩ := ho13.rd; rw [List.length_append, HTL.out] at e; exact ⟨o, c, e⟩); subst hv13; have HPUT := hid (HLY.out.put2 hg13 ho13); obtain ⟨⟨x13, zz0⟩, zzf⟩ := own_grown' ⟨⟨_, HLY.out.d1⟩, HLY.out.df 1⟩ hg13 (fun e => by have := (World.ownsRow.lt HLY.out.o2 _ e).1; simp only at this; omega))
              | (fail "x"))
            all_goals
              obtain ⟨w14, hw14⟩ : ∃ w14, w14 = w13.setCell ⟨D, 1, none⟩ (.slice o13 (j + 1) c13) := ⟨_, rfl⟩
              have HN2 : Hid (LD w (Z + 2) D (.slice o k c) (.slice o13 (j + 1) c13) d.1 (d.2.take (j + 1)) w14) := by unfold Hid; rw [HT1.out, hw14]; exact HPUT.out
              have HST2 : Hid (∀ (bk i : Nat) (u : Value), bk < D → w1.cell? ⟨bk, i, none⟩ = some u → w14.cell? ⟨bk, i, none⟩ = some u) := fun bk i u hbk h => by
                rw [hw14, World.cell?_setCell_other _ _ _ _ (fun e => by cases e; omega)]
                exact grown_cell hg13 (fun e => by have := HNO.out _ e; simp only at this; omega) (keepc HBA.out (HST.out bk i u hbk h))
              have HW14 := hid hw14
              clear hw14 zz0 zzf ho13 hg13 hat13 d1 HPUT df d1a a1a a1
              have e14 := HW14.out
              rw [← e14]
              clear e14
              go_wp2_with fail
              go_roundw
              case rel => exact ⟨j + 1, o13, c13, by go_num, by omega, HN2, HST2⟩
              case measure => simp [intOf]; omega
          · have hge2 : ¬ (j : Int) < (M : Int) := by omega
            have hjM : j = M := by omega
            subst hjM
            have hLD := HLD.out
            rw [List.take_of_length_le (by have := HM.out; omega)] at hLD
            have HLDE := hid hLD
            have d1 := hLD.d1
            have q1 := HST.out (Z + 1) 1 _ (by omega) Q1.out; have q2 := HST.out (Z + 1) 2 _ (by omega) Q2.out
            have hba := balloc (Below.refl wr.heap.size wr) (.cells #[.int .i64 p, strV s] 92)
            have HLY := hid (HLDE.out.below hba)
            have HLEN : Hid (d.2.length ≤ 1000000) := by unfold Hid; rw [HM.out]; omega
            clear hba hLD hlt
            go_wp2_with (at_builtin; refine appW rfl _ _ rfl (D + 1) _ d.2 (p, s) _ _ rfl rfl HLY.out.o2 (cellsW _ _ _ (cell_new wr #[.int .i64 p, strV s] 92 0 _ rfl) (cell_new wr #[.int .i64 p, strV s] 92 1 _ rfl)) HLEN.out (by have := HLY.out.dlt; omega) ?_)
            intro v13 w13 ho13 hg13
            obtain ⟨o13, c13, hv13⟩ : ∃ o c, v13 = .slice o (j + 1) c := by obtain ⟨o, c, e, -⟩ := ho13.rd; rw [List.length_append, HM.out] at e; exact ⟨o, c, e⟩
            subst hv13
            have HPUT := hid (HLY.out.put2 hg13 ho13)
            obtain ⟨⟨x13, zz0⟩, zzf⟩ := own_grown' ⟨⟨_, HLY.out.d1⟩, HLY.out.df 1⟩ hg13 (fun e => by have := (World.ownsRow.lt HLY.out.o2 _ e).1; simp only at this; omega)
            obtain ⟨w14, hw14⟩ : ∃ w14, w14 = w13.setCell ⟨D, 1, none⟩ (.slice o13 (j + 1) c13) := ⟨_, rfl⟩
            rw [← hw14] at HPUT
            have HW14 := hid hw14
            clear ho13 hg13 hw14 d1 q1 q2 a1
            go_upto_region 24 with fail
            have e14 := HW14.out
            rw [← e14]
            clear e14 HW14 zz0 zzf
            have d0 := HPUT.out.d0; have d1 := HPUT.out.d1
            obtain ⟨⟨v0, y0⟩, f0⟩ := HPUT.out.r0
            obtain ⟨⟨v1, y1⟩, f1⟩ := HPUT.out.r1
            have hz : Z + 2 < w14.heap.size := World.block_lt_of_cell? _ _ y0
            go_wp2_with fail
            rw [HR.out]
            obtain ⟨e1, e2, e3⟩ := HPUT.out.end
            exact bodyPost_ret (v := .tuple #[.agg #[.slice o k c, .slice o13 (j + 1) c13], .int .i64 0]) (by simp [results, Tryz.results98, go_sem, y0, y1, f0, f1, hz]) rfl ⟨_, _, rfl, e1, e2, e3⟩
end Go.Proofs.YtifcgimpgbeocaaGreat
