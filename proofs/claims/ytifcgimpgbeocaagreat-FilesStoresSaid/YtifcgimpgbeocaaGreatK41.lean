/- The reference's Commit. -/
import Derived.Test.YtifcgimpgbeocaaGreatK33
import Derived.Test.YtifcgimpgbeocaaGreatK50
import Derived.Test.YtifcgimpgbeocaaGreatK38
import Derived.Test.YtifcgimpgbeocaaGreatK39
import Derived.Test.YtifcgimpgbeocaaGreatK40
import Derived.Test.YtifcgimpgbeocaaGreatK18
set_option linter.unusedVariables false
set_option linter.unusedSimpArgs false
namespace Go.Proofs.YtifcgimpgbeocaaGreat
open Go.RowKit
attribute [local go_sem] Oper.semAt_some
set_option maxHeartbeats 8000000 in
set_option maxRecDepth 100000 in
theorem rcommit_any (U : Nat → Prop) (st : St) (v : Value) (w : World) (hU : ∀ k, U k → k < w.heap.size) (hS : KSt U w v st) (hL : Live st) (hlo : st.ops.length ≤ 1000) (hla : st.acts.length ≤ 800000) :
    Calls Tryz.prog 20 #[v] w (RetCo U (commitD st) w) := by
  have HU := hid hU
  have HLV := hid hL
  have hdl := isDk_len hL.as_.dk
  have hhp := hdOk_parts hL.as_.hd
  have hnow8 : st.now.length ≤ 8 := by rw [now_len hL]; omega
  have HLO := hid hlo; have HLA := hid hla
  obtain ⟨vk, vn, vo, vp, vq, va, rfl, k1, k2, k3, k4, k5, k6⟩ := hS
  have Q1 := hid k1; have Q2 := hid k2; have Q3 := hid k3; have Q4 := hid k4; have Q5 := hid k5; have Q6 := hid k6
  obtain ⟨ok, ck, hvk, -, -⟩ := k1.now
  obtain ⟨on, cn, hvn, -, -⟩ := k2.now
  obtain ⟨oo, co, hvo, -, -⟩ := k3.now
  obtain ⟨op, cp, hvp, -, -⟩ := k4.now
  obtain ⟨oq, cq, hvq, -, -⟩ := k5.now
  obtain ⟨oa, ca, hva, -, -⟩ := k6.now
  obtain ⟨nk, hnk⟩ : ∃ n, st.kept.length = n := ⟨_, rfl⟩
  obtain ⟨nn, hnn⟩ : ∃ n, st.now.length = n := ⟨_, rfl⟩
  obtain ⟨no, hno⟩ : ∃ n, st.ops.length = n := ⟨_, rfl⟩
  obtain ⟨np, hnp⟩ : ∃ n, st.dk.1.length = n := ⟨_, rfl⟩
  obtain ⟨nq, hnq⟩ : ∃ n, st.dk.2.length = n := ⟨_, rfl⟩
  obtain ⟨na, hna⟩ : ∃ n, st.acts.length = n := ⟨_, rfl⟩
  rw [hnk] at hvk; rw [hnn] at hvn; rw [hno] at hvo; rw [hnp] at hvp; rw [hnq] at hvq; rw [hna] at hva
  have NK := hid hnk; have NN := hid hnn; have NO := hid hno; have NP := hid hnp; have NQ := hid hnq; have NA := hid hna
  subst hvk; subst hvn; subst hvo; subst hvp; subst hvq; subst hva
  obtain ⟨hd, hhd⟩ : ∃ x, st.hd = x := ⟨_, rfl⟩
  rw [hhd]
  have HHD := hid hhd
  clear k1 k2 k3 k4 k5 k6 hnk hnn hno hnp hnq hna hhd
  obtain ⟨W0, hW0⟩ : ∃ x, x = w.alloc (.cells #[.int .i64 hd.1, .int .i64 hd.2.1, .int .i64 hd.2.2.1, .int .i64 hd.2.2.2, .slice ok nk ck, .slice on nn cn, .slice oo no co, .slice op np cp, .slice oq nq cq, .slice oa na ca] 39) := ⟨_, rfl⟩
  have hbW0 : Below w.heap.size w W0 := by rw [hW0]; exact balloc (Below.refl _ _) _
  have hzW0 : W0.heap.size = w.heap.size + 1 := by rw [hW0]; simp
  have hcW0 : StC W0 w.heap.size hd (.slice ok nk ck) (.slice on nn cn) (.slice oo no co) (.slice op np cp) (.slice oq nq cq) (.slice oa na ca) := by rw [hW0]; exact StC.new _ _ _ _ _ _ _ _
  have hoW0 : ∀ k, k < 10 → OwnC W0 ⟨w.heap.size, k, none⟩ := by rw [hW0]; exact own_newN w _ _ 10 (by simp)
  obtain ⟨W1, hW1⟩ : ∃ x, x = W0.alloc (.cells #[.int .i64 0, .int .i64 0, .int .i64 0, .int .i64 0, nilS, nilS, nilS, nilS, nilS, nilS] 39) := ⟨_, rfl⟩
  have hbW1 : Below W0.heap.size W0 W1 := by rw [hW1]; exact balloc (Below.refl _ _) _
  have hzW1 : W1.heap.size = W0.heap.size + 1 := by rw [hW1]; simp
  have hoW1 : ∀ k, k < 10 → OwnC W1 ⟨W0.heap.size, k, none⟩ := by rw [hW1]; exact own_newN W0 _ _ 10 (by simp)
  have HC := hid (hcW0.below hbW1); have HY := hid (by rw [hzW0] at hoW1; exact hoW1)
  have HB := hid (below_step hbW1 hbW0)
  have HS1 : Hid (W1.heap.size = w.heap.size + 2) := by unfold Hid; omega
  have HW0 := hid hW0; have HW1 := hid hW1
  have HZ0 := hid hzW0
  have HLB := hid (fun w' (hb : Below w.heap.size w w') => rlogbytes_any st.dk (.slice op np cp) (.slice oq nq cq) st.hd.2.1 st.hd.2.2.2 w' (Q4.out.now.below hb) (Q5.out.now.below hb) hL.as_.dk hhp.2.2.1 hhp.2.2.2.2.2 (by rw [hL.as_.nw]; exact Nat.zero_le _))
  have HBY := hid (fun w' (hb : Below w.heap.size w w') => rbytes_any st.ops (.slice oo no co) w' (Q3.out.now.below hb) (by omega) (fun o ho => chg_bd (hL.chg o ho)))
  rw [hL.as_.cont] at HLB
  have hll := hL.as_.loglen
  have htn := live_turn hL
  have htb := hL.as_.turn
  rw [HHD.out] at HLB hll htn htb hhp
  rw [NP.out] at hdl hhp
  obtain ⟨Z, hZ⟩ : ∃ x, w.heap.size = x := ⟨_, rfl⟩
  have HZ := hid hZ
  rw [hZ] at HC HY HZ0
  have hencl : (encL st.ops).length ≤ 514000 := by have := encL_bd st.ops (fun o ho => chg_bd (hL.chg o ho)); omega
  have hhb : halfN np ≤ 2047 := by unfold halfN; omega
  have hRv : room st = 64 * halfN np := by unfold room; rw [NP.out]
  obtain ⟨R, hR⟩ : ∃ R, room st = R := ⟨_, rfl⟩
  rw [hR] at hRv
  have HRM := hid hR
  have e1 : IntKind.i64.wrap (64 * (halfN np : Int)) = (R : Int) := by rw [IntWalk.i64_in _ ⟨by omega, by omega⟩]; omega
  have HPO := hid (fun w' => rpagesof_any np w' (by omega) (by omega))
  have HDL := hid hdl; have HHP := hid hhp; have HLL := hid hll; have HTN := hid htn; have HTB := hid htb; have HEN := hid hencl; have HHB := hid hhb; have HRV := hid hRv; have HN8 := hid hnow8
  clear hW0 hW1 hbW0 hbW1 hzW0 hzW1 hcW0 hoW0 hoW1 hZ hU hL hdl hhp hnow8 hlo hla hll hencl hhb hRv hR
  go_enter Tryz.func20, Tryz.ntmps20
  go_upto_region 1 with fail
  have e := HW0.out
  simp only [← e]
  have e2 := HW1.out
  simp only [← e2]
  clear e e2 HW0 HW1
  try rw [HZ0.out]
  try rw [HZ.out]
  obtain ⟨k0, k1, k2, k3, k4, k5, k6, k7, k8, k9⟩ := HC.out
  have hle : w.heap.size ≤ Z := by have := HZ.out; omega
  by_cases hnil : st.ops = []
  · have hno : ((no : Int) == 0) = true := by have := NO.out; rw [hnil] at this; rw [← this]; rfl
    have HCD : Hid (commitD st = (st, 0)) := commitD_nil hnil
    obtain ⟨⟨yv0, y0⟩, f0⟩ := HY.out 0 (by decide)
    obtain ⟨⟨yv1, y1⟩, f1⟩ := HY.out 1 (by decide)
    obtain ⟨⟨yv2, y2⟩, f2⟩ := HY.out 2 (by decide)
    obtain ⟨⟨yv3, y3⟩, f3⟩ := HY.out 3 (by decide)
    obtain ⟨⟨yv4, y4⟩, f4⟩ := HY.out 4 (by decide)
    obtain ⟨⟨yv5, y5⟩, f5⟩ := HY.out 5 (by decide)
    obtain ⟨⟨yv6, y6⟩, f6⟩ := HY.out 6 (by decide)
    obtain ⟨⟨yv7, y7⟩, f7⟩ := HY.out 7 (by decide)
    obtain ⟨⟨yv8, y8⟩, f8⟩ := HY.out 8 (by decide)
    obtain ⟨⟨yv9, y9⟩, f9⟩ := HY.out 9 (by decide)
    have hz := World.block_lt_of_cell? _ _ y0
    have hb9 := setSt_below HB.out (show w.heap.size ≤ Z + 1 by omega) hd (.slice ok nk ck) (.slice on nn cn) (.slice oo no co) (.slice op np cp) (.slice oq nq cq) (.slice oa na ca)
    clear hnil htn htb
    go_wp2_with fail
    rw [HCD.out]
    refine bodyPost_ret (v := .tuple #[stV hd (.slice ok nk ck) (.slice on nn cn) (.slice oo no co) (.slice op np cp) (.slice oq nq cq) (.slice oa na ca), .int .i64 0]) (by simp [results, Tryz.results20, go_sem, y0, y1, y2, y3, y4, y5, y6, y7, y8, y9, hz]) rfl ?_
    exact ⟨_, rfl, ⟨_, _, _, _, _, _, by show _ = stV st.hd _ _ _ _ _ _; rw [HHD.out], Q1.out.below hb9, Q2.out.below hb9, Q3.out.below hb9, Q4.out.below hb9, Q5.out.below hb9, Q6.out.below hb9⟩, hb9⟩
  have hno : ((no : Int) == 0) = false := by
    have := NO.out
    cases hx : st.ops with
    | nil => exact absurd hx hnil
    | cons a b => rw [hx] at this; simp at this; simp; omega
  have htb' : (((hd.1 : Nat) : Int) == 4294967295) = false := by simp; omega
  have HNIL := hid hnil
  clear hnil
  go_wp2_with fail
  refine (HPO.out _).mono ?_
  rintro e w2 ⟨rfl, hb2⟩
  have HC2 := hid (HC.out.below hb2)
  have k0 := keepc hb2 k0; have k1 := keepc hb2 k1; have k2 := keepc hb2 k2
  have hw1 : IntKind.i64.wrap ((hd.1 : Int) + 1) = (hd.1 : Int) + 1 := IntWalk.i64_in _ ⟨by omega, by omega⟩
  have HHI := hid (HdB.newH w2 (hd.1 + 1, hd.2.1, hd.2.2.1, 0))
  obtain ⟨W2, hW2⟩ : ∃ x, x = w2.alloc (.cells #[.int .i64 ((hd.1 : Int) + 1), .int .i64 hd.2.1, .int .i64 hd.2.2.1, .int .i64 0] 34) := ⟨_, rfl⟩
  have hb3 : Below w2.heap.size w2 W2 := by rw [hW2]; exact balloc (Below.refl _ _) _
  have HHI : Hid (HdB W2 w2.heap.size (hd.1 + 1, hd.2.1, hd.2.2.1, 0)) := by rw [hW2]; exact HHI.out
  have HB2 := hid (below_step hb3 (below_step hb2 HB.out))
  have HB12 := hid (below_step hb3 hb2)
  have HC3 := hid (HC2.out.below hb3)
  have HWZ : Hid (Z + 2 ≤ w2.heap.size) := by have := hb2.size; have := HS1.out; have := HZ.out; unfold Hid; omega
  have HW2 := hid hW2
  obtain ⟨H, hH⟩ : ∃ x, w2.heap.size = x := ⟨_, rfl⟩
  rw [hH] at HHI HWZ
  have HH := hid hH
  have HHW2 : Hid (H < W2.heap.size) := World.block_lt_of_cell? _ _ HHI.out.1
  clear hW2 hb2 hb3 hH htn
  go_upto_region 7 with fail
  have e := HW2.out
  simp only [← e]
  try rw [HH.out]
  clear e HW2 k0 k1 k2 k3 k4 k5 k6 k7 k8 k9
  have HCK3 := HC3
  obtain ⟨k0, k1, k2, k3, k4, k5, k6, k7, k8, k9⟩ := HC3.out
  go_cut [6] (fun x6 wx => x6 = strV (st.log ++ encL st.ops) ∧ Hid (Below W2.heap.size W2 wx))
  case first =>
    have hbd := drew_below W2
    have hsm : st.log.length + (encL st.ops).length ≤ 9223372036854775807 := by have := HEN.out; have := HLL.out; have := HHP.out.2.2.2.2.2; have := HHB.out; omega
    go_region_held3 (fun w' => Below W2.heap.size W2 w' ∧ w'.cell? ⟨Z, 1, none⟩ = some (.int .i64 hd.2.1) ∧ w'.cell? ⟨Z, 3, none⟩ = some (.int .i64 hd.2.2.2) ∧ w'.cell? ⟨Z, 6, none⟩ = some (.slice oo no co) ∧ w'.cell? ⟨Z, 7, none⟩ = some (.slice op np cp) ∧ w'.cell? ⟨Z, 8, none⟩ = some (.slice oq nq cq))
      ((refine (fun hS => ⟨hS, keepc hS k1, keepc hS k3, keepc hS k6, keepc hS k7, keepc hS k8⟩ : Below W2.heap.size W2 _ → _) ?_; first | exact hbd | exact hb5))
      (first
        | (go_at_call 45; refine (HLB.out _ (below_step hbd HB2.out)).mono ?_; rintro e w5 ⟨rfl, hb5'⟩; have hb5 : Below W2.heap.size W2 w5 := below_step hb5' hbd; clear hb5')
        | (go_at_call 55; refine (HBY.out _ (below_step hb5 HB2.out)).mono ?_; rintro e w6 ⟨rfl, hb6'⟩; have hb5 : Below W2.heap.size W2 w6 := below_step hb6' (And.left (by assumption)); clear hb6')
        | (fail "x"))
    all_goals
      go_wp2_with fail
      go_meet
      case rel => exact ⟨by simp, hid (And.left (by assumption))⟩
  case rest =>
  obtain ⟨rfl, HB3⟩ := hcut
  obtain ⟨w3, hw3⟩ : ∃ x, x = wc := ⟨_, rfl⟩
  subst hw3
  have HB03 := hid (below_step HB3.out HB2.out)
  have HHI := hid (HHI.out.below HB3.out)
  have HC4 := hid (HC3.out.below HB3.out)
  obtain ⟨k0', k1', k2', k3', k4', k5', k6', k7', k8', k9'⟩ := HC4.out
  have HTL := hid (show (st.log ++ encL st.ops).length = st.log.length + (encL st.ops).length from List.length_append)
  obtain ⟨T, hT⟩ : ∃ T, st.log ++ encL st.ops = T := ⟨_, rfl⟩
  simp only [hT] at HTL ⊢
  have HTT := hid hT
  obtain ⟨F0, hF0⟩ : ∃ F0, st.log.length / 64 = F0 := ⟨_, rfl⟩
  have hdv : wrap64 ((hd.2.2.2 : Int) / 64) = (F0 : Int) := by
    have h1 := HLL.out; have h2 := HHP.out.2.2.2.2.2; have h3 := HHB.out
    unfold wrap64
    omega
  have HF0 := hid hF0
  clear hF0
  clear hT k0 k1 k2 k3 k4 k5 k6 k7 k8 k9 HLB HBY
  go_upto_if 59 with (fail)
  go_cut [6, 7] (fun x6 x7 wx => x6 = strV (nBytes st) ∧ (∃ F1 : Nat, x7 = .int .i64 (F1 : Int) ∧ Hid (F1 = nFrom st / 64)) ∧ Hid ((nBytes st).length ≤ R) ∧ Hid (HdB wx H (hd.1 + 1, nLog st, hd.2.2.1, 0)) ∧ Hid (Below w.heap.size w wx) ∧ Hid (Frm (fun k => k = H) w3 wx))
  case first =>
    by_cases hfull : R < T.length
    · have g64 : decide (R < T.length) = true := decide_eq_true hfull
      rw [g64]
      have HF1 : Hid (full1 st = true) := by unfold Hid full1; rw [HRM.out, HTT.out]; exact decide_eq_true (by omega)
      have HE5 : Hid (nBytes st = encL (snap 0 st.now)) := by unfold Hid nBytes; rw [HF1.out]; rfl
      have HE6 : Hid (nFrom st = 0) := by unfold Hid nFrom; rw [HF1.out]; rfl
      have HE7 : Hid (nLog st = 1 - hd.2.1) := by unfold Hid nLog; rw [HF1.out, HHD.out]; rfl
      have HSN := hid (rsnapshot_any st.now (.slice on nn cn) w3 (Q2.out.now.below HB03.out) HN8.out (now_all HLV.out))
      have k5' := HC4.out.2.2.2.2.2.1
      clear hfull
      go_wp2_with fail
      refine HSN.out.mono ?_
      rintro e w4 ⟨v4, rfl, ho4, hb4⟩
      have HSL : Hid ((snap 0 st.now).length ≤ 1000000) := by
        have h1 := snap_len st.now 0 (fun x hx => isDs_len (now_all HLV.out x hx))
        have := HN8.out
        unfold Hid; omega
      have HB2' := hid (rbytes_any (snap 0 st.now) v4 w4 ho4.rd HSL.out (fun o ho => chg_bd (snap_chg st.now 0 (now_all HLV.out) (by have := HN8.out; omega) o ho)))
      obtain ⟨o4, n4, c4, rfl⟩ : ∃ o n c, v4 = .slice o n c := by obtain ⟨o, c, e, -⟩ := ho4.rd; exact ⟨o, _, c, e⟩
      have HB4 := hid (below_step hb4 HB03.out)
      have HB34 := hid hb4
      clear ho4 hb4
      go_wp2_with fail
      refine HB2'.out.mono ?_
      rintro e w5 ⟨rfl, hb5⟩
      have HB5 := hid (below_step hb5 HB4.out)
      have HB35 := hid (below_step hb5 HB34.out)
      have HHI5 := hid (HHI.out.below HB35.out)
      have k1' := HC4.out.2.1
      have k1' := keepc HB35.out k1'
      have HE5B := hid HE5.out
      obtain ⟨NB, hNB⟩ : ∃ NB, encL (snap 0 st.now) = NB := ⟨_, rfl⟩
      rw [hNB] at HE5
      rw [hNB]
      clear hb5 hNB HE5B
      by_cases hroom : R < NB.length
      · have g1 : decide (R < NB.length) = true := decide_eq_true hroom
        have HCD : Hid (commitD st = (st, 144)) := commitD_full HNIL.out (live_turn HLV.out) (by rw [HRM.out, HE5.out]; exact hroom)
        have HY5 := hid (fun k hk => keepOwn HB35.out (keepOwn HB3.out (keepOwn HB12.out (HY.out k hk))))
        obtain ⟨k0, k1, k2, k3, k4, k5, k6, k7, k8, k9⟩ := HC4.out.below HB35.out
        obtain ⟨⟨yv0, y0⟩, f0⟩ := HY5.out 0 (by decide)
        obtain ⟨⟨yv1, y1⟩, f1⟩ := HY5.out 1 (by decide)
        obtain ⟨⟨yv2, y2⟩, f2⟩ := HY5.out 2 (by decide)
        obtain ⟨⟨yv3, y3⟩, f3⟩ := HY5.out 3 (by decide)
        obtain ⟨⟨yv4, y4⟩, f4⟩ := HY5.out 4 (by decide)
        obtain ⟨⟨yv5, y5⟩, f5⟩ := HY5.out 5 (by decide)
        obtain ⟨⟨yv6, y6⟩, f6⟩ := HY5.out 6 (by decide)
        obtain ⟨⟨yv7, y7⟩, f7⟩ := HY5.out 7 (by decide)
        obtain ⟨⟨yv8, y8⟩, f8⟩ := HY5.out 8 (by decide)
        obtain ⟨⟨yv9, y9⟩, f9⟩ := HY5.out 9 (by decide)
        have hz := World.block_lt_of_cell? _ _ y0
        have hb9 := setSt_below HB5.out (show w.heap.size ≤ Z + 1 by omega) hd (.slice ok nk ck) (.slice on nn cn) (.slice oo no co) (.slice op np cp) (.slice oq nq cq) (.slice oa na ca)
        clear hroom
        go_wp2_with fail
        rw [HCD.out]
        refine bodyPost_ret (v := .tuple #[stV hd (.slice ok nk ck) (.slice on nn cn) (.slice oo no co) (.slice op np cp) (.slice oq nq cq) (.slice oa na ca), .int .i64 144]) (by simp [results, Tryz.results20, go_sem, y0, y1, y2, y3, y4, y5, y6, y7, y8, y9, hz]) rfl ?_
        exact ⟨_, rfl, ⟨_, _, _, _, _, _, by show _ = stV st.hd _ _ _ _ _ _; rw [HHD.out], Q1.out.below hb9, Q2.out.below hb9, Q3.out.below hb9, Q4.out.below hb9, Q5.out.below hb9, Q6.out.below hb9⟩, hb9⟩
      · have g1 : decide (R < NB.length) = false := decide_eq_false hroom
        have hl1 : hd.2.1 ≤ 1 := HHP.out.2.2.1
        have q1 : IntKind.i64.wrap (1 - (hd.2.1 : Int)) = ((1 - hd.2.1 : Nat) : Int) := by rw [IntWalk.i64_in _ ⟨by omega, by omega⟩]; omega
        obtain ⟨z0, z1, z2, z3, zf⟩ := HHI5.out
        have f1 := zf 1 (by decide)
        have HZN : Hid (HdB (w5.setCell ⟨H, 1, none⟩ (.int .i64 ((1 - hd.2.1 : Nat) : Int))) H (hd.1 + 1, 1 - hd.2.1, hd.2.2.1, 0)) :=
          ⟨by rw [setB _ _ _ _ _ (by decide)]; exact z0, sameS _ z1, by rw [setB _ _ _ _ _ (by decide)]; exact z2, by rw [setB _ _ _ _ _ (by decide)]; exact z3, fun j hj => by rw [World.frozen?_setCell]; exact zf j hj⟩
        have HBN := hid (HB5.out.setCell (p := ⟨H, 1, none⟩) (by show w.heap.size ≤ H; have := HWZ.out; omega) (.int .i64 ((1 - hd.2.1 : Nat) : Int)))
        have HFN : Hid (Frm (fun k => k = H) w3 (w5.setCell ⟨H, 1, none⟩ (.int .i64 ((1 - hd.2.1 : Nat) : Int)))) := (Frm.of_below HB35.out).trans (frm_setCell (Frm.refl _ _) (by rfl) _) (fun i _ h => h)
        have HRO : Hid (NB.length ≤ R) := by unfold Hid; omega
        clear zf hroom
        go_wp2_with fail
        go_meet
        case rel => exact ⟨by rw [HE5.out], ⟨0, rfl, by rw [HE6.out]; rfl⟩, by rw [HE5.out]; exact HRO, by rw [HE7.out]; exact HZN, HBN, HFN⟩
    · have g64 : decide (R < T.length) = false := decide_eq_false hfull
      rw [g64]
      have HF1 : Hid (full1 st = false) := by unfold Hid full1; rw [HRM.out, HTT.out]; exact decide_eq_false (by omega)
      have HE5 : Hid (nBytes st = T) := by unfold Hid nBytes; rw [HF1.out]; exact HTT.out
      have HE6 : Hid (nFrom st = st.log.length) := by unfold Hid nFrom; rw [HF1.out]; rfl
      have HE7 : Hid (nLog st = hd.2.1) := by unfold Hid nLog; rw [HF1.out, HHD.out]; rfl
      have HRO : Hid (T.length ≤ R) := by unfold Hid; omega
      clear hfull
      go_wp2_with fail
      go_meet
      case rel => exact ⟨by rw [HE5.out], ⟨F0, by rw [hdv], by rw [HE6.out]; exact HF0.out.symm⟩, by rw [HE5.out]; exact HRO, by rw [HE7.out]; exact HHI, HB03, Frm.refl _ _⟩
  case rest =>
  obtain ⟨rfl, ⟨F1, rfl, HF1⟩, HRO, HHI, HB04, HF4⟩ := hcut
  obtain ⟨w4, hw4⟩ : ∃ x, x = wc := ⟨_, rfl⟩
  subst hw4
  have hlg1 : nLog st ≤ 1 := nLog_le HLV.out
  have HNH : Hid (nHd st = (hd.1 + 1, nLog st, hd.2.2.1, (nBytes st).length)) := by unfold Hid nHd; rw [HHD.out]
  have HHA : Hid (headA st = (false, (((hd.1 + 1) % 2 : Nat) : Int), headPg (nHd st))) := by unfold Hid headA; rw [HHD.out]
  have HCD : Hid (commitD st = (commitSt st, 0)) := commitD_ok HNIL.out (live_turn HLV.out) (by rw [HRM.out]; have := HRO.out; omega)
  have HCE := hid (commit_eq st)
  rw [NP.out] at HCE
  have hfr1 : nFrom st ≤ (nBytes st).length := by
    unfold nFrom nBytes
    split
    · exact Nat.zero_le _
    · rw [List.length_append]; omega
  obtain ⟨NB, hNB⟩ : ∃ NB, nBytes st = NB := ⟨_, rfl⟩
  obtain ⟨LG, hLG⟩ : ∃ LG, nLog st = LG := ⟨_, rfl⟩
  obtain ⟨FR, hFR⟩ : ∃ FR, nFrom st = FR := ⟨_, rfl⟩
  simp only [hNB, hLG, hFR] at hlg1 HNH HCE HRO HHI HF1 hfr1 ⊢
  have HFR := hid hfr1
  clear hNB hLG hFR hfr1
  have hzlt := World.block_lt_of_cell? _ _ k0'
  have hHZ : ¬ H = Z := by have := HWZ.out; omega
  have hHY : ¬ H = Z + 1 := by have := HWZ.out; omega
  have HY3 : Hid (∀ k, k < 10 → OwnC w3 ⟨Z + 1, k, none⟩) := fun k hk => keepOwn HB3.out (keepOwn HB12.out (HY.out k hk))
  obtain ⟨W5, hW5⟩ : ∃ x, x = w4.setCell ⟨H, 3, none⟩ (.int .i64 (NB.length : Int)) := ⟨_, rfl⟩
  have hf5 : Frm (fun k => k = H) w3 W5 := by rw [hW5]; exact HF4.out.trans (frm_setCell (Frm.refl _ _) (by rfl) _) (fun i _ h => h)
  have HC5 := hid (HC4.out.frm hf5 (fun e => hHZ e.symm))
  have HY5 : Hid (∀ k, k < 10 → OwnC W5 ⟨Z + 1, k, none⟩) := fun k hk => hf5.ownc (fun e => hHY e.symm) (HY3.out k hk)
  have HB05 : Hid (Below w.heap.size w W5) := by rw [hW5]; exact HB04.out.setCell (by show w.heap.size ≤ H; have := HWZ.out; omega) _
  obtain ⟨h0, h1, h2, h3, hf⟩ := HHI.out
  have HH5 : Hid (HdB W5 H (hd.1 + 1, LG, hd.2.2.1, NB.length)) := by
    rw [hW5]
    exact ⟨by rw [setB _ _ _ _ _ (by decide)]; exact h0, by rw [setB _ _ _ _ _ (by decide)]; exact h1, by rw [setB _ _ _ _ _ (by decide)]; exact h2, sameS _ h3, fun j hj => by rw [World.frozen?_setCell]; exact hf j hj⟩
  have f3 := hf 3 (by decide)
  have HW5 := hid hW5
  have HNBL : Hid (NB.length ≤ 131008) := by have h1 := HRO.out; have h2 := HRV.out; have h3 := HHB.out; unfold Hid at *; omega
  clear hW5 hf5 hf k0' k1' k2' k3' k4' k5' k6' k7' k8' k9' hzlt hdv
  go_upto_region 16 with fail
  have e := HW5.out
  simp only [← e]
  clear e HW5 h0 h1 h2 h3 f3
  obtain ⟨FP, hFP0⟩ : ∃ x, firstPg np LG = x := ⟨_, rfl⟩
  have HFP := hid hFP0
  clear hFP0
  go_cut [8] (fun x8 wx => x8 = .int .i64 (FP : Int) ∧ Hid (Below W5.heap.size W5 wx))
  case first =>
    have k7 := HC5.out.2.2.2.2.2.2.2.1
    have h1 := HH5.out.2.1
    have hhb := HHB.out
    have hfp : FP = 2 + LG * halfN np := HFP.out.symm
    obtain ⟨HF, hHF⟩ : ∃ x, halfN np = x := ⟨_, rfl⟩
    rw [hHF] at HPO hhb hfp
    have hmul : IntKind.i64.wrap ((LG : Int) * (HF : Int)) = ((LG * HF : Nat) : Int) := by
      have : LG = 0 ∨ LG = 1 := by omega
      rcases this with rfl | rfl <;> (rw [IntWalk.i64_in _ ⟨by omega, by omega⟩]; omega)
    have hadd : IntKind.i64.wrap (2 + ((LG * HF : Nat) : Int)) = (FP : Int) := by
      have : LG = 0 ∨ LG = 1 := by omega
      rcases this with rfl | rfl <;> (rw [IntWalk.i64_in _ ⟨by omega, by omega⟩]; omega)
    obtain ⟨LH, hLH⟩ : ∃ x, LG * HF = x := ⟨_, rfl⟩
    rw [hLH] at hmul hadd
    have hbd := drew_below W5
    clear hfp hHF hLH
    go_region_held3 (fun w' => Below W5.heap.size W5 w' ∧ w'.cell? ⟨H, 1, none⟩ = some (.int .i64 (LG : Int)) ∧ w'.cell? ⟨Z, 7, none⟩ = some (.slice op np cp))
      ((refine (fun hS => ⟨hS, keepc hS h1, keepc hS k7⟩ : Below W5.heap.size W5 _ → _) ?_; first | exact hbd | exact hb5))
      (first
        | (go_at_call 54; refine (HPO.out _).mono ?_; rintro e w5 ⟨rfl, hb5'⟩; have hb5 : Below W5.heap.size W5 w5 := below_step hb5' hbd; clear hb5')
        | (fail "x"))
    all_goals
      go_wp2_with fail
      go_meet
      case rel => exact ⟨rfl, hid hb5⟩
  case rest =>
  obtain ⟨rfl, HB6⟩ := hcut
  obtain ⟨w6, hw6⟩ : ∃ x, x = wc := ⟨_, rfl⟩
  subst hw6
  have HB06 := hid (below_step HB6.out HB05.out)
  have HH6 := hid (HH5.out.below HB6.out)
  have HY6 : Hid (∀ k, k < 10 → OwnC w6 ⟨Z + 1, k, none⟩) := fun k hk => keepOwn HB6.out (HY5.out k hk)
  obtain ⟨k0, k1, k2, k3, k4, k5, k6, k7, k8, k9⟩ := HC5.out.below HB6.out
  have HSTN := hid (StC.new w6 hd (.slice ok nk ck) (.slice on nn cn) (.slice oo no co) (.slice op np cp) (.slice oq nq cq) (.slice oa na ca))
  have HOWN := hid (own_newN w6 #[.int .i64 hd.1, .int .i64 hd.2.1, .int .i64 hd.2.2.1, .int .i64 hd.2.2.2, .slice ok nk ck, .slice on nn cn, .slice oo no co, .slice op np cp, .slice oq nq cq, .slice oa na ca] 39 10 (by simp))
  obtain ⟨W7, hW7⟩ : ∃ x, x = w6.alloc (.cells #[.int .i64 hd.1, .int .i64 hd.2.1, .int .i64 hd.2.2.1, .int .i64 hd.2.2.2, .slice ok nk ck, .slice on nn cn, .slice oo no co, .slice op np cp, .slice oq nq cq, .slice oa na ca] 39) := ⟨_, rfl⟩
  have hb7 : Below w6.heap.size w6 W7 := by rw [hW7]; exact balloc (Below.refl _ _) _
  rw [← hW7] at HSTN HOWN
  have hz7 : W7.heap.size = w6.heap.size + 1 := by rw [hW7]; simp
  obtain ⟨O, hO⟩ : ∃ x, w6.heap.size = x := ⟨_, rfl⟩
  rw [hO] at HSTN HOWN hz7
  have HO := hid hO
  have HHO : Hid (H < O) := by rw [← hO]; exact World.block_lt_of_cell? _ _ HH6.out.1
  obtain ⟨UO, hUO⟩ : ∃ u : Nat → Prop, u = fun k => U k ∨ k = O ∨ k = Z + 1 := ⟨_, rfl⟩
  have HUO : Hid (∀ k, UO k ↔ U k ∨ k = O ∨ k = Z + 1) := fun k => by rw [hUO]
  have HB07 := hid (below_step hb7 HB06.out)
  have HUB : Hid (∀ k, UO k → k < W7.heap.size) := fun k hk => by
    have h1 := HHO.out; have h2 := HWZ.out; have h3 := HZ.out
    rcases (HUO.out k).1 hk with h | h | h
    · have := HU.out k h; omega
    · omega
    · omega
  have HUK : Hid (∀ k, UO k → U k ∨ w.heap.size ≤ k) := fun k hk => by
    have h1 := HHO.out; have h2 := HWZ.out; have h3 := HZ.out
    rcases (HUO.out k).1 hk with h | h | h
    · exact .inl h
    · exact .inr (by omega)
    · exact .inr (by omega)
  have OUT0 : Hid (OutI UO w W7.heap.size (Z + 1) O H (hd.1 + 1, LG, hd.2.2.1, NB.length) hd (.slice ok nk ck) (.slice on nn cn) (.slice oo no co) (.slice op np cp) (.slice oq nq cq) (.slice oa na ca) (actsSt st (((layW np LG FR NB).take 0).map wrA)) W7) := by
    refine ⟨HSTN.out, HOWN.out, ?_, HB07.out, Nat.le_refl _, HH6.out.below hb7, fun k hk => keepOwn hb7 (HY6.out k hk)⟩
    rw [List.take_zero, List.map_nil, actsSt_nil]
    have hfb := Frm.of_below (F := U) HB07.out
    exact ⟨_, _, _, _, _, _, by rw [HHD.out], Q1.out.step hfb HUK.out, Q2.out.step hfb HUK.out, Q3.out.step hfb HUK.out, Q4.out.step hfb HUK.out, Q5.out.step hfb HUK.out, Q6.out.step hfb HUK.out⟩
  have HY7 : Hid (∀ k, k < 10 → OwnC W7 ⟨Z + 1, k, none⟩) := fun k hk => keepOwn hb7 (HY6.out k hk)
  have HW7 := hid hW7
  clear hW7 hb7 hz7 hO hUO
  go_upto_region 18 with fail
  have e := HW7.out
  simp only [← e]
  clear e HW7 k0 k1 k2 k3 k4 k5 k6 k7 k8 k9
  try rw [HO.out]
  obtain ⟨stK, hstK⟩ : ∃ f : Nat → St, f = fun k => actsSt st (((layW np LG FR NB).take k).map wrA) := ⟨_, rfl⟩
  have hdk0 := HLV.out.as_.dk
  have hnw0 := HLV.out.as_.nw
  have hnbh : NB.length ≤ 64 * halfN np := by have h1 := HRO.out; have h2 := HRV.out; omega
  have HF1' := HF1.out
  have HKS : Hid (∀ k, F1 + k < pgs NB.length → stK (k + 1) = actSt (stK k) (layAt np LG FR NB (F1 + k))) := fun k hk => by
    rw [hstK]
    simp only
    rw [layW_take _ _ _ _ _ (by omega), actsSt_snoc, HF1']
  have HKD : Hid (∀ k, k ≤ 2047 → isDk (stK k).dk = true ∧ (stK k).dk.1.length = np ∧ (stK k).dk.2.length ≤ 2047 ∧ (stK k).acts.length ≤ 850000 ∧ (stK k).hd = hd) := fun k hk => by
    rw [hstK]
    refine ⟨layK_dk hdk0 NP.out hlg1 hnbh, by show (List.foldl actDk st.dk _).1.length = np; rw [fold_len, NP.out], ?_, ?_, HHD.out⟩
    · have h := fold_wait (((layW np LG FR NB).take k).map wrA) st.dk
      rw [hnw0, List.length_map, List.length_take] at h
      show (List.foldl actDk st.dk _).2.length ≤ 2047
      simp only [List.length_nil] at h
      omega
    · show (st.acts ++ _).length ≤ 850000
      rw [List.length_append, List.length_map, List.length_take]
      have := HLA.out
      omega
  have HKM : Hid (∀ k, pgs NB.length ≤ F1 + k → stK k = actsSt st ((layW np LG FR NB).map wrA)) := fun k hk => by
    rw [hstK]
    simp only
    rw [List.take_of_length_le (by rw [layW_len]; omega)]
  have hk0 : actsSt st (((layW np LG FR NB).take 0).map wrA) = stK 0 := by rw [hstK]
  rw [hk0] at OUT0
  have hpgb : pgs NB.length ≤ 2047 := by have h1 := HNBL.out; unfold pgs; omega
  have HPGB := hid hpgb
  have HPGE : Hid (pgs NB.length = (NB.length + 63) / 64) := rfl
  have hfpb : FP ≤ 2 + 2047 := by
    rw [← HFP.out]
    unfold firstPg
    have := HHB.out
    have h2 : LG = 0 ∨ LG = 1 := by omega
    rcases h2 with h2 | h2 <;> rw [h2] <;> omega
  have HFPB := hid hfpb
  have HISA : Hid (∀ k, F1 + k < pgs NB.length → isAct (stK k).dk (layAt np LG FR NB (F1 + k)) = true) := fun k hk =>
    isAct_wr (by have := HDL.out.1; omega) hlg1 hk hnbh (HKD.out k (by omega)).2.1
  obtain ⟨PG, hPG⟩ : ∃ x, pgs NB.length = x := ⟨_, rfl⟩
  rw [hPG] at HKS HKM hpgb HPGB HPGE HISA
  clear hstK hdk0 hnw0 hnbh HF1' hk0 hPG hpgb hfpb
  go_wp2_with fail
  go_loopw [10] (fun i wr => ∃ (k p : Nat) (vk vn vo vp vq va : Value), i = .int .i64 (p : Int) ∧ Hid (p = F1 + k) ∧ Hid (k ≤ PG - F1) ∧ Hid (OutI UO w W7.heap.size (Z + 1) O H (hd.1 + 1, LG, hd.2.2.1, NB.length) hd vk vn vo vp vq va (stK k) wr)) (fun i _ => PG - (intOf i).toNat)
  case atStart => exact ⟨0, F1, _, _, _, _, _, _, rfl, rfl, Nat.zero_le _, OUT0⟩
  case round =>
    clear OUT0
    obtain ⟨k, p, vk, vn, vo, vp, vq, va, rfl, hp, hk, HI⟩ := hrel
    obtain ⟨⟨ok', nk', ck', rfl⟩, ⟨on', nn', cn', rfl⟩, ⟨oo', no', co', rfl⟩, ⟨op', np', cp', rfl⟩, ⟨oq', nq', cq', rfl⟩, ⟨oa', na', ca', rfl⟩⟩ := HI.out.k.sl
    obtain ⟨k0, k1, k2, k3, k4, k5, k6, k7, k8, k9⟩ := HI.out.c
    have hp0 := hp.out; have hk0 := hk.out
    have hpb : p ≤ 2047 := by have h1 := HPGB.out; have h2 := HPGE.out; have h3 := HF1.out; have h4 := HFR.out; have h5 := HNBL.out; omega
    obtain ⟨A, hA⟩ : ∃ A, p * 64 = A := ⟨_, rfl⟩
    have f1 : IntKind.i64.wrap ((p : Int) * 64) = (A : Int) := by rw [IntWalk.i64_in _ ⟨by omega, by omega⟩]; omega
    by_cases hlt : A < NB.length
    · have hlti : (A : Int) < (NB.length : Int) := by omega
      have hkM : F1 + k < PG := by have := HPGE.out; omega
      obtain ⟨B, hB⟩ : ∃ B, (p + 1) * 64 = B := ⟨_, rfl⟩
      have f2 : IntKind.i64.wrap ((p : Int) + 1) = (p : Int) + 1 := IntWalk.i64_in _ ⟨by omega, by omega⟩
      have f3 : IntKind.i64.wrap (((p : Int) + 1) * 64) = (B : Int) := by rw [IntWalk.i64_in _ ⟨by omega, by omega⟩]; omega
      obtain ⟨E, hE⟩ : ∃ E, min NB.length B = E := ⟨_, rfl⟩
      have hEi : min (NB.length : Int) (B : Int) = (E : Int) := by omega
      have hAE : (A : Int) ≤ (E : Int) := by omega
      have hEN : (E : Int) ≤ (NB.length : Int) := by omega
      have HEX := ext_mid NB A E (by omega)
      have hpr := page_ref (s := NB) (i := p) (by omega)
      rw [hB, hE, hA] at hpr
      obtain ⟨D, hD⟩ : ∃ D, (NB.drop A).take (E - A) = D := ⟨_, rfl⟩
      rw [hD] at hpr HEX
      have hDl := hpr.2
      have HPG1 := hid hpr.1
      have f4 : IntKind.i64.wrap ((FP : Int) + (p : Int)) = ((FP + p : Nat) : Int) := by have := HFPB.out; rw [IntWalk.i64_in _ ⟨by omega, by omega⟩]; omega
      have f5 : IntKind.i64.wrap (64 - (D.length : Int)) = ((64 - D.length : Nat) : Int) := by rw [IntWalk.i64_in _ ⟨by omega, by omega⟩]; omega
      obtain ⟨DZ, hDZ⟩ : ∃ x, 64 - D.length = x := ⟨_, rfl⟩
      rw [hDZ] at f5
      obtain ⟨FQ, hFQ⟩ : ∃ x, FP + p = x := ⟨_, rfl⟩
      rw [hFQ] at f4
      have HZR := hid (fun w' => rzeros_any DZ w' (by omega))
      obtain ⟨ZZ, hZZ⟩ : ∃ x, zs DZ = x := ⟨_, rfl⟩
      rw [hDZ, hZZ] at HPG1
      rw [hZZ] at HZR
      have hcat : D.length + ZZ.length ≤ 9223372036854775807 := by rw [← hZZ, zs_len]; omega
      have hkd := HKD.out k (by have := HPGB.out; omega)
      have HIA := hid (HISA.out k hkM)
      have hlay : layAt np LG FR NB (F1 + k) = (false, (FQ : Int), D ++ ZZ) := by
        unfold layAt
        rw [HFP.out, ← hp0, HPG1.out, hFQ]
      rw [hlay] at HIA
      have hlen64 : (D ++ ZZ).length ≤ 1000 := by rw [List.length_append, ← hZZ, zs_len]; omega
      have HKS1 := hid (HKS.out k hkM)
      rw [hlay] at HKS1
      have HPUT := hid (fun w' (hb : Below wr.heap.size wr w') => rput_any UO (stK k) false (FQ : Int) (D ++ ZZ) _ w' (fun q hq => Nat.lt_of_lt_of_le (HUB.out q hq) (Nat.le_trans HI.out.sz hb.size)) (HI.out.k.below hb) hkd.1 HIA.out hlen64 (by omega) (by omega))
      have HHDK : Hid ((stK (k + 1)).hd = hd) := (HKD.out (k + 1) (by have := HPGB.out; omega)).2.2.2.2
      rw [← HKS1.out] at HPUT
      have HA := hid hA
      clear hpr hD hE hB hDZ hZZ hFQ hlay hkd hlen64 hDl hlt hp0 hk0 hA
      go_wp2_with fail
      go_region_with (first
        | (go_at_call 58; refine (HZR.out _).mono ?_; rintro e w5 ⟨rfl, hb5⟩; have hbx : Below wr.heap.size wr w5 := below_step hb5 (drew_below wr); have k0 := keepc hbx k0; have k1 := keepc hbx k1; have k2 := keepc hbx k2; have k3 := keepc hbx k3; have k4 := keepc hbx k4; have k5 := keepc hbx k5; have k6 := keepc hbx k6; have k7 := keepc hbx k7; have k8 := keepc hbx k8; have k9 := keepc hbx k9)
        | (go_at_call 57; refine (HPUT.out _ hbx).mono ?_; rintro e w7 hret; obtain ⟨ok2, nk2, ck2, on2, nn2, cn2, oo2, no2, co2, op2, np2, cp2, oq2, nq2, cq2, oa2, na2, ca2, rfl, hk7, hb7⟩ := hret.parts HHDK.out; have hby : Below wr.heap.size wr w7 := below_step hb7 hbx; have hoo : ∀ k, k < 10 → OwnC w7 ⟨O, k, none⟩ := fun k hk => keepOwn hby (HI.out.o k hk); obtain ⟨⟨yv0, y0⟩, g0⟩ := hoo 0 (by decide); obtain ⟨⟨yv1, y1⟩, g1⟩ := hoo 1 (by decide); obtain ⟨⟨yv2, y2⟩, g2⟩ := hoo 2 (by decide); obtain ⟨⟨yv3, y3⟩, g3⟩ := hoo 3 (by decide); obtain ⟨⟨yv4, y4⟩, g4⟩ := hoo 4 (by decide); obtain ⟨⟨yv5, y5⟩, g5⟩ := hoo 5 (by decide); obtain ⟨⟨yv6, y6⟩, g6⟩ := hoo 6 (by decide); obtain ⟨⟨yv7, y7⟩, g7⟩ := hoo 7 (by decide); obtain ⟨⟨yv8, y8⟩, g8⟩ := hoo 8 (by decide); obtain ⟨⟨yv9, y9⟩, g9⟩ := hoo 9 (by decide))
        | (fail "x"))
      all_goals
        have HN := hid (HI.out.store hby hk7 (by have h1 := HHO.out; have h2 := HWZ.out; have h3 := HZ.out; omega) ((HUO.out O).2 (.inr (.inl rfl))) (by have := HHO.out; omega) (by have h1 := HHO.out; have h2 := HWZ.out; omega))
        obtain ⟨W9, hW9⟩ : ∃ x, x = (setSt w7 O hd (.slice ok2 nk2 ck2) (.slice on2 nn2 cn2) (.slice oo2 no2 co2) (.slice op2 np2 cp2) (.slice oq2 nq2 cq2) (.slice oa2 na2 ca2)) := ⟨_, rfl⟩
        rw [← hW9] at HN
        unfold setSt at hW9
        have HW9 := hid hW9
        have hp0 := hp.out
        have HP1 : Hid (p + 1 = F1 + (k + 1)) := by unfold Hid; omega
        have HK1 : Hid (k + 1 ≤ PG - F1) := by unfold Hid; omega
        have hpl : p < PG := by omega
        clear hp0 hW9 hk7 hb7 hby hoo k0 k1 k2 k3 k4 k5 k6 k7 k8 k9 hbx
        have e9 := HW9.out
        simp only [← e9]
        clear e9 HW9 y0 y1 y2 y3 y4 y5 y6 y7 y8 y9 g0 g1 g2 g3 g4 g5 g6 g7 g8 g9 f1 f3 f4 f5
        go_wp2_with fail
        go_roundw
        case rel => exact ⟨k + 1, p + 1, _, _, _, _, _, _, by go_num, HP1, HK1, HN⟩
        case measure => simp [intOf]; omega
    · have hge : ¬ (A : Int) < (NB.length : Int) := by omega
      have hkM : PG ≤ F1 + k := by have := HPGE.out; omega
      have HSK := hid (HKM.out k hkM)
      have HKD1 := hid (HKD.out k (by have := HPGB.out; omega))
      obtain ⟨stA, hstA⟩ : ∃ x, stK k = x := ⟨_, rfl⟩
      rw [hstA] at HSK HKD1 HI
      clear hlt hkM hstA HKS HKD HKM HISA hp0 hk0 hA
      have HNOWA : Hid (stA.now = st.now) := by rw [HSK.out]; rfl
      have HSO : Hid (SOk np 2047 850000 hd st.now stA) := ⟨HKD1.out.1, HKD1.out.2.1, HKD1.out.2.2.1, HKD1.out.2.2.2.1, HKD1.out.2.2.2.2, HNOWA.out⟩
      obtain ⟨T1, hT1⟩ : ∃ x, hd.1 + 1 = x := ⟨_, rfl⟩
      have HTB2 : Hid (T1 < 4294967296) := by unfold Hid; have := HTB.out; omega
      rw [hT1] at HI HNH HHA
      have hn4 := HDL.out
      clear hT1 HKD1 HNOWA
      have HIA := hid (show isAct stA.dk (true, 0, []) = true from isAct_syncA stA.dk)
      have HPUT := hid (fun w' (hb : Below wr.heap.size wr w') => rput_any UO stA true 0 [] _ w' (fun q hq => Nat.lt_of_lt_of_le (HUB.out q hq) (Nat.le_trans HI.out.sz hb.size)) (HI.out.k.below hb) HSO.out.1 HIA.out (by simp) (by have := HSO.out.2.2.1; omega) (by have := HSO.out.2.2.2.1; omega))
      have HSO2 := hid (HSO.out.act HIA.out)
      obtain ⟨stB, hstB⟩ : ∃ x, actSt stA (true, 0, []) = x := ⟨_, rfl⟩
      rw [hstB] at HPUT HSO2
      have EQstB := hid hstB
      have HHDK : Hid (stB.hd = hd) := HSO2.out.2.2.2.2.1
      clear hstB HIA
      go_wp2_with fail
      refine (HPUT.out _ (Below.refl _ _)).mono ?_
      rintro e w7 hret
      obtain ⟨ok2, nk2, ck2, on2, nn2, cn2, oo2, no2, co2, op2, np2, cp2, oq2, nq2, cq2, oa2, na2, ca2, rfl, hk7, hb7⟩ := hret.parts HHDK.out
      have hby : Below wr.heap.size wr w7 := hb7
      have hoo : ∀ k, k < 10 → OwnC w7 ⟨O, k, none⟩ := fun k hk => keepOwn hby (HI.out.o k hk)
      obtain ⟨⟨yv0, y0⟩, g0⟩ := hoo 0 (by decide)
      obtain ⟨⟨yv1, y1⟩, g1⟩ := hoo 1 (by decide)
      obtain ⟨⟨yv2, y2⟩, g2⟩ := hoo 2 (by decide)
      obtain ⟨⟨yv3, y3⟩, g3⟩ := hoo 3 (by decide)
      obtain ⟨⟨yv4, y4⟩, g4⟩ := hoo 4 (by decide)
      obtain ⟨⟨yv5, y5⟩, g5⟩ := hoo 5 (by decide)
      obtain ⟨⟨yv6, y6⟩, g6⟩ := hoo 6 (by decide)
      obtain ⟨⟨yv7, y7⟩, g7⟩ := hoo 7 (by decide)
      obtain ⟨⟨yv8, y8⟩, g8⟩ := hoo 8 (by decide)
      obtain ⟨⟨yv9, y9⟩, g9⟩ := hoo 9 (by decide)
      have HN := hid (HI.out.store hby hk7 (by have h1 := HHO.out; have h2 := HWZ.out; have h3 := HZ.out; omega) ((HUO.out O).2 (.inr (.inl rfl))) (by have := HHO.out; omega) (by have h1 := HHO.out; have h2 := HWZ.out; omega))
      obtain ⟨W9, hW9⟩ : ∃ x, x = (setSt w7 O hd (.slice ok2 nk2 ck2) (.slice on2 nn2 cn2) (.slice oo2 no2 co2) (.slice op2 np2 cp2) (.slice oq2 nq2 cq2) (.slice oa2 na2 ca2)) := ⟨_, rfl⟩
      rw [← hW9] at HN
      unfold setSt at hW9
      have HW9 := hid hW9
      clear hW9 hk7 hb7 hby hoo HI HPUT
      go_upto_region 24 with fail
      have e9 := HW9.out
      simp only [← e9]
      clear e9 HW9 y0 y1 y2 y3 y4 y5 y6 y7 y8 y9 g0 g1 g2 g3 g4 g5 g6 g7 g8 g9 k0 k1 k2 k3 k4 k5 k6 k7 k8 k9 HSO
      have HI := HN
      have HSO := HSO2
      clear HN HSO2 HHDK
      obtain ⟨k0, k1, k2, k3, k4, k5, k6, k7, k8, k9⟩ := HI.out.c
      obtain ⟨h0, h1, h2, h3, hf⟩ := HI.out.hh
      have HHP2 := hid (fun w' => rheadpage_any (T1, LG, hd.2.2.1, NB.length) w' HTB2.out (by have := HNBL.out; simp only; omega) (by simp only; omega) (by have := HHP.out.2.2.2.2.1; simp only; omega))
      have hpl := headPg_len (T1, LG, hd.2.2.1, NB.length)
      obtain ⟨HPB, hHPB⟩ : ∃ x, headPg (T1, LG, hd.2.2.1, NB.length) = x := ⟨_, rfl⟩
      rw [hHPB] at HHP2 hpl
      obtain ⟨T2, hT2⟩ : ∃ x, T1 % 2 = x := ⟨_, rfl⟩
      have m2 : (T1 : Int).tmod 2 = (T2 : Int) := by rw [Int.tmod_eq_emod_of_nonneg (by omega)]; omega
      have w2' : IntKind.i64.wrap (T2 : Int) = (T2 : Int) := IntWalk.i64_in _ ⟨by omega, by omega⟩
      have HHA2 : Hid (headA st = (false, (T2 : Int), HPB)) := by rw [HHA.out, HNH.out, hHPB, hT2]; rfl
      have hiA : isAct stB.dk (false, (T2 : Int), HPB) = true := by
        rw [isAct_write, HSO.out.2.1, hpl]
        simp
        omega
      have HIA := hid (hiA)
      have HPUT := hid (fun w' (hb : Below W9.heap.size W9 w') => rput_any UO stB false (T2 : Int) HPB _ w' (fun q hq => Nat.lt_of_lt_of_le (HUB.out q hq) (Nat.le_trans HI.out.sz hb.size)) (HI.out.k.below hb) HSO.out.1 HIA.out (by omega) (by have := HSO.out.2.2.1; omega) (by have := HSO.out.2.2.2.1; omega))
      have HSO2 := hid (HSO.out.act HIA.out)
      obtain ⟨stC, hstC⟩ : ∃ x, actSt stB (false, (T2 : Int), HPB) = x := ⟨_, rfl⟩
      rw [hstC] at HPUT HSO2
      have EQstC := hid hstC
      have HHDK : Hid (stC.hd = hd) := HSO2.out.2.2.2.2.1
      clear hstC HIA
      clear hHPB hT2 hiA hpl hf hn4
      have hbd := drew_below W9
      go_cut [9] (fun x9 wx => x9 = .pointer (some ⟨O, 0, none⟩) ∧ ∃ vk vn vo vp vq va : Value, Hid (OutI UO w W7.heap.size (Z + 1) O H (T1, LG, hd.2.2.1, NB.length) hd vk vn vo vp vq va stC wx))
      case first =>
        go_region_with (first
          | (go_at_call 33; refine (HHP2.out _).mono ?_; rintro e w5 ⟨rfl, hb5⟩; have hbx : Below W9.heap.size W9 w5 := below_step hb5 hbd; have k0 := keepc hbx k0; have k1 := keepc hbx k1; have k2 := keepc hbx k2; have k3 := keepc hbx k3; have k4 := keepc hbx k4; have k5 := keepc hbx k5; have k6 := keepc hbx k6; have k7 := keepc hbx k7; have k8 := keepc hbx k8; have k9 := keepc hbx k9; have h0 := keepc hbx h0; have h1 := keepc hbx h1; have h2 := keepc hbx h2; have h3 := keepc hbx h3)
          | (go_at_call 57; refine (HPUT.out _ hbx).mono ?_; rintro e w7 hret; obtain ⟨ok2, nk2, ck2, on2, nn2, cn2, oo2, no2, co2, op2, np2, cp2, oq2, nq2, cq2, oa2, na2, ca2, rfl, hk7, hb7⟩ := hret.parts HHDK.out; have hby : Below W9.heap.size W9 w7 := below_step hb7 hbx; have hoo : ∀ k, k < 10 → OwnC w7 ⟨O, k, none⟩ := fun k hk => keepOwn hby (HI.out.o k hk); obtain ⟨⟨yv0, y0⟩, g0⟩ := hoo 0 (by decide); obtain ⟨⟨yv1, y1⟩, g1⟩ := hoo 1 (by decide); obtain ⟨⟨yv2, y2⟩, g2⟩ := hoo 2 (by decide); obtain ⟨⟨yv3, y3⟩, g3⟩ := hoo 3 (by decide); obtain ⟨⟨yv4, y4⟩, g4⟩ := hoo 4 (by decide); obtain ⟨⟨yv5, y5⟩, g5⟩ := hoo 5 (by decide); obtain ⟨⟨yv6, y6⟩, g6⟩ := hoo 6 (by decide); obtain ⟨⟨yv7, y7⟩, g7⟩ := hoo 7 (by decide); obtain ⟨⟨yv8, y8⟩, g8⟩ := hoo 8 (by decide); obtain ⟨⟨yv9, y9⟩, g9⟩ := hoo 9 (by decide))
          | (fail "x"))
        all_goals
          have HN := hid (HI.out.store hby hk7 (by have h1 := HHO.out; have h2 := HWZ.out; have h3 := HZ.out; omega) ((HUO.out O).2 (.inr (.inl rfl))) (by have := HHO.out; omega) (by have h1 := HHO.out; have h2 := HWZ.out; omega))
          obtain ⟨Wa, hWa⟩ : ∃ x, x = (setSt w7 O hd (.slice ok2 nk2 ck2) (.slice on2 nn2 cn2) (.slice oo2 no2 co2) (.slice op2 np2 cp2) (.slice oq2 nq2 cq2) (.slice oa2 na2 ca2)) := ⟨_, rfl⟩
          rw [← hWa] at HN
          unfold setSt at hWa
          have HWa := hid hWa
          clear hWa hk7 hb7 hby hoo HPUT k0 k1 k2 k3 k4 k5 k6 k7 k8 k9 h0 h1 h2 h3 hbx
          have e9 := HWa.out
          simp only [← e9]
          clear e9 HWa y0 y1 y2 y3 y4 y5 y6 y7 y8 y9 g0 g1 g2 g3 g4 g5 g6 g7 g8 g9
          go_wp2_with fail
          go_meet
          case rel => exact ⟨rfl, _, _, _, _, _, _, HN⟩
      case rest =>
      obtain ⟨rfl, vk, vn, vo, vp, vq, va, HN⟩ := hcut
      obtain ⟨Wb, hWb⟩ : ∃ x, x = wc := ⟨_, rfl⟩
      subst hWb
      clear k0 k1 k2 k3 k4 k5 k6 k7 k8 k9 h0 h1 h2 h3 HI HPUT hbd HHDK HSO
      have HI := HN
      have HSO := HSO2
      clear HN HSO2
      obtain ⟨⟨ok3, nk3, ck3, rfl⟩, ⟨on3, nn3, cn3, rfl⟩, ⟨oo3, no3, co3, rfl⟩, ⟨op3, np3, cp3, rfl⟩, ⟨oq3, nq3, cq3, rfl⟩, ⟨oa3, na3, ca3, rfl⟩⟩ := HI.out.k.sl
      obtain ⟨k0, k1, k2, k3, k4, k5, k6, k7, k8, k9⟩ := HI.out.c
      have HIA := hid (show isAct stC.dk (true, 0, []) = true from isAct_syncA stC.dk)
      have HPUT := hid (fun w' (hb : Below Wb.heap.size Wb w') => rput_any UO stC true 0 [] _ w' (fun q hq => Nat.lt_of_lt_of_le (HUB.out q hq) (Nat.le_trans HI.out.sz hb.size)) (HI.out.k.below hb) HSO.out.1 HIA.out (by simp) (by have := HSO.out.2.2.1; omega) (by have := HSO.out.2.2.2.1; omega))
      have HSO2 := hid (HSO.out.act HIA.out)
      obtain ⟨stD, hstD⟩ : ∃ x, actSt stC (true, 0, []) = x := ⟨_, rfl⟩
      rw [hstD] at HPUT HSO2
      have EQstD := hid hstD
      have HHDK : Hid (stD.hd = hd) := HSO2.out.2.2.2.2.1
      clear hstD HIA
      go_wp2_with fail
      refine (HPUT.out _ (Below.refl _ _)).mono ?_
      rintro e w7 hret
      obtain ⟨ok2, nk2, ck2, on2, nn2, cn2, oo2, no2, co2, op2, np2, cp2, oq2, nq2, cq2, oa2, na2, ca2, rfl, hk7, hb7⟩ := hret.parts HHDK.out
      have hby : Below Wb.heap.size Wb w7 := hb7
      have hoo : ∀ k, k < 10 → OwnC w7 ⟨O, k, none⟩ := fun k hk => keepOwn hby (HI.out.o k hk)
      obtain ⟨⟨yv0, y0⟩, g0⟩ := hoo 0 (by decide)
      obtain ⟨⟨yv1, y1⟩, g1⟩ := hoo 1 (by decide)
      obtain ⟨⟨yv2, y2⟩, g2⟩ := hoo 2 (by decide)
      obtain ⟨⟨yv3, y3⟩, g3⟩ := hoo 3 (by decide)
      obtain ⟨⟨yv4, y4⟩, g4⟩ := hoo 4 (by decide)
      obtain ⟨⟨yv5, y5⟩, g5⟩ := hoo 5 (by decide)
      obtain ⟨⟨yv6, y6⟩, g6⟩ := hoo 6 (by decide)
      obtain ⟨⟨yv7, y7⟩, g7⟩ := hoo 7 (by decide)
      obtain ⟨⟨yv8, y8⟩, g8⟩ := hoo 8 (by decide)
      obtain ⟨⟨yv9, y9⟩, g9⟩ := hoo 9 (by decide)
      have HN := hid (HI.out.store hby hk7 (by have h1 := HHO.out; have h2 := HWZ.out; have h3 := HZ.out; omega) ((HUO.out O).2 (.inr (.inl rfl))) (by have := HHO.out; omega) (by have h1 := HHO.out; have h2 := HWZ.out; omega))
      obtain ⟨Wd, hWd⟩ : ∃ x, x = (setSt w7 O hd (.slice ok2 nk2 ck2) (.slice on2 nn2 cn2) (.slice oo2 no2 co2) (.slice op2 np2 cp2) (.slice oq2 nq2 cq2) (.slice oa2 na2 ca2)) := ⟨_, rfl⟩
      rw [← hWd] at HN
      unfold setSt at hWd
      have HWd := hid hWd
      clear hWd hk7 hb7 hby hoo HI HPUT
      go_upto_region 26 with fail
      have e9 := HWd.out
      simp only [← e9]
      clear e9 HWd y0 y1 y2 y3 y4 y5 y6 y7 y8 y9 g0 g1 g2 g3 g4 g5 g6 g7 g8 g9 k0 k1 k2 k3 k4 k5 k6 k7 k8 k9 HSO
      have HI := HN
      have HSO := HSO2
      clear HN HSO2 HHDK
      obtain ⟨k0, k1, k2, k3, k4, k5, k6, k7, k8, k9⟩ := HI.out.c
      obtain ⟨h0, h1, h2, h3, hf⟩ := HI.out.hh
      have hoO := HI.out.o
      obtain ⟨⟨zv0, zy0⟩, z0⟩ := hoO 0 (by decide)
      obtain ⟨⟨zv1, zy1⟩, z1⟩ := hoO 1 (by decide)
      obtain ⟨⟨zv2, zy2⟩, z2⟩ := hoO 2 (by decide)
      obtain ⟨⟨zv3, zy3⟩, z3⟩ := hoO 3 (by decide)
      obtain ⟨⟨zv4, zy4⟩, z4⟩ := hoO 4 (by decide)
      obtain ⟨⟨zv6, zy6⟩, z6⟩ := hoO 6 (by decide)
      have HPC := hid HI.out.k.pc
      have HCF := hid (fin_cells (nh := (T1, LG, hd.2.2.1, NB.length)) HI.out.c)
      obtain ⟨We, hWe⟩ : ∃ x, x = ((((((Wd.setCell ⟨O, 0, none⟩ (.int .i64 (T1 : Int))).setCell ⟨O, 1, none⟩ (.int .i64 (LG : Int))).setCell ⟨O, 2, none⟩ (.int .i64 hd.2.2.1)).setCell ⟨O, 3, none⟩ (.int .i64 (NB.length : Int))).setCell ⟨O, 4, none⟩ (.slice on2 nn2 cn2)).setCell ⟨O, 6, none⟩ nilS) := ⟨_, rfl⟩
      have hfe : Frm (fun k => k = O) Wd We := by rw [hWe]; exact frm_setCell (frm_setCell (frm_setCell (frm_setCell (frm_setCell (frm_setCell (Frm.refl _ _) (by rfl) _) (by rfl) _) (by rfl) _) (by rfl) _) (by rfl) _) (by rfl) _
      have HCE2 : Hid (StC We O (T1, LG, hd.2.2.1, NB.length) (.slice on2 nn2 cn2) (.slice on2 nn2 cn2) nilS (.slice op2 np2 cp2) (.slice oq2 nq2 cq2) (.slice oa2 na2 ca2)) := by rw [hWe]; exact HCF.out
      have hzo : w.heap.size ≤ O := by have h1 := HHO.out; have h2 := HWZ.out; have h3 := HZ.out; omega
      have HYE : Hid (∀ k, k < 10 → OwnC We ⟨Z + 1, k, none⟩) := fun k hk => hfe.ownc (by show ¬ Z + 1 = O; have h1 := HHO.out; have h2 := HWZ.out; omega) (HI.out.y k hk)
      have HBE : Hid (Below w.heap.size w We) := Frm.below HI.out.b hfe (fun i h => by omega) HI.out.b.size
      have HFF := hid ((hfe.mono (G := UO) fun i _ h => (HUO.out i).2 (.inr (.inl h))).trans (setSt_frm We (Z + 1) (T1, LG, hd.2.2.1, NB.length) (.slice on2 nn2 cn2) (.slice on2 nn2 cn2) nilS (.slice op2 np2 cp2) (.slice oq2 nq2 cq2) (.slice oa2 na2 ca2)) (fun i _ h => (HUO.out i).2 (.inr (.inr h))))
      have HBZ := hid (setSt_below HBE.out (show w.heap.size ≤ Z + 1 by omega) (T1, LG, hd.2.2.1, NB.length) (.slice on2 nn2 cn2) (.slice on2 nn2 cn2) nilS (.slice op2 np2 cp2) (.slice oq2 nq2 cq2) (.slice oa2 na2 ca2))
      have HWE := hid hWe
      clear hoO zy0 zy1 zy2 zy3 zy4 zy6 hf hfe hWe hzo HCF
      go_upto_region 29 with fail
      have e9 := HWE.out
      simp only [← e9]
      clear e9 HWE k0 k1 k2 k3 k4 k5 k6 k7 k8 k9 h0 h1 h2 h3 z0 z1 z2 z3 z4 z6
      obtain ⟨k0, k1, k2, k3, k4, k5, k6, k7, k8, k9⟩ := HCE2.out
      obtain ⟨⟨yv0, y0⟩, f0⟩ := HYE.out 0 (by decide)
      obtain ⟨⟨yv1, y1⟩, f1⟩ := HYE.out 1 (by decide)
      obtain ⟨⟨yv2, y2⟩, f2⟩ := HYE.out 2 (by decide)
      obtain ⟨⟨yv3, y3⟩, f3⟩ := HYE.out 3 (by decide)
      obtain ⟨⟨yv4, y4⟩, f4⟩ := HYE.out 4 (by decide)
      obtain ⟨⟨yv5, y5⟩, f5⟩ := HYE.out 5 (by decide)
      obtain ⟨⟨yv6, y6⟩, f6⟩ := HYE.out 6 (by decide)
      obtain ⟨⟨yv7, y7⟩, f7⟩ := HYE.out 7 (by decide)
      obtain ⟨⟨yv8, y8⟩, f8⟩ := HYE.out 8 (by decide)
      obtain ⟨⟨yv9, y9⟩, f9⟩ := HYE.out 9 (by decide)
      have hz := World.block_lt_of_cell? _ _ y0
      have HPOST : Hid (RetCo U (commitSt st, 0) w (.returned (.tuple #[stV (T1, LG, hd.2.2.1, NB.length) (.slice on2 nn2 cn2) (.slice on2 nn2 cn2) nilS (.slice op2 np2 cp2) (.slice oq2 nq2 cq2) (.slice oa2 na2 ca2), .int .i64 0])) (setSt We (Z + 1) (T1, LG, hd.2.2.1, NB.length) (.slice on2 nn2 cn2) (.slice on2 nn2 cn2) nilS (.slice op2 np2 cp2) (.slice oq2 nq2 cq2) (.slice oa2 na2 ca2))) := by
        obtain ⟨p1, p2, p3, p4, p5, p6⟩ := HPC.out
        have hUO : ∀ q, U q → UO q ∨ Wd.heap.size ≤ q := fun q hq => .inl ((HUO.out q).2 (.inl hq))
        have hEQ : stD = actsSt (actsSt (actsSt st (layAcs np LG FR NB)) [headA st]) [syncA] := by
          rw [actsSt_one, actsSt_one, ← EQstD.out, ← EQstC.out, ← EQstB.out, HSK.out, HHA2.out]
          unfold layAcs
          rw [actsSt_snoc]
          rfl
        have hnow : stD.now = st.now := HSO.out.2.2.2.2.2
        rw [hnow] at p2
        refine ⟨stV (T1, LG, hd.2.2.1, NB.length) (.slice on2 nn2 cn2) (.slice on2 nn2 cn2) nilS (.slice op2 np2 cp2) (.slice oq2 nq2 cq2) (.slice oa2 na2 ca2), rfl, ?_, HBZ.out⟩
        rw [HCE.out]
        refine ⟨(.slice on2 nn2 cn2), (.slice on2 nn2 cn2), nilS, (.slice op2 np2 cp2), (.slice oq2 nq2 cq2), (.slice oa2 na2 ca2), ?_, ?_, ?_, fun x _ => rdO_nil x, ?_, ?_, ?_⟩
        · show _ = stV (nHd st) _ _ _ _ _ _
          rw [HNH.out]
        · exact p2.step HFF.out hUO
        · show Keep U _ (fun x => RdD x _ (actsSt (actsSt (actsSt st (layAcs np LG FR NB)) [headA st]) [syncA]).now)
          rw [← hEQ, hnow]
          exact p2.step HFF.out hUO
        · show Keep U _ (fun x => RdS x _ (actsSt (actsSt (actsSt st (layAcs np LG FR NB)) [headA st]) [syncA]).dk.1)
          rw [← hEQ]
          exact p4.step HFF.out hUO
        · show Keep U _ (fun x => RdW x _ (actsSt (actsSt (actsSt st (layAcs np LG FR NB)) [headA st]) [syncA]).dk.2)
          rw [← hEQ]
          exact p5.step HFF.out hUO
        · show Keep U _ (fun x => RdA x _ (actsSt (actsSt (actsSt st (layAcs np LG FR NB)) [headA st]) [syncA]).acts)
          rw [← hEQ]
          exact p6.step HFF.out hUO
      have HPOST := hid HPOST.out
      unfold setSt at HPOST
      clear HPC HFF HBZ HI
      go_wp2_with fail
      rw [HCD.out]
      refine bodyPost_ret (v := .tuple #[stV (T1, LG, hd.2.2.1, NB.length) (.slice on2 nn2 cn2) (.slice on2 nn2 cn2) nilS (.slice op2 np2 cp2) (.slice oq2 nq2 cq2) (.slice oa2 na2 ca2), .int .i64 0]) ?_ rfl ?_
      · simp [results, Tryz.results20, go_sem, y0, y1, y2, y3, y4, y5, y6, y7, y8, y9, hz]
      · exact HPOST.out
end Go.Proofs.YtifcgimpgbeocaaGreat
