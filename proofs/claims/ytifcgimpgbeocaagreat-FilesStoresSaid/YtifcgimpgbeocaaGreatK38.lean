/- The reference's put. -/
import Derived.Test.YtifcgimpgbeocaaGreatK33
import Derived.Test.YtifcgimpgbeocaaGreatK36
import Derived.Test.YtifcgimpgbeocaaGreatK37
import Derived.Test.YtifcgimpgbeocaaGreatK6
import Derived.Test.YtifcgimpgbeocaaGreatK14
set_option linter.unusedVariables false
set_option linter.unusedSimpArgs false
namespace Go.Proofs.YtifcgimpgbeocaaGreat
open Go.RowKit
attribute [local go_sem] Oper.semAt_some
set_option maxHeartbeats 8000000 in
set_option maxRecDepth 100000 in
theorem rput_any (U : Nat → Prop) (st : St) (b : Bool) (p : Int) (s : Bs) (v : Value) (w : World) (hU : ∀ k, U k → k < w.heap.size) (hS : KSt U w v st) (hdk : isDk st.dk = true) (hac : isAct st.dk (b, p, s) = true) (hs : s.length ≤ 1000) (hl : st.dk.2.length ≤ 800000) (hla : st.acts.length ≤ 900000) :
    Calls Tryz.prog 57 #[v, .agg #[.bool b, .int .i64 p, strV s]] w (RetSt U (actSt st (b, p, s)) w) := by
  have hdl := isDk_len hdk
  have HAE : Hid (actE st.dk (b, p, s) = (actDk st.dk (b, p, s), 0)) := by unfold Hid actE; rw [if_pos hdk, if_pos hac]
  have HU := hid hU
  obtain ⟨vk, vn, vo, vp, vq, va, rfl, k1, k2, k3, k4, k5, k6⟩ := hS
  have Q1 := hid k1; have Q2 := hid k2; have Q3 := hid k3; have Q4 := hid k4; have Q5 := hid k5; have Q6 := hid k6
  obtain ⟨ok, ck, hvk, -, -⟩ := k1.now
  obtain ⟨on, cn, hvn, -, -⟩ := k2.now
  obtain ⟨oo, co, hvo, -, -⟩ := k3.now
  obtain ⟨op, cp, hvp, -, -⟩ := k4.now
  obtain ⟨oq, cq, hvq, -, -⟩ := k5.now
  obtain ⟨oa, ca, hva, -, -⟩ := k6.now
  obtain ⟨nk, hnk⟩ : ∃ n, st.kept.length = n := ⟨_, rfl⟩
  obtain ⟨nn, hnn⟩ : ∃ n, st.now.length = n := ⟨_, rfl⟩
  obtain ⟨no, hno⟩ : ∃ n, st.ops.length = n := ⟨_, rfl⟩
  obtain ⟨np, hnp⟩ : ∃ n, st.dk.1.length = n := ⟨_, rfl⟩
  obtain ⟨nq, hnq⟩ : ∃ n, st.dk.2.length = n := ⟨_, rfl⟩
  obtain ⟨na, hna⟩ : ∃ n, st.acts.length = n := ⟨_, rfl⟩
  rw [hnk] at hvk; rw [hnn] at hvn; rw [hno] at hvo; rw [hnp] at hvp; rw [hnq] at hvq; rw [hna] at hva
  have NK := hid hnk; have NN := hid hnn; have NO := hid hno; have NP := hid hnp; have NQ := hid hnq; have NA := hid hna
  subst hvk; subst hvn; subst hvo; subst hvp; subst hvq; subst hva
  obtain ⟨hd, hhd⟩ : ∃ x, st.hd = x := ⟨_, rfl⟩
  rw [hhd]
  have HHD := hid hhd
  clear k1 k2 k3 k4 k5 k6 hnk hnn hno hnp hnq hna hhd
  have HACT := hid (fun w' (hb : Below w.heap.size w w') => ract_any st.dk b p s (.slice op np cp) (.slice oq nq cq) w' (Q4.out.now.below hb) (Q5.out.now.below hb) (by omega) (by omega) (by unfold maxLen; omega))
  rw [HAE.out] at HACT
  have hna : na ≤ 900000 := by have := NA.out; omega
  obtain ⟨oc, cc, hcc, hlen, hAC⟩ := Q6.out.now
  have HAC : Hid (st.acts = [] ∨ ∃ b off, oa = some ⟨b, off, none⟩ ∧ b < w.heap.size ∧ ∀ i x, st.acts[i]? = some x → w.cell? ⟨b, off + i * 3, none⟩ = some (.bool x.1) ∧ w.cell? ⟨b, off + i * 3 + 1, none⟩ = some (.int .i64 x.2.1) ∧ w.cell? ⟨b, off + i * 3 + 2, none⟩ = some (strV x.2.2)) := by
    cases hcc
    exact hAC
  have hca : na ≤ ca := by have := NA.out; cases hcc; omega
  clear hcc hAC hdk hac hl hla hs hU hdl HAE hlen
  obtain ⟨W0, hW0⟩ : ∃ x, x = w.alloc (.cells #[.int .i64 hd.1, .int .i64 hd.2.1, .int .i64 hd.2.2.1, .int .i64 hd.2.2.2, .slice ok nk ck, .slice on nn cn, .slice oo no co, .slice op np cp, .slice oq nq cq, .slice oa na ca] 39) := ⟨_, rfl⟩
  have hbW0 : Below w.heap.size w W0 := by rw [hW0]; exact balloc (Below.refl _ _) _
  have hzW0 : W0.heap.size = w.heap.size + 1 := by rw [hW0]; simp
  have hcW0 : StC W0 w.heap.size hd (.slice ok nk ck) (.slice on nn cn) (.slice oo no co) (.slice op np cp) (.slice oq nq cq) (.slice oa na ca) := by rw [hW0]; exact StC.new _ _ _ _ _ _ _ _
  have hoW0 : ∀ k, k < 10 → OwnC W0 ⟨w.heap.size, k, none⟩ := by rw [hW0]; exact own_newN w _ _ 10 (by simp)
  obtain ⟨W1, hW1⟩ : ∃ x, x = W0.alloc (.cells #[.bool b, .int .i64 p, strV s] 77) := ⟨_, rfl⟩
  have hbW1 : Below W0.heap.size W0 W1 := by rw [hW1]; exact balloc (Below.refl _ _) _
  have hzW1 : W1.heap.size = W0.heap.size + 1 := by rw [hW1]; simp
  have a0 : W1.cell? ⟨W0.heap.size, 0, none⟩ = some (.bool b) := by rw [hW1]; exact cell_new _ _ _ 0 _ rfl
  have a1 : W1.cell? ⟨W0.heap.size, 1, none⟩ = some (.int .i64 p) := by rw [hW1]; exact cell_new _ _ _ 1 _ rfl
  have a2 : W1.cell? ⟨W0.heap.size, 2, none⟩ = some (strV s) := by rw [hW1]; exact cell_new _ _ _ 2 _ rfl
  obtain ⟨W2, hW2⟩ : ∃ x, x = W1.alloc (.cells #[.int .i64 0, .int .i64 0, .int .i64 0, .int .i64 0, nilS, nilS, nilS, nilS, nilS, nilS] 39) := ⟨_, rfl⟩
  have hbW2 : Below W1.heap.size W1 W2 := by rw [hW2]; exact balloc (Below.refl _ _) _
  have hzW2 : W2.heap.size = W1.heap.size + 1 := by rw [hW2]; simp
  have hoW2 : ∀ k, k < 10 → OwnC W2 ⟨W1.heap.size, k, none⟩ := by rw [hW2]; exact own_newN W1 _ _ 10 (by simp)
  have HC := hid (hcW0.below (below_step hbW2 hbW1)); have HO0 := hid (fun k hk => keepOwn (below_step hbW2 hbW1) (hoW0 k hk)); have HA := hid (And.intro (keepc hbW2 a0) (And.intro (keepc hbW2 a1) (keepc hbW2 a2)))
  have hzz : W1.heap.size = w.heap.size + 1 + 1 := by omega
  rw [hzz] at hoW2; have HO1 := hid hoW2
  rw [hzW0] at HA
  have HB := hid (below_step hbW2 (below_step hbW1 hbW0))
  have HS2 : Hid (W2.heap.size = w.heap.size + 3) := by unfold Hid; omega
  have HW0 := hid hW0; have HW1 := hid hW1; have HW2 := hid hW2
  have HZ0 := hid hzW0; have HZ1 := hid hzz
  obtain ⟨Z, hZ⟩ : ∃ x, w.heap.size = x := ⟨_, rfl⟩
  have HZ := hid hZ
  rw [hZ] at HC HO0 HO1 HA HZ0 HZ1
  clear hW0 hW1 hW2 hbW0 hbW1 hbW2 hzW0 hzW1 hzW2 hcW0 hoW0 hoW2 hZ hzz a0 a1 a2
  go_enter Tryz.func57, Tryz.ntmps57
  go_upto_region 1 with fail
  have e := HW0.out
  simp only [← e]
  have e2 := HW1.out
  simp only [← e2]
  have e3 := HW2.out
  simp only [← e3]
  clear e e2 e3 HW0 HW1 HW2
  try rw [HZ1.out]
  try rw [HZ0.out]
  try rw [HZ.out]
  obtain ⟨k0, k1, k2, k3, k4, k5, k6, k7, k8, k9⟩ := HC.out
  obtain ⟨a0, a1, a2⟩ := HA.out
  go_wp2_with fail
  refine (HACT.out _ HB.out).mono ?_
  rintro e w5 ⟨u1, u2, rfl, ho1, ho2, hb5⟩
  have HB5 : Hid (Below W2.heap.size W2 w5) := hb5
  have HOP := hid ho1; have HOQ := hid ho2
  obtain ⟨op', cp', hu1, -, -⟩ := ho1.rd
  obtain ⟨oq', cq', hu2, -, -⟩ := ho2.rd
  obtain ⟨np', hnp'⟩ : ∃ n, (actDk st.dk (b, p, s)).1.length = n := ⟨_, rfl⟩
  obtain ⟨nq', hnq'⟩ : ∃ n, (actDk st.dk (b, p, s)).2.length = n := ⟨_, rfl⟩
  rw [hnp'] at hu1; rw [hnq'] at hu2
  subst hu1; subst hu2
  have k9 := keepc hb5 k9
  clear hb5 ho1 ho2 hnp' hnq' k0 k1 k2 k3 k4 k5 k6 k7 k8 a0 a1 a2 HACT
  obtain ⟨W6, hW6⟩ : ∃ x, x = w5.alloc (.cells #[.slice op' np' cp', .slice oq' nq' cq'] 25) := ⟨_, rfl⟩
  have hb6 : Below w5.heap.size w5 W6 := by rw [hW6]; exact balloc (Below.refl _ _) _
  have D0 : Hid (W6.cell? ⟨w5.heap.size, 0, none⟩ = some (.slice op' np' cp')) := by rw [hW6]; exact cell_new _ _ _ 0 _ rfl
  have D1 : Hid (W6.cell? ⟨w5.heap.size, 1, none⟩ = some (.slice oq' nq' cq')) := by rw [hW6]; exact cell_new _ _ _ 1 _ rfl
  obtain ⟨cur, hcur, hmk⟩ := run_makeA W6 na (by omega)
  have hcp := Cpy.new W6 cur 77
  rw [hcur] at hcp
  obtain ⟨W7, hW7⟩ : ∃ x, x = W6.alloc (.cells cur 77) := ⟨_, rfl⟩
  have hb7 : Below W6.heap.size W6 W7 := by rw [hW7]; exact balloc (Below.refl _ _) _
  rw [← hW7] at hcp hmk
  have hz5 := hb6.size
  obtain ⟨g, hg⟩ : ∃ x, W6.heap.size = x := ⟨_, rfl⟩
  rw [hg] at hcp hmk
  have HG := hid hg
  have HG5 : Hid (w5.heap.size ≤ g) := by unfold Hid; omega
  obtain ⟨X, hX⟩ : ∃ x, w5.heap.size = x := ⟨_, rfl⟩
  have HX := hid hX
  rw [hX] at D0 D1
  have k9' := k9
  have k9 := keepc hb6 k9
  have HGX : Hid (g = X + 1) := by rw [← hg, ← hX, hW6]; unfold Hid; simp
  have HW6 := hid hW6
  have HCP0 : Hid (Cpy W7 g 77 (na * 3) (encA (st.acts.take 0))) := hcp
  have HB7 := hid (below_step hb7 hb6)
  have D0 := hid (keepc hb7 D0.out); have D1 := hid (keepc hb7 D1.out)
  clear hW6 hb6 hcp hcur hW7 hb7 hz5 hg hX
  go_upto_region 2 with fail
  have e6 := HW6.out
  simp only [← e6]
  clear e6 HW6
  try rw [HX.out]
  go_wp2_with fail
  have HB25 := hid (below_step HB5.out HB.out)
  have HZL : Hid (Z + 3 ≤ w5.heap.size) := by have := HB5.out.size; have := HS2.out; have := HZ.out; unfold Hid; omega
  go_loopw [8] (fun i wr => ∃ k : Nat, i = .int .i64 (k : Int) ∧ k ≤ na ∧ Hid (Cpy wr g 77 (na * 3) (encA (st.acts.take k))) ∧ Hid (Below w5.heap.size w5 wr) ∧ Hid (wr.cell? ⟨X, 0, none⟩ = some (.slice op' np' cp')) ∧ Hid (wr.cell? ⟨X, 1, none⟩ = some (.slice oq' nq' cq')) ∧ wr.cell? ⟨Z, 9, none⟩ = some (.slice oa na ca)) (fun i _ => na - (intOf i).toNat)
  case atStart => exact ⟨0, rfl, Nat.zero_le _, HCP0, HB7, D0, D1, keepB HB7.out (show Z < w5.heap.size by have := HZL.out; omega) k9'⟩
  case round =>
    clear HCP0 HB7 D0 D1 k9 k9'
    obtain ⟨k, rfl, hk, HCP, HBR, D0, D1, k9⟩ := hrel
    by_cases hlt : k < na
    · have hlti : (k : Int) < (na : Int) := by omega
      obtain ⟨x, hx⟩ : ∃ x, st.acts[k]? = some x := ⟨_, List.getElem?_eq_getElem (by have := NA.out; omega)⟩
      have hHC := HAC.out
      rcases hHC with hq | ⟨b2, off, rfl, hbq, hq⟩
      · rw [hq] at hx; simp at hx
      obtain ⟨q0, q1, q2⟩ := hq k x hx
      have HBW := below_step HBR.out HB25.out
      have c0 := keepc HBW q0; have c1 := keepc HBW q1; have c2 := keepc HBW q2
      have HCP2 := hid (cpyA_put HCP.out NA.out hx)
      obtain ⟨⟨yv0, y0⟩, f0⟩ := HCP.out.cell (i := k * 3) (by omega)
      obtain ⟨⟨yv1, y1⟩, f1⟩ := HCP.out.cell (i := k * 3 + 1) (by omega)
      obtain ⟨⟨yv2, y2⟩, f2⟩ := HCP.out.cell (i := k * 3 + 2) (by omega)
      have hgX : g ≠ X := by have := HG5.out; have := HGX.out; omega
      have hgZ : g ≠ Z := by have := HG5.out; have := HZL.out; omega
      obtain ⟨W9, hW9⟩ : ∃ W9, W9 = ((wr.setCell ⟨g, k * 3, none⟩ (.bool x.1)).setCell ⟨g, k * 3 + 1, none⟩ (.int .i64 x.2.1)).setCell ⟨g, k * 3 + 2, none⟩ (strV x.2.2) := ⟨_, rfl⟩
      have hf9 : Frm (fun k => k = g) wr W9 := by rw [hW9]; exact frm_setCell (frm_setCell (frm_setCell (Frm.refl _ _) (by rfl) _) (by rfl) _) (by rfl) _
      rw [← hW9] at HCP2
      have HB9 : Hid (Below w5.heap.size w5 W9) := Frm.below HBR.out hf9 (fun i h => by have := HG5.out; omega) HBR.out.size
      have D09 := hid (hf9.cell (fun e => hgX e.symm) D0.out); have D19 := hid (hf9.cell (fun e => hgX e.symm) D1.out)
      have k99 : W9.cell? ⟨Z, 9, none⟩ = some (.slice (some ⟨b2, off, none⟩) na ca) := hf9.cell (fun e => hgZ e.symm) k9
      have K99 := hid k99
      have HW9 := hid hW9
      clear hq hx q0 q1 q2 HBW hW9 hf9 hgX hgZ k99 HCP
      go_upto_region 5 with fail
      have e9 := HW9.out
      simp only [← e9]
      clear e9 HW9 y0 y1 y2 f0 f1 f2
      go_wp2_with fail
      go_roundw
      case rel => exact ⟨k + 1, by go_num, by omega, HCP2, HB9, D09, D19, K99.out⟩
      case measure => simp [intOf]; omega
    · have hkn : k = na := by omega
      have hge : ¬ (k : Int) < (na : Int) := by omega
      subst hkn
      have hOA : OA wr w5.heap.size (.slice (some ⟨g, 0, none⟩) k k) st.acts := by
        have h1 := HCP.out
        rw [List.take_of_length_le (by have := NA.out; omega)] at h1
        have h2 := h1.row (B := w5.heap.size) (by rw [encA_length, NA.out]) HG5.out (by unfold maxLen; omega)
        unfold OA
        rw [NA.out]
        exact h2
      have hbz := HBR.out.size
      have a0 := keepc (below_step HBR.out HB5.out) HA.out.1; have a1 := keepc (below_step HBR.out HB5.out) HA.out.2.1; have a2 := keepc (below_step HBR.out HB5.out) HA.out.2.2
      have hba := balloc (Below.refl wr.heap.size wr) (.cells #[.bool b, .int .i64 p, strV s] 77)
      have HOA := hid (hOA.below hba)
      have HB8 := hid (below_step hba HBR.out)
      have HLA : Hid (st.acts.length ≤ 1000000) := by have := NA.out; unfold Hid; omega
      have D08 := hid (keepc hba D0.out); have D18 := hid (keepc hba D1.out)
      clear hOA HCP hba hlt
      go_wp2_with (at_builtin; refine appA rfl _ _ rfl w5.heap.size _ st.acts (b, p, s) _ _ rfl rfl HOA.out (cellsA _ _ _ (cell_new wr #[.bool b, .int .i64 p, strV s] 77 0 _ rfl) (cell_new wr #[.bool b, .int .i64 p, strV s] 77 1 _ rfl) (cell_new wr #[.bool b, .int .i64 p, strV s] 77 2 _ rfl)) HLA.out HB8.out.size ?_)
      intro v10 w10 ho10 hg10
      have HB10 := hid (HOA.out.grown HB8.out hg10 HB8.out.size)
      have HO10 := hid ho10
      have hX0 : w10.cell? ⟨X, 0, none⟩ = some (.slice op' np' cp') := grown_cell hg10 (fun e => by simp only [Value.ownBlock, Option.some.injEq] at e; have := HGX.out; omega) D08.out
      have hX1 : w10.cell? ⟨X, 1, none⟩ = some (.slice oq' nq' cq') := grown_cell hg10 (fun e => by simp only [Value.ownBlock, Option.some.injEq] at e; have := HGX.out; omega) D18.out
      obtain ⟨o10, c10, hv10, -, -⟩ := ho10.rd
      obtain ⟨n10, hn10⟩ : ∃ n, (st.acts ++ [(b, p, s)]).length = n := ⟨_, rfl⟩
      rw [hn10] at hv10
      subst hv10
      have HBZ := hid (below_step HB10.out HB5.out)
      have HC10 := hid (HC.out.below HBZ.out)
      obtain ⟨k0, k1, k2, k3, k4, k5, k6, k7, k8, k9⟩ := HC10.out
      have HO0' := hid (fun k hk => keepOwn HBZ.out (HO0.out k hk)); have HO1' := hid (fun k hk => keepOwn HBZ.out (HO1.out k hk))
      have g7 := (HO0'.out 7 (by decide)).2; have g8 := (HO0'.out 8 (by decide)).2; have g9 := (HO0'.out 9 (by decide)).2
      obtain ⟨⟨yv0, y0⟩, f0⟩ := HO1'.out 0 (by decide)
      obtain ⟨⟨yv1, y1⟩, f1⟩ := HO1'.out 1 (by decide)
      obtain ⟨⟨yv2, y2⟩, f2⟩ := HO1'.out 2 (by decide)
      obtain ⟨⟨yv3, y3⟩, f3⟩ := HO1'.out 3 (by decide)
      obtain ⟨⟨yv4, y4⟩, f4⟩ := HO1'.out 4 (by decide)
      obtain ⟨⟨yv5, y5⟩, f5⟩ := HO1'.out 5 (by decide)
      obtain ⟨⟨yv6, y6⟩, f6⟩ := HO1'.out 6 (by decide)
      obtain ⟨⟨yv7, y7⟩, f7⟩ := HO1'.out 7 (by decide)
      obtain ⟨⟨yv8, y8⟩, f8⟩ := HO1'.out 8 (by decide)
      obtain ⟨⟨yv9, y9⟩, f9⟩ := HO1'.out 9 (by decide)
      have hz := World.block_lt_of_cell? _ _ y0
      clear ho10 hg10 hn10 hbz a0 a1 a2 D0 D1 D08 D18
      go_wp2_with fail
      have hfz : Frm (fun k => k < W2.heap.size) w10 (setSt (((w10.setCell ⟨Z, 7, none⟩ (.slice op' np' cp')).setCell ⟨Z, 8, none⟩ (.slice oq' nq' cq')).setCell ⟨Z, 9, none⟩ (.slice o10 n10 c10)) (Z + 2) hd (.slice ok nk ck) (.slice on nn cn) (.slice oo no co) (.slice op' np' cp') (.slice oq' nq' cq') (.slice o10 n10 c10)) := by
        have hs2 := HS2.out; have hzz := HZ.out
        have h1 : Frm (fun k => k < W2.heap.size) w10 (((w10.setCell ⟨Z, 7, none⟩ (.slice op' np' cp')).setCell ⟨Z, 8, none⟩ (.slice oq' nq' cq')).setCell ⟨Z, 9, none⟩ (.slice o10 n10 c10)) :=
          frm_setCell (frm_setCell (frm_setCell (Frm.refl _ _) (by show Z < _; omega) _) (by show Z < _; omega) _) (by show Z < _; omega) _
        exact h1.trans (setSt_frm _ _ _ _ _ _ _ _ _) (fun i _ h => by show i < _; omega)
      obtain ⟨wf, hwf⟩ : ∃ wf, wf = (setSt (((w10.setCell ⟨Z, 7, none⟩ (.slice op' np' cp')).setCell ⟨Z, 8, none⟩ (.slice oq' nq' cq')).setCell ⟨Z, 9, none⟩ (.slice o10 n10 c10)) (Z + 2) hd (.slice ok nk ck) (.slice on nn cn) (.slice oo no co) (.slice op' np' cp') (.slice oq' nq' cq') (.slice o10 n10 c10)) := ⟨_, rfl⟩
      have hfz' := hfz
      rw [← hwf] at hfz'
      have HBF : Hid (Below w.heap.size w wf) := by
        rw [hwf]
        have hle : w.heap.size ≤ Z := by have := HZ.out; omega
        exact setSt_below ((((below_step HBZ.out HB.out).setCell (p := ⟨Z, 7, none⟩) hle _).setCell (p := ⟨Z, 8, none⟩) hle _).setCell (p := ⟨Z, 9, none⟩) hle _) (by omega) _ _ _ _ _ _ _
      have hS2 := HS2.out; have hUU := HU.out
      have hP : Keep U wf (fun x => RdS x (.slice op' np' cp') (actDk st.dk (b, p, s)).1) := (keep_S HOP.out (fun k hk (e : k < W2.heap.size) => by have := (World.ownsRow.lt HOP.out k hk).1; omega)).step ((Frm.of_below HB10.out).trans hfz' (fun i _ h => h)) (fun k hk => .inl (by have := hUU k hk; omega))
      have hQ : Keep U wf (fun x => RdW x (.slice oq' nq' cq') (actDk st.dk (b, p, s)).2) := (keep_W HOQ.out (fun k hk (e : k < W2.heap.size) => by have := (World.ownsRow.lt HOQ.out k hk).1; omega)).step ((Frm.of_below HB10.out).trans hfz' (fun i _ h => h)) (fun k hk => .inl (by have := hUU k hk; omega))
      have hA : Keep U wf (fun x => RdA x (.slice o10 n10 c10) (st.acts ++ [(b, p, s)])) := (keep_A HO10.out (fun k hk (e : k < W2.heap.size) => by have := (World.ownsRow.lt HO10.out k hk).1; have := HB5.out.size; omega)).step hfz' (fun k hk => .inl (by have := hUU k hk; omega))
      refine bodyPost_ret (v := stV hd (.slice ok nk ck) (.slice on nn cn) (.slice oo no co) (.slice op' np' cp') (.slice oq' nq' cq') (.slice o10 n10 c10)) (by simp [results, Tryz.results57, go_sem, y0, y1, y2, y3, y4, y5, y6, y7, y8, y9, hz]) rfl ?_
      have hpost : RetSt U (actSt st (b, p, s)) w (.returned (stV hd (.slice ok nk ck) (.slice on nn cn) (.slice oo no co) (.slice op' np' cp') (.slice oq' nq' cq') (.slice o10 n10 c10))) wf :=
        ⟨_, rfl, ⟨_, _, _, _, _, _, by show _ = stV st.hd _ _ _ _ _ _; rw [HHD.out], Q1.out.below HBF.out, Q2.out.below HBF.out, Q3.out.below HBF.out, hP, hQ, hA⟩, HBF.out⟩
      rw [hwf] at hpost
      exact hpost
end Go.Proofs.YtifcgimpgbeocaaGreat
