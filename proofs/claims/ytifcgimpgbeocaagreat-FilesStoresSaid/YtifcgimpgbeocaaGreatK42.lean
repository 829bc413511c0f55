/- The reference's Do. -/
import Derived.Test.YtifcgimpgbeocaaGreatK33
import Derived.Test.YtifcgimpgbeocaaGreatK37
import Derived.Test.YtifcgimpgbeocaaGreatK30
import Derived.Test.YtifcgimpgbeocaaGreatK31
import Derived.Test.YtifcgimpgbeocaaGreatK29
set_option linter.unusedVariables false
set_option linter.unusedSimpArgs false
namespace Go.Proofs.YtifcgimpgbeocaaGreat
open Go.RowKit
attribute [local go_sem] Oper.semAt_some
theorem apply_err {d : Ds} {o : FOp} (h : (applyD d o).2.2 ≠ 0) : (applyD d o).2.1 = ([], []) := by
  unfold applyD at *
  by_cases h1 : isDs d = true
  · rw [if_pos h1] at *
    by_cases h2 : isOp o = true
    · rw [if_pos h2] at *
      by_cases c1 : o.1 = 1
      · rw [if_pos c1] at *
        by_cases e : (readD d o.2.2.1).2 = 0
        · rw [if_pos e] at h; exact absurd rfl h
        · rw [if_neg e]
      rw [if_neg c1] at *
      by_cases c2 : o.1 = 2
      · rw [if_pos c2] at *
        by_cases e : (nextD d o.2.2.1).2 = 0
        · rw [if_pos e] at h; exact absurd rfl h
        · rw [if_neg e]
      rw [if_neg c2] at *
      by_cases c3 : o.1 = 3
      · rw [if_pos c3]
      rw [if_neg c3]
      by_cases c4 : o.1 = 4
      · rw [if_pos c4]
      rw [if_neg c4]
    · rw [if_neg h2]
  · rw [if_neg h1]
theorem doSt_bad {st : St} {o : FOp} (h : ¬ (isOp o = true ∧ o.2.1 < (st.now.length : Int))) : doSt st o = (st, ([], []), 1) := by
  unfold doSt
  rw [doData_bad h]
  rfl
theorem doSt_no {st : St} {o : FOp} {d : Ds} (h1 : isOp o = true) (h2 : o.2.1 < (st.now.length : Int)) (hd : st.now[o.2.1.toNat]? = some d) (he : (applyD d o).2.2 ≠ 0) : doSt st o = (st, (applyD d o).2.1, (applyD d o).2.2) := by
  have h3 := doData_err' h1 h2 hd
  have h4 : doData st.now o = (st.now, ([], []), (applyD d o).2.2) := by
    unfold doData
    rw [if_pos ⟨h1, h2⟩, hd, Option.getD_some, if_neg he]
  unfold doSt
  rw [h4, if_neg he, apply_err he]
theorem doSt_rd {st : St} {o : FOp} {d : Ds} (hall : AllDs st.now) (h1 : isOp o = true) (h2 : o.2.1 < (st.now.length : Int)) (hd : st.now[o.2.1.toNat]? = some d) (he : (applyD d o).2.2 = 0) (hc : ¬ (3 ≤ o.1 ∧ o.1 ≤ 5)) : doSt st o = (st, (applyD d o).2.1, 0) := by
  have h4 := doData_set h1 h2 hd he
  have hcf : chg o = false := by unfold chg; rw [decide_eq_false hc]; rfl
  have h5 := doData_read hall (by rw [h4]; exact he) hcf
  unfold doSt
  rw [h4] at h5 ⊢
  simp only at h5
  rw [if_pos he, hcf, h5]
  show ((⟨st.dk, st.hd, st.log, st.ops, st.now, st.kept, st.acts⟩ : St), (applyD d o).2) = _
  rw [← he]
theorem doSt_wr {st : St} {o : FOp} {d : Ds} (h1 : isOp o = true) (h2 : o.2.1 < (st.now.length : Int)) (hd : st.now[o.2.1.toNat]? = some d) (he : (applyD d o).2.2 = 0) (hc : 3 ≤ o.1 ∧ o.1 ≤ 5) :
    doSt st o = ({ st with now := st.now.set o.2.1.toNat (applyD d o).1, ops := st.ops ++ [o] }, (applyD d o).2.1, 0) := by
  have h4 := doData_set h1 h2 hd he
  have hcf : chg o = true := by unfold chg; rw [decide_eq_true hc, h1]; rfl
  unfold doSt
  rw [h4]
  simp only
  rw [if_pos he, hcf, if_pos rfl, ← he]
/-- A dataset of a row that U does not touch. -/
theorem keep_elem {U : Nat → Prop} {w : World} {o : Option Addr} {n c : Nat} {l : List Ds} (h : Keep U w (fun x => RdD x (.slice o n c) l)) {i : Nat} {d : Ds} (hi : l[i]? = some d) :
    ∃ b off u, o = some ⟨b, off, none⟩ ∧ w.cell? ⟨b, off + i, none⟩ = some u ∧ Keep U w (fun x => RdR x u d) := by
  obtain ⟨o', c', e, -, h1⟩ := h.now
  cases e
  rcases h1 with h1 | ⟨b, off, rfl, hb, h1⟩
  · rw [h1] at hi; cases hi
  obtain ⟨u, hu, hr⟩ := h1 i d hi
  refine ⟨b, off, u, rfl, hu, ?_⟩
  have hnU : ¬ U b := fun hub => by
    have hx := h (w.setCell ⟨b, off + i, none⟩ (.bool true)) (frm_setCell (Frm.refl _ _) hub _)
    obtain ⟨o2, c2, e2, -, h2⟩ := hx
    cases e2
    rcases h2 with h2 | ⟨b2, off2, e2, -, h2⟩
    · rw [h2] at hi; cases hi
    cases e2
    obtain ⟨u2, hu2, hr2⟩ := h2 i d hi
    rw [World.cell?_setCell_same _ _ _ hu] at hu2
    cases hu2
    obtain ⟨o3, c3, e3, -⟩ := hr2
    cases e3
  intro x hx
  obtain ⟨o2, c2, e2, -, h2⟩ := h x hx
  cases e2
  rcases h2 with h2 | ⟨b2, off2, e2, -, h2⟩
  · rw [h2] at hi; cases hi
  cases e2
  obtain ⟨u2, hu2, hr2⟩ := h2 i d hi
  rw [hx.cell hnU hu] at hu2
  cases hu2
  exact hr2
/-- What the reference's Do leaves. -/
def RetDo (U : Nat → Prop) (r : St × Rec × Int) (w : World) (e : Ending) (w' : World) : Prop := ∃ v, e = .returned (.tuple #[v, .agg #[strV r.2.1.1, strV r.2.1.2], .int .i64 r.2.2]) ∧ KSt U w' v r.1 ∧ Below w.heap.size w w'
set_option maxHeartbeats 8000000 in
set_option maxRecDepth 100000 in
theorem rdo_any (U : Nat → Prop) (st : St) (o : FOp) (v : Value) (w : World) (hU : ∀ k, U k → k < w.heap.size) (hS : KSt U w v st) (hall : AllDs st.now) (hl8 : st.now.length ≤ 8) (hlo : st.ops.length ≤ 900000) :
    Calls Tryz.prog 19 #[v, opV o] w (RetDo U (doSt st o) w) := by
  have HU := hid hU
  have HV := hid (fun w' => rvalid_any o w')
  have HBAD := hid (doSt_bad (st := st) (o := o))
  have HNO := hid (fun (h1 : isOp o = true) (h2 : o.2.1 < (st.now.length : Int)) d (hd : st.now[o.2.1.toNat]? = some d) => And.intro (doSt_no h1 h2 hd) (And.intro (doSt_rd hall h1 h2 hd) (doSt_wr h1 h2 hd)))
  obtain ⟨x0, x1, x2, x3⟩ := o
  obtain ⟨vk, vn, vo, vp, vq, va, rfl, k1, k2, k3, k4, k5, k6⟩ := hS
  have Q1 := hid k1; have Q2 := hid k2; have Q3 := hid k3; have Q4 := hid k4; have Q5 := hid k5; have Q6 := hid k6
  obtain ⟨ok, ck, hvk, -, -⟩ := k1.now
  obtain ⟨on, cn, hvn, -, -⟩ := k2.now
  obtain ⟨oo, co, hvo, -, -⟩ := k3.now
  obtain ⟨op, cp, hvp, -, -⟩ := k4.now
  obtain ⟨oq, cq, hvq, -, -⟩ := k5.now
  obtain ⟨oa, ca, hva, -, -⟩ := k6.now
  obtain ⟨nk, hnk⟩ : ∃ n, st.kept.length = n := ⟨_, rfl⟩
  obtain ⟨nn, hnn⟩ : ∃ n, st.now.length = n := ⟨_, rfl⟩
  obtain ⟨no, hno⟩ : ∃ n, st.ops.length = n := ⟨_, rfl⟩
  obtain ⟨np, hnp⟩ : ∃ n, st.dk.1.length = n := ⟨_, rfl⟩
  obtain ⟨nq, hnq⟩ : ∃ n, st.dk.2.length = n := ⟨_, rfl⟩
  obtain ⟨na, hna⟩ : ∃ n, st.acts.length = n := ⟨_, rfl⟩
  rw [hnk] at hvk; rw [hnn] at hvn; rw [hno] at hvo; rw [hnp] at hvp; rw [hnq] at hvq; rw [hna] at hva
  have NK := hid hnk; have NN := hid hnn; have NO := hid hno; have NP := hid hnp; have NQ := hid hnq; have NA := hid hna
  subst hvk; subst hvn; subst hvo; subst hvp; subst hvq; subst hva
  obtain ⟨hd, hhd⟩ : ∃ x, st.hd = x := ⟨_, rfl⟩
  rw [hhd]
  have HHD := hid hhd
  clear k1 k2 k3 k4 k5 k6 hnk hnn hno hnp hnq hna hhd
  obtain ⟨W0, hW0⟩ : ∃ x, x = w.alloc (.cells #[.int .i64 hd.1, .int .i64 hd.2.1, .int .i64 hd.2.2.1, .int .i64 hd.2.2.2, .slice ok nk ck, .slice on nn cn, .slice oo no co, .slice op np cp, .slice oq nq cq, .slice oa na ca] 39) := ⟨_, rfl⟩
  have hbW0 : Below w.heap.size w W0 := by rw [hW0]; exact balloc (Below.refl _ _) _
  have hzW0 : W0.heap.size = w.heap.size + 1 := by rw [hW0]; simp
  have hcW0 : StC W0 w.heap.size hd (.slice ok nk ck) (.slice on nn cn) (.slice oo no co) (.slice op np cp) (.slice oq nq cq) (.slice oa na ca) := by rw [hW0]; exact StC.new _ _ _ _ _ _ _ _
  have hoW0 : ∀ k, k < 10 → OwnC W0 ⟨w.heap.size, k, none⟩ := by rw [hW0]; exact own_newN w _ _ 10 (by simp)
  obtain ⟨R, hR⟩ : ∃ r, doSt st (x0, x1, x2, x3) = r := ⟨_, rfl⟩
  rw [hR] at HBAD HNO ⊢
  have hnn8 : nn ≤ 8 := by have := NN.out; omega
  have hno9 : no ≤ 900000 := by have := NO.out; omega
  obtain ⟨W1, hW1⟩ : ∃ x, x = W0.alloc (.cells #[.int .i64 x0, .int .i64 x1, strV x2, strV x3] 55) := ⟨_, rfl⟩
  have hbW1 : Below W0.heap.size W0 W1 := by rw [hW1]; exact balloc (Below.refl _ _) _
  have hzW1 : W1.heap.size = W0.heap.size + 1 := by rw [hW1]; simp
  have a0 : W1.cell? ⟨W0.heap.size, 0, none⟩ = some (.int .i64 x0) := by rw [hW1]; exact cell_new _ _ _ 0 _ rfl
  have a1 : W1.cell? ⟨W0.heap.size, 1, none⟩ = some (.int .i64 x1) := by rw [hW1]; exact cell_new _ _ _ 1 _ rfl
  have a2 : W1.cell? ⟨W0.heap.size, 2, none⟩ = some (strV x2) := by rw [hW1]; exact cell_new _ _ _ 2 _ rfl
  have a3 : W1.cell? ⟨W0.heap.size, 3, none⟩ = some (strV x3) := by rw [hW1]; exact cell_new _ _ _ 3 _ rfl
  obtain ⟨W2, hW2⟩ : ∃ x, x = W1.alloc (.cells #[.int .i64 0, .int .i64 0, .int .i64 0, .int .i64 0, nilS, nilS, nilS, nilS, nilS, nilS] 39) := ⟨_, rfl⟩
  have hbW2 : Below W1.heap.size W1 W2 := by rw [hW2]; exact balloc (Below.refl _ _) _
  have hzW2 : W2.heap.size = W1.heap.size + 1 := by rw [hW2]; simp
  have hoW2 : ∀ k, k < 10 → OwnC W2 ⟨W1.heap.size, k, none⟩ := by rw [hW2]; exact own_newN W1 _ _ 10 (by simp)
  obtain ⟨W3, hW3⟩ : ∃ x, x = W2.alloc (.cells #[strV [], strV []] 59) := ⟨_, rfl⟩
  have hbW3 : Below W2.heap.size W2 W3 := by rw [hW3]; exact balloc (Below.refl _ _) _
  have hzW3 : W3.heap.size = W2.heap.size + 1 := by rw [hW3]; simp
  have hoW3 : ∀ k, k < 2 → OwnC W3 ⟨W2.heap.size, k, none⟩ := by rw [hW3]; exact own_newN W2 _ _ 2 (by simp)
  have hb13 := below_step hbW3 hbW2
  have hb03 := below_step hb13 hbW1
  have HC := hid (hcW0.below hb03); have HO0 := hid (fun k hk => keepOwn hb03 (hoW0 k hk)); have HA := hid (And.intro (keepc hb13 a0) (And.intro (keepc hb13 a1) (And.intro (keepc hb13 a2) (keepc hb13 a3))))
  have hzz : W1.heap.size = w.heap.size + 1 + 1 := by omega
  have hzy : W2.heap.size = w.heap.size + 1 + 1 + 1 := by omega
  have HOY := hid (fun k hk => keepOwn hbW3 (hoW2 k hk)); have HOR := hid hoW3
  rw [hzz] at HOY; rw [hzy] at HOR
  rw [hzW0] at HA
  have HB := hid (below_step hb03 hbW0)
  have HS3 : Hid (W3.heap.size = w.heap.size + 4) := by unfold Hid; omega
  have HW0 := hid hW0; have HW1 := hid hW1; have HW2 := hid hW2; have HW3 := hid hW3
  have HZ0 := hid hzW0; have HZ1 := hid hzz; have HZ2 := hid hzy
  obtain ⟨Z, hZ⟩ : ∃ x, w.heap.size = x := ⟨_, rfl⟩
  have HZ := hid hZ
  rw [hZ] at HC HO0 HOY HOR HA HZ0 HZ1 HZ2
  clear hW0 hW1 hW2 hW3 hbW0 hbW1 hbW2 hbW3 hb13 hb03 hzW0 hzW1 hzW2 hzW3 hcW0 hoW0 hoW2 hoW3 hZ hzz hzy a0 a1 a2 a3 hU hall hl8 hlo hR
  go_enter Tryz.func19, Tryz.ntmps19
  go_upto_region 1 with fail
  have e := HW0.out
  simp only [← e]
  have e2 := HW1.out
  simp only [← e2]
  have e3 := HW2.out
  simp only [← e3]
  have e4 := HW3.out
  simp only [← e4]
  clear e e2 e3 e4 HW0 HW1 HW2 HW3
  try rw [HZ2.out]
  try rw [HZ1.out]
  try rw [HZ0.out]
  try rw [HZ.out]
  obtain ⟨k0, k1, k2, k3, k4, k5, k6, k7, k8, k9⟩ := HC.out
  obtain ⟨a0, a1, a2, a3⟩ := HA.out
  go_wp2_with fail
  refine (HV.out _).mono ?_
  rintro e w4 ⟨rfl, hb4⟩
  have HB4 := hid hb4
  have HC4 := hid (HC.out.below hb4)
  obtain ⟨k0, k1, k2, k3, k4, k5, k6, k7, k8, k9⟩ := HC4.out
  have a0 := keepc hb4 HA.out.1; have a1 := keepc hb4 HA.out.2.1; have a2 := keepc hb4 HA.out.2.2.1; have a3 := keepc hb4 HA.out.2.2.2
  have AA0 := hid a0; have AA1 := hid a1; have AA2 := hid a2; have AA3 := hid a3
  have HOZ4 := hid (fun k hk => keepOwn hb4 (HO0.out k hk)); have HOY4 := hid (fun k hk => keepOwn hb4 (HOY.out k hk)); have HOR4 := hid (fun k hk => keepOwn hb4 (HOR.out k hk))
  have HB04 := hid (below_step hb4 HB.out)
  clear hb4
  by_cases hio : isOp (x0, x1, x2, x3) = true
  rotate_left
  · have hif : isOp (x0, x1, x2, x3) = false := by simpa using hio
    have HRR := hid (HBAD.out (fun h => hio h.1))
    rw [hif]
    clear hio hif
    obtain ⟨⟨yv0, y0⟩, f0⟩ := HOY4.out 0 (by decide)
    obtain ⟨⟨yv1, y1⟩, f1⟩ := HOY4.out 1 (by decide)
    obtain ⟨⟨yv2, y2⟩, f2⟩ := HOY4.out 2 (by decide)
    obtain ⟨⟨yv3, y3⟩, f3⟩ := HOY4.out 3 (by decide)
    obtain ⟨⟨yv4, y4⟩, f4⟩ := HOY4.out 4 (by decide)
    obtain ⟨⟨yv5, y5⟩, f5⟩ := HOY4.out 5 (by decide)
    obtain ⟨⟨yv6, y6⟩, f6⟩ := HOY4.out 6 (by decide)
    obtain ⟨⟨yv7, y7⟩, f7⟩ := HOY4.out 7 (by decide)
    obtain ⟨⟨yv8, y8⟩, f8⟩ := HOY4.out 8 (by decide)
    obtain ⟨⟨yv9, y9⟩, f9⟩ := HOY4.out 9 (by decide)
    obtain ⟨⟨zv0, z0⟩, g0⟩ := HOR4.out 0 (by decide)
    obtain ⟨⟨zv1, z1⟩, g1⟩ := HOR4.out 1 (by decide)
    have hz := World.block_lt_of_cell? _ _ y0
    have hz2 := World.block_lt_of_cell? _ _ z0
    have hle : w.heap.size ≤ Z := by have := HZ.out; omega
    go_wp2_with fail
    rw [HRR.out]
    have hb9 := ((setSt_below HB04.out (show w.heap.size ≤ Z + 1 + 1 by omega) hd (.slice ok nk ck) (.slice on nn cn) (.slice oo no co) (.slice op np cp) (.slice oq nq cq) (.slice oa na ca)).setCell (p := ⟨Z + 1 + 1 + 1, 0, none⟩) (by show _ ≤ Z + 1 + 1 + 1; omega) (strV [])).setCell (p := ⟨Z + 1 + 1 + 1, 1, none⟩) (by show _ ≤ Z + 1 + 1 + 1; omega) (strV [])
    exact bodyPost_ret (v := .tuple #[stV hd (.slice ok nk ck) (.slice on nn cn) (.slice oo no co) (.slice op np cp) (.slice oq nq cq) (.slice oa na ca), .agg #[strV [], strV []], .int .i64 1]) (by simp [results, Tryz.results19, go_sem, y0, y1, y2, y3, y4, y5, y6, y7, y8, y9, z0, z1, hz, hz2]) rfl
      ⟨_, rfl, ⟨_, _, _, _, _, _, by show _ = stV st.hd _ _ _ _ _ _; rw [HHD.out], Q1.out.below hb9, Q2.out.below hb9, Q3.out.below hb9, Q4.out.below hb9, Q5.out.below hb9, Q6.out.below hb9⟩, hb9⟩
  rw [hio]
  have hf0 : 0 ≤ x1 := (isOp_f hio).1
  by_cases hge : (nn : Int) ≤ x1
  · have HRR := hid (HBAD.out (fun h => by have h2 : x1 < (st.now.length : Int) := h.2; rw [NN.out] at h2; omega))
    clear hio hf0
    obtain ⟨⟨yv0, y0⟩, f0⟩ := HOY4.out 0 (by decide)
    obtain ⟨⟨yv1, y1⟩, f1⟩ := HOY4.out 1 (by decide)
    obtain ⟨⟨yv2, y2⟩, f2⟩ := HOY4.out 2 (by decide)
    obtain ⟨⟨yv3, y3⟩, f3⟩ := HOY4.out 3 (by decide)
    obtain ⟨⟨yv4, y4⟩, f4⟩ := HOY4.out 4 (by decide)
    obtain ⟨⟨yv5, y5⟩, f5⟩ := HOY4.out 5 (by decide)
    obtain ⟨⟨yv6, y6⟩, f6⟩ := HOY4.out 6 (by decide)
    obtain ⟨⟨yv7, y7⟩, f7⟩ := HOY4.out 7 (by decide)
    obtain ⟨⟨yv8, y8⟩, f8⟩ := HOY4.out 8 (by decide)
    obtain ⟨⟨yv9, y9⟩, f9⟩ := HOY4.out 9 (by decide)
    obtain ⟨⟨zv0, z0⟩, g0⟩ := HOR4.out 0 (by decide)
    obtain ⟨⟨zv1, z1⟩, g1⟩ := HOR4.out 1 (by decide)
    have hz := World.block_lt_of_cell? _ _ y0
    have hz2 := World.block_lt_of_cell? _ _ z0
    have hle : w.heap.size ≤ Z := by have := HZ.out; omega
    go_wp2_with fail
    rw [HRR.out]
    have hb9 := ((setSt_below HB04.out (show w.heap.size ≤ Z + 1 + 1 by omega) hd (.slice ok nk ck) (.slice on nn cn) (.slice oo no co) (.slice op np cp) (.slice oq nq cq) (.slice oa na ca)).setCell (p := ⟨Z + 1 + 1 + 1, 0, none⟩) (by show _ ≤ Z + 1 + 1 + 1; omega) (strV [])).setCell (p := ⟨Z + 1 + 1 + 1, 1, none⟩) (by show _ ≤ Z + 1 + 1 + 1; omega) (strV [])
    exact bodyPost_ret (v := .tuple #[stV hd (.slice ok nk ck) (.slice on nn cn) (.slice oo no co) (.slice op np cp) (.slice oq nq cq) (.slice oa na ca), .agg #[strV [], strV []], .int .i64 1]) (by simp [results, Tryz.results19, go_sem, y0, y1, y2, y3, y4, y5, y6, y7, y8, y9, z0, z1, hz, hz2]) rfl
      ⟨_, rfl, ⟨_, _, _, _, _, _, by show _ = stV st.hd _ _ _ _ _ _; rw [HHD.out], Q1.out.below hb9, Q2.out.below hb9, Q3.out.below hb9, Q4.out.below hb9, Q5.out.below hb9, Q6.out.below hb9⟩, hb9⟩
  obtain ⟨f, rfl⟩ : ∃ f : Nat, x1 = (f : Int) := ⟨x1.toNat, by omega⟩
  have hfn : f < nn := by omega
  have hfi : (f : Int) < (nn : Int) := by omega
  obtain ⟨d, hd'⟩ : ∃ d, st.now[f]? = some d := ⟨_, List.getElem?_eq_getElem (by have := NN.out; omega)⟩
  have HD := hid hd'
  have HNO := hid (HNO.out hio (by rw [NN.out]; exact hfi) d (by simp only [Int.toNat_natCast]; exact hd'))
  obtain ⟨bn, offn, u, hon, hcu, hku⟩ := keep_elem Q2.out hd'
  subst hon
  have HKU := hid hku
  have cu := keepc HB04.out hcu
  have HAP := hid (fun w' (hb : Below w4.heap.size w4 w') => rapply_any d u (x0, (f : Int), x2, x3) w' (HKU.out.now.below (below_step hb HB04.out)))
  obtain ⟨A, hA⟩ : ∃ A, applyD d (x0, (f : Int), x2, x3) = A := ⟨_, rfl⟩
  rw [hA] at HNO HAP
  obtain ⟨A1, ⟨A2, A3⟩, E⟩ := A
  simp only at HNO HAP
  clear hio hf0 hd' hcu hku hA HBAD
  go_wp2_with fail
  go_cut [7, 8, 9] (fun v7 x8 e9 wx => ∃ X : Nat, x8 = .pointer (some ⟨X, 0, none⟩) ∧ Hid (OR wx w4.heap.size v7 A1) ∧ Hid (wx.cell? ⟨X, 0, none⟩ = some (strV A2)) ∧ Hid (wx.cell? ⟨X, 1, none⟩ = some (strV A3)) ∧ Hid (w4.heap.size ≤ X) ∧ e9 = .int .i64 E ∧ Hid (Below w4.heap.size w4 wx))
  case first =>
    have hbd := drew_below w4
    have hba := balloc hbd (.cells #[strV [], strV []] 59)
    go_region_held3 (fun w' => Below w4.heap.size w4 w' ∧ w'.cell? ⟨Z, 5, none⟩ = some (.slice (some ⟨bn, offn, none⟩) nn cn) ∧ w'.cell? ⟨Z + 1, 0, none⟩ = some (.int .i64 x0) ∧ w'.cell? ⟨Z + 1, 1, none⟩ = some (.int .i64 (f : Int)) ∧ w'.cell? ⟨Z + 1, 2, none⟩ = some (strV x2) ∧ w'.cell? ⟨Z + 1, 3, none⟩ = some (strV x3) ∧ w'.cell? ⟨bn, offn + f, none⟩ = some u)
      ((refine (fun hS => ⟨hS, keepc hS k5, keepc hS a0, keepc hS a1, keepc hS a2, keepc hS a3, keepc hS cu⟩ : Below w4.heap.size w4 _ → _) ?_; first | exact hbd | exact hbx | exact hbx.alloc hbx.size _ | exact (hbx.setCell (Nat.le_refl _) _).setCell (Nat.le_refl _) _ | exact hba))
      (first
        | (go_at_call 52; refine (HAP.out _ hba).mono ?_; rintro e w7 ⟨v7, rfl, ho7, hb7⟩; have oo0 : OwnC w7 ⟨w4.heap.size, 0, none⟩ := keepOwn hb7 (ownc_new w4.drew #[strV [], strV []] 59 0 (by decide)); have oo1 : OwnC w7 ⟨w4.heap.size, 1, none⟩ := keepOwn hb7 (ownc_new w4.drew #[strV [], strV []] 59 1 (by decide)); obtain ⟨⟨z0, y0⟩, f0⟩ := oo0; obtain ⟨⟨z1, y1⟩, f1⟩ := oo1; have hbx : Below w4.heap.size w4 w7 := below_step hb7 hba; have HO7 := hid (OR.mono ho7 (B' := w4.heap.size + 1) (by simp)); clear ho7)
        | (go_at_call 52; refine (HAP.out _ hbd).mono ?_; rintro e w7 ⟨v7, rfl, ho7, hb7⟩; have hbx : Below w4.heap.size w4 w7 := below_step hb7 hbd; have HO7 := hid ho7; clear ho7)
        | (fail "x"))
    · have hz := hbx.size
      have HO8 := hid (HO7.out.below (balloc (Below.refl _ _) (.cells #[strV A2, strV A3] 59)))
      have HB8 := hid (hbx.alloc hz (.cells #[strV A2, strV A3] 59))
      have X0 : Hid ((w7.alloc (.cells #[strV A2, strV A3] 59)).cell? ⟨w7.heap.size, 0, none⟩ = some (strV A2)) := cell_new _ _ _ 0 _ rfl
      have X1 : Hid ((w7.alloc (.cells #[strV A2, strV A3] 59)).cell? ⟨w7.heap.size, 1, none⟩ = some (strV A3)) := cell_new _ _ _ 1 _ rfl
      go_wp2_with fail
      go_meet
      case rel => exact ⟨_, rfl, HO8, X0, X1, hz, rfl, HB8⟩
    · have HO8 : Hid (OR ((w7.setCell ⟨w4.heap.size, 0, none⟩ (strV A2)).setCell ⟨w4.heap.size, 1, none⟩ (strV A3)) (w4.heap.size + 1) v7 A1) := ownsRow_setCell_below (ownsRow_setCell_below HO7.out (a := ⟨w4.heap.size, 0, none⟩) (by simp only; omega) (strV A2)) (a := ⟨w4.heap.size, 1, none⟩) (by simp only; omega) (strV A3)
      have HB8 := hid ((hbx.setCell (p := ⟨w4.heap.size, 0, none⟩) (Nat.le_refl _) (strV A2)).setCell (p := ⟨w4.heap.size, 1, none⟩) (Nat.le_refl _) (strV A3))
      have X0 : Hid (((w7.setCell ⟨w4.heap.size, 0, none⟩ (strV A2)).setCell ⟨w4.heap.size, 1, none⟩ (strV A3)).cell? ⟨w4.heap.size, 0, none⟩ = some (strV A2)) := by
        unfold Hid; rw [World.cell?_setCell_other _ _ _ _ (fun e => by cases e)]; exact World.cell?_setCell_same _ _ _ y0
      have X1 : Hid (((w7.setCell ⟨w4.heap.size, 0, none⟩ (strV A2)).setCell ⟨w4.heap.size, 1, none⟩ (strV A3)).cell? ⟨w4.heap.size, 1, none⟩ = some (strV A3)) := by
        obtain ⟨q, hq⟩ : ∃ q, (w7.setCell ⟨w4.heap.size, 0, none⟩ (strV A2)).cell? ⟨w4.heap.size, 1, none⟩ = some q := cell?_setCell_some y1
        exact World.cell?_setCell_same _ _ _ hq
      go_wp2_with fail
      go_meet
      case rel => exact ⟨_, rfl, OR.mono HO8.out (by omega), X0, X1, Nat.le_refl _, rfl, HB8⟩
  case rest =>
  obtain ⟨X, rfl, HO5, X0, X1, HX, rfl, HB5⟩ := hcut
  obtain ⟨o7, n7, c7, rfl⟩ : ∃ o n c, u7 = .slice o n c := by obtain ⟨o, c, e, -⟩ := HO5.out.rd; exact ⟨o, _, c, e⟩
  obtain ⟨w5, hw5⟩ : ∃ x, x = wc := ⟨_, rfl⟩
  subst hw5
  have HZ4 : Hid (Z + 4 ≤ w4.heap.size) := by have := HB4.out.size; have := HS3.out; have := HZ.out; unfold Hid; omega
  have HB05 := hid (below_step HB5.out HB04.out)
  have HC5 := hid (HC4.out.below HB5.out)
  have HOZ5 := hid (fun k hk => keepOwn HB5.out (HOZ4.out k hk)); have HOY5 := hid (fun k hk => keepOwn HB5.out (HOY4.out k hk)); have HOR5 := hid (fun k hk => keepOwn HB5.out (HOR4.out k hk))
  have AA0 := hid (keepc HB5.out AA0.out); have AA1 := hid (keepc HB5.out AA1.out); have AA2 := hid (keepc HB5.out AA2.out); have AA3 := hid (keepc HB5.out AA3.out)
  clear k0 k1 k2 k3 k4 k5 k6 k7 k8 k9 a0 a1 a2 a3 cu HV HAP
  by_cases hE : E = 0
  rotate_left
  · have g1 : (E != 0) = true := by simpa using hE
    have g2 : (E == 0) = false := by simpa using hE
    have HRR : Hid (R = (st, (A2, A3), E)) := HNO.out.1 hE
    clear hE
    go_wp2_with fail
    obtain ⟨k0, k1, k2, k3, k4, k5, k6, k7, k8, k9⟩ := HC5.out
    have xx0 := X0.out; have xx1 := X1.out
    obtain ⟨⟨yv0, y0⟩, f0⟩ := HOY5.out 0 (by decide)
    obtain ⟨⟨yv1, y1⟩, f1⟩ := HOY5.out 1 (by decide)
    obtain ⟨⟨yv2, y2⟩, f2⟩ := HOY5.out 2 (by decide)
    obtain ⟨⟨yv3, y3⟩, f3⟩ := HOY5.out 3 (by decide)
    obtain ⟨⟨yv4, y4⟩, f4⟩ := HOY5.out 4 (by decide)
    obtain ⟨⟨yv5, y5⟩, f5⟩ := HOY5.out 5 (by decide)
    obtain ⟨⟨yv6, y6⟩, f6⟩ := HOY5.out 6 (by decide)
    obtain ⟨⟨yv7, y7⟩, f7⟩ := HOY5.out 7 (by decide)
    obtain ⟨⟨yv8, y8⟩, f8⟩ := HOY5.out 8 (by decide)
    obtain ⟨⟨yv9, y9⟩, f9⟩ := HOY5.out 9 (by decide)
    obtain ⟨⟨zv0, z0⟩, g0⟩ := HOR5.out 0 (by decide)
    obtain ⟨⟨zv1, z1⟩, g1⟩ := HOR5.out 1 (by decide)
    have hz := World.block_lt_of_cell? _ _ y0
    have hz2 := World.block_lt_of_cell? _ _ z0
    have hle : w.heap.size ≤ Z := by have := HZ.out; omega
    have hn1 : ¬ X = Z + 1 + 1 := by have := HX.out; have := HZ4.out; omega
    have hn2 : ¬ X = Z + 1 + 1 + 1 := by have := HX.out; have := HZ4.out; omega
    have hn3 : ¬ Z + 1 + 1 = X := by omega
    have hn4 : ¬ Z + 1 + 1 + 1 = X := by omega
    have hb9 := (((setSt_below HB05.out (show w.heap.size ≤ Z + 1 + 1 by omega) hd (.slice ok nk ck) (.slice (some ⟨bn, offn, none⟩) nn cn) (.slice oo no co) (.slice op np cp) (.slice oq nq cq) (.slice oa na ca)).setCell (p := ⟨Z + 1 + 1 + 1, 0, none⟩) (by show _ ≤ Z + 1 + 1 + 1; omega) (strV A2)).setCell (p := ⟨Z + 1 + 1 + 1, 1, none⟩) (by show _ ≤ Z + 1 + 1 + 1; omega) (strV A3)).drew
    have HPOST : Hid (RetDo U (st, (A2, A3), E) w (.returned (.tuple #[stV hd (.slice ok nk ck) (.slice (some ⟨bn, offn, none⟩) nn cn) (.slice oo no co) (.slice op np cp) (.slice oq nq cq) (.slice oa na ca), .agg #[strV A2, strV A3], .int .i64 E])) (((setSt w5 (Z + 1 + 1) hd (.slice ok nk ck) (.slice (some ⟨bn, offn, none⟩) nn cn) (.slice oo no co) (.slice op np cp) (.slice oq nq cq) (.slice oa na ca)).setCell ⟨Z + 1 + 1 + 1, 0, none⟩ (strV A2)).setCell ⟨Z + 1 + 1 + 1, 1, none⟩ (strV A3)).drew) :=
      ⟨_, rfl, ⟨_, _, _, _, _, _, by show _ = stV st.hd _ _ _ _ _ _; rw [HHD.out], Q1.out.below hb9, Q2.out.below hb9, Q3.out.below hb9, Q4.out.below hb9, Q5.out.below hb9, Q6.out.below hb9⟩, hb9⟩
    have HPOST := hid HPOST.out
    unfold setSt at HPOST
    clear hb9
    go_upto_region 5 with fail
    go_region_with (fail "x")
    all_goals
      go_wp2_with fail
      rw [HRR.out]
      refine bodyPost_ret (v := .tuple #[stV hd (.slice ok nk ck) (.slice (some ⟨bn, offn, none⟩) nn cn) (.slice oo no co) (.slice op np cp) (.slice oq nq cq) (.slice oa na ca), .agg #[strV A2, strV A3], .int .i64 E]) ?_ rfl ?_
      · simp [results, Tryz.results19, go_sem, y0, y1, y2, y3, y4, y5, y6, y7, y8, y9, z0, z1, hz, hz2]
      · exact HPOST.out
  subst hE
  have HRD := hid (HNO.out.2.1 rfl); have HWR := hid (HNO.out.2.2 rfl)
  have a0 := AA0.out; have a1 := AA1.out; have a2 := AA2.out; have a3 := AA3.out
  go_wp2_with fail
  refine (rchanges_any x0 _).mono ?_
  rintro e w6 ⟨rfl, hb6⟩
  have HC5 := hid (HC5.out.below hb6)
  have HOZ5 := hid (fun k hk => keepOwn hb6 (HOZ5.out k hk)); have HOY5 := hid (fun k hk => keepOwn hb6 (HOY5.out k hk)); have HOR5 := hid (fun k hk => keepOwn hb6 (HOR5.out k hk))
  have X0 := hid (keepc hb6 X0.out); have X1 := hid (keepc hb6 X1.out)
  have HB06 := hid (below_step hb6 HB05.out)
  have HO6 := hid (HO5.out.below hb6)
  have HS56 : Hid (w4.heap.size ≤ w5.heap.size ∧ w5.heap.size ≤ w6.heap.size) := ⟨HB5.out.size, hb6.size⟩
  have AA0 := hid (keepc hb6 AA0.out); have AA1 := hid (keepc hb6 AA1.out); have AA2 := hid (keepc hb6 AA2.out); have AA3 := hid (keepc hb6 AA3.out)
  have HOL : Hid (∀ k, (Value.slice o7 n7 c7).ownBlock = some k → w4.heap.size ≤ k ∧ k < w5.heap.size) := fun k hk => World.ownsRow.lt HO5.out k hk
  clear hb6 a0 a1 a2 a3
  by_cases hck : 3 ≤ x0 ∧ x0 ≤ 5
  rotate_left
  · have HRR : Hid (R = (st, (A2, A3), 0)) := HRD.out hck
    rw [decide_eq_false hck]
    clear hck
    go_wp2_with fail
    obtain ⟨k0, k1, k2, k3, k4, k5, k6, k7, k8, k9⟩ := HC5.out
    have xx0 := X0.out; have xx1 := X1.out
    obtain ⟨⟨yv0, y0⟩, f0⟩ := HOY5.out 0 (by decide)
    obtain ⟨⟨yv1, y1⟩, f1⟩ := HOY5.out 1 (by decide)
    obtain ⟨⟨yv2, y2⟩, f2⟩ := HOY5.out 2 (by decide)
    obtain ⟨⟨yv3, y3⟩, f3⟩ := HOY5.out 3 (by decide)
    obtain ⟨⟨yv4, y4⟩, f4⟩ := HOY5.out 4 (by decide)
    obtain ⟨⟨yv5, y5⟩, f5⟩ := HOY5.out 5 (by decide)
    obtain ⟨⟨yv6, y6⟩, f6⟩ := HOY5.out 6 (by decide)
    obtain ⟨⟨yv7, y7⟩, f7⟩ := HOY5.out 7 (by decide)
    obtain ⟨⟨yv8, y8⟩, f8⟩ := HOY5.out 8 (by decide)
    obtain ⟨⟨yv9, y9⟩, f9⟩ := HOY5.out 9 (by decide)
    obtain ⟨⟨zv0, z0⟩, g0⟩ := HOR5.out 0 (by decide)
    obtain ⟨⟨zv1, z1⟩, g1⟩ := HOR5.out 1 (by decide)
    have hz := World.block_lt_of_cell? _ _ y0
    have hz2 := World.block_lt_of_cell? _ _ z0
    have hle : w.heap.size ≤ Z := by have := HZ.out; omega
    have hn1 : ¬ X = Z + 1 + 1 := by have := HX.out; have := HZ4.out; omega
    have hn2 : ¬ X = Z + 1 + 1 + 1 := by have := HX.out; have := HZ4.out; omega
    have hn3 : ¬ Z + 1 + 1 = X := by omega
    have hn4 : ¬ Z + 1 + 1 + 1 = X := by omega
    have hb9 := (((setSt_below HB06.out (show w.heap.size ≤ Z + 1 + 1 by omega) hd (.slice ok nk ck) (.slice (some ⟨bn, offn, none⟩) nn cn) (.slice oo no co) (.slice op np cp) (.slice oq nq cq) (.slice oa na ca)).setCell (p := ⟨Z + 1 + 1 + 1, 0, none⟩) (by show _ ≤ Z + 1 + 1 + 1; omega) (strV A2)).setCell (p := ⟨Z + 1 + 1 + 1, 1, none⟩) (by show _ ≤ Z + 1 + 1 + 1; omega) (strV A3)).drew
    have HPOST : Hid (RetDo U (st, (A2, A3), 0) w (.returned (.tuple #[stV hd (.slice ok nk ck) (.slice (some ⟨bn, offn, none⟩) nn cn) (.slice oo no co) (.slice op np cp) (.slice oq nq cq) (.slice oa na ca), .agg #[strV A2, strV A3], .int .i64 0])) (((setSt w6 (Z + 1 + 1) hd (.slice ok nk ck) (.slice (some ⟨bn, offn, none⟩) nn cn) (.slice oo no co) (.slice op np cp) (.slice oq nq cq) (.slice oa na ca)).setCell ⟨Z + 1 + 1 + 1, 0, none⟩ (strV A2)).setCell ⟨Z + 1 + 1 + 1, 1, none⟩ (strV A3)).drew) :=
      ⟨_, rfl, ⟨_, _, _, _, _, _, by show _ = stV st.hd _ _ _ _ _ _; rw [HHD.out], Q1.out.below hb9, Q2.out.below hb9, Q3.out.below hb9, Q4.out.below hb9, Q5.out.below hb9, Q6.out.below hb9⟩, hb9⟩
    have HPOST := hid HPOST.out
    unfold setSt at HPOST
    clear hb9
    go_upto_region 5 with fail
    go_region_with (fail "x")
    all_goals
      go_wp2_with fail
      rw [HRR.out]
      refine bodyPost_ret (v := .tuple #[stV hd (.slice ok nk ck) (.slice (some ⟨bn, offn, none⟩) nn cn) (.slice oo no co) (.slice op np cp) (.slice oq nq cq) (.slice oa na ca), .agg #[strV A2, strV A3], .int .i64 0]) ?_ rfl ?_
      · simp [results, Tryz.results19, go_sem, y0, y1, y2, y3, y4, y5, y6, y7, y8, y9, z0, z1, hz, hz2]
      · exact HPOST.out
  have HRR : Hid (R = ({ st with now := st.now.set f A1, ops := st.ops ++ [(x0, (f : Int), x2, x3)] }, (A2, A3), 0)) := by
    have h := HWR.out hck
    simp only [Int.toNat_natCast] at h
    exact h
  rw [decide_eq_true hck]
  clear hck HRD HWR HNO
  have hmk := run_makeV w6 nn (by omega)
  have hcp := Cpy.new w6 (List.replicate nn (Value.slice none 0 0)).toArray 69
  have hsz : (List.replicate nn (Value.slice none 0 0)).toArray.size = nn * 1 := by simp
  rw [hsz] at hcp
  obtain ⟨W7, hW7⟩ : ∃ x, x = w6.alloc (.cells (List.replicate nn (.slice none 0 0)).toArray 69) := ⟨_, rfl⟩
  have hb7 : Below w6.heap.size w6 W7 := by rw [hW7]; exact balloc (Below.refl _ _) _
  rw [← hW7] at hcp hmk
  obtain ⟨g, hg⟩ : ∃ x, w6.heap.size = x := ⟨_, rfl⟩
  rw [hg] at hcp hmk
  have HG := hid hg
  have HCP0 := hid hcp; have HB7 := hid hb7
  have HKE : Hid (∀ (k : Nat) (d : Ds), st.now[k]? = some d → ∃ u, w.cell? ⟨bn, offn + k, none⟩ = some u ∧ Keep U w (fun x => RdR x u d)) := fun k d hk => by
    obtain ⟨b', off', u', e, h1, h2⟩ := keep_elem Q2.out hk
    cases e
    exact ⟨u', h1, h2⟩
  have HUU : Hid (∀ k, (U k ∨ (w.heap.size ≤ k ∧ k < w.heap.size + 4)) → U k ∨ w.heap.size ≤ k) := fun k hk => hk.imp id And.left
  obtain ⟨U4, hU4⟩ : ∃ u : Nat → Prop, u = fun k => U k ∨ (w.heap.size ≤ k ∧ k < w.heap.size + 4) := ⟨_, rfl⟩
  have HU4 : Hid (∀ k, U4 k ↔ U k ∨ (w.heap.size ≤ k ∧ k < w.heap.size + 4)) := fun k => by rw [hU4]
  clear hW7 hb7 hcp hsz hg hU4
  have k5 := HC5.out.2.2.2.2.2.1
  go_upto_region 7 with fail
  go_wp2_with fail
  go_loopw [11] (fun i wr => ∃ (k : Nat) (us : List Value), i = .int .i64 (k : Int) ∧ k ≤ nn ∧ Hid (us.length = k) ∧ Hid (Cpy wr g 69 (nn * 1) us) ∧ Hid (∀ (i : Nat) (u : Value) (d : Ds), us[i]? = some u → st.now[i]? = some d → Keep (fun k => k = g ∨ U4 k) wr (fun x => RdR x u d)) ∧ Hid (Below w6.heap.size w6 wr)) (fun i _ => nn - (intOf i).toNat)
  case atStart => exact ⟨0, [], rfl, Nat.zero_le _, rfl, HCP0, hid (fun i u d h _ => by simp at h), HB7⟩
  case round =>
    clear HCP0 HB7
    obtain ⟨k, us, rfl, hk, HUL, HCP, HEL, HBR⟩ := hrel
    have k5 := keepc HBR.out HC5.out.2.2.2.2.2.1
    by_cases hlt : k < nn
    · have hlti : (k : Int) < (nn : Int) := by omega
      obtain ⟨dk, hdk⟩ : ∃ d, st.now[k]? = some d := ⟨_, List.getElem?_eq_getElem (by have := NN.out; omega)⟩
      obtain ⟨uk, hck, hkk⟩ := HKE.out k dk hdk
      obtain ⟨oe, ne, ce, rfl⟩ : ∃ o n c, uk = .slice o n c := by obtain ⟨o, c, e, -⟩ := hkk.now; exact ⟨o, _, c, e⟩
      have HBW := hid (below_step HBR.out HB06.out)
      have ck' := keepc HBW.out hck
      obtain ⟨⟨yv, y0⟩, f0⟩ := HCP.out.cell (i := k) (by omega)
      have HCP2 := hid (HCP.out.put (i := k) HUL.out (by omega) (.slice oe ne ce))
      obtain ⟨W9, hW9⟩ : ∃ W9, W9 = wr.setCell ⟨g, k, none⟩ (.slice oe ne ce) := ⟨_, rfl⟩
      have hf9 : Frm (fun k => k = g ∨ U4 k) wr W9 := by rw [hW9]; exact frm_setCell (Frm.refl _ _) (.inl rfl) _
      have HB9 : Hid (Below w6.heap.size w6 W9) := by rw [hW9]; exact HBR.out.setCell (by have := HG.out; simp only; omega) _
      rw [← hW9] at HCP2
      have HEL2 : Hid (∀ (i : Nat) (u : Value) (d : Ds), (us ++ [Value.slice oe ne ce])[i]? = some u → st.now[i]? = some d → Keep (fun k => k = g ∨ U4 k) W9 (fun x => RdR x u d)) := fun i u d hu hd => by
        rcases Nat.lt_or_ge i us.length with h | h
        · rw [List.getElem?_append_left h] at hu
          exact (HEL.out i u d hu hd).step hf9 fun k hk => .inl hk
        · rw [List.getElem?_append_right h] at hu
          have hi : i = k := by
            have := HUL.out
            rcases Nat.lt_or_ge (i - us.length) 1 with h2 | h2
            · omega
            · rw [List.getElem?_eq_none (by simpa using h2)] at hu; cases hu
          subst hi
          rw [hdk] at hd
          cases hd
          rw [HUL.out, Nat.sub_self] at hu
          cases hu
          refine hkk.step (Frm.of_below (below_step HB9.out HB06.out)) fun k hk => ?_
          rcases hk with rfl | hk
          · exact .inr (by have := HG.out; have := HB06.out.size; omega)
          · exact HUU.out k ((HU4.out k).1 hk)
      have HUL2 : Hid ((us ++ [Value.slice oe ne ce]).length = k + 1) := by unfold Hid; rw [List.length_append, HUL.out]; rfl
      have HW9 := hid hW9
      clear hdk hck hkk hf9 hW9 HCP HEL
      go_upto_region 9 with fail
      have e9 := HW9.out
      simp only [← e9]
      clear e9 HW9 y0 f0
      go_wp2_with fail
      go_roundw
      case rel => exact ⟨k + 1, _, by go_num, by omega, HUL2, HCP2, HEL2, HB9⟩
      case measure => simp [intOf]; omega
    · have hkn : k = nn := by omega
      have hge2 : ¬ (k : Int) < (nn : Int) := by omega
      subst hkn
      have hdt : DT U4 wr g g k us st.now := by
        refine ⟨?_, by rw [HUL.out, NN.out], HEL.out⟩
        have h := HCP.out.row (B := g) (n := k) (s := 1) (by rw [HUL.out, Nat.mul_one]) (Nat.le_refl _) (by unfold maxLen; omega)
        unfold OV
        rw [HUL.out]
        exact h
      have HDT := hid hdt
      have hsz := HS56.out
      have hku : Keep (fun k => k = g ∨ U4 k) wr (fun x => RdR x (.slice o7 n7 c7) A1) := keep_R (HO6.out.below HBR.out) (fun q hq hu => by
        have h1 := HOL.out q hq
        have h2 := HG.out
        rcases hu with hu | hu
        · omega
        · have h3 := HZ4.out; have h4 := HZ.out
          rcases (HU4.out q).1 hu with h5 | h5
          · have := HU.out q h5; omega
          · omega)
      have HDT2 := hid (hdt.set (i := f) (by rw [HUL.out]; exact hfn) hku)
      obtain ⟨⟨yv, y0⟩, f0⟩ := HCP.out.cell (i := f) (by omega)
      obtain ⟨W11, hW11⟩ : ∃ x, x = wr.setCell ⟨g, f, none⟩ (.slice o7 n7 c7) := ⟨_, rfl⟩
      rw [← hW11] at HDT2
      have HB11 : Hid (Below w6.heap.size w6 W11) := by rw [hW11]; exact HBR.out.setCell (by have := HG.out; simp only; omega) _
      have hul2 : (us.set f (Value.slice o7 n7 c7)).length = k := by rw [List.length_set]; exact HUL.out
      obtain ⟨us2, hus2⟩ : ∃ x, us.set f (Value.slice o7 n7 c7) = x := ⟨_, rfl⟩
      rw [hus2] at HDT2 hul2
      have HUL2 := hid hul2
      obtain ⟨cur, hcur, hmk2⟩ := run_makeO W11 no (by omega)
      have hcp := Cpy.new W11 cur 55
      rw [hcur] at hcp
      obtain ⟨W12, hW12⟩ : ∃ x, x = W11.alloc (.cells cur 55) := ⟨_, rfl⟩
      have hb12 : Below W11.heap.size W11 W12 := by rw [hW12]; exact balloc (Below.refl _ _) _
      rw [← hW12] at hcp hmk2
      obtain ⟨g2, hg2⟩ : ∃ x, W11.heap.size = x := ⟨_, rfl⟩
      rw [hg2] at hcp hmk2
      have HG2 := hid hg2
      have HCP0 : Hid (Cpy W12 g2 55 (no * 4) (encO (st.ops.take 0))) := hcp
      have HB12 := hid hb12
      have HAO : Hid (st.ops = [] ∨ ∃ b off, oo = some ⟨b, off, none⟩ ∧ b < w.heap.size ∧ ∀ i x, st.ops[i]? = some x → w.cell? ⟨b, off + i * 4, none⟩ = some (.int .i64 x.1) ∧ w.cell? ⟨b, off + i * 4 + 1, none⟩ = some (.int .i64 x.2.1) ∧ w.cell? ⟨b, off + i * 4 + 2, none⟩ = some (strV x.2.2.1) ∧ w.cell? ⟨b, off + i * 4 + 3, none⟩ = some (strV x.2.2.2)) := by
        obtain ⟨o', c', e, -, h⟩ := Q3.out.now
        cases e
        exact h
      have hcao : no ≤ co := by
        obtain ⟨o', c', e, h, -⟩ := Q3.out.now
        cases e
        have := NO.out
        omega
      have HW11 := hid hW11
      have HB011 := hid (below_step HB11.out HB06.out)
      have HC11 := hid (HC5.out.below HB11.out)
      have a1 := keepc HBR.out AA1.out
      clear hW11 hW12 hb12 hcp hcur hg2 hus2 hul2 hku hdt hlt HEL HCP
      go_upto_region 12 with fail
      have e11 := HW11.out
      simp only [← e11]
      clear e11 HW11 y0 f0 k5 a1
      have k6 := HC11.out.2.2.2.2.2.2.1
      go_wp2_with fail
      go_loopw [13] (fun i wr2 => ∃ j : Nat, i = .int .i64 (j : Int) ∧ j ≤ no ∧ Hid (Cpy wr2 g2 55 (no * 4) (encO (st.ops.take j))) ∧ Hid (Below W11.heap.size W11 wr2)) (fun i _ => no - (intOf i).toNat)
      case atStart => exact ⟨0, rfl, Nat.zero_le _, HCP0, HB12⟩
      case round =>
        clear HCP0 HB12 k6
        obtain ⟨j, rfl, hj, HCP, HBR2⟩ := hrel
        have k6 := keepc HBR2.out HC11.out.2.2.2.2.2.2.1
        by_cases hlt : j < no
        · have hlti : (j : Int) < (no : Int) := by omega
          obtain ⟨x, hx⟩ : ∃ x, st.ops[j]? = some x := ⟨_, List.getElem?_eq_getElem (by have := NO.out; omega)⟩
          have hHC := HAO.out
          rcases hHC with hq | ⟨b2, off, rfl, hbq, hq⟩
          · rw [hq] at hx; simp at hx
          obtain ⟨q0, q1, q2, q3⟩ := hq j x hx
          have HBW := below_step HBR2.out HB011.out
          have c0 := keepc HBW q0; have c1 := keepc HBW q1; have c2 := keepc HBW q2; have c3 := keepc HBW q3
          have HCP2 := hid (cpyO_put HCP.out NO.out hx)
          obtain ⟨⟨yv0, y0⟩, f0⟩ := HCP.out.cell (i := j * 4) (by omega)
          obtain ⟨⟨yv1, y1⟩, f1⟩ := HCP.out.cell (i := j * 4 + 1) (by omega)
          obtain ⟨⟨yv2, y2⟩, f2⟩ := HCP.out.cell (i := j * 4 + 2) (by omega)
          obtain ⟨⟨yv3, y3⟩, f3⟩ := HCP.out.cell (i := j * 4 + 3) (by omega)
          obtain ⟨W9, hW9⟩ : ∃ W9, W9 = (((wr.setCell ⟨g2, j * 4, none⟩ (.int .i64 x.1)).setCell ⟨g2, j * 4 + 1, none⟩ (.int .i64 x.2.1)).setCell ⟨g2, j * 4 + 2, none⟩ (strV x.2.2.1)).setCell ⟨g2, j * 4 + 3, none⟩ (strV x.2.2.2) := ⟨_, rfl⟩
          have hf9 : Frm (fun k => k = g2) wr W9 := by rw [hW9]; exact frm_setCell (frm_setCell (frm_setCell (frm_setCell (Frm.refl _ _) (by rfl) _) (by rfl) _) (by rfl) _) (by rfl) _
          rw [← hW9] at HCP2
          have HB9 : Hid (Below W11.heap.size W11 W9) := Frm.below HBR2.out hf9 (fun i h => by have := HG2.out; omega) HBR2.out.size
          have HW9 := hid hW9
          clear hq hx q0 q1 q2 q3 HBW hW9 hf9 HCP
          go_upto_region 15 with fail
          have e9 := HW9.out
          simp only [← e9]
          clear e9 HW9 y0 y1 y2 y3 f0 f1 f2 f3
          go_wp2_with fail
          go_roundw
          case rel => exact ⟨j + 1, by go_num, by omega, HCP2, HB9⟩
          case measure => simp [intOf]; omega
        · have hge3 : ¬ (j : Int) < (no : Int) := by omega
          have hjn : j = no := by omega
          have hOO : OO wr W11.heap.size (.slice (some ⟨g2, 0, none⟩) no no) st.ops := by
            have h1 := HCP.out
            rw [List.take_of_length_le (by have := NO.out; omega)] at h1
            have h2 := h1.row (B := W11.heap.size) (by rw [encO_length, NO.out]) (by have := HG2.out; omega) (by unfold maxLen; omega)
            unfold OO
            rw [NO.out]
            exact h2
          have hb6r := below_step HBR2.out HB11.out
          have a0 := keepc hb6r AA0.out; have a1 := keepc hb6r AA1.out; have a2 := keepc hb6r AA2.out; have a3 := keepc hb6r AA3.out
          have hba := balloc (Below.refl wr.heap.size wr) (.cells #[.int .i64 x0, .int .i64 (f : Int), strV x2, strV x3] 55)
          have HOO := hid (hOO.below hba)
          have HB8 := hid (below_step hba HBR2.out)
          have HLA : Hid (st.ops.length ≤ 1000000) := by have := NO.out; unfold Hid; omega
          clear hOO HCP hba hlt hb6r k6
          go_wp2_with (at_builtin; refine appO rfl _ _ rfl W11.heap.size _ st.ops (x0, (f : Int), x2, x3) _ _ rfl rfl HOO.out (cellsO _ _ (x0, (f : Int), x2, x3) (cell_new wr #[.int .i64 x0, .int .i64 (f : Int), strV x2, strV x3] 55 0 _ rfl) (cell_new wr #[.int .i64 x0, .int .i64 (f : Int), strV x2, strV x3] 55 1 _ rfl) (cell_new wr #[.int .i64 x0, .int .i64 (f : Int), strV x2, strV x3] 55 2 _ rfl) (cell_new wr #[.int .i64 x0, .int .i64 (f : Int), strV x2, strV x3] 55 3 _ rfl)) HLA.out HB8.out.size ?_)
          intro v10 w10 ho10 hg10
          have HB10 := hid (HOO.out.grown HB8.out hg10 HB8.out.size)
          have HO10 := hid ho10
          obtain ⟨o10, c10, hv10, -, -⟩ := ho10.rd
          obtain ⟨n10, hn10⟩ : ∃ n, (st.ops ++ [(x0, (f : Int), x2, x3)]).length = n := ⟨_, rfl⟩
          rw [hn10] at hv10
          subst hv10
          have hb610 := below_step HB10.out HB11.out
          have HDT10 := hid (HDT2.out.below HB10.out)
          have HC10 := hid (HC11.out.below HB10.out)
          have hoz := fun k hk => keepOwn hb610 (HOZ5.out k hk)
          have hoy := fun k hk => keepOwn hb610 (HOY5.out k hk)
          have hor := fun k hk => keepOwn hb610 (HOR5.out k hk)
          have x0c := keepc hb610 X0.out; have x1c := keepc hb610 X1.out
          have HB010 := hid (below_step hb610 HB06.out)
          obtain ⟨wz, hwz⟩ : ∃ wz, wz = (w10.setCell ⟨Z, 5, none⟩ (.slice (some ⟨g, 0, none⟩) k k)).setCell ⟨Z, 6, none⟩ (.slice o10 n10 c10) := ⟨_, rfl⟩
          have hfz : Frm (fun k => k = Z) w10 wz := by rw [hwz]; exact frm_setCell (frm_setCell (Frm.refl _ _) (by rfl) _) (by rfl) _
          have hcz : StC wz Z hd (.slice ok nk ck) (.slice (some ⟨g, 0, none⟩) k k) (.slice o10 n10 c10) (.slice op np cp) (.slice oq nq cq) (.slice oa na ca) := by
            obtain ⟨k0, k1, k2, k3, k4, k5, k6, k7, k8, k9⟩ := HC10.out
            rw [hwz]
            have ho : ∀ (j : Nat) (u : Value), j ≠ 5 → j ≠ 6 → w10.cell? ⟨Z, j, none⟩ = some u → ((w10.setCell ⟨Z, 5, none⟩ (.slice (some ⟨g, 0, none⟩) k k)).setCell ⟨Z, 6, none⟩ (.slice o10 n10 c10)).cell? ⟨Z, j, none⟩ = some u := fun j u h5 h6 h => by
              rw [setY _ _ _ _ _ h6, setY _ _ _ _ _ h5]; exact h
            refine ⟨ho 0 _ (by decide) (by decide) k0, ho 1 _ (by decide) (by decide) k1, ho 2 _ (by decide) (by decide) k2, ho 3 _ (by decide) (by decide) k3, ho 4 _ (by decide) (by decide) k4, ?_, ?_, ho 7 _ (by decide) (by decide) k7, ho 8 _ (by decide) (by decide) k8, ho 9 _ (by decide) (by decide) k9⟩
            · rw [setY _ _ _ _ _ (by decide)]; exact World.cell?_setCell_same _ _ _ k5
            · obtain ⟨q, hq⟩ : ∃ q, (w10.setCell ⟨Z, 5, none⟩ (.slice (some ⟨g, 0, none⟩) k k)).cell? ⟨Z, 6, none⟩ = some q := cell?_setCell_some k6
              exact World.cell?_setCell_same _ _ _ hq
          have hzl := HZ4.out
          have hHX := HX.out
          have HOYZ := hid (fun k hk => hfz.ownc (a := ⟨Z + 1 + 1, k, none⟩) (by show ¬ Z + 1 + 1 = Z; omega) (hoy k hk))
          have HORZ := hid (fun k hk => hfz.ownc (a := ⟨Z + 1 + 1 + 1, k, none⟩) (by show ¬ Z + 1 + 1 + 1 = Z; omega) (hor k hk))
          have xx0 := hfz.cell (by show ¬ X = Z; omega) x0c; have xx1 := hfz.cell (by show ¬ X = Z; omega) x1c
          have HCZ := hid hcz; have HFZ := hid hfz
          have HWZ := hid hwz
          obtain ⟨k0, k1, k2, k3, k4, k5, k6, k7, k8, k9⟩ := HC10.out
          obtain ⟨⟨zv5, zy5⟩, g5⟩ := hoz 5 (by decide)
          obtain ⟨⟨zv6, zy6⟩, g6⟩ := hoz 6 (by decide)
          have hzz := World.block_lt_of_cell? _ _ k5
          clear ho10 hg10 hn10 a0 a1 a2 a3 hwz hfz hcz hoz hoy hor x0c x1c hb610 zy5 zy6
          go_upto_region 20 with fail
          have ez := HWZ.out
          simp only [← ez]
          clear ez HWZ k0 k1 k2 k3 k4 k5 k6 k7 k8 k9 g5 g6 hzz
          obtain ⟨k0, k1, k2, k3, k4, k5, k6, k7, k8, k9⟩ := HCZ.out
          obtain ⟨⟨yv0, y0⟩, f0⟩ := HOYZ.out 0 (by decide)
          obtain ⟨⟨yv1, y1⟩, f1⟩ := HOYZ.out 1 (by decide)
          obtain ⟨⟨yv2, y2⟩, f2⟩ := HOYZ.out 2 (by decide)
          obtain ⟨⟨yv3, y3⟩, f3⟩ := HOYZ.out 3 (by decide)
          obtain ⟨⟨yv4, y4⟩, f4⟩ := HOYZ.out 4 (by decide)
          obtain ⟨⟨yv5, y5⟩, f5⟩ := HOYZ.out 5 (by decide)
          obtain ⟨⟨yv6, y6⟩, f6⟩ := HOYZ.out 6 (by decide)
          obtain ⟨⟨yv7, y7⟩, f7⟩ := HOYZ.out 7 (by decide)
          obtain ⟨⟨yv8, y8⟩, f8⟩ := HOYZ.out 8 (by decide)
          obtain ⟨⟨yv9, y9⟩, f9⟩ := HOYZ.out 9 (by decide)
          obtain ⟨⟨zv0, z0⟩, g0⟩ := HORZ.out 0 (by decide)
          obtain ⟨⟨zv1, z1⟩, g1⟩ := HORZ.out 1 (by decide)
          have hz := World.block_lt_of_cell? _ _ y0
          have hz2 := World.block_lt_of_cell? _ _ z0
          have hn1 : ¬ X = Z + 1 + 1 := by omega
          have hn2 : ¬ X = Z + 1 + 1 + 1 := by omega
          have hn3 : ¬ Z + 1 + 1 = X := by omega
          have hn4 : ¬ Z + 1 + 1 + 1 = X := by omega
          have hff : Frm (fun k => w.heap.size ≤ k ∧ k < w.heap.size + 4) w10 (((setSt wz (Z + 1 + 1) hd (.slice ok nk ck) (.slice (some ⟨g, 0, none⟩) k k) (.slice o10 n10 c10) (.slice op np cp) (.slice oq nq cq) (.slice oa na ca)).setCell ⟨Z + 1 + 1 + 1, 0, none⟩ (strV A2)).setCell ⟨Z + 1 + 1 + 1, 1, none⟩ (strV A3)) := by
            have hzw := HZ.out
            refine frm_setCell (frm_setCell ((HFZ.out.mono fun i _ h => ?_).trans (setSt_frm wz (Z + 1 + 1) hd (.slice ok nk ck) (.slice (some ⟨g, 0, none⟩) k k) (.slice o10 n10 c10) (.slice op np cp) (.slice oq nq cq) (.slice oa na ca)) (fun i _ h => ?_)) ?_ _) ?_ _
            · show w.heap.size ≤ i ∧ i < w.heap.size + 4; omega
            · show w.heap.size ≤ i ∧ i < w.heap.size + 4; omega
            · show w.heap.size ≤ Z + 1 + 1 + 1 ∧ Z + 1 + 1 + 1 < w.heap.size + 4; omega
            · show w.heap.size ≤ Z + 1 + 1 + 1 ∧ Z + 1 + 1 + 1 < w.heap.size + 4; omega
          have HBF := hid (Frm.below HB010.out hff (fun i h => h.1) HB010.out.size)
          have hfu : Frm U4 w10 (((setSt wz (Z + 1 + 1) hd (.slice ok nk ck) (.slice (some ⟨g, 0, none⟩) k k) (.slice o10 n10 c10) (.slice op np cp) (.slice oq nq cq) (.slice oa na ca)).setCell ⟨Z + 1 + 1 + 1, 0, none⟩ (strV A2)).setCell ⟨Z + 1 + 1 + 1, 1, none⟩ (strV A3)) := hff.mono fun i _ h => (HU4.out i).2 (.inr h)
          have HKD : Hid (Keep U (((setSt wz (Z + 1 + 1) hd (.slice ok nk ck) (.slice (some ⟨g, 0, none⟩) k k) (.slice o10 n10 c10) (.slice op np cp) (.slice oq nq cq) (.slice oa na ca)).setCell ⟨Z + 1 + 1 + 1, 0, none⟩ (strV A2)).setCell ⟨Z + 1 + 1 + 1, 1, none⟩ (strV A3)) (fun x => RdD x (.slice (some ⟨g, 0, none⟩) k k) (st.now.set f A1))) := by
            have h := HDT10.out.keep (fun h => by
              have h1 := HS56.out; have h2 := HG.out; have h3 := HZ.out
              rcases (HU4.out g).1 h with h | h
              · have := HU.out g h; omega
              · omega)
            rw [HUL2.out] at h
            exact h.step hfu fun q hq => .inl ((HU4.out q).2 (.inl hq))
          have HKO : Hid (Keep U (((setSt wz (Z + 1 + 1) hd (.slice ok nk ck) (.slice (some ⟨g, 0, none⟩) k k) (.slice o10 n10 c10) (.slice op np cp) (.slice oq nq cq) (.slice oa na ca)).setCell ⟨Z + 1 + 1 + 1, 0, none⟩ (strV A2)).setCell ⟨Z + 1 + 1 + 1, 1, none⟩ (strV A3)) (fun x => RdO x (.slice o10 n10 c10) (st.ops ++ [(x0, (f : Int), x2, x3)]))) := by
            refine (keep_O HO10.out (U := U4) (fun q hq hu => ?_)).step hfu fun q hq => .inl ((HU4.out q).2 (.inl hq))
            have h0 := (World.ownsRow.lt HO10.out q hq).1
            have h1 := HS56.out; have h2 := HG.out; have h3 := HZ.out; have h4 := HB11.out.size
            rcases (HU4.out q).1 hu with h | h
            · have := HU.out q h; omega
            · omega
          have HPOST : Hid (RetDo U ({ st with now := st.now.set f A1, ops := st.ops ++ [(x0, (f : Int), x2, x3)] }, (A2, A3), 0) w (.returned (.tuple #[stV hd (.slice ok nk ck) (.slice (some ⟨g, 0, none⟩) k k) (.slice o10 n10 c10) (.slice op np cp) (.slice oq nq cq) (.slice oa na ca), .agg #[strV A2, strV A3], .int .i64 0])) (((setSt wz (Z + 1 + 1) hd (.slice ok nk ck) (.slice (some ⟨g, 0, none⟩) k k) (.slice o10 n10 c10) (.slice op np cp) (.slice oq nq cq) (.slice oa na ca)).setCell ⟨Z + 1 + 1 + 1, 0, none⟩ (strV A2)).setCell ⟨Z + 1 + 1 + 1, 1, none⟩ (strV A3)).drew) := by
            refine ⟨stV hd (.slice ok nk ck) (.slice (some ⟨g, 0, none⟩) k k) (.slice o10 n10 c10) (.slice op np cp) (.slice oq nq cq) (.slice oa na ca), rfl, KSt.below ⟨(.slice ok nk ck), (.slice (some ⟨g, 0, none⟩) k k), (.slice o10 n10 c10), (.slice op np cp), (.slice oq nq cq), (.slice oa na ca), ?_, Q1.out.below HBF.out, HKD.out, HKO.out, Q4.out.below HBF.out, Q5.out.below HBF.out, Q6.out.below HBF.out⟩ (drew_below _), HBF.out.drew⟩
            show _ = stV st.hd _ _ _ _ _ _
            rw [HHD.out]
          have HPOST := hid HPOST.out
          unfold setSt at HPOST
          clear hff hfu hzl hHX HBF HKD HKO HDT10 HDT2 HDT
          go_region_with (fail "x")
          all_goals
            go_wp2_with fail
            rw [HRR.out]
            refine bodyPost_ret (v := .tuple #[stV hd (.slice ok nk ck) (.slice (some ⟨g, 0, none⟩) k k) (.slice o10 n10 c10) (.slice op np cp) (.slice oq nq cq) (.slice oa na ca), .agg #[strV A2, strV A3], .int .i64 0]) ?_ rfl ?_
            · simp [results, Tryz.results19, go_sem, y0, y1, y2, y3, y4, y5, y6, y7, y8, y9, z0, z1, hz, hz2]
            · exact HPOST.out
end Go.Proofs.YtifcgimpgbeocaaGreat
