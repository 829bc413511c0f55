/- The law FilesOpens, walked. -/
import Derived.Test.YtifcgimpgbeocaaGreatK32
import Derived.Test.YtifcgimpgbeocaaGreatK33
import Derived.Test.YtifcgimpgbeocaaGreatK37
import Derived.Test.YtifcgimpgbeocaaGreatK20
import Derived.Test.YtifcgimpgbeocaaGreatK38
set_option linter.unusedVariables false
set_option linter.unusedSimpArgs false
namespace Go.Proofs.YtifcgimpgbeocaaGreat
open Go.RowKit
attribute [local go_sem] Oper.semAt_some
/-- A disk in two cells, and its rows. -/
structure DB (w : World) (Y : Nat) (v1 v2 : Value) (d : Dk) : Prop where
  c0 : w.cell? ⟨Y, 0, none⟩ = some v1
  c1 : w.cell? ⟨Y, 1, none⟩ = some v2
  s : RdS w v1 d.1
  q : RdW w v2 d.2
theorem DB.below {w w' : World} {Y : Nat} {v1 v2 : Value} {d : Dk} (h : DB w Y v1 v2 d) (hb : Below w.heap.size w w') : DB w' Y v1 v2 d :=
  ⟨keepc hb h.c0, keepc hb h.c1, h.s.below hb, h.q.below hb⟩
theorem DB.new {w w1 : World} {v1 v2 : Value} {d : Dk} (h1 : RdS w v1 d.1) (h2 : RdW w v2 d.2) (e : w1 = w.alloc (.cells #[v1, v2] 25)) : DB w1 w.heap.size v1 v2 d := by
  subst e
  have hb := balloc (Below.refl w.heap.size w) (.cells #[v1, v2] 25)
  exact ⟨cell_new _ _ _ 0 _ rfl, cell_new _ _ _ 1 _ rfl, h1.below hb, h2.below hb⟩
theorem DB.same {w : World} {Y Y' : Nat} {v1 v2 u1 u2 : Value} {d : Dk} (h : DB w Y v1 v2 d) (h' : DB w Y' u1 u2 d) (hl1 : d.1.length ≤ 1000000000) (hl2 : d.2.length ≤ 1000000000) : ∀ w', Below w.heap.size w w' →
    Calls Tryz.prog 10 #[.agg #[v1, v2], .agg #[u1, u2]] w' (Ret (.bool true) w') :=
  fun w' hb => rsamedisk_self d _ _ _ _ w' (h.s.below hb) (h.q.below hb) (h'.s.below hb) (h'.q.below hb) hl1 hl2
theorem createD_small (n f : Int) : (createD n f).1.1.length ≤ 1000000000 ∧ (createD n f).1.2.length ≤ 1000000000 := by
  unfold createD
  split
  · simp; omega
  · simp
theorem openD_some {d : Dk} {st : St} {n : Int} (h : openD d = (some st, n)) : n = 0 ∧ st.dk = d ∧ st.acts = [] ∧ st.ops = [] ∧ st.kept = st.now ∧ st.now.length ≤ 8 ∧ AllDs st.now ∧ isDk d = true := by
  cases hd : isDk d with
  | false => rw [open_no hd] at h; cases h
  | true =>
  cases hb : bestHd d with
  | none => rw [open_none hd hb] at h; cases h
  | some hh =>
  cases hc : decL (content d hh.2.1 hh.2.2.2) with
  | none => rw [open_undec hd hb hc] at h; cases h
  | some ops =>
  cases hr : runAll (empties hh.2.2.1) ops with
  | none => rw [open_norun hd hb hc hr] at h; cases h
  | some data =>
    rw [open_ok hd hb hc hr] at h
    cases h
    have hp := best_parts hb
    have hl := runAll_len hr
    unfold empties at hl
    rw [List.length_replicate] at hl
    exact ⟨rfl, rfl, rfl, rfl, rfl, by show data.length ≤ 8; omega, runAll_all (empties_all _) hr, rfl⟩
theorem openD_no {d : Dk} {n : Int} (h : openD d = (none, n)) : n ≠ 0 := by
  cases hd : isDk d with
  | false => rw [open_no hd] at h; cases h; decide
  | true =>
  cases hb : bestHd d with
  | none => rw [open_none hd hb] at h; cases h; decide
  | some hh =>
  cases hc : decL (content d hh.2.1 hh.2.2.2) with
  | none => rw [open_undec hd hb hc] at h; cases h; decide
  | some ops =>
  cases hr : runAll (empties hh.2.2.1) ops with
  | none => rw [open_norun hd hb hc hr] at h; cases h; decide
  | some data => rw [open_ok hd hb hc hr] at h; cases h
set_option maxHeartbeats 8000000 in
set_option maxRecDepth 100000 in
theorem opens_law (d : Dk) (n f : Int) (vp vq : Value) (w : World) (hp : RdS w vp d.1) (hq : RdW w vq d.2) (hl1 : d.1.length ≤ 100000000) (hl2 : d.2.length ≤ 900000) :
    Calls Tryz.prog 3 #[.agg #[vp, vq], .int .i64 n, .int .i64 f] w (Ret (.bool true) w) := by
  have HS := hid (fun w' => sane_any w')
  have HC1 := hid (fun w' => create_any n f w')
  have HC2 := hid (fun w' => rcreate_any n f w')
  have HO1 := hid (fun w' (hb : Below w.heap.size w w') => open_any d vp vq w' (hp.below hb) (hq.below hb) (by omega))
  have HO2 := hid (fun w' (hb : Below w.heap.size w w') => ropen_any (fun _ => False) d vp vq w' (fun k h => h.elim) (keep_of_below (fun _ hb => hp.below hb) hb (fun k h => h.elim)) (keep_of_below (fun _ hb => hq.below hb) hb (fun k h => h.elim)) (by omega) (by omega))
  have HRP := hid hp; have HRQ := hid hq
  have hsm := createD_small n f
  obtain ⟨⟨dc, ec⟩, hc⟩ : ∃ r, createD n f = r := ⟨_, rfl⟩
  simp only [hc] at HC1 HC2 hsm
  have SM := hid hsm
  obtain ⟨⟨ro, eo⟩, ho⟩ : ∃ r, openD d = r := ⟨_, rfl⟩
  have HOS := hid (fun st (h : ro = some st) => openD_some (d := d) (st := st) (n := eo) (by rw [ho, h]))
  have HON := hid (fun (h : ro = none) => openD_no (d := d) (n := eo) (by rw [ho, h]))
  simp only [ho] at HO1 HO2
  have HL := hid (And.intro hl1 hl2)
  obtain ⟨op, cp, rfl, -, -⟩ := id hp
  obtain ⟨oq, cq, rfl, -, -⟩ := id hq
  obtain ⟨N, hN⟩ : ∃ N, d.1.length = N := ⟨_, rfl⟩
  obtain ⟨M, hM⟩ : ∃ M, d.2.length = M := ⟨_, rfl⟩
  simp only [hN, hM] at HO1 HO2 HRP HRQ ⊢
  obtain ⟨W0, hW0⟩ : ∃ W0, W0 = w.alloc (.cells #[.slice op N cp, .slice oq M cq] 25) := ⟨_, rfl⟩
  have hb0 : Below w.heap.size w W0 := by rw [hW0]; exact balloc (Below.refl _ _) _
  have z0 : W0.cell? ⟨w.heap.size, 0, none⟩ = some (.slice op N cp) := by rw [hW0]; exact cell_new _ _ _ 0 _ rfl
  have z1 : W0.cell? ⟨w.heap.size, 1, none⟩ = some (.slice oq M cq) := by rw [hW0]; exact cell_new _ _ _ 1 _ rfl
  have Z0 := hid z0; have Z1 := hid z1; have HB1 := hid hb0
  have HW0 := hid hW0
  clear hp hq hl1 hl2 hsm hc ho hN hM hW0 hb0 z0 z1
  go_enter Tryz.func3, Tryz.ntmps3
  go_upto_region 1 with fail
  have ew := HW0.out
  simp only [← ew]
  clear ew HW0
  obtain ⟨Z, hZ⟩ : ∃ Z, w.heap.size = Z := ⟨_, rfl⟩
  simp only [hZ] at Z0 Z1 ⊢
  have HZ := hid hZ
  clear hZ
  go_wp2_with fail
  refine (HS.out _).mono ?_
  rintro e w1 ⟨rfl, hb1⟩
  have HB1 := hid (below_step hb1 HB1.out)
  have Z0 := hid (keepc hb1 Z0.out); have Z1 := hid (keepc hb1 Z1.out)
  clear hb1
  go_wp2_with fail
  refine (HC1.out _).mono ?_
  rintro e w2 ⟨v1, v2, rfl, ho1, ho2, hb2⟩
  obtain ⟨o1x1, c1x1, rfl, -, -⟩ := ho1.rd
  obtain ⟨o2x1, c2x1, rfl, -, -⟩ := ho2.rd
  obtain ⟨n1x1, hn1⟩ : ∃ n, dc.1.length = n := ⟨_, rfl⟩
  obtain ⟨n2x1, hn2⟩ : ∃ n, dc.2.length = n := ⟨_, rfl⟩
  simp only [hn1, hn2] at ho1 ho2 ⊢
  obtain ⟨w3, hw3⟩ : ∃ w3, w3 = w2.alloc (.cells #[.slice o1x1 n1x1 c1x1, .slice o2x1 n2x1 c2x1] 25) := ⟨_, rfl⟩
  have DB1 := hid (DB.new ho1.rd ho2.rd hw3)
  have hba : Below w2.heap.size w2 w3 := by rw [hw3]; exact balloc (Below.refl _ _) _
  have hbb := below_step hba hb2
  have Z0 := hid (keepc hbb Z0.out)
  have Z1 := hid (keepc hbb Z1.out)
  have HB1 := hid (below_step hbb HB1.out)
  have HW3 := hid hw3
  clear hw3 hba hbb hb2 ho1 ho2 hn1 hn2
  go_upto_region 4 with fail
  have ew := HW3.out
  rw [← ew]
  clear ew HW3
  obtain ⟨Y1, hY⟩ : ∃ Y, w2.heap.size = Y := ⟨_, rfl⟩
  simp only [hY] at DB1 ⊢
  clear hY
  obtain ⟨w1, hw1⟩ : ∃ w1, w1 = w3 := ⟨_, rfl⟩
  subst hw1
  go_wp2_with fail
  refine (HC2.out _).mono ?_
  rintro e w2 ⟨v1, v2, rfl, ho1, ho2, hb2⟩
  obtain ⟨o1x2, c1x2, rfl, -, -⟩ := ho1.rd
  obtain ⟨o2x2, c2x2, rfl, -, -⟩ := ho2.rd
  obtain ⟨n1x2, hn1⟩ : ∃ n, dc.1.length = n := ⟨_, rfl⟩
  obtain ⟨n2x2, hn2⟩ : ∃ n, dc.2.length = n := ⟨_, rfl⟩
  simp only [hn1, hn2] at ho1 ho2 ⊢
  obtain ⟨w3, hw3⟩ : ∃ w3, w3 = w2.alloc (.cells #[.slice o1x2 n1x2 c1x2, .slice o2x2 n2x2 c2x2] 25) := ⟨_, rfl⟩
  have DB2 := hid (DB.new ho1.rd ho2.rd hw3)
  have hba : Below w2.heap.size w2 w3 := by rw [hw3]; exact balloc (Below.refl _ _) _
  have hbb := below_step hba hb2
  have Z0 := hid (keepc hbb Z0.out)
  have Z1 := hid (keepc hbb Z1.out)
  have DB1 := hid (DB1.out.below hbb)
  have HB1 := hid (below_step hbb HB1.out)
  have HW3 := hid hw3
  clear hw3 hba hbb hb2 ho1 ho2 hn1 hn2
  go_upto_region 5 with fail
  have ew := HW3.out
  rw [← ew]
  clear ew HW3
  obtain ⟨Y2, hY⟩ : ∃ Y, w2.heap.size = Y := ⟨_, rfl⟩
  simp only [hY] at DB2 ⊢
  clear hY
  obtain ⟨w1, hw1⟩ : ∃ w1, w1 = w3 := ⟨_, rfl⟩
  subst hw1
  have z0 := Z0.out; have z1 := Z1.out
  go_wp2_with fail
  refine (HO1.out _ (by have := HB1.out; have e := HZ.out; exact this)).mono ?_
  rintro e w5 ⟨hb5, ho1, ho2⟩
  have hb5 : Below w1.heap.size w1 w5 := hb5
  have z0 := keepc hb5 z0; have z1 := keepc hb5 z1
  have DB1 := hid (DB1.out.below hb5); have DB2 := hid (DB2.out.below hb5)
  have HB5 := hid (below_step hb5 HB1.out)
  cases ro with
  | none =>
    have e5 := ho2 rfl
    simp only at e5
    subst e5
    have hne := HON.out rfl
    clear ho1 ho2 hb5
    go_wp2_with fail
    refine (HO2.out _ HB5.out).mono ?_
    rintro e w6 ⟨hb6, hr1, hr2⟩
    have e6 := hr2 rfl
    simp only at e6
    subst e6
    obtain ⟨w7, hw7⟩ : ∃ w7, w7 = w6.alloc (.cells #[.int .i64 0, .int .i64 0, .int .i64 0, .int .i64 0, nilS, nilS, nilS, nilS, nilS, nilS] 39) := ⟨_, rfl⟩
    have hb7 : Below w5.heap.size w5 w7 := by rw [hw7]; exact balloc hb6 _
    have d0 := keepc hb7 DB1.out.c0; have d1 := keepc hb7 DB1.out.c1; have d2 := keepc hb7 DB2.out.c0; have d3 := keepc hb7 DB2.out.c1
    have HSD := hid ((DB1.out.below hb7).same (DB2.out.below hb7) SM.out.1 SM.out.2)
    have HB7 := hid (below_step hb7 HB5.out)
    have HW7 := hid hw7
    have g1 : (eo != 0) = true := by simpa using hne
    have g2 : (eo == 0) = false := by simpa using hne
    clear hr1 hr2 hb6 hb7 hw7 hne
    go_upto_region 7 with fail
    have ew := HW7.out
    simp only [← ew]
    clear ew HW7
    go_wp2_with fail
    refine (HSD.out _ (Below.refl _ _)).mono ?_
    rintro e w8 ⟨rfl, hb8⟩
    have HB8 := hid (below_step hb8 HB7.out)
    clear hb8
    go_wp2_with fail
    go_ret
    exact ⟨rfl, HB8.out⟩
  | some st =>
    obtain ⟨S, U5, e5, hso, hu5⟩ := ho1 st rfl
    obtain ⟨heo, hsdk, hsac, hsop, hskn, hsl, hsa, hdk⟩ := HOS.out st rfl
    subst heo
    subst e5
    have hdl := isDk_len hdk
    have HDA := hid (fun w' (hb : Below w5.heap.size w5 w') => data_any U5 S st w' (hso.below hb) hsl hsa)
    have HKE := hid (fun w' (hb : Below w5.heap.size w5 w') => kept_any U5 S st w' (hso.below hb) (by rw [hskn]; exact hsl) (by rw [hskn]; exact hsa))
    have HDI := hid (fun w' (hb : Below w5.heap.size w5 w') => disk_any U5 S st w' (hso.below hb) (by rw [hsdk]; exact hdl.2) (by rw [hsdk]; have := HL.out.2; omega))
    have HAC := hid (fun w' (hb : Below w5.heap.size w5 w') => acts_any U5 S st w' (hso.below hb) (by rw [hsac]; exact Nat.zero_le _))
    have HST := hid (And.intro hsdk (And.intro hsac (And.intro hsop (And.intro hskn (And.intro hsl hsa)))))
    clear ho1 ho2 hb5 hsdk hsac hsop hskn hsl hsa hdk hdl hso hu5
    go_wp2_with fail
    refine (HO2.out _ HB5.out).mono ?_
    rintro e w6 ⟨hb6, hr1, hr2⟩
    obtain ⟨v, e6, hk⟩ := hr1 st rfl
    simp only at e6
    subst e6
    obtain ⟨vk, vn, vo, xp, xq, va, rfl, k1, k2, k3, k4, k5, k6⟩ := hk
    have hh : st.hd = st.hd := rfl
    obtain ⟨hd, hhd⟩ : ∃ x, st.hd = x := ⟨_, rfl⟩
    rw [hhd]
    have K1 := hid k1.now; have K2 := hid k2.now
    obtain ⟨ok, ck, hvk, -, -⟩ := k1.now
    obtain ⟨on, cn, hvn, -, -⟩ := k2.now
    obtain ⟨oo, co, hvo, -, -⟩ := k3.now
    obtain ⟨o1, c1, hx1, -, -⟩ := k4.now
    obtain ⟨o2, c2, hx2, -, -⟩ := k5.now
    obtain ⟨oa, ca, hva, -, -⟩ := k6.now
    obtain ⟨nk, hnk⟩ : ∃ n, st.kept.length = n := ⟨_, rfl⟩
    obtain ⟨nn, hnn⟩ : ∃ n, st.now.length = n := ⟨_, rfl⟩
    obtain ⟨no, hno⟩ : ∃ n, st.ops.length = n := ⟨_, rfl⟩
    obtain ⟨n1, hn1⟩ : ∃ n, st.dk.1.length = n := ⟨_, rfl⟩
    obtain ⟨n2, hn2⟩ : ∃ n, st.dk.2.length = n := ⟨_, rfl⟩
    obtain ⟨na, hna⟩ : ∃ n, st.acts.length = n := ⟨_, rfl⟩
    rw [hnk] at hvk; rw [hnn] at hvn; rw [hno] at hvo; rw [hn1] at hx1; rw [hn2] at hx2; rw [hna] at hva
    subst hvk; subst hvn; subst hvo; subst hx1; subst hx2; subst hva
    clear k1 k2 k3 k4 k5 k6 hr1 hr2 hhd hh hnk hnn hno hn1 hn2 hna
    obtain ⟨w7, hw7⟩ : ∃ w7, w7 = w6.alloc (.cells #[.int .i64 hd.1, .int .i64 hd.2.1, .int .i64 hd.2.2.1, .int .i64 hd.2.2.2, .slice ok nk ck, .slice on nn cn, .slice oo no co, .slice o1 n1 c1, .slice o2 n2 c2, .slice oa na ca] 39) := ⟨_, rfl⟩
    have hb67 : Below w6.heap.size w6 w7 := by rw [hw7]; exact balloc (Below.refl _ _) _
    have hstc : StC w7 w6.heap.size hd (.slice ok nk ck) (.slice on nn cn) (.slice oo no co) (.slice o1 n1 c1) (.slice o2 n2 c2) (.slice oa na ca) := by rw [hw7]; exact StC.new _ _ _ _ _ _ _ _
    have K1 := hid (K1.out.below hb67); have K2 := hid (K2.out.below hb67)
    have hb7 := below_step hb67 hb6
    have T4 := hid hstc.2.2.2.2.1; have T5 := hid hstc.2.2.2.2.2.1
    have d0 := keepc hb7 DB1.out.c0; have d1 := keepc hb7 DB1.out.c1; have d2 := keepc hb7 DB2.out.c0; have d3 := keepc hb7 DB2.out.c1
    have z0 := keepc hb7 z0; have z1 := keepc hb7 z1
    have HSD := hid ((DB1.out.below hb7).same (DB2.out.below hb7) SM.out.1 SM.out.2)
    have HB7 := hid (below_step hb7 HB5.out)
    have HB57 := hid hb7
    have HW7 := hid hw7
    obtain ⟨X, hX⟩ : ∃ X, w6.heap.size = X := ⟨_, rfl⟩
    simp only [hX] at T4 T5
    have HX := hid hX
    clear hb6 hb7 hb67 hw7 hstc hX
    go_upto_region 7 with fail
    have ew := HW7.out
    simp only [← ew]
    clear ew HW7
    try rw [HX.out]
    go_wp2_with fail
    refine (HSD.out _ (Below.refl _ _)).mono ?_
    rintro e wz ⟨rfl, hb8⟩
    have HB8 := hid (below_step hb8 HB7.out)
    have HB58 := hid (below_step hb8 HB57.out)
    have t4 := keepc hb8 T4.out; have t5 := keepc hb8 T5.out
    have K1 := hid (K1.out.below hb8); have K2 := hid (K2.out.below hb8)
    have z0 := keepc hb8 z0; have z1 := keepc hb8 z1
    have HBZ := HB8
    have HSD2 : Hid (∀ x1 x2 w' (hb : Below wz.heap.size wz w') (h1 : RdS w' x1 st.dk.1) (h2 : RdW w' x2 st.dk.2), Calls Tryz.prog 10 #[.agg #[x1, x2], .agg #[.slice op N cp, .slice oq M cq]] w' (Ret (.bool true) w')) := fun x1 x2 w' hb h1 h2 => by
      have hbz := below_step hb HBZ.out
      rw [HST.out.1] at h1 h2
      exact rsamedisk_self d _ _ _ _ w' h1 h2 (HRP.out.below hbz) (HRQ.out.below hbz) (by have := HL.out.1; omega) (by have := HL.out.2; omega)
    have HSA1 : Hid (∀ x w' (hb : Below wz.heap.size wz w') (h1 : RdD w' x st.now), Calls Tryz.prog 11 #[x, .slice on nn cn] w' (Ret (.bool true) w')) := fun x w' hb h1 => by
      have h := rsameall_any st.now st.now x _ w' h1 (K2.out.below hb) (by have := HST.out.2.2.2.2.1; unfold maxLen; omega) (fun e he => by have := isDs_len (HST.out.2.2.2.2.2 e he); unfold maxLen; omega)
      rw [decide_eq_true rfl] at h
      exact h
    have HSA2 : Hid (∀ x w' (hb : Below wz.heap.size wz w') (h1 : RdD w' x st.kept), Calls Tryz.prog 11 #[x, .slice ok nk ck] w' (Ret (.bool true) w')) := fun x w' hb h1 => by
      have h := rsameall_any st.kept st.kept x _ w' h1 (K1.out.below hb) (by have := HST.out.2.2.2.2.1; rw [HST.out.2.2.2.1]; unfold maxLen; omega) (fun e he => by rw [HST.out.2.2.2.1] at he; have := isDs_len (HST.out.2.2.2.2.2 e he); unfold maxLen; omega)
      rw [decide_eq_true rfl] at h
      exact h
    have HDA := hid (fun w' (hb : Below wz.heap.size wz w') => HDA.out w' (below_step hb HB58.out))
    have HKE := hid (fun w' (hb : Below wz.heap.size wz w') => HKE.out w' (below_step hb HB58.out))
    have HDI := hid (fun w' (hb : Below wz.heap.size wz w') => HDI.out w' (below_step hb HB58.out))
    have HAC := hid (fun w' (hb : Below wz.heap.size wz w') => HAC.out w' (below_step hb HB58.out))
    clear hb8 d0 d1 d2 d3 T4 T5 HSD
    have HSD := HSD2
    clear HSD2
    simp only [HST.out.2.1] at HAC
    go_upto_region 11 with fail
    refine wp_region_any (by kernel_rfl) ?_
    try (change wpAny _ _ _ _ _ _ _ (World.drew _))
    refine wpAny_take (i := 0) (v := ?_) rfl (by kernel_rfl) (by kernel_rfl) (by kernel_rfl) (fun _ _ _ h => h) (Or.inl ⟨by rfl, ?_⟩) ?_
    rotate_left
    · (intro w; go_simp; try with_reducible rfl)
    try go_simp
    refine wpAny_take (i := 2) (v := ?_) rfl (by kernel_rfl) (by kernel_rfl) (by kernel_rfl) (fun _ _ _ h => h) (Or.inl ⟨by rfl, ?_⟩) ?_
    rotate_left
    · (intro w; go_simp; try with_reducible rfl)
    try go_simp
    refine wpAny_ready (rs := [1, 3]) (by kernel_rfl) (by simp) ?_
    refine AllReady.cons rfl (fun K hK => ?_) ?_
    · go_simp
      go_wp2_with (go_at_call 12; refine (HDA.out _ (drew_below wz)).mono ?_; rintro e w20 ⟨v20, rfl, ho20, hb20⟩; have hbb := below_step hb20 (drew_below wz); have HB20 := hid hbb; have HR20 := hid ho20.rd; obtain ⟨o20, n20, c20, rfl⟩ : ∃ o n c, v20 = .slice o n c := (by obtain ⟨o, c, e, -⟩ := ho20.rd; exact ⟨o, _, c, e⟩); have z0 := keepc hbb z0; have z1 := keepc hbb z1; have t4 := keepc hbb t4; have t5 := keepc hbb t5; clear ho20 hb20 hbb)
      refine wpAny_ready (rs := [3]) (by kernel_rfl) (by simp) ?_
      refine AllReady.cons rfl (fun K hK => ?_) AllReady.nil
      go_simp
      refine hK _ _ ?_; clear hK K
      refine wpAny_ready (rs := [4]) (by kernel_rfl) (by simp) ?_
      refine AllReady.cons rfl (fun K hK => ?_) AllReady.nil
      go_simp
      go_wp2_with (go_at_call 11; refine (HSA1.out _ _ HB20.out HR20.out).mono ?_; rintro e w21 ⟨rfl, hbb⟩; have HB21 := hid (below_step hbb HB20.out); have z0 := keepc hbb z0; have z1 := keepc hbb z1; have t4 := keepc hbb t4; have t5 := keepc hbb t5; clear hbb)
      refine wpAny_take (i := 5) (v := ?_) rfl (by kernel_rfl) (by kernel_rfl) (by kernel_rfl) (fun _ _ _ h => h) (Or.inl ⟨by rfl, ?_⟩) ?_
      rotate_left
      · (intro w; go_simp; try with_reducible rfl)
      try go_simp
      refine wpAny_take (i := 6) (v := ?_) rfl (by kernel_rfl) (by kernel_rfl) (by kernel_rfl) (fun _ _ _ h => h) (Or.inl ⟨by rfl, ?_⟩) ?_
      rotate_left
      · (intro w; go_simp; try with_reducible rfl)
      try go_simp
      refine wpAny_take (i := 8) (v := ?_) rfl (by kernel_rfl) (by kernel_rfl) (by kernel_rfl) (fun _ _ _ h => h) (Or.inl ⟨by rfl, ?_⟩) ?_
      rotate_left
      · (intro w; go_simp; try with_reducible rfl)
      try go_simp
      refine wpAny_ready (rs := [7, 9]) (by kernel_rfl) (by simp) ?_
      refine AllReady.cons rfl (fun K hK => ?_) ?_
      · go_simp
        go_wp2_with (go_at_call 13; refine (HKE.out _ HB21.out).mono ?_; rintro e w22 ⟨v22, rfl, ho22, hbb⟩; have HB22 := hid (below_step hbb HB21.out); have HR22 := hid ho22.rd; obtain ⟨o22, n22, c22, rfl⟩ : ∃ o n c, v22 = .slice o n c := (by obtain ⟨o, c, e, -⟩ := ho22.rd; exact ⟨o, _, c, e⟩); have z0 := keepc hbb z0; have z1 := keepc hbb z1; have t4 := keepc hbb t4; have t5 := keepc hbb t5; clear ho22 hbb)
        refine wpAny_ready (rs := [9]) (by kernel_rfl) (by simp) ?_
        refine AllReady.cons rfl (fun K hK => ?_) AllReady.nil
        go_simp
        refine hK _ _ ?_; clear hK K
        refine wpAny_ready (rs := [10]) (by kernel_rfl) (by simp) ?_
        refine AllReady.cons rfl (fun K hK => ?_) AllReady.nil
        go_simp
        go_wp2_with (go_at_call 11; refine (HSA2.out _ _ HB22.out HR22.out).mono ?_; rintro e w23 ⟨rfl, hbb⟩; have HB23 := hid (below_step hbb HB22.out); have z0 := keepc hbb z0; have z1 := keepc hbb z1; have t4 := keepc hbb t4; have t5 := keepc hbb t5; clear hbb)
        refine wpAny_take (i := 11) (v := ?_) rfl (by kernel_rfl) (by kernel_rfl) (by kernel_rfl) (fun _ _ _ h => h) (Or.inl ⟨by rfl, ?_⟩) ?_
        rotate_left
        · (intro w; go_simp; try with_reducible rfl)
        try go_simp
        refine wpAny_take (i := 12) (v := ?_) rfl (by kernel_rfl) (by kernel_rfl) (by kernel_rfl) (fun _ _ _ h => h) (Or.inl ⟨by rfl, ?_⟩) ?_
        rotate_left
        · (intro w; go_simp; try with_reducible rfl)
        try go_simp
        refine wpAny_take (i := 13) (v := ?_) rfl (by kernel_rfl) (by kernel_rfl) (by kernel_rfl) (fun _ _ _ h => h) (Or.inl ⟨by rfl, ?_⟩) ?_
        rotate_left
        · (intro w; go_simp; try with_reducible rfl)
        try go_simp
        refine wpAny_ready (rs := [14, 15]) (by kernel_rfl) (by simp) ?_
        refine AllReady.cons rfl (fun K hK => ?_) ?_
        · go_simp
          go_wp2_with (go_at_call 14; refine (HDI.out _ HB23.out).mono ?_; rintro e w24 ⟨x1, x2, rfl, ho1, ho2, hbb⟩; have HP1 := hid ho1.rd; have HQ1 := hid ho2.rd; have HB24 := hid (below_step hbb HB23.out); have z0 := keepc hbb z0; have z1 := keepc hbb z1; have t4 := keepc hbb t4; have t5 := keepc hbb t5; clear ho1 ho2 hbb)
          refine wpAny_ready (rs := [15]) (by kernel_rfl) (by simp) ?_
          refine AllReady.cons rfl (fun K hK => ?_) AllReady.nil
          go_simp
          refine hK _ _ ?_; clear hK K
          refine wpAny_ready (rs := [16]) (by kernel_rfl) (by simp) ?_
          refine AllReady.cons rfl (fun K hK => ?_) AllReady.nil
          go_simp
          go_wp2_with (go_at_call 10; refine (HSD.out _ _ _ HB24.out HP1.out HQ1.out).mono ?_; rintro e w25 ⟨rfl, hbb⟩; have HB25 := hid (below_step hbb HB24.out); clear hbb)
          refine wpAny_take (i := 17) (v := ?_) rfl (by kernel_rfl) (by kernel_rfl) (by kernel_rfl) (fun _ _ _ h => h) (Or.inl ⟨by rfl, ?_⟩) ?_
          rotate_left
          · (intro w; go_simp; try with_reducible rfl)
          try go_simp
          refine wpAny_take (i := 18) (v := ?_) rfl (by kernel_rfl) (by kernel_rfl) (by kernel_rfl) (fun _ _ _ h => h) (Or.inl ⟨by rfl, ?_⟩) ?_
          rotate_left
          · (intro w; go_simp; try with_reducible rfl)
          try go_simp
          refine wpAny_take (i := 19) (v := ?_) rfl (by kernel_rfl) (by kernel_rfl) (by kernel_rfl) (fun _ _ _ h => h) (Or.inl ⟨by rfl, ?_⟩) ?_
          rotate_left
          · (intro w; go_simp; try with_reducible rfl)
          try go_simp
          refine wpAny_ready (rs := [20]) (by kernel_rfl) (by simp) ?_
          refine AllReady.cons rfl (fun K hK => ?_) AllReady.nil
          go_simp
          go_wp2_with (go_at_call 15; refine (HAC.out _ HB25.out).mono ?_; rintro e w26 ⟨v26, rfl, ho26, hbb⟩; have HB26 := hid (below_step hbb HB25.out); obtain ⟨o26, c26, rfl⟩ : ∃ o c, v26 = .slice o 0 c := (by obtain ⟨o, c, e, -⟩ := ho26.rd; exact ⟨o, c, e⟩); clear ho26 hbb)
          refine wpAny_take (i := 21) (v := ?_) rfl (by kernel_rfl) (by kernel_rfl) (by kernel_rfl) (fun _ _ _ h => h) (Or.inl ⟨by rfl, ?_⟩) ?_
          rotate_left
          · (intro w; go_simp; try with_reducible rfl)
          try go_simp
          refine wpAny_take (i := 22) (v := ?_) rfl (by kernel_rfl) (by kernel_rfl) (by kernel_rfl) (fun _ _ _ h => h) (Or.inl ⟨by rfl, ?_⟩) ?_
          rotate_left
          · (intro w; go_simp; try with_reducible rfl)
          try go_simp
          refine wpAny_take (i := 23) (v := ?_) rfl (by kernel_rfl) (by kernel_rfl) (by kernel_rfl) (fun _ _ _ h => h) (Or.inl ⟨by rfl, ?_⟩) ?_
          rotate_left
          · (intro w; go_simp; try with_reducible rfl)
          try go_simp
          refine wpAny_take (i := 24) (v := ?_) rfl (by kernel_rfl) (by kernel_rfl) (by kernel_rfl) (fun _ _ _ h => h) (Or.inl ⟨by rfl, ?_⟩) ?_
          rotate_left
          · (intro w; go_simp; try with_reducible rfl)
          try go_simp
          refine wpAny_done (by kernel_rfl) ?_ _
          go_wp2_with fail
          go_ret
          exact ⟨rfl, below_step HB26.out HBZ.out⟩
        refine AllReady.cons rfl (fun K hK => ?_) ?_
        · go_simp
          refine hK _ _ ?_; clear hK K
          refine wpAny_ready (rs := [14]) (by kernel_rfl) (by simp) ?_
          refine AllReady.cons rfl (fun K hK => ?_) AllReady.nil
          go_simp
          go_wp2_with (go_at_call 14; refine (HDI.out _ HB23.out).mono ?_; rintro e w24 ⟨x1, x2, rfl, ho1, ho2, hbb⟩; have HP1 := hid ho1.rd; have HQ1 := hid ho2.rd; have HB24 := hid (below_step hbb HB23.out); have z0 := keepc hbb z0; have z1 := keepc hbb z1; have t4 := keepc hbb t4; have t5 := keepc hbb t5; clear ho1 ho2 hbb)
          refine wpAny_ready (rs := [16]) (by kernel_rfl) (by simp) ?_
          refine AllReady.cons rfl (fun K hK => ?_) AllReady.nil
          go_simp
          go_wp2_with (go_at_call 10; refine (HSD.out _ _ _ HB24.out HP1.out HQ1.out).mono ?_; rintro e w25 ⟨rfl, hbb⟩; have HB25 := hid (below_step hbb HB24.out); clear hbb)
          refine wpAny_take (i := 17) (v := ?_) rfl (by kernel_rfl) (by kernel_rfl) (by kernel_rfl) (fun _ _ _ h => h) (Or.inl ⟨by rfl, ?_⟩) ?_
          rotate_left
          · (intro w; go_simp; try with_reducible rfl)
          try go_simp
          refine wpAny_take (i := 18) (v := ?_) rfl (by kernel_rfl) (by kernel_rfl) (by kernel_rfl) (fun _ _ _ h => h) (Or.inl ⟨by rfl, ?_⟩) ?_
          rotate_left
          · (intro w; go_simp; try with_reducible rfl)
          try go_simp
          refine wpAny_take (i := 19) (v := ?_) rfl (by kernel_rfl) (by kernel_rfl) (by kernel_rfl) (fun _ _ _ h => h) (Or.inl ⟨by rfl, ?_⟩) ?_
          rotate_left
          · (intro w; go_simp; try with_reducible rfl)
          try go_simp
          refine wpAny_ready (rs := [20]) (by kernel_rfl) (by simp) ?_
          refine AllReady.cons rfl (fun K hK => ?_) AllReady.nil
          go_simp
          go_wp2_with (go_at_call 15; refine (HAC.out _ HB25.out).mono ?_; rintro e w26 ⟨v26, rfl, ho26, hbb⟩; have HB26 := hid (below_step hbb HB25.out); obtain ⟨o26, c26, rfl⟩ : ∃ o c, v26 = .slice o 0 c := (by obtain ⟨o, c, e, -⟩ := ho26.rd; exact ⟨o, c, e⟩); clear ho26 hbb)
          refine wpAny_take (i := 21) (v := ?_) rfl (by kernel_rfl) (by kernel_rfl) (by kernel_rfl) (fun _ _ _ h => h) (Or.inl ⟨by rfl, ?_⟩) ?_
          rotate_left
          · (intro w; go_simp; try with_reducible rfl)
          try go_simp
          refine wpAny_take (i := 22) (v := ?_) rfl (by kernel_rfl) (by kernel_rfl) (by kernel_rfl) (fun _ _ _ h => h) (Or.inl ⟨by rfl, ?_⟩) ?_
          rotate_left
          · (intro w; go_simp; try with_reducible rfl)
          try go_simp
          refine wpAny_take (i := 23) (v := ?_) rfl (by kernel_rfl) (by kernel_rfl) (by kernel_rfl) (fun _ _ _ h => h) (Or.inl ⟨by rfl, ?_⟩) ?_
          rotate_left
          · (intro w; go_simp; try with_reducible rfl)
          try go_simp
          refine wpAny_take (i := 24) (v := ?_) rfl (by kernel_rfl) (by kernel_rfl) (by kernel_rfl) (fun _ _ _ h => h) (Or.inl ⟨by rfl, ?_⟩) ?_
          rotate_left
          · (intro w; go_simp; try with_reducible rfl)
          try go_simp
          refine wpAny_done (by kernel_rfl) ?_ _
          go_wp2_with fail
          go_ret
          exact ⟨rfl, below_step HB26.out HBZ.out⟩
        exact AllReady.nil
      refine AllReady.cons rfl (fun K hK => ?_) ?_
      · go_simp
        refine hK _ _ ?_; clear hK K
        refine wpAny_ready (rs := [7]) (by kernel_rfl) (by simp) ?_
        refine AllReady.cons rfl (fun K hK => ?_) AllReady.nil
        go_simp
        go_wp2_with (go_at_call 13; refine (HKE.out _ HB21.out).mono ?_; rintro e w22 ⟨v22, rfl, ho22, hbb⟩; have HB22 := hid (below_step hbb HB21.out); have HR22 := hid ho22.rd; obtain ⟨o22, n22, c22, rfl⟩ : ∃ o n c, v22 = .slice o n c := (by obtain ⟨o, c, e, -⟩ := ho22.rd; exact ⟨o, _, c, e⟩); have z0 := keepc hbb z0; have z1 := keepc hbb z1; have t4 := keepc hbb t4; have t5 := keepc hbb t5; clear ho22 hbb)
        refine wpAny_ready (rs := [10]) (by kernel_rfl) (by simp) ?_
        refine AllReady.cons rfl (fun K hK => ?_) AllReady.nil
        go_simp
        go_wp2_with (go_at_call 11; refine (HSA2.out _ _ HB22.out HR22.out).mono ?_; rintro e w23 ⟨rfl, hbb⟩; have HB23 := hid (below_step hbb HB22.out); have z0 := keepc hbb z0; have z1 := keepc hbb z1; have t4 := keepc hbb t4; have t5 := keepc hbb t5; clear hbb)
        refine wpAny_take (i := 11) (v := ?_) rfl (by kernel_rfl) (by kernel_rfl) (by kernel_rfl) (fun _ _ _ h => h) (Or.inl ⟨by rfl, ?_⟩) ?_
        rotate_left
        · (intro w; go_simp; try with_reducible rfl)
        try go_simp
        refine wpAny_take (i := 12) (v := ?_) rfl (by kernel_rfl) (by kernel_rfl) (by kernel_rfl) (fun _ _ _ h => h) (Or.inl ⟨by rfl, ?_⟩) ?_
        rotate_left
        · (intro w; go_simp; try with_reducible rfl)
        try go_simp
        refine wpAny_take (i := 13) (v := ?_) rfl (by kernel_rfl) (by kernel_rfl) (by kernel_rfl) (fun _ _ _ h => h) (Or.inl ⟨by rfl, ?_⟩) ?_
        rotate_left
        · (intro w; go_simp; try with_reducible rfl)
        try go_simp
        refine wpAny_ready (rs := [14, 15]) (by kernel_rfl) (by simp) ?_
        refine AllReady.cons rfl (fun K hK => ?_) ?_
        · go_simp
          go_wp2_with (go_at_call 14; refine (HDI.out _ HB23.out).mono ?_; rintro e w24 ⟨x1, x2, rfl, ho1, ho2, hbb⟩; have HP1 := hid ho1.rd; have HQ1 := hid ho2.rd; have HB24 := hid (below_step hbb HB23.out); have z0 := keepc hbb z0; have z1 := keepc hbb z1; have t4 := keepc hbb t4; have t5 := keepc hbb t5; clear ho1 ho2 hbb)
          refine wpAny_ready (rs := [15]) (by kernel_rfl) (by simp) ?_
          refine AllReady.cons rfl (fun K hK => ?_) AllReady.nil
          go_simp
          refine hK _ _ ?_; clear hK K
          refine wpAny_ready (rs := [16]) (by kernel_rfl) (by simp) ?_
          refine AllReady.cons rfl (fun K hK => ?_) AllReady.nil
          go_simp
          go_wp2_with (go_at_call 10; refine (HSD.out _ _ _ HB24.out HP1.out HQ1.out).mono ?_; rintro e w25 ⟨rfl, hbb⟩; have HB25 := hid (below_step hbb HB24.out); clear hbb)
          refine wpAny_take (i := 17) (v := ?_) rfl (by kernel_rfl) (by kernel_rfl) (by kernel_rfl) (fun _ _ _ h => h) (Or.inl ⟨by rfl, ?_⟩) ?_
          rotate_left
          · (intro w; go_simp; try with_reducible rfl)
          try go_simp
          refine wpAny_take (i := 18) (v := ?_) rfl (by kernel_rfl) (by kernel_rfl) (by kernel_rfl) (fun _ _ _ h => h) (Or.inl ⟨by rfl, ?_⟩) ?_
          rotate_left
          · (intro w; go_simp; try with_reducible rfl)
          try go_simp
          refine wpAny_take (i := 19) (v := ?_) rfl (by kernel_rfl) (by kernel_rfl) (by kernel_rfl) (fun _ _ _ h => h) (Or.inl ⟨by rfl, ?_⟩) ?_
          rotate_left
          · (intro w; go_simp; try with_reducible rfl)
          try go_simp
          refine wpAny_ready (rs := [20]) (by kernel_rfl) (by simp) ?_
          refine AllReady.cons rfl (fun K hK => ?_) AllReady.nil
          go_simp
          go_wp2_with (go_at_call 15; refine (HAC.out _ HB25.out).mono ?_; rintro e w26 ⟨v26, rfl, ho26, hbb⟩; have HB26 := hid (below_step hbb HB25.out); obtain ⟨o26, c26, rfl⟩ : ∃ o c, v26 = .slice o 0 c := (by obtain ⟨o, c, e, -⟩ := ho26.rd; exact ⟨o, c, e⟩); clear ho26 hbb)
          refine wpAny_take (i := 21) (v := ?_) rfl (by kernel_rfl) (by kernel_rfl) (by kernel_rfl) (fun _ _ _ h => h) (Or.inl ⟨by rfl, ?_⟩) ?_
          rotate_left
          · (intro w; go_simp; try with_reducible rfl)
          try go_simp
          refine wpAny_take (i := 22) (v := ?_) rfl (by kernel_rfl) (by kernel_rfl) (by kernel_rfl) (fun _ _ _ h => h) (Or.inl ⟨by rfl, ?_⟩) ?_
          rotate_left
          · (intro w; go_simp; try with_reducible rfl)
          try go_simp
          refine wpAny_take (i := 23) (v := ?_) rfl (by kernel_rfl) (by kernel_rfl) (by kernel_rfl) (fun _ _ _ h => h) (Or.inl ⟨by rfl, ?_⟩) ?_
          rotate_left
          · (intro w; go_simp; try with_reducible rfl)
          try go_simp
          refine wpAny_take (i := 24) (v := ?_) rfl (by kernel_rfl) (by kernel_rfl) (by kernel_rfl) (fun _ _ _ h => h) (Or.inl ⟨by rfl, ?_⟩) ?_
          rotate_left
          · (intro w; go_simp; try with_reducible rfl)
          try go_simp
          refine wpAny_done (by kernel_rfl) ?_ _
          go_wp2_with fail
          go_ret
          exact ⟨rfl, below_step HB26.out HBZ.out⟩
        refine AllReady.cons rfl (fun K hK => ?_) ?_
        · go_simp
          refine hK _ _ ?_; clear hK K
          refine wpAny_ready (rs := [14]) (by kernel_rfl) (by simp) ?_
          refine AllReady.cons rfl (fun K hK => ?_) AllReady.nil
          go_simp
          go_wp2_with (go_at_call 14; refine (HDI.out _ HB23.out).mono ?_; rintro e w24 ⟨x1, x2, rfl, ho1, ho2, hbb⟩; have HP1 := hid ho1.rd; have HQ1 := hid ho2.rd; have HB24 := hid (below_step hbb HB23.out); have z0 := keepc hbb z0; have z1 := keepc hbb z1; have t4 := keepc hbb t4; have t5 := keepc hbb t5; clear ho1 ho2 hbb)
          refine wpAny_ready (rs := [16]) (by kernel_rfl) (by simp) ?_
          refine AllReady.cons rfl (fun K hK => ?_) AllReady.nil
          go_simp
          go_wp2_with (go_at_call 10; refine (HSD.out _ _ _ HB24.out HP1.out HQ1.out).mono ?_; rintro e w25 ⟨rfl, hbb⟩; have HB25 := hid (below_step hbb HB24.out); clear hbb)
          refine wpAny_take (i := 17) (v := ?_) rfl (by kernel_rfl) (by kernel_rfl) (by kernel_rfl) (fun _ _ _ h => h) (Or.inl ⟨by rfl, ?_⟩) ?_
          rotate_left
          · (intro w; go_simp; try with_reducible rfl)
          try go_simp
          refine wpAny_take (i := 18) (v := ?_) rfl (by kernel_rfl) (by kernel_rfl) (by kernel_rfl) (fun _ _ _ h => h) (Or.inl ⟨by rfl, ?_⟩) ?_
          rotate_left
          · (intro w; go_simp; try with_reducible rfl)
          try go_simp
          refine wpAny_take (i := 19) (v := ?_) rfl (by kernel_rfl) (by kernel_rfl) (by kernel_rfl) (fun _ _ _ h => h) (Or.inl ⟨by rfl, ?_⟩) ?_
          rotate_left
          · (intro w; go_simp; try with_reducible rfl)
          try go_simp
          refine wpAny_ready (rs := [20]) (by kernel_rfl) (by simp) ?_
          refine AllReady.cons rfl (fun K hK => ?_) AllReady.nil
          go_simp
          go_wp2_with (go_at_call 15; refine (HAC.out _ HB25.out).mono ?_; rintro e w26 ⟨v26, rfl, ho26, hbb⟩; have HB26 := hid (below_step hbb HB25.out); obtain ⟨o26, c26, rfl⟩ : ∃ o c, v26 = .slice o 0 c := (by obtain ⟨o, c, e, -⟩ := ho26.rd; exact ⟨o, c, e⟩); clear ho26 hbb)
          refine wpAny_take (i := 21) (v := ?_) rfl (by kernel_rfl) (by kernel_rfl) (by kernel_rfl) (fun _ _ _ h => h) (Or.inl ⟨by rfl, ?_⟩) ?_
          rotate_left
          · (intro w; go_simp; try with_reducible rfl)
          try go_simp
          refine wpAny_take (i := 22) (v := ?_) rfl (by kernel_rfl) (by kernel_rfl) (by kernel_rfl) (fun _ _ _ h => h) (Or.inl ⟨by rfl, ?_⟩) ?_
          rotate_left
          · (intro w; go_simp; try with_reducible rfl)
          try go_simp
          refine wpAny_take (i := 23) (v := ?_) rfl (by kernel_rfl) (by kernel_rfl) (by kernel_rfl) (fun _ _ _ h => h) (Or.inl ⟨by rfl, ?_⟩) ?_
          rotate_left
          · (intro w; go_simp; try with_reducible rfl)
          try go_simp
          refine wpAny_take (i := 24) (v := ?_) rfl (by kernel_rfl) (by kernel_rfl) (by kernel_rfl) (fun _ _ _ h => h) (Or.inl ⟨by rfl, ?_⟩) ?_
          rotate_left
          · (intro w; go_simp; try with_reducible rfl)
          try go_simp
          refine wpAny_done (by kernel_rfl) ?_ _
          go_wp2_with fail
          go_ret
          exact ⟨rfl, below_step HB26.out HBZ.out⟩
        exact AllReady.nil
      exact AllReady.nil
    refine AllReady.cons rfl (fun K hK => ?_) ?_
    · go_simp
      refine hK _ _ ?_; clear hK K
      refine wpAny_ready (rs := [1]) (by kernel_rfl) (by simp) ?_
      refine AllReady.cons rfl (fun K hK => ?_) AllReady.nil
      go_simp
      go_wp2_with (go_at_call 12; refine (HDA.out _ (drew_below wz)).mono ?_; rintro e w20 ⟨v20, rfl, ho20, hb20⟩; have hbb := below_step hb20 (drew_below wz); have HB20 := hid hbb; have HR20 := hid ho20.rd; obtain ⟨o20, n20, c20, rfl⟩ : ∃ o n c, v20 = .slice o n c := (by obtain ⟨o, c, e, -⟩ := ho20.rd; exact ⟨o, _, c, e⟩); have z0 := keepc hbb z0; have z1 := keepc hbb z1; have t4 := keepc hbb t4; have t5 := keepc hbb t5; clear ho20 hb20 hbb)
      refine wpAny_ready (rs := [4]) (by kernel_rfl) (by simp) ?_
      refine AllReady.cons rfl (fun K hK => ?_) AllReady.nil
      go_simp
      go_wp2_with (go_at_call 11; refine (HSA1.out _ _ HB20.out HR20.out).mono ?_; rintro e w21 ⟨rfl, hbb⟩; have HB21 := hid (below_step hbb HB20.out); have z0 := keepc hbb z0; have z1 := keepc hbb z1; have t4 := keepc hbb t4; have t5 := keepc hbb t5; clear hbb)
      refine wpAny_take (i := 5) (v := ?_) rfl (by kernel_rfl) (by kernel_rfl) (by kernel_rfl) (fun _ _ _ h => h) (Or.inl ⟨by rfl, ?_⟩) ?_
      rotate_left
      · (intro w; go_simp; try with_reducible rfl)
      try go_simp
      refine wpAny_take (i := 6) (v := ?_) rfl (by kernel_rfl) (by kernel_rfl) (by kernel_rfl) (fun _ _ _ h => h) (Or.inl ⟨by rfl, ?_⟩) ?_
      rotate_left
      · (intro w; go_simp; try with_reducible rfl)
      try go_simp
      refine wpAny_take (i := 8) (v := ?_) rfl (by kernel_rfl) (by kernel_rfl) (by kernel_rfl) (fun _ _ _ h => h) (Or.inl ⟨by rfl, ?_⟩) ?_
      rotate_left
      · (intro w; go_simp; try with_reducible rfl)
      try go_simp
      refine wpAny_ready (rs := [7, 9]) (by kernel_rfl) (by simp) ?_
      refine AllReady.cons rfl (fun K hK => ?_) ?_
      · go_simp
        go_wp2_with (go_at_call 13; refine (HKE.out _ HB21.out).mono ?_; rintro e w22 ⟨v22, rfl, ho22, hbb⟩; have HB22 := hid (below_step hbb HB21.out); have HR22 := hid ho22.rd; obtain ⟨o22, n22, c22, rfl⟩ : ∃ o n c, v22 = .slice o n c := (by obtain ⟨o, c, e, -⟩ := ho22.rd; exact ⟨o, _, c, e⟩); have z0 := keepc hbb z0; have z1 := keepc hbb z1; have t4 := keepc hbb t4; have t5 := keepc hbb t5; clear ho22 hbb)
        refine wpAny_ready (rs := [9]) (by kernel_rfl) (by simp) ?_
        refine AllReady.cons rfl (fun K hK => ?_) AllReady.nil
        go_simp
        refine hK _ _ ?_; clear hK K
        refine wpAny_ready (rs := [10]) (by kernel_rfl) (by simp) ?_
        refine AllReady.cons rfl (fun K hK => ?_) AllReady.nil
        go_simp
        go_wp2_with (go_at_call 11; refine (HSA2.out _ _ HB22.out HR22.out).mono ?_; rintro e w23 ⟨rfl, hbb⟩; have HB23 := hid (below_step hbb HB22.out); have z0 := keepc hbb z0; have z1 := keepc hbb z1; have t4 := keepc hbb t4; have t5 := keepc hbb t5; clear hbb)
        refine wpAny_take (i := 11) (v := ?_) rfl (by kernel_rfl) (by kernel_rfl) (by kernel_rfl) (fun _ _ _ h => h) (Or.inl ⟨by rfl, ?_⟩) ?_
        rotate_left
        · (intro w; go_simp; try with_reducible rfl)
        try go_simp
        refine wpAny_take (i := 12) (v := ?_) rfl (by kernel_rfl) (by kernel_rfl) (by kernel_rfl) (fun _ _ _ h => h) (Or.inl ⟨by rfl, ?_⟩) ?_
        rotate_left
        · (intro w; go_simp; try with_reducible rfl)
        try go_simp
        refine wpAny_take (i := 13) (v := ?_) rfl (by kernel_rfl) (by kernel_rfl) (by kernel_rfl) (fun _ _ _ h => h) (Or.inl ⟨by rfl, ?_⟩) ?_
        rotate_left
        · (intro w; go_simp; try with_reducible rfl)
        try go_simp
        refine wpAny_ready (rs := [14, 15]) (by kernel_rfl) (by simp) ?_
        refine AllReady.cons rfl (fun K hK => ?_) ?_
        · go_simp
          go_wp2_with (go_at_call 14; refine (HDI.out _ HB23.out).mono ?_; rintro e w24 ⟨x1, x2, rfl, ho1, ho2, hbb⟩; have HP1 := hid ho1.rd; have HQ1 := hid ho2.rd; have HB24 := hid (below_step hbb HB23.out); have z0 := keepc hbb z0; have z1 := keepc hbb z1; have t4 := keepc hbb t4; have t5 := keepc hbb t5; clear ho1 ho2 hbb)
          refine wpAny_ready (rs := [15]) (by kernel_rfl) (by simp) ?_
          refine AllReady.cons rfl (fun K hK => ?_) AllReady.nil
          go_simp
          refine hK _ _ ?_; clear hK K
          refine wpAny_ready (rs := [16]) (by kernel_rfl) (by simp) ?_
          refine AllReady.cons rfl (fun K hK => ?_) AllReady.nil
          go_simp
          go_wp2_with (go_at_call 10; refine (HSD.out _ _ _ HB24.out HP1.out HQ1.out).mono ?_; rintro e w25 ⟨rfl, hbb⟩; have HB25 := hid (below_step hbb HB24.out); clear hbb)
          refine wpAny_take (i := 17) (v := ?_) rfl (by kernel_rfl) (by kernel_rfl) (by kernel_rfl) (fun _ _ _ h => h) (Or.inl ⟨by rfl, ?_⟩) ?_
          rotate_left
          · (intro w; go_simp; try with_reducible rfl)
          try go_simp
          refine wpAny_take (i := 18) (v := ?_) rfl (by kernel_rfl) (by kernel_rfl) (by kernel_rfl) (fun _ _ _ h => h) (Or.inl ⟨by rfl, ?_⟩) ?_
          rotate_left
          · (intro w; go_simp; try with_reducible rfl)
          try go_simp
          refine wpAny_take (i := 19) (v := ?_) rfl (by kernel_rfl) (by kernel_rfl) (by kernel_rfl) (fun _ _ _ h => h) (Or.inl ⟨by rfl, ?_⟩) ?_
          rotate_left
          · (intro w; go_simp; try with_reducible rfl)
          try go_simp
          refine wpAny_ready (rs := [20]) (by kernel_rfl) (by simp) ?_
          refine AllReady.cons rfl (fun K hK => ?_) AllReady.nil
          go_simp
          go_wp2_with (go_at_call 15; refine (HAC.out _ HB25.out).mono ?_; rintro e w26 ⟨v26, rfl, ho26, hbb⟩; have HB26 := hid (below_step hbb HB25.out); obtain ⟨o26, c26, rfl⟩ : ∃ o c, v26 = .slice o 0 c := (by obtain ⟨o, c, e, -⟩ := ho26.rd; exact ⟨o, c, e⟩); clear ho26 hbb)
          refine wpAny_take (i := 21) (v := ?_) rfl (by kernel_rfl) (by kernel_rfl) (by kernel_rfl) (fun _ _ _ h => h) (Or.inl ⟨by rfl, ?_⟩) ?_
          rotate_left
          · (intro w; go_simp; try with_reducible rfl)
          try go_simp
          refine wpAny_take (i := 22) (v := ?_) rfl (by kernel_rfl) (by kernel_rfl) (by kernel_rfl) (fun _ _ _ h => h) (Or.inl ⟨by rfl, ?_⟩) ?_
          rotate_left
          · (intro w; go_simp; try with_reducible rfl)
          try go_simp
          refine wpAny_take (i := 23) (v := ?_) rfl (by kernel_rfl) (by kernel_rfl) (by kernel_rfl) (fun _ _ _ h => h) (Or.inl ⟨by rfl, ?_⟩) ?_
          rotate_left
          · (intro w; go_simp; try with_reducible rfl)
          try go_simp
          refine wpAny_take (i := 24) (v := ?_) rfl (by kernel_rfl) (by kernel_rfl) (by kernel_rfl) (fun _ _ _ h => h) (Or.inl ⟨by rfl, ?_⟩) ?_
          rotate_left
          · (intro w; go_simp; try with_reducible rfl)
          try go_simp
          refine wpAny_done (by kernel_rfl) ?_ _
          go_wp2_with fail
          go_ret
          exact ⟨rfl, below_step HB26.out HBZ.out⟩
        refine AllReady.cons rfl (fun K hK => ?_) ?_
        · go_simp
          refine hK _ _ ?_; clear hK K
          refine wpAny_ready (rs := [14]) (by kernel_rfl) (by simp) ?_
          refine AllReady.cons rfl (fun K hK => ?_) AllReady.nil
          go_simp
          go_wp2_with (go_at_call 14; refine (HDI.out _ HB23.out).mono ?_; rintro e w24 ⟨x1, x2, rfl, ho1, ho2, hbb⟩; have HP1 := hid ho1.rd; have HQ1 := hid ho2.rd; have HB24 := hid (below_step hbb HB23.out); have z0 := keepc hbb z0; have z1 := keepc hbb z1; have t4 := keepc hbb t4; have t5 := keepc hbb t5; clear ho1 ho2 hbb)
          refine wpAny_ready (rs := [16]) (by kernel_rfl) (by simp) ?_
          refine AllReady.cons rfl (fun K hK => ?_) AllReady.nil
          go_simp
          go_wp2_with (go_at_call 10; refine (HSD.out _ _ _ HB24.out HP1.out HQ1.out).mono ?_; rintro e w25 ⟨rfl, hbb⟩; have HB25 := hid (below_step hbb HB24.out); clear hbb)
          refine wpAny_take (i := 17) (v := ?_) rfl (by kernel_rfl) (by kernel_rfl) (by kernel_rfl) (fun _ _ _ h => h) (Or.inl ⟨by rfl, ?_⟩) ?_
          rotate_left
          · (intro w; go_simp; try with_reducible rfl)
          try go_simp
          refine wpAny_take (i := 18) (v := ?_) rfl (by kernel_rfl) (by kernel_rfl) (by kernel_rfl) (fun _ _ _ h => h) (Or.inl ⟨by rfl, ?_⟩) ?_
          rotate_left
          · (intro w; go_simp; try with_reducible rfl)
          try go_simp
          refine wpAny_take (i := 19) (v := ?_) rfl (by kernel_rfl) (by kernel_rfl) (by kernel_rfl) (fun _ _ _ h => h) (Or.inl ⟨by rfl, ?_⟩) ?_
          rotate_left
          · (intro w; go_simp; try with_reducible rfl)
          try go_simp
          refine wpAny_ready (rs := [20]) (by kernel_rfl) (by simp) ?_
          refine AllReady.cons rfl (fun K hK => ?_) AllReady.nil
          go_simp
          go_wp2_with (go_at_call 15; refine (HAC.out _ HB25.out).mono ?_; rintro e w26 ⟨v26, rfl, ho26, hbb⟩; have HB26 := hid (below_step hbb HB25.out); obtain ⟨o26, c26, rfl⟩ : ∃ o c, v26 = .slice o 0 c := (by obtain ⟨o, c, e, -⟩ := ho26.rd; exact ⟨o, c, e⟩); clear ho26 hbb)
          refine wpAny_take (i := 21) (v := ?_) rfl (by kernel_rfl) (by kernel_rfl) (by kernel_rfl) (fun _ _ _ h => h) (Or.inl ⟨by rfl, ?_⟩) ?_
          rotate_left
          · (intro w; go_simp; try with_reducible rfl)
          try go_simp
          refine wpAny_take (i := 22) (v := ?_) rfl (by kernel_rfl) (by kernel_rfl) (by kernel_rfl) (fun _ _ _ h => h) (Or.inl ⟨by rfl, ?_⟩) ?_
          rotate_left
          · (intro w; go_simp; try with_reducible rfl)
          try go_simp
          refine wpAny_take (i := 23) (v := ?_) rfl (by kernel_rfl) (by kernel_rfl) (by kernel_rfl) (fun _ _ _ h => h) (Or.inl ⟨by rfl, ?_⟩) ?_
          rotate_left
          · (intro w; go_simp; try with_reducible rfl)
          try go_simp
          refine wpAny_take (i := 24) (v := ?_) rfl (by kernel_rfl) (by kernel_rfl) (by kernel_rfl) (fun _ _ _ h => h) (Or.inl ⟨by rfl, ?_⟩) ?_
          rotate_left
          · (intro w; go_simp; try with_reducible rfl)
          try go_simp
          refine wpAny_done (by kernel_rfl) ?_ _
          go_wp2_with fail
          go_ret
          exact ⟨rfl, below_step HB26.out HBZ.out⟩
        exact AllReady.nil
      refine AllReady.cons rfl (fun K hK => ?_) ?_
      · go_simp
        refine hK _ _ ?_; clear hK K
        refine wpAny_ready (rs := [7]) (by kernel_rfl) (by simp) ?_
        refine AllReady.cons rfl (fun K hK => ?_) AllReady.nil
        go_simp
        go_wp2_with (go_at_call 13; refine (HKE.out _ HB21.out).mono ?_; rintro e w22 ⟨v22, rfl, ho22, hbb⟩; have HB22 := hid (below_step hbb HB21.out); have HR22 := hid ho22.rd; obtain ⟨o22, n22, c22, rfl⟩ : ∃ o n c, v22 = .slice o n c := (by obtain ⟨o, c, e, -⟩ := ho22.rd; exact ⟨o, _, c, e⟩); have z0 := keepc hbb z0; have z1 := keepc hbb z1; have t4 := keepc hbb t4; have t5 := keepc hbb t5; clear ho22 hbb)
        refine wpAny_ready (rs := [10]) (by kernel_rfl) (by simp) ?_
        refine AllReady.cons rfl (fun K hK => ?_) AllReady.nil
        go_simp
        go_wp2_with (go_at_call 11; refine (HSA2.out _ _ HB22.out HR22.out).mono ?_; rintro e w23 ⟨rfl, hbb⟩; have HB23 := hid (below_step hbb HB22.out); have z0 := keepc hbb z0; have z1 := keepc hbb z1; have t4 := keepc hbb t4; have t5 := keepc hbb t5; clear hbb)
        refine wpAny_take (i := 11) (v := ?_) rfl (by kernel_rfl) (by kernel_rfl) (by kernel_rfl) (fun _ _ _ h => h) (Or.inl ⟨by rfl, ?_⟩) ?_
        rotate_left
        · (intro w; go_simp; try with_reducible rfl)
        try go_simp
        refine wpAny_take (i := 12) (v := ?_) rfl (by kernel_rfl) (by kernel_rfl) (by kernel_rfl) (fun _ _ _ h => h) (Or.inl ⟨by rfl, ?_⟩) ?_
        rotate_left
        · (intro w; go_simp; try with_reducible rfl)
        try go_simp
        refine wpAny_take (i := 13) (v := ?_) rfl (by kernel_rfl) (by kernel_rfl) (by kernel_rfl) (fun _ _ _ h => h) (Or.inl ⟨by rfl, ?_⟩) ?_
        rotate_left
        · (intro w; go_simp; try with_reducible rfl)
        try go_simp
        refine wpAny_ready (rs := [14, 15]) (by kernel_rfl) (by simp) ?_
        refine AllReady.cons rfl (fun K hK => ?_) ?_
        · go_simp
          go_wp2_with (go_at_call 14; refine (HDI.out _ HB23.out).mono ?_; rintro e w24 ⟨x1, x2, rfl, ho1, ho2, hbb⟩; have HP1 := hid ho1.rd; have HQ1 := hid ho2.rd; have HB24 := hid (below_step hbb HB23.out); have z0 := keepc hbb z0; have z1 := keepc hbb z1; have t4 := keepc hbb t4; have t5 := keepc hbb t5; clear ho1 ho2 hbb)
          refine wpAny_ready (rs := [15]) (by kernel_rfl) (by simp) ?_
          refine AllReady.cons rfl (fun K hK => ?_) AllReady.nil
          go_simp
          refine hK _ _ ?_; clear hK K
          refine wpAny_ready (rs := [16]) (by kernel_rfl) (by simp) ?_
          refine AllReady.cons rfl (fun K hK => ?_) AllReady.nil
          go_simp
          go_wp2_with (go_at_call 10; refine (HSD.out _ _ _ HB24.out HP1.out HQ1.out).mono ?_; rintro e w25 ⟨rfl, hbb⟩; have HB25 := hid (below_step hbb HB24.out); clear hbb)
          refine wpAny_take (i := 17) (v := ?_) rfl (by kernel_rfl) (by kernel_rfl) (by kernel_rfl) (fun _ _ _ h => h) (Or.inl ⟨by rfl, ?_⟩) ?_
          rotate_left
          · (intro w; go_simp; try with_reducible rfl)
          try go_simp
          refine wpAny_take (i := 18) (v := ?_) rfl (by kernel_rfl) (by kernel_rfl) (by kernel_rfl) (fun _ _ _ h => h) (Or.inl ⟨by rfl, ?_⟩) ?_
          rotate_left
          · (intro w; go_simp; try with_reducible rfl)
          try go_simp
          refine wpAny_take (i := 19) (v := ?_) rfl (by kernel_rfl) (by kernel_rfl) (by kernel_rfl) (fun _ _ _ h => h) (Or.inl ⟨by rfl, ?_⟩) ?_
          rotate_left
          · (intro w; go_simp; try with_reducible rfl)
          try go_simp
          refine wpAny_ready (rs := [20]) (by kernel_rfl) (by simp) ?_
          refine AllReady.cons rfl (fun K hK => ?_) AllReady.nil
          go_simp
          go_wp2_with (go_at_call 15; refine (HAC.out _ HB25.out).mono ?_; rintro e w26 ⟨v26, rfl, ho26, hbb⟩; have HB26 := hid (below_step hbb HB25.out); obtain ⟨o26, c26, rfl⟩ : ∃ o c, v26 = .slice o 0 c := (by obtain ⟨o, c, e, -⟩ := ho26.rd; exact ⟨o, c, e⟩); clear ho26 hbb)
          refine wpAny_take (i := 21) (v := ?_) rfl (by kernel_rfl) (by kernel_rfl) (by kernel_rfl) (fun _ _ _ h => h) (Or.inl ⟨by rfl, ?_⟩) ?_
          rotate_left
          · (intro w; go_simp; try with_reducible rfl)
          try go_simp
          refine wpAny_take (i := 22) (v := ?_) rfl (by kernel_rfl) (by kernel_rfl) (by kernel_rfl) (fun _ _ _ h => h) (Or.inl ⟨by rfl, ?_⟩) ?_
          rotate_left
          · (intro w; go_simp; try with_reducible rfl)
          try go_simp
          refine wpAny_take (i := 23) (v := ?_) rfl (by kernel_rfl) (by kernel_rfl) (by kernel_rfl) (fun _ _ _ h => h) (Or.inl ⟨by rfl, ?_⟩) ?_
          rotate_left
          · (intro w; go_simp; try with_reducible rfl)
          try go_simp
          refine wpAny_take (i := 24) (v := ?_) rfl (by kernel_rfl) (by kernel_rfl) (by kernel_rfl) (fun _ _ _ h => h) (Or.inl ⟨by rfl, ?_⟩) ?_
          rotate_left
          · (intro w; go_simp; try with_reducible rfl)
          try go_simp
          refine wpAny_done (by kernel_rfl) ?_ _
          go_wp2_with fail
          go_ret
          exact ⟨rfl, below_step HB26.out HBZ.out⟩
        refine AllReady.cons rfl (fun K hK => ?_) ?_
        · go_simp
          refine hK _ _ ?_; clear hK K
          refine wpAny_ready (rs := [14]) (by kernel_rfl) (by simp) ?_
          refine AllReady.cons rfl (fun K hK => ?_) AllReady.nil
          go_simp
          go_wp2_with (go_at_call 14; refine (HDI.out _ HB23.out).mono ?_; rintro e w24 ⟨x1, x2, rfl, ho1, ho2, hbb⟩; have HP1 := hid ho1.rd; have HQ1 := hid ho2.rd; have HB24 := hid (below_step hbb HB23.out); have z0 := keepc hbb z0; have z1 := keepc hbb z1; have t4 := keepc hbb t4; have t5 := keepc hbb t5; clear ho1 ho2 hbb)
          refine wpAny_ready (rs := [16]) (by kernel_rfl) (by simp) ?_
          refine AllReady.cons rfl (fun K hK => ?_) AllReady.nil
          go_simp
          go_wp2_with (go_at_call 10; refine (HSD.out _ _ _ HB24.out HP1.out HQ1.out).mono ?_; rintro e w25 ⟨rfl, hbb⟩; have HB25 := hid (below_step hbb HB24.out); clear hbb)
          refine wpAny_take (i := 17) (v := ?_) rfl (by kernel_rfl) (by kernel_rfl) (by kernel_rfl) (fun _ _ _ h => h) (Or.inl ⟨by rfl, ?_⟩) ?_
          rotate_left
          · (intro w; go_simp; try with_reducible rfl)
          try go_simp
          refine wpAny_take (i := 18) (v := ?_) rfl (by kernel_rfl) (by kernel_rfl) (by kernel_rfl) (fun _ _ _ h => h) (Or.inl ⟨by rfl, ?_⟩) ?_
          rotate_left
          · (intro w; go_simp; try with_reducible rfl)
          try go_simp
          refine wpAny_take (i := 19) (v := ?_) rfl (by kernel_rfl) (by kernel_rfl) (by kernel_rfl) (fun _ _ _ h => h) (Or.inl ⟨by rfl, ?_⟩) ?_
          rotate_left
          · (intro w; go_simp; try with_reducible rfl)
          try go_simp
          refine wpAny_ready (rs := [20]) (by kernel_rfl) (by simp) ?_
          refine AllReady.cons rfl (fun K hK => ?_) AllReady.nil
          go_simp
          go_wp2_with (go_at_call 15; refine (HAC.out _ HB25.out).mono ?_; rintro e w26 ⟨v26, rfl, ho26, hbb⟩; have HB26 := hid (below_step hbb HB25.out); obtain ⟨o26, c26, rfl⟩ : ∃ o c, v26 = .slice o 0 c := (by obtain ⟨o, c, e, -⟩ := ho26.rd; exact ⟨o, c, e⟩); clear ho26 hbb)
          refine wpAny_take (i := 21) (v := ?_) rfl (by kernel_rfl) (by kernel_rfl) (by kernel_rfl) (fun _ _ _ h => h) (Or.inl ⟨by rfl, ?_⟩) ?_
          rotate_left
          · (intro w; go_simp; try with_reducible rfl)
          try go_simp
          refine wpAny_take (i := 22) (v := ?_) rfl (by kernel_rfl) (by kernel_rfl) (by kernel_rfl) (fun _ _ _ h => h) (Or.inl ⟨by rfl, ?_⟩) ?_
          rotate_left
          · (intro w; go_simp; try with_reducible rfl)
          try go_simp
          refine wpAny_take (i := 23) (v := ?_) rfl (by kernel_rfl) (by kernel_rfl) (by kernel_rfl) (fun _ _ _ h => h) (Or.inl ⟨by rfl, ?_⟩) ?_
          rotate_left
          · (intro w; go_simp; try with_reducible rfl)
          try go_simp
          refine wpAny_take (i := 24) (v := ?_) rfl (by kernel_rfl) (by kernel_rfl) (by kernel_rfl) (fun _ _ _ h => h) (Or.inl ⟨by rfl, ?_⟩) ?_
          rotate_left
          · (intro w; go_simp; try with_reducible rfl)
          try go_simp
          refine wpAny_done (by kernel_rfl) ?_ _
          go_wp2_with fail
          go_ret
          exact ⟨rfl, below_step HB26.out HBZ.out⟩
        exact AllReady.nil
      exact AllReady.nil
    exact AllReady.nil
end Go.Proofs.YtifcgimpgbeocaaGreat
