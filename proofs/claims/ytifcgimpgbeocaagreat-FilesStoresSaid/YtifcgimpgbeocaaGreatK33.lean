/- The reference's snapshot. -/
import Derived.Test.YtifcgimpgbeocaaGreatK32
import Derived.Test.YtifcgimpgbeocaaGreatK6
import Derived.Test.YtifcgimpgbeocaaGreatK18
import Derived.Test.YtifcgimpgbeocaaGreatK11
import Derived.Test.YtifcgimpgbeocaaGreatK9
import Derived.Test.YtifcgimpgbeocaaGreatK15
import Derived.Test.YtifcgimpgbeocaaGreatK10
set_option linter.unusedVariables false
set_option linter.unusedSimpArgs false
namespace Go.Proofs.YtifcgimpgbeocaaGreat
open Go.RowKit
attribute [local go_sem] Oper.semAt_some
set_option maxHeartbeats 4000000 in
set_option maxRecDepth 100000 in
theorem rsnapshot_any (data : List Ds) (v : Value) (w : World) (hR : RdD w v data) (hl : data.length ≤ 8) (hall : AllDs data) :
    Calls Tryz.prog 56 #[v] w (fun e w' => ∃ v', e = .returned v' ∧ OO w' w.heap.size v' (snap 0 data) ∧ Below w.heap.size w w') := by
  have HALL := hid hall
  obtain ⟨oo, co, rfl, hco, hc⟩ := hR
  have HC := hid hc
  obtain ⟨M, hM⟩ : ∃ M, data.length = M := ⟨_, rfl⟩
  have HM := hid hM
  rw [hM] at hl hco ⊢
  have HO0 : Hid (OO (w.alloc (.cells #[] 55)) w.heap.size (.slice (some ⟨w.heap.size, 0, none⟩) 0 0) (snap 0 (data.take 0))) := oO_new w _ (Nat.le_refl _)
  have HB0 := hid (balloc (Below.refl w.heap.size w) (.cells #[] 55))
  obtain ⟨g, hg⟩ : ∃ g, w.heap.size = g := ⟨_, rfl⟩
  have HG := hid hg
  rw [hg] at HO0
  clear hc hall hM hg
  go_enter Tryz.func56, Tryz.ntmps56
  go_wp2_with fail
  try rw [HG.out]
  go_loopw [3, 4] (fun u i wr => ∃ k : Nat, i = .int .i64 (k : Int) ∧ k ≤ M ∧ Hid (OO wr g u (snap 0 (data.take k))) ∧ Hid (Below w.heap.size w wr)) (fun _ i _ => M - (intOf i).toNat)
  case atStart => exact ⟨0, rfl, Nat.zero_le _, HO0, HB0⟩
  case round =>
    clear HO0 HB0
    obtain ⟨k, rfl, hk, HO, HB⟩ := hrel
    by_cases hlt : k < M
    · obtain ⟨d, hd⟩ : ∃ d, data[k]? = some d := ⟨_, List.getElem?_eq_getElem (by have := HM.out; omega)⟩
      have hHC := HC.out
      rcases hHC with hc | ⟨b1, off, rfl, hbl, hc⟩
      · rw [hc] at hd; simp at hd
      obtain ⟨u, cu, hru⟩ := hc k d hd
      have HDL64 : Hid (d.length ≤ 64) := isDs_len (HALL.out d (List.mem_of_getElem? hd))
      have HSS := hid (snap_succ hd)
      obtain ⟨o2, c2, rfl, -, hc2⟩ := hru
      have HC2 := hid hc2
      obtain ⟨M2, hM2⟩ : ∃ M2, d.length = M2 := ⟨_, rfl⟩
      rw [hM2] at cu HDL64
      have HCU := hid cu
      have HM2 := hid hM2
      have hM64 : M2 ≤ 64 := HDL64.out
      have hlt64 : (k : Int) < (M : Int) := by omega
      have HO' : Hid (OO wr g u3 (snap 0 (data.take k) ++ (d.take 0).map (wrO k))) := by unfold Hid; rw [List.take_zero, List.map_nil, List.append_nil]; exact HO.out
      have HSL : Hid ((snap 0 (data.take k)).length ≤ 512) := by
        have h1 := snap_len (data.take k) 0 (fun x hx => isDs_len (HALL.out x (List.mem_of_mem_take hx)))
        have h2 : (data.take k).length ≤ 8 := by rw [List.length_take]; omega
        unfold Hid; omega
      clear hc hc2 hM2 hd HO cu
      go_wp2_with fail
      go_loopw [3, 5] (fun u i wr2 => ∃ j : Nat, i = .int .i64 (j : Int) ∧ j ≤ M2 ∧ Hid (OO wr2 g u (snap 0 (data.take k) ++ (d.take j).map (wrO k))) ∧ Hid (Below w.heap.size w wr2)) (fun _ i _ => M2 - (intOf i).toNat)
      case atStart => exact ⟨0, rfl, Nat.zero_le _, HO', HB⟩
      case round =>
        clear HO' HB
        obtain ⟨j, rfl, hj, HO2, HB2⟩ := hrel
        have cu := keepc HB2.out HCU.out
        by_cases hlt2 : j < M2
        · obtain ⟨r, hr⟩ : ∃ r, d[j]? = some r := ⟨_, List.getElem?_eq_getElem (by have := HM2.out; omega)⟩
          have hHC2 := HC2.out
          rcases hHC2 with hc | ⟨b2, off2, rfl, hbl2, hc⟩
          · rw [hc] at hr; simp at hr
          obtain ⟨q0, q1⟩ := hc j r hr
          have r0 := keepc HB2.out q0
          have r1 := keepc HB2.out q1
          have HW := hid (wr_succ (k := k) hr (snap 0 (data.take k)))
          have HLF : Hid ((snap 0 (data.take k) ++ (d.take j).map (wrO k)).length ≤ 1000000) := by
            have h1 := HSL.out
            have h2 : (d.take j).length ≤ 64 := by rw [List.length_take]; have := HM2.out; omega
            unfold Hid
            rw [List.length_append, List.length_map]
            omega
          have hlt3 : (j : Int) < (M2 : Int) := by omega
          obtain ⟨LL, hLL⟩ : ∃ LL, snap 0 (data.take k) ++ (d.take j).map (wrO k) = LL := ⟨_, rfl⟩
          rw [hLL] at HO2 HLF HW
          have hba := balloc (Below.refl wr.heap.size wr) (.cells #[.int .i64 3, .int .i64 (k : Int), strV r.1, strV r.2] 55)
          have HOY := hid (HO2.out.below hba.drew)
          have HBY := hid (below_step hba.drew HB2.out)
          have HGZ : Hid (g ≤ (wr.alloc (.cells #[.int .i64 3, .int .i64 (k : Int), strV r.1, strV r.2] 55)).drew.heap.size) := by have := HBY.out.size; have := HG.out; unfold Hid; omega
          have cua := keepc hba cu; have r0a := keepc hba r0; have r1a := keepc hba r1
          clear hLL hc hr q0 q1 hba
          go_wp2_with fail
          go_region_law (first
            | (refine step_appO (by rfl) (.tmp 22) (.tmp 41) (by rfl) g u3 LL ((3 : Int), (k : Int), r.1, r.2) wr.heap.size 1 (by simp [Act.eval, Act.put]) (by simp [Act.eval, Act.put]) HOY.out (cellsO _ _ ((3 : Int), (k : Int), r.1, r.2) (cell_new wr #[.int .i64 3, .int .i64 (k : Int), strV r.1, strV r.2] 55 0 _ rfl) (cell_new wr #[.int .i64 3, .int .i64 (k : Int), strV r.1, strV r.2] 55 1 _ rfl) (cell_new wr #[.int .i64 3, .int .i64 (k : Int), strV r.1, strV r.2] 55 2 _ rfl) (cell_new wr #[.int .i64 3, .int .i64 (k : Int), strV r.1, strV r.2] 55 3 _ rfl)) HLF.out HGZ.out ?_; intro v7 w7 hop7 hg7 hat7)
            | (fail "x"))
          all_goals
            have HO7 : Hid (OO w7 g v7 (snap 0 (data.take k) ++ (d.take (j + 1)).map (wrO k))) := by unfold Hid; rw [HW.out]; exact hop7
            have HB7 := hid (HOY.out.grown (HG.out ▸ HBY.out) hg7 HGZ.out)
            have HB7' : Hid (Below w.heap.size w w7) := by rw [HG.out]; exact HB7.out
            clear hop7 hg7 hat7 HB7
            go_wp2_with fail
            go_roundw
            case rel => exact ⟨j + 1, by go_num, by omega, HO7, HB7'⟩
            case measure => simp [intOf]; omega
        · have hjM : j = M2 := by omega
          have hge2 : ¬ (j : Int) < (M2 : Int) := by omega
          have HO4 : Hid (OO wr g u3 (snap 0 (data.take (k + 1)))) := by
            have h1 := HO2.out
            rw [hjM, List.take_of_length_le (l := d) (by have := HM2.out; omega)] at h1
            rw [HSS.out]
            exact h1
          clear HO2
          go_wp2_with fail
          go_roundw
          case rel => exact ⟨k + 1, by go_num, by omega, HO4, HB2⟩
          case measure => simp [intOf]; omega
    · have hkM : k = M := by omega
      have hge : ¬ (k : Int) < (M : Int) := by omega
      have HO4 : Hid (OO wr w.heap.size u3 (snap 0 data)) := by
        have h1 := HO.out
        rw [hkM, List.take_of_length_le (by have := HM.out; omega)] at h1
        rw [HG.out]
        exact h1
      go_wp2_with fail
      go_ret
      exact ⟨_, rfl, HO4.out, HB.out⟩
end Go.Proofs.YtifcgimpgbeocaaGreat
/- The reference's Undo. -/
set_option linter.unusedVariables false
set_option linter.unusedSimpArgs false
namespace Go.Proofs.YtifcgimpgbeocaaGreat
open Go.RowKit
attribute [local go_sem] Oper.semAt_some
/-- A call of the reference that returns the state st. -/
def RetSt (U : Nat → Prop) (st : St) (w : World) (e : Ending) (w' : World) : Prop := ∃ v, e = .returned v ∧ KSt U w' v st ∧ Below w.heap.size w w'
set_option maxHeartbeats 4000000 in
set_option maxRecDepth 100000 in
theorem rundo_any (U : Nat → Prop) (st : St) (v : Value) (w : World) (hU : ∀ k, U k → k < w.heap.size) (hS : KSt U w v st) : Calls Tryz.prog 23 #[v] w (RetSt U (undoD st) w) := by
  obtain ⟨vk, vn, vo, vp, vq, va, rfl, k1, k2, k3, k4, k5, k6⟩ := hS
  have Q1 := hid k1; have Q2 := hid k2; have Q3 := hid k3; have Q4 := hid k4; have Q5 := hid k5; have Q6 := hid k6
  obtain ⟨ok, ck, hvk, -, -⟩ := k1.now
  obtain ⟨on, cn, hvn, -, -⟩ := k2.now
  obtain ⟨oo, co, hvo, -, -⟩ := k3.now
  obtain ⟨op, cp, hvp, -, -⟩ := k4.now
  obtain ⟨oq, cq, hvq, -, -⟩ := k5.now
  obtain ⟨oa, ca, hva, -, -⟩ := k6.now
  obtain ⟨nk, hnk⟩ : ∃ n, st.kept.length = n := ⟨_, rfl⟩
  obtain ⟨nn, hnn⟩ : ∃ n, st.now.length = n := ⟨_, rfl⟩
  obtain ⟨no, hno⟩ : ∃ n, st.ops.length = n := ⟨_, rfl⟩
  obtain ⟨np, hnp⟩ : ∃ n, st.dk.1.length = n := ⟨_, rfl⟩
  obtain ⟨nq, hnq⟩ : ∃ n, st.dk.2.length = n := ⟨_, rfl⟩
  obtain ⟨na, hna⟩ : ∃ n, st.acts.length = n := ⟨_, rfl⟩
  rw [hnk] at hvk; rw [hnn] at hvn; rw [hno] at hvo; rw [hnp] at hvp; rw [hnq] at hvq; rw [hna] at hva
  have NK := hid hnk; have NN := hid hnn; have NO := hid hno; have NP := hid hnp; have NQ := hid hnq; have NA := hid hna
  subst hvk; subst hvn; subst hvo; subst hvp; subst hvq; subst hva
  obtain ⟨hd, hhd⟩ : ∃ x, st.hd = x := ⟨_, rfl⟩
  rw [hhd]
  have HHD := hid hhd
  clear k1 k2 k3 k4 k5 k6 hnk hnn hno hnp hnq hna hhd
  obtain ⟨W0, hW0⟩ : ∃ x, x = w.alloc (.cells #[.int .i64 hd.1, .int .i64 hd.2.1, .int .i64 hd.2.2.1, .int .i64 hd.2.2.2, .slice ok nk ck, .slice on nn cn, .slice oo no co, .slice op np cp, .slice oq nq cq, .slice oa na ca] 39) := ⟨_, rfl⟩
  have hbW0 : Below w.heap.size w W0 := by rw [hW0]; exact balloc (Below.refl _ _) _
  have hzW0 : W0.heap.size = w.heap.size + 1 := by rw [hW0]; simp
  have hcW0 : StC W0 w.heap.size hd (.slice ok nk ck) (.slice on nn cn) (.slice oo no co) (.slice op np cp) (.slice oq nq cq) (.slice oa na ca) := by rw [hW0]; exact StC.new _ _ _ _ _ _ _ _
  have hoW0 : ∀ k, k < 10 → OwnC W0 ⟨w.heap.size, k, none⟩ := by rw [hW0]; exact own_newN w _ _ 10 (by simp)
  obtain ⟨W1, hW1⟩ : ∃ x, x = W0.alloc (.cells #[.int .i64 0, .int .i64 0, .int .i64 0, .int .i64 0, nilS, nilS, nilS, nilS, nilS, nilS] 39) := ⟨_, rfl⟩
  have hbW1 : Below W0.heap.size W0 W1 := by rw [hW1]; exact balloc (Below.refl _ _) _
  have hzW1 : W1.heap.size = W0.heap.size + 1 := by rw [hW1]; simp
  have hoW1 : ∀ k, k < 10 → OwnC W1 ⟨W0.heap.size, k, none⟩ := by rw [hW1]; exact own_newN W0 _ _ 10 (by simp)
  have HC := hid (hcW0.below hbW1); have HO0 := hid (fun k hk => keepOwn hbW1 (hoW0 k hk)); rw [hzW0] at hoW1; have HO1 := hid hoW1
  have HB := hid (below_step hbW1 hbW0)
  have HW0 := hid hW0; have HW1 := hid hW1
  have HZ0 := hid hzW0
  obtain ⟨Z, hZ⟩ : ∃ x, w.heap.size = x := ⟨_, rfl⟩
  have HZ := hid hZ
  rw [hZ] at HC HO0 HO1 HZ0
  clear hW0 hW1 hbW0 hbW1 hzW0 hzW1 hcW0 hoW0 hoW1 hZ
  go_enter Tryz.func23, Tryz.ntmps23
  go_upto_region 1 with fail
  have e := HW0.out
  simp only [← e]
  have e2 := HW1.out
  simp only [← e2]
  clear e e2 HW0 HW1
  try rw [HZ0.out]
  try rw [HZ.out]
  obtain ⟨k0, k1, k2, k3, k4, k5, k6, k7, k8, k9⟩ := HC.out
  obtain ⟨⟨yv0, y0⟩, f0⟩ := HO1.out 0 (by decide)
  obtain ⟨⟨yv1, y1⟩, f1⟩ := HO1.out 1 (by decide)
  obtain ⟨⟨yv2, y2⟩, f2⟩ := HO1.out 2 (by decide)
  obtain ⟨⟨yv3, y3⟩, f3⟩ := HO1.out 3 (by decide)
  obtain ⟨⟨yv4, y4⟩, f4⟩ := HO1.out 4 (by decide)
  obtain ⟨⟨yv5, y5⟩, f5⟩ := HO1.out 5 (by decide)
  obtain ⟨⟨yv6, y6⟩, f6⟩ := HO1.out 6 (by decide)
  obtain ⟨⟨yv7, y7⟩, f7⟩ := HO1.out 7 (by decide)
  obtain ⟨⟨yv8, y8⟩, f8⟩ := HO1.out 8 (by decide)
  obtain ⟨⟨yv9, y9⟩, f9⟩ := HO1.out 9 (by decide)
  have g5 := (HO0.out 5 (by decide)).2; have g6 := (HO0.out 6 (by decide)).2
  have hz := World.block_lt_of_cell? _ _ y0
  have hle : w.heap.size ≤ Z := by have := HZ.out; omega
  have hle2 : w.heap.size ≤ Z + 1 := by omega
  go_wp2_with fail
  have hb9 := setSt_below ((HB.out.setCell (p := ⟨Z, 5, none⟩) hle (.slice ok nk ck)).setCell (p := ⟨Z, 6, none⟩) hle nilS) hle2 hd (.slice ok nk ck) (.slice ok nk ck) nilS (.slice op np cp) (.slice oq nq cq) (.slice oa na ca)
  exact bodyPost_ret (v := stV hd (.slice ok nk ck) (.slice ok nk ck) nilS (.slice op np cp) (.slice oq nq cq) (.slice oa na ca)) (by simp [results, Tryz.results23, go_sem, y0, y1, y2, y3, y4, y5, y6, y7, y8, y9, hz]) rfl
    ⟨_, rfl, ⟨_, _, _, _, _, _, by show _ = stV st.hd _ _ _ _ _ _; rw [HHD.out], Q1.out.below hb9, Q1.out.below hb9, fun x _ => rdO_nil x, Q4.out.below hb9, Q5.out.below hb9, Q6.out.below hb9⟩, hb9⟩
end Go.Proofs.YtifcgimpgbeocaaGreat
/- The reference's cut, Crash. -/
set_option linter.unusedVariables false
set_option linter.unusedSimpArgs false
namespace Go.Proofs.YtifcgimpgbeocaaGreat
open Go.RowKit
attribute [local go_sem] Oper.semAt_some
theorem cutAt_none {cuts : List Int} {k : Nat} (h : cuts.length ≤ k) : cutAt cuts k = 0 := by unfold cutAt; rw [List.getElem?_eq_none h]
theorem cutAt_some {cuts : List Int} {k : Nat} {c : Int} (h : cuts[k]? = some c) : cutAt cuts k = clamp c := by unfold cutAt; rw [h]
set_option maxHeartbeats 2000000 in
set_option maxRecDepth 100000 in
theorem rcut_any (cuts : List Int) (vc : Value) (k : Nat) (w : World) (hc : RdI w vc cuts) (hl : cuts.length ≤ maxLen) (hk : k ≤ 1000000000) :
    Calls Tryz.prog 129 #[vc, .int .i64 (k : Int)] w (Ret (.int .i64 ((cutAt cuts k : Nat) : Int)) w) := by
  obtain ⟨o, cap, rfl, hcap, hcc⟩ := hc
  obtain ⟨M, hM⟩ : ∃ M, cuts.length = M := ⟨_, rfl⟩
  have HM := hid hM
  rw [hM] at hcap hl ⊢
  by_cases hkM : M ≤ k
  · have e : cutAt cuts k = 0 := cutAt_none (by omega)
    rw [e]
    have g : decide ((M : Int) ≤ (k : Int)) = true := by simp; omega
    have hkM' : (M : Int) ≤ (k : Int) := by omega
    clear hcc hM e
    go_enter Tryz.func129, Tryz.ntmps129
    go_wp2_with fail
    go_ret
    exact ⟨rfl, Below.refl _ _⟩
  obtain ⟨c, hcx⟩ : ∃ c, cuts[k]? = some c := ⟨_, List.getElem?_eq_getElem (by omega)⟩
  have HE := hid (cutAt_some hcx)
  have g : ¬ (M : Int) ≤ (k : Int) := by omega
  have g2 : ¬ M ≤ k := hkM
  have hlt : (k : Int) < (M : Int) := by omega
  rcases hcc with hq | ⟨b, off, rfl, hb, hq⟩
  · rw [hq] at hcx; simp at hcx
  have c0 := hq k c hcx
  by_cases h0 : c < 0
  · have r0 : decide (c < 0) = true := by simpa using h0
    have e : cutAt cuts k = 0 := by rw [HE.out]; unfold clamp; omega
    rw [e]
    clear hq hcx hM e HE
    go_enter Tryz.func129, Tryz.ntmps129
    go_wp2_with fail
    go_ret
    exact ⟨rfl, Below.refl _ _⟩
  have r0 : decide (c < 0) = false := by simpa using h0
  by_cases h64 : c ≤ 64
  · have e : ((cutAt cuts k : Nat) : Int) = c := by rw [HE.out]; unfold clamp; omega
    rw [e]
    have hmin : min c 64 = c := by omega
    clear hq hcx hM e HE
    go_enter Tryz.func129, Tryz.ntmps129
    go_wp2_with fail
    go_ret
    exact ⟨by first | rfl | (simp; omega), Below.refl _ _⟩
  · have e : ((cutAt cuts k : Nat) : Int) = 64 := by rw [HE.out]; unfold clamp; omega
    rw [e]
    have hmin : min c 64 = 64 := by omega
    clear hq hcx hM e HE
    go_enter Tryz.func129, Tryz.ntmps129
    go_wp2_with fail
    go_ret
    exact ⟨by first | rfl | (simp; omega), Below.refl _ _⟩
end Go.Proofs.YtifcgimpgbeocaaGreat
/- Crash, ReadPage. -/
set_option linter.unusedVariables false
set_option linter.unusedSimpArgs false
namespace Go.Proofs.YtifcgimpgbeocaaGreat
open Go.RowKit
attribute [local go_sem] Oper.semAt_some
end Go.Proofs.YtifcgimpgbeocaaGreat
