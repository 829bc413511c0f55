/- The reference's CheckDisk. -/
import Derived.Test.YtifcgimpgbeocaaK6
import Derived.Test.YtifcgimpgbeocaaK1
import Derived.Test.YtifcgimpgbeocaaK4
import Derived.Test.YtifcgimpgbeocaaK33
import Derived.Test.YtifcgimpgbeocaaK9
import Derived.Test.YtifcgimpgbeocaaK14
set_option linter.unusedVariables false
set_option linter.unusedSimpArgs false
namespace Go.Proofs.Ytifcgimpgbeocaa
open Go.RowKit
attribute [local go_sem] Oper.semAt_some
def chkD (d : Dk) : Int := if isDk d = true then 0 else 142
theorem all_succ {α : Type} {p : α → Bool} {l : List α} {k : Nat} {x : α} (h : l[k]? = some x) (ha : (l.take k).all p = true) (hx : p x = true) : (l.take (k + 1)).all p = true := by
  rw [List.take_add_one, h, List.all_append, ha]
  simp [hx]
theorem chkD_len {d : Dk} (h : ¬ (4 ≤ d.1.length ∧ d.1.length ≤ 4096)) : chkD d = 142 := by
  unfold chkD isDk
  rw [decide_eq_false h]
  rfl
theorem chkD_pg {d : Dk} {k : Nat} {x : Bs} (h : d.1[k]? = some x) (hx : isPg x = false) : chkD d = 142 := by
  unfold chkD
  rw [if_neg]
  intro hd
  have := isDk_page hd h
  unfold isPg at hx
  simp at hx
  exact hx this
theorem chkD_wt {d : Dk} {k : Nat} {x : Wt} (h : d.2[k]? = some x) (hx : ¬ (0 ≤ x.1 ∧ x.1 < (d.1.length : Int) ∧ x.2.length = 64)) : chkD d = 142 := by
  unfold chkD
  rw [if_neg]
  exact fun hd => hx (isDk_wait hd (List.mem_of_getElem? h))
theorem chkD_ok {d : Dk} (h1 : 4 ≤ d.1.length ∧ d.1.length ≤ 4096) (h2 : d.1.all isPg = true) (h3 : d.2.all (isWt d.1.length) = true) : chkD d = 0 := by
  unfold chkD isDk
  rw [h2, h3, decide_eq_true h1]
  rfl
set_option maxHeartbeats 4000000 in
set_option maxRecDepth 100000 in
theorem rcheckdisk_any (d : Dk) (vp vq : Value) (w : World) (hp : RdS w vp d.1) (hq : RdW w vq d.2) (hl1 : d.1.length ≤ 1000000000) (hl2 : d.2.length ≤ 1000000000) :
    Calls Try.prog 71 #[.agg #[vp, vq]] w (Ret (.int .i64 (chkD d)) w) := by
  obtain ⟨o1, c1, rfl, hc1, h1⟩ := hp
  obtain ⟨o2, c2, rfl, hc2, h2⟩ := hq
  have H1 := hid h1; have H2 := hid h2
  have HL := hid (chkD_len (d := d)); have HPG := hid (fun k x h hx => chkD_pg (d := d) (k := k) (x := x) h hx); have HWT := hid (fun k x h hx => chkD_wt (d := d) (k := k) (x := x) h hx); have HOK := hid (chkD_ok (d := d))
  obtain ⟨E, hE⟩ : ∃ E, chkD d = E := ⟨_, rfl⟩
  simp only [hE] at HL HPG HWT HOK ⊢
  obtain ⟨N, hN⟩ : ∃ N, d.1.length = N := ⟨_, rfl⟩
  obtain ⟨M, hM⟩ : ∃ M, d.2.length = M := ⟨_, rfl⟩
  simp only [hN] at hl1 hc1 HL HWT HOK ⊢
  rw [hM] at hl2 hc2 ⊢
  have HN := hid hN; have HM := hid hM
  obtain ⟨W, hW⟩ : ∃ W, W = w.alloc (.cells #[.slice o1 N c1, .slice o2 M c2] 27) := ⟨_, rfl⟩
  have HBW : Hid (Below w.heap.size w W) := by rw [hW]; exact balloc (Below.refl _ _) _
  have a0 : W.cell? ⟨w.heap.size, 0, none⟩ = some (.slice o1 N c1) := by rw [hW]; exact cell_new _ _ _ 0 _ rfl
  have a1 : W.cell? ⟨w.heap.size, 1, none⟩ = some (.slice o2 M c2) := by rw [hW]; exact cell_new _ _ _ 1 _ rfl
  have HW := hid hW
  clear hW h1 h2 hN hM hE
  go_enter Try.func71, Try.ntmps71
  go_upto_region 1 with fail
  have e := HW.out
  rw [← e]
  clear e HW
  obtain ⟨Z, hZ⟩ : ∃ Z, w.heap.size = Z := ⟨_, rfl⟩
  simp only [hZ] at a0 a1 ⊢
  clear hZ
  have A0 := hid a0; have A1 := hid a1
  by_cases g1 : N < 4
  · have g : decide ((N : Int) < 4) = true := by simp; omega
    have hEE : E = 142 := HL.out (by omega)
    subst hEE
    go_wp2_with fail
    go_ret
    exact ⟨rfl, HBW.out⟩
  have g : decide ((N : Int) < 4) = false := by simp; omega
  by_cases g2 : 4096 < N
  · have g' : decide (4096 < (N : Int)) = true := by simp; omega
    have hEE : E = 142 := HL.out (by omega)
    subst hEE
    go_wp2_with fail
    go_ret
    exact ⟨rfl, HBW.out⟩
  have g' : decide (4096 < (N : Int)) = false := by simp; omega
  have h0 : Hid ((d.1.take 0).all isPg = true) := rfl
  have h0' : Hid ((d.2.take 0).all (isWt N) = true) := rfl
  go_wp2_with fail
  go_loopw [3] (fun i wr => ∃ k : Nat, i = .int .i64 (k : Int) ∧ k ≤ N ∧ Hid ((d.1.take k).all isPg = true) ∧ Hid (Below W.heap.size W wr)) (fun i _ => N - (intOf i).toNat)
  case atStart => exact ⟨0, rfl, Nat.zero_le _, h0, Below.refl _ _⟩
  case round =>
    clear h0
    obtain ⟨k, rfl, hk, HA, HB⟩ := hrel
    have a0 := keepc HB.out A0.out; have a1 := keepc HB.out A1.out
    by_cases hlt : k < N
    · obtain ⟨x, hx⟩ : ∃ r, d.1[k]? = some r := ⟨_, List.getElem?_eq_getElem (by have := HN.out; omega)⟩
      have hP := H1.out
      rcases hP with hq | ⟨e1, f1, rfl, -, hP⟩
      · rw [hq] at hx; simp at hx
      have x0 := keepc (below_step HB.out HBW.out) (hP k x hx)
      have hlti : (k : Int) < (N : Int) := by omega
      obtain ⟨n, hn⟩ : ∃ n, x.length = n := ⟨_, rfl⟩
      by_cases h64 : n = 64
      · have HA2 := hid (all_succ hx HA.out (by unfold isPg; rw [hn, h64]; rfl))
        have g3 : ((n : Int) == 64) = true := by simp [h64]
        clear hP hx a1
        go_wp2_with fail
        go_roundw
        case rel => exact ⟨k + 1, by go_num, by omega, HA2, HB⟩
        case measure => simp [intOf]; omega
      · have hEE : E = 142 := HPG.out k x hx (by unfold isPg; rw [hn]; simpa using h64)
        have g3 : ((n : Int) == 64) = false := by rw [beq_eq_false_iff_ne]; omega
        subst hEE
        clear hP hx a1
        go_wp2_with fail
        go_ret
        exact ⟨rfl, below_step HB.out HBW.out⟩
    · have hge : ¬ (k : Int) < (N : Int) := by omega
      have HPA : Hid (d.1.all isPg = true) := by have h := HA.out; rw [List.take_of_length_le (by have := HN.out; omega)] at h; exact h
      have HB1 := HB
      clear HB HA
      obtain ⟨W1, hW1⟩ : ∃ W1, W1 = wr := ⟨_, rfl⟩
      subst hW1
      go_wp2_with fail
      go_loopw [4] (fun i wr => ∃ k : Nat, i = .int .i64 (k : Int) ∧ k ≤ M ∧ Hid ((d.2.take k).all (isWt N) = true) ∧ Hid (Below W.heap.size W wr)) (fun i _ => M - (intOf i).toNat)
      case atStart => exact ⟨0, rfl, Nat.zero_le _, h0', HB1⟩
      case round =>
        clear h0'
        obtain ⟨k, rfl, hk, HA, HB⟩ := hrel
        have a0 := keepc HB.out A0.out; have a1 := keepc HB.out A1.out
        have HBD := hid (fun n => below_step (below_drewN HB.out n) HBW.out)
        by_cases hlt : k < M
        · obtain ⟨⟨xp, xs⟩, hx⟩ : ∃ r, d.2[k]? = some r := ⟨_, List.getElem?_eq_getElem (by have := HM.out; omega)⟩
          have hP := H2.out
          rcases hP with hq | ⟨e1, f1, rfl, -, hP⟩
          · rw [hq] at hx; simp at hx
          obtain ⟨x0, x1⟩ := hP k _ hx
          have x0 := keepc (below_step HB.out HBW.out) x0; have x1 := keepc (below_step HB.out HBW.out) x1
          have hlti : (k : Int) < (M : Int) := by omega
          obtain ⟨n, hn⟩ : ∃ n, xs.length = n := ⟨_, rfl⟩
          by_cases q1 : xp < 0
          · have hEE : E = 142 := HWT.out k _ hx (by simp only; omega)
            have r1 : decide (xp < 0) = true := by simpa using q1
            subst hEE
            clear hP hx q1
            go_wp2_with fail
            go_quiet (fail)
            go_wp2_with fail
            go_ret
            exact ⟨rfl, HBD.out _⟩
          have r1 : decide (xp < 0) = false := by simpa using q1
          by_cases q2 : (N : Int) ≤ xp
          · have hEE : E = 142 := HWT.out k _ hx (by simp only; omega)
            have r2 : decide ((N : Int) ≤ xp) = true := by simpa using q2
            subst hEE
            clear hP hx q1 q2
            go_wp2_with fail
            go_quiet (fail)
            go_wp2_with fail
            go_ret
            exact ⟨rfl, HBD.out _⟩
          have r2 : decide ((N : Int) ≤ xp) = false := by simpa using q2
          by_cases h64 : n = 64
          · have HA2 := hid (all_succ hx HA.out (by unfold isWt; rw [hn, h64]; simp; omega))
            have g3 : ((n : Int) == 64) = true := by simp [h64]
            clear hP hx q1 q2
            go_wp2_with fail
            go_quiet (fail)
            go_wp2_with fail
            go_roundw
            case rel => exact ⟨k + 1, by go_num, by omega, HA2, below_drewN HB.out _⟩
            case measure => simp [intOf]; omega
          · have hEE : E = 142 := HWT.out k _ hx (by simp only; rw [hn]; omega)
            have g3 : ((n : Int) == 64) = false := by rw [beq_eq_false_iff_ne]; omega
            subst hEE
            clear hP hx q1 q2
            go_wp2_with fail
            go_quiet (fail)
            go_wp2_with fail
            go_ret
            exact ⟨rfl, HBD.out _⟩
        · have hge : ¬ (k : Int) < (M : Int) := by omega
          have hEE : E = 0 := HOK.out (by omega) HPA.out (by have h := HA.out; rw [List.take_of_length_le (by have := HM.out; omega)] at h; exact h)
          subst hEE
          go_wp2_with fail
          go_ret
          exact ⟨rfl, below_step HB.out HBW.out⟩
end Go.Proofs.Ytifcgimpgbeocaa
/- The reference's page, ReadPage. -/
set_option linter.unusedVariables false
set_option linter.unusedSimpArgs false
namespace Go.Proofs.Ytifcgimpgbeocaa
open Go.RowKit
attribute [local go_sem] Oper.semAt_some
def wrtTo (d : Dk) (p k : Nat) : Bs := (d.2.take k).foldl (fun s w => if w.1 = (p : Int) then w.2 else s) ((d.1[p]?).getD [])
theorem wrtTo_succ {d : Dk} {p k : Nat} {x : Wt} (h : d.2[k]? = some x) : wrtTo d p (k + 1) = if x.1 = (p : Int) then x.2 else wrtTo d p k := by
  unfold wrtTo
  rw [List.take_add_one, h, List.foldl_append]
  rfl
theorem wrtTo_all (d : Dk) (p : Nat) : wrtTo d p d.2.length = wrt d p := by
  unfold wrtTo wrt
  rw [List.take_length]
set_option maxHeartbeats 4000000 in
set_option maxRecDepth 100000 in
theorem rpage_any (d : Dk) (vp vq : Value) (p : Nat) (w : World) (hp : RdS w vp d.1) (hq : RdW w vq d.2) (hpl : p < d.1.length) (hl1 : d.1.length ≤ 4096) (hl2 : d.2.length ≤ 1000000000) :
    Calls Try.prog 113 #[.agg #[vp, vq], .int .i64 (p : Int)] w (Ret (strV (wrt d p)) w) := by
  obtain ⟨o1, c1, rfl, hc1, h1⟩ := hp
  obtain ⟨o2, c2, rfl, hc2, h2⟩ := hq
  obtain ⟨s0, hs0⟩ : ∃ s, d.1[p]? = some s := ⟨_, List.getElem?_eq_getElem hpl⟩
  have HT0 : Hid (wrtTo d p 0 = s0) := by unfold Hid wrtTo; rw [hs0]; rfl
  have HTA := hid (wrtTo_all d p)
  obtain ⟨E, hE⟩ : ∃ E, wrt d p = E := ⟨_, rfl⟩
  rw [hE] at HTA ⊢
  obtain ⟨N, hN⟩ : ∃ N, d.1.length = N := ⟨_, rfl⟩
  obtain ⟨M, hM⟩ : ∃ M, d.2.length = M := ⟨_, rfl⟩
  rw [hN] at hl1 hc1 hpl ⊢
  rw [hM] at hl2 hc2 HTA ⊢
  have HM := hid hM
  have H2 := hid h2
  rcases h1 with hq | ⟨e1, f1, rfl, -, h1⟩
  · rw [hq] at hs0; simp at hs0
  have S0 := hid (h1 p s0 hs0)
  obtain ⟨W, hW⟩ : ∃ W, W = w.alloc (.cells #[.slice (some ⟨e1, f1, none⟩) N c1, .slice o2 M c2] 27) := ⟨_, rfl⟩
  have HBW : Hid (Below w.heap.size w W) := by rw [hW]; exact balloc (Below.refl _ _) _
  have a0 : W.cell? ⟨w.heap.size, 0, none⟩ = some (.slice (some ⟨e1, f1, none⟩) N c1) := by rw [hW]; exact cell_new _ _ _ 0 _ rfl
  have a1 : W.cell? ⟨w.heap.size, 1, none⟩ = some (.slice o2 M c2) := by rw [hW]; exact cell_new _ _ _ 1 _ rfl
  have s0c := keepc HBW.out S0.out
  have HW := hid hW
  have hpli : (p : Int) < (N : Int) := by omega
  clear hW h1 h2 hN hM hE hs0
  go_enter Try.func113, Try.ntmps113
  go_upto_region 1 with fail
  have e := HW.out
  rw [← e]
  clear e HW
  obtain ⟨Z, hZ⟩ : ∃ Z, w.heap.size = Z := ⟨_, rfl⟩
  simp only [hZ] at a0 a1 ⊢
  clear hZ
  have A1 := hid a1
  go_wp2_with fail
  go_loopw [5, 6] (fun u i wr => ∃ k : Nat, i = .int .i64 (k : Int) ∧ k ≤ M ∧ u = strV (wrtTo d p k) ∧ Hid (Below W.heap.size W wr)) (fun _ i _ => M - (intOf i).toNat)
  case atStart => exact ⟨0, rfl, Nat.zero_le _, by rw [HT0.out], Below.refl _ _⟩
  case round =>
    clear HT0
    obtain ⟨k, rfl, hk, rfl, HB⟩ := hrel
    have a1 := keepc HB.out A1.out
    by_cases hlt : k < M
    · obtain ⟨⟨xp, xs⟩, hx⟩ : ∃ r, d.2[k]? = some r := ⟨_, List.getElem?_eq_getElem (by have := HM.out; omega)⟩
      have hP := H2.out
      rcases hP with hq | ⟨e2, f2, rfl, -, hP⟩
      · rw [hq] at hx; simp at hx
      obtain ⟨x0, x1⟩ := hP k _ hx
      have x0 := keepc (below_step HB.out HBW.out) x0; have x1 := keepc (below_step HB.out HBW.out) x1
      have hlti : (k : Int) < (M : Int) := by omega
      have HST := hid (wrtTo_succ (p := p) hx)
      obtain ⟨Q, hQ⟩ : ∃ Q, wrtTo d p k = Q := ⟨_, rfl⟩
      have HQ := hid hQ
      rw [hQ]
      clear hQ hP hx
      by_cases hpp : xp = (p : Int)
      · have g : (xp == (p : Int)) = true := by simpa using hpp
        have HS2 : Hid (wrtTo d p (k + 1) = xs) := by unfold Hid; rw [HST.out, if_pos hpp]
        clear hpp HST
        go_wp2_with fail
        go_roundw
        case rel => exact ⟨k + 1, by go_num, by omega, by rw [HS2.out], HB⟩
        case measure => simp [intOf]; omega
      · have g : (xp == (p : Int)) = false := by simpa using hpp
        have HS2 : Hid (wrtTo d p (k + 1) = Q) := by unfold Hid; rw [HST.out, if_neg hpp, HQ.out]
        clear hpp HST
        go_wp2_with fail
        go_roundw
        case rel => exact ⟨k + 1, by go_num, by omega, by rw [HS2.out], HB⟩
        case measure => simp [intOf]; omega
    · have hge : ¬ (k : Int) < (M : Int) := by omega
      have hkM : k = M := by omega
      rw [hkM, HTA.out]
      clear hkM
      go_wp2_with fail
      go_ret
      exact ⟨rfl, below_step HB.out HBW.out⟩
set_option maxHeartbeats 4000000 in
set_option maxRecDepth 100000 in
theorem rreadpage_any (d : Dk) (vp vq : Value) (p : Int) (w : World) (hp : RdS w vp d.1) (hq : RdW w vq d.2) (hl1 : d.1.length ≤ 1000000000) (hl2 : d.2.length ≤ 1000000000) :
    Calls Try.prog 66 #[.agg #[vp, vq], .int .i64 p] w (Ret (.tuple #[strV (readPg d p).1, .int .i64 (readPg d p).2]) w) := by
  have HCK := hid (fun w' (hb : Below w.heap.size w w') => rcheckdisk_any d vp vq w' (hp.below hb) (hq.below hb) hl1 hl2)
  have HPG := hid (fun (pn : Nat) (h : pn < d.1.length) (h4 : d.1.length ≤ 4096) w' (hb : Below w.heap.size w w') => rpage_any d vp vq pn w' (hp.below hb) (hq.below hb) h h4 hl2)
  obtain ⟨o1, c1, rfl, hc1, -⟩ := hp
  obtain ⟨o2, c2, rfl, hc2, -⟩ := hq
  obtain ⟨N, hN⟩ : ∃ N, d.1.length = N := ⟨_, rfl⟩
  obtain ⟨M, hM⟩ : ∃ M, d.2.length = M := ⟨_, rfl⟩
  have hrp : readPg d p = if isDk d = true then (if 0 ≤ p ∧ p < (N : Int) then (wrt d p.toNat, 0) else ([], 1)) else ([], 142) := by unfold readPg; rw [hN]
  simp only [hN] at HCK HPG hl1 hc1 ⊢
  rw [hM] at hl2 hc2
  simp only [hM] at HCK HPG ⊢
  obtain ⟨W, hW⟩ : ∃ W, W = w.alloc (.cells #[.slice o1 N c1, .slice o2 M c2] 27) := ⟨_, rfl⟩
  have HBW : Hid (Below w.heap.size w W) := by rw [hW]; exact balloc (Below.refl _ _) _
  have a0 : W.cell? ⟨w.heap.size, 0, none⟩ = some (.slice o1 N c1) := by rw [hW]; exact cell_new _ _ _ 0 _ rfl
  have a1 : W.cell? ⟨w.heap.size, 1, none⟩ = some (.slice o2 M c2) := by rw [hW]; exact cell_new _ _ _ 1 _ rfl
  have HW := hid hW
  have A0 := hid a0; have A1 := hid a1
  cases hd : isDk d with
  | false =>
    have hr : readPg d p = ([], 142) := by rw [hrp, hd]; rfl
    rw [hr]
    have hck : chkD d = 142 := by unfold chkD; rw [hd]; rfl
    rw [hck] at HCK
    clear hrp hr hck hd hW hN hM HPG
    go_enter Try.func66, Try.ntmps66
    go_upto_region 1 with fail
    have e := HW.out
    rw [← e]
    clear e HW
    go_wp2_with fail
    refine (HCK.out _ HBW.out).mono ?_
    rintro e w1 ⟨rfl, hb1⟩
    have HB1 := hid (below_step hb1 HBW.out)
    clear hb1
    go_wp2_with fail
    go_ret2
    exact ⟨rfl, HB1.out⟩
  | true =>
    have hdl := isDk_len hd
    rw [hN] at hdl
    have hck : chkD d = 0 := by unfold chkD; rw [hd]; rfl
    rw [hck] at HCK
    rw [hd, if_pos rfl] at hrp
    have HRP := hid hrp
    clear hck hd hW hM hrp hN
    go_enter Try.func66, Try.ntmps66
    go_upto_region 1 with fail
    have e := HW.out
    rw [← e]
    clear e HW
    obtain ⟨Z, hZ⟩ : ∃ Z, w.heap.size = Z := ⟨_, rfl⟩
    simp only [hZ] at a0 a1 A0 A1 ⊢
    have HZ := hid hZ
    clear hZ
    go_wp2_with fail
    refine (HCK.out _ HBW.out).mono ?_
    rintro e w1 ⟨rfl, hb1⟩
    have a0 := keepc hb1 A0.out; have a1 := keepc hb1 A1.out
    have HB1 := hid (below_step hb1 HBW.out)
    clear hb1
    by_cases q1 : p < 0
    · have r1 : decide (p < 0) = true := by simpa using q1
      have hr : readPg d p = ([], 1) := by rw [HRP.out, if_neg (by omega)]
      have HR := hid hr
      clear hr q1
      go_wp2_with fail
      go_ret2
      rw [HR.out]
      exact ⟨rfl, HB1.out⟩
    have r1 : decide (p < 0) = false := by simpa using q1
    by_cases q2 : (N : Int) ≤ p
    · have r2 : decide ((N : Int) ≤ p) = true := by simpa using q2
      have hr : readPg d p = ([], 1) := by rw [HRP.out, if_neg (by omega)]
      have HR := hid hr
      clear hr q1 q2
      go_wp2_with fail
      go_ret2
      rw [HR.out]
      exact ⟨rfl, HB1.out⟩
    have r2 : decide ((N : Int) ≤ p) = false := by simpa using q2
    obtain ⟨pn, rfl⟩ : ∃ pn : Nat, p = (pn : Int) := ⟨p.toNat, by omega⟩
    have r3 : ¬ N ≤ pn := by omega
    have hr : readPg d (pn : Int) = (wrt d pn, 0) := by rw [HRP.out, if_pos (by omega)]; rfl
    have HR := hid hr
    have HP2 := hid (HPG.out pn (by omega) hdl.2 w1 HB1.out)
    clear hr q1 q2
    go_wp2_with fail
    refine HP2.out.mono ?_
    rintro e w2 ⟨rfl, hb2⟩
    have HB2 := hid (below_step hb2 HB1.out)
    clear hb2
    go_wp2_with fail
    go_ret2
    rw [HR.out]
    exact ⟨rfl, HB2.out⟩
end Go.Proofs.Ytifcgimpgbeocaa
/- A disk under way in two cells, beside a result's two cells. -/
set_option linter.unusedVariables false
set_option linter.unusedSimpArgs false
namespace Go.Proofs.Ytifcgimpgbeocaa
open Go.RowKit
/-- Since w0: the result's cells in R, the disk's in D (its slices v1, v2, which lie beyond D). -/
structure LD (w0 : World) (R D : Nat) (v1 v2 : Value) (p : List Bs) (q : List Wt) (w : World) : Prop where
  b : Below w0.heap.size w0 w
  rge : w0.heap.size ≤ R
  dge : w0.heap.size ≤ D
  rd : R < D
  r0 : OwnC w ⟨R, 0, none⟩
  r1 : OwnC w ⟨R, 1, none⟩
  d0 : w.cell? ⟨D, 0, none⟩ = some v1
  d1 : w.cell? ⟨D, 1, none⟩ = some v2
  df : ∀ j, w.frozen? ⟨D, j, none⟩ = false
  o1 : OS w (D + 1) v1 p
  o2 : OW w (D + 1) v2 q
variable {w0 w w1 : World} {R D : Nat} {v1 v2 v' : Value} {p p' : List Bs} {q q' : List Wt}
theorem LD.dlt (h : LD w0 R D v1 v2 p q w) : D < w.heap.size := World.block_lt_of_cell? _ _ h.d0
theorem LD.below (h : LD w0 R D v1 v2 p q w) (hb : Below w.heap.size w w1) : LD w0 R D v1 v2 p q w1 :=
  ⟨below_step hb h.b, h.rge, h.dge, h.rd, keepOwn hb h.r0, keepOwn hb h.r1, keepc hb h.d0, keepc hb h.d1, fun j => (hb.frozen (p := ⟨D, j, none⟩) h.dlt).trans (h.df j), h.o1.below hb, h.o2.below hb⟩
/-- The first row has grown, its cell is set. -/
theorem LD.put1 (h : LD w0 R D v1 v2 p q w) (hg : w.grownBy w1 v1.ownBlock) (ho : OS w1 (D + 1) v' p') : LD w0 R D v' v2 p' q (w1.setCell ⟨D, 0, none⟩ v') := by
  have n1 : ∀ k, k ≤ D → v1.ownBlock ≠ some k := fun k hk e => by have := (World.ownsRow.lt h.o1 k e).1; omega
  have hD : w1.heap[D]? = w.heap[D]? := hg.block D h.dlt (fun e => n1 D (Nat.le_refl _) e.symm)
  have hf : Frm (fun k => k = D) w1 (w1.setCell ⟨D, 0, none⟩ v') := frm_setCell (Frm.refl _ _) (by rfl) _
  have hrd := h.rd
  refine ⟨Frm.below (h.b.grown hg h.b.size fun k hk => Nat.le_trans h.dge (by have := (World.ownsRow.lt h.o1 k hk).1; omega)) hf (fun k hk => by rw [hk]; exact h.dge) (Nat.le_trans h.b.size hg.size), h.rge, h.dge, h.rd, ?_, ?_, ?_, ?_, fun j => by rw [World.frozen?_setCell]; exact (frozen_at hD).trans (h.df j), ?_, ?_⟩
  · exact (own_grown' h.r0 hg (n1 R (by omega))).set _ _
  · exact (own_grown' h.r1 hg (n1 R (by omega))).set _ _
  · exact World.cell?_setCell_same _ _ _ (cell_at hD h.d0)
  · rw [World.cell?_setCell_other _ _ _ _ (fun e => by cases e)]; exact cell_at hD h.d1
  · exact hf.row ho fun k hk e => by have := (World.ownsRow.lt ho k hk).1; omega
  · exact hf.row (World.ownsRow.kept h.o2 hg (rows_apart h.o2 h.o1 (by decide))) fun k hk e => by have := (World.ownsRow.lt h.o2 k hk).1; omega
theorem LD.put2 (h : LD w0 R D v1 v2 p q w) (hg : w.grownBy w1 v2.ownBlock) (ho : OW w1 (D + 1) v' q') : LD w0 R D v1 v' p q' (w1.setCell ⟨D, 1, none⟩ v') := by
  have n1 : ∀ k, k ≤ D → v2.ownBlock ≠ some k := fun k hk e => by have := (World.ownsRow.lt h.o2 k e).1; omega
  have hD : w1.heap[D]? = w.heap[D]? := hg.block D h.dlt (fun e => n1 D (Nat.le_refl _) e.symm)
  have hf : Frm (fun k => k = D) w1 (w1.setCell ⟨D, 1, none⟩ v') := frm_setCell (Frm.refl _ _) (by rfl) _
  have hrd := h.rd
  refine ⟨Frm.below (h.b.grown hg h.b.size fun k hk => Nat.le_trans h.dge (by have := (World.ownsRow.lt h.o2 k hk).1; omega)) hf (fun k hk => by rw [hk]; exact h.dge) (Nat.le_trans h.b.size hg.size), h.rge, h.dge, h.rd, ?_, ?_, ?_, ?_, fun j => by rw [World.frozen?_setCell]; exact (frozen_at hD).trans (h.df j), ?_, ?_⟩
  · exact (own_grown' h.r0 hg (n1 R (by omega))).set _ _
  · exact (own_grown' h.r1 hg (n1 R (by omega))).set _ _
  · rw [World.cell?_setCell_other _ _ _ _ (fun e => by cases e)]; exact cell_at hD h.d0
  · exact World.cell?_setCell_same _ _ _ (cell_at hD h.d1)
  · exact hf.row (World.ownsRow.kept h.o1 hg (rows_apart h.o1 h.o2 (by decide))) fun k hk e => by have := (World.ownsRow.lt h.o1 k hk).1; omega
  · exact hf.row ho fun k hk e => by have := (World.ownsRow.lt ho k hk).1; omega
/-- A page set anew. -/
theorem LD.page {g cap n i : Nat} {s : Bs} (h : LD w0 R D (.slice (some ⟨g, 0, none⟩) n cap) v2 p q w) (hn : p.length = n) (hi : i < n) : LD w0 R D (.slice (some ⟨g, 0, none⟩) n cap) v2 (p.set i s) q (w.setCell ⟨g, i, none⟩ (strV s)) := by
  obtain ⟨h1, hg⟩ := h.o1.set (s := s) hn hi
  have hgD : D + 1 ≤ g := (World.ownsRow.lt h.o1 g rfl).1
  have hrd := h.rd
  have hD : (w.setCell ⟨g, i, none⟩ (strV s)).heap[D]? = w.heap[D]? := hg.block D h.dlt (fun e => by simp at e; omega)
  refine ⟨h.b.grown hg h.b.size fun k hk => by simp at hk; have := h.dge; omega, h.rge, h.dge, h.rd, h.r0.set _ _, h.r1.set _ _, cell_at hD h.d0, cell_at hD h.d1, fun j => by rw [World.frozen?_setCell]; exact h.df j, h1, World.ownsRow.kept h.o2 hg (by have := rows_apart h.o2 h.o1 (by decide); exact this)⟩
/-- The disk handed to the result's cells. -/
theorem LD.end (h : LD w0 R D v1 v2 p q w) : OS ((w.setCell ⟨R, 0, none⟩ v1).setCell ⟨R, 1, none⟩ v2) w0.heap.size v1 p ∧ OW ((w.setCell ⟨R, 0, none⟩ v1).setCell ⟨R, 1, none⟩ v2) w0.heap.size v2 q ∧ Below w0.heap.size w0 ((w.setCell ⟨R, 0, none⟩ v1).setCell ⟨R, 1, none⟩ v2) := by
  have hf : Frm (fun k => k = R) w ((w.setCell ⟨R, 0, none⟩ v1).setCell ⟨R, 1, none⟩ v2) := frm_setCell (frm_setCell (Frm.refl _ _) (by rfl) _) (by rfl) _
  have hrd := h.rd
  have hdg := h.dge
  refine ⟨OS.mono (hf.row h.o1 fun k hk e => by have := (World.ownsRow.lt h.o1 k hk).1; omega) (by omega), OW.mono (hf.row h.o2 fun k hk e => by have := (World.ownsRow.lt h.o2 k hk).1; omega) (by omega), Frm.below h.b hf (fun k hk => by rw [hk]; exact h.rge) h.b.size⟩
theorem LD.start {X : World} {R D : Nat} (hb : Below w0.heap.size w0 X) (hR : w0.heap.size ≤ R) (hRD : R < D) (hD : D = X.heap.size) (r0 : OwnC X ⟨R, 0, none⟩) (r1 : OwnC X ⟨R, 1, none⟩) : LD w0 R D (.slice none 0 0) (.slice none 0 0) [] [] (X.alloc (.cells #[.slice none 0 0, .slice none 0 0] 27)) := by
  subst hD
  have hba := balloc (Below.refl X.heap.size X) (.cells #[.slice none 0 0, .slice none 0 0] 27)
  exact ⟨below_step hba hb, hR, hb.size, hRD, keepOwn hba r0, keepOwn hba r1, cell_new _ _ _ 0 _ rfl, cell_new _ _ _ 1 _ rfl, fun j => by unfold World.frozen?; rw [heap_alloc_new]; simp, oS_nil _ _, oW_nil _ _⟩
end Go.Proofs.Ytifcgimpgbeocaa
/- The reference's zeros, NewDisk. -/
set_option linter.unusedVariables false
set_option linter.unusedSimpArgs false
namespace Go.Proofs.Ytifcgimpgbeocaa
open Go.RowKit
attribute [local go_sem] Oper.semAt_some
set_option maxHeartbeats 1000000 in
set_option maxRecDepth 100000 in
theorem rzeros_any (n : Nat) (w : World) (hn : n ≤ 1000000) : Calls Try.prog 111 #[.int .i64 (n : Int)] w (Ret (strV (zs n)) w) := by
  have hm := run_makeB w n hn
  have hc := run_strB (w.alloc (.cells (cellsB (List.replicate n 0)).toArray 5)) w.heap.size n (List.replicate n 0) (bytes_new _ _)
  rw [List.length_replicate] at hc
  have HB := hid (balloc (Below.refl w.heap.size w) (.cells (cellsB (List.replicate n 0)).toArray 5))
  go_enter Try.func111, Try.ntmps111
  go_wp2_with fail
  go_ret
  exact ⟨rfl, HB.out⟩
theorem enter_zeros (u : Value) (w : World) : (callFunc 111 #[u]).run Try.prog w = .ok (.enter 111 #[u]) w := by
  kernel_rfl
set_option maxHeartbeats 2000000 in
set_option maxRecDepth 100000 in
theorem rnewdisk_any (n : Int) (w : World) : Calls Try.prog 64 #[.int .i64 n] w (RetDk (newDk n).1 (newDk n).2 w) := by
  have HBW := hid (B2.new w 27 (.slice none 0 0) (.slice none 0 0))
  have HZ : Hid (∀ w', Calls Try.prog 111 #[.int .i64 64] w' (Ret (strV (zs 64)) w')) := fun w' => rzeros_any 64 w' (by decide)
  by_cases hn : 4 ≤ n ∧ n ≤ 4096
  rotate_left
  · have HR : Hid (newDk n = (([], []), 1)) := by unfold Hid newDk; rw [if_neg hn]
    have f0 := HBW.out.2.1.2; have f1 := HBW.out.2.2.2
    have y0 : (w.alloc (.cells #[.slice none 0 0, .slice none 0 0] 27)).cell? ⟨w.heap.size, 0, none⟩ = some (.slice none 0 0) := cell_new _ _ _ 0 _ rfl
    have y1 : (w.alloc (.cells #[.slice none 0 0, .slice none 0 0] 27)).cell? ⟨w.heap.size, 1, none⟩ = some (.slice none 0 0) := cell_new _ _ _ 1 _ rfl
    have hz := HBW.out.lt
    by_cases h1 : n < 4
    · have g1 : decide (n < 4) = true := by simpa using h1
      clear hn h1
      go_enter Try.func64, Try.ntmps64
      go_wp2_with fail
      rw [HR.out]
      exact bodyPost_ret (v := .tuple #[.agg #[.slice none 0 0, .slice none 0 0], .int .i64 1]) (by simp [results, Try.results64, go_sem, y0, y1, f0, f1, hz]) rfl ⟨_, _, rfl, oS_nil _ _, oW_nil _ _, HBW.out.1⟩
    · have g1 : decide (n < 4) = false := by simpa using h1
      have g2 : decide (4096 < n) = true := by simp; omega
      clear hn h1
      go_enter Try.func64, Try.ntmps64
      go_wp2_with fail
      rw [HR.out]
      exact bodyPost_ret (v := .tuple #[.agg #[.slice none 0 0, .slice none 0 0], .int .i64 1]) (by simp [results, Try.results64, go_sem, y0, y1, f0, f1, hz]) rfl ⟨_, _, rfl, oS_nil _ _, oW_nil _ _, HBW.out.1⟩
  obtain ⟨m, rfl⟩ : ∃ m : Nat, n = (m : Int) := ⟨n.toNat, by omega⟩
  have HR : Hid (newDk (m : Int) = ((List.replicate m (zs 64), []), 0)) := by unfold Hid newDk; rw [if_pos hn]; rfl
  have g1 : decide ((m : Int) < 4) = false := by simp; omega
  have g2 : decide (4096 < (m : Int)) = false := by simp; omega
  obtain ⟨X, hX⟩ : ∃ X, X = w.alloc (.cells #[.slice none 0 0, .slice none 0 0] 27) := ⟨_, rfl⟩
  have hB2 := HBW.out
  rw [← hX] at hB2
  have hzX : X.heap.size = w.heap.size + 1 := by rw [hX]; simp
  have HLD := hid (LD.start (w0 := w) (D := X.heap.size) hB2.1 (Nat.le_refl _) (by omega) rfl hB2.2.1 hB2.2.2)
  obtain ⟨W2, hW2⟩ : ∃ W2, W2 = X.alloc (.cells #[.slice none 0 0, .slice none 0 0] 27) := ⟨_, rfl⟩
  rw [← hW2] at HLD
  have HX := hid hX; have HW2 := hid hW2; have HZX := hid hzX
  have hm : m ≤ 4096 := by omega
  have HS0 : Hid (List.replicate 0 (zs 64) = []) := rfl
  clear hX hW2 hzX hB2 HBW hn
  go_enter Try.func64, Try.ntmps64
  go_upto_region 4 with fail
  have e := HX.out
  rw [← e]
  have e2 := HW2.out
  try rw [← e2]
  try rw [← HZX.out]
  clear e e2 HX HW2
  obtain ⟨D, hD⟩ : ∃ D, X.heap.size = D := ⟨_, rfl⟩
  obtain ⟨R, hR⟩ : ∃ R, w.heap.size = R := ⟨_, rfl⟩
  simp only [hD, hR] at HLD ⊢
  have HRR := hid hR
  clear hD hR HZX
  go_wp2_with fail
  go_loopw [5] (fun i wr => ∃ (k : Nat) (o : Option Addr) (c : Nat), i = .int .i64 (k : Int) ∧ k ≤ m ∧ Hid (LD w R D (.slice o k c) (.slice none 0 0) (List.replicate k (zs 64)) [] wr)) (fun i _ => m - (intOf i).toNat)
  case atStart => exact ⟨0, none, 0, rfl, Nat.zero_le _, HLD⟩
  case round =>
    clear HLD
    obtain ⟨k, o, c, rfl, hk, HLD⟩ := hrel
    have d0 := HLD.out.d0; have d1 := HLD.out.d1
    have df := HLD.out.df 0
    by_cases hlt : k < m
    · have hlti : (k : Int) < (m : Int) := by omega
      have HLEN : Hid ((List.replicate k (zs 64)).length ≤ 1000000) := by unfold Hid; rw [List.length_replicate]; omega
      have HSZ := hid HLD.out.dlt
      clear d1
      go_wp2_with fail
      go_region_law (first
        | (refine step_call1 (by rfl) 111 (.const (.int .i64 64)) 3 (.int .i64 64) (by rfl) (by simp [Act.eval]) enter_zeros (HZ.out _) ?_; rintro e wz ⟨rfl, hbz⟩; refine ⟨_, rfl, ?_⟩; have hbz := below_step hbz (drew_below wr); have HLZ := hid (HLD.out.below hbz); have hba := balloc (Below.refl wz.heap.size wz) (.cells #[strV (zs 64)] 9); have HLY := hid (HLZ.out.below hba); have d0 := HLZ.out.d0; have d0a := HLY.out.d0; have df := HLZ.out.df 0; clear hbz hba)
        | (refine step_appS (by rfl) (.tmp 20) (.tmp 22) (by rfl) (D + 1) (.slice o k c) (List.replicate k (zs 64)) (zs 64) wz.heap.size 1 (by simp [Act.eval, Act.put]) (by simp [Act.eval, Act.put]) HLY.out.o1 (cellsS _ _ _ (cell_new wz #[strV (zs 64)] 9 0 _ rfl)) HLEN.out (by have := HLY.out.dlt; omega) ?_; intro v13 w13 ho13 hg13 hat13; obtain ⟨o13, c13, hv13⟩ : ∃ o c, v13 = .slice o (k + 1) c := (by obtain ⟨o, c, e, -⟩ := ho13.rd; rw [List.length_append, List.length_replicate] at e; exact ⟨o, c, e⟩); subst hv13; have HPUT := hid (HLY.out.put1 hg13 ho13); obtain ⟨⟨x13, zz0⟩, zzf⟩ := own_grown' ⟨⟨_, HLY.out.d0⟩, HLY.out.df 0⟩ hg13 (fun e => by have := (World.ownsRow.lt HLY.out.o1 _ e).1; simp only at this; omega))
        | (fail "x"))
      all_goals
        obtain ⟨w14, hw14⟩ : ∃ w14, w14 = w13.setCell ⟨D, 0, none⟩ (.slice o13 (k + 1) c13) := ⟨_, rfl⟩
        rw [← hw14] at HPUT ⊢
        have HN : Hid (LD w R D (.slice o13 (k + 1) c13) (.slice none 0 0) (List.replicate (k + 1) (zs 64)) [] w14) := by unfold Hid; rw [List.replicate_succ']; exact HPUT.out
        clear hw14 zz0 zzf ho13 hg13 hat13 d0 HPUT
        go_wp2_with fail
        go_roundw
        case rel => exact ⟨k + 1, o13, c13, by go_num, by omega, HN⟩
        case measure => simp [intOf]; omega
    · have hge : ¬ (k : Int) < (m : Int) := by omega
      have hkm : k = m := by omega
      subst hkm
      obtain ⟨⟨v0, y0⟩, f0⟩ := HLD.out.r0
      obtain ⟨⟨v1, y1⟩, f1⟩ := HLD.out.r1
      have hz : R < wr.heap.size := by have := HLD.out.dlt; have := HLD.out.rd; omega
      go_wp2_with fail
      rw [HR.out]
      obtain ⟨e1, e2, e3⟩ := HLD.out.end
      exact bodyPost_ret (v := .tuple #[.agg #[.slice o k c, .slice none 0 0], .int .i64 0]) (by simp [results, Try.results64, go_sem, y0, y1, f0, f1, hz]) rfl ⟨_, _, rfl, e1, e2, e3⟩
end Go.Proofs.Ytifcgimpgbeocaa
