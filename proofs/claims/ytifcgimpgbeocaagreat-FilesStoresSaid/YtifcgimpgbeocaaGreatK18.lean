/- The reference's CheckDisk. -/
import Derived.Test.YtifcgimpgbeocaaGreatK6
import Derived.Test.YtifcgimpgbeocaaGreatK9
import Derived.Test.YtifcgimpgbeocaaGreatK15
import Derived.Test.YtifcgimpgbeocaaGreatK11
import Derived.Test.YtifcgimpgbeocaaGreatK14
import Derived.Test.YtifcgimpgbeocaaGreatK7
import Derived.Recover
import Derived.Defers
set_option linter.unusedVariables false
set_option linter.unusedSimpArgs false
namespace Go.Proofs.YtifcgimpgbeocaaGreat
open Go.RowKit
attribute [local go_sem] Oper.semAt_some
def chkD (d : Dk) : Int := if isDk d = true then 0 else 142
theorem all_succ {α : Type} {p : α → Bool} {l : List α} {k : Nat} {x : α} (h : l[k]? = some x) (ha : (l.take k).all p = true) (hx : p x = true) : (l.take (k + 1)).all p = true := by
  rw [List.take_add_one, h, List.all_append, ha]
  simp [hx]
theorem chkD_len {d : Dk} (h : ¬ (4 ≤ d.1.length ∧ d.1.length ≤ 4096)) : chkD d = 142 := by
  unfold chkD isDk
  rw [decide_eq_false h]
  rfl
theorem chkD_pg {d : Dk} {k : Nat} {x : Bs} (h : d.1[k]? = some x) (hx : isPg x = false) : chkD d = 142 := by
  unfold chkD
  rw [if_neg]
  intro hd
  have := isDk_page hd h
  unfold isPg at hx
  simp at hx
  exact hx this
theorem chkD_wt {d : Dk} {k : Nat} {x : Wt} (h : d.2[k]? = some x) (hx : ¬ (0 ≤ x.1 ∧ x.1 < (d.1.length : Int) ∧ x.2.length = 64)) : chkD d = 142 := by
  unfold chkD
  rw [if_neg]
  exact fun hd => hx (isDk_wait hd (List.mem_of_getElem? h))
theorem chkD_ok {d : Dk} (h1 : 4 ≤ d.1.length ∧ d.1.length ≤ 4096) (h2 : d.1.all isPg = true) (h3 : d.2.all (isWt d.1.length) = true) : chkD d = 0 := by
  unfold chkD isDk
  rw [h2, h3, decide_eq_true h1]
  rfl
set_option maxHeartbeats 4000000 in
set_option maxRecDepth 100000 in
theorem rcheckdisk_any (d : Dk) (vp vq : Value) (w : World) (hp : RdS w vp d.1) (hq : RdW w vq d.2) (hl1 : d.1.length ≤ 1000000000) (hl2 : d.2.length ≤ 1000000000) :
    Calls Tryz.prog 41 #[.agg #[vp, vq]] w (Ret (.int .i64 (chkD d)) w) := by
  obtain ⟨o1, c1, rfl, hc1, h1⟩ := hp
  obtain ⟨o2, c2, rfl, hc2, h2⟩ := hq
  have H1 := hid h1; have H2 := hid h2
  have HL := hid (chkD_len (d := d)); have HPG := hid (fun k x h hx => chkD_pg (d := d) (k := k) (x := x) h hx); have HWT := hid (fun k x h hx => chkD_wt (d := d) (k := k) (x := x) h hx); have HOK := hid (chkD_ok (d := d))
  obtain ⟨E, hE⟩ : ∃ E, chkD d = E := ⟨_, rfl⟩
  simp only [hE] at HL HPG HWT HOK ⊢
  obtain ⟨N, hN⟩ : ∃ N, d.1.length = N := ⟨_, rfl⟩
  obtain ⟨M, hM⟩ : ∃ M, d.2.length = M := ⟨_, rfl⟩
  simp only [hN] at hl1 hc1 HL HWT HOK ⊢
  rw [hM] at hl2 hc2 ⊢
  have HN := hid hN; have HM := hid hM
  obtain ⟨W, hW⟩ : ∃ W, W = w.alloc (.cells #[.slice o1 N c1, .slice o2 M c2] 25) := ⟨_, rfl⟩
  have HBW : Hid (Below w.heap.size w W) := by rw [hW]; exact balloc (Below.refl _ _) _
  have a0 : W.cell? ⟨w.heap.size, 0, none⟩ = some (.slice o1 N c1) := by rw [hW]; exact cell_new _ _ _ 0 _ rfl
  have a1 : W.cell? ⟨w.heap.size, 1, none⟩ = some (.slice o2 M c2) := by rw [hW]; exact cell_new _ _ _ 1 _ rfl
  have HW := hid hW
  clear hW h1 h2 hN hM hE
  go_enter Tryz.func41, Tryz.ntmps41
  go_upto_region 1 with fail
  have e := HW.out
  rw [← e]
  clear e HW
  obtain ⟨Z, hZ⟩ : ∃ Z, w.heap.size = Z := ⟨_, rfl⟩
  simp only [hZ] at a0 a1 ⊢
  clear hZ
  have A0 := hid a0; have A1 := hid a1
  by_cases g1 : N < 4
  · have g : decide ((N : Int) < 4) = true := by simp; omega
    have hEE : E = 142 := HL.out (by omega)
    subst hEE
    go_wp2_with fail
    go_ret
    exact ⟨rfl, HBW.out⟩
  have g : decide ((N : Int) < 4) = false := by simp; omega
  by_cases g2 : 4096 < N
  · have g' : decide (4096 < (N : Int)) = true := by simp; omega
    have hEE : E = 142 := HL.out (by omega)
    subst hEE
    go_wp2_with fail
    go_ret
    exact ⟨rfl, HBW.out⟩
  have g' : decide (4096 < (N : Int)) = false := by simp; omega
  have h0 : Hid ((d.1.take 0).all isPg = true) := rfl
  have h0' : Hid ((d.2.take 0).all (isWt N) = true) := rfl
  go_wp2_with fail
  go_loopw [3] (fun i wr => ∃ k : Nat, i = .int .i64 (k : Int) ∧ k ≤ N ∧ Hid ((d.1.take k).all isPg = true) ∧ Hid (Below W.heap.size W wr)) (fun i _ => N - (intOf i).toNat)
  case atStart => exact ⟨0, rfl, Nat.zero_le _, h0, Below.refl _ _⟩
  case round =>
    clear h0
    obtain ⟨k, rfl, hk, HA, HB⟩ := hrel
    have a0 := keepc HB.out A0.out; have a1 := keepc HB.out A1.out
    by_cases hlt : k < N
    · obtain ⟨x, hx⟩ : ∃ r, d.1[k]? = some r := ⟨_, List.getElem?_eq_getElem (by have := HN.out; omega)⟩
      have hP := H1.out
      rcases hP with hq | ⟨e1, f1, rfl, -, hP⟩
      · rw [hq] at hx; simp at hx
      have x0 := keepc (below_step HB.out HBW.out) (hP k x hx)
      have hlti : (k : Int) < (N : Int) := by omega
      obtain ⟨n, hn⟩ : ∃ n, x.length = n := ⟨_, rfl⟩
      by_cases h64 : n = 64
      · have HA2 := hid (all_succ hx HA.out (by unfold isPg; rw [hn, h64]; rfl))
        have g3 : ((n : Int) == 64) = true := by simp [h64]
        clear hP hx a1
        go_wp2_with fail
        go_roundw
        case rel => exact ⟨k + 1, by go_num, by omega, HA2, HB⟩
        case measure => simp [intOf]; omega
      · have hEE : E = 142 := HPG.out k x hx (by unfold isPg; rw [hn]; simpa using h64)
        have g3 : ((n : Int) == 64) = false := by rw [beq_eq_false_iff_ne]; omega
        subst hEE
        clear hP hx a1
        go_wp2_with fail
        go_ret
        exact ⟨rfl, below_step HB.out HBW.out⟩
    · have hge : ¬ (k : Int) < (N : Int) := by omega
      have HPA : Hid (d.1.all isPg = true) := by have h := HA.out; rw [List.take_of_length_le (by have := HN.out; omega)] at h; exact h
      have HB1 := HB
      clear HB HA
      obtain ⟨W1, hW1⟩ : ∃ W1, W1 = wr := ⟨_, rfl⟩
      subst hW1
      go_wp2_with fail
      go_loopw [4] (fun i wr => ∃ k : Nat, i = .int .i64 (k : Int) ∧ k ≤ M ∧ Hid ((d.2.take k).all (isWt N) = true) ∧ Hid (Below W.heap.size W wr)) (fun i _ => M - (intOf i).toNat)
      case atStart => exact ⟨0, rfl, Nat.zero_le _, h0', HB1⟩
      case round =>
        clear h0'
        obtain ⟨k, rfl, hk, HA, HB⟩ := hrel
        have a0 := keepc HB.out A0.out; have a1 := keepc HB.out A1.out
        have HBD := hid (fun n => below_step (below_drewN HB.out n) HBW.out)
        by_cases hlt : k < M
        · obtain ⟨⟨xp, xs⟩, hx⟩ : ∃ r, d.2[k]? = some r := ⟨_, List.getElem?_eq_getElem (by have := HM.out; omega)⟩
          have hP := H2.out
          rcases hP with hq | ⟨e1, f1, rfl, -, hP⟩
          · rw [hq] at hx; simp at hx
          obtain ⟨x0, x1⟩ := hP k _ hx
          have x0 := keepc (below_step HB.out HBW.out) x0; have x1 := keepc (below_step HB.out HBW.out) x1
          have hlti : (k : Int) < (M : Int) := by omega
          obtain ⟨n, hn⟩ : ∃ n, xs.length = n := ⟨_, rfl⟩
          by_cases q1 : xp < 0
          · have hEE : E = 142 := HWT.out k _ hx (by simp only; omega)
            have r1 : decide (xp < 0) = true := by simpa using q1
            subst hEE
            clear hP hx q1
            go_wp2_with fail
            go_quiet (fail)
            go_wp2_with fail
            go_ret
            exact ⟨rfl, HBD.out _⟩
          have r1 : decide (xp < 0) = false := by simpa using q1
          by_cases q2 : (N : Int) ≤ xp
          · have hEE : E = 142 := HWT.out k _ hx (by simp only; omega)
            have r2 : decide ((N : Int) ≤ xp) = true := by simpa using q2
            subst hEE
            clear hP hx q1 q2
            go_wp2_with fail
            go_quiet (fail)
            go_wp2_with fail
            go_ret
            exact ⟨rfl, HBD.out _⟩
          have r2 : decide ((N : Int) ≤ xp) = false := by simpa using q2
          by_cases h64 : n = 64
          · have HA2 := hid (all_succ hx HA.out (by unfold isWt; rw [hn, h64]; simp; omega))
            have g3 : ((n : Int) == 64) = true := by simp [h64]
            clear hP hx q1 q2
            go_wp2_with fail
            go_quiet (fail)
            go_wp2_with fail
            go_roundw
            case rel => exact ⟨k + 1, by go_num, by omega, HA2, below_drewN HB.out _⟩
            case measure => simp [intOf]; omega
          · have hEE : E = 142 := HWT.out k _ hx (by simp only; rw [hn]; omega)
            have g3 : ((n : Int) == 64) = false := by rw [beq_eq_false_iff_ne]; omega
            subst hEE
            clear hP hx q1 q2
            go_wp2_with fail
            go_quiet (fail)
            go_wp2_with fail
            go_ret
            exact ⟨rfl, HBD.out _⟩
        · have hge : ¬ (k : Int) < (M : Int) := by omega
          have hEE : E = 0 := HOK.out (by omega) HPA.out (by have h := HA.out; rw [List.take_of_length_le (by have := HM.out; omega)] at h; exact h)
          subst hEE
          go_wp2_with fail
          go_ret
          exact ⟨rfl, below_step HB.out HBW.out⟩
end Go.Proofs.YtifcgimpgbeocaaGreat
/- The reference's page, ReadPage. -/
set_option linter.unusedVariables false
set_option linter.unusedSimpArgs false
namespace Go.Proofs.YtifcgimpgbeocaaGreat
open Go.RowKit
attribute [local go_sem] Oper.semAt_some
def wrtTo (d : Dk) (p k : Nat) : Bs := (d.2.take k).foldl (fun s w => if w.1 = (p : Int) then w.2 else s) ((d.1[p]?).getD [])
theorem wrtTo_succ {d : Dk} {p k : Nat} {x : Wt} (h : d.2[k]? = some x) : wrtTo d p (k + 1) = if x.1 = (p : Int) then x.2 else wrtTo d p k := by
  unfold wrtTo
  rw [List.take_add_one, h, List.foldl_append]
  rfl
theorem wrtTo_all (d : Dk) (p : Nat) : wrtTo d p d.2.length = wrt d p := by
  unfold wrtTo wrt
  rw [List.take_length]
set_option maxHeartbeats 4000000 in
set_option maxRecDepth 100000 in
theorem rpage_any (d : Dk) (vp vq : Value) (p : Nat) (w : World) (hp : RdS w vp d.1) (hq : RdW w vq d.2) (hpl : p < d.1.length) (hl1 : d.1.length ≤ 4096) (hl2 : d.2.length ≤ 1000000000) :
    Calls Tryz.prog 43 #[.agg #[vp, vq], .int .i64 (p : Int)] w (Ret (strV (wrt d p)) w) := by
  obtain ⟨o1, c1, rfl, hc1, h1⟩ := hp
  obtain ⟨o2, c2, rfl, hc2, h2⟩ := hq
  obtain ⟨s0, hs0⟩ : ∃ s, d.1[p]? = some s := ⟨_, List.getElem?_eq_getElem hpl⟩
  have HT0 : Hid (wrtTo d p 0 = s0) := by unfold Hid wrtTo; rw [hs0]; rfl
  have HTA := hid (wrtTo_all d p)
  obtain ⟨E, hE⟩ : ∃ E, wrt d p = E := ⟨_, rfl⟩
  rw [hE] at HTA ⊢
  obtain ⟨N, hN⟩ : ∃ N, d.1.length = N := ⟨_, rfl⟩
  obtain ⟨M, hM⟩ : ∃ M, d.2.length = M := ⟨_, rfl⟩
  rw [hN] at hl1 hc1 hpl ⊢
  rw [hM] at hl2 hc2 HTA ⊢
  have HM := hid hM
  have H2 := hid h2
  rcases h1 with hq | ⟨e1, f1, rfl, -, h1⟩
  · rw [hq] at hs0; simp at hs0
  have S0 := hid (h1 p s0 hs0)
  obtain ⟨W, hW⟩ : ∃ W, W = w.alloc (.cells #[.slice (some ⟨e1, f1, none⟩) N c1, .slice o2 M c2] 25) := ⟨_, rfl⟩
  have HBW : Hid (Below w.heap.size w W) := by rw [hW]; exact balloc (Below.refl _ _) _
  have a0 : W.cell? ⟨w.heap.size, 0, none⟩ = some (.slice (some ⟨e1, f1, none⟩) N c1) := by rw [hW]; exact cell_new _ _ _ 0 _ rfl
  have a1 : W.cell? ⟨w.heap.size, 1, none⟩ = some (.slice o2 M c2) := by rw [hW]; exact cell_new _ _ _ 1 _ rfl
  have s0c := keepc HBW.out S0.out
  have HW := hid hW
  have hpli : (p : Int) < (N : Int) := by omega
  clear hW h1 h2 hN hM hE hs0
  go_enter Tryz.func43, Tryz.ntmps43
  go_upto_region 1 with fail
  have e := HW.out
  rw [← e]
  clear e HW
  obtain ⟨Z, hZ⟩ : ∃ Z, w.heap.size = Z := ⟨_, rfl⟩
  simp only [hZ] at a0 a1 ⊢
  clear hZ
  have A1 := hid a1
  go_wp2_with fail
  go_loopw [5, 6] (fun u i wr => ∃ k : Nat, i = .int .i64 (k : Int) ∧ k ≤ M ∧ u = strV (wrtTo d p k) ∧ Hid (Below W.heap.size W wr)) (fun _ i _ => M - (intOf i).toNat)
  case atStart => exact ⟨0, rfl, Nat.zero_le _, by rw [HT0.out], Below.refl _ _⟩
  case round =>
    clear HT0
    obtain ⟨k, rfl, hk, rfl, HB⟩ := hrel
    have a1 := keepc HB.out A1.out
    by_cases hlt : k < M
    · obtain ⟨⟨xp, xs⟩, hx⟩ : ∃ r, d.2[k]? = some r := ⟨_, List.getElem?_eq_getElem (by have := HM.out; omega)⟩
      have hP := H2.out
      rcases hP with hq | ⟨e2, f2, rfl, -, hP⟩
      · rw [hq] at hx; simp at hx
      obtain ⟨x0, x1⟩ := hP k _ hx
      have x0 := keepc (below_step HB.out HBW.out) x0; have x1 := keepc (below_step HB.out HBW.out) x1
      have hlti : (k : Int) < (M : Int) := by omega
      have HST := hid (wrtTo_succ (p := p) hx)
      obtain ⟨Q, hQ⟩ : ∃ Q, wrtTo d p k = Q := ⟨_, rfl⟩
      have HQ := hid hQ
      rw [hQ]
      clear hQ hP hx
      by_cases hpp : xp = (p : Int)
      · have g : (xp == (p : Int)) = true := by simpa using hpp
        have HS2 : Hid (wrtTo d p (k + 1) = xs) := by unfold Hid; rw [HST.out, if_pos hpp]
        clear hpp HST
        go_wp2_with fail
        go_roundw
        case rel => exact ⟨k + 1, by go_num, by omega, by rw [HS2.out], HB⟩
        case measure => simp [intOf]; omega
      · have g : (xp == (p : Int)) = false := by simpa using hpp
        have HS2 : Hid (wrtTo d p (k + 1) = Q) := by unfold Hid; rw [HST.out, if_neg hpp, HQ.out]
        clear hpp HST
        go_wp2_with fail
        go_roundw
        case rel => exact ⟨k + 1, by go_num, by omega, by rw [HS2.out], HB⟩
        case measure => simp [intOf]; omega
    · have hge : ¬ (k : Int) < (M : Int) := by omega
      have hkM : k = M := by omega
      rw [hkM, HTA.out]
      clear hkM
      go_wp2_with fail
      go_ret
      exact ⟨rfl, below_step HB.out HBW.out⟩
end Go.Proofs.YtifcgimpgbeocaaGreat
/- take, counted. -/
set_option linter.unusedVariables false
set_option linter.unusedSimpArgs false
namespace Go.Proofs.YtifcgimpgbeocaaGreat
open Go.RowKit
attribute [local go_sem] Oper.semAt_some
/-- The panic that is thrown where bytes end too soon. -/
def shortP : List PanicEntry := [{ v := .iface 125 (.agg #[]), recovered := false }]
theorem ext_take' (s : Bs) (C : Nat) : (⟨s.toArray⟩ : ByteArray).extract 0 C = ⟨(s.take C).toArray⟩ := by
  apply ByteArray.ext
  rw [ByteArray.data_extract]
  simp
theorem ext_drop' (s : Bs) (C n : Nat) (h : s.length = n) : (⟨s.toArray⟩ : ByteArray).extract C n = ⟨(s.drop C).toArray⟩ := by
  apply ByteArray.ext
  rw [ByteArray.data_extract]
  simp [← h]
  exact List.take_of_length_le (by simp)
set_option maxHeartbeats 1000000 in
set_option maxRecDepth 100000 in
theorem take_ok (s : Bs) (n : Nat) (w : World) (h : n ≤ s.length) : Calls Tryz.prog 70 #[strV s, .int .i64 n] w (Ret (.tuple #[strV (s.take n), strV (s.drop n)]) w) := by
  have g : decide ((s.length : Int) < n) = false := by simp; omega
  have e1 := ext_take' s n
  have e2 := ext_drop' s n s.length rfl
  go_enter Tryz.func70, Tryz.ntmps70
  go_wp2_with fail
  go_region
  all_goals
    go_wp2_with fail
    go_ret2
    exact ⟨rfl, (Below.refl _ _).drew⟩
theorem take_short (s : Bs) (n : Nat) (w : World) (h : s.length < n) : Calls Tryz.prog 70 #[strV s, .int .i64 n] w (fun e w' => e = .panicked shortP ∧ Below w.heap.size w w') := by
  have g : decide ((s.length : Int) < n) = true := by simp; omega
  go_enter Tryz.func70, Tryz.ntmps70
  go_wp2_with fail
  exact ⟨rfl, rfl, Below.refl _ _⟩
set_option maxHeartbeats 1000000 in
set_option maxRecDepth 100000 in
theorem counted_ok (c : UInt8) (s : Bs) (w : World) (h : c.toNat ≤ s.length) : Calls Tryz.prog 71 #[strV (c :: s)] w (Ret (.tuple #[strV (s.take c.toNat), strV (s.drop c.toNat)]) w) := by
  have H1 := hid (fun w => take_ok (c :: s) 1 w (by simp))
  have H2 := hid (fun w => take_ok s c.toNat w h)
  have x0 := fun w => strv_at ((c :: s).take 1) 0 .i64 (by simp) w
  have hc : byt ((c :: s).take 1) 0 = (c.toNat : Int) := rfl
  rw [hc] at x0
  have hw : IntKind.i64.wrap (c.toNat : Int) = (c.toNat : Int) := IntWalk.i64_in _ ⟨by omega, by have := c.toNat_lt; omega⟩
  have hc0 : ∀ (h : 0 < (ByteArray.mk #[c]).size), (ByteArray.mk #[c])[0]'h = c := fun _ => rfl
  have hw' : wrap64 (c.toNat : Int) = (c.toNat : Int) := by have := c.toNat_lt; unfold wrap64; omega
  clear hc
  go_enter Tryz.func71, Tryz.ntmps71
  go_wp2_with fail
  refine (H1.out _).mono ?_
  rintro e w1 ⟨rfl, hb1⟩
  have HB1 := hid hb1
  clear hb1
  go_wp2_with fail
  refine (H2.out _).mono ?_
  rintro e w2 ⟨rfl, hb2⟩
  have HB2 := hid (below_step hb2 HB1.out)
  clear hb2
  go_wp2_with fail
  go_ret2
  exact ⟨rfl, HB2.out⟩
end Go.Proofs.YtifcgimpgbeocaaGreat
/- content. -/
set_option linter.unusedVariables false
set_option linter.unusedSimpArgs false
namespace Go.Proofs.YtifcgimpgbeocaaGreat
open Go.RowKit
attribute [local go_sem] Oper.semAt_some
theorem pgs_bd {n len : Nat} (h : len ≤ 64 * halfN n) : pgs len ≤ halfN n := by unfold pgs; omega
theorem logPages_succ (d : Dk) (lg k : Nat) : logPages d lg (k + 1) = logPages d lg k ++ wrt d (firstPg d.1.length lg + k) := by
  unfold logPages
  rw [List.range_succ, List.flatMap_append]
  simp
theorem trans_of' {W w w1 : World} (k : Below W.heap.size W w1) (h : Below w.heap.size w W) : Below w.heap.size w w1 := h.trans (k.mono h.size)
set_option maxHeartbeats 2000000 in
set_option maxRecDepth 100000 in
theorem content_any (d : Dk) (vp vq : Value) (lg len : Nat) (w : World) (hp : RdS w vp d.1) (hq : RdW w vq d.2) (hd : isDk d = true) (hlg : lg ≤ 1) (hlen : len ≤ 64 * halfN d.1.length) (hl : d.2.length ≤ 1000000000) :
    Calls Tryz.prog 38 #[.agg #[vp, vq], .int .i64 (lg : Int), .int .i64 (len : Int)] w (Ret (strV (content d lg len)) w) := by
  have hdl := isDk_len hd
  have hpg := pgs_bd hlen
  have hhb : halfN d.1.length ≤ 2047 := by unfold halfN; omega
  have HWR : Hid (∀ w' (hb : Below w.heap.size w w') (k : Nat), k < pgs len → Calls Tryz.prog 80 #[.agg #[vp, vq], .int .i64 ((firstPg d.1.length lg + k : Nat) : Int)] w' (Ret (strV (wrt d (firstPg d.1.length lg + k))) w')) := fun w' hb k hk =>
    written_any d vp vq _ w' (hp.below hb) (hq.below hb) (first_lt hdl.1 hlg (by omega)).2 hdl.2 hl
  have HWL : Hid (∀ k, k < pgs len → (wrt d (firstPg d.1.length lg + k)).length = 64) := fun k hk => wrt_len hd (first_lt hdl.1 hlg (by omega)).2
  have HFL : Hid (firstPg d.1.length lg ≤ 10000) := by
    have : lg = 0 ∨ lg = 1 := by omega
    unfold Hid firstPg
    rcases this with rfl | rfl <;> omega
  have HLL : Hid (∀ k, k ≤ pgs len → (logPages d lg k).length = k * 64) := by
    intro k
    induction k with
    | zero => intro _; rfl
    | succ k ih => intro hk; rw [logPages_succ, List.length_append, ih (by omega), HWL.out k (by omega)]; omega
  have HCT : Hid (content d lg len = (logPages d lg (pgs len)).take len) := rfl
  have HLS := hid (fun k => logPages_succ d lg k)
  obtain ⟨op, cp, rfl, -, -⟩ := hp
  obtain ⟨oq, cq, rfl, -, -⟩ := hq
  obtain ⟨N, hN⟩ : ∃ N, d.1.length = N := ⟨_, rfl⟩
  obtain ⟨M, hM⟩ : ∃ M, d.2.length = M := ⟨_, rfl⟩
  simp only [hN, hM] at HWR HWL HFL HLS hdl hlen hpg hhb ⊢
  have HFI := hid (fun w' => first_any op N cp oq M cq lg w' hdl.1 hdl.2 hlg)
  have HPN : Hid (pgs len = (len + 63) / 64) := rfl
  obtain ⟨m, hm⟩ : ∃ m, pgs len = m := ⟨_, rfl⟩
  obtain ⟨F, hF⟩ : ∃ F, firstPg N lg = F := ⟨_, rfl⟩
  simp only [hm, hF] at HWR HWL HFL HLL HCT HLS hpg HFI HPN
  clear hN hM hd hl hm hF
  have e1 : IntKind.i64.wrap ((len : Int) + 64) = (len : Int) + 64 := IntWalk.i64_in _ ⟨by omega, by omega⟩
  have e2 : IntKind.i64.wrap ((len : Int) + 64 - 1) = (len : Int) + 64 - 1 := IntWalk.i64_in _ ⟨by omega, by omega⟩
  have e3 : IntKind.i64.wrap (((len : Int) + 64 - 1).tdiv 64) = (m : Int) := by have := HPN.out; rw [Int.tdiv_eq_ediv_of_nonneg (by omega), IntWalk.i64_in _ ⟨by omega, by omega⟩]; omega
  obtain ⟨W, hW⟩ : ∃ W, W = w.alloc (.cells #[.slice op N cp, .slice oq M cq] 25) := ⟨_, rfl⟩
  have hzW : W.heap.size = w.heap.size + 1 := by rw [hW]; simp
  have k0 : W.cell? ⟨w.heap.size, 0, none⟩ = some (.slice op N cp) := by rw [hW]; exact cell_new _ _ _ 0 _ rfl
  have k1 : W.cell? ⟨w.heap.size, 1, none⟩ = some (.slice oq M cq) := by rw [hW]; exact cell_new _ _ _ 1 _ rfl
  have HBW : Hid (Below w.heap.size w W) := by rw [hW]; exact balloc (Below.refl _ _) _
  have HI0 := hid (isB_new W)
  have HB0 := hid (balloc (Below.refl W.heap.size W) (.cells #[.pointer none, .slice none 0 0] 139))
  have HW := hid hW
  clear hW
  go_enter Tryz.func38, Tryz.ntmps38
  go_wp2_with fail
  have e := HW.out
  simp only [← e, ← hzW]
  clear e HW hzW
  go_loopw [13] (fun i wr => ∃ k : Nat, i = .int .i64 k ∧ k ≤ m ∧ Hid (IsB W.heap.size W.heap.size (logPages d lg k) wr) ∧ Hid (Below W.heap.size W wr)) (fun i _ => m - (intOf i).toNat)
  case atStart => exact ⟨0, rfl, Nat.zero_le _, HI0, HB0⟩
  case round =>
    obtain ⟨k, rfl, hk, HI, HB⟩ := hrel
    by_cases hlt : k < m
    · have hlt64 : (k : Int) < (m : Int) := by omega
      have HWRK := hid (fun w' hb => HWR.out w' hb k hlt)
      have HFLO := HFL.out
      have HS := HLS.out k
      have HLK := HLL.out k (by omega)
      have HWK := HWL.out k hlt
      have HST := hid HS
      have HLN : Hid ((logPages d lg k).length + (wrt d (F + k)).length ≤ 1000000000) := by unfold Hid; omega
      obtain ⟨G, hG⟩ : ∃ G, F + k = G := ⟨_, rfl⟩
      have e5 : IntKind.i64.wrap ((F : Int) + (k : Int)) = (G : Int) := by unfold Hid at HFLO; rw [IntWalk.i64_in _ ⟨by omega, by omega⟩]; omega
      rw [hG] at HWRK HST HLN
      clear HS HLK HWK HFLO hG
      go_wp2_with fail
      go_region_held3 (fun w' => Below W.heap.size W w' ∧ w'.cell? ⟨w.heap.size, 0, none⟩ = some (.slice op N cp) ∧ w'.cell? ⟨w.heap.size, 1, none⟩ = some (.slice oq M cq))
        ((refine (fun hS => ⟨hS, keepc hS k0, keepc hS k1⟩ : Below W.heap.size W _ → _) ?_; first | exact HB.out.drew | exact hb5))
        (first
          | (go_at_call 83; refine (HFI.out _).mono ?_; rintro e w5 ⟨rfl, hb5'⟩; have hb5 : Below W.heap.size W w5 := below_step hb5' (And.left (by assumption)); have HI5 := hid ((HI.out.below (drew_below _)).below hb5'); clear hb5')
          | (go_at_call 80; refine (HWRK.out _ (below_step (And.left (by assumption)) HBW.out)).mono ?_; rintro e w6 ⟨rfl, hb6'⟩; have hb5 : Below W.heap.size W w6 := below_step hb6' (And.left (by assumption)); have HI6 := hid (HI5.out.below hb6'); clear hb6')
          | (go_at_call 82; refine (wstr_any _ _ _ _ _ HI6.out HLN.out (Below.size (And.left (by assumption)))).mono ?_; rintro e w7 ⟨rfl, hi7, hb7⟩; have hb5 : Below W.heap.size W w7 := (And.left (by assumption) : Below W.heap.size W w6).trans hb7; have HI7 := hid hi7; clear hi7 hb7)
          | (fail "x"))
      have HB7 : Hid (Below W.heap.size W w7) := (by assumption)
      have HI7' : Hid (IsB W.heap.size W.heap.size (logPages d lg (k + 1)) w7) := by rw [HST.out]; exact HI7.out
      go_wp2_with fail
      go_roundw
      case rel => exact ⟨k + 1, by go_num, by omega, HI7', HB7⟩
      case measure => simp [intOf]; omega
    · have hkM : k = m := by omega
      subst hkM
      have HB1 := hid (below_step (Below.refl _ _) HB.out)
      have hlen2 : (len : Int) ≤ ((logPages d lg k).length : Int) := by rw [HLL.out k (by omega)]; have := HPN.out; omega
      have HE := ext_take' (logPages d lg k) len
      skip
      go_wp2_with fail
      refine (bstr_any _ _ _ _ HI.out HB.out.size).mono ?_
      rintro e w8 ⟨rfl, hb8⟩
      have HB8 := hid (trans_of' (HB.out.trans hb8) HBW.out)
      clear hb8
      go_wp2_with fail
      go_ret
      exact ⟨by rw [HCT.out]; rfl, HB8.out⟩
end Go.Proofs.YtifcgimpgbeocaaGreat
/- The reference's bytes of a log. -/
set_option linter.unusedVariables false
set_option linter.unusedSimpArgs false
namespace Go.Proofs.YtifcgimpgbeocaaGreat
open Go.RowKit
attribute [local go_sem] Oper.semAt_some
set_option maxHeartbeats 2000000 in
set_option maxRecDepth 100000 in
theorem rlogbytes_any (d : Dk) (vp vq : Value) (lg len : Nat) (w : World) (hp : RdS w vp d.1) (hq : RdW w vq d.2) (hd : isDk d = true) (hlg : lg ≤ 1) (hlen : len ≤ 64 * halfN d.1.length) (hl : d.2.length ≤ 1000000000) :
    Calls Tryz.prog 45 #[.agg #[vp, vq], .int .i64 (lg : Int), .int .i64 (len : Int)] w (Ret (strV (content d lg len)) w) := by
  have hdl := isDk_len hd
  have hpg := pgs_bd hlen
  have hhb : halfN d.1.length ≤ 2047 := by unfold halfN; omega
  have HWR : Hid (∀ w' (hb : Below w.heap.size w w') (k : Nat), k < pgs len → Calls Tryz.prog 43 #[.agg #[vp, vq], .int .i64 ((firstPg d.1.length lg + k : Nat) : Int)] w' (Ret (strV (wrt d (firstPg d.1.length lg + k))) w')) := fun w' hb k hk =>
    rpage_any d vp vq _ w' (hp.below hb) (hq.below hb) (first_lt hdl.1 hlg (by omega)).2 hdl.2 hl
  have HWL : Hid (∀ k, k < pgs len → (wrt d (firstPg d.1.length lg + k)).length = 64) := fun k hk => wrt_len hd (first_lt hdl.1 hlg (by omega)).2
  have HFL : Hid (firstPg d.1.length lg ≤ 10000) := by
    have : lg = 0 ∨ lg = 1 := by omega
    unfold Hid firstPg
    rcases this with rfl | rfl <;> omega
  have HLL : Hid (∀ k, k ≤ pgs len → (logPages d lg k).length = k * 64) := by
    intro k
    induction k with
    | zero => intro _; rfl
    | succ k ih => intro hk; rw [logPages_succ, List.length_append, ih (by omega), HWL.out k (by omega)]; omega
  have HCT : Hid (content d lg len = (logPages d lg (pgs len)).take len) := rfl
  have HLS := hid (fun k => logPages_succ d lg k)
  have e2 : IntKind.i64.wrap ((lg : Int) * (halfN d.1.length : Nat)) = ((lg * halfN d.1.length : Nat) : Int) := by
    have : lg = 0 ∨ lg = 1 := by omega
    rcases this with rfl | rfl <;> (rw [IntWalk.i64_in _ ⟨by omega, by omega⟩]; omega)
  have e3 : IntKind.i64.wrap (2 + ((lg * halfN d.1.length : Nat) : Int)) = ((firstPg d.1.length lg : Nat) : Int) := by
    have : lg = 0 ∨ lg = 1 := by omega
    unfold firstPg
    rcases this with rfl | rfl <;> (rw [IntWalk.i64_in _ ⟨by omega, by omega⟩]; omega)
  obtain ⟨op, cp, rfl, -, -⟩ := hp
  obtain ⟨oq, cq, rfl, -, -⟩ := hq
  obtain ⟨N, hN⟩ : ∃ N, d.1.length = N := ⟨_, rfl⟩
  obtain ⟨M, hM⟩ : ∃ M, d.2.length = M := ⟨_, rfl⟩
  simp only [hN, hM] at HWR HWL HFL HLS hdl hlen hpg hhb e2 e3 ⊢
  have HFI := hid (fun w' => rpagesof_any N w' (by omega) (by omega))
  have HPN : Hid (pgs len = (len + 63) / 64) := rfl
  obtain ⟨m, hm⟩ : ∃ m, pgs len = m := ⟨_, rfl⟩
  obtain ⟨F, hF⟩ : ∃ F, firstPg N lg = F := ⟨_, rfl⟩
  obtain ⟨H, hH⟩ : ∃ H, halfN N = H := ⟨_, rfl⟩
  obtain ⟨LH, hLH⟩ : ∃ LH, lg * H = LH := ⟨_, rfl⟩
  simp only [hm, hF, hH, hLH] at HWR HWL HFL HLL HCT HLS hpg HFI HPN hhb hlen e2 e3
  clear hN hM hd hl hm hF hH hLH
  obtain ⟨W, hW⟩ : ∃ W, W = w.alloc (.cells #[.slice op N cp, .slice oq M cq] 25) := ⟨_, rfl⟩
  have k0 : W.cell? ⟨w.heap.size, 0, none⟩ = some (.slice op N cp) := by rw [hW]; exact cell_new _ _ _ 0 _ rfl
  have k1 : W.cell? ⟨w.heap.size, 1, none⟩ = some (.slice oq M cq) := by rw [hW]; exact cell_new _ _ _ 1 _ rfl
  have HBW : Hid (Below w.heap.size w W) := by rw [hW]; exact balloc (Below.refl _ _) _
  have HW := hid hW
  have HB0 : Hid (Below W.heap.size W W) := Below.refl _ _
  obtain ⟨Z, hZ⟩ : ∃ Z, w.heap.size = Z := ⟨_, rfl⟩
  have HZ := hid hZ
  rw [hZ] at k0 k1
  have K0 := hid k0; have K1 := hid k1
  have hpm : m ≤ 2047 := by omega
  have HHB := hid hhb; have HLEN := hid hlen; have HPG := hid hpg
  clear hW hZ hhb hdl hpg hlen
  go_enter Tryz.func45, Tryz.ntmps45
  go_upto_region 2 with fail
  have e := HW.out
  try rw [HZ.out]
  simp only [← e]
  clear e HW
  go_wp2_with fail
  refine (HFI.out _).mono ?_
  rintro e w1 ⟨rfl, hb1⟩
  have HB1 : Hid (Below W.heap.size W w1) := hb1
  clear hb1 k0 k1
  go_wp2_with fail
  go_loopw [7, 9] (fun u i wr => ∃ k : Nat, u = strV (logPages d lg k) ∧ i = .int .i64 k ∧ k ≤ m ∧ Hid (Below W.heap.size W wr)) (fun _ i _ => m - (intOf i).toNat)
  case atStart => exact ⟨0, rfl, rfl, Nat.zero_le _, HB1⟩
  case round =>
    obtain ⟨k, rfl, rfl, hk, HB⟩ := hrel
    have e4 : IntKind.i64.wrap ((k : Int) * 64) = (k : Int) * 64 := by have := HHB.out; have := HPG.out; exact IntWalk.i64_in _ ⟨by omega, by omega⟩
    by_cases hlt : k < m
    · have hlt64 : (k : Int) * 64 < (len : Int) := by have := HPN.out; omega
      have HWRK := hid (fun w' hb => HWR.out w' hb k hlt)
      have HFLO := HFL.out
      have HS := HLS.out k
      have HLK := HLL.out k (by omega)
      have HWK := HWL.out k hlt
      have HST := hid HS
      obtain ⟨G, hG⟩ : ∃ G, F + k = G := ⟨_, rfl⟩
      have e5 : IntKind.i64.wrap ((F : Int) + (k : Int)) = (G : Int) := by have := HHB.out; have := HPG.out; unfold Hid at HFLO; rw [IntWalk.i64_in _ ⟨by omega, by omega⟩]; omega
      rw [hG] at HWRK HST HWK
      obtain ⟨P, hP⟩ : ∃ P, wrt d G = P := ⟨_, rfl⟩
      obtain ⟨L, hL⟩ : ∃ L, logPages d lg k = L := ⟨_, rfl⟩
      rw [hP] at HWRK HST HWK
      rw [hL] at HST HLK
      rw [hL]
      have hll : L.length + P.length ≤ 9223372036854775807 := by have := HHB.out; have := HPG.out; omega
      clear HS HLK HWK HFLO hG hP hL
      have k0 := keepc HB.out K0.out; have k1 := keepc HB.out K1.out
      go_wp2_with fail
      refine (HWRK.out _ (below_step HB.out HBW.out)).mono ?_
      rintro e w5 ⟨rfl, hb5⟩
      have HB5 := hid (below_step hb5 HB.out)
      clear hb5
      go_wp2_with fail
      go_roundw
      case rel => exact ⟨k + 1, by rw [HST.out], by go_num, by omega, HB5⟩
      case measure => simp [intOf]; omega
    · have hkM : k = m := by omega
      have hge : ¬ (k : Int) * 64 < (len : Int) := by have := HPN.out; omega
      subst hkM
      have hlen2 : (len : Int) ≤ ((logPages d lg k).length : Int) := by rw [HLL.out k (by omega)]; have := HPN.out; omega
      have HE := ext_take' (logPages d lg k) len
      have HB9 := hid (below_step HB.out HBW.out)
      go_wp2_with fail
      go_ret
      exact ⟨by rw [HCT.out]; rfl, HB9.out⟩
end Go.Proofs.YtifcgimpgbeocaaGreat
/- Plain: what Commit answers, case by case; the operations that a snapshot lays down, one dataset more, one record more. -/
set_option linter.unusedVariables false
set_option linter.unusedSimpArgs false
namespace Go.Proofs.YtifcgimpgbeocaaGreat
open Go.RowKit
theorem commitD_nil {st : St} (h : st.ops = []) : commitD st = (st, 0) := by unfold commitD; rw [if_pos h]
theorem commitD_full {st : St} (h : st.ops ≠ []) (ht : st.hd.1 ≠ 4294967295) (hr : room st < (nBytes st).length) : commitD st = (st, 144) := by unfold commitD; rw [if_neg h, if_neg ht, if_pos hr]
theorem commitD_ok {st : St} (h : st.ops ≠ []) (ht : st.hd.1 ≠ 4294967295) (hr : ¬ room st < (nBytes st).length) : commitD st = (commitSt st, 0) := by unfold commitD; rw [if_neg h, if_neg ht, if_neg hr]
def wrO (i : Nat) (x : Rec) : FOp := ((3 : Int), (i : Int), x.1, x.2)
theorem snap_app : ∀ (l m : List Ds) (k : Nat), snap k (l ++ m) = snap k l ++ snap (k + l.length) m
  | [], m, k => by simp [snap]
  | d :: l, m, k => by
    simp only [List.cons_append, snap, List.length_cons]
    rw [snap_app l m (k + 1), show k + 1 + l.length = k + (l.length + 1) by omega, List.append_assoc]
theorem snap_succ {now : List Ds} {k : Nat} {d : Ds} (h : now[k]? = some d) : snap 0 (now.take (k + 1)) = snap 0 (now.take k) ++ d.map (wrO k) := by
  obtain ⟨hk, rfl⟩ := List.getElem?_eq_some_iff.1 h
  rw [List.take_succ_eq_append_getElem hk, snap_app]
  have : (now.take k).length = k := by simp; omega
  rw [this, Nat.zero_add]
  simp only [snap, List.append_nil]
  rfl
theorem wr_succ {d : Ds} {j k : Nat} {r : Rec} (h : d[j]? = some r) (p : List FOp) : p ++ (d.take (j + 1)).map (wrO k) = (p ++ (d.take j).map (wrO k)) ++ [((3 : Int), (k : Int), r.1, r.2)] := by
  obtain ⟨hk, rfl⟩ := List.getElem?_eq_some_iff.1 h
  rw [List.take_succ_eq_append_getElem hk, List.map_append, List.append_assoc]
  rfl
theorem snap_len : ∀ (l : List Ds) (k : Nat), (∀ d ∈ l, d.length ≤ 64) → (snap k l).length ≤ l.length * 64
  | [], k, _ => by simp [snap]
  | d :: l, k, h => by
    simp only [snap, List.length_append, List.length_map, List.length_cons]
    have := snap_len l (k + 1) (fun x hx => h x (List.mem_cons_of_mem _ hx))
    have := h d (List.mem_cons_self ..)
    omega
theorem chg_bd {o : FOp} (h : chg o = true) : o.2.2.1.length ≤ 255 ∧ o.2.2.2.length ≤ 255 := by
  obtain ⟨-, -, ⟨-, h1⟩, h2⟩ := chg_parts h
  exact ⟨by omega, by omega⟩
theorem live_turn {st : St} (h : Live st) : st.hd.1 ≠ 4294967295 := by have := h.as_.turn; omega
end Go.Proofs.YtifcgimpgbeocaaGreat
/- Plain: the head that Open picks, page by page; operations carried out one by one. -/
set_option linter.unusedVariables false
set_option linter.unusedSimpArgs false
namespace Go.Proofs.YtifcgimpgbeocaaGreat
open Go.RowKit
def pick1 (cur : Hd) (x : Option Hd) : Hd := match x with
  | some b => if cur.1 < b.1 then b else cur
  | none => cur
def stepH (d : Dk) : Nat → Hd
  | 0 => (0, 0, 0, 0)
  | k + 1 => pick1 (stepH d k) (readHd d k)
theorem readHd_ok {d : Dk} {p : Nat} (h : headOk (wrt d p) p (halfN d.1.length) = true) : readHd d p = some (headOf (wrt d p)) := by unfold readHd; rw [if_pos h]
theorem readHd_no {d : Dk} {p : Nat} (h : headOk (wrt d p) p (halfN d.1.length) = false) : readHd d p = none := by unfold readHd; rw [h]; rfl
theorem readHd_parts {d : Dk} {p : Nat} {h : Hd} (e : readHd d p = some h) : 1 ≤ h.1 ∧ h.2.1 ≤ 1 ∧ 1 ≤ h.2.2.1 ∧ h.2.2.1 ≤ 8 ∧ h.2.2.2 ≤ 64 * halfN d.1.length := by
  unfold readHd at e
  split at e
  · rename_i ho
    obtain ⟨-, h2⟩ := headOk_ends ho
    simp only [Option.some.injEq] at e
    rw [e] at h2
    obtain ⟨a, -, b, c, f, g⟩ := hdOk_parts h2
    exact ⟨a, b, c, f, g⟩
  · cases e
theorem best_step {d : Dk} : (bestHd d = none ∧ (stepH d 2).1 = 0) ∨ (bestHd d = some (stepH d 2) ∧ 1 ≤ (stepH d 2).1 ∧ (stepH d 2).2.1 ≤ 1 ∧ 1 ≤ (stepH d 2).2.2.1 ∧ (stepH d 2).2.2.1 ≤ 8 ∧ (stepH d 2).2.2.2 ≤ 64 * halfN d.1.length) := by
  have e : stepH d 2 = pick1 (pick1 (0, 0, 0, 0) (readHd d 0)) (readHd d 1) := rfl
  rw [e]
  unfold bestHd
  cases h0 : readHd d 0 with
  | none =>
    cases h1 : readHd d 1 with
    | none => exact .inl ⟨rfl, rfl⟩
    | some b =>
      right
      have hb := readHd_parts h1
      have : pick1 (pick1 (0, 0, 0, 0) none) (some b) = b := by
        show (if 0 < b.1 then b else _) = b
        rw [if_pos (by omega)]
      rw [this]
      exact ⟨rfl, hb⟩
  | some a =>
    have ha := readHd_parts h0
    have e0 : pick1 (0, 0, 0, 0) (some a) = a := by
      show (if 0 < a.1 then a else _) = a
      rw [if_pos (by omega)]
    rw [e0]
    cases h1 : readHd d 1 with
    | none => exact .inr ⟨rfl, ha⟩
    | some b =>
      right
      have hb := readHd_parts h1
      show (if a.1 < b.1 then some b else some a) = some (if a.1 < b.1 then b else a) ∧ _
      show _ ∧ 1 ≤ (if a.1 < b.1 then b else a).1 ∧ (if a.1 < b.1 then b else a).2.1 ≤ 1 ∧ 1 ≤ (if a.1 < b.1 then b else a).2.2.1 ∧ (if a.1 < b.1 then b else a).2.2.1 ≤ 8 ∧ (if a.1 < b.1 then b else a).2.2.2 ≤ _
      split
      · exact ⟨rfl, hb⟩
      · exact ⟨rfl, ha⟩
theorem run_one {data e : List Ds} {l : List FOp} {k : Nat} {o : FOp} (h : runAll data (l.take k) = some e) (ho : l[k]? = some o) (he : (doData e o).2.2 = 0) : runAll data (l.take (k + 1)) = some (doData e o).1 := by
  rw [List.take_add_one, ho, runAll_append, h]
  simp [runAll, he]
theorem run_stop {data e : List Ds} {l : List FOp} {k : Nat} {o : FOp} (h : runAll data (l.take k) = some e) (ho : l[k]? = some o) (he : (doData e o).2.2 ≠ 0) : runAll data l = none := by
  obtain ⟨hk, rfl⟩ := List.getElem?_eq_some_iff.1 ho
  have : l = l.take k ++ l[k] :: l.drop (k + 1) := by simp
  rw [this, runAll_append]
  have e2 : runAll data ((l.take k ++ l[k] :: l.drop (k + 1)).take k) = runAll data (l.take k) := by rw [← this]
  rw [h]
  show runAll e (l[k] :: l.drop (k + 1)) = none
  rw [runAll, if_neg he]
theorem open_no {d : Dk} (h : isDk d = false) : openD d = (none, 142) := by unfold openD; rw [h]; rfl
theorem open_none {d : Dk} (h : isDk d = true) (hb : bestHd d = none) : openD d = (none, 143) := by unfold openD; rw [if_pos h, hb]
theorem open_undec {d : Dk} {h : Hd} (hd : isDk d = true) (hb : bestHd d = some h) (hc : decL (content d h.2.1 h.2.2.2) = none) : openD d = (none, 143) := by unfold openD; rw [if_pos hd, hb]; simp only; rw [hc]
theorem open_norun {d : Dk} {h : Hd} {ops : List FOp} (hd : isDk d = true) (hb : bestHd d = some h) (hc : decL (content d h.2.1 h.2.2.2) = some ops) (hr : runAll (empties h.2.2.1) ops = none) : openD d = (none, 143) := by
  unfold openD; rw [if_pos hd, hb]; simp only; rw [hc]; simp only; rw [hr]
theorem open_ok {d : Dk} {h : Hd} {ops : List FOp} {data : List Ds} (hd : isDk d = true) (hb : bestHd d = some h) (hc : decL (content d h.2.1 h.2.2.2) = some ops) (hr : runAll (empties h.2.2.1) ops = some data) : openD d = (some ⟨d, h, content d h.2.1 h.2.2.2, [], data, data, []⟩, 0) := by
  unfold openD; rw [if_pos hd, hb]; simp only; rw [hc]; simp only; rw [hr]
end Go.Proofs.YtifcgimpgbeocaaGreat
/- Decode$1: the deferred call of Decode. -/
set_option linter.unusedVariables false
set_option linter.unusedSimpArgs false
namespace Go.Proofs.YtifcgimpgbeocaaGreat
open Go.RowKit
attribute [local go_sem] Oper.semAt_some
theorem assert_short (W : World) (v : Value) : (Instr.typeAssert (.iface 125 v) 20 125 true).run Tryz.prog W = .ok (.tuple #[v, .bool true]) W := by kernel_rfl
set_option maxRecDepth 100000 in
theorem caught_panic (X Y : Nat) (older : List PanicEntry) (w : World) (v0 v1 : Value) (hx : w.cell? ⟨X, 0, none⟩ = some v0) (fx : w.frozen? ⟨X, 0, none⟩ = false) (hy : w.cell? ⟨Y, 0, none⟩ = some v1) (fy : w.frozen? ⟨Y, 0, none⟩ = false) (hne : ¬ Y = X) :
    CallsD Tryz.prog 69 #[.pointer (some ⟨X, 0, none⟩), .pointer (some ⟨Y, 0, none⟩)] (.panicking ({ v := .iface 125 (.agg #[]), recovered := false } :: older)) w fun e u' w' =>
      e = .returned (.tuple #[]) ∧ u' = .panicking ({ v := .iface 125 (.agg #[]), recovered := true } :: older) ∧ w' = (((w.alloc (.cells #[] 125)).setCell ⟨X, 0, none⟩ (.slice none 0 0)).setCell ⟨Y, 0, none⟩ (.int .i64 145)) := by
  have ha := fun W => assert_short W (.agg #[])
  have hx2 : (w.alloc (.cells #[] 125)).cell? ⟨X, 0, none⟩ = some v0 := Lib.cell?_alloc_some _ hx
  have hy2 : (w.alloc (.cells #[] 125)).cell? ⟨Y, 0, none⟩ = some v1 := Lib.cell?_alloc_some _ hy
  have fx2 : (w.alloc (.cells #[] 125)).frozen? ⟨X, 0, none⟩ = false := keepf (balloc (Below.refl _ _) _) hx fx
  have fy2 : (w.alloc (.cells #[] 125)).frozen? ⟨Y, 0, none⟩ = false := keepf (balloc (Below.refl _ _) _) hy fy
  refine callsD_of_wpS Tryz.func69 rfl fun c₀ cs hu => ?_
  apply wpS_seq
  apply wpS_region
  simp [wpOpsS, go_sem, recoverD, hu, Tryz.ntmps69, Exit.thenS]
  refine wpS_of_wp ?_
  go_wp2
  cases c₀
  simp_all [bodyPostS, results, Tryz.results69]
theorem caught_idle (X Y : Nat) (w : World) :
    CallsD Tryz.prog 69 #[.pointer (some ⟨X, 0, none⟩), .pointer (some ⟨Y, 0, none⟩)] .returning w fun e u' w' => e = .returned (.tuple #[]) ∧ u' = .returning ∧ w' = w := by
  refine callsD_of_wpS Tryz.func69 rfl fun c₀ cs hu => ?_
  apply wpS_seq
  apply wpS_region
  simp [wpOpsS, go_sem, recoverD, hu, Tryz.ntmps69, Exit.thenS]
  refine wpS_of_wp ?_
  go_wp2
  cases c₀
  simp_all [bodyPostS, results, Tryz.results69]
/-- What counted takes off. -/
def cntL : Bs → Option (Bs × Bs)
  | [] => none
  | c :: s => if c.toNat ≤ s.length then some (s.take c.toNat, s.drop c.toNat) else none
theorem cntL_cons (c : UInt8) (s : Bs) : cntL (c :: s) = if c.toNat ≤ s.length then some (s.take c.toNat, s.drop c.toNat) else none := rfl
theorem dec1_cnt (k f : UInt8) (t : Bs) : dec1 (k :: f :: t) = match cntL t with
    | none => none
    | some (key, t2) => if k.toNat = 5 then some (((k.toNat : Int), (f.toNat : Int), key, []), t2) else match cntL t2 with
      | none => none
      | some (d, t3) => some (((k.toNat : Int), (f.toNat : Int), key, d), t3) := by
  cases t with
  | nil => rfl
  | cons n r =>
    rw [dec1_cons, cntL_cons]
    by_cases hn : n.toNat ≤ r.length
    · rw [if_pos hn, if_pos hn]
      simp only
      by_cases h5 : k.toNat = 5
      · rw [if_pos h5, if_pos h5]
      · rw [if_neg h5, if_neg h5]
        cases hr : r.drop n.toNat with
        | nil => rfl
        | cons m q =>
          simp only [cntL_cons]
          by_cases hm : m.toNat ≤ q.length
          · rw [if_pos hm, if_pos hm]
          · rw [if_neg hm, if_neg hm]
    · rw [if_neg hn, if_neg hn]
theorem cnt_len {t a b : Bs} (h : cntL t = some (a, b)) : a.length + b.length < t.length := by
  cases t with
  | nil => cases h
  | cons c q =>
    rw [cntL_cons] at h
    split at h
    · simp only [Option.some.injEq, Prod.mk.injEq] at h
      obtain ⟨rfl, rfl⟩ := h
      simp; omega
    · cases h
theorem dec1_one (k : UInt8) : dec1 [k] = none := rfl
theorem counted_none (t : Bs) (w : World) (h : cntL t = none) : Calls Tryz.prog 71 #[strV t] w (fun e w' => e = .panicked shortP ∧ Below w.heap.size w w') := by
  cases t with
  | nil =>
    have H1 := hid (fun w => take_short [] 1 w (by simp))
    go_enter Tryz.func71, Tryz.ntmps71
    go_wp2_with fail
    refine (H1.out _).mono ?_
    rintro e w1 ⟨rfl, hb1⟩
    exact ⟨rfl, rfl, hb1⟩
  | cons c s =>
    have hs : s.length < c.toNat := by
      rw [cntL_cons] at h
      split at h
      · cases h
      · omega
    have H1 := hid (fun w => take_ok (c :: s) 1 w (by simp))
    have H2 := hid (fun w => take_short s c.toNat w hs)
    have x0 := fun w => strv_at ((c :: s).take 1) 0 .i64 (by simp) w
    have hc : byt ((c :: s).take 1) 0 = (c.toNat : Int) := rfl
    rw [hc] at x0
    have hw : IntKind.i64.wrap (c.toNat : Int) = (c.toNat : Int) := IntWalk.i64_in _ ⟨by omega, by have := c.toNat_lt; omega⟩
    have hc0 : ∀ (h : 0 < (ByteArray.mk #[c]).size), (ByteArray.mk #[c])[0]'h = c := fun _ => rfl
    have hw' : wrap64 (c.toNat : Int) = (c.toNat : Int) := by have := c.toNat_lt; unfold wrap64; omega
    clear hc h hs
    go_enter Tryz.func71, Tryz.ntmps71
    go_wp2_with fail
    refine (H1.out _).mono ?_
    rintro e w1 ⟨rfl, hb1⟩
    have HB1 := hid hb1
    clear hb1
    go_wp2_with fail
    refine (H2.out _).mono ?_
    rintro e w2 ⟨rfl, hb2⟩
    exact ⟨rfl, rfl, below_step hb2 HB1.out⟩
theorem counted_some (t a b : Bs) (w : World) (h : cntL t = some (a, b)) : Calls Tryz.prog 71 #[strV t] w (Ret (.tuple #[strV a, strV b]) w) := by
  cases t with
  | nil => cases h
  | cons c s =>
    rw [cntL_cons] at h
    split at h
    · rename_i hs
      simp only [Option.some.injEq, Prod.mk.injEq] at h
      obtain ⟨rfl, rfl⟩ := h
      exact counted_ok c s w hs
    · cases h
end Go.Proofs.YtifcgimpgbeocaaGreat
