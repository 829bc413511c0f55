/- CheckDisk. -/
import Derived.Test.YtifcgimpgbeocaaK8
import Derived.Test.YtifcgimpgbeocaaK4
import Derived.Test.YtifcgimpgbeocaaK6
import Derived.Test.YtifcgimpgbeocaaK1
import Derived.Test.YtifcgimpgbeocaaK7
set_option linter.unusedVariables false
set_option linter.unusedSimpArgs false
namespace Go.Proofs.Ytifcgimpgbeocaa
open Go.RowKit
attribute [local go_sem] Oper.semAt_some
theorem isDk_any (d : Dk) : isDk d = (decide (4 ≤ d.1.length ∧ d.1.length ≤ 4096) && (!d.1.any (fun x => x.length != 64) && !d.2.any (fun x => !isWt d.1.length x))) := by
  unfold isDk
  congr 1
  rw [List.all_eq_not_any_not, List.all_eq_not_any_not]
  rfl
set_option maxHeartbeats 1000000 in
set_option maxRecDepth 100000 in
theorem checkdisk_any (d : Dk) (vp vq : Value) (w : World) (hp : RdS w vp d.1) (hq : RdW w vq d.2) (hl : d.2.length ≤ 1000000000) : Calls Try.prog 70 #[.agg #[vp, vq]] w (Ret (.int .i64 (if isDk d = true then 0 else 142)) w) := by
  have hd := isDk_any d
  have hb0 := (Below.refl w.heap.size w).alloc (Nat.le_refl _) (.cells #[vp, vq] 27)
  have hx : (w.alloc (.cells #[vp, vq] 27)).cell? ⟨w.heap.size, 0, none⟩ = some vp := cell_new _ _ _ 0 _ rfl
  have hy : (w.alloc (.cells #[vp, vq] 27)).cell? ⟨w.heap.size, 1, none⟩ = some vq := cell_new _ _ _ 1 _ rfl
  have hvp : ∃ o c, vp = .slice o d.1.length c := by obtain ⟨o, c, e, -⟩ := hp; exact ⟨o, c, e⟩
  have HS := hid (fun w' (hb : Below w.heap.size w w') (h : d.1.length ≤ 4096) => hasS_any d.1 vp w' (hp.below hb) (by omega))
  have HW := hid (fun w' (hb : Below (w.alloc (.cells #[vp, vq] 27)).heap.size (w.alloc (.cells #[vp, vq] 27)) w') => hasW_any d.2 vq w.heap.size vp d.1.length hvp w' ((hq.below hb0).below hb) (keepc hb hx) hl)
  obtain ⟨op, cp, rfl, -, -⟩ := hp
  obtain ⟨oq, cq, rfl, -, -⟩ := hq
  obtain ⟨N, hN⟩ : ∃ N, d.1.length = N := ⟨_, rfl⟩
  obtain ⟨M, hM⟩ : ∃ M, d.2.length = M := ⟨_, rfl⟩
  obtain ⟨q1, hq1⟩ : ∃ q, d.1.any (fun x => x.length != 64) = q := ⟨_, rfl⟩
  obtain ⟨q2, hq2⟩ : ∃ q, d.2.any (fun x => !isWt d.1.length x) = q := ⟨_, rfl⟩
  rw [hq1, hq2, hN] at hd
  rw [hq1] at HS
  rw [hq2] at HW
  simp only [hN, hM] at HS HW hx hy hb0 ⊢
  have HB0 := hid hb0
  have HX := hid hx
  have HY := hid hy
  clear hq1 hq2 hvp hb0 hx hy hl
  clear hN hM
  by_cases h1 : N < 4
  · have hr : isDk d = false := by rw [hd]; simp; omega
    rw [hr, if_neg (by simp)]
    have g1 : decide ((N : Int) < 4) = true := by simp; omega
    clear hd hr HS HW HX HY
    go_enter Try.func70, Try.ntmps70
    go_wp2_with fail
    go_ret
    exact ⟨rfl, HB0.out⟩
  have g1 : decide ((N : Int) < 4) = false := by simp; omega
  by_cases h2 : 4096 < N
  · have hr : isDk d = false := by rw [hd]; simp; omega
    rw [hr, if_neg (by simp)]
    have g2 : decide (4096 < (N : Int)) = true := by simp; omega
    clear hd hr HS HW HX HY
    go_enter Try.func70, Try.ntmps70
    go_wp2_with fail
    go_ret
    exact ⟨rfl, HB0.out⟩
  have g2 : decide (4096 < (N : Int)) = false := by simp; omega
  have hdd : isDk d = (!q1 && !q2) := by rw [hd]; have : decide (4 ≤ N ∧ N ≤ 4096) = true := by simp; omega
                                         rw [this, Bool.true_and]
  have HS2 := hid (fun w' hb => HS.out w' hb (by omega))
  clear hd HS h1 h2
  cases q1 with
  | true =>
    have hr : isDk d = false := by rw [hdd]; rfl
    rw [hr, if_neg (by simp)]
    clear hdd hr HW
    go_enter Try.func70, Try.ntmps70
    go_wp2_with fail
    refine (HS2.out _ HB0.out).mono ?_
    rintro e w1 ⟨rfl, hb1⟩
    have HB1 := hid (below_step hb1 HB0.out)
    clear hb1
    go_wp2_with fail
    go_ret
    exact ⟨rfl, HB1.out⟩
  | false =>
    cases q2 with
    | true =>
      have hr : isDk d = false := by rw [hdd]; rfl
      rw [hr, if_neg (by simp)]
      clear hdd hr
      go_enter Try.func70, Try.ntmps70
      go_wp2_with fail
      refine (HS2.out _ HB0.out).mono ?_
      rintro e w1 ⟨rfl, hb1⟩
      have HB1 := hid (below_step hb1 HB0.out)
      have HBA := hid hb1
      have x1 := keepc hb1 HY.out
      clear hb1
      go_wp2_with fail
      refine (HW.out _ HBA.out).mono ?_
      rintro e w2 ⟨rfl, hb2⟩
      have HB2 := hid (below_step hb2 HB1.out)
      clear hb2
      go_wp2_with fail
      go_ret
      exact ⟨rfl, HB2.out⟩
    | false =>
      have hr : isDk d = true := by rw [hdd]; rfl
      rw [hr, if_pos rfl]
      clear hdd hr
      go_enter Try.func70, Try.ntmps70
      go_wp2_with fail
      refine (HS2.out _ HB0.out).mono ?_
      rintro e w1 ⟨rfl, hb1⟩
      have HB1 := hid (below_step hb1 HB0.out)
      have HBA := hid hb1
      have x1 := keepc hb1 HY.out
      clear hb1
      go_wp2_with fail
      refine (HW.out _ HBA.out).mono ?_
      rintro e w2 ⟨rfl, hb2⟩
      have HB2 := hid (below_step hb2 HB1.out)
      clear hb2
      go_wp2_with fail
      go_ret
      exact ⟨rfl, HB2.out⟩
end Go.Proofs.Ytifcgimpgbeocaa
/- crash. -/
set_option linter.unusedVariables false
set_option linter.unusedSimpArgs false
namespace Go.Proofs.Ytifcgimpgbeocaa
open Go.RowKit
attribute [local go_sem] Oper.semAt_some
/-- A call that returns a disk, all of it new. -/
def RetD1 (d : Dk) (w : World) (e : Ending) (w' : World) : Prop := ∃ vp vq, e = .returned (.agg #[vp, vq]) ∧ OS w' w.heap.size vp d.1 ∧ OW w' w.heap.size vq d.2 ∧ Below w.heap.size w w'
theorem crash_step {ps : List Bs} {ws : List Wt} {cuts : List Int} {k : Nat} {x : Wt} (h : ws[k]? = some x) : crashTo ps ws cuts (k + 1) = tear (crashTo ps ws cuts k) x (cutAt cuts k) := by
  rw [crashTo, h]
theorem ext_take (s : Bs) (C : Nat) : (⟨s.toArray⟩ : ByteArray).extract 0 C = ⟨(s.take C).toArray⟩ := by
  apply ByteArray.ext
  rw [ByteArray.data_extract]
  simp
theorem ext_drop (s : Bs) (C n : Nat) (h : s.length = n) : (⟨s.toArray⟩ : ByteArray).extract C n = ⟨(s.drop C).toArray⟩ := by
  apply ByteArray.ext
  rw [ByteArray.data_extract]
  simp [← h]
  exact List.take_of_length_le (by simp)
set_option maxHeartbeats 2000000 in
set_option maxRecDepth 100000 in
theorem crash_any (d : Dk) (vp vq : Value) (cuts : List Int) (vc : Value) (w : World) (hp : RdS w vp d.1) (hq : RdW w vq d.2) (hc : RdI w vc cuts) (hd : isDk d = true) (hl : d.2.length ≤ 1000000000) : Calls Try.prog 83 #[.agg #[vp, vq], vc] w (RetD1 (crashDk d cuts) w) := by
  have hlen := isDk_len hd
  have HPG := hid (fun k => crashTo_page d.1 d.2 cuts (fun s hs => by obtain ⟨i, hi⟩ := List.getElem?_of_mem hs; exact isDk_page hd hi) (fun x hx => (isDk_wait hd hx).2.2) k)
  have HWT := hid (fun x hx => isDk_wait hd (w := x) hx)
  have HCL := hid (fun w' (hb : Below w.heap.size w w') => cloneS_any d.1 vp w' (hp.below hb) (by omega))
  obtain ⟨N, hN⟩ : ∃ N, d.1.length = N := ⟨_, rfl⟩
  obtain ⟨M, hM⟩ : ∃ M, d.2.length = M := ⟨_, rfl⟩
  obtain ⟨op, capp, rfl, -, -⟩ := hp
  obtain ⟨oq, capq, rfl, hcapq, hcq⟩ := hq
  obtain ⟨oc, capc, rfl, hcapc, hcc⟩ := hc
  have HQ := hid hcq
  have HC := hid hcc
  have HN := hid hN
  have HM := hid hM
  have HR := hid (show crashDk d cuts = (crashTo d.1 d.2 cuts M, []) by unfold crashDk; rw [hM])
  obtain ⟨K, hK⟩ : ∃ K, cuts.length = K := ⟨_, rfl⟩
  have HK := hid hK
  simp only [hN, hM, hK] at HCL HWT hcapq hcapc hl hlen ⊢
  clear hN hM hK hcq hcc hd
  obtain ⟨B, hB⟩ : ∃ B, w.heap.size = B := ⟨_, rfl⟩
  have HB := hid hB
  have hx0 := ownc_new (w.alloc (.cells #[.slice op N capp, .slice oq M capq] 27)) #[.slice none 0 0, .slice none 0 0] 27 0 (by decide)
  have hx1 := ownc_new (w.alloc (.cells #[.slice op N capp, .slice oq M capq] 27)) #[.slice none 0 0, .slice none 0 0] 27 1 (by decide)
  have hb0 := ((Below.refl w.heap.size w).alloc (Nat.le_refl _) (.cells #[.slice op N capp, .slice oq M capq] 27)).alloc (by rw [World.size_alloc]; omega) (.cells #[.slice none 0 0, .slice none 0 0] 27)
  have hy : ((w.alloc (.cells #[.slice op N capp, .slice oq M capq] 27)).alloc (.cells #[.slice none 0 0, .slice none 0 0] 27)).cell? ⟨w.heap.size, 1, none⟩ = some (.slice oq M capq) := Lib.cell?_alloc_some (.cells #[.slice none 0 0, .slice none 0 0] 27) (cell_new w #[.slice op N capp, .slice oq M capq] 27 1 _ rfl)
  rw [World.size_alloc] at hx0 hx1
  have hc1 := HCL.out _ hb0
  have HB0 := hid hb0
  have HX0 := hid hx0
  have HX1 := hid hx1
  have HY := hid hy
  have HCL1 := hid hc1
  clear hb0 hx0 hx1 hy hc1 HCL
  go_enter Try.func83, Try.ntmps83
  go_wp2_with fail
  refine (HCL1.out).mono ?_
  rintro e w1 ⟨u5, rfl, ho, hb1⟩
  have HB1 := hid (below_step hb1 HB0.out)
  have HX0 := hid (keepOwn hb1 HX0.out)
  have HX1 := hid (keepOwn hb1 HX1.out)
  have hy := keepc hb1 HY.out
  have HO := hid (OS.mono ho (B' := B + 2) (by rw [← hB]; simp))
  clear hb1 ho
  obtain ⟨g, capg, rfl, hgB, hgl, hgc, -, -⟩ := OS.cells HO.out (by rw [HN.out]; omega)
  rw [HN.out] at HO hgc ⊢
  simp only [hB] at HX0 HX1 HB1 hy ⊢
  clear hB HB0
  go_wp2_with fail
  go_loopw [15] (fun i wr => ∃ k : Nat, i = .int .i64 k ∧ k ≤ M ∧ Hid (OS wr (B + 2) (.slice (some ⟨g, 0, none⟩) N capg) (crashTo d.1 d.2 cuts k)) ∧ Hid (Below B w wr) ∧ Hid (OwnC wr ⟨B + 1, 0, none⟩) ∧ Hid (OwnC wr ⟨B + 1, 1, none⟩) ∧ g < wr.heap.size) (fun i _ => M - (intOf i).toNat)
  case atStart => exact ⟨0, rfl, Nat.zero_le _, HO, HB1, HX0, HX1, hgl⟩
  case round =>
    clear hy HX0 HX1 HB1 HO HY HCL1 hgl
    obtain ⟨k, rfl, hk, HO, HBW, HY0, HY1, hgl⟩ := hrel
    by_cases hlt : k < M
    · obtain ⟨x, hx⟩ : ∃ x, d.2[k]? = some x := ⟨_, List.getElem?_eq_getElem (by have := HM.out; omega)⟩
      have hHQ := HQ.out
      rcases hHQ with hq | ⟨bq, offq, rfl, hbq, hq⟩
      · rw [hq] at hx; simp at hx
      obtain ⟨c0, c1⟩ := hq k x hx
      have hbB : bq < B := by have := HB.out; omega
      have c0 := keepB HBW.out (a := ⟨bq, offq + k * 2, none⟩) hbB c0
      have c1 := keepB HBW.out (a := ⟨bq, offq + k * 2 + 1, none⟩) hbB c1
      obtain ⟨hw0, hw1, hw2⟩ := HWT.out x (List.mem_of_getElem? hx)
      have hst := crash_step (ps := d.1) (cuts := cuts) hx
      obtain ⟨a, s⟩ := x
      simp only at c0 c1 hw0 hw1 hw2
      obtain ⟨p, rfl⟩ : ∃ p : Nat, a = p := ⟨a.toNat, by omega⟩
      have hpl : p < N := by omega
      obtain ⟨P, hP⟩ : ∃ P, crashTo d.1 d.2 cuts k = P := ⟨_, rfl⟩
      have hPl : P.length = N := by rw [← hP, crashTo_len]; exact HN.out
      obtain ⟨old, hold⟩ : ∃ old, P[p]? = some old := ⟨_, List.getElem?_eq_getElem (by omega)⟩
      have ho64 : old.length = 64 := HPG.out k old (by rw [hP]; exact List.mem_of_getElem? hold)
      obtain ⟨C, hC⟩ : ∃ C, cutAt cuts k = C := ⟨_, rfl⟩
      have hC64 : C ≤ 64 := by rw [← hC]; exact cutAt_le _ _
      rw [hP] at HO hst
      rw [hC] at hst
      have HST : Hid (crashTo d.1 d.2 cuts (k + 1) = P.set p (s.take C ++ old.drop C)) := by
        show _ = _
        rw [hst]; unfold tear; simp only [Int.toNat_natCast, hold, Option.getD_some]
      obtain ⟨g', cap', hv, -, -, -, hfz, hcc⟩ := OS.cells HO.out (by omega)
      simp only [Value.slice.injEq, Option.some.injEq, Addr.mk.injEq, true_and, and_true] at hv
      obtain ⟨rfl, -, rfl⟩ := hv
      have r0 : wr.cell? ⟨g, p, none⟩ = some (strV old) := hcc p _ (encS_at P p old hold)
      have rf := hfz p
      have HSET := hid (fun W (h : OS W (B + 2) (.slice (some ⟨g, 0, none⟩) N capg) P) => OS.set (s := s.take C ++ old.drop C) h hPl hpl)
      have HCC := hid hC
      have hpN : (p : Int) < (N : Int) := by omega
      have hC1 : (C : Int) ≤ (s.length : Int) := by omega
      have hC2 : (C : Int) ≤ (old.length : Int) := by omega
      have hC3 : (s.take C).length + (old.drop C).length ≤ 9223372036854775807 := by simp; omega
      have r1 := Lib.cell?_alloc_some (.cells #[.int .i64 (p : Int), strV s] 112) r0
      have b0 : (wr.alloc (.cells #[.int .i64 (p : Int), strV s] 112)).cell? ⟨wr.heap.size, 0, none⟩ = some (.int .i64 (p : Int)) := cell_new _ _ _ 0 _ rfl
      have b1 : (wr.alloc (.cells #[.int .i64 (p : Int), strV s] 112)).cell? ⟨wr.heap.size, 1, none⟩ = some (strV s) := cell_new _ _ _ 1 _ rfl
      have hE1 := ext_take s C
      have hE2 := ext_drop old C 64 ho64
      have hnew : ∀ (wx : World), wx = ((wr.setCell ⟨g, p, none⟩ (strV (s.take C ++ old.drop C))).alloc (.cells #[.int .i64 (p : Int), strV s] 112)).drew → Hid (OS wx (B + 2) (.slice (some ⟨g, 0, none⟩) N capg) (crashTo d.1 d.2 cuts (k + 1))) ∧ Hid (Below B w wx) ∧ Hid (OwnC wx ⟨B + 1, 0, none⟩) ∧ Hid (OwnC wx ⟨B + 1, 1, none⟩) ∧ g < wx.heap.size := by
        rintro wx rfl
        obtain ⟨h1, h2⟩ := HSET.out wr HO.out
        have hb := ((Below.refl (wr.setCell ⟨g, p, none⟩ (strV (s.take C ++ old.drop C))).heap.size (wr.setCell ⟨g, p, none⟩ (strV (s.take C ++ old.drop C)))).alloc (Nat.le_refl _) (.cells #[.int .i64 (p : Int), strV s] 112)).drew
        have hBz := HBW.out.size
        have hBe := HB.out
        refine ⟨?_, ?_, ?_, ?_, ?_⟩
        · show OS _ _ _ _
          rw [HST.out]
          exact h1.below hb
        · exact (((HBW.out.setCell (p := ⟨g, p, none⟩) (by show B ≤ g; omega) _).alloc (by simp [World.setCell]; omega) _).drew)
        · exact keepOwn hb (HY0.out.set _ _)
        · exact keepOwn hb (HY1.out.set _ _)
        · simp [World.setCell]; omega
      have HNEW := hid hnew
      clear hq hx hst hP hPl hold hfz hcc hC hw0 hw1 hnew
      by_cases hkK : k < K
      · obtain ⟨c, hc⟩ : ∃ c, cuts[k]? = some c := ⟨_, List.getElem?_eq_getElem (by have := HK.out; omega)⟩
        have hHC := HC.out
        rcases hHC with hq | ⟨bc, offc, rfl, hbc, hq⟩
        · rw [hq] at hc; simp at hc
        have d0 := keepB HBW.out (a := ⟨bc, offc + k, none⟩) (by simp only; have := HB.out; omega) (hq k c hc)
        have hCe : (min (max c 0) 64) = (C : Int) := by
          have := HCC.out; unfold cutAt at this; rw [hc] at this; simp only at this; unfold clamp at this; omega
        have d1 := Lib.cell?_alloc_some (.cells #[.int .i64 (p : Int), strV s] 112) d0
        clear hq hc
        go_wp2_with fail
        go_region
        all_goals
          try simp only [hE1, hE2, str_app]
          obtain ⟨wx, hwx⟩ : ∃ wx, ((wr.setCell ⟨g, p, none⟩ (strV (s.take C ++ old.drop C))).alloc (.cells #[.int .i64 (p : Int), strV s] 112)).drew = wx := ⟨_, rfl⟩
          obtain ⟨HN1, HN2, HN3, HN4, HN5⟩ := HNEW.out wx hwx.symm
          first | rw [hwx] | skip
          go_wp2_with fail
          go_roundw
          case rel => exact ⟨k + 1, by go_num, by omega, HN1, HN2, HN3, HN4, HN5⟩
          case measure => simp [intOf]; omega
      · have hCe : C = 0 := by
          have := HCC.out; unfold cutAt at this; rw [List.getElem?_eq_none (by have := HK.out; omega)] at this; exact this.symm
        subst hCe
        simp only [List.take_zero, List.drop_zero, List.nil_append, List.length_nil] at hE1 hE2 HNEW hC3
        go_wp2_with fail
        go_region
        all_goals
          obtain ⟨wx, hwx⟩ : ∃ wx, ((wr.setCell ⟨g, p, none⟩ (strV old)).alloc (.cells #[.int .i64 (p : Int), strV s] 112)).drew = wx := ⟨_, rfl⟩
          obtain ⟨HN1, HN2, HN3, HN4, HN5⟩ := HNEW.out wx hwx.symm
          first | rw [hwx] | skip
          go_wp2_with fail
          go_roundw
          case rel => exact ⟨k + 1, by go_num, by omega, HN1, HN2, HN3, HN4, HN5⟩
          case measure => simp [intOf]; omega
    · have hkM : k = M := by omega
      subst hkM
      obtain ⟨⟨v0, x0⟩, f0⟩ := HY0.out
      obtain ⟨⟨v1, x1⟩, f1⟩ := HY1.out
      have hz := World.block_lt_of_cell? _ _ x0
      go_wp2_with fail
      exact bodyPost_ret (v := .agg #[.slice (some ⟨g, 0, none⟩) N capg, .slice none 0 0]) (by simp [results, Try.results83, go_sem, x0, x1, hz]) rfl
        ⟨_, _, rfl, by rw [HR.out, HB.out]; exact OS.mono (ownsRow_setCell_other (ownsRow_setCell_other HO.out (by simp [Value.ownBlock]; omega) _) (by simp [Value.ownBlock]; omega) _) (by omega), by rw [HR.out]; exact oW_nil _ _, by rw [HB.out]; exact (HBW.out.setCell (by simp only; omega) _).setCell (by simp only; omega) _⟩
end Go.Proofs.Ytifcgimpgbeocaa
/- act, Act. -/
set_option linter.unusedVariables false
set_option linter.unusedSimpArgs false
namespace Go.Proofs.Ytifcgimpgbeocaa
open Go.RowKit
attribute [local go_sem] Oper.semAt_some
theorem drew_below (w : World) : Below w.heap.size w w.drew := (Below.refl _ _).drew
/-- What a call does that keeps its result, two cells, in block b. -/
def B2 (W : World) (b : Nat) (w : World) : Prop := Below W.heap.size W w ∧ OwnC w ⟨b, 0, none⟩ ∧ OwnC w ⟨b, 1, none⟩
theorem B2.below {W w w1 : World} {b : Nat} (h : B2 W b w) (k : Below w.heap.size w w1) : B2 W b w1 := ⟨below_step k h.1, keepOwn k h.2.1, keepOwn k h.2.2⟩
theorem B2.drew {W w : World} {b : Nat} (h : B2 W b w) : B2 W b w.drew := h.below (drew_below w)
theorem B2.alloc {W w : World} {b : Nat} (h : B2 W b w) (o : Obj) : B2 W b (w.alloc o) := h.below ((Below.refl _ _).alloc (Nat.le_refl _) _)
theorem own_grown' {w w1 : World} {p : Addr} {row : Option Nat} (h : OwnC w p) (hg : w.grownBy w1 row) (h2 : row ≠ some p.block) : OwnC w1 p := by
  obtain ⟨⟨v, hv⟩, hf⟩ := h
  have hq := hg.block p.block (World.block_lt_of_cell? w _ hv) fun e => h2 e.symm
  exact ⟨⟨v, (World.cell?_of_block hq).trans hv⟩, (World.frozen?_of_block hq).trans hf⟩
theorem B2.grown {W w w1 : World} {b : Nat} {row : Option Nat} (h : B2 W b w) (hg : w.grownBy w1 row) (h1 : ∀ k, row = some k → W.heap.size ≤ k) (h2 : row ≠ some b) : B2 W b w1 :=
  ⟨h.1.grown hg h.1.size h1, own_grown' h.2.1 hg h2, own_grown' h.2.2 hg h2⟩
theorem B2.set {W w : World} {b : Nat} (h : B2 W b w) (hb : W.heap.size ≤ b) (i : Nat) (v : Value) : B2 W b (w.setCell ⟨b, i, none⟩ v) := ⟨h.1.setCell (by exact hb) _, h.2.1.set _ _, h.2.2.set _ _⟩
theorem B2.lt {W w : World} {b : Nat} (h : B2 W b w) : b < w.heap.size := by obtain ⟨⟨u, hu⟩, -⟩ := h.2.1; exact World.block_lt_of_cell? w _ hu
theorem OS.past {w w' : World} {B B' : Nat} {u v : Value} {l : List Bs} {m : List Wt} (h : OS w B u l) (k : OW w B' v m) (hg : w.grownBy w' v.ownBlock) : OS w' B u l := World.ownsRow.kept h hg (rows_apart h k (by decide))
theorem B2.new (W : World) (t : TypeId) (u v : Value) : B2 W W.heap.size (W.alloc (.cells #[u, v] t)) := ⟨(Below.refl _ _).alloc (Nat.le_refl _) _, ownc_new W #[u, v] t 0 (by simp), ownc_new W #[u, v] t 1 (by simp)⟩
set_option maxHeartbeats 1000000 in
set_option maxRecDepth 100000 in
theorem act_write (d : Dk) (x : Wt) (vp vq : Value) (w : World) (hp : RdS w vp d.1) (hq : RdW w vq d.2) (hl1 : d.1.length ≤ 4096) (hl : d.2.length ≤ 1000000) : Calls Try.prog 114 #[.agg #[vp, vq], .agg #[.bool false, .int .i64 x.1, strV x.2]] w (RetD1 (d.1, d.2 ++ [x]) w) := by
  have hb0 := ((Below.refl w.heap.size w).alloc (Nat.le_refl _) (.cells #[vp, vq] 27)).alloc (by rw [World.size_alloc]; omega) (.cells #[.bool false, .int .i64 x.1, strV x.2] 104)
  have hx0 := Lib.cell?_alloc_some (.cells #[.bool false, .int .i64 x.1, strV x.2] 104) (cell_new w #[vp, vq] 27 0 vp rfl)
  have hx1 := Lib.cell?_alloc_some (.cells #[.bool false, .int .i64 x.1, strV x.2] 104) (cell_new w #[vp, vq] 27 1 vq rfl)
  have hx2 := cell_new (w.alloc (.cells #[vp, vq] 27)) #[.bool false, .int .i64 x.1, strV x.2] 104 0 _ rfl
  have hx3 := cell_new (w.alloc (.cells #[vp, vq] 27)) #[.bool false, .int .i64 x.1, strV x.2] 104 1 _ rfl
  have hx4 := cell_new (w.alloc (.cells #[vp, vq] 27)) #[.bool false, .int .i64 x.1, strV x.2] 104 2 _ rfl
  rw [World.size_alloc] at hx2 hx3 hx4
  have HS := hid (fun w' (hb : Below w.heap.size w w') => cloneS_any d.1 vp w' (hp.below hb) (by omega))
  have HW := hid (fun w' (hb : Below w.heap.size w w') => cloneW_any d.2 vq w' (hq.below hb) (by omega))
  obtain ⟨op, cp, rfl, -, -⟩ := hp
  obtain ⟨oq, cq, rfl, -, -⟩ := hq
  have HL := hid hl
  clear hl hl1
  obtain ⟨N, hN⟩ : ∃ N, d.1.length = N := ⟨_, rfl⟩
  obtain ⟨M, hM⟩ : ∃ M, d.2.length = M := ⟨_, rfl⟩
  simp only [hN, hM] at hb0 hx0 hx1 hx2 hx3 hx4 HS HW ⊢
  clear hN hM
  have HB0 := hid hb0; have HX0 := hid hx0; have HX1 := hid hx1; have HX2 := hid hx2; have HX3 := hid hx3; have HX4 := hid hx4
  clear hb0 hx0 hx1 hx2 hx3 hx4
  obtain ⟨a, s⟩ := x
  go_enter Try.func114, Try.ntmps114
  go_wp2_with fail
  obtain ⟨W, hW⟩ : ∃ W, W = ((w.alloc (.cells #[.slice op N cp, .slice oq M cq] 27)).alloc (.cells #[.bool false, .int .i64 a, strV s] 104)) := ⟨_, rfl⟩
  have hzz : w.heap.size + 1 + 1 = W.heap.size := by rw [hW]; simp
  simp only [← hW, hzz] at HB0 HX0 HX1 HX2 HX3 HX4 ⊢
  have k0 := HX0.out; have k1 := HX1.out; have k3 := HX3.out; have k4 := HX4.out
  clear hW
  have HBW := hid (B2.new W 27 (.slice none 0 0) (.slice none 0 0))
  have hc4 : ∀ wx : World, ∀ j u, (encW [((a, s) : Wt)])[j]? = some u → (wx.alloc (.cells #[.int .i64 a, strV s] 112)).cell? ⟨wx.heap.size, j, none⟩ = some u := fun wx => cellsW _ _ _ (cell_new _ _ _ 0 _ rfl) (cell_new _ _ _ 1 _ rfl)
  have HC4 := hid hc4
  clear hc4
  have HCS : Hid (∀ j u, (encW [((a, s) : Wt)])[j]? = some u → (((W.alloc (.cells #[.slice none 0 0, .slice none 0 0] 27)).drew).alloc (.cells #[.int .i64 a, strV s] 112)).cell? ⟨W.heap.size + 1, j, none⟩ = some u) := fun j u h => by have := HC4.out (W.alloc (.cells #[.slice none 0 0, .slice none 0 0] 27)).drew j u h; simpa using this
  go_region_held3 (fun w' => B2 W W.heap.size w' ∧ w'.cell? ⟨w.heap.size, 0, none⟩ = some (.slice op N cp) ∧ w'.cell? ⟨w.heap.size, 1, none⟩ = some (.slice oq M cq) ∧ w'.cell? ⟨w.heap.size + 1, 1, none⟩ = some (.int .i64 a) ∧ w'.cell? ⟨w.heap.size + 1, 2, none⟩ = some (strV s))
    ((refine (fun hS => ⟨hS, keepc hS.1 k0, keepc hS.1 k1, keepc hS.1 k3, keepc hS.1 k4⟩ : B2 W W.heap.size _ → _) ?_; first | exact HBW.out.drew | exact hb4 | exact hb4.set (Nat.le_refl _) _ _ | exact (hb4.set (Nat.le_refl _) _ _).set (Nat.le_refl _) _ _ | exact B2.below (And.left (by assumption)) hbb | exact B2.below (And.left (by assumption)) hba | exact B2.alloc (And.left (by assumption)) _))
    (first
      | (go_at_call 76; refine (HS.out _ (below_step (And.left (And.left (by assumption))) HB0.out)).mono ?_; rintro e wa ⟨u1, rfl, ho1, hba⟩; obtain ⟨o1, c1, rfl, -, -⟩ := ho1.rd; have HO1 := hid (OS.mono ho1 (B' := W.heap.size + 1) (B2.lt (And.left (by assumption)))); clear ho1)
      | (go_at_call 77; refine (HW.out _ (below_step (And.left (And.left (by assumption))) HB0.out)).mono ?_; rintro e wb ⟨u2, rfl, ho2, hbb⟩; have HO2 := hid (OW.mono ho2 (B' := W.heap.size + 1) (B2.lt (And.left (by assumption)))); clear ho2; have HO1 := hid (HO1.out.below (by first | exact hbb | exact ((Below.refl _ _).alloc (Nat.le_refl _) _).trans (hbb.mono (by rw [World.size_alloc]; omega)))))
      | (refine step_appW (by rfl) (.tmp 19) (.tmp 25) (by rfl) (W.heap.size + 1) u2 d.2 (a, s) wb.heap.size 1 (by simp [Act.eval, Act.put]) (by simp [Act.eval, Act.put]) (HO2.out.below ((Below.refl _ _).alloc (Nat.le_refl _) _)) (HC4.out _) HL.out (B2.lt (And.left (by assumption))) ?_; intro u3 w4 how hgw hat; have hb4 : B2 W W.heap.size w4 := B2.grown (And.left (by assumption)) hgw (fun k hk => by have := (World.ownsRow.lt HO2.out k hk).1; omega) (fun e => by have := (World.ownsRow.lt HO2.out _ e).1; omega); obtain ⟨o3, c3, rfl, -, -⟩ := how.rd; have HO3 := hid how; have HO1 := hid (OS.past (HO1.out.below (by first | exact Below.refl _ _ | exact (Below.refl _ _).alloc (Nat.le_refl _) _)) (HO2.out.below (by first | exact Below.refl _ _ | exact (Below.refl _ _).alloc (Nat.le_refl _) _)) hgw); obtain ⟨⟨v0, y0⟩, f0⟩ := hb4.2.1; obtain ⟨⟨v1, y1⟩, f1⟩ := hb4.2.2; clear how hgw hat)
      | (refine step_appW (by rfl) (.tmp 19) (.tmp 25) (by rfl) (W.heap.size + 1) u2 d.2 (a, s) wa.heap.size 1 (by simp [Act.eval, Act.put]) (by simp [Act.eval, Act.put]) HO2.out (fun j u h => keepc hbb (HC4.out _ j u h)) HL.out (B2.lt (And.left (by assumption))) ?_; intro u3 w4 how hgw hat; have hb4 : B2 W W.heap.size w4 := B2.grown (And.left (by assumption)) hgw (fun k hk => by have := (World.ownsRow.lt HO2.out k hk).1; omega) (fun e => by have := (World.ownsRow.lt HO2.out _ e).1; omega); obtain ⟨o3, c3, rfl, -, -⟩ := how.rd; have HO3 := hid how; have HO1 := hid (OS.past (HO1.out.below (by first | exact Below.refl _ _ | exact (Below.refl _ _).alloc (Nat.le_refl _) _)) (HO2.out.below (by first | exact Below.refl _ _ | exact (Below.refl _ _).alloc (Nat.le_refl _) _)) hgw); obtain ⟨⟨v0, y0⟩, f0⟩ := hb4.2.1; obtain ⟨⟨v1, y1⟩, f1⟩ := hb4.2.2; clear how hgw hat)
      | (refine step_appW (by rfl) (.tmp 19) (.tmp 25) (by rfl) (W.heap.size + 1) u2 d.2 (a, s) (W.heap.size + 1) 1 (by simp [Act.eval, Act.put]) (by simp [Act.eval, Act.put]) HO2.out (fun j u h => keepc hbb (keepc hba (HCS.out j u h))) HL.out (B2.lt (And.left (by assumption))) ?_; intro u3 w4 how hgw hat; have hb4 : B2 W W.heap.size w4 := B2.grown (And.left (by assumption)) hgw (fun k hk => by have := (World.ownsRow.lt HO2.out k hk).1; omega) (fun e => by have := (World.ownsRow.lt HO2.out _ e).1; omega); obtain ⟨o3, c3, rfl, -, -⟩ := how.rd; have HO3 := hid how; have HO1 := hid (OS.past (HO1.out.below (by first | exact Below.refl _ _ | exact (Below.refl _ _).alloc (Nat.le_refl _) _)) (HO2.out.below (by first | exact Below.refl _ _ | exact (Below.refl _ _).alloc (Nat.le_refl _) _)) hgw); obtain ⟨⟨v0, y0⟩, f0⟩ := hb4.2.1; obtain ⟨⟨v1, y1⟩, f1⟩ := hb4.2.2; clear how hgw hat)
      | (fail "x"))
  all_goals
    go_wp2_with fail
    have hz4 := hb4.lt
    have e3 : (d.2 ++ [((a, s) : Wt)]).length = d.2.length + 1 := by simp
    have n1 : (Value.slice o1 d.1.length c1).ownBlock ≠ some W.heap.size := fun e => by have := (World.ownsRow.lt HO1.out _ e).1; omega
    have n3 : (Value.slice o3 (d.2 ++ [((a, s) : Wt)]).length c3).ownBlock ≠ some W.heap.size := fun e => by have := (World.ownsRow.lt HO3.out _ e).1; omega
    exact bodyPost_ret (v := .agg #[.slice o1 d.1.length c1, .slice o3 (d.2 ++ [(a, s)]).length c3]) (by simp [results, Try.results114, go_sem, y0, y1, f0, f1, hz4, e3]) rfl
      ⟨_, _, rfl, OS.mono (ownsRow_setCell_other (ownsRow_setCell_other HO1.out n1 _) n1 _) (by omega), OW.mono (ownsRow_setCell_other (ownsRow_setCell_other HO3.out n3 _) n3 _) (by omega), below_step ((hb4.1.setCell (by simp) _).setCell (by simp) _) HB0.out⟩
set_option maxHeartbeats 1000000 in
set_option maxRecDepth 100000 in
theorem act_sync (d : Dk) (p : Int) (s : Bs) (vp vq : Value) (w : World) (hp : RdS w vp d.1) (hq : RdW w vq d.2) (hd : isDk d = true) (hl : d.2.length ≤ 1000000000) : Calls Try.prog 114 #[.agg #[vp, vq], .agg #[.bool true, .int .i64 p, strV s]] w (RetD1 (crashDk d (List.replicate d.2.length 64)) w) := by
  have hb0 := ((Below.refl w.heap.size w).alloc (Nat.le_refl _) (.cells #[vp, vq] 27)).alloc (by rw [World.size_alloc]; omega) (.cells #[.bool true, .int .i64 p, strV s] 104)
  have hx0 := Lib.cell?_alloc_some (.cells #[.bool true, .int .i64 p, strV s] 104) (cell_new w #[vp, vq] 27 0 vp rfl)
  have hx1 := Lib.cell?_alloc_some (.cells #[.bool true, .int .i64 p, strV s] 104) (cell_new w #[vp, vq] 27 1 vq rfl)
  have HR := hid (fun b w' hc => rptI_any 64 b d.2.length w' hc hl)
  have HC := hid (fun w' vc (hb : Below w.heap.size w w') (hc : RdI w' vc (List.replicate d.2.length 64)) => crash_any d vp vq (List.replicate d.2.length 64) vc w' (hp.below hb) (hq.below hb) hc hd hl)
  obtain ⟨op, cp, rfl, -, -⟩ := hp
  obtain ⟨oq, cq, rfl, -, -⟩ := hq
  clear hl hd
  obtain ⟨N, hN⟩ : ∃ N, d.1.length = N := ⟨_, rfl⟩
  obtain ⟨M, hM⟩ : ∃ M, d.2.length = M := ⟨_, rfl⟩
  simp only [hN, hM] at hb0 hx0 hx1 HR HC ⊢
  obtain ⟨L, hL⟩ : ∃ L, List.replicate M (64 : Int) = L := ⟨_, rfl⟩
  rw [hL] at HR HC ⊢
  obtain ⟨D, hD⟩ : ∃ D, crashDk d L = D := ⟨_, rfl⟩
  rw [hD] at HC ⊢
  clear hN hM hL hD
  have HB0 := hid hb0; have HX0 := hid hx0; have HX1 := hid hx1
  clear hb0 hx0 hx1
  go_enter Try.func114, Try.ntmps114
  go_wp2_with fail
  obtain ⟨W, hW⟩ : ∃ W, W = ((w.alloc (.cells #[.slice op N cp, .slice oq M cq] 27)).alloc (.cells #[.bool true, .int .i64 p, strV s] 104)) := ⟨_, rfl⟩
  have hzz : w.heap.size + 1 + 1 = W.heap.size := by rw [hW]; simp
  simp only [← hW, hzz] at HB0 HX0 HX1 ⊢
  have k0 := HX0.out; have k1 := HX1.out
  clear hW
  have HBW := hid (B2.new W 27 (.slice none 0 0) (.slice none 0 0))
  have HCS : Hid ((((W.alloc (.cells #[.slice none 0 0, .slice none 0 0] 27)).drew).alloc (.cells #[.int .i64 64] 3)).cell? ⟨W.heap.size + 1, 0, none⟩ = some (.int .i64 64)) := by have := cell_new (W.alloc (.cells #[.slice none 0 0, .slice none 0 0] 27)).drew #[.int .i64 64] 3 0 _ rfl; unfold Hid; simpa using this
  go_region_held3 (fun w' => B2 W W.heap.size w' ∧ w'.cell? ⟨w.heap.size, 0, none⟩ = some (.slice op N cp) ∧ w'.cell? ⟨w.heap.size, 1, none⟩ = some (.slice oq M cq))
    ((refine (fun hS => ⟨hS, keepc hS.1 k0, keepc hS.1 k1⟩ : B2 W W.heap.size _ → _) ?_; first | exact HBW.out.drew | exact (hb4.set (Nat.le_refl _) _ _).set (Nat.le_refl _) _ _ | exact hb4 | exact B2.below (And.left (by assumption)) hba | exact B2.alloc (And.left (by assumption)) _))
    (first
      | (go_at_call 139; refine (HR.out _ _ HCS.out).mono ?_; rintro e wa ⟨u1, rfl, ho1, hba⟩; have HO1 := hid ho1; have HBA := hid hba; clear ho1)
      | (go_at_call 83; refine (HC.out _ _ (below_step (And.left (And.left (by assumption))) HB0.out) HO1.out.rd).mono ?_; rintro e wb ⟨u2, u3, rfl, ho2, ho3, hbb⟩; obtain ⟨o2, c2, rfl, -, -⟩ := ho2.rd; obtain ⟨o3, c3, rfl, -, -⟩ := ho3.rd; have HO2 := hid (OS.mono ho2 (B' := W.heap.size + 1) (B2.lt (And.left (by assumption)))); have HO3 := hid (OW.mono ho3 (B' := W.heap.size + 1) (B2.lt (And.left (by assumption)))); have hb4 : B2 W W.heap.size wb := B2.below (And.left (by assumption)) hbb; obtain ⟨⟨v0, y0⟩, f0⟩ := hb4.2.1; obtain ⟨⟨v1, y1⟩, f1⟩ := hb4.2.2; clear ho2 ho3)
      | (fail "x"))
  all_goals
    go_wp2_with fail
    have hz4 := hb4.lt
    have n1 : (Value.slice o2 D.1.length c2).ownBlock ≠ some W.heap.size := fun e => by have := (World.ownsRow.lt HO2.out _ e).1; omega
    have n3 : (Value.slice o3 D.2.length c3).ownBlock ≠ some W.heap.size := fun e => by have := (World.ownsRow.lt HO3.out _ e).1; omega
    exact bodyPost_ret (v := .agg #[.slice o2 D.1.length c2, .slice o3 D.2.length c3]) (by simp [results, Try.results114, go_sem, y0, y1, f0, f1, hz4]) rfl
      ⟨_, _, rfl, OS.mono (ownsRow_setCell_other (ownsRow_setCell_other HO2.out n1 _) n1 _) (by omega), OW.mono (ownsRow_setCell_other (ownsRow_setCell_other HO3.out n3 _) n3 _) (by omega), below_step ((hb4.1.setCell (by simp) _).setCell (by simp) _) HB0.out⟩
/-- act, whichever. -/
theorem act_any (d : Dk) (a : Ac) (vp vq : Value) (w : World) (hp : RdS w vp d.1) (hq : RdW w vq d.2) (hd : isDk d = true) (hl : d.2.length ≤ 1000000) : Calls Try.prog 114 #[.agg #[vp, vq], acV a] w (RetD1 (actDk d a) w) := by
  obtain ⟨b, p, s⟩ := a
  cases b with
  | true => exact act_sync d p s vp vq w hp hq hd (by omega)
  | false => exact act_write d (p, s) vp vq w hp hq (isDk_len hd).2 hl
end Go.Proofs.Ytifcgimpgbeocaa
