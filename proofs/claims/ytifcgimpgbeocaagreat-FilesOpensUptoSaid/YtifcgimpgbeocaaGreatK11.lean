/- crash. -/
import Derived.Test.YtifcgimpgbeocaaGreatK4
import Derived.Test.YtifcgimpgbeocaaGreatK10
import Derived.Test.YtifcgimpgbeocaaGreatK9
import Derived.Test.YtifcgimpgbeocaaGreatK6
set_option linter.unusedVariables false
set_option linter.unusedSimpArgs false
namespace Go.Proofs.YtifcgimpgbeocaaGreat
open Go.RowKit
attribute [local go_sem] Oper.semAt_some
/-- A call that returns a disk, all of it new. -/
def RetD1 (d : Dk) (w : World) (e : Ending) (w' : World) : Prop := ∃ vp vq, e = .returned (.agg #[vp, vq]) ∧ OS w' w.heap.size vp d.1 ∧ OW w' w.heap.size vq d.2 ∧ Below w.heap.size w w'
theorem crash_step {ps : List Bs} {ws : List Wt} {cuts : List Int} {k : Nat} {x : Wt} (h : ws[k]? = some x) : crashTo ps ws cuts (k + 1) = tear (crashTo ps ws cuts k) x (cutAt cuts k) := by
  rw [crashTo, h]
theorem ext_take (s : Bs) (C : Nat) : (⟨s.toArray⟩ : ByteArray).extract 0 C = ⟨(s.take C).toArray⟩ := by
  apply ByteArray.ext
  rw [ByteArray.data_extract]
  simp
theorem ext_drop (s : Bs) (C n : Nat) (h : s.length = n) : (⟨s.toArray⟩ : ByteArray).extract C n = ⟨(s.drop C).toArray⟩ := by
  apply ByteArray.ext
  rw [ByteArray.data_extract]
  simp [← h]
  exact List.take_of_length_le (by simp)
set_option maxHeartbeats 2000000 in
set_option maxRecDepth 100000 in
theorem crash_any (d : Dk) (vp vq : Value) (cuts : List Int) (vc : Value) (w : World) (hp : RdS w vp d.1) (hq : RdW w vq d.2) (hc : RdI w vc cuts) (hd : isDk d = true) (hl : d.2.length ≤ 1000000000) : Calls Tryz.prog 119 #[.agg #[vp, vq], vc] w (RetD1 (crashDk d cuts) w) := by
  have hlen := isDk_len hd
  have HPG := hid (fun k => crashTo_page d.1 d.2 cuts (fun s hs => by obtain ⟨i, hi⟩ := List.getElem?_of_mem hs; exact isDk_page hd hi) (fun x hx => (isDk_wait hd hx).2.2) k)
  have HWT := hid (fun x hx => isDk_wait hd (w := x) hx)
  have HCL := hid (fun w' (hb : Below w.heap.size w w') => cloneS_any d.1 vp w' (hp.below hb) (by omega))
  obtain ⟨N, hN⟩ : ∃ N, d.1.length = N := ⟨_, rfl⟩
  obtain ⟨M, hM⟩ : ∃ M, d.2.length = M := ⟨_, rfl⟩
  obtain ⟨op, capp, rfl, -, -⟩ := hp
  obtain ⟨oq, capq, rfl, hcapq, hcq⟩ := hq
  obtain ⟨oc, capc, rfl, hcapc, hcc⟩ := hc
  have HQ := hid hcq
  have HC := hid hcc
  have HN := hid hN
  have HM := hid hM
  have HR := hid (show crashDk d cuts = (crashTo d.1 d.2 cuts M, []) by unfold crashDk; rw [hM])
  obtain ⟨K, hK⟩ : ∃ K, cuts.length = K := ⟨_, rfl⟩
  have HK := hid hK
  simp only [hN, hM, hK] at HCL HWT hcapq hcapc hl hlen ⊢
  clear hN hM hK hcq hcc hd
  obtain ⟨B, hB⟩ : ∃ B, w.heap.size = B := ⟨_, rfl⟩
  have HB := hid hB
  have hx0 := ownc_new (w.alloc (.cells #[.slice op N capp, .slice oq M capq] 25)) #[.slice none 0 0, .slice none 0 0] 25 0 (by decide)
  have hx1 := ownc_new (w.alloc (.cells #[.slice op N capp, .slice oq M capq] 25)) #[.slice none 0 0, .slice none 0 0] 25 1 (by decide)
  have hb0 := ((Below.refl w.heap.size w).alloc (Nat.le_refl _) (.cells #[.slice op N capp, .slice oq M capq] 25)).alloc (by rw [World.size_alloc]; omega) (.cells #[.slice none 0 0, .slice none 0 0] 25)
  have hy : ((w.alloc (.cells #[.slice op N capp, .slice oq M capq] 25)).alloc (.cells #[.slice none 0 0, .slice none 0 0] 25)).cell? ⟨w.heap.size, 1, none⟩ = some (.slice oq M capq) := Lib.cell?_alloc_some (.cells #[.slice none 0 0, .slice none 0 0] 25) (cell_new w #[.slice op N capp, .slice oq M capq] 25 1 _ rfl)
  rw [World.size_alloc] at hx0 hx1
  have hc1 := HCL.out _ hb0
  have HB0 := hid hb0
  have HX0 := hid hx0
  have HX1 := hid hx1
  have HY := hid hy
  have HCL1 := hid hc1
  clear hb0 hx0 hx1 hy hc1 HCL
  go_enter Tryz.func119, Tryz.ntmps119
  go_wp2_with fail
  refine (HCL1.out).mono ?_
  rintro e w1 ⟨u5, rfl, ho, hb1⟩
  have HB1 := hid (below_step hb1 HB0.out)
  have HX0 := hid (keepOwn hb1 HX0.out)
  have HX1 := hid (keepOwn hb1 HX1.out)
  have hy := keepc hb1 HY.out
  have HO := hid (OS.mono ho (B' := B + 2) (by rw [← hB]; simp))
  clear hb1 ho
  obtain ⟨g, capg, rfl, hgB, hgl, hgc, -, -⟩ := OS.cells HO.out (by rw [HN.out]; omega)
  rw [HN.out] at HO hgc ⊢
  simp only [hB] at HX0 HX1 HB1 hy ⊢
  clear hB HB0
  go_wp2_with fail
  go_loopw [15] (fun i wr => ∃ k : Nat, i = .int .i64 k ∧ k ≤ M ∧ Hid (OS wr (B + 2) (.slice (some ⟨g, 0, none⟩) N capg) (crashTo d.1 d.2 cuts k)) ∧ Hid (Below B w wr) ∧ Hid (OwnC wr ⟨B + 1, 0, none⟩) ∧ Hid (OwnC wr ⟨B + 1, 1, none⟩) ∧ g < wr.heap.size) (fun i _ => M - (intOf i).toNat)
  case atStart => exact ⟨0, rfl, Nat.zero_le _, HO, HB1, HX0, HX1, hgl⟩
  case round =>
    clear hy HX0 HX1 HB1 HO HY HCL1 hgl
    obtain ⟨k, rfl, hk, HO, HBW, HY0, HY1, hgl⟩ := hrel
    by_cases hlt : k < M
    · obtain ⟨x, hx⟩ : ∃ x, d.2[k]? = some x := ⟨_, List.getElem?_eq_getElem (by have := HM.out; omega)⟩
      have hHQ := HQ.out
      rcases hHQ with hq | ⟨bq, offq, rfl, hbq, hq⟩
      · rw [hq] at hx; simp at hx
      obtain ⟨c0, c1⟩ := hq k x hx
      have hbB : bq < B := by have := HB.out; omega
      have c0 := keepB HBW.out (a := ⟨bq, offq + k * 2, none⟩) hbB c0
      have c1 := keepB HBW.out (a := ⟨bq, offq + k * 2 + 1, none⟩) hbB c1
      obtain ⟨hw0, hw1, hw2⟩ := HWT.out x (List.mem_of_getElem? hx)
      have hst := crash_step (ps := d.1) (cuts := cuts) hx
      obtain ⟨a, s⟩ := x
      simp only at c0 c1 hw0 hw1 hw2
      obtain ⟨p, rfl⟩ : ∃ p : Nat, a = p := ⟨a.toNat, by omega⟩
      have hpl : p < N := by omega
      obtain ⟨P, hP⟩ : ∃ P, crashTo d.1 d.2 cuts k = P := ⟨_, rfl⟩
      have hPl : P.length = N := by rw [← hP, crashTo_len]; exact HN.out
      obtain ⟨old, hold⟩ : ∃ old, P[p]? = some old := ⟨_, List.getElem?_eq_getElem (by omega)⟩
      have ho64 : old.length = 64 := HPG.out k old (by rw [hP]; exact List.mem_of_getElem? hold)
      obtain ⟨C, hC⟩ : ∃ C, cutAt cuts k = C := ⟨_, rfl⟩
      have hC64 : C ≤ 64 := by rw [← hC]; exact cutAt_le _ _
      rw [hP] at HO hst
      rw [hC] at hst
      have HST : Hid (crashTo d.1 d.2 cuts (k + 1) = P.set p (s.take C ++ old.drop C)) := by
        show _ = _
        rw [hst]; unfold tear; simp only [Int.toNat_natCast, hold, Option.getD_some]
      obtain ⟨g', cap', hv, -, -, -, hfz, hcc⟩ := OS.cells HO.out (by omega)
      simp only [Value.slice.injEq, Option.some.injEq, Addr.mk.injEq, true_and, and_true] at hv
      obtain ⟨rfl, -, rfl⟩ := hv
      have r0 : wr.cell? ⟨g, p, none⟩ = some (strV old) := hcc p _ (encS_at P p old hold)
      have rf := hfz p
      have HSET := hid (fun W (h : OS W (B + 2) (.slice (some ⟨g, 0, none⟩) N capg) P) => OS.set (s := s.take C ++ old.drop C) h hPl hpl)
      have HCC := hid hC
      have hpN : (p : Int) < (N : Int) := by omega
      have hC1 : (C : Int) ≤ (s.length : Int) := by omega
      have hC2 : (C : Int) ≤ (old.length : Int) := by omega
      have hC3 : (s.take C).length + (old.drop C).length ≤ 9223372036854775807 := by simp; omega
      have r1 := Lib.cell?_alloc_some (.cells #[.int .i64 (p : Int), strV s] 92) r0
      have b0 : (wr.alloc (.cells #[.int .i64 (p : Int), strV s] 92)).cell? ⟨wr.heap.size, 0, none⟩ = some (.int .i64 (p : Int)) := cell_new _ _ _ 0 _ rfl
      have b1 : (wr.alloc (.cells #[.int .i64 (p : Int), strV s] 92)).cell? ⟨wr.heap.size, 1, none⟩ = some (strV s) := cell_new _ _ _ 1 _ rfl
      have hE1 := ext_take s C
      have hE2 := ext_drop old C 64 ho64
      have hnew : ∀ (wx : World), wx = ((wr.setCell ⟨g, p, none⟩ (strV (s.take C ++ old.drop C))).alloc (.cells #[.int .i64 (p : Int), strV s] 92)).drew → Hid (OS wx (B + 2) (.slice (some ⟨g, 0, none⟩) N capg) (crashTo d.1 d.2 cuts (k + 1))) ∧ Hid (Below B w wx) ∧ Hid (OwnC wx ⟨B + 1, 0, none⟩) ∧ Hid (OwnC wx ⟨B + 1, 1, none⟩) ∧ g < wx.heap.size := by
        rintro wx rfl
        obtain ⟨h1, h2⟩ := HSET.out wr HO.out
        have hb := ((Below.refl (wr.setCell ⟨g, p, none⟩ (strV (s.take C ++ old.drop C))).heap.size (wr.setCell ⟨g, p, none⟩ (strV (s.take C ++ old.drop C)))).alloc (Nat.le_refl _) (.cells #[.int .i64 (p : Int), strV s] 92)).drew
        have hBz := HBW.out.size
        have hBe := HB.out
        refine ⟨?_, ?_, ?_, ?_, ?_⟩
        · show OS _ _ _ _
          rw [HST.out]
          exact h1.below hb
        · exact (((HBW.out.setCell (p := ⟨g, p, none⟩) (by show B ≤ g; omega) _).alloc (by simp [World.setCell]; omega) _).drew)
        · exact keepOwn hb (HY0.out.set _ _)
        · exact keepOwn hb (HY1.out.set _ _)
        · simp [World.setCell]; omega
      have HNEW := hid hnew
      clear hq hx hst hP hPl hold hfz hcc hC hw0 hw1 hnew
      by_cases hkK : k < K
      · obtain ⟨c, hc⟩ : ∃ c, cuts[k]? = some c := ⟨_, List.getElem?_eq_getElem (by have := HK.out; omega)⟩
        have hHC := HC.out
        rcases hHC with hq | ⟨bc, offc, rfl, hbc, hq⟩
        · rw [hq] at hc; simp at hc
        have d0 := keepB HBW.out (a := ⟨bc, offc + k, none⟩) (by simp only; have := HB.out; omega) (hq k c hc)
        have hCe : (min (max c 0) 64) = (C : Int) := by
          have := HCC.out; unfold cutAt at this; rw [hc] at this; simp only at this; unfold clamp at this; omega
        have d1 := Lib.cell?_alloc_some (.cells #[.int .i64 (p : Int), strV s] 92) d0
        clear hq hc
        go_wp2_with fail
        go_region
        all_goals
          try simp only [hE1, hE2, str_app]
          obtain ⟨wx, hwx⟩ : ∃ wx, ((wr.setCell ⟨g, p, none⟩ (strV (s.take C ++ old.drop C))).alloc (.cells #[.int .i64 (p : Int), strV s] 92)).drew = wx := ⟨_, rfl⟩
          obtain ⟨HN1, HN2, HN3, HN4, HN5⟩ := HNEW.out wx hwx.symm
          first | rw [hwx] | skip
          go_wp2_with fail
          go_roundw
          case rel => exact ⟨k + 1, by go_num, by omega, HN1, HN2, HN3, HN4, HN5⟩
          case measure => simp [intOf]; omega
      · have hCe : C = 0 := by
          have := HCC.out; unfold cutAt at this; rw [List.getElem?_eq_none (by have := HK.out; omega)] at this; exact this.symm
        subst hCe
        simp only [List.take_zero, List.drop_zero, List.nil_append, List.length_nil] at hE1 hE2 HNEW hC3
        go_wp2_with fail
        go_region
        all_goals
          obtain ⟨wx, hwx⟩ : ∃ wx, ((wr.setCell ⟨g, p, none⟩ (strV old)).alloc (.cells #[.int .i64 (p : Int), strV s] 92)).drew = wx := ⟨_, rfl⟩
          obtain ⟨HN1, HN2, HN3, HN4, HN5⟩ := HNEW.out wx hwx.symm
          first | rw [hwx] | skip
          go_wp2_with fail
          go_roundw
          case rel => exact ⟨k + 1, by go_num, by omega, HN1, HN2, HN3, HN4, HN5⟩
          case measure => simp [intOf]; omega
    · have hkM : k = M := by omega
      subst hkM
      obtain ⟨⟨v0, x0⟩, f0⟩ := HY0.out
      obtain ⟨⟨v1, x1⟩, f1⟩ := HY1.out
      have hz := World.block_lt_of_cell? _ _ x0
      go_wp2_with fail
      exact bodyPost_ret (v := .agg #[.slice (some ⟨g, 0, none⟩) N capg, .slice none 0 0]) (by simp [results, Tryz.results119, go_sem, x0, x1, hz]) rfl
        ⟨_, _, rfl, by rw [HR.out, HB.out]; exact OS.mono (ownsRow_setCell_other (ownsRow_setCell_other HO.out (by simp [Value.ownBlock]; omega) _) (by simp [Value.ownBlock]; omega) _) (by omega), by rw [HR.out]; exact oW_nil _ _, by rw [HB.out]; exact (HBW.out.setCell (by simp only; omega) _).setCell (by simp only; omega) _⟩
end Go.Proofs.YtifcgimpgbeocaaGreat
/- act, Act. -/
set_option linter.unusedVariables false
set_option linter.unusedSimpArgs false
namespace Go.Proofs.YtifcgimpgbeocaaGreat
open Go.RowKit
attribute [local go_sem] Oper.semAt_some
theorem drew_below (w : World) : Below w.heap.size w w.drew := (Below.refl _ _).drew
/-- What a call does that keeps its result, two cells, in block b. -/
def B2 (W : World) (b : Nat) (w : World) : Prop := Below W.heap.size W w ∧ OwnC w ⟨b, 0, none⟩ ∧ OwnC w ⟨b, 1, none⟩
theorem B2.below {W w w1 : World} {b : Nat} (h : B2 W b w) (k : Below w.heap.size w w1) : B2 W b w1 := ⟨below_step k h.1, keepOwn k h.2.1, keepOwn k h.2.2⟩
theorem B2.drew {W w : World} {b : Nat} (h : B2 W b w) : B2 W b w.drew := h.below (drew_below w)
theorem B2.alloc {W w : World} {b : Nat} (h : B2 W b w) (o : Obj) : B2 W b (w.alloc o) := h.below ((Below.refl _ _).alloc (Nat.le_refl _) _)
theorem own_grown' {w w1 : World} {p : Addr} {row : Option Nat} (h : OwnC w p) (hg : w.grownBy w1 row) (h2 : row ≠ some p.block) : OwnC w1 p := by
  obtain ⟨⟨v, hv⟩, hf⟩ := h
  have hq := hg.block p.block (World.block_lt_of_cell? w _ hv) fun e => h2 e.symm
  exact ⟨⟨v, (World.cell?_of_block hq).trans hv⟩, (World.frozen?_of_block hq).trans hf⟩
theorem B2.grown {W w w1 : World} {b : Nat} {row : Option Nat} (h : B2 W b w) (hg : w.grownBy w1 row) (h1 : ∀ k, row = some k → W.heap.size ≤ k) (h2 : row ≠ some b) : B2 W b w1 :=
  ⟨h.1.grown hg h.1.size h1, own_grown' h.2.1 hg h2, own_grown' h.2.2 hg h2⟩
theorem B2.set {W w : World} {b : Nat} (h : B2 W b w) (hb : W.heap.size ≤ b) (i : Nat) (v : Value) : B2 W b (w.setCell ⟨b, i, none⟩ v) := ⟨h.1.setCell (by exact hb) _, h.2.1.set _ _, h.2.2.set _ _⟩
theorem B2.lt {W w : World} {b : Nat} (h : B2 W b w) : b < w.heap.size := by obtain ⟨⟨u, hu⟩, -⟩ := h.2.1; exact World.block_lt_of_cell? w _ hu
theorem OS.past {w w' : World} {B B' : Nat} {u v : Value} {l : List Bs} {m : List Wt} (h : OS w B u l) (k : OW w B' v m) (hg : w.grownBy w' v.ownBlock) : OS w' B u l := World.ownsRow.kept h hg (rows_apart h k (by decide))
theorem B2.new (W : World) (t : TypeId) (u v : Value) : B2 W W.heap.size (W.alloc (.cells #[u, v] t)) := ⟨(Below.refl _ _).alloc (Nat.le_refl _) _, ownc_new W #[u, v] t 0 (by simp), ownc_new W #[u, v] t 1 (by simp)⟩
set_option maxHeartbeats 1000000 in
set_option maxRecDepth 100000 in
theorem act_write (d : Dk) (x : Wt) (vp vq : Value) (w : World) (hp : RdS w vp d.1) (hq : RdW w vq d.2) (hl1 : d.1.length ≤ 4096) (hl : d.2.length ≤ 1000000) : Calls Tryz.prog 100 #[.agg #[vp, vq], .agg #[.bool false, .int .i64 x.1, strV x.2]] w (RetD1 (d.1, d.2 ++ [x]) w) := by
  have hb0 := ((Below.refl w.heap.size w).alloc (Nat.le_refl _) (.cells #[vp, vq] 25)).alloc (by rw [World.size_alloc]; omega) (.cells #[.bool false, .int .i64 x.1, strV x.2] 77)
  have hx0 := Lib.cell?_alloc_some (.cells #[.bool false, .int .i64 x.1, strV x.2] 77) (cell_new w #[vp, vq] 25 0 vp rfl)
  have hx1 := Lib.cell?_alloc_some (.cells #[.bool false, .int .i64 x.1, strV x.2] 77) (cell_new w #[vp, vq] 25 1 vq rfl)
  have hx2 := cell_new (w.alloc (.cells #[vp, vq] 25)) #[.bool false, .int .i64 x.1, strV x.2] 77 0 _ rfl
  have hx3 := cell_new (w.alloc (.cells #[vp, vq] 25)) #[.bool false, .int .i64 x.1, strV x.2] 77 1 _ rfl
  have hx4 := cell_new (w.alloc (.cells #[vp, vq] 25)) #[.bool false, .int .i64 x.1, strV x.2] 77 2 _ rfl
  rw [World.size_alloc] at hx2 hx3 hx4
  have HS := hid (fun w' (hb : Below w.heap.size w w') => cloneS_any d.1 vp w' (hp.below hb) (by omega))
  have HW := hid (fun w' (hb : Below w.heap.size w w') => cloneW_any d.2 vq w' (hq.below hb) (by omega))
  obtain ⟨op, cp, rfl, -, -⟩ := hp
  obtain ⟨oq, cq, rfl, -, -⟩ := hq
  have HL := hid hl
  clear hl hl1
  obtain ⟨N, hN⟩ : ∃ N, d.1.length = N := ⟨_, rfl⟩
  obtain ⟨M, hM⟩ : ∃ M, d.2.length = M := ⟨_, rfl⟩
  simp only [hN, hM] at hb0 hx0 hx1 hx2 hx3 hx4 HS HW ⊢
  clear hN hM
  have HB0 := hid hb0; have HX0 := hid hx0; have HX1 := hid hx1; have HX2 := hid hx2; have HX3 := hid hx3; have HX4 := hid hx4
  clear hb0 hx0 hx1 hx2 hx3 hx4
  obtain ⟨a, s⟩ := x
  go_enter Tryz.func100, Tryz.ntmps100
  go_wp2_with fail
  obtain ⟨W, hW⟩ : ∃ W, W = ((w.alloc (.cells #[.slice op N cp, .slice oq M cq] 25)).alloc (.cells #[.bool false, .int .i64 a, strV s] 77)) := ⟨_, rfl⟩
  have hzz : w.heap.size + 1 + 1 = W.heap.size := by rw [hW]; simp
  simp only [← hW, hzz] at HB0 HX0 HX1 HX2 HX3 HX4 ⊢
  have k0 := HX0.out; have k1 := HX1.out; have k3 := HX3.out; have k4 := HX4.out
  clear hW
  have HBW := hid (B2.new W 25 (.slice none 0 0) (.slice none 0 0))
  have hc4 : ∀ wx : World, ∀ j u, (encW [((a, s) : Wt)])[j]? = some u → (wx.alloc (.cells #[.int .i64 a, strV s] 92)).cell? ⟨wx.heap.size, j, none⟩ = some u := fun wx => cellsW _ _ _ (cell_new _ _ _ 0 _ rfl) (cell_new _ _ _ 1 _ rfl)
  have HC4 := hid hc4
  clear hc4
  have HCS : Hid (∀ j u, (encW [((a, s) : Wt)])[j]? = some u → (((W.alloc (.cells #[.slice none 0 0, .slice none 0 0] 25)).drew).alloc (.cells #[.int .i64 a, strV s] 92)).cell? ⟨W.heap.size + 1, j, none⟩ = some u) := fun j u h => by have := HC4.out (W.alloc (.cells #[.slice none 0 0, .slice none 0 0] 25)).drew j u h; simpa using this
  go_region_held3 (fun w' => B2 W W.heap.size w' ∧ w'.cell? ⟨w.heap.size, 0, none⟩ = some (.slice op N cp) ∧ w'.cell? ⟨w.heap.size, 1, none⟩ = some (.slice oq M cq) ∧ w'.cell? ⟨w.heap.size + 1, 1, none⟩ = some (.int .i64 a) ∧ w'.cell? ⟨w.heap.size + 1, 2, none⟩ = some (strV s))
    ((refine (fun hS => ⟨hS, keepc hS.1 k0, keepc hS.1 k1, keepc hS.1 k3, keepc hS.1 k4⟩ : B2 W W.heap.size _ → _) ?_; first | exact HBW.out.drew | exact hb4 | exact hb4.set (Nat.le_refl _) _ _ | exact (hb4.set (Nat.le_refl _) _ _).set (Nat.le_refl _) _ _ | exact B2.below (And.left (by assumption)) hbb | exact B2.below (And.left (by assumption)) hba | exact B2.alloc (And.left (by assumption)) _))
    (first
      | (go_at_call 36; refine (HS.out _ (below_step (And.left (And.left (by assumption))) HB0.out)).mono ?_; rintro e wa ⟨u1, rfl, ho1, hba⟩; obtain ⟨o1, c1, rfl, -, -⟩ := ho1.rd; have HO1 := hid (OS.mono ho1 (B' := W.heap.size + 1) (B2.lt (And.left (by assumption)))); clear ho1)
      | (go_at_call 37; refine (HW.out _ (below_step (And.left (And.left (by assumption))) HB0.out)).mono ?_; rintro e wb ⟨u2, rfl, ho2, hbb⟩; have HO2 := hid (OW.mono ho2 (B' := W.heap.size + 1) (B2.lt (And.left (by assumption)))); clear ho2; have HO1 := hid (HO1.out.below (by first | exact hbb | exact ((Below.refl _ _).alloc (Nat.le_refl _) _).trans (hbb.mono (by rw [World.size_alloc]; omega)))))
      | (refine step_appW (by rfl) (.tmp 19) (.tmp 25) (by rfl) (W.heap.size + 1) u2 d.2 (a, s) wb.heap.size 1 (by simp [Act.eval, Act.put]) (by simp [Act.eval, Act.put]) (HO2.out.below ((Below.refl _ _).alloc (Nat.le_refl _) _)) (HC4.out _) HL.out (B2.lt (And.left (by assumption))) ?_; intro u3 w4 how hgw hat; have hb4 : B2 W W.heap.size w4 := B2.grown (And.left (by assumption)) hgw (fun k hk => by have := (World.ownsRow.lt HO2.out k hk).1; omega) (fun e => by have := (World.ownsRow.lt HO2.out _ e).1; omega); obtain ⟨o3, c3, rfl, -, -⟩ := how.rd; have HO3 := hid how; have HO1 := hid (OS.past (HO1.out.below (by first | exact Below.refl _ _ | exact (Below.refl _ _).alloc (Nat.le_refl _) _)) (HO2.out.below (by first | exact Below.refl _ _ | exact (Below.refl _ _).alloc (Nat.le_refl _) _)) hgw); obtain ⟨⟨v0, y0⟩, f0⟩ := hb4.2.1; obtain ⟨⟨v1, y1⟩, f1⟩ := hb4.2.2; clear how hgw hat)
      | (refine step_appW (by rfl) (.tmp 19) (.tmp 25) (by rfl) (W.heap.size + 1) u2 d.2 (a, s) wa.heap.size 1 (by simp [Act.eval, Act.put]) (by simp [Act.eval, Act.put]) HO2.out (fun j u h => keepc hbb (HC4.out _ j u h)) HL.out (B2.lt (And.left (by assumption))) ?_; intro u3 w4 how hgw hat; have hb4 : B2 W W.heap.size w4 := B2.grown (And.left (by assumption)) hgw (fun k hk => by have := (World.ownsRow.lt HO2.out k hk).1; omega) (fun e => by have := (World.ownsRow.lt HO2.out _ e).1; omega); obtain ⟨o3, c3, rfl, -, -⟩ := how.rd; have HO3 := hid how; have HO1 := hid (OS.past (HO1.out.below (by first | exact Below.refl _ _ | exact (Below.refl _ _).alloc (Nat.le_refl _) _)) (HO2.out.below (by first | exact Below.refl _ _ | exact (Below.refl _ _).alloc (Nat.le_refl _) _)) hgw); obtain ⟨⟨v0, y0⟩, f0⟩ := hb4.2.1; obtain ⟨⟨v1, y1⟩, f1⟩ := hb4.2.2; clear how hgw hat)
      | (refine step_appW (by rfl) (.tmp 19) (.tmp 25) (by rfl) (W.heap.size + 1) u2 d.2 (a, s) (W.heap.size + 1) 1 (by simp [Act.eval, Act.put]) (by simp [Act.eval, Act.put]) HO2.out (fun j u h => keepc hbb (keepc hba (HCS.out j u h))) HL.out (B2.lt (And.left (by assumption))) ?_; intro u3 w4 how hgw hat; have hb4 : B2 W W.heap.size w4 := B2.grown (And.left (by assumption)) hgw (fun k hk => by have := (World.ownsRow.lt HO2.out k hk).1; omega) (fun e => by have := (World.ownsRow.lt HO2.out _ e).1; omega); obtain ⟨o3, c3, rfl, -, -⟩ := how.rd; have HO3 := hid how; have HO1 := hid (OS.past (HO1.out.below (by first | exact Below.refl _ _ | exact (Below.refl _ _).alloc (Nat.le_refl _) _)) (HO2.out.below (by first | exact Below.refl _ _ | exact (Below.refl _ _).alloc (Nat.le_refl _) _)) hgw); obtain ⟨⟨v0, y0⟩, f0⟩ := hb4.2.1; obtain ⟨⟨v1, y1⟩, f1⟩ := hb4.2.2; clear how hgw hat)
      | (fail "x"))
  all_goals
    go_wp2_with fail
    have hz4 := hb4.lt
    have e3 : (d.2 ++ [((a, s) : Wt)]).length = d.2.length + 1 := by simp
    have n1 : (Value.slice o1 d.1.length c1).ownBlock ≠ some W.heap.size := fun e => by have := (World.ownsRow.lt HO1.out _ e).1; omega
    have n3 : (Value.slice o3 (d.2 ++ [((a, s) : Wt)]).length c3).ownBlock ≠ some W.heap.size := fun e => by have := (World.ownsRow.lt HO3.out _ e).1; omega
    exact bodyPost_ret (v := .agg #[.slice o1 d.1.length c1, .slice o3 (d.2 ++ [(a, s)]).length c3]) (by simp [results, Tryz.results100, go_sem, y0, y1, f0, f1, hz4, e3]) rfl
      ⟨_, _, rfl, OS.mono (ownsRow_setCell_other (ownsRow_setCell_other HO1.out n1 _) n1 _) (by omega), OW.mono (ownsRow_setCell_other (ownsRow_setCell_other HO3.out n3 _) n3 _) (by omega), below_step ((hb4.1.setCell (by simp) _).setCell (by simp) _) HB0.out⟩
set_option maxHeartbeats 1000000 in
set_option maxRecDepth 100000 in
theorem act_sync (d : Dk) (p : Int) (s : Bs) (vp vq : Value) (w : World) (hp : RdS w vp d.1) (hq : RdW w vq d.2) (hd : isDk d = true) (hl : d.2.length ≤ 1000000000) : Calls Tryz.prog 100 #[.agg #[vp, vq], .agg #[.bool true, .int .i64 p, strV s]] w (RetD1 (crashDk d (List.replicate d.2.length 64)) w) := by
  have hb0 := ((Below.refl w.heap.size w).alloc (Nat.le_refl _) (.cells #[vp, vq] 25)).alloc (by rw [World.size_alloc]; omega) (.cells #[.bool true, .int .i64 p, strV s] 77)
  have hx0 := Lib.cell?_alloc_some (.cells #[.bool true, .int .i64 p, strV s] 77) (cell_new w #[vp, vq] 25 0 vp rfl)
  have hx1 := Lib.cell?_alloc_some (.cells #[.bool true, .int .i64 p, strV s] 77) (cell_new w #[vp, vq] 25 1 vq rfl)
  have HR := hid (fun b w' hc => rptI_any 64 b d.2.length w' hc hl)
  have HC := hid (fun w' vc (hb : Below w.heap.size w w') (hc : RdI w' vc (List.replicate d.2.length 64)) => crash_any d vp vq (List.replicate d.2.length 64) vc w' (hp.below hb) (hq.below hb) hc hd hl)
  obtain ⟨op, cp, rfl, -, -⟩ := hp
  obtain ⟨oq, cq, rfl, -, -⟩ := hq
  clear hl hd
  obtain ⟨N, hN⟩ : ∃ N, d.1.length = N := ⟨_, rfl⟩
  obtain ⟨M, hM⟩ : ∃ M, d.2.length = M := ⟨_, rfl⟩
  simp only [hN, hM] at hb0 hx0 hx1 HR HC ⊢
  obtain ⟨L, hL⟩ : ∃ L, List.replicate M (64 : Int) = L := ⟨_, rfl⟩
  rw [hL] at HR HC ⊢
  obtain ⟨D, hD⟩ : ∃ D, crashDk d L = D := ⟨_, rfl⟩
  rw [hD] at HC ⊢
  clear hN hM hL hD
  have HB0 := hid hb0; have HX0 := hid hx0; have HX1 := hid hx1
  clear hb0 hx0 hx1
  go_enter Tryz.func100, Tryz.ntmps100
  go_wp2_with fail
  obtain ⟨W, hW⟩ : ∃ W, W = ((w.alloc (.cells #[.slice op N cp, .slice oq M cq] 25)).alloc (.cells #[.bool true, .int .i64 p, strV s] 77)) := ⟨_, rfl⟩
  have hzz : w.heap.size + 1 + 1 = W.heap.size := by rw [hW]; simp
  simp only [← hW, hzz] at HB0 HX0 HX1 ⊢
  have k0 := HX0.out; have k1 := HX1.out
  clear hW
  have HBW := hid (B2.new W 25 (.slice none 0 0) (.slice none 0 0))
  have HCS : Hid ((((W.alloc (.cells #[.slice none 0 0, .slice none 0 0] 25)).drew).alloc (.cells #[.int .i64 64] 3)).cell? ⟨W.heap.size + 1, 0, none⟩ = some (.int .i64 64)) := by have := cell_new (W.alloc (.cells #[.slice none 0 0, .slice none 0 0] 25)).drew #[.int .i64 64] 3 0 _ rfl; unfold Hid; simpa using this
  go_region_held3 (fun w' => B2 W W.heap.size w' ∧ w'.cell? ⟨w.heap.size, 0, none⟩ = some (.slice op N cp) ∧ w'.cell? ⟨w.heap.size, 1, none⟩ = some (.slice oq M cq))
    ((refine (fun hS => ⟨hS, keepc hS.1 k0, keepc hS.1 k1⟩ : B2 W W.heap.size _ → _) ?_; first | exact HBW.out.drew | exact (hb4.set (Nat.le_refl _) _ _).set (Nat.le_refl _) _ _ | exact hb4 | exact B2.below (And.left (by assumption)) hba | exact B2.alloc (And.left (by assumption)) _))
    (first
      | (go_at_call 120; refine (HR.out _ _ HCS.out).mono ?_; rintro e wa ⟨u1, rfl, ho1, hba⟩; have HO1 := hid ho1; have HBA := hid hba; clear ho1)
      | (go_at_call 119; refine (HC.out _ _ (below_step (And.left (And.left (by assumption))) HB0.out) HO1.out.rd).mono ?_; rintro e wb ⟨u2, u3, rfl, ho2, ho3, hbb⟩; obtain ⟨o2, c2, rfl, -, -⟩ := ho2.rd; obtain ⟨o3, c3, rfl, -, -⟩ := ho3.rd; have HO2 := hid (OS.mono ho2 (B' := W.heap.size + 1) (B2.lt (And.left (by assumption)))); have HO3 := hid (OW.mono ho3 (B' := W.heap.size + 1) (B2.lt (And.left (by assumption)))); have hb4 : B2 W W.heap.size wb := B2.below (And.left (by assumption)) hbb; obtain ⟨⟨v0, y0⟩, f0⟩ := hb4.2.1; obtain ⟨⟨v1, y1⟩, f1⟩ := hb4.2.2; clear ho2 ho3)
      | (fail "x"))
  all_goals
    go_wp2_with fail
    have hz4 := hb4.lt
    have n1 : (Value.slice o2 D.1.length c2).ownBlock ≠ some W.heap.size := fun e => by have := (World.ownsRow.lt HO2.out _ e).1; omega
    have n3 : (Value.slice o3 D.2.length c3).ownBlock ≠ some W.heap.size := fun e => by have := (World.ownsRow.lt HO3.out _ e).1; omega
    exact bodyPost_ret (v := .agg #[.slice o2 D.1.length c2, .slice o3 D.2.length c3]) (by simp [results, Tryz.results100, go_sem, y0, y1, f0, f1, hz4]) rfl
      ⟨_, _, rfl, OS.mono (ownsRow_setCell_other (ownsRow_setCell_other HO2.out n1 _) n1 _) (by omega), OW.mono (ownsRow_setCell_other (ownsRow_setCell_other HO3.out n3 _) n3 _) (by omega), below_step ((hb4.1.setCell (by simp) _).setCell (by simp) _) HB0.out⟩
/-- act, whichever. -/
theorem act_any (d : Dk) (a : Ac) (vp vq : Value) (w : World) (hp : RdS w vp d.1) (hq : RdW w vq d.2) (hd : isDk d = true) (hl : d.2.length ≤ 1000000) : Calls Tryz.prog 100 #[.agg #[vp, vq], acV a] w (RetD1 (actDk d a) w) := by
  obtain ⟨b, p, s⟩ := a
  cases b with
  | true => exact act_sync d p s vp vq w hp hq hd (by omega)
  | false => exact act_write d (p, s) vp vq w hp hq (isDk_len hd).2 hl
end Go.Proofs.YtifcgimpgbeocaaGreat
/- A disk under way in two cells, beside a result's two cells. -/
set_option linter.unusedVariables false
set_option linter.unusedSimpArgs false
namespace Go.Proofs.YtifcgimpgbeocaaGreat
open Go.RowKit
/-- Since w0: the result's cells in R, the disk's in D (its slices v1, v2, which lie beyond D). -/
structure LD (w0 : World) (R D : Nat) (v1 v2 : Value) (p : List Bs) (q : List Wt) (w : World) : Prop where
  b : Below w0.heap.size w0 w
  rge : w0.heap.size ≤ R
  dge : w0.heap.size ≤ D
  rd : R < D
  r0 : OwnC w ⟨R, 0, none⟩
  r1 : OwnC w ⟨R, 1, none⟩
  d0 : w.cell? ⟨D, 0, none⟩ = some v1
  d1 : w.cell? ⟨D, 1, none⟩ = some v2
  df : ∀ j, w.frozen? ⟨D, j, none⟩ = false
  o1 : OS w (D + 1) v1 p
  o2 : OW w (D + 1) v2 q
variable {w0 w w1 : World} {R D : Nat} {v1 v2 v' : Value} {p p' : List Bs} {q q' : List Wt}
theorem LD.dlt (h : LD w0 R D v1 v2 p q w) : D < w.heap.size := World.block_lt_of_cell? _ _ h.d0
theorem LD.below (h : LD w0 R D v1 v2 p q w) (hb : Below w.heap.size w w1) : LD w0 R D v1 v2 p q w1 :=
  ⟨below_step hb h.b, h.rge, h.dge, h.rd, keepOwn hb h.r0, keepOwn hb h.r1, keepc hb h.d0, keepc hb h.d1, fun j => (hb.frozen (p := ⟨D, j, none⟩) h.dlt).trans (h.df j), h.o1.below hb, h.o2.below hb⟩
/-- The first row has grown, its cell is set. -/
theorem LD.put1 (h : LD w0 R D v1 v2 p q w) (hg : w.grownBy w1 v1.ownBlock) (ho : OS w1 (D + 1) v' p') : LD w0 R D v' v2 p' q (w1.setCell ⟨D, 0, none⟩ v') := by
  have n1 : ∀ k, k ≤ D → v1.ownBlock ≠ some k := fun k hk e => by have := (World.ownsRow.lt h.o1 k e).1; omega
  have hD : w1.heap[D]? = w.heap[D]? := hg.block D h.dlt (fun e => n1 D (Nat.le_refl _) e.symm)
  have hf : Frm (fun k => k = D) w1 (w1.setCell ⟨D, 0, none⟩ v') := frm_setCell (Frm.refl _ _) (by rfl) _
  have hrd := h.rd
  refine ⟨Frm.below (h.b.grown hg h.b.size fun k hk => Nat.le_trans h.dge (by have := (World.ownsRow.lt h.o1 k hk).1; omega)) hf (fun k hk => by rw [hk]; exact h.dge) (Nat.le_trans h.b.size hg.size), h.rge, h.dge, h.rd, ?_, ?_, ?_, ?_, fun j => by rw [World.frozen?_setCell]; exact (frozen_at hD).trans (h.df j), ?_, ?_⟩
  · exact (own_grown' h.r0 hg (n1 R (by omega))).set _ _
  · exact (own_grown' h.r1 hg (n1 R (by omega))).set _ _
  · exact World.cell?_setCell_same _ _ _ (cell_at hD h.d0)
  · rw [World.cell?_setCell_other _ _ _ _ (fun e => by cases e)]; exact cell_at hD h.d1
  · exact hf.row ho fun k hk e => by have := (World.ownsRow.lt ho k hk).1; omega
  · exact hf.row (World.ownsRow.kept h.o2 hg (rows_apart h.o2 h.o1 (by decide))) fun k hk e => by have := (World.ownsRow.lt h.o2 k hk).1; omega
theorem LD.put2 (h : LD w0 R D v1 v2 p q w) (hg : w.grownBy w1 v2.ownBlock) (ho : OW w1 (D + 1) v' q') : LD w0 R D v1 v' p q' (w1.setCell ⟨D, 1, none⟩ v') := by
  have n1 : ∀ k, k ≤ D → v2.ownBlock ≠ some k := fun k hk e => by have := (World.ownsRow.lt h.o2 k e).1; omega
  have hD : w1.heap[D]? = w.heap[D]? := hg.block D h.dlt (fun e => n1 D (Nat.le_refl _) e.symm)
  have hf : Frm (fun k => k = D) w1 (w1.setCell ⟨D, 1, none⟩ v') := frm_setCell (Frm.refl _ _) (by rfl) _
  have hrd := h.rd
  refine ⟨Frm.below (h.b.grown hg h.b.size fun k hk => Nat.le_trans h.dge (by have := (World.ownsRow.lt h.o2 k hk).1; omega)) hf (fun k hk => by rw [hk]; exact h.dge) (Nat.le_trans h.b.size hg.size), h.rge, h.dge, h.rd, ?_, ?_, ?_, ?_, fun j => by rw [World.frozen?_setCell]; exact (frozen_at hD).trans (h.df j), ?_, ?_⟩
  · exact (own_grown' h.r0 hg (n1 R (by omega))).set _ _
  · exact (own_grown' h.r1 hg (n1 R (by omega))).set _ _
  · rw [World.cell?_setCell_other _ _ _ _ (fun e => by cases e)]; exact cell_at hD h.d0
  · exact World.cell?_setCell_same _ _ _ (cell_at hD h.d1)
  · exact hf.row (World.ownsRow.kept h.o1 hg (rows_apart h.o1 h.o2 (by decide))) fun k hk e => by have := (World.ownsRow.lt h.o1 k hk).1; omega
  · exact hf.row ho fun k hk e => by have := (World.ownsRow.lt ho k hk).1; omega
/-- A page set anew. -/
theorem LD.page {g cap n i : Nat} {s : Bs} (h : LD w0 R D (.slice (some ⟨g, 0, none⟩) n cap) v2 p q w) (hn : p.length = n) (hi : i < n) : LD w0 R D (.slice (some ⟨g, 0, none⟩) n cap) v2 (p.set i s) q (w.setCell ⟨g, i, none⟩ (strV s)) := by
  obtain ⟨h1, hg⟩ := h.o1.set (s := s) hn hi
  have hgD : D + 1 ≤ g := (World.ownsRow.lt h.o1 g rfl).1
  have hrd := h.rd
  have hD : (w.setCell ⟨g, i, none⟩ (strV s)).heap[D]? = w.heap[D]? := hg.block D h.dlt (fun e => by simp at e; omega)
  refine ⟨h.b.grown hg h.b.size fun k hk => by simp at hk; have := h.dge; omega, h.rge, h.dge, h.rd, h.r0.set _ _, h.r1.set _ _, cell_at hD h.d0, cell_at hD h.d1, fun j => by rw [World.frozen?_setCell]; exact h.df j, h1, World.ownsRow.kept h.o2 hg (by have := rows_apart h.o2 h.o1 (by decide); exact this)⟩
/-- The disk handed to the result's cells. -/
theorem LD.end (h : LD w0 R D v1 v2 p q w) : OS ((w.setCell ⟨R, 0, none⟩ v1).setCell ⟨R, 1, none⟩ v2) w0.heap.size v1 p ∧ OW ((w.setCell ⟨R, 0, none⟩ v1).setCell ⟨R, 1, none⟩ v2) w0.heap.size v2 q ∧ Below w0.heap.size w0 ((w.setCell ⟨R, 0, none⟩ v1).setCell ⟨R, 1, none⟩ v2) := by
  have hf : Frm (fun k => k = R) w ((w.setCell ⟨R, 0, none⟩ v1).setCell ⟨R, 1, none⟩ v2) := frm_setCell (frm_setCell (Frm.refl _ _) (by rfl) _) (by rfl) _
  have hrd := h.rd
  have hdg := h.dge
  refine ⟨OS.mono (hf.row h.o1 fun k hk e => by have := (World.ownsRow.lt h.o1 k hk).1; omega) (by omega), OW.mono (hf.row h.o2 fun k hk e => by have := (World.ownsRow.lt h.o2 k hk).1; omega) (by omega), Frm.below h.b hf (fun k hk => by rw [hk]; exact h.rge) h.b.size⟩
theorem LD.start {X : World} {R D : Nat} (hb : Below w0.heap.size w0 X) (hR : w0.heap.size ≤ R) (hRD : R < D) (hD : D = X.heap.size) (r0 : OwnC X ⟨R, 0, none⟩) (r1 : OwnC X ⟨R, 1, none⟩) : LD w0 R D (.slice none 0 0) (.slice none 0 0) [] [] (X.alloc (.cells #[.slice none 0 0, .slice none 0 0] 25)) := by
  subst hD
  have hba := balloc (Below.refl X.heap.size X) (.cells #[.slice none 0 0, .slice none 0 0] 25)
  exact ⟨below_step hba hb, hR, hb.size, hRD, keepOwn hba r0, keepOwn hba r1, cell_new _ _ _ 0 _ rfl, cell_new _ _ _ 1 _ rfl, fun j => by unfold World.frozen?; rw [heap_alloc_new]; simp, oS_nil _ _, oW_nil _ _⟩
end Go.Proofs.YtifcgimpgbeocaaGreat
/- strings.Repeat of a zero byte; NewDisk. -/
set_option linter.unusedVariables false
set_option linter.unusedSimpArgs false
namespace Go.Proofs.YtifcgimpgbeocaaGreat
open Go.RowKit
attribute [local go_sem] Oper.semAt_some
theorem repL_zs : ∀ n, Lib.repeatL [0] n = zs n
  | 0 => rfl
  | n + 1 => by show [0] ++ Lib.repeatL [0] n = _; rw [repL_zs n]; unfold zs; rw [List.replicate_succ]; rfl
theorem srep_any (n : Nat) (w : World) (hn : n ≤ 1000000) : Calls Tryz.prog 73 #[strV [0], .int .i64 n] w (Ret (strV (zs n)) w) := by
  have h := Tryz.strings_Repeat ⟨#[0]⟩ n w (by omega) (by show #[(0 : UInt8)].size * n ≤ _; simp; omega)
  refine Calls.mono h ?_
  rintro e w' ⟨rfl, hb⟩
  refine ⟨?_, hb⟩
  show _ = Ending.returned (strV (zs n))
  rw [← repL_zs]
/-- A call that returns a disk, all of it new, and an error. -/
def RetDk (d : Dk) (n : Int) (w : World) (e : Ending) (w' : World) : Prop := ∃ vp vq, e = .returned (.tuple #[.agg #[vp, vq], .int .i64 n]) ∧ OS w' w.heap.size vp d.1 ∧ OW w' w.heap.size vq d.2 ∧ Below w.heap.size w w'
set_option maxHeartbeats 1000000 in
set_option maxRecDepth 100000 in
theorem newdisk_any (n : Int) (w : World) : Calls Tryz.prog 30 #[.int .i64 n] w (RetDk (newDk n).1 (newDk n).2 w) := by
  by_cases hn : 4 ≤ n ∧ n ≤ 4096
  · obtain ⟨m, rfl⟩ : ∃ m : Nat, n = (m : Int) := ⟨n.toNat, by omega⟩
    have hr : newDk (m : Int) = ((List.replicate m (zs 64), []), 0) := by unfold newDk; rw [if_pos hn]; rfl
    rw [hr]
    have HS := hid (fun w' => srep_any 64 w' (by decide))
    have HR := hid (fun b w' hc => rptS_any (zs 64) b m w' hc (by omega))
    obtain ⟨Z, hZ⟩ : ∃ Z, zs 64 = Z := ⟨_, rfl⟩
    rw [hZ] at HS HR ⊢
    obtain ⟨L, hL⟩ : ∃ L, List.replicate m Z = L := ⟨_, rfl⟩
    rw [hL] at HR ⊢
    clear hr hZ hL
    have hd1 : decide ((m : Int) < 4) = false := by simp; omega
    have hd2 : decide (4096 < (m : Int)) = false := by simp; omega
    have hx0 := ownc_new w #[.slice none 0 0, .slice none 0 0] 25 0 (by decide)
    have hx1 := ownc_new w #[.slice none 0 0, .slice none 0 0] 25 1 (by decide)
    have HX0 := hid hx0
    have HX1 := hid hx1
    have HB0 := hid ((Below.refl w.heap.size w).alloc (Nat.le_refl _) (.cells #[.slice none 0 0, .slice none 0 0] 25))
    clear hx0 hx1 hn
    go_enter Tryz.func30, Tryz.ntmps30
    go_wp2_with (go_at_call 73; refine (HS.out _).mono ?_; rintro e w1 ⟨rfl, hb1⟩; have HB1 := hid (below_step hb1 HB0.out); have HX0 := hid (keepOwn hb1 HX0.out); have HX1 := hid (keepOwn hb1 HX1.out); clear hb1)
    have HB2 := hid (HB1.out.alloc HB1.out.size (.cells #[strV Z] 9))
    have hz1 := HB1.out.size
    have HX0 := hid (keepOwn ((Below.refl w1.heap.size w1).alloc (Nat.le_refl _) (.cells #[strV Z] 9)) HX0.out)
    have HX1 := hid (keepOwn ((Below.refl w1.heap.size w1).alloc (Nat.le_refl _) (.cells #[strV Z] 9)) HX1.out)
    refine (HR.out w1.heap.size _ (cell_new _ _ _ 0 _ rfl)).mono ?_
    rintro e w2 ⟨vp, rfl, hos, hb2⟩
    have HB3 := hid (below_step hb2 HB2.out)
    obtain ⟨⟨u0, x0⟩, f0⟩ := keepOwn hb2 HX0.out
    obtain ⟨⟨u1, x1⟩, f1⟩ := keepOwn hb2 HX1.out
    have hz2 : w.heap.size + 1 ≤ (w1.alloc (.cells #[strV Z] 9)).heap.size := by
      obtain ⟨⟨u, hu⟩, -⟩ := HX0.out
      exact World.block_lt_of_cell? _ _ hu
    have HOS := hid (hos.mono (B' := w.heap.size + 1) hz2)
    have hz3 : w.heap.size < w2.heap.size := World.block_lt_of_cell? _ _ x0
    clear hb2 hos hz2
    obtain ⟨o, cap, rfl, -, -⟩ := HOS.out.rd
    go_wp2_with fail
    have hne : (Value.slice o L.length cap).ownBlock ≠ some w.heap.size := fun e => by have := (World.ownsRow.lt HOS.out _ e).1; omega
    exact bodyPost_ret (v := .tuple #[.agg #[.slice o L.length cap, .slice none 0 0], .int .i64 0]) (by simp [results, Tryz.results30, go_sem, x0, x1, hz3]) rfl
      ⟨_, _, rfl, OS.mono (ownsRow_setCell_other (ownsRow_setCell_other HOS.out hne _) hne _) (by omega), oW_nil _ _, (HB3.out.setCell (by simp only; omega) _).setCell (by simp only; omega) _⟩
  · have hr : newDk n = (([], []), 1) := by unfold newDk; rw [if_neg hn]
    rw [hr]
    have hx0 := ownc_new w #[.slice none 0 0, .slice none 0 0] 25 0 (by decide)
    have hb := ((Below.refl w.heap.size w).alloc (Nat.le_refl _) (.cells #[.slice none 0 0, .slice none 0 0] 25))
    have HF := hid (((hb.setCell (p := ⟨w.heap.size, 0, none⟩) (by simp only; omega) (.slice none 0 0)).setCell (p := ⟨w.heap.size, 1, none⟩) (by simp only; omega) (.slice none 0 0)))
    clear hr hx0 hb
    by_cases h4 : n < 4
    · have hd1 : decide (n < 4) = true := by simp; omega
      clear hn
      go_enter Tryz.func30, Tryz.ntmps30
      go_wp2_with fail
      exact bodyPost_ret (v := .tuple #[.agg #[.slice none 0 0, .slice none 0 0], .int .i64 1]) (by simp [results, Tryz.results30, go_sem]) rfl ⟨_, _, rfl, oS_nil _ _, oW_nil _ _, by first | exact HF.out | exact (Below.refl w.heap.size w).alloc (Nat.le_refl _) _⟩
    · have hd1 : decide (n < 4) = false := by simp; omega
      have hd2 : decide (4096 < n) = true := by simp; omega
      clear hn
      go_enter Tryz.func30, Tryz.ntmps30
      go_wp2_with fail
      exact bodyPost_ret (v := .tuple #[.agg #[.slice none 0 0, .slice none 0 0], .int .i64 1]) (by simp [results, Tryz.results30, go_sem]) rfl ⟨_, _, rfl, oS_nil _ _, oW_nil _ _, by first | exact HF.out | exact (Below.refl w.heap.size w).alloc (Nat.le_refl _) _⟩
end Go.Proofs.YtifcgimpgbeocaaGreat
/- The reference's zeros, NewDisk. -/
set_option linter.unusedVariables false
set_option linter.unusedSimpArgs false
namespace Go.Proofs.YtifcgimpgbeocaaGreat
open Go.RowKit
attribute [local go_sem] Oper.semAt_some
set_option maxHeartbeats 1000000 in
set_option maxRecDepth 100000 in
theorem rzeros_any (n : Nat) (w : World) (hn : n ≤ 1000000) : Calls Tryz.prog 58 #[.int .i64 (n : Int)] w (Ret (strV (zs n)) w) := by
  have hm := run_makeB w n hn
  have hc := run_strB (w.alloc (.cells (cellsB (List.replicate n 0)).toArray 5)) w.heap.size n (List.replicate n 0) (bytes_new _ _)
  rw [List.length_replicate] at hc
  have HB := hid (balloc (Below.refl w.heap.size w) (.cells (cellsB (List.replicate n 0)).toArray 5))
  go_enter Tryz.func58, Tryz.ntmps58
  go_wp2_with fail
  go_ret
  exact ⟨rfl, HB.out⟩
theorem enter_zeros (u : Value) (w : World) : (callFunc 58 #[u]).run Tryz.prog w = .ok (.enter 58 #[u]) w := by
  kernel_rfl
set_option maxHeartbeats 2000000 in
set_option maxRecDepth 100000 in
theorem rnewdisk_any (n : Int) (w : World) : Calls Tryz.prog 32 #[.int .i64 n] w (RetDk (newDk n).1 (newDk n).2 w) := by
  have HBW := hid (B2.new w 25 (.slice none 0 0) (.slice none 0 0))
  have HZ : Hid (∀ w', Calls Tryz.prog 58 #[.int .i64 64] w' (Ret (strV (zs 64)) w')) := fun w' => rzeros_any 64 w' (by decide)
  by_cases hn : 4 ≤ n ∧ n ≤ 4096
  rotate_left
  · have HR : Hid (newDk n = (([], []), 1)) := by unfold Hid newDk; rw [if_neg hn]
    have f0 := HBW.out.2.1.2; have f1 := HBW.out.2.2.2
    have y0 : (w.alloc (.cells #[.slice none 0 0, .slice none 0 0] 25)).cell? ⟨w.heap.size, 0, none⟩ = some (.slice none 0 0) := cell_new _ _ _ 0 _ rfl
    have y1 : (w.alloc (.cells #[.slice none 0 0, .slice none 0 0] 25)).cell? ⟨w.heap.size, 1, none⟩ = some (.slice none 0 0) := cell_new _ _ _ 1 _ rfl
    have hz := HBW.out.lt
    by_cases h1 : n < 4
    · have g1 : decide (n < 4) = true := by simpa using h1
      clear hn h1
      go_enter Tryz.func32, Tryz.ntmps32
      go_wp2_with fail
      rw [HR.out]
      exact bodyPost_ret (v := .tuple #[.agg #[.slice none 0 0, .slice none 0 0], .int .i64 1]) (by simp [results, Tryz.results32, go_sem, y0, y1, f0, f1, hz]) rfl ⟨_, _, rfl, oS_nil _ _, oW_nil _ _, HBW.out.1⟩
    · have g1 : decide (n < 4) = false := by simpa using h1
      have g2 : decide (4096 < n) = true := by simp; omega
      clear hn h1
      go_enter Tryz.func32, Tryz.ntmps32
      go_wp2_with fail
      rw [HR.out]
      exact bodyPost_ret (v := .tuple #[.agg #[.slice none 0 0, .slice none 0 0], .int .i64 1]) (by simp [results, Tryz.results32, go_sem, y0, y1, f0, f1, hz]) rfl ⟨_, _, rfl, oS_nil _ _, oW_nil _ _, HBW.out.1⟩
  obtain ⟨m, rfl⟩ : ∃ m : Nat, n = (m : Int) := ⟨n.toNat, by omega⟩
  have HR : Hid (newDk (m : Int) = ((List.replicate m (zs 64), []), 0)) := by unfold Hid newDk; rw [if_pos hn]; rfl
  have g1 : decide ((m : Int) < 4) = false := by simp; omega
  have g2 : decide (4096 < (m : Int)) = false := by simp; omega
  obtain ⟨X, hX⟩ : ∃ X, X = w.alloc (.cells #[.slice none 0 0, .slice none 0 0] 25) := ⟨_, rfl⟩
  have hB2 := HBW.out
  rw [← hX] at hB2
  have hzX : X.heap.size = w.heap.size + 1 := by rw [hX]; simp
  have HLD := hid (LD.start (w0 := w) (D := X.heap.size) hB2.1 (Nat.le_refl _) (by omega) rfl hB2.2.1 hB2.2.2)
  obtain ⟨W2, hW2⟩ : ∃ W2, W2 = X.alloc (.cells #[.slice none 0 0, .slice none 0 0] 25) := ⟨_, rfl⟩
  rw [← hW2] at HLD
  have HX := hid hX; have HW2 := hid hW2; have HZX := hid hzX
  have hm : m ≤ 4096 := by omega
  have HS0 : Hid (List.replicate 0 (zs 64) = []) := rfl
  clear hX hW2 hzX hB2 HBW hn
  go_enter Tryz.func32, Tryz.ntmps32
  go_upto_region 4 with fail
  have e := HX.out
  rw [← e]
  have e2 := HW2.out
  try rw [← e2]
  try rw [← HZX.out]
  clear e e2 HX HW2
  obtain ⟨D, hD⟩ : ∃ D, X.heap.size = D := ⟨_, rfl⟩
  obtain ⟨R, hR⟩ : ∃ R, w.heap.size = R := ⟨_, rfl⟩
  simp only [hD, hR] at HLD ⊢
  have HRR := hid hR
  clear hD hR HZX
  go_wp2_with fail
  go_loopw [5] (fun i wr => ∃ (k : Nat) (o : Option Addr) (c : Nat), i = .int .i64 (k : Int) ∧ k ≤ m ∧ Hid (LD w R D (.slice o k c) (.slice none 0 0) (List.replicate k (zs 64)) [] wr)) (fun i _ => m - (intOf i).toNat)
  case atStart => exact ⟨0, none, 0, rfl, Nat.zero_le _, HLD⟩
  case round =>
    clear HLD
    obtain ⟨k, o, c, rfl, hk, HLD⟩ := hrel
    have d0 := HLD.out.d0; have d1 := HLD.out.d1
    have df := HLD.out.df 0
    by_cases hlt : k < m
    · have hlti : (k : Int) < (m : Int) := by omega
      have HLEN : Hid ((List.replicate k (zs 64)).length ≤ 1000000) := by unfold Hid; rw [List.length_replicate]; omega
      have HSZ := hid HLD.out.dlt
      clear d1
      go_wp2_with fail
      go_region_law (first
        | (refine step_call1 (by rfl) 58 (.const (.int .i64 64)) 3 (.int .i64 64) (by rfl) (by simp [Act.eval]) enter_zeros (HZ.out _) ?_; rintro e wz ⟨rfl, hbz⟩; refine ⟨_, rfl, ?_⟩; have hbz := below_step hbz (drew_below wr); have HLZ := hid (HLD.out.below hbz); have hba := balloc (Below.refl wz.heap.size wz) (.cells #[strV (zs 64)] 9); have HLY := hid (HLZ.out.below hba); have d0 := HLZ.out.d0; have d0a := HLY.out.d0; have df := HLZ.out.df 0; clear hbz hba)
        | (refine step_appS (by rfl) (.tmp 20) (.tmp 22) (by rfl) (D + 1) (.slice o k c) (List.replicate k (zs 64)) (zs 64) wz.heap.size 1 (by simp [Act.eval, Act.put]) (by simp [Act.eval, Act.put]) HLY.out.o1 (cellsS _ _ _ (cell_new wz #[strV (zs 64)] 9 0 _ rfl)) HLEN.out (by have := HLY.out.dlt; omega) ?_; intro v13 w13 ho13 hg13 hat13; obtain ⟨o13, c13, hv13⟩ : ∃ o c, v13 = .slice o (k + 1) c := (by obtain ⟨o, c, e, -⟩ := ho13.rd; rw [List.length_append, List.length_replicate] at e; exact ⟨o, c, e⟩); subst hv13; have HPUT := hid (HLY.out.put1 hg13 ho13); obtain ⟨⟨x13, zz0⟩, zzf⟩ := own_grown' ⟨⟨_, HLY.out.d0⟩, HLY.out.df 0⟩ hg13 (fun e => by have := (World.ownsRow.lt HLY.out.o1 _ e).1; simp only at this; omega))
        | (fail "x"))
      all_goals
        obtain ⟨w14, hw14⟩ : ∃ w14, w14 = w13.setCell ⟨D, 0, none⟩ (.slice o13 (k + 1) c13) := ⟨_, rfl⟩
        rw [← hw14] at HPUT ⊢
        have HN : Hid (LD w R D (.slice o13 (k + 1) c13) (.slice none 0 0) (List.replicate (k + 1) (zs 64)) [] w14) := by unfold Hid; rw [List.replicate_succ']; exact HPUT.out
        clear hw14 zz0 zzf ho13 hg13 hat13 d0 HPUT
        go_wp2_with fail
        go_roundw
        case rel => exact ⟨k + 1, o13, c13, by go_num, by omega, HN⟩
        case measure => simp [intOf]; omega
    · have hge : ¬ (k : Int) < (m : Int) := by omega
      have hkm : k = m := by omega
      subst hkm
      obtain ⟨⟨v0, y0⟩, f0⟩ := HLD.out.r0
      obtain ⟨⟨v1, y1⟩, f1⟩ := HLD.out.r1
      have hz : R < wr.heap.size := by have := HLD.out.dlt; have := HLD.out.rd; omega
      go_wp2_with fail
      rw [HR.out]
      obtain ⟨e1, e2, e3⟩ := HLD.out.end
      exact bodyPost_ret (v := .tuple #[.agg #[.slice o k c, .slice none 0 0], .int .i64 0]) (by simp [results, Tryz.results32, go_sem, y0, y1, f0, f1, hz]) rfl ⟨_, _, rfl, e1, e2, e3⟩
end Go.Proofs.YtifcgimpgbeocaaGreat
/- What a step of a store makes of what it keeps. -/
set_option linter.unusedVariables false
set_option linter.unusedSimpArgs false
namespace Go.Proofs.YtifcgimpgbeocaaGreat
open Go.RowKit
/-- A store in block S, all of whose memory is U. -/
def So (w : World) (U : Nat → Prop) (S : Nat) (st : St) : Prop := ∃ D vp vq va vw vd vk us ks, SA w U S D vp vq va vw vd vk us ks st
/-- What a method of a store leaves: it returns v, the store is st', nothing else that was there has turned. -/
def StPost (U : Nat → Prop) (S : Nat) (v : Value) (st' : St) (w : World) (e : Ending) (w' : World) : Prop :=
  e = .returned v ∧ ∃ U', So w' U' S st' ∧ Frm U w w' ∧ ∀ k, U' k → U k ∨ w.heap.size ≤ k
/-- do: the datasets alone. -/
def inDo (st : St) (o : FOp) : St := { st with now := (doData st.now o).1 }
theorem doData_bad {data : List Ds} {o : FOp} (h : ¬ (isOp o = true ∧ o.2.1 < (data.length : Int))) : doData data o = (data, ([], []), 1) := by unfold doData; rw [if_neg h]
theorem frm_put (w : World) (g i : Nat) (v : Value) : Frm (fun k => k = g) w (w.setCell ⟨g, i, none⟩ v) := frm_setCell (Frm.refl _ _) (by rfl) v
variable {w : World} {U : Nat → Prop} {S D : Nat} {vp vq va vw vd vk : Value} {us ks : List Value} {st : St}
theorem SA.vdS (h : SA w U S D vp vq va vw vd vk us ks st) : vd.ownBlock ≠ some S ∧ vd.ownBlock ≠ some D := h.no vd (.inr (.inr rfl))
theorem SA.mem_us {i : Nat} {u : Value} (hu : us[i]? = some u) : u ∈ vp :: vq :: vk :: (us ++ ks) := by have := List.mem_of_getElem? hu; simp [this]
theorem SA.mem_ks {i : Nat} {u : Value} (hu : ks[i]? = some u) : u ∈ vp :: vq :: vk :: (us ++ ks) := by have := List.mem_of_getElem? hu; simp [this]
/-- A dataset is laid in the place of another one. -/
theorem SA.data (h : SA w U S D vp vq va vw vd vk us ks st) {g cd i B : Nat} {v : Value} {d : Ds} (hvd : vd = .slice (some ⟨g, 0, none⟩) us.length cd) (hi : i < us.length) (ho : OR w B v d) (hB : ∀ k, U k → k < B) :
    SA (w.setCell ⟨g, i, none⟩ v) (fun k => U k ∨ v.ownBlock = some k) S D vp vq va vw vd vk (us.set i v) ks { st with now := st.now.set i d } := by
  have hgo : vd.ownBlock = some g := by rw [hvd]; rfl
  have hgU : U g := h.uF g (.inr (.inr (.inr (.inr hgo))))
  have hgl := h.ult g hgU
  have hvo : ∀ k, v.ownBlock = some k → B ≤ k ∧ k < w.heap.size := fun k hk => World.ownsRow.lt ho k hk
  have hSg : S ≠ g := fun e => h.vdS.1 (by rw [hgo, e])
  have hDg : D ≠ g := fun e => h.vdS.2 (by rw [hgo, e])
  have hz : w.heap.size ≤ (w.setCell ⟨g, i, none⟩ v).heap.size := (frm_put w g i v).size
  have hblk : ∀ k, k ≠ g → (w.setCell ⟨g, i, none⟩ v).heap[k]? = w.heap[k]? := fun k hk => Below.heap_setCell _ _ _ _ hk
  have hR : ∀ x, x ∈ vp :: vq :: vk :: (us ++ ks) → ∀ k, x.ownBlock = some k → k ≠ g := fun x hx k hk e => (h.uR x hx k hk).2 (by rw [e]; exact .inr (.inr (.inr (.inr hgo))))
  have hva : ∀ k, va.ownBlock = some k → k ≠ g := fun k hk e => by
    have := rows_apart h.dv.oa h.od (by decide)
    rcases this with h1 | h1
    · rw [h1] at hk; cases hk
    · exact h1 (by rw [hk, hgo, e])
  have hvw : ∀ k, vw.ownBlock = some k → k ≠ g := fun k hk e => by
    have := rows_apart h.ow h.od (by decide)
    rcases this with h1 | h1
    · rw [h1] at hk; cases hk
    · exact h1 (by rw [hk, hgo, e])
  have hS := hblk S hSg
  have hFS : ∀ k, FSt S D va vw vd k → U k := h.uF
  refine ⟨?_, fun k hk => .inl (h.uF k hk), ?_, h.sd, h.no, cell_at hS h.s0, cell_at hS h.s1, cell_at hS h.s2, cell_at hS h.s3, cell_at hS h.s4, cell_at hS h.s5, cell_at hS h.s6, cell_at hS h.s7, cell_at hS h.s8, fun j => by rw [World.frozen?_setCell]; exact h.fz j, ?_, ?_, ?_, ?_, ?_, ?_, h.kl, ?_⟩
  · rintro k (hk | hk)
    · exact Nat.lt_of_lt_of_le (h.ult k hk) hz
    · exact Nat.lt_of_lt_of_le (hvo k hk).2 hz
  · intro x hx k hk
    have hx' : x = v ∨ x ∈ vp :: vq :: vk :: (us ++ ks) := by
      simp only [List.mem_cons, List.mem_append] at hx ⊢
      rcases hx with hx | hx | hx | hx | hx
      · exact .inr (.inl hx)
      · exact .inr (.inr (.inl hx))
      · exact .inr (.inr (.inr (.inl hx)))
      · rcases List.mem_or_eq_of_mem_set hx with hx | hx
        · exact .inr (.inr (.inr (.inr (.inl hx))))
        · exact .inl hx
      · exact .inr (.inr (.inr (.inr (.inr hx))))
    rcases hx' with rfl | hx'
    · refine ⟨.inr hk, fun hf => ?_⟩
      have h1 := hB k (hFS k hf)
      have h2 := (hvo k hk).1
      omega
    · exact ⟨.inl (h.uR x hx' k hk).1, (h.uR x hx' k hk).2⟩
  · exact h.dv.blocks hz (fun k hk hc => hblk k (by
      rcases hc with rfl | hc | hc | hc
      · exact hDg
      · exact hva k hc
      · exact hR vp (by simp) k hc
      · exact hR vq (by simp) k hc)) (fun k hk => h.ult k (h.uR vp (by simp) k hk).1) (fun k hk => h.ult k (h.uR vq (by simp) k hk).1)
  · exact ownsRow_of_block h.ow fun k hk => hblk k (hvw k hk)
  · subst hvd
    exact (OV.set (u := v) h.od rfl hi).1
  · simp only [List.length_set]; exact h.ul
  · intro j u x hu hx
    by_cases hj : i = j
    · subst hj
      rw [List.getElem?_set_self (by omega)] at hu
      simp only [Option.some.injEq] at hu
      have hx' : x = d := by
        simp only at hx
        rw [List.getElem?_set_self (by have := h.ul; omega)] at hx
        simpa using hx.symm
      subst hu hx'
      exact ownsRow_of_block (ho.mono (Nat.zero_le _)) fun k hk => hblk k (fun e => by have h1 := (hvo k hk).1; have h2 := hB g hgU; omega)
    · rw [List.getElem?_set_ne hj] at hu
      simp only at hx
      rw [List.getElem?_set_ne hj] at hx
      exact ownsRow_of_block (h.ur j u x hu hx) fun k hk => hblk k (hR u (SA.mem_us hu) k hk)
  · exact ownsRow_of_block h.ok fun k hk => hblk k (hR vk (by simp) k hk)
  · exact fun j u x hu hx => ownsRow_of_block (h.kr j u x hu hx) fun k hk => hblk k (hR u (SA.mem_ks hu) k hk)
theorem frm_drew {F : Nat → Prop} {w w1 : World} (h : Frm F w w1) : Frm F w w1.drew := ⟨h.os, h.tape, h.output, h.size, h.block⟩
theorem SA.data_post {W8 : World} (h : SA w U S D vp vq va vw vd vk us ks st) (hb : Below w.heap.size w W8) {g cd i B R : Nat} {v x y : Value} {d : Ds} (hvd : vd = .slice (some ⟨g, 0, none⟩) us.length cd) (hi : i < us.length) (ho : OR W8 B v d) (hR : w.heap.size ≤ R) (hRB : R < B) :
    ∃ U', So ((((W8.setCell ⟨g, i, none⟩ v).drew).setCell ⟨R, 0, none⟩ x).setCell ⟨R, 1, none⟩ y) U' S { st with now := st.now.set i d } ∧ Frm U w ((((W8.setCell ⟨g, i, none⟩ v).drew).setCell ⟨R, 0, none⟩ x).setCell ⟨R, 1, none⟩ y) ∧ ∀ k, U' k → U k ∨ w.heap.size ≤ k := by
  have hgU : U g := h.uF g (.inr (.inr (.inr (.inr (by rw [hvd]; rfl)))))
  have hvo : ∀ k, v.ownBlock = some k → B ≤ k := fun k hk => (World.ownsRow.lt ho k hk).1
  have h1 := (h.below hb).data hvd hi ho (fun k hk => by have := h.ult k hk; omega)
  have hf : Frm (fun k => k = R) (W8.setCell ⟨g, i, none⟩ v) ((((W8.setCell ⟨g, i, none⟩ v).drew).setCell ⟨R, 0, none⟩ x).setCell ⟨R, 1, none⟩ y) := frm_setCell (frm_setCell (frm_drew (Frm.refl _ _)) (by rfl) _) (by rfl) _
  have h2 := h1.frm hf (fun k hk e => by
    rcases hk with hk | hk
    · have := h.ult k hk; omega
    · have := hvo k hk; omega)
  refine ⟨_, ⟨D, vp, vq, va, vw, vd, vk, _, ks, h2⟩, ?_, fun k hk => ?_⟩
  · have f1 : Frm U w (W8.setCell ⟨g, i, none⟩ v) := frm_setCell (Frm.of_below hb) hgU v
    exact f1.trans hf (fun k hk e => by omega)
  · rcases hk with hk | hk
    · exact .inl hk
    · exact .inr (by have := hvo k hk; omega)
end Go.Proofs.YtifcgimpgbeocaaGreat
