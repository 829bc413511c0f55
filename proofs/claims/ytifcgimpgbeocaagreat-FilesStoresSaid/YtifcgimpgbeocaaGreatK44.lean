/- Commit. -/
import Derived.Test.YtifcgimpgbeocaaGreatK40
import Derived.Test.YtifcgimpgbeocaaGreatK14
import Derived.Test.YtifcgimpgbeocaaGreatK18
import Derived.Test.YtifcgimpgbeocaaGreatK9
import Derived.Test.YtifcgimpgbeocaaGreatK20
import Derived.Test.YtifcgimpgbeocaaGreatK25
set_option linter.unusedVariables false
set_option linter.unusedSimpArgs false
namespace Go.Proofs.YtifcgimpgbeocaaGreat
open Go.RowKit
attribute [local go_sem] Oper.semAt_some
/-- A head in block Z. -/
def HdC (w : World) (Z : Nat) (h : Hd) : Prop := w.cell? ⟨Z, 0, none⟩ = some (.int .i64 h.1) ∧ w.cell? ⟨Z, 1, none⟩ = some (.int .i64 h.2.1) ∧ w.cell? ⟨Z, 2, none⟩ = some (.int .i64 h.2.2.1) ∧ w.cell? ⟨Z, 3, none⟩ = some (.int .i64 h.2.2.2) ∧ ∀ j, j < 4 → w.frozen? ⟨Z, j, none⟩ = false
theorem HdC.below {w w' : World} {Z : Nat} {h : Hd} (k : HdC w Z h) (hb : Below w.heap.size w w') : HdC w' Z h := by
  have hZ : Z < w.heap.size := World.block_lt_of_cell? _ _ k.1
  exact ⟨keepc hb k.1, keepc hb k.2.1, keepc hb k.2.2.1, keepc hb k.2.2.2.1, fun j hj => (hb.frozen (p := ⟨Z, j, none⟩) hZ).trans (k.2.2.2.2 j hj)⟩
theorem HdC.new (w : World) (h : Hd) : HdC (w.alloc (.cells #[.int .i64 h.1, .int .i64 h.2.1, .int .i64 h.2.2.1, .int .i64 h.2.2.2] 82)) w.heap.size h :=
  ⟨cell_new _ _ _ 0 _ rfl, cell_new _ _ _ 1 _ rfl, cell_new _ _ _ 2 _ rfl, cell_new _ _ _ 3 _ rfl, fun j _ => by unfold World.frozen?; rw [heap_alloc_new]; simp⟩
theorem setZ (w : World) (S i : Nat) (v : Value) (j : Nat) (h : j ≠ i) : (w.setCell ⟨S, i, none⟩ v).cell? ⟨S, j, none⟩ = w.cell? ⟨S, j, none⟩ := World.cell?_setCell_other _ _ _ _ (fun e => h (by cases e; rfl))
theorem HdC.set4 {w : World} {Z : Nat} (h : Hd) (o : ∀ j, j < 4 → OwnC w ⟨Z, j, none⟩) :
    HdC ((((w.setCell ⟨Z, 0, none⟩ (.int .i64 h.1)).setCell ⟨Z, 1, none⟩ (.int .i64 h.2.1)).setCell ⟨Z, 2, none⟩ (.int .i64 h.2.2.1)).setCell ⟨Z, 3, none⟩ (.int .i64 h.2.2.2)) Z h := by
  obtain ⟨⟨x0, h0⟩, -⟩ := o 0 (by decide)
  obtain ⟨⟨x1, h1⟩, -⟩ := o 1 (by decide)
  obtain ⟨⟨x2, h2⟩, -⟩ := o 2 (by decide)
  obtain ⟨⟨x3, h3⟩, -⟩ := o 3 (by decide)
  refine ⟨?_, ?_, ?_, ?_, fun j hj => ?_⟩
  · rw [setZ _ _ _ _ _ (by decide), setZ _ _ _ _ _ (by decide), setZ _ _ _ _ _ (by decide)]; exact sameS _ h0
  · rw [setZ _ _ _ _ _ (by decide), setZ _ _ _ _ _ (by decide)]; exact sameS (x := x1) _ (by rw [setZ _ _ _ _ _ (by decide)]; exact h1)
  · rw [setZ _ _ _ _ _ (by decide)]; exact sameS (x := x2) _ (by rw [setZ _ _ _ _ _ (by decide), setZ _ _ _ _ _ (by decide)]; exact h2)
  · exact sameS (x := x3) _ (by rw [setZ _ _ _ _ _ (by decide), setZ _ _ _ _ _ (by decide), setZ _ _ _ _ _ (by decide)]; exact h3)
  · rw [World.frozen?_setCell, World.frozen?_setCell, World.frozen?_setCell, World.frozen?_setCell]; exact (o j hj).2
theorem HdC.set1 {w : World} {Z : Nat} {h : Hd} (k : HdC w Z h) (x : Nat) : HdC (w.setCell ⟨Z, 1, none⟩ (.int .i64 (x : Int))) Z (h.1, x, h.2.2) := by
  obtain ⟨h0, h1, h2, h3, hf⟩ := k
  exact ⟨by rw [setZ _ _ _ _ _ (by decide)]; exact h0, sameS _ h1, by rw [setZ _ _ _ _ _ (by decide)]; exact h2, by rw [setZ _ _ _ _ _ (by decide)]; exact h3, fun j hj => by rw [World.frozen?_setCell]; exact hf j hj⟩
theorem HdC.set03 {w : World} {Z : Nat} {h : Hd} (k : HdC w Z h) (x y : Nat) : HdC ((w.setCell ⟨Z, 0, none⟩ (.int .i64 (x : Int))).setCell ⟨Z, 3, none⟩ (.int .i64 (y : Int))) Z (x, h.2.1, h.2.2.1, y) := by
  obtain ⟨h0, h1, h2, h3, hf⟩ := k
  exact ⟨by rw [setZ _ _ _ _ _ (by decide)]; exact sameS _ h0, by rw [setZ _ _ _ _ _ (by decide), setZ _ _ _ _ _ (by decide)]; exact h1, by rw [setZ _ _ _ _ _ (by decide), setZ _ _ _ _ _ (by decide)]; exact h2,
    sameS (x := .int .i64 (h.2.2.2 : Int)) _ (by rw [setZ _ _ _ _ _ (by decide)]; exact h3), fun j hj => by rw [World.frozen?_setCell, World.frozen?_setCell]; exact hf j hj⟩
theorem HdC.frm {w w' : World} {Z : Nat} {h : Hd} {F : Nat → Prop} (k : HdC w Z h) (hf : Frm F w w') (hF : ¬ F Z) : HdC w' Z h := by
  obtain ⟨h0, h1, h2, h3, hz⟩ := k
  have hZ := World.block_lt_of_cell? _ _ h0
  exact ⟨hf.cell hF h0, hf.cell hF h1, hf.cell hF h2, hf.cell hF h3, fun j hj => (frozen_at (hf.block Z hZ hF)).trans (hz j hj)⟩
theorem commit_fin {U U2 U5 U' : Nat → Prop} {S Z : Nat} {w wc w2 w3 w5 wf : World} {st' : St} {v : Value} (h1 : Below w.heap.size w wc) (hZ : w.heap.size ≤ Z) (h2 : Frm U wc w2) (h3 : Frm (fun k => k = Z) w2 w3) (h4 : Frm U2 w3 w5) (h5 : Frm U5 w5 wf)
    (u2 : ∀ k, U2 k → U k ∨ wc.heap.size ≤ k) (u5 : ∀ k, U5 k → U2 k ∨ w3.heap.size ≤ k) (u' : ∀ k, U' k → U5 k ∨ w5.heap.size ≤ k) (hso : So wf U' S st') : StPost U S v st' w (.returned v) wf := by
  have z1 := h1.size; have z2 := h2.size; have z3 := h3.size; have z4 := h4.size
  have k2 : ∀ k, U2 k → U k ∨ w.heap.size ≤ k := fun k hk => (u2 k hk).imp id (fun h => by omega)
  have k5 : ∀ k, U5 k → U k ∨ w.heap.size ≤ k := fun k hk => (u5 k hk).elim (k2 k) (fun h => .inr (by omega))
  refine ⟨rfl, U', hso, ?_, fun k hk => (u' k hk).elim (k5 k) (fun h => .inr (by omega))⟩
  refine ((((Frm.of_below (F := U) h1).trans h2 (fun i _ h => h)).trans h3 (fun i hi e => by omega)).trans h4 (fun i hi h => (k2 i h).elim id (fun h => by omega))).trans h5 (fun i hi h => (k5 i h).elim id (fun h => by omega))
set_option maxHeartbeats 4000000 in
set_option maxRecDepth 100000 in
theorem commit_any (U : Nat → Prop) (S : Nat) (st : St) (w : World) (h : So w U S st) (hL : Live st) (hops : st.ops.length ≤ 1000) (ha : st.acts.length ≤ 800000) :
    Calls Tryz.prog 21 #[.pointer (some ⟨S, 0, none⟩)] w (StPost U S (.int .i64 (commitD st).2) (commitD st).1 w) := by
  have HSO := hid h
  obtain ⟨D, vp, vq, va, vw, vd, vk, us, ks, h⟩ := h
  have HH := hid h
  have HLV := hid hL
  have hdl := isDk_len hL.as_.dk
  have hhp := hdOk_parts hL.as_.hd
  have hcs := (SD.start h).cells
  obtain ⟨s0, op, cp, oq, cq, d0, d1⟩ := hcs
  have s1 := h.s1; have s2 := h.s2; have s3 := h.s3; have s4 := h.s4; have s5 := h.s5; have s6 := h.s6; have s7 := h.s7
  obtain ⟨ow, cw, hvw, -, -⟩ := h.ow.rd
  rw [hvw] at s6
  have hnow8 : st.now.length ≤ 8 := by rw [now_len hL]; omega
  have HENC := hid (fun w' (hb : Below w.heap.size w w') => encode_any st.ops vw w' (h.ow.rd.below hb) (by omega) (fun o ho => chg_bd (hL.chg o ho)))
  rw [hvw] at HENC
  have HHF := hid (fun w' => half_any op st.dk.1.length cp (.slice oq st.dk.2.length cq) w' hdl.1 hdl.2)
  have htn := live_turn hL
  have htb := hL.as_.turn
  by_cases hnil : st.ops = []
  · have hz : st.ops.length = 0 := by rw [hnil]; rfl
    rw [hz] at s6
    have HCD : Hid (commitD st = (st, 0)) := commitD_nil hnil
    clear hnil hz h hL hvw hops ha HENC
    go_enter Tryz.func21, Tryz.ntmps21
    go_wp2_with fail
    go_ret
    rw [HCD.out]
    exact stPost_below HSO.out (Below.refl _ _)
  have hnz : ((st.ops.length : Int) == 0) = false := by
    cases hx : st.ops with
    | nil => exact absurd hx hnil
    | cons a b => simp; omega
  have htb' : (((st.hd.1 : Nat) : Int) == 4294967295) = false := by simp; omega
  go_enter Tryz.func21, Tryz.ntmps21
  obtain ⟨N, hN⟩ : ∃ N, st.dk.1.length = N := ⟨_, rfl⟩
  obtain ⟨R, hR⟩ : ∃ R, room st = R := ⟨_, rfl⟩
  have hRv : R = 64 * halfN N := by rw [← hR, ← hN]; rfl
  have hhb : halfN N ≤ 2047 := by unfold halfN; omega
  have e1 : IntKind.i64.wrap (64 * (halfN N : Int)) = (R : Int) := by rw [IntWalk.i64_in _ ⟨by omega, by omega⟩]; omega
  have HOPE : Hid (∀ o ∈ st.ops, o.2.2.1.length ≤ 255 ∧ o.2.2.2.length ≤ 255) := fun o ho => chg_bd (hL.chg o ho)
  have hlogl : st.log.length ≤ 131008 := by rw [hL.as_.loglen]; have := half_bd hdl.2; omega
  have hencl : (encL st.ops).length ≤ 514000 := by have := encL_bd st.ops HOPE.out; omega
  have hsum : st.log.length + (encL st.ops).length ≤ 9223372036854775807 := by omega
  simp only [hN] at HHF d0
  have HLL := hid hlogl; have HEL := hid hencl; have HTB := hid htb; have HNL := hid hnil; have HRV := hid hRv; have HHB := hid hhb; have HHP := hid hhp; have HDL := hid hdl; have HRM := hid hR; have HNN := hid hN; have HN8 := hid hnow8; have HOP := hid hops; have HAC := hid ha; have HLG := hid hL
  have HTN := hid htn; have HVW := hid hvw
  clear hlogl hencl htb hnil hRv hhb hhp hdl hR hN hnow8 hops ha hL htn hvw h
  go_wp2_with fail
  refine (HHF.out _).mono ?_
  rintro e w1 ⟨rfl, hb1⟩
  have HB1 := hid hb1
  have s0 := keepc hb1 s0; have s1 := keepc hb1 s1; have s2 := keepc hb1 s2; have s3 := keepc hb1 s3; have s4 := keepc hb1 s4; have s5 := keepc hb1 s5; have s6 := keepc hb1 s6; have s7 := keepc hb1 s7
  clear hb1 d0 d1
  go_upto_region 8 with fail
  go_cut [4, 5] (fun x4 x5 wx => ∃ Z : Nat, x4 = .pointer (some ⟨Z, 0, none⟩) ∧ x5 = strV (st.log ++ encL st.ops) ∧ Hid (w.heap.size ≤ Z) ∧ Hid (HdC wx Z st.hd) ∧ Hid (Below w.heap.size w wx))
  case first =>
    have HZ7 : Hid (∀ j, j < 4 → OwnC (w1.drew.alloc (.cells #[.int .i64 0, .int .i64 0, .int .i64 0, .int .i64 0] 82)) ⟨w1.heap.size, j, none⟩) := fun j hj => ownc_new w1.drew #[.int .i64 0, .int .i64 0, .int .i64 0, .int .i64 0] 82 j (by simp; omega)
    go_region_held3 (fun w' => Below w1.heap.size w1 w' ∧ w'.cell? ⟨S, 1, none⟩ = some (.int .i64 st.hd.1) ∧ w'.cell? ⟨S, 2, none⟩ = some (.int .i64 st.hd.2.1) ∧ w'.cell? ⟨S, 3, none⟩ = some (.int .i64 st.hd.2.2.1) ∧ w'.cell? ⟨S, 4, none⟩ = some (.int .i64 st.hd.2.2.2) ∧ w'.cell? ⟨S, 5, none⟩ = some (strV st.log) ∧ w'.cell? ⟨S, 6, none⟩ = some (.slice ow st.ops.length cw))
      ((refine (fun hS => ⟨hS, keepc hS s1, keepc hS s2, keepc hS s3, keepc hS s4, keepc hS s5, keepc hS s6⟩ : Below w1.heap.size w1 _ → _) ?_; first | exact (Below.refl _ _).drew | exact hb5 | exact balloc hb5 _ | exact (balloc (Below.refl _ _) _).drew | exact balloc (Below.refl _ _).drew _ | exact (((hb5.setCell (p := ⟨w1.heap.size, 0, none⟩) (Nat.le_refl _) _).setCell (p := ⟨w1.heap.size, 1, none⟩) (Nat.le_refl _) _).setCell (p := ⟨w1.heap.size, 2, none⟩) (Nat.le_refl _) _).setCell (p := ⟨w1.heap.size, 3, none⟩) (Nat.le_refl _) _))
      (first
        | (go_at_call 60; refine (HENC.out _ (below_step (And.left (by assumption)) HB1.out)).mono ?_; rintro e w5 ⟨rfl, hb5'⟩; have hb5 : Below w1.heap.size w1 w5 := below_step hb5' (And.left (by assumption)); (try have HZ8 := hid (fun j (hj : j < 4) => keepOwn hb5' (HZ7.out j hj))); (try obtain ⟨⟨zv0, zc0⟩, zf0⟩ := HZ8.out 0 (by decide)); (try obtain ⟨⟨zv1, zc1⟩, zf1⟩ := HZ8.out 1 (by decide)); (try obtain ⟨⟨zv2, zc2⟩, zf2⟩ := HZ8.out 2 (by decide)); (try obtain ⟨⟨zv3, zc3⟩, zf3⟩ := HZ8.out 3 (by decide)); clear hb5')
        | (fail "x"))
    · go_wp2_with fail
      go_meet
      case rel => exact ⟨w5.heap.size, rfl, rfl, Nat.le_trans HB1.out.size hb5.size, HdC.new w5 st.hd, below_step (And.left (by assumption)) HB1.out⟩
    · go_wp2_with fail
      go_meet
      case rel => exact ⟨w1.heap.size, rfl, rfl, HB1.out.size, HdC.set4 st.hd HZ8.out, below_step (And.left (by assumption)) HB1.out⟩
  case rest =>
    obtain ⟨Z, rfl, rfl, hwZ, HZC, HBc⟩ := hcut
    have s5 := keepc HBc.out HH.out.s5
    have HLA := hid (show (st.log ++ encL st.ops).length = st.log.length + (encL st.ops).length from List.length_append)
    obtain ⟨T, hT⟩ : ∃ T, st.log ++ encL st.ops = T := ⟨_, rfl⟩
    simp only [hT] at HLA ⊢
    have HTT := hid hT
    clear hT
    go_upto_if 64 with (fail)
    go_cut [5, 6] (fun x5 x6 wx => x5 = strV (nBytes st) ∧ x6 = .int .i64 (nFrom st : Int) ∧ Hid (HdC wx Z (st.hd.1, nLog st, st.hd.2.2)) ∧ Hid (Below w.heap.size w wx))
    case first =>
      by_cases hfull : R < T.length
      · have g64 : decide (R < T.length) = true := decide_eq_true hfull
        rw [g64]
        have HF1 : Hid (full1 st = true) := by unfold Hid full1; rw [HRM.out, HTT.out]; exact decide_eq_true (by omega)
        have HE5 : Hid (nBytes st = encL (snap 0 st.now)) := by unfold Hid nBytes; rw [HF1.out]; rfl
        have HE6 : Hid (nFrom st = 0) := by unfold Hid nFrom; rw [HF1.out]; rfl
        have HE7 : Hid (nLog st = 1 - st.hd.2.1) := by unfold Hid nLog; rw [HF1.out]; rfl
        obtain ⟨od, cd, hvd, hcd, hcc⟩ := HH.out.rdNow
        have s7 := HH.out.s7
        rw [hvd] at s7
        have s7 := keepc HBc.out s7
        have HCC := hid hcc
        obtain ⟨M, hM⟩ : ∃ M, st.now.length = M := ⟨_, rfl⟩
        rw [hM] at s7
        have HM := hid hM
        clear hcc hM hcd hvd
        have HO0 := hid (oO_nil wc wc.heap.size)
        have HALL := hid (now_all HLG.out)
        go_wp2_with fail
        go_loopw [7, 70] (fun u i wr => ∃ k : Nat, i = .int .i64 (k : Int) ∧ k ≤ M ∧ Hid (OO wr wc.heap.size u (snap 0 (st.now.take k))) ∧ Hid (Below wc.heap.size wc wr)) (fun _ i _ => M - (intOf i).toNat)
        case atStart => exact ⟨0, rfl, Nat.zero_le _, HO0, Below.refl _ _⟩
        case round =>
          obtain ⟨k, rfl, hk, HO, HB⟩ := hrel
          by_cases hlt : k < M
          · obtain ⟨d, hd⟩ : ∃ d, st.now[k]? = some d := ⟨_, List.getElem?_eq_getElem (by have := HM.out; omega)⟩
            have hHC := HCC.out
            rcases hHC with hc | ⟨b1, off, rfl, hbl, hc⟩
            · rw [hc] at hd; simp at hd
            obtain ⟨u, cu, hru⟩ := hc k d hd
            have HBB : Hid (Below w.heap.size w wr) := below_step HB.out HBc.out
            have HDL64 : Hid (d.length ≤ 64) := isDs_len (HALL.out d (List.mem_of_getElem? hd))
            have HSS := hid (snap_succ hd)
            obtain ⟨o2, c2, rfl, -, hc2⟩ := hru
            have HC2 := hid hc2
            have cu := keepc HBB.out cu
            obtain ⟨M2, hM2⟩ : ∃ M2, d.length = M2 := ⟨_, rfl⟩
            rw [hM2] at cu HDL64
            have HM2 := hid hM2
            have hlt64 : (k : Int) < (M : Int) := by omega
            have hM8 : M ≤ 8 := by have := HM.out; have := HN8.out; omega
            have HO' : Hid (OO wr wc.heap.size u7 (snap 0 (st.now.take k) ++ (d.take 0).map (wrO k))) := by unfold Hid; rw [List.take_zero, List.map_nil, List.append_nil]; exact HO.out
            have HSL : Hid ((snap 0 (st.now.take k)).length ≤ 512) := by
              have h1 := snap_len (st.now.take k) 0 (fun x hx => isDs_len (HALL.out x (List.mem_of_mem_take hx)))
              have h2 : (st.now.take k).length ≤ 8 := by rw [List.length_take]; have := HN8.out; omega
              unfold Hid; omega
            clear hc hc2 hM2 hd HO
            go_wp2_with fail
            go_loopw [7, 77] (fun u i wr2 => ∃ j : Nat, i = .int .i64 (j : Int) ∧ j ≤ M2 ∧ Hid (OO wr2 wc.heap.size u (snap 0 (st.now.take k) ++ (d.take j).map (wrO k))) ∧ Hid (Below wc.heap.size wc wr2)) (fun _ i _ => M2 - (intOf i).toNat)
            case atStart => exact ⟨0, rfl, Nat.zero_le _, HO', HB⟩
            case round =>
              obtain ⟨j, rfl, hj, HO2, HB2⟩ := hrel
              by_cases hlt2 : j < M2
              · obtain ⟨r, hr⟩ : ∃ r, d[j]? = some r := ⟨_, List.getElem?_eq_getElem (by have := HM2.out; omega)⟩
                have hHC2 := HC2.out
                rcases hHC2 with hc | ⟨b2, off2, rfl, hbl2, hc⟩
                · rw [hc] at hr; simp at hr
                obtain ⟨r0, r1⟩ := hc j r hr
                have hM64 := HDL64.out
                have HBW : Hid (Below w.heap.size w wr) := below_step HB2.out HBc.out
                have r0 := keepc HBW.out r0
                have r1 := keepc HBW.out r1
                have HW := hid (wr_succ (k := k) hr (snap 0 (st.now.take k)))
                have HLF : Hid ((snap 0 (st.now.take k) ++ (d.take j).map (wrO k)).length ≤ 1000000) := by
                  have h1 := HSL.out
                  have h2 : (d.take j).length ≤ 64 := by rw [List.length_take]; have := HDL64.out; have := HM2.out; omega
                  unfold Hid
                  rw [List.length_append, List.length_map]
                  omega
                have hlt3 : (j : Int) < (M2 : Int) := by omega
                obtain ⟨LL, hLL⟩ : ∃ LL, snap 0 (st.now.take k) ++ (d.take j).map (wrO k) = LL := ⟨_, rfl⟩
                rw [hLL] at HO2 HLF HW
                clear hLL hc hr HSL
                have X0 : (wr.alloc (.cells #[strV r.1, strV r.2] 59)).cell? ⟨wr.heap.size, 0, none⟩ = some (strV r.1) := cell_new _ _ _ 0 _ rfl
                have X1 : (wr.alloc (.cells #[strV r.1, strV r.2] 59)).cell? ⟨wr.heap.size, 1, none⟩ = some (strV r.2) := cell_new _ _ _ 1 _ rfl
                have HCE := cellsO _ _ ((3 : Int), (k : Int), r.1, r.2) (cell_new (wr.alloc (.cells #[strV r.1, strV r.2] 59)) #[.int .i64 3, .int .i64 (k : Int), strV r.1, strV r.2] 55 0 _ rfl) (cell_new (wr.alloc (.cells #[strV r.1, strV r.2] 59)) #[.int .i64 3, .int .i64 (k : Int), strV r.1, strV r.2] 55 1 _ rfl)
                  (cell_new (wr.alloc (.cells #[strV r.1, strV r.2] 59)) #[.int .i64 3, .int .i64 (k : Int), strV r.1, strV r.2] 55 2 _ rfl) (cell_new (wr.alloc (.cells #[strV r.1, strV r.2] 59)) #[.int .i64 3, .int .i64 (k : Int), strV r.1, strV r.2] 55 3 _ rfl)
                rw [World.size_alloc] at HCE
                have HCE := hid HCE
                have HBX : Hid (Below wr.heap.size wr ((wr.alloc (.cells #[strV r.1, strV r.2] 59)).alloc (.cells #[.int .i64 3, .int .i64 (k : Int), strV r.1, strV r.2] 55))) := balloc (balloc (Below.refl _ _) _) _
                have HZ3 : Hid (wc.heap.size ≤ ((wr.alloc (.cells #[strV r.1, strV r.2] 59)).alloc (.cells #[.int .i64 3, .int .i64 (k : Int), strV r.1, strV r.2] 55)).heap.size) := Nat.le_trans HB2.out.size HBX.out.size
                have HO3 := hid (HO2.out.below HBX.out)
                have HB3 : Hid (Below wc.heap.size wc ((wr.alloc (.cells #[strV r.1, strV r.2] 59)).alloc (.cells #[.int .i64 3, .int .i64 (k : Int), strV r.1, strV r.2] 55))) := below_step HBX.out HB2.out
                go_wp2_with (at_builtin; refine appO rfl _ _ rfl wc.heap.size _ LL ((3 : Int), (k : Int), r.1, r.2) _ _ rfl rfl HO3.out HCE.out HLF.out HZ3.out ?_)
                intro v7 w7 hop7 hg7
                have HB7 := hid (HO3.out.grown HB3.out hg7 HZ3.out)
                have HO7 : Hid (OO w7 wc.heap.size v7 (snap 0 (st.now.take k) ++ (d.take (j + 1)).map (wrO k))) := by unfold Hid; rw [HW.out]; exact hop7
                clear hop7 hg7
                go_wp2_with fail
                go_roundw
                case rel => exact ⟨j + 1, by go_num, by omega, HO7, HB7⟩
                case measure => simp [intOf]; omega
              · have hj2 : j = M2 := by omega
                subst hj2
                have HO4 : Hid (OO wr wc.heap.size u7 (snap 0 (st.now.take (k + 1)))) := by
                  have h1 := HO2.out
                  rw [List.take_of_length_le (l := d) (by have := HM2.out; omega)] at h1
                  unfold Hid
                  rw [HSS.out]
                  exact h1
                go_wp2_with fail
                go_roundw
                case rel => exact ⟨k + 1, by go_num, by omega, HO4, HB2⟩
                case measure => simp [intOf]; omega
          · have hk2 : k = M := by omega
            subst hk2
            have HO4 : Hid (OO wr wc.heap.size u7 (snap 0 st.now)) := by
              have h1 := HO.out
              rw [List.take_of_length_le (by have := HM.out; omega)] at h1
              exact h1
            have HRL : Hid (RdO wr u7 (snap 0 st.now)) := HO4.out.rd
            have HE2 := hid (fun w' (hb : Below wr.heap.size wr w') => encode_any (snap 0 st.now) u7 w' (HRL.out.below hb) (by
              have h1 := snap_len st.now 0 (fun x hx => isDs_len (HALL.out x hx))
              have := HN8.out
              omega) (fun o ho => chg_bd (snap_chg st.now 0 HALL.out (by have := HN8.out; omega) o ho)))
            obtain ⟨o7, c7, e7, -, -⟩ := HRL.out
            subst e7
            have HZ5 := hid (HZC.below (w' := wr) HB.out)
            have z1 := HZ5.out.2.1
            have zf := HZ5.out.2.2.2.2 1 (by decide)
            have hl1 : st.hd.2.1 ≤ 1 := HHP.out.2.2.1
            have q1 : IntKind.i64.wrap (1 - (st.hd.2.1 : Int)) = ((1 - st.hd.2.1 : Nat) : Int) := by rw [IntWalk.i64_in _ ⟨by omega, by omega⟩]; omega
            clear HO4 HO HCC HALL HRL
            go_upto_region 21 with fail
            go_region_with (go_at_call 60; refine (HE2.out _ (drew_below _)).mono ?_; rintro e w5 ⟨rfl, hb5⟩; have hb5 := below_step hb5 (drew_below wr); have HZ6 := hid (HZ5.out.below hb5); have HB6 : Hid (Below w.heap.size w w5) := below_step hb5 (below_step HB.out HBc.out); have z1 := HZ6.out.2.1; have zf := HZ6.out.2.2.2.2 1 (by decide); clear hb5)
            all_goals
              go_wp2_with fail
              go_meet
              case rel => exact ⟨by rw [HE5.out], by rw [HE6.out]; rfl, by rw [HE7.out]; exact HZ6.out.set1 _, HB6.out.setCell (p := ⟨Z, 1, none⟩) hwZ.out _⟩
      · have g64 : decide (R < T.length) = false := decide_eq_false hfull
        rw [g64]
        have HF1 : Hid (full1 st = false) := by unfold Hid full1; rw [HRM.out, HTT.out]; exact decide_eq_false (by omega)
        have HE5 : Hid (nBytes st = T) := by unfold Hid nBytes; rw [HF1.out]; exact HTT.out
        have HE6 : Hid (nFrom st = st.log.length) := by unfold Hid nFrom; rw [HF1.out]; rfl
        have HE7 : Hid (nLog st = st.hd.2.1) := by unfold Hid nLog; rw [HF1.out]; rfl
        go_wp2_with fail
        go_meet
        case rel => exact ⟨by rw [HE5.out], by rw [HE6.out], by rw [HE7.out]; exact HZC, HBc⟩
    case rest =>
      obtain ⟨rfl, rfl, HZD, HBd⟩ := hcut
      have hlg1 : nLog st ≤ 1 := nLog_le HLG.out
      have hfr1 : nFrom st ≤ (nBytes st).length := by
        unfold nFrom nBytes
        split
        · exact Nat.zero_le _
        · rw [List.length_append]; omega
      have HHD : Hid (nHd st = (st.hd.1 + 1, nLog st, st.hd.2.2.1, (nBytes st).length)) := rfl
      have HHA : Hid (headA st = (false, (((st.hd.1 + 1) % 2 : Nat) : Int), headPg (nHd st))) := rfl
      have HCE2 := hid (commit_eq st)
      rw [HNN.out] at HCE2
      have HFU := hid (fun hr => commitD_full (st := st) HNL.out HTN.out hr)
      have HOK := hid (fun hr => commitD_ok (st := st) HNL.out HTN.out hr)
      rw [HRM.out] at HFU HOK
      obtain ⟨NB, hNB⟩ : ∃ NB, nBytes st = NB := ⟨_, rfl⟩
      obtain ⟨LG, hLG⟩ : ∃ LG, nLog st = LG := ⟨_, rfl⟩
      obtain ⟨FR, hFR⟩ : ∃ FR, nFrom st = FR := ⟨_, rfl⟩
      simp only [hNB, hLG, hFR] at hlg1 hfr1 HHD HCE2 HFU HOK HZD ⊢
      clear hNB hLG hFR
      by_cases hroom : R < NB.length
      · have g1 : decide (R < NB.length) = true := decide_eq_true hroom
        have HCD : Hid (commitD st = (st, 144)) := HFU.out hroom
        clear HFU HOK HHD HCE2
        go_wp2_with fail
        go_ret
        rw [HCD.out]
        exact stPost_below HSO.out HBd.out
      have g1 : decide (R < NB.length) = false := decide_eq_false hroom
      have HCD : Hid (commitD st = (commitSt st, 0)) := HOK.out hroom
      have hNBl : NB.length ≤ 131008 := by have := HRV.out; have := HHB.out; omega
      have HLAY := hid (slay_any wc U S D vw vd vk us ks st LG FR NB wc (SD.start (HH.out.below HBd.out)) HLG.out.as_.dk hlg1 hfr1 (by rw [HNN.out, ← HRV.out]; omega) (by rw [HLG.out.as_.nw]; simp) (by have := HAC.out; omega))
      rw [HNN.out] at HLAY
      obtain ⟨stA, hstA⟩ : ∃ stA, actsSt st (layAcs N LG FR NB) = stA := ⟨_, rfl⟩
      have HSAN : Hid (stA.now = st.now) := by rw [← hstA]; rfl
      have HSAK : Hid (isDk stA.dk = true ∧ stA.dk.1.length = N ∧ stA.dk.2.length = 0 ∧ stA.acts.length ≤ 900000) := by
        rw [← hstA]
        have h1 := layAcs_dk (lg := LG) (fr := FR) (s := NB) HLG.out.as_.dk hlg1 (by rw [HNN.out, ← HRV.out]; omega)
        have h2 := layAcs_len N LG FR NB
        rw [HNN.out] at h1
        refine ⟨h1, by show (List.foldl actDk st.dk _).1.length = N; rw [fold_len, HNN.out], by show (List.foldl actDk st.dk _).2.length = 0; rw [layAcs_wait]; rfl, ?_⟩
        show (st.acts ++ _).length ≤ 900000
        rw [List.length_append]
        have := HAC.out
        unfold pgs at h2
        omega
      simp only [hstA] at HLAY HCE2
      clear hstA
      have z1 := HZD.out.2.1
      clear HFU HOK hroom
      go_wp2_with fail
      refine HLAY.out.mono ?_
      rintro e w2 ⟨rfl, vp2, vq2, va2, U2, hsa2, hf2, hu2⟩
      have HUZ : Hid (¬ U Z) := fun h => by have := HSO.out.lt Z h; have := hwZ.out; omega
      have hZlt : Z < wc.heap.size := World.block_lt_of_cell? _ _ HZD.out.1
      have HU2Z : Hid (¬ U2 Z) := fun h => by rcases hu2 Z h with h | h; exact HUZ.out h; omega
      have HZ2 := hid (HZD.out.frm hf2 HUZ.out)
      have HF2 := hid hf2; have HU2 := hid hu2; have HSA2 := hid hsa2
      have y0 := HZ2.out.1
      have y3 := HZ2.out.2.2.2.1
      have yf0 := HZ2.out.2.2.2.2 0 (by decide)
      have yf3 := HZ2.out.2.2.2.2 3 (by decide)
      have q2 : IntKind.i64.wrap ((st.hd.1 : Int) + 1) = ((st.hd.1 + 1 : Nat) : Int) := by have := HTB.out; rw [IntWalk.i64_in _ ⟨by omega, by omega⟩]; omega
      obtain ⟨T1, hT1⟩ : ∃ T1, st.hd.1 + 1 = T1 := ⟨_, rfl⟩
      rw [hT1] at q2
      simp only [hT1] at HHD HHA
      have HT1 := hid hT1
      clear hf2 hu2 hsa2 hT1 z1
      go_upto_region 27 with fail
      obtain ⟨w3, hw3⟩ : ∃ w3, w3 = (w2.setCell ⟨Z, 0, none⟩ (.int .i64 (T1 : Int))).setCell ⟨Z, 3, none⟩ (.int .i64 (NB.length : Int)) := ⟨_, rfl⟩
      have HF3 : Hid (Frm (fun k => k = Z) w2 w3) := by rw [hw3]; exact frm_setCell (frm_setCell (Frm.refl _ _) (by rfl) _) (by rfl) _
      have HZ3 : Hid (HdC w3 Z (T1, LG, st.hd.2.2.1, NB.length)) := by rw [hw3]; exact HZ2.out.set03 T1 NB.length
      rw [← hw3]
      clear hw3
      have HSA3 : Hid (SA w3 U2 S D vp2 vq2 va2 vw vd vk us ks stA) := HSA2.out.frm HF3.out (fun k hk e => HU2Z.out (by rw [← e]; exact hk))
      have HSD3 : Hid (SD w3 U2 S D vw vd vk us ks stA w3) := SD.start HSA3.out
      have HPAGE := hid (fun w' => page_any (T1, LG, st.hd.2.2.1, NB.length) w' (by have := HT1.out; have := HTB.out; show T1 < _; omega) (by show LG < _; omega) (by show st.hd.2.2.1 < _; have := HHP.out; omega) (by show NB.length < _; omega))
      have HPUT := hid (fun w' (hs : SD w3 U2 S D vw vd vk us ks stA w') => sput_any (headA st) hs HSAK.out.1 (by rw [HSAK.out.2.2.1]; omega) (by have := HSAK.out.2.2.2; omega))
      rw [HHA.out, HHD.out] at HPUT
      have q4 : IntKind.i64.wrap ((T1 : Int) % 2) = ((T1 % 2 : Nat) : Int) := by rw [IntWalk.i64_in _ ⟨by omega, by omega⟩]; omega
      have HZlt : Hid (Z < w3.heap.size) := World.block_lt_of_cell? _ _ HZ3.out.1
      clear q2 y0 y3 yf0 yf3 hZlt
      go_cut [125] (fun x125 wx => Hid (SD w3 U2 S D vw vd vk us ks (actSt stA (headA st)) wx))
      case first =>
        have c0 := HSA3.out.s0
        have y0 := HZ3.out.1; have y1 := HZ3.out.2.1; have y2 := HZ3.out.2.2.1; have y3 := HZ3.out.2.2.2.1
        simp only at y0 y1 y2 y3
        go_region_with (first
          | (go_at_call 31; refine (HPAGE.out _).mono ?_; rintro e w5 ⟨rfl, hb5⟩; have HI5 := hid (HSD3.out.drew.below hb5); have hb5 := below_step hb5 (drew_below w3); have c0 := keepc hb5 c0; have y0 := keepc hb5 y0; clear hb5)
          | (go_at_call 62; refine (HPUT.out _ HI5.out).mono ?_; rintro e w6 ⟨rfl, hs6⟩; have HI6 := hid hs6; clear hs6))
        all_goals
          go_wp2_with fail
          go_meet
          case rel => rw [HHA.out, HHD.out]; exact HI6.out
      case rest =>
        have HI7 := hcut
        clear hcut
        have c0 := HI7.out.cells.1
        have HPUT2 := hid (fun w' (hs : SD w3 U2 S D vw vd vk us ks (actSt stA (headA st)) w') => sput_any syncA hs (act_isDk HSAK.out.1 (by
            rw [HHA.out, isAct_write, headPg_len]
            have h1 := HSAK.out.2.1
            have h2 := HDL.out
            have h3 := HNN.out
            simp
            omega)) (by
            show (actDk stA.dk (headA st)).2.length ≤ _
            have := fold_wait [headA st] stA.dk
            have h0 := HSAK.out.2.2.1
            simp only [List.foldl_cons, List.foldl_nil, List.length_cons, List.length_nil] at this
            omega) (by
            show (stA.acts ++ [headA st]).length ≤ _
            have := HSAK.out.2.2.2
            simp; omega))
        go_wp2_with fail
        refine (HPUT2.out _ HI7.out).mono ?_
        rintro e w8 ⟨rfl, hs8⟩
        have HI8 := hid hs8
        obtain ⟨vp5, vq5, va5, U5, h5, hf5, hu5⟩ := hs8
        have HSA5 := hid h5; have HF5 := hid hf5; have HU5 := hid hu5
        clear h5 hf5 hu5 c0
        have HZ8 := hid (HZ3.out.frm HF5.out HU2Z.out)
        have hnl : (actSt (actSt stA (headA st)) syncA).now.length ≤ 8 := by
          have h1 : (actSt (actSt stA (headA st)) syncA).now = st.now := HSAN.out
          rw [h1]; exact HN8.out
        have hnd : AllDs (actSt (actSt stA (headA st)) syncA).now := by
          have h1 : (actSt (actSt stA (headA st)) syncA).now = st.now := HSAN.out
          rw [h1]; exact now_all HLG.out
        have HC := hid (fun w' (hb : Below w8.heap.size w8 w') => copies_any (actSt (actSt stA (headA st)) syncA).now vd w' (HSA5.out.rdNow.below hb) (by omega) (allDs_bd hnd))
        have hfin : commitSt st = { actSt (actSt stA (headA st)) syncA with hd := (T1, LG, st.hd.2.2.1, NB.length), log := NB, ops := [], kept := (actSt (actSt stA (headA st)) syncA).now } := by
          rw [HCE2.out, HHD.out, ← HSAN.out]; rfl
        have HFIN := hid hfin
        have s1 := HSA5.out.s1; have s2 := HSA5.out.s2; have s3 := HSA5.out.s3; have s4 := HSA5.out.s4; have s5 := HSA5.out.s5; have s6 := HSA5.out.s6; have s7 := HSA5.out.s7; have s8 := HSA5.out.s8
        have fz := HSA5.out.fz
        have f1 := fz 1; have f2 := fz 2; have f3 := fz 3; have f4 := fz 4; have f5 := fz 5; have f6 := fz 6; have f8 := fz 8
        have y0 := HZ8.out.1; have y1 := HZ8.out.2.1; have y2 := HZ8.out.2.2.1; have y3 := HZ8.out.2.2.2.1
        simp only at y0 y1 y2 y3
        have HPO := hid (fun w9 v (hb : Below w8.heap.size w8 w9) (ho : OD w9 w8.heap.size v (actSt (actSt stA (headA st)) syncA).now) => HSA5.out.commit_post hb (T1, LG, st.hd.2.2.1, NB.length) NB ho (Nat.le_refl _))
        have HVD := hid (show ∃ od cd, vd = .slice od (actSt (actSt stA (headA st)) syncA).now.length cd by obtain ⟨od, cd, e, -⟩ := HSA5.out.rdNow; exact ⟨od, cd, e⟩)
        obtain ⟨od, cd, hvd⟩ := HVD.out
        simp only [hvd] at s7 HC
        obtain ⟨VL, hVL⟩ : ∃ VL, (actSt (actSt stA (headA st)) syncA).now = VL := ⟨_, rfl⟩
        simp only [hVL] at s7 HC HPO HFIN
        clear hvd HVD fz hfin hnl hnd hVL
        go_wp2_with fail
        go_upto_region 29 with fail
        go_region_with (go_at_call 40; refine (HC.out _ (drew_below _)).mono ?_; rintro e w9 ⟨v9, rfl, ho9, hb9⟩; have HO9 := hid ho9; have hb9 := below_step hb9 (drew_below w8); have HB9 := hid hb9; obtain ⟨o9, c9, rfl, -, -⟩ := ho9.rd; have f1 := keepf hb9 s1 f1; have f2 := keepf hb9 s2 f2; have f3 := keepf hb9 s3 f3; have f4 := keepf hb9 s4 f4; have f5 := keepf hb9 s5 f5; have f6 := keepf hb9 s6 f6; have f8 := keepf hb9 s8 f8; have s1 := keepc hb9 s1; have s2 := keepc hb9 s2; have s3 := keepc hb9 s3; have s4 := keepc hb9 s4; have s5 := keepc hb9 s5; have s6 := keepc hb9 s6; have s8 := keepc hb9 s8; have y0 := keepc hb9 y0; have y1 := keepc hb9 y1; have y2 := keepc hb9 y2; have y3 := keepc hb9 y3; clear ho9 hb9)
        all_goals
          obtain ⟨U', hso, hff, hu'⟩ := HPO.out w9 _ HB9.out HO9.out
          rw [← HFIN.out] at hso
          have HFN := hid (commit_fin (v := .int .i64 0) HBd.out hwZ.out HF2.out HF3.out HF5.out hff HU2.out HU5.out hu' hso)
          clear hso hff hu' HPO HO9
          unfold setHead at HFN
          go_wp2_with fail
          go_ret
          rw [HCD.out]
          exact HFN.out
end Go.Proofs.YtifcgimpgbeocaaGreat
