/- Open. -/
import Derived.Test.YtifcgimpgbeocaaGreatK14
import Derived.Test.YtifcgimpgbeocaaGreatK18
import Derived.Test.YtifcgimpgbeocaaGreatK10
import Derived.Test.YtifcgimpgbeocaaGreatK16
import Derived.Test.YtifcgimpgbeocaaGreatK19
import Derived.Test.YtifcgimpgbeocaaGreatK20
import Derived.Test.YtifcgimpgbeocaaGreatK25
set_option linter.unusedVariables false
set_option linter.unusedSimpArgs false
namespace Go.Proofs.YtifcgimpgbeocaaGreat
open Go.RowKit
attribute [local go_sem] Oper.semAt_some
theorem enc_count : ∀ (l : List FOp), (∀ o ∈ l, chg o = true) → l.length ≤ (encL l).length
  | [], _ => Nat.zero_le _
  | o :: l, h => by
    rw [encL_cons, List.length_append, List.length_cons, enc1_len (h o (List.mem_cons_self ..))]
    have := enc_count l (fun x hx => h x (List.mem_cons_of_mem _ hx))
    omega
theorem decL_count {s : Bs} {l : List FOp} (h : decL s = some l) : l.length ≤ s.length := by
  obtain ⟨h1, h2⟩ := enc_decL _ s l (Nat.le_refl _) h
  have := enc_count l h2
  rw [h1] at this
  exact this
/-- A head in block Z. -/
def HdB (w : World) (Z : Nat) (h : Hd) : Prop := w.cell? ⟨Z, 0, none⟩ = some (.int .i64 h.1) ∧ w.cell? ⟨Z, 1, none⟩ = some (.int .i64 h.2.1) ∧ w.cell? ⟨Z, 2, none⟩ = some (.int .i64 h.2.2.1) ∧ w.cell? ⟨Z, 3, none⟩ = some (.int .i64 h.2.2.2) ∧ ∀ j, j < 4 → w.frozen? ⟨Z, j, none⟩ = false
theorem HdB.below {w w' : World} {Z : Nat} {h : Hd} (k : HdB w Z h) (hb : Below w.heap.size w w') : HdB w' Z h := by
  have hZ : Z < w.heap.size := World.block_lt_of_cell? _ _ k.1
  exact ⟨keepc hb k.1, keepc hb k.2.1, keepc hb k.2.2.1, keepc hb k.2.2.2.1, fun j hj => (hb.frozen (p := ⟨Z, j, none⟩) hZ).trans (k.2.2.2.2 j hj)⟩
theorem HdB.new (w : World) (h : Hd) : HdB (w.alloc (.cells #[.int .i64 h.1, .int .i64 h.2.1, .int .i64 h.2.2.1, .int .i64 h.2.2.2] 82)) w.heap.size h :=
  ⟨cell_new _ _ _ 0 _ rfl, cell_new _ _ _ 1 _ rfl, cell_new _ _ _ 2 _ rfl, cell_new _ _ _ 3 _ rfl, fun j _ => by unfold World.frozen?; rw [heap_alloc_new]; simp⟩
theorem setB (w : World) (S i : Nat) (v : Value) (j : Nat) (h : j ≠ i) : (w.setCell ⟨S, i, none⟩ v).cell? ⟨S, j, none⟩ = w.cell? ⟨S, j, none⟩ := World.cell?_setCell_other _ _ _ _ (fun e => h (by cases e; rfl))
theorem HdB.set4 {w : World} {Z : Nat} {h0 : Hd} (h : Hd) (o : HdB w Z h0) :
    HdB ((((w.setCell ⟨Z, 0, none⟩ (.int .i64 h.1)).setCell ⟨Z, 1, none⟩ (.int .i64 h.2.1)).setCell ⟨Z, 2, none⟩ (.int .i64 h.2.2.1)).setCell ⟨Z, 3, none⟩ (.int .i64 h.2.2.2)) Z h := by
  obtain ⟨h0, h1, h2, h3, hf⟩ := o
  refine ⟨?_, ?_, ?_, ?_, fun j hj => ?_⟩
  · rw [setB _ _ _ _ _ (by decide), setB _ _ _ _ _ (by decide), setB _ _ _ _ _ (by decide)]; exact sameS _ h0
  · rw [setB _ _ _ _ _ (by decide), setB _ _ _ _ _ (by decide)]; exact sameS (w := w.setCell _ _) _ (by rw [setB _ _ _ _ _ (by decide)]; exact h1)
  · rw [setB _ _ _ _ _ (by decide)]; exact sameS (w := (w.setCell _ _).setCell _ _) _ (by rw [setB _ _ _ _ _ (by decide), setB _ _ _ _ _ (by decide)]; exact h2)
  · exact sameS (w := ((w.setCell _ _).setCell _ _).setCell _ _) _ (by rw [setB _ _ _ _ _ (by decide), setB _ _ _ _ _ (by decide), setB _ _ _ _ _ (by decide)]; exact h3)
  · rw [World.frozen?_setCell, World.frozen?_setCell, World.frozen?_setCell, World.frozen?_setCell]; exact hf j hj
/-- What Open leaves. -/
def OpenPost (r : Option St × Int) (w : World) (e : Ending) (w' : World) : Prop :=
  Below w.heap.size w w' ∧ (∀ st, r.1 = some st → ∃ S U, e = .returned (.tuple #[.pointer (some ⟨S, 0, none⟩), .int .i64 0]) ∧ So w' U S st ∧ ∀ k, U k → w.heap.size ≤ k) ∧ (r.1 = none → e = .returned (.tuple #[.pointer none, .int .i64 r.2]))
theorem openPost_none {w w' : World} {n : Int} (hb : Below w.heap.size w w') : OpenPost (none, n) w (.returned (.tuple #[.pointer none, .int .i64 n])) w' := by
  refine ⟨hb, fun st h => ?_, fun _ => rfl⟩
  simp at h
/-- What each operation of the literal yields. -/
def OpF (d : Dk) (B B1 B5 : Nat) (vp vq : Value) (h : Hd) (C : Bs) (i : Nat) (v : Value) (w : World) : Prop := match i with
  | 0 => v = .pointer (some ⟨B1, 0, none⟩)
  | 1 => v = vp
  | 2 => OS w B v d.1
  | 3 => v = .pointer (some ⟨B1, 1, none⟩)
  | 4 => v = vq
  | 5 => OW w B v d.2
  | 6 => ∃ a b, v = .agg #[a, b] ∧ OS w B a d.1 ∧ OW w B b d.2
  | 7 => ∃ a b, v = .agg #[a, b, .slice none 0 0] ∧ OS w B a d.1 ∧ OW w B b d.2
  | 8 => ∃ D a b, v = .pointer (some ⟨D, 0, none⟩) ∧ w.heap[D]? = some (.cells #[a, b, .slice none 0 0] 94 (0, 0)) ∧ B ≤ D ∧ OS w B a d.1 ∧ OW w B b d.2
  | 9 => v = hdV h
  | 10 => v = .agg #[vp, vq]
  | 11 => v = .pointer (some ⟨B5, 1, none⟩)
  | 12 => v = .int .i64 (h.2.1 : Int)
  | 13 => v = .pointer (some ⟨B5, 3, none⟩)
  | 14 => v = .int .i64 (h.2.2.2 : Int)
  | 15 => v = strV C
  | 16 => v = .pointer (some ⟨B5, 2, none⟩)
  | 17 => v = .int .i64 (h.2.2.1 : Int)
  | 18 => OV w B v (List.replicate h.2.2.1 (.slice none 0 0))
  | 19 => ∃ D a b vd, v = .agg #[.pointer (some ⟨D, 0, none⟩), .int .i64 h.1, .int .i64 h.2.1, .int .i64 h.2.2.1, .int .i64 h.2.2.2, strV C, .slice none 0 0, vd, .slice none 0 0] ∧ w.heap[D]? = some (.cells #[a, b, .slice none 0 0] 94 (0, 0)) ∧ B ≤ D ∧ OS w B a d.1 ∧ OW w B b d.2 ∧ OV w B vd (List.replicate h.2.2.1 (.slice none 0 0))
  | _ => ∃ S D a b vd, v = .pointer (some ⟨S, 0, none⟩) ∧ w.heap[S]? = some (.cells #[.pointer (some ⟨D, 0, none⟩), .int .i64 h.1, .int .i64 h.2.1, .int .i64 h.2.2.1, .int .i64 h.2.2.2, strV C, .slice none 0 0, vd, .slice none 0 0] 97 (0, 0)) ∧ B ≤ S ∧
      w.heap[D]? = some (.cells #[a, b, .slice none 0 0] 94 (0, 0)) ∧ B ≤ D ∧ OS w B a d.1 ∧ OW w B b d.2 ∧ OV w B vd (List.replicate h.2.2.1 (.slice none 0 0))
theorem heap_keep {w w' : World} {k : Nat} {o : Obj} (hb : Below w.heap.size w w') (h : w.heap[k]? = some o) : w'.heap[k]? = some o := (hb.block k (Array.getElem?_eq_some_iff.1 h).1).trans h
theorem OpF_lasts {d : Dk} {B B1 B5 : Nat} {vp vq : Value} {h : Hd} {C : Bs} : Lasts (OpF d B B1 B5 vp vq h C) := fun i v w w' hf hb => by
  match i, hf with
  | 0, hf | 1, hf | 3, hf | 4, hf | 9, hf | 10, hf | 11, hf | 12, hf | 13, hf | 14, hf | 15, hf | 16, hf | 17, hf => exact hf
  | 2, hf => exact OS.below hf hb
  | 5, hf => exact OW.below hf hb
  | 6, ⟨a, b, e, h1, h2⟩ => exact ⟨a, b, e, h1.below hb, h2.below hb⟩
  | 7, ⟨a, b, e, h1, h2⟩ => exact ⟨a, b, e, h1.below hb, h2.below hb⟩
  | 8, ⟨D, a, b, e, h0, h3, h1, h2⟩ => exact ⟨D, a, b, e, heap_keep hb h0, h3, h1.below hb, h2.below hb⟩
  | 18, hf => exact OV.below hf hb
  | 19, ⟨D, a, b, vd, e, h0, h3, h1, h2, h4⟩ => exact ⟨D, a, b, vd, e, heap_keep hb h0, h3, h1.below hb, h2.below hb, h4.below hb⟩
  | i + 20, ⟨S, D, a, b, vd, e, hS, hB, h0, h3, h1, h2, h4⟩ => exact ⟨S, D, a, b, vd, e, heap_keep hb hS, hB, heap_keep hb h0, h3, h1.below hb, h2.below hb, h4.below hb⟩
set_option maxHeartbeats 4000000 in
set_option maxRecDepth 100000 in
theorem open_any (d : Dk) (vp vq : Value) (w : World) (hp : RdS w vp d.1) (hq : RdW w vq d.2) (hl : d.2.length ≤ 1000000) : Calls Tryz.prog 8 #[.agg #[vp, vq]] w (OpenPost (openD d) w) := by
  have HCK := hid (fun w' (hb : Below w.heap.size w w') => checkdisk_any d vp vq w' (hp.below hb) (hq.below hb) (by omega))
  obtain ⟨op, cp, hvp, -, -⟩ := id hp
  obtain ⟨oq, cq, hvq, -, -⟩ := id hq
  have HP := hid hp; have HQ := hid hq; have HL := hid hl
  obtain ⟨W, hW⟩ : ∃ W, W = w.alloc (.cells #[vp, vq] 25) := ⟨_, rfl⟩
  have HBW : Hid (Below w.heap.size w W) := by rw [hW]; exact balloc (Below.refl _ _) _
  have k0 : W.cell? ⟨w.heap.size, 0, none⟩ = some vp := by rw [hW]; exact cell_new _ _ _ 0 _ rfl
  have k1 : W.cell? ⟨w.heap.size, 1, none⟩ = some vq := by rw [hW]; exact cell_new _ _ _ 1 _ rfl
  have hzW : W.heap.size = w.heap.size + 1 := by rw [hW]; simp
  obtain ⟨B1, hB1⟩ : ∃ B1, w.heap.size = B1 := ⟨_, rfl⟩
  have HB1 := hid hB1; have HZW := hid hzW
  have HW := hid hW
  rw [hvp] at k0; rw [hvq] at k1
  simp only [hB1] at k0 k1
  simp only [hvp, hvq] at HCK HW ⊢
  have HVP := hid hvp; have HVQ := hid hvq
  clear hp hq hl hW hzW hB1 hvp hvq
  cases hd : isDk d with
  | false =>
    rw [hd] at HCK
    have HCK2 : Hid (∀ w', Below w.heap.size w w' → Calls Tryz.prog 34 #[.agg #[.slice op d.1.length cp, .slice oq d.2.length cq]] w' (Ret (.int .i64 142) w')) := HCK.out
    have HO := hid (open_no hd)
    clear HCK hd
    go_enter Tryz.func8, Tryz.ntmps8
    go_upto_region 1 with fail
    rw [← HW.out, HB1.out]
    clear HW
    go_wp2_with fail
    refine (HCK2.out _ HBW.out).mono ?_
    rintro e w1 ⟨rfl, hb1⟩
    have HB2 := hid (below_step hb1 (Below.refl _ _))
    clear hb1
    go_wp2_with fail
    go_ret2
    rw [HO.out]
    exact openPost_none (below_step HB2.out HBW.out)
  | true =>
    rw [hd] at HCK
    have HCK2 : Hid (∀ w', Below w.heap.size w w' → Calls Tryz.prog 34 #[.agg #[.slice op d.1.length cp, .slice oq d.2.length cq]] w' (Ret (.int .i64 0) w')) := HCK.out
    have HDK := hid hd
    have hdl := isDk_len hd
    have HRD := hid (fun (p : Nat) (hp1 : p ≤ 1) w' (hb : Below w.heap.size w w') => dread_any d _ _ p w' (HP.out.below hb) (HQ.out.below hb) hd hp1 (by have := HL.out; omega))
    rw [HVP.out, HVQ.out] at HRD
    have HNH := hid (HdB.new)
    have HBE := hid (best_step (d := d))
    have HST := hid (fun k => show stepH d (k + 1) = pick1 (stepH d k) (readHd d k) from rfl)
    have HS0 := hid (show stepH d 0 = (0, 0, 0, 0) from rfl)
    clear HCK hd
    go_enter Tryz.func8, Tryz.ntmps8
    go_upto_region 1 with fail
    rw [← HW.out, HB1.out]
    clear HW
    go_wp2_with fail
    refine (HCK2.out _ HBW.out).mono ?_
    rintro e w1 ⟨rfl, hb1⟩
    have HB2 : Hid (Below w.heap.size w w1) := below_step hb1 HBW.out
    have k0 := keepc hb1 k0
    have k1 := keepc hb1 k1
    have K0 := hid k0; have K1 := hid k1
    clear hb1
    go_upto_region 5 with fail
    obtain ⟨w2, hw2⟩ : ∃ w2, w2 = w1.alloc (.cells #[.int .i64 0, .int .i64 0, .int .i64 0, .int .i64 0] 82) := ⟨_, rfl⟩
    obtain ⟨B5, hB5⟩ : ∃ B5, w1.heap.size = B5 := ⟨_, rfl⟩
    have HH0 : Hid (HdB w2 B5 (stepH d 0)) := by rw [HS0.out, hw2, ← hB5]; exact HdB.new w1 (0, 0, 0, 0)
    have HB3 : Hid (Below w1.heap.size w1 w2) := by rw [hw2]; exact balloc (Below.refl _ _) _
    rw [hB5, ← hw2]
    have HB5 : Hid (w.heap.size < B5) := by rw [← hB5]; have := World.block_lt_of_cell? _ _ K0.out; simp only at this; rw [HB1.out]; exact this
    have k0 := keepc HB3.out K0.out
    have k1 := keepc HB3.out K1.out
    have HB4 : Hid (Below w.heap.size w w2) := below_step HB3.out HB2.out
    clear hw2 hB5 HB3 HB2 K0 K1
    have hzs : Below w.heap.size w w2 := HB4.out
    have hB15 : B1 ≠ B5 := by have := HB5.out; have := HB1.out; omega
    go_upto_block 0 with fail
    go_cut [21] (fun x21 wx => Hid (HdB wx B5 (stepH d 2)) ∧ Hid (Below w.heap.size w wx) ∧ wx.cell? ⟨B1, 0, none⟩ = some (.slice op d.1.length cp) ∧ wx.cell? ⟨B1, 1, none⟩ = some (.slice oq d.2.length cq))
    case first =>
      go_wp2_with fail
      go_loopw [21] (fun i wr => ∃ k : Nat, i = .int .i64 (k : Int) ∧ k ≤ 2 ∧ Hid (HdB wr B5 (stepH d k)) ∧ Hid (Below w.heap.size w wr) ∧ wr.cell? ⟨B1, 0, none⟩ = some (.slice op d.1.length cp) ∧ wr.cell? ⟨B1, 1, none⟩ = some (.slice oq d.2.length cq)) (fun i _ => 2 - (intOf i).toNat)
      case atStart => exact ⟨0, rfl, by omega, HH0, HB4, k0, k1⟩
      case round =>
        clear k0 k1 HH0 HB4
        obtain ⟨k, rfl, hk, HH, HB, k0, k1⟩ := hrel
        by_cases hlt : k < 2
        · have hlt64 : (k : Int) < 2 := by omega
          have HRK := hid (HRD.out k (by omega) wr HB.out)
          have HSK := hid (HST.out k)
          obtain ⟨R, hR⟩ : ∃ R, headOk (wrt d k) k (halfN d.1.length) = R := ⟨_, rfl⟩
          have HRT := hid (fun h : R = true => readHd_ok (d := d) (p := k) (by rw [hR]; exact h))
          have HRF := hid (fun h : R = false => readHd_no (d := d) (p := k) (by rw [hR]; exact h))
          obtain ⟨x, hx⟩ : ∃ x, headOf (wrt d k) = x := ⟨_, rfl⟩
          obtain ⟨c, hc⟩ : ∃ c, stepH d k = c := ⟨_, rfl⟩
          simp only [hR, hx, hc] at HRK HRT HRF HH HSK
          unfold hdV at HRK
          clear hR hx hc
          go_wp2_with fail
          refine HRK.out.mono ?_
          rintro e w3 ⟨rfl, hb3⟩
          have HH3 := hid (HH.out.below hb3)
          have HB3 := hid (below_step hb3 HB.out)
          have k0 := keepc hb3 k0; have k1 := keepc hb3 k1
          clear hb3
          obtain ⟨w4, hw4⟩ : ∃ w4, w4 = w3.alloc (.cells #[.int .i64 x.1, .int .i64 x.2.1, .int .i64 x.2.2.1, .int .i64 x.2.2.2] 82) := ⟨_, rfl⟩
          have HBA : Hid (Below w3.heap.size w3 w4) := by rw [hw4]; exact balloc (Below.refl _ _) _
          have HX4 : Hid (HdB w4 w3.heap.size x) := by rw [hw4]; exact HdB.new w3 x
          have HH4 := hid (HH3.out.below HBA.out)
          have HB4 := hid (below_step HBA.out HB3.out)
          have HXN : Hid (w3.heap.size ≠ B5) := fun e => by have := World.block_lt_of_cell? _ _ HH3.out.1; simp only at this; omega
          have HW4 := hid hw4
          have k0 := keepc HBA.out k0; have k1 := keepc HBA.out k1
          have x0 := HX4.out.1; have x1 := HX4.out.2.1; have x2 := HX4.out.2.2.1; have x3 := HX4.out.2.2.2.1
          have c0 := HH4.out.1; have c1 := HH4.out.2.1; have c2 := HH4.out.2.2.1; have c3 := HH4.out.2.2.2.1
          have g0 := HH4.out.2.2.2.2 0 (by decide); have g1 := HH4.out.2.2.2.2 1 (by decide); have g2 := HH4.out.2.2.2.2 2 (by decide); have g3 := HH4.out.2.2.2.2 3 (by decide)
          have hB51 : w.heap.size ≤ B5 := by have := HB5.out; omega
          clear hw4
          go_upto_region 9 with fail
          have e := HW4.out
          rw [← e]
          clear e HW4
          cases R with
          | false =>
            have HS2 : Hid (stepH d (k + 1) = c) := by unfold Hid; rw [HSK.out, HRF.out rfl]; rfl
            go_wp2_with fail
            go_roundw
            case rel => exact ⟨k + 1, by go_num, by omega, by rw [HS2.out]; exact HH4, HB4, k0, k1⟩
            case measure => simp [intOf]; omega
          | true =>
            by_cases hcx : c.1 < x.1
            · have HS2 : Hid (stepH d (k + 1) = x) := by unfold Hid; rw [HSK.out, HRT.out rfl]; exact if_pos hcx
              have gd : decide (c.1 < x.1) = true := decide_eq_true hcx
              have HN4 := hid (HdB.set4 x HH4.out)
              have HB6 : Hid (Below w.heap.size w ((((w4.setCell ⟨B5, 0, none⟩ (.int .i64 x.1)).setCell ⟨B5, 1, none⟩ (.int .i64 x.2.1)).setCell ⟨B5, 2, none⟩ (.int .i64 x.2.2.1)).setCell ⟨B5, 3, none⟩ (.int .i64 x.2.2.2))) :=
                (((HB4.out.setCell (p := ⟨B5, 0, none⟩) hB51 _).setCell (p := ⟨B5, 1, none⟩) hB51 _).setCell (p := ⟨B5, 2, none⟩) hB51 _).setCell (p := ⟨B5, 3, none⟩) hB51 _
              go_wp2_with fail
              go_roundw
              case rel => exact ⟨k + 1, by go_num, by omega, by rw [HS2.out]; exact HN4, HB6, by go_simp, by go_simp⟩
              case measure => simp [intOf]; omega
            · have HS2 : Hid (stepH d (k + 1) = c) := by unfold Hid; rw [HSK.out, HRT.out rfl]; exact if_neg hcx
              have gd : decide (c.1 < x.1) = false := decide_eq_false hcx
              go_wp2_with fail
              go_roundw
              case rel => exact ⟨k + 1, by go_num, by omega, by rw [HS2.out]; exact HH4, HB4, k0, k1⟩
              case measure => simp [intOf]; omega
        · have hk2 : k = 2 := by omega
          subst hk2
          go_wp2_with fail
          go_meet
          case rel => exact ⟨HH, HB, k0, k1⟩
    case rest =>
      clear k0 k1 HH0 HB4
      obtain ⟨HH, HB, k0, k1⟩ := hcut
      obtain ⟨h, hh⟩ : ∃ h, stepH d 2 = h := ⟨_, rfl⟩
      simp only [hh] at HH HBE
      clear hh HRD HST HS0
      have c0 := HH.out.1; have c1 := HH.out.2.1; have c2 := HH.out.2.2.1; have c3 := HH.out.2.2.2.1
      rcases HBE.out with ⟨hbn, hz⟩ | ⟨hbs, hp1, hp2, hp3, hp4, hp5⟩
      · have HO := hid (open_none HDK.out hbn)
        have gz : ((h.1 : Int) == 0) = true := by simp; omega
        clear hbn HBE
        go_wp2_with fail
        go_ret2
        rw [HO.out]
        exact openPost_none HB.out
      have gz : ((h.1 : Int) == 0) = false := by simp; omega
      have HCS := hid (fun w' (hb : Below w.heap.size w w') => cloneS_any d.1 _ w' (HP.out.below hb) (by omega))
      have HCW := hid (fun w' (hb : Below w.heap.size w w') => cloneW_any d.2 _ w' (HQ.out.below hb) (by have := HL.out; omega))
      have HCN := hid (fun w' (hb : Below w.heap.size w w') => content_any d _ _ h.2.1 h.2.2.2 w' (HP.out.below hb) (HQ.out.below hb) HDK.out hp2 hp5 (by have := HL.out; omega))
      rw [HVP.out] at HCS HCN
      rw [HVQ.out] at HCW HCN
      have hcl := content_len HDK.out hp2 hp5
      have hcl2 := half_bd hdl.2
      have hclm : (content d h.2.1 h.2.2.2).length ≤ 131072 := by rw [hcl]; omega
      obtain ⟨C, hC⟩ : ∃ C, content d h.2.1 h.2.2.2 = C := ⟨_, rfl⟩
      have HCE := hid hC
      simp only [hC] at HCN hclm
      have HCLM := hid hclm
      have HBS := hid hbs
      clear hcl hcl2 hclm hC hbs
      go_upto_region 14 with fail
      refine wp_region_freeX (by kernel_rfl) (by kernel_rfl) (FamX (OpF d wc.heap.size B1 B5 (.slice op d.1.length cp) (.slice oq d.2.length cq) h C) wc.heap.size wc) (fun vals => FamX.start wc vals) (fun vals => ?_)
      refine wpX_op rfl ?_ (fun K hK => ?_)
      · intro L w' hC hL hdep hS
        have hb := hS.1
        have HS := hid hS; clear hS hdep hC
        go_simp
        exact HS.out.same OpF_lasts rfl
      go_simp; refine hK _ ?_; clear hK K
      refine wpX_op rfl ?_ (fun K hK => ?_)
      · intro L w' hC hL hdep hS
        have hb := hS.1
        have e0 : vals 0 = .pointer (some ⟨B1, 0, none⟩) := hS.2.2 0 (hdep ⟨0, .data⟩ (by simp) rfl)
        have k0 := keepc hb k0
        have HS := hid hS; clear hS hdep hC
        go_simp
        exact HS.out.same OpF_lasts rfl
      go_simp; refine hK _ ?_; clear hK K
      refine wpX_op rfl ?_ (fun K hK => ?_)
      · intro L w' hC hL hdep hS
        have hb := hS.1
        have e1 : vals 1 = .slice op d.1.length cp := hS.2.2 1 (hdep ⟨1, .data⟩ (by simp) rfl)
        have HS := hid hS; clear hS hdep hC
        go_simp
        refine (HCS.out w' (below_step hb HB.out)).mono ?_
        rintro e w3 ⟨v, rfl, ho, hb3⟩
        exact ⟨_, rfl, HS.out.add OpF_lasts hb3 (OS.mono ho HS.out.2.1)⟩
      go_simp; refine hK _ ?_; clear hK K
      refine wpX_op rfl ?_ (fun K hK => ?_)
      · intro L w' hC hL hdep hS
        have hb := hS.1
        have HS := hid hS; clear hS hdep hC
        go_simp
        exact HS.out.same OpF_lasts rfl
      go_simp; refine hK _ ?_; clear hK K
      refine wpX_op rfl ?_ (fun K hK => ?_)
      · intro L w' hC hL hdep hS
        have hb := hS.1
        have e0 : vals 3 = .pointer (some ⟨B1, 1, none⟩) := hS.2.2 3 (hdep ⟨3, .data⟩ (by simp) rfl)
        have k1 := keepc hb k1
        have HS := hid hS; clear hS hdep hC
        go_simp
        exact HS.out.same OpF_lasts rfl
      go_simp; refine hK _ ?_; clear hK K
      refine wpX_op rfl ?_ (fun K hK => ?_)
      · intro L w' hC hL hdep hS
        have hb := hS.1
        have e1 : vals 4 = .slice oq d.2.length cq := hS.2.2 4 (hdep ⟨4, .data⟩ (by simp) rfl)
        have HS := hid hS; clear hS hdep hC
        go_simp
        refine (HCW.out w' (below_step hb HB.out)).mono ?_
        rintro e w3 ⟨v, rfl, ho, hb3⟩
        exact ⟨_, rfl, HS.out.add OpF_lasts hb3 (OW.mono ho HS.out.2.1)⟩
      go_simp; refine hK _ ?_; clear hK K
      refine wpX_op rfl ?_ (fun K hK => ?_)
      · intro L w' hC hL hdep hS
        have hb := hS.1
        have e2 : OS w' wc.heap.size (vals 2) d.1 := hS.2.2 2 (hdep ⟨2, .data⟩ (by simp) rfl)
        have e5 : OW w' wc.heap.size (vals 5) d.2 := hS.2.2 5 (hdep ⟨5, .data⟩ (by simp) rfl)
        have E2 := hid e2; have E5 := hid e5
        obtain ⟨o2, n2, h2, -, -⟩ := e2.rd
        obtain ⟨o5, n5, h5, -, -⟩ := e5.rd
        rw [h2] at E2; rw [h5] at E5
        clear e2 e5
        have HS := hid hS; clear hS hdep hC
        go_simp
        exact HS.out.same OpF_lasts ⟨_, _, rfl, E2.out, E5.out⟩
      go_simp; refine hK _ ?_; clear hK K
      refine wpX_op rfl ?_ (fun K hK => ?_)
      · intro L w' hC hL hdep hS
        have hb := hS.1
        have e6 : ∃ a b, vals 6 = .agg #[a, b] ∧ OS w' wc.heap.size a d.1 ∧ OW w' wc.heap.size b d.2 := hS.2.2 6 (hdep ⟨6, .data⟩ (by simp) rfl)
        obtain ⟨a, b, e, ha, hbb⟩ := e6
        have E2 := hid ha; have E5 := hid hbb
        clear ha hbb
        have HS := hid hS; clear hS hdep hC
        go_simp
        exact HS.out.same OpF_lasts ⟨_, _, rfl, E2.out, E5.out⟩
      go_simp; refine hK _ ?_; clear hK K
      refine wpX_op rfl ?_ (fun K hK => ?_)
      · intro L w' hC hL hdep hS
        have hb := hS.1
        have e7 : ∃ a b, vals 7 = .agg #[a, b, .slice none 0 0] ∧ OS w' wc.heap.size a d.1 ∧ OW w' wc.heap.size b d.2 := hS.2.2 7 (hdep ⟨7, .data⟩ (by simp) rfl)
        obtain ⟨a, b, e, ha, hbb⟩ := e7
        have E2 := hid ha; have E5 := hid hbb
        obtain ⟨o2, n2, rfl, -, -⟩ := ha.rd
        obtain ⟨o5, n5, rfl, -, -⟩ := hbb.rd
        clear ha hbb
        have HS := hid hS; clear hS hdep hC
        go_simp
        exact HS.out.add OpF_lasts (balloc (Below.refl _ _) _) ⟨_, _, _, rfl, heap_alloc_new _ _, HS.out.2.1, E2.out.below (balloc (Below.refl _ _) _), E5.out.below (balloc (Below.refl _ _) _)⟩
      go_simp; refine hK _ ?_; clear hK K
      refine wpX_op rfl ?_ (fun K hK => ?_)
      · intro L w' hC hL hdep hS
        have hb := hS.1
        have c0 := keepc hb c0; have c1 := keepc hb c1; have c2 := keepc hb c2; have c3 := keepc hb c3
        have HS := hid hS; clear hS hdep hC
        go_simp
        exact HS.out.same OpF_lasts rfl
      go_simp; refine hK _ ?_; clear hK K
      refine wpX_op rfl ?_ (fun K hK => ?_)
      · intro L w' hC hL hdep hS
        have hb := hS.1
        have k0 := keepc hb k0; have k1 := keepc hb k1
        have HS := hid hS; clear hS hdep hC
        go_simp
        exact HS.out.same OpF_lasts rfl
      go_simp; refine hK _ ?_; clear hK K
      refine wpX_op rfl ?_ (fun K hK => ?_)
      · intro L w' hC hL hdep hS
        have hb := hS.1
        have HS := hid hS; clear hS hdep hC
        go_simp
        exact HS.out.same OpF_lasts rfl
      go_simp; refine hK _ ?_; clear hK K
      refine wpX_op rfl ?_ (fun K hK => ?_)
      · intro L w' hC hL hdep hS
        have hb := hS.1
        have e0 : vals 11 = .pointer (some ⟨B5, 1, none⟩) := hS.2.2 11 (hdep ⟨11, .data⟩ (by simp) rfl)
        have c1 := keepc hb c1
        have HS := hid hS; clear hS hdep hC
        go_simp
        exact HS.out.same OpF_lasts rfl
      go_simp; refine hK _ ?_; clear hK K
      refine wpX_op rfl ?_ (fun K hK => ?_)
      · intro L w' hC hL hdep hS
        have hb := hS.1
        have HS := hid hS; clear hS hdep hC
        go_simp
        exact HS.out.same OpF_lasts rfl
      go_simp; refine hK _ ?_; clear hK K
      refine wpX_op rfl ?_ (fun K hK => ?_)
      · intro L w' hC hL hdep hS
        have hb := hS.1
        have e0 : vals 13 = .pointer (some ⟨B5, 3, none⟩) := hS.2.2 13 (hdep ⟨13, .data⟩ (by simp) rfl)
        have c3 := keepc hb c3
        have HS := hid hS; clear hS hdep hC
        go_simp
        exact HS.out.same OpF_lasts rfl
      go_simp; refine hK _ ?_; clear hK K
      refine wpX_op rfl ?_ (fun K hK => ?_)
      · intro L w' hC hL hdep hS
        have hb := hS.1
        have e0 : vals 10 = .agg #[.slice op d.1.length cp, .slice oq d.2.length cq] := hS.2.2 10 (hdep ⟨10, .data⟩ (by simp) rfl)
        have e1 : vals 12 = .int .i64 (h.2.1 : Int) := hS.2.2 12 (hdep ⟨12, .data⟩ (by simp) rfl)
        have e2 : vals 14 = .int .i64 (h.2.2.2 : Int) := hS.2.2 14 (hdep ⟨14, .data⟩ (by simp) rfl)
        have HS := hid hS; clear hS hdep hC
        go_simp
        refine (HCN.out w' (below_step hb HB.out)).mono ?_
        rintro e w3 ⟨rfl, hb3⟩
        exact ⟨_, rfl, HS.out.add OpF_lasts hb3 rfl⟩
      go_simp; refine hK _ ?_; clear hK K
      refine wpX_op rfl ?_ (fun K hK => ?_)
      · intro L w' hC hL hdep hS
        have hb := hS.1
        have HS := hid hS; clear hS hdep hC
        go_simp
        exact HS.out.same OpF_lasts rfl
      go_simp; refine hK _ ?_; clear hK K
      refine wpX_op rfl ?_ (fun K hK => ?_)
      · intro L w' hC hL hdep hS
        have hb := hS.1
        have e0 : vals 16 = .pointer (some ⟨B5, 2, none⟩) := hS.2.2 16 (hdep ⟨16, .data⟩ (by simp) rfl)
        have c2 := keepc hb c2
        have HS := hid hS; clear hS hdep hC
        go_simp
        exact HS.out.same OpF_lasts rfl
      go_simp; refine hK _ ?_; clear hK K
      refine wpX_op rfl ?_ (fun K hK => ?_)
      · intro L w' hC hL hdep hS
        have hb := hS.1
        have e0 : vals 17 = .int .i64 (h.2.2.1 : Int) := hS.2.2 17 (hdep ⟨17, .data⟩ (by simp) rfl)
        have hm := run_makeV w' h.2.2.1 (by omega)
        have HS := hid hS; clear hS hdep hC
        go_simp
        exact HS.out.add OpF_lasts (balloc (Below.refl _ _) _) (OV.mono (oV_new w' h.2.2.1 (by omega)) HS.out.2.1)
      go_simp; refine hK _ ?_; clear hK K
      refine wpX_op rfl ?_ (fun K hK => ?_)
      · intro L w' hC hL hdep hS
        have hb := hS.1
        have e8 : OpF d wc.heap.size B1 B5 (.slice op d.1.length cp) (.slice oq d.2.length cq) h C 8 (vals 8) w' := hS.2.2 8 (hdep ⟨8, .data⟩ (by simp) rfl)
        have e9 : vals 9 = hdV h := hS.2.2 9 (hdep ⟨9, .data⟩ (by simp) rfl)
        have e15 : vals 15 = strV C := hS.2.2 15 (hdep ⟨15, .data⟩ (by simp) rfl)
        have e18 : OV w' wc.heap.size (vals 18) (List.replicate h.2.2.1 (.slice none 0 0)) := hS.2.2 18 (hdep ⟨18, .data⟩ (by simp) rfl)
        obtain ⟨D, a, b, e8, q1, q2, q3, q4⟩ := e8
        have E18 := hid e18
        have hvs : ∃ o c, vals 18 = .slice o h.2.2.1 c := by (obtain ⟨-, ⟨e, h0⟩ | ⟨g, cp, cur, e, -⟩⟩ := e18; (simp only [List.length_replicate] at h0; exact ⟨none, 0, by rw [h0]; exact e⟩); (rw [List.length_replicate] at e; exact ⟨_, _, e⟩))
        obtain ⟨o8, c8, h8⟩ := hvs
        rw [h8] at E18
        unfold hdV at e9
        have Q1 := hid q1; have Q3 := hid q3; have Q4 := hid q4
        clear q1 q3 q4 e18
        have HS := hid hS; clear hS hdep hC
        go_simp
        exact HS.out.same OpF_lasts ⟨_, _, _, _, rfl, Q1.out, q2, Q3.out, Q4.out, E18.out⟩
      go_simp; refine hK _ ?_; clear hK K
      refine wpX_op rfl ?_ (fun K hK => ?_)
      · intro L w' hC hL hdep hS
        have hb := hS.1
        have e19 : OpF d wc.heap.size B1 B5 (.slice op d.1.length cp) (.slice oq d.2.length cq) h C 19 (vals 19) w' := hS.2.2 19 (hdep ⟨19, .data⟩ (by simp) rfl)
        obtain ⟨D, a, b, vd, e19, q1, q2, q3, q4, q5⟩ := e19
        have Q1 := hid q1; have Q3 := hid q3; have Q4 := hid q4; have Q5 := hid q5
        have hvs : ∃ o c, vd = .slice o h.2.2.1 c := by (obtain ⟨-, ⟨e, h0⟩ | ⟨g, cp, cur, e, -⟩⟩ := q5; (simp only [List.length_replicate] at h0; exact ⟨none, 0, by rw [h0]; exact e⟩); (rw [List.length_replicate] at e; exact ⟨_, _, e⟩))
        obtain ⟨o8, c8, rfl⟩ := hvs
        clear q1 q3 q4 q5
        have HS := hid hS; clear hS hdep hC
        go_simp
        exact HS.out.add OpF_lasts (balloc (Below.refl _ _) _) ⟨_, _, _, _, _, rfl, heap_alloc_new _ _, HS.out.2.1, ((balloc (Below.refl _ _) _).block _ (Array.getElem?_eq_some_iff.1 Q1.out).1).trans Q1.out, q2, Q3.out.below (balloc (Below.refl _ _) _), Q4.out.below (balloc (Below.refl _ _) _), Q5.out.below (balloc (Below.refl _ _) _)⟩
      go_simp; refine hK _ ?_; clear hK K
      refine wpX_op rfl ?_ (fun K hK => ?_)
      · intro L w' hC hL hdep hS
        have hb := hS.1
        have e20 : OpF d wc.heap.size B1 B5 (.slice op d.1.length cp) (.slice oq d.2.length cq) h C 20 (vals 20) w' := hS.2.2 20 (hdep ⟨20, .data⟩ (by simp) rfl)
        have E20 := hid e20
        clear e20
        have HS := hid hS; clear hS hdep hC
        go_simp
        exact HS.out.same OpF_lasts E20.out
      go_simp; refine hK _ ?_; clear hK K
      refine wpX_nil (fun L w6 hL hS => ?_)
      obtain ⟨S, D, a, b, vd, e21, q1, q2, q3, q4, q5, q6, q7⟩ : OpF d wc.heap.size B1 B5 (.slice op d.1.length cp) (.slice oq d.2.length cq) h C 21 (vals 21) w6 := hS.2.2 21 (hL 21 (by decide))
      have HB6 : Hid (Below w.heap.size w w6) := below_step hS.1 HB.out
      have HSZ : Hid (w.heap.size ≤ wc.heap.size) := HB.out.size
      have HSA := hid (SA.born q1 q3 q2 q4 q5 q6 q7)
      have s5 := HSA.out.s5
      simp only [e21]
      obtain ⟨E0, hE0⟩ : ∃ E0, E0 = w6 := ⟨_, rfl⟩
      clear e21 q1 q2 q3 q4 q5 q6 q7 hS hL k0 k1 c0 c1 c2 c3 hE0 E0 HCS HCW HCN
      generalize vals 0 = v0, vals 1 = v1, vals 2 = v2, vals 3 = v3, vals 4 = v4, vals 5 = v5, vals 6 = v6, vals 7 = v7, vals 8 = v8, vals 9 = v9, vals 10 = v10, vals 11 = v11, vals 12 = v12, vals 13 = v13, vals 14 = v14, vals 15 = v15, vals 16 = v16, vals 17 = v17, vals 18 = v18, vals 19 = v19, vals 20 = v20
      have HDC := hid (fun w' => decode_any C w')
      obtain ⟨U0, hU0⟩ : ∃ U0 : Nat → Prop, U0 = fun k => wc.heap.size ≤ k ∧ k < w6.heap.size := ⟨_, rfl⟩
      rw [← hU0] at HSA
      have HUB : Hid (∀ k, U0 k → w.heap.size ≤ k ∧ k < w6.heap.size) := fun k hk => by rw [hU0] at hk; exact ⟨Nat.le_trans HSZ.out hk.1, hk.2⟩
      clear hU0
      cases hdc : decL C with
      | none =>
        have hdd : decodeD C = ([], 145) := by unfold decodeD; rw [if_pos HCLM.out, hdc]
        rw [hdd] at HDC
        have HO : Hid (openD d = (none, 143)) := open_undec HDK.out HBS.out (by rw [HCE.out]; exact hdc)
        go_wp2_with fail
        refine (HDC.out _).mono ?_
        rintro e w7 ⟨vo, rfl, ho, hb7⟩
        obtain ⟨o7, c7, rfl, -, -⟩ := ho.rd
        have HB7 : Hid (Below w.heap.size w w7) := below_step hb7 HB6.out
        clear ho hb7 hdc hdd s5 HDC
        go_wp2_with fail
        go_ret2
        rw [HO.out]
        exact openPost_none HB7.out
      | some ops =>
        have hdd : decodeD C = (ops, 0) := by unfold decodeD; rw [if_pos HCLM.out, hdc]
        rw [hdd] at HDC
        have HNO : Hid (runAll (empties h.2.2.1) ops = none → openD d = (none, 143)) := fun hr => open_norun HDK.out HBS.out (by rw [HCE.out]; exact hdc) hr
        have HOK : Hid (∀ data, runAll (empties h.2.2.1) ops = some data → openD d = (some ⟨d, h, C, [], data, data, []⟩, 0)) := fun data hr => by
          have h1 := open_ok HDK.out HBS.out (by rw [HCE.out]; exact hdc) hr
          rw [HCE.out] at h1
          exact h1
        go_wp2_with fail
        refine (HDC.out _).mono ?_
        rintro e w7 ⟨vo, rfl, ho, hb7⟩
        have HO7 := hid ho
        obtain ⟨o7, c7, rfl, -, hcc⟩ := ho.rd
        have HCC := hid hcc
        have HB7 : Hid (Below w.heap.size w w7) := below_step hb7 HB6.out
        have HBZ : Hid (w6.heap.size ≤ w7.heap.size) := hb7.size
        have HS7 := hid (HSA.out.below hb7)
        obtain ⟨M, hM⟩ : ∃ M, ops.length = M := ⟨_, rfl⟩
        have HM := hid hM
        simp only [hM]
        have HI0 : Hid (∃ Uk, So w7 Uk S ⟨d, h, C, [], empties h.2.2.1, [], []⟩ ∧ Frm U0 w7 w7 ∧ ∀ j, Uk j → U0 j ∨ w7.heap.size ≤ j) := ⟨U0, ⟨D, a, b, _, _, vd, _, _, _, HS7.out⟩, Frm.refl _ _, fun j hj => .inl hj⟩
        have hM8 : M ≤ 1000000 := by
          have h1 := decL_count hdc
          have h2 := HCLM.out
          omega
        clear ho hb7 hdc hdd s5 HDC hcc hM
        go_upto_block 2 with fail
        go_cut [76] (fun x76 wx => ∃ data, Hid (runAll (empties h.2.2.1) ops = some data) ∧ Hid (∃ Uk, So wx Uk S ⟨d, h, C, [], data, [], []⟩ ∧ Frm U0 w7 wx ∧ ∀ j, Uk j → U0 j ∨ w7.heap.size ≤ j))
        case first =>
          go_wp2_with fail
          go_loopw [76] (fun i wr => ∃ (k : Nat) (Dk : List Ds), i = .int .i64 (k : Int) ∧ k ≤ M ∧ Hid (runAll (empties h.2.2.1) (ops.take k) = some Dk) ∧ Hid (∃ Uk, So wr Uk S ⟨d, h, C, [], Dk, [], []⟩ ∧ Frm U0 w7 wr ∧ ∀ j, Uk j → U0 j ∨ w7.heap.size ≤ j)) (fun i _ => M - (intOf i).toNat)
          case atStart => exact ⟨0, _, rfl, Nat.zero_le _, rfl, HI0⟩
          case round =>
            obtain ⟨k, Dk, rfl, hk, HR, HI⟩ := hrel
            by_cases hlt : k < M
            · obtain ⟨x, hx⟩ : ∃ x, ops[k]? = some x := ⟨_, List.getElem?_eq_getElem (by have := HM.out; omega)⟩
              have hHC := HCC.out
              rcases hHC with hc | ⟨b1, off, rfl, hbl, hc⟩
              · rw [hc] at hx; simp at hx
              obtain ⟨c0, c1, c2, c3⟩ := hc k x hx
              obtain ⟨Uk, hso, hfr, hu⟩ := HI.out
              have hbU : ¬ U0 b1 := fun hU => by have h1 := (HUB.out _ hU).2; have h2 := (World.ownsRow.lt HO7.out b1 rfl).1; omega
              have c0 := hfr.cell hbU c0; have c1 := hfr.cell hbU c1; have c2 := hfr.cell hbU c2; have c3 := hfr.cell hbU c3
              have HXX := hid hx
              have HRS := hid (fun he => run_stop HR.out hx he)
              have HRO := hid (fun he => run_one HR.out hx he)
              have hDl : Dk.length ≤ 8 := by have := runAll_len HR.out; rw [this]; unfold empties; simp; omega
              have HDO := hid (fun w' (hb : Below wr.heap.size wr w') => indo_any Uk S ⟨d, h, C, [], Dk, [], []⟩ x w' (hso.below hb) hDl)
              have HFR := hid hfr; have HU := hid hu
              obtain ⟨x0, x1, x2, x3⟩ := x
              have hlt64 : (k : Int) < (M : Int) := by omega
              obtain ⟨w8, hw8⟩ : ∃ w8, w8 = wr.alloc (.cells #[.int .i64 x0, .int .i64 x1, strV x2, strV x3] 55) := ⟨_, rfl⟩
              have HB8 : Hid (Below wr.heap.size wr w8) := by rw [hw8]; exact balloc (Below.refl _ _) _
              have y0 : w8.cell? ⟨wr.heap.size, 0, none⟩ = some (.int .i64 x0) := by rw [hw8]; exact cell_new _ _ _ 0 _ rfl
              have y1 : w8.cell? ⟨wr.heap.size, 1, none⟩ = some (.int .i64 x1) := by rw [hw8]; exact cell_new _ _ _ 1 _ rfl
              have y2 : w8.cell? ⟨wr.heap.size, 2, none⟩ = some (strV x2) := by rw [hw8]; exact cell_new _ _ _ 2 _ rfl
              have y3 : w8.cell? ⟨wr.heap.size, 3, none⟩ = some (strV x3) := by rw [hw8]; exact cell_new _ _ _ 3 _ rfl
              have HW8 := hid hw8
              clear hw8 hc hx hso hfr hu
              go_upto_region 21 with fail
              have e := HW8.out
              rw [← e]
              clear e HW8 c0 c1 c2 c3
              go_wp2_with fail
              refine (HDO.out _ HB8.out).mono ?_
              rintro e w9 ⟨rfl, U1, hso1, hf1, hu1⟩
              obtain ⟨rc, E, hA⟩ : ∃ rc E, (doData Dk (x0, x1, x2, x3)).2 = (rc, E) := ⟨_, _, rfl⟩
              have hA1 : (doData Dk (x0, x1, x2, x3)).2.1 = rc := by rw [hA]
              have hA2 : (doData Dk (x0, x1, x2, x3)).2.2 = E := by rw [hA]
              rw [hA2] at HRS HRO
              simp only [hA1, hA2]
              have HF9 : Hid (Frm U0 w7 w9) := HFR.out.trans ((Frm.of_below (F := Uk) HB8.out).trans hf1 (fun i _ h => h)) (fun i hi h => (HU.out i h).elim id (fun h => by omega))
              have HU9 : Hid (∀ j, U1 j → U0 j ∨ w7.heap.size ≤ j) := fun j hj => (hu1 j hj).elim (HU.out j) (fun h => .inr (by have := HFR.out.size; have := HB8.out.size; omega))
              have HSO1 := hid hso1
              clear hA hA1 hA2 hso1 hf1 hu1 y0 y1 y2 y3 HDO
              obtain ⟨w10, hw10⟩ : ∃ w10, w10 = w9.alloc (.cells #[strV rc.1, strV rc.2] 59) := ⟨_, rfl⟩
              have HB10 : Hid (Below w9.heap.size w9 w10) := by rw [hw10]; exact balloc (Below.refl _ _) _
              have HW10 := hid hw10
              clear hw10
              go_upto_region 22 with fail
              have e := HW10.out
              rw [← e]
              clear e HW10
              have HF10 : Hid (Frm U0 w7 w10) := HF9.out.trans (Frm.of_below (F := U0) HB10.out) (fun i _ h => h)
              have HS10 := hid (HSO1.out.below HB10.out)
              by_cases hE : E = 0
              · have gE : (E != 0) = false := by simpa using hE
                have HR2 := hid (HRO.out hE)
                clear HRS HRO
                go_wp2_with fail
                go_roundw
                case rel => exact ⟨k + 1, _, by go_num, by omega, HR2, U1, HS10.out, HF10.out, HU9.out⟩
                case measure => simp [intOf]; omega
              · have gE : (E != 0) = true := by simpa using hE
                have HO := hid (HNO.out (HRS.out hE))
                have HBE : Hid (Below w.heap.size w w10) := Frm.below HB7.out HF10.out (fun i h => (HUB.out i h).1) HB7.out.size
                go_wp2_with fail
                go_ret2
                rw [HO.out]
                exact openPost_none HBE.out
            · have hk2 : k = M := by omega
              subst hk2
              have HR2 : Hid (runAll (empties h.2.2.1) ops = some Dk) := by have h1 := HR.out; rw [List.take_of_length_le (by have := HM.out; omega)] at h1; exact h1
              go_wp2_with fail
              go_meet
              case rel => exact ⟨Dk, HR2, HI⟩
        case rest =>
          obtain ⟨data, HR, HI⟩ := hcut
          obtain ⟨Uk, ⟨D', vp', vq', va', vw', vd', vk', us', ks', hsa⟩, hfr, hu⟩ := HI.out
          have HFR := hid hfr; have HU := hid hu
          have HAD : Hid (AllDs data) := runAll_all (empties_all _) HR.out
          have hDl : data.length ≤ 8 := by have := runAll_len HR.out; rw [this]; unfold empties; simp; omega
          have HCP := hid (copies_any data vd' wc hsa.rdNow (by omega) (allDs_bd HAD.out))
          have HPO := hid (fun w9 v (hb : Below wc.heap.size wc w9) (ho : OD w9 wc.heap.size v data) => hsa.open_post hb ho (Nat.le_refl _))
          have s7 := hsa.s7; have s8 := hsa.s8; have f8 := hsa.fz 8
          obtain ⟨od, cd, hvd⟩ : ∃ od cd, vd' = .slice od data.length cd := by obtain ⟨o, c, e, -⟩ := hsa.rdNow; exact ⟨o, c, e⟩
          rw [hvd] at s7 HCP
          have HOO := hid (HOK.out data HR.out)
          obtain ⟨VL, hVL⟩ : ∃ VL, data.length = VL := ⟨_, rfl⟩
          rw [hVL] at s7 HCP
          have HVL := hid hVL
          clear hsa hfr hu hvd HI hVL
          go_wp2_with fail
          refine HCP.out.mono ?_
          rintro e w9 ⟨v9, rfl, ho9, hb9⟩
          have s8 := keepc hb9 s8
          have f8 := keepf hb9 (by assumption) f8
          obtain ⟨U', hso', hff, hu'⟩ := HPO.out w9 v9 hb9 ho9
          obtain ⟨o9, c9, rfl, -, -⟩ := ho9.rd
          have HFF : Hid (Frm U0 w7 (w9.setCell ⟨S, 8, none⟩ (.slice o9 data.length c9))) := HFR.out.trans hff (fun i hi h => (HU.out i h).elim id (fun h => by omega))
          have HBE : Hid (Below w.heap.size w (w9.setCell ⟨S, 8, none⟩ (.slice o9 data.length c9))) := Frm.below HB7.out HFF.out (fun i h => (HUB.out i h).1) HB7.out.size
          have HZ7 : Hid (w.heap.size ≤ w7.heap.size) := HB7.out.size
          have HSO2 := hid hso'
          have HU2 : Hid (∀ k, U' k → w.heap.size ≤ k) := fun k hk => by
            rcases hu' k hk with h1 | h1
            · rcases HU.out k h1 with h2 | h2
              · exact (HUB.out k h2).1
              · exact Nat.le_trans HZ7.out h2
            · exact Nat.le_trans HZ7.out (Nat.le_trans HFR.out.size h1)
          clear hso' hff hu' ho9 hb9 HPO HCP
          go_wp2_with fail
          go_ret2
          rw [HOO.out]
          exact ⟨HBE.out, fun st hst => by simp only [Option.some.injEq] at hst; subst hst; exact ⟨S, U', rfl, HSO2.out, HU2.out⟩, fun hn => by simp at hn⟩
end Go.Proofs.YtifcgimpgbeocaaGreat
