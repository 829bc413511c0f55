/- put. -/
import Derived.Test.YtifcgimpgbeocaaGreatK11
import Derived.Test.YtifcgimpgbeocaaGreatK6
set_option linter.unusedVariables false
set_option linter.unusedSimpArgs false
namespace Go.Proofs.YtifcgimpgbeocaaGreat
open Go.RowKit
attribute [local go_sem] Oper.semAt_some
/-- What put leaves: the drive behind an act; the new disk lies in new memory. -/
def PutPost (D : Nat) (va : Value) (dk : Dk) (acts : List Ac) (a : Ac) (w : World) (e : Ending) (w' : World) : Prop :=
  e = .returned (.tuple #[]) ∧ ∃ vp vq va', DA w' D vp vq va' (actDk dk a) (acts ++ [a]) ∧ Frm (FD D va) w w' ∧ (∀ k, vp.ownBlock = some k → w.heap.size ≤ k ∧ k < w'.heap.size ∧ va'.ownBlock ≠ some k) ∧ (∀ k, vq.ownBlock = some k → w.heap.size ≤ k ∧ k < w'.heap.size ∧ va'.ownBlock ≠ some k) ∧ (va'.ownBlock = va.ownBlock ∨ ∃ k, va'.ownBlock = some k ∧ w.heap.size ≤ k)
theorem put_end {D B : Nat} {va vp vq v4 dv : Value} {dk : Dk} {acts : List Ac} {a : Ac} {w w2 X w4 : World} (hf : Frm (fun k => k = D) w w2) (hX : Below w2.heap.size w2 X) (hg : X.grownBy w4 va.ownBlock) (ho : OA w4 0 v4 (acts ++ [a]))
    (hat : v4.ownBlock = va.ownBlock ∨ v4.ownBlock = some X.heap.size) (hp : OS w2 B vp (actDk dk a).1) (hq : OW w2 B vq (actDk dk a).2) (hB : w.heap.size ≤ B) (V0 : w2.cell? ⟨D, 0, none⟩ = some vp) (V1 : w2.cell? ⟨D, 1, none⟩ = some vq)
    (hd4 : w4.cell? ⟨D, 2, none⟩ = some dv) (hfz : ∀ j, w2.frozen? ⟨D, j, none⟩ = false) (hna : va.ownBlock ≠ some D) (hD : D < w.heap.size) (hoa : OA w2 0 va acts) : PutPost D va dk acts a w (.returned (.tuple #[])) (w4.setCell ⟨D, 2, none⟩ v4) := by
  have hz2 := hf.size
  have hzX := hX.size
  have hpo : ∀ k, vp.ownBlock = some k → B ≤ k := fun k hk => (World.ownsRow.lt hp k hk).1
  have hqo : ∀ k, vq.ownBlock = some k → B ≤ k := fun k hk => (World.ownsRow.lt hq k hk).1
  have hn4 : v4.ownBlock ≠ some D := fun e => by
    rcases hat with h | h
    · exact hna (by rw [← h]; exact e)
    · rw [h] at e; simp only [Option.some.injEq] at e; omega
  have hblk : w4.heap[D]? = w2.heap[D]? := (hg.block D (by omega) (fun e => hna e.symm)).trans (hX.block D (by omega))
  have hop : OS (w4.setCell ⟨D, 2, none⟩ v4) B vp (actDk dk a).1 := ownsRow_setCell_other (World.ownsRow.kept (hp.below hX) hg (rows_apart (hp.below hX) (hoa.below hX) (by decide))) (fun e => by have h1 := hpo _ e; simp only at h1; omega) _
  have hoq : OW (w4.setCell ⟨D, 2, none⟩ v4) B vq (actDk dk a).2 := ownsRow_setCell_other (World.ownsRow.kept (hq.below hX) hg (rows_apart (hq.below hX) (hoa.below hX) (by decide))) (fun e => by have h1 := hqo _ e; simp only at h1; omega) _
  have hfr : Frm (FD D va) w w4 := (hf.mono (G := FD D va) (fun i _ h => .inl h)).trans ((Frm.of_below (F := FD D va) hX).trans (Frm.of_grown (F := FD D va) hg (fun k hk => .inr hk)) (fun i _ h => h)) (fun i _ h => h)
  have hlt4 : ∀ {k : Nat}, k < w2.heap.size → k < (w4.setCell ⟨D, 2, none⟩ v4).heap.size ∧ (v4.ownBlock = some k → va.ownBlock = some k) := fun {k} hk => by
    have h4 := hfr.size
    have h5 := (hX.trans (Below.refl _ _)).size
    refine ⟨?_, fun e => ?_⟩
    · have h6 := hg.size
      have : (w4.setCell ⟨D, 2, none⟩ v4).heap.size = w4.heap.size := by simp [World.setCell]
      omega
    · rcases hat with h | h
      · rw [← h]; exact e
      · rw [h] at e; simp only [Option.some.injEq] at e; omega
  refine ⟨rfl, vp, vq, v4, ⟨?_, ?_, ?_, ?_, hop.rd, hoq.rd, ownsRow_setCell_other ho hn4 _, hn4⟩, frm_setCell hfr (.inl rfl) _, fun k hk => ⟨Nat.le_trans hB (hpo k hk), (hlt4 (World.ownsRow.lt hp k hk).2).1, fun e => ?_⟩, fun k hk => ⟨Nat.le_trans hB (hqo k hk), (hlt4 (World.ownsRow.lt hq k hk).2).1, fun e => ?_⟩, ?_⟩
  · rw [World.cell?_setCell_other _ _ _ _ (by simp)]; exact cell_at hblk V0
  · rw [World.cell?_setCell_other _ _ _ _ (by simp)]; exact cell_at hblk V1
  · exact World.cell?_setCell_same _ _ _ hd4
  · intro j; rw [World.frozen?_setCell]; exact (frozen_at hblk).trans (hfz j)
  · rcases rows_apart hp hoa (by decide) with h1 | h1
    · rw [h1] at hk; cases hk
    · exact h1 (hk.trans ((hlt4 (World.ownsRow.lt hp k hk).2).2 e).symm)
  · rcases rows_apart hq hoa (by decide) with h1 | h1
    · rw [h1] at hk; cases hk
    · exact h1 (hk.trans ((hlt4 (World.ownsRow.lt hq k hk).2).2 e).symm)
  · rcases hat with h | h
    · exact .inl h
    · exact .inr ⟨_, h, by omega⟩
set_option maxHeartbeats 2000000 in
set_option maxRecDepth 100000 in
theorem put_any (D : Nat) (vp vq va : Value) (dk : Dk) (acts : List Ac) (a : Ac) (w : World) (h : DA w D vp vq va dk acts) (hd : isDk dk = true) (hl : dk.2.length ≤ 1000000) (ha : acts.length ≤ 1000000) :
    Calls Tryz.prog 62 #[.pointer (some ⟨D, 0, none⟩), acV a] w (PutPost D va dk acts a w) := by
  have HACT := hid (fun w' (hb : Below w.heap.size w w') => act_any dk a vp vq w' (h.rp.below hb) (h.rq.below hb) hd hl)
  have HH := hid h
  obtain ⟨op, cp, hvp, -, -⟩ := h.rp
  obtain ⟨oq, cq, hvq, -, -⟩ := h.rq
  obtain ⟨s, p, q⟩ := a
  have c0 := h.c0; have c1 := h.c1; have c2 := h.c2
  rw [hvp] at c0 HACT
  rw [hvq] at c1 HACT
  have f0 := h.fz 0; have f1 := h.fz 1; have f2 := h.fz 2
  have hD : D < w.heap.size := World.block_lt_of_cell? _ _ c0
  have HB0 := hid (balloc (Below.refl w.heap.size w) (.cells #[.bool s, .int .i64 p, strV q] 77))
  have C0 := hid (keepc HB0.out c0); have C1 := hid (keepc HB0.out c1); have C2 := hid (keepc HB0.out c2)
  have Z0 := hid (keepf HB0.out c0 f0); have Z1 := hid (keepf HB0.out c1 f1); have Z2 := hid (keepf HB0.out c2 f2)
  have X0 := hid (cell_new w #[.bool s, .int .i64 p, strV q] 77 0 _ rfl)
  have X1 := hid (cell_new w #[.bool s, .int .i64 p, strV q] 77 1 _ rfl)
  have X2 := hid (cell_new w #[.bool s, .int .i64 p, strV q] 77 2 _ rfl)
  clear h hd hl c0 c1 c2 f0 f1 f2
  go_enter Tryz.func62, Tryz.ntmps62
  go_upto_region 1 with fail
  obtain ⟨W, hW⟩ : ∃ W, W = w.alloc (.cells #[.bool s, .int .i64 p, strV q] 77) := ⟨_, rfl⟩
  simp only [← hW] at HB0 C0 C1 C2 Z0 Z1 Z2 X0 X1 X2 ⊢
  clear hW
  have c0 := C0.out; have c1 := C1.out; have z0 := Z0.out; have z1 := Z1.out; have x0 := X0.out; have x1 := X1.out; have x2 := X2.out
  go_region_with (go_at_call 100; refine (HACT.out _ (HB0.out.drew)).mono ?_; rintro e w1 ⟨u1, u2, rfl, ho1, ho2, hb1⟩; have hb1 := below_step hb1 (drew_below W); obtain ⟨o1, k1, rfl, -, -⟩ := ho1.rd; obtain ⟨o2, k2, rfl, -, -⟩ := ho2.rd; have c0 := keepc hb1 C0.out; have c1 := keepc hb1 C1.out; have z0 := keepf hb1 C0.out Z0.out; have z1 := keepf hb1 C1.out Z1.out; have HO1 := hid ho1; have HO2 := hid ho2; have HB1 := hid hb1; clear ho1 ho2 hb1)
  all_goals
    have HB1 : Hid (Below W.heap.size W w1) := (by assumption)
    have hDW : D < W.heap.size := Nat.lt_of_lt_of_le hD HB0.out.size
    obtain ⟨w2, hw2⟩ : ∃ w2, w2 = (w1.setCell ⟨D, 0, none⟩ (.slice o1 (actDk dk (s, p, q)).1.length k1)).setCell ⟨D, 1, none⟩ (.slice o2 (actDk dk (s, p, q)).2.length k2) := ⟨_, rfl⟩
    rw [← hw2]
    have hz2 : w2.heap.size = w1.heap.size := by rw [hw2]; simp [World.setCell]
    have hpast : ∀ (j : Nat) (b : Nat) (v : Value), (b ≠ D ∨ (j ≠ 0 ∧ j ≠ 1)) → w1.cell? ⟨b, j, none⟩ = some v → w2.cell? ⟨b, j, none⟩ = some v := fun j b v hne hc => by
      rw [hw2, World.cell?_setCell_other _ _ _ _ (by simp; omega), World.cell?_setCell_other _ _ _ _ (by simp; omega)]; exact hc
    have D2 := hid (hpast 2 D va (.inr ⟨by decide, by decide⟩) (keepc HB1.out C2.out))
    have E2 : Hid (w2.frozen? ⟨D, 2, none⟩ = false) := by rw [hw2, World.frozen?_setCell, World.frozen?_setCell]; exact keepf HB1.out C2.out Z2.out
    have Y0 := hid (hpast 0 w.heap.size _ (.inl (by omega)) (keepc HB1.out X0.out))
    have Y1 := hid (hpast 1 w.heap.size _ (.inl (by omega)) (keepc HB1.out X1.out))
    have Y2 := hid (hpast 2 w.heap.size _ (.inl (by omega)) (keepc HB1.out X2.out))
    have HFW : Hid (Frm (fun k => k = D) w w2) := by
      rw [hw2]
      exact frm_setCell (frm_setCell (Frm.of_below (HB0.out.trans (HB1.out.mono HB0.out.size))) (by rfl) _) (by rfl) _
    have HOA : Hid (OA w2 0 va acts) := HFW.out.row HH.out.oa (fun k hk e => HH.out.na (by rw [hk, e]))
    have HP : Hid (OS w2 W.heap.size (.slice o1 (actDk dk (s, p, q)).1.length k1) (actDk dk (s, p, q)).1) := by
      have h0 := HO1.out.mono (B' := W.heap.size) (Nat.le_refl _)
      rw [hw2]
      exact ownsRow_setCell_other (ownsRow_setCell_other h0 (fun e => by have h1 := (World.ownsRow.lt h0 _ e).1; simp only at h1; omega) _) (fun e => by have h1 := (World.ownsRow.lt h0 _ e).1; simp only at h1; omega) _
    have HQ : Hid (OW w2 W.heap.size (.slice o2 (actDk dk (s, p, q)).2.length k2) (actDk dk (s, p, q)).2) := by
      have h0 := HO2.out.mono (B' := W.heap.size) (Nat.le_refl _)
      rw [hw2]
      exact ownsRow_setCell_other (ownsRow_setCell_other h0 (fun e => by have h1 := (World.ownsRow.lt h0 _ e).1; simp only at h1; omega) _) (fun e => by have h1 := (World.ownsRow.lt h0 _ e).1; simp only at h1; omega) _
    have V0 : Hid (w2.cell? ⟨D, 0, none⟩ = some (.slice o1 (actDk dk (s, p, q)).1.length k1)) := by
      rw [hw2]; unfold Hid; rw [World.cell?_setCell_other _ _ _ _ (by simp)]; exact World.cell?_setCell_same _ _ _ (keepc HB1.out C0.out)
    have V1 : Hid (w2.cell? ⟨D, 1, none⟩ = some (.slice o2 (actDk dk (s, p, q)).2.length k2)) := by
      rw [hw2]; exact World.cell?_setCell_same _ _ _ (by rw [World.cell?_setCell_other _ _ _ _ (by simp)]; exact keepc HB1.out C1.out)
    have HFZ : Hid (∀ j, w2.frozen? ⟨D, j, none⟩ = false) := fun j => by
      rw [hw2, World.frozen?_setCell, World.frozen?_setCell]
      exact (HB1.out.frozen (p := ⟨D, j, none⟩) hDW).trans ((HB0.out.frozen (p := ⟨D, j, none⟩) hD).trans (HH.out.fz j))
    have HZ2 : Hid (w.heap.size < w2.heap.size) := by have := HB1.out.size; have := World.block_lt_of_cell? _ _ X0.out; unfold Hid; simp only at this; omega
    clear hpast hw2 hz2 c0 c1 z0 z1 x0 x1 x2 HB1 HACT C0 C1 C2 Z0 Z1 Z2 X0 X1 X2 HO1 HO2
    try clear hb1
    have HB3 : Hid (Below w2.heap.size w2 (w2.drew.alloc (.cells #[.bool s, .int .i64 p, strV q] 77))) := balloc (drew_below w2) _
    have HCA : Hid (∀ j u, (encA [((s, p, q) : Ac)])[j]? = some u → (w2.drew.alloc (.cells #[.bool s, .int .i64 p, strV q] 77)).cell? ⟨w2.heap.size, j, none⟩ = some u) :=
      cellsA _ _ _ (cell_new w2.drew #[.bool s, .int .i64 p, strV q] 77 0 _ rfl) (cell_new w2.drew #[.bool s, .int .i64 p, strV q] 77 1 _ rfl) (cell_new w2.drew #[.bool s, .int .i64 p, strV q] 77 2 _ rfl)
    have HNA := hid HH.out.na
    have d2a := Lib.cell?_alloc_some (.cells #[.bool s, .int .i64 p, strV q] 77) D2.out
    have d2 := D2.out; have e2 := E2.out; have y0 := Y0.out; have y1 := Y1.out; have y2 := Y2.out
    obtain ⟨oa, ca, hva⟩ : ∃ o c, va = .slice o acts.length c := by obtain ⟨o, c, e, -⟩ := HOA.out.rd; exact ⟨o, c, e⟩
    have HVA := hid hva
    clear hva
    go_wp2_with fail
    go_region_law (refine step_appA (by rfl) (.tmp 17) (.tmp 19) (by rfl) 0 va acts (s, p, q) w2.heap.size 1 (by simp [Act.eval, Act.put]) (by simp [Act.eval, Act.put]) (HOA.out.below HB3.out) HCA.out ha (Nat.zero_le _) ?_; intro v4 w4 ho4 hg4 hat4; obtain ⟨⟨dv, dd2⟩, ee2⟩ := own_grown' (keepOwn HB3.out ⟨⟨_, D2.out⟩, E2.out⟩) hg4 HNA.out; obtain ⟨o4, c4, rfl⟩ : ∃ o c, v4 = .slice o (acts ++ [(s, p, q)]).length c := by (obtain ⟨o, c, e, -⟩ := ho4.rd; exact ⟨o, c, e⟩))
    all_goals
      go_wp2_with fail
      go_end0
      have e4 : acts.length + 1 = (acts ++ [((s, p, q) : Ac)]).length := by simp
      rw [e4]
      exact put_end HFW.out (by first | exact HB3.out | exact (balloc (Below.refl _ _) _).drew) hg4 ho4 hat4 HP.out HQ.out HB0.out.size V0.out V1.out dd2 HFZ.out HNA.out hD HOA.out
end Go.Proofs.YtifcgimpgbeocaaGreat
