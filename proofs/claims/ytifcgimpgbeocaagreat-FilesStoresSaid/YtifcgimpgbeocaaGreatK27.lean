/- What lasts whatever a store turns: facts about memory beside it; a store behind a step. -/
import Derived.Test.YtifcgimpgbeocaaGreatK14
import Derived.Test.YtifcgimpgbeocaaGreatK26
import Derived.Test.YtifcgimpgbeocaaGreatK9
import Derived.Test.YtifcgimpgbeocaaGreatK20
import Derived.Test.YtifcgimpgbeocaaGreatK21
import Derived.Test.YtifcgimpgbeocaaGreatK10
set_option linter.unusedVariables false
set_option linter.unusedSimpArgs false
namespace Go.Proofs.YtifcgimpgbeocaaGreat
open Go.RowKit
/-- P holds however the blocks U turn. -/
def Keep (U : Nat → Prop) (w : World) (P : World → Prop) : Prop := ∀ w', Frm U w w' → P w'
variable {U U' : Nat → Prop} {w w1 w2 w0 : World} {P : World → Prop} {S : Nat} {st : St}
theorem Keep.now (h : Keep U w P) : P w := h w (Frm.refl _ _)
theorem Keep.step (h : Keep U w P) (hf : Frm U w w1) (hU : ∀ k, U' k → U k ∨ w.heap.size ≤ k) : Keep U' w1 P := fun w' hf' => h w' (hf.trans hf' fun i hi hk => (hU i hk).resolve_right (by omega))
theorem Keep.below (h : Keep U w P) (hb : Below w.heap.size w w1) : Keep U w1 P := h.step (Frm.of_below hb) fun k hk => .inl hk
theorem Keep.nil (h : Keep (fun _ => False) w P) (hU : ∀ k, U k → w.heap.size ≤ k) : Keep U w P := fun w' hf => h w' ⟨hf.os, hf.tape, hf.output, hf.size, fun k hk _ => hf.block k hk (fun hu => by have := hU k hu; omega)⟩
theorem keep_R {v : Value} {d : Ds} {B : Nat} (h : OR w B v d) (hU : ∀ k, v.ownBlock = some k → ¬ U k) : Keep U w (fun w' => RdR w' v d) := fun w' hf =>
  OR.rd (B := B) (hf.row h hU)
theorem keep_O {v : Value} {d : List FOp} {B : Nat} (h : OO w B v d) (hU : ∀ k, v.ownBlock = some k → ¬ U k) : Keep U w (fun w' => RdO w' v d) := fun w' hf =>
  OO.rd (B := B) (hf.row h hU)
theorem keep_S {v : Value} {d : List Bs} {B : Nat} (h : OS w B v d) (hU : ∀ k, v.ownBlock = some k → ¬ U k) : Keep U w (fun w' => RdS w' v d) := fun w' hf =>
  OS.rd (B := B) (hf.row h hU)
theorem keep_W {v : Value} {d : List Wt} {B : Nat} (h : OW w B v d) (hU : ∀ k, v.ownBlock = some k → ¬ U k) : Keep U w (fun w' => RdW w' v d) := fun w' hf =>
  OW.rd (B := B) (hf.row h hU)
theorem keep_A {v : Value} {d : List Ac} {B : Nat} (h : OA w B v d) (hU : ∀ k, v.ownBlock = some k → ¬ U k) : Keep U w (fun w' => RdA w' v d) := fun w' hf =>
  OA.rd (B := B) (hf.row h hU)
theorem own_not {B e s n : Nat} {v : Value} {xs : List Value} (h : w.ownsRow B e s v n xs) (hU : ∀ k, U k → k < B) : ∀ k, v.ownBlock = some k → ¬ U k := fun k hk hu => by have := hU k hu; have := (World.ownsRow.lt h k hk).1; omega
theorem So.ult (h : So w U S st) : ∀ k, U k → k < w.heap.size := h.lt
/-- A store opened since w0, in the world w: nothing that was there at w0 has turned. -/
structure Hold (w0 : World) (U : Nat → Prop) (S : Nat) (st : St) (w : World) : Prop where
  so : So w U S st
  b : Below w0.heap.size w0 w
  ge : ∀ k, U k → w0.heap.size ≤ k
theorem Hold.below (h : Hold w0 U S st w) (hb : Below w.heap.size w w1) : Hold w0 U S st w1 := ⟨h.so.below hb, below_step hb h.b, h.ge⟩
theorem Hold.step {v : Value} {st' : St} {e : Ending} (h : Hold w0 U S st w) (hp : StPost U S v st' w e w1) : e = .returned v ∧ ∃ U', Hold w0 U' S st' w1 ∧ Frm U w w1 ∧ ∀ k, U' k → U k ∨ w.heap.size ≤ k := by
  obtain ⟨e1, U', h1, h2, h3⟩ := hp
  refine ⟨e1, U', ⟨h1, Frm.below h.b h2 h.ge h.b.size, fun k hk => ?_⟩, h2, h3⟩
  rcases h3 k hk with h4 | h4
  · exact h.ge k h4
  · exact Nat.le_trans h.b.size h4
theorem Hold.cell (h : Hold w0 U S st w) {a : Addr} {v : Value} (k : w0.cell? a = some v) : w.cell? a = some v := keepc h.b k
end Go.Proofs.YtifcgimpgbeocaaGreat
/- A row of datasets that is being filled; the reference's state as a value. -/
set_option linter.unusedVariables false
set_option linter.unusedSimpArgs false
namespace Go.Proofs.YtifcgimpgbeocaaGreat
open Go.RowKit
/-- An own row in block g whose cells hold slices that read as datasets; they lie elsewhere, and not in U. -/
structure DT (U : Nat → Prop) (w : World) (B g cap : Nat) (us : List Value) (l : List Ds) : Prop where
  row : OV w B (.slice (some ⟨g, 0, none⟩) us.length cap) us
  len : us.length = l.length
  rd : ∀ (i : Nat) (u : Value) (d : Ds), us[i]? = some u → l[i]? = some d → Keep (fun k => k = g ∨ U k) w (fun x => RdR x u d)
variable {w w' : World} {B g cap : Nat} {us : List Value} {l : List Ds} {U U' : Nat → Prop}
theorem DT.below (h : DT U w B g cap us l) (hb : Below w.heap.size w w') : DT U w' B g cap us l :=
  ⟨h.row.below hb, h.len, fun i u d hu hd => (h.rd i u d hu hd).below hb⟩
theorem DT.glt (h : DT U w B g cap us l) : B ≤ g ∧ g < w.heap.size := World.ownsRow.lt h.row g rfl
theorem DT.set {i : Nat} {u : Value} {d : Ds} (h : DT U w B g cap us l) (hi : i < us.length) (hu : Keep (fun k => k = g ∨ U k) w (fun x => RdR x u d)) :
    DT U (w.setCell ⟨g, i, none⟩ u) B g cap (us.set i u) (l.set i d) := by
  have hf : Frm (fun k => k = g ∨ U k) w (w.setCell ⟨g, i, none⟩ u) := frm_setCell (Frm.refl _ _) (.inl rfl) _
  refine ⟨?_, by rw [List.length_set, List.length_set]; exact h.len, fun j v e hv he => ?_⟩
  · have := (OV.set (u := u) h.row rfl hi).1
    rw [List.length_set]
    exact this
  · have hl := h.len
    by_cases hj : i = j
    · subst hj
      rw [List.getElem?_set_self hi] at hv
      rw [List.getElem?_set_self (by omega)] at he
      cases hv; cases he
      exact hu.step hf fun k hk => .inl hk
    · rw [List.getElem?_set_ne hj] at hv he
      exact (h.rd j v e hv he).step hf fun k hk => .inl hk
theorem DT.cell {i : Nat} {u : Value} (h : DT U w B g cap us l) (hu : us[i]? = some u) : w.cell? ⟨g, i, none⟩ = some u := by
  have hi : i < us.length := (List.getElem?_eq_some_iff.1 hu).1
  obtain ⟨g', cap', e, -, -, -, -, hc⟩ := h.row.cells (by omega)
  cases e
  exact hc i u hu
theorem DT.fz {i : Nat} (h : DT U w B g cap us l) (hi : i < us.length) : w.frozen? ⟨g, i, none⟩ = false := by
  obtain ⟨g', cap', e, -, -, -, hf, -⟩ := h.row.cells (by omega)
  cases e
  exact hf i
theorem DT.rdd (h : DT U w B g cap us l) : RdD w (.slice (some ⟨g, 0, none⟩) us.length cap) l := by
  have hl := h.len
  rcases Nat.eq_zero_or_pos us.length with h0 | h0
  · have e : l = [] := List.eq_nil_of_length_eq_zero (by omega)
    subst e
    exact ⟨_, cap, by rw [h.len], Nat.zero_le _, .inl rfl⟩
  · obtain ⟨g', cap', e, -, hg, hc, -, hcell⟩ := h.row.cells h0
    cases e
    refine ⟨_, cap, by rw [h.len], by omega, .inr ⟨g, 0, rfl, hg, fun i d hi => ?_⟩⟩
    have hil : i < us.length := by have := (List.getElem?_eq_some_iff.1 hi).1; omega
    have hu : us[i]? = some us[i] := List.getElem?_eq_getElem hil
    refine ⟨us[i], ?_, (h.rd i _ d hu hi).now⟩
    rw [Nat.zero_add]
    exact hcell i _ hu
theorem DT.frm (h : DT U w B g cap us l) (hf : Frm U w w') (hg : ¬ U g) : DT U w' B g cap us l :=
  ⟨hf.row h.row (fun k hk hu => hg (by cases hk; exact hu)), h.len, fun i u d hu hd => (h.rd i u d hu hd).step (hf.mono fun k _ hk => .inr hk) fun k hk => .inl hk⟩
theorem DT.keep (h : DT U w B g cap us l) (hg : ¬ U g) : Keep U w (fun x => RdD x (.slice (some ⟨g, 0, none⟩) us.length cap) l) := fun x hx => (h.frm hx hg).rdd
/-- A row of nil datasets, just made. -/
theorem DT.new (U : Nat → Prop) (w : World) (n : Nat) (hn : n ≤ 1000000) : DT U (w.alloc (.cells (List.replicate n (.slice none 0 0)).toArray 69)) w.heap.size w.heap.size n (List.replicate n (.slice none 0 0)) (empties n) := by
  refine ⟨?_, by unfold empties; simp, fun i u d hu hd x hx => ?_⟩
  · have := oV_new w n hn
    rw [List.length_replicate]
    exact this
  · rw [List.getElem?_replicate] at hu
    unfold empties at hd
    rw [List.getElem?_replicate] at hd
    split at hu
    · rename_i hi
      rw [if_pos hi] at hd
      cases hu; cases hd
      exact ⟨none, 0, rfl, Nat.zero_le _, .inl rfl⟩
    · cases hu
/-- The reference's state as a value. -/
abbrev stV (h : Hd) (vk vn vo vp vq va : Value) : Value := .agg #[.int .i64 h.1, .int .i64 h.2.1, .int .i64 h.2.2.1, .int .i64 h.2.2.2, vk, vn, vo, vp, vq, va]
/-- v is the reference's state st, however the blocks of U turn. -/
def KSt (U : Nat → Prop) (w : World) (v : Value) (st : St) : Prop := ∃ vk vn vo vp vq va, v = stV st.hd vk vn vo vp vq va ∧ Keep U w (fun x => RdD x vk st.kept) ∧ Keep U w (fun x => RdD x vn st.now) ∧ Keep U w (fun x => RdO x vo st.ops) ∧
  Keep U w (fun x => RdS x vp st.dk.1) ∧ Keep U w (fun x => RdW x vq st.dk.2) ∧ Keep U w (fun x => RdA x va st.acts)
theorem KSt.step {v : Value} {st : St} (h : KSt U w v st) (hf : Frm U w w') (hU : ∀ k, U' k → U k ∨ w.heap.size ≤ k) : KSt U' w' v st := by
  obtain ⟨vk, vn, vo, vp, vq, va, e, h1, h2, h3, h4, h5, h6⟩ := h
  exact ⟨vk, vn, vo, vp, vq, va, e, h1.step hf hU, h2.step hf hU, h3.step hf hU, h4.step hf hU, h5.step hf hU, h6.step hf hU⟩
theorem KSt.below {v : Value} {st : St} (h : KSt U w v st) (hb : Below w.heap.size w w') : KSt U w' v st := h.step (Frm.of_below hb) fun k hk => .inl hk
theorem rdO_nil (w : World) : RdO w (.slice none 0 0) [] := ⟨none, 0, rfl, Nat.zero_le _, .inl rfl⟩
theorem rdA_nil (w : World) : RdA w (.slice none 0 0) [] := ⟨none, 0, rfl, Nat.zero_le _, .inl rfl⟩
/-- The ten cells of a state, in block Y. -/
def StC (w : World) (Y : Nat) (h : Hd) (vk vn vo vp vq va : Value) : Prop := w.cell? ⟨Y, 0, none⟩ = some (.int .i64 h.1) ∧ w.cell? ⟨Y, 1, none⟩ = some (.int .i64 h.2.1) ∧ w.cell? ⟨Y, 2, none⟩ = some (.int .i64 h.2.2.1) ∧ w.cell? ⟨Y, 3, none⟩ = some (.int .i64 h.2.2.2) ∧
  w.cell? ⟨Y, 4, none⟩ = some vk ∧ w.cell? ⟨Y, 5, none⟩ = some vn ∧ w.cell? ⟨Y, 6, none⟩ = some vo ∧ w.cell? ⟨Y, 7, none⟩ = some vp ∧ w.cell? ⟨Y, 8, none⟩ = some vq ∧ w.cell? ⟨Y, 9, none⟩ = some va
theorem StC.below {h : Hd} {vk vn vo vp vq va : Value} {Y : Nat} (k : StC w Y h vk vn vo vp vq va) (hb : Below w.heap.size w w') : StC w' Y h vk vn vo vp vq va := by
  obtain ⟨k0, k1, k2, k3, k4, k5, k6, k7, k8, k9⟩ := k
  exact ⟨keepc hb k0, keepc hb k1, keepc hb k2, keepc hb k3, keepc hb k4, keepc hb k5, keepc hb k6, keepc hb k7, keepc hb k8, keepc hb k9⟩
theorem StC.new (w : World) (h : Hd) (vk vn vo vp vq va : Value) : StC (w.alloc (.cells #[.int .i64 h.1, .int .i64 h.2.1, .int .i64 h.2.2.1, .int .i64 h.2.2.2, vk, vn, vo, vp, vq, va] 39)) w.heap.size h vk vn vo vp vq va :=
  ⟨cell_new _ _ _ 0 _ rfl, cell_new _ _ _ 1 _ rfl, cell_new _ _ _ 2 _ rfl, cell_new _ _ _ 3 _ rfl, cell_new _ _ _ 4 _ rfl, cell_new _ _ _ 5 _ rfl, cell_new _ _ _ 6 _ rfl, cell_new _ _ _ 7 _ rfl, cell_new _ _ _ 8 _ rfl, cell_new _ _ _ 9 _ rfl⟩
/-- Cells of a block just made may be stored into. -/
theorem own_newN (w : World) (c : Array Value) (t : TypeId) (n : Nat) (h : n ≤ c.size) : ∀ k, k < n → OwnC (w.alloc (.cells c t)) ⟨w.heap.size, k, none⟩ := fun k hk => ownc_new w c t k (by omega)
/-- What is stored into a state's cells. -/
def setSt (w : World) (Y : Nat) (h : Hd) (vk vn vo vp vq va : Value) : World :=
  (((((((((w.setCell ⟨Y, 0, none⟩ (.int .i64 h.1)).setCell ⟨Y, 1, none⟩ (.int .i64 h.2.1)).setCell ⟨Y, 2, none⟩ (.int .i64 h.2.2.1)).setCell ⟨Y, 3, none⟩ (.int .i64 h.2.2.2)).setCell ⟨Y, 4, none⟩ vk).setCell ⟨Y, 5, none⟩ vn).setCell ⟨Y, 6, none⟩ vo).setCell ⟨Y, 7, none⟩ vp).setCell ⟨Y, 8, none⟩ vq).setCell ⟨Y, 9, none⟩ va
theorem setSt_frm (w : World) (Y : Nat) (h : Hd) (vk vn vo vp vq va : Value) : Frm (fun k => k = Y) w (setSt w Y h vk vn vo vp vq va) := by
  unfold setSt
  exact frm_setCell (frm_setCell (frm_setCell (frm_setCell (frm_setCell (frm_setCell (frm_setCell (frm_setCell (frm_setCell (frm_setCell (Frm.refl _ _) (by rfl) _) (by rfl) _) (by rfl) _) (by rfl) _) (by rfl) _) (by rfl) _) (by rfl) _) (by rfl) _) (by rfl) _) (by rfl) _
theorem setY (w : World) (S i : Nat) (v : Value) (j : Nat) (h : j ≠ i) : (w.setCell ⟨S, i, none⟩ v).cell? ⟨S, j, none⟩ = w.cell? ⟨S, j, none⟩ := World.cell?_setCell_other _ _ _ _ (fun e => h (by cases e; rfl))
theorem setSt_cells {w : World} {Y : Nat} (h : Hd) (vk vn vo vp vq va : Value) (o : ∀ k, k < 10 → OwnC w ⟨Y, k, none⟩) : StC (setSt w Y h vk vn vo vp vq va) Y h vk vn vo vp vq va := by
  have hc : ∀ (k : Nat) (w' : World) (v : Value), (∃ x, w'.cell? ⟨Y, k, none⟩ = some x) → (w'.setCell ⟨Y, k, none⟩ v).cell? ⟨Y, k, none⟩ = some v := fun k w' v ⟨x, hx⟩ => World.cell?_setCell_same _ _ _ hx
  have hk : ∀ (k i : Nat) (w' : World) (v : Value), (∃ x, w'.cell? ⟨Y, k, none⟩ = some x) → ∃ x, (w'.setCell ⟨Y, i, none⟩ v).cell? ⟨Y, k, none⟩ = some x := fun k i w' v ⟨x, hx⟩ => cell?_setCell_some hx
  unfold setSt StC
  refine ⟨?_, ?_, ?_, ?_, ?_, ?_, ?_, ?_, ?_, ?_⟩
  · rw [setY _ _ _ _ _ (by decide), setY _ _ _ _ _ (by decide), setY _ _ _ _ _ (by decide), setY _ _ _ _ _ (by decide), setY _ _ _ _ _ (by decide), setY _ _ _ _ _ (by decide), setY _ _ _ _ _ (by decide), setY _ _ _ _ _ (by decide), setY _ _ _ _ _ (by decide)]
    exact hc _ _ _ (o 0 (by decide)).1
  · rw [setY _ _ _ _ _ (by decide), setY _ _ _ _ _ (by decide), setY _ _ _ _ _ (by decide), setY _ _ _ _ _ (by decide), setY _ _ _ _ _ (by decide), setY _ _ _ _ _ (by decide), setY _ _ _ _ _ (by decide), setY _ _ _ _ _ (by decide)]
    exact hc _ _ _ (by iterate 1 (refine hk _ _ _ _ ?_)
                       exact (o 1 (by decide)).1)
  · rw [setY _ _ _ _ _ (by decide), setY _ _ _ _ _ (by decide), setY _ _ _ _ _ (by decide), setY _ _ _ _ _ (by decide), setY _ _ _ _ _ (by decide), setY _ _ _ _ _ (by decide), setY _ _ _ _ _ (by decide)]
    exact hc _ _ _ (by iterate 2 (refine hk _ _ _ _ ?_)
                       exact (o 2 (by decide)).1)
  · rw [setY _ _ _ _ _ (by decide), setY _ _ _ _ _ (by decide), setY _ _ _ _ _ (by decide), setY _ _ _ _ _ (by decide), setY _ _ _ _ _ (by decide), setY _ _ _ _ _ (by decide)]
    exact hc _ _ _ (by iterate 3 (refine hk _ _ _ _ ?_)
                       exact (o 3 (by decide)).1)
  · rw [setY _ _ _ _ _ (by decide), setY _ _ _ _ _ (by decide), setY _ _ _ _ _ (by decide), setY _ _ _ _ _ (by decide), setY _ _ _ _ _ (by decide)]
    exact hc _ _ _ (by iterate 4 (refine hk _ _ _ _ ?_)
                       exact (o 4 (by decide)).1)
  · rw [setY _ _ _ _ _ (by decide), setY _ _ _ _ _ (by decide), setY _ _ _ _ _ (by decide), setY _ _ _ _ _ (by decide)]
    exact hc _ _ _ (by iterate 5 (refine hk _ _ _ _ ?_)
                       exact (o 5 (by decide)).1)
  · rw [setY _ _ _ _ _ (by decide), setY _ _ _ _ _ (by decide), setY _ _ _ _ _ (by decide)]
    exact hc _ _ _ (by iterate 6 (refine hk _ _ _ _ ?_)
                       exact (o 6 (by decide)).1)
  · rw [setY _ _ _ _ _ (by decide), setY _ _ _ _ _ (by decide)]
    exact hc _ _ _ (by iterate 7 (refine hk _ _ _ _ ?_)
                       exact (o 7 (by decide)).1)
  · rw [setY _ _ _ _ _ (by decide)]
    exact hc _ _ _ (by iterate 8 (refine hk _ _ _ _ ?_)
                       exact (o 8 (by decide)).1)
  · exact hc _ _ _ (by iterate 9 (refine hk _ _ _ _ ?_)
                       exact (o 9 (by decide)).1)
theorem setSt_own {w : World} {Y : Nat} (h : Hd) (vk vn vo vp vq va : Value) {a : Addr} (o : OwnC w a) : OwnC (setSt w Y h vk vn vo vp vq va) a := by
  unfold setSt
  exact (((((((((o.set _ _).set _ _).set _ _).set _ _).set _ _).set _ _).set _ _).set _ _).set _ _).set _ _
end Go.Proofs.YtifcgimpgbeocaaGreat
/- The reference's Key, Check. -/
set_option linter.unusedVariables false
set_option linter.unusedSimpArgs false
namespace Go.Proofs.YtifcgimpgbeocaaGreat
open Go.RowKit
attribute [local go_sem] Oper.semAt_some
theorem rkey_same (s : Bs) (w : World) : Calls Tryz.prog 89 #[strV s] w (fun e w' => e = .returned (.bool (isKey s)) ∧ w' = w) := by
  have ek : isKey s = (decide (1 ≤ s.length) && decide (s.length ≤ 16)) := rfl
  rw [ek]
  clear ek
  by_cases h1 : 1 ≤ s.length
  · have d1 : decide (1 ≤ s.length) = true := by simpa using h1
    rw [d1, Bool.true_and, ← dec_le16]
    go_enter Tryz.func89, Tryz.ntmps89
    go_wp2
    go_ret
    exact ⟨rfl, rfl⟩
  · have d1 : decide (1 ≤ s.length) = false := by simpa using h1
    rw [d1, Bool.false_and]
    go_enter Tryz.func89, Tryz.ntmps89
    go_wp2
    go_ret
    exact ⟨rfl, rfl⟩
set_option maxHeartbeats 2000000 in
set_option maxRecDepth 100000 in
theorem rcheck_any (d : Ds) (v : Value) (w : World) (hR : RdR w v d) : Calls Tryz.prog 90 #[v] w (Ret (.int .i64 (chkE (isDs d))) w) := by
  obtain ⟨o, cap, rfl, hcap, hc⟩ := hR
  by_cases hl : d.length ≤ 64
  rotate_left
  · have e : isDs d = false := by
      unfold isDs
      have : decide (d.length ≤ 64) = false := by simpa using hl
      rw [this]; rfl
    rw [e]
    have d1 : decide ((64 : Int) < (d.length : Int)) = true := by simp; omega
    clear e hc
    go_enter Tryz.func90, Tryz.ntmps90
    go_wp2_with fail
    go_ret
    exact ⟨rfl, Below.refl _ _⟩
  have HC := hid hc
  have HFULL := hid (chkTo_full hl)
  obtain ⟨N, hN⟩ : ∃ N, d.length = N := ⟨_, rfl⟩
  rw [hN] at hl hcap HFULL ⊢
  have HN := hid hN
  obtain ⟨E, hE⟩ : ∃ E, chkE (isDs d) = E := ⟨_, rfl⟩
  rw [hE]
  have HE := hid hE
  clear hN hc hE
  have d1 : decide ((64 : Int) < (N : Int)) = false := by simp; omega
  go_enter Tryz.func90, Tryz.ntmps90
  go_wp2_with fail
  go_loopw [3] (fun i wr => ∃ k : Nat, i = .int .i64 k ∧ k ≤ N ∧ Hid (chkTo d k = true) ∧ Hid (Below w.heap.size w wr)) (fun i _ => N - (intOf i).toNat)
  case atStart => exact ⟨0, rfl, Nat.zero_le _, rfl, Below.refl _ _⟩
  case round =>
    obtain ⟨k, rfl, hk, HT, HB⟩ := hrel
    by_cases hlt : k < N
    rotate_left
    · have e : isDs d = true := by rw [HFULL.out]; have : k = N := by omega
                                   rw [← this]; exact HT.out
      have HEE : Hid (E = 0) := by unfold Hid; rw [← HE.out, e]; rfl
      clear e
      go_wp2_with fail
      go_ret
      exact ⟨ret_int HEE.out.symm, HB.out⟩
    obtain ⟨r, hr⟩ : ∃ r, d[k]? = some r := ⟨_, List.getElem?_eq_getElem (by have := HN.out; omega)⟩
    have hHC := HC.out
    rcases hHC with hc | ⟨b, off, rfl, hbl, hc⟩
    · rw [hc] at hr; simp at hr
    obtain ⟨c0, c1⟩ := hc k r hr
    have c0 := HB.out.cell (p := ⟨b, off + k * 2, none⟩) hbl |>.trans c0
    have c1 := HB.out.cell (p := ⟨b, off + k * 2 + 1, none⟩) hbl |>.trans c1
    have HST := hid (chkTo_succ hr)
    have HKEY := hid (fun w => rkey_same r.1 w)
    have prev : 0 < k → ∃ p, d[k - 1]? = some p ∧ wr.cell? ⟨b, off + (k - 1) * 2, none⟩ = some (strV p.1) := fun hm => by
      obtain ⟨p, hp⟩ : ∃ p, d[k - 1]? = some p := ⟨_, List.getElem?_eq_getElem (by have := HN.out; omega)⟩
      exact ⟨p, hp, (HB.out.cell (p := ⟨b, off + (k - 1) * 2, none⟩) hbl).trans (hc (k - 1) p hp).1⟩
    have HPREV := hid prev
    have HBD := hid (fun n => below_drewN HB.out n)
    clear hc hr prev
    have kk : isRec r = (isKey r.1 && decide (r.2.length ≤ 255)) := rfl
    cases ek : isKey r.1 with
    | false =>
      rw [ek] at HKEY
      have e : isDs d = false := chkTo_bad (k := k + 1) (by rw [HST.out, kk, ek]; simp)
      have HEE : Hid (E = 140) := by unfold Hid; rw [← HE.out, e]; rfl
      clear e ek kk
      go_wp2_with fail
      go_quiet ((go_at_call 89; exact Calls.quiet_of_same (HKEY.out _)))
      go_wp2_with fail
      go_ret
      exact ⟨ret_int HEE.out.symm, HBD.out _⟩
    | true =>
      rw [ek] at HKEY
      by_cases hdl : r.2.length ≤ 255
      rotate_left
      · have e : isDs d = false := chkTo_bad (k := k + 1) (by rw [HST.out, kk, ek]; simp; omega)
        have HEE : Hid (E = 140) := by unfold Hid; rw [← HE.out, e]; rfl
        have z1 : decide ((255 : Int) < (r.2.length : Int)) = true := by simp; omega
        clear e ek kk
        go_wp2_with fail
        go_quiet ((go_at_call 89; exact Calls.quiet_of_same (HKEY.out _)))
        go_wp2_with fail
        go_ret
        exact ⟨ret_int HEE.out.symm, HBD.out _⟩
      have er : isRec r = true := by rw [kk, ek]; simpa using hdl
      have z1 : decide ((255 : Int) < (r.2.length : Int)) = false := by simp; omega
      by_cases hk0 : k = 0
      · subst hk0
        have HT1 : Hid (chkTo d (0 + 1) = true) := by unfold Hid; rw [HST.out, HT.out, er]; rfl
        clear HST er HPREV HT ek kk
        have z0 : decide ((0 : Int) < ((0 : Nat) : Int)) = false := rfl
        have c0z : wr.cell? ⟨b, off, none⟩ = some (strV r.1) := by simpa using c0
        have c1z : wr.cell? ⟨b, off + 1, none⟩ = some (strV r.2) := by simpa using c1
        go_wp2_with fail
        go_quiet ((go_at_call 89; exact Calls.quiet_of_same (HKEY.out _)))
        go_wp2_with fail
        go_roundw
        case rel => exact ⟨0 + 1, rfl, by omega, HT1, HBD.out _⟩
        case measure => simp [intOf]; omega
      · have hkp : 0 < k := by omega
        obtain ⟨p, hp, P0⟩ := HPREV.out hkp
        have ep : prevOk d r k = ltB p.1 r.1 := prevOk_pos hkp hp
        have HST2 : Hid (chkTo d (k + 1) = ltB p.1 r.1) := by unfold Hid; rw [HST.out, HT.out, er, ep]; simp
        clear ep er HST hk0 hp HPREV ek kk
        have w0 : IntKind.i64.wrap ((k : Int) - 1) = (k : Int) - 1 := IntWalk.i64_in _ ⟨by omega, by omega⟩
        have w1 : (0 : Int) ≤ (k : Int) - 1 := by omega
        have w1' : (1 : Int) ≤ (k : Int) := by omega
        have w2 : (k : Int) - 1 < (N : Int) := by omega
        have w3 : ((k : Int) - 1).toNat = k - 1 := by omega
        have z0 : decide ((0 : Int) < (k : Int)) = true := by simp; omega
        cases el : ltB p.1 r.1 with
        | true =>
          have HT1 : Hid (chkTo d (k + 1) = true) := HST2.out.trans el
          have el' : Op.bytesLess p.1 r.1 = true := el
          clear HST2 el HT
          go_wp2_with fail
          go_quiet ((go_at_call 89; exact Calls.quiet_of_same (HKEY.out _)))
          go_wp2_with fail
          go_roundw
          case rel => exact ⟨k + 1, by go_num, by omega, HT1, HBD.out _⟩
          case measure => simp [intOf]; omega
        | false =>
          have e : isDs d = false := chkTo_bad (k := k + 1) (HST2.out.trans el)
          have HEE : Hid (E = 140) := by unfold Hid; rw [← HE.out, e]; rfl
          have el' : Op.bytesLess p.1 r.1 = false := el
          clear HST2 el HT e
          go_wp2_with fail
          go_quiet ((go_at_call 89; exact Calls.quiet_of_same (HKEY.out _)))
          go_wp2_with fail
          go_ret
          exact ⟨ret_int HEE.out.symm, HBD.out _⟩
end Go.Proofs.YtifcgimpgbeocaaGreat
/- The reference's Read, without, there. -/
set_option linter.unusedVariables false
set_option linter.unusedSimpArgs false
namespace Go.Proofs.YtifcgimpgbeocaaGreat
open Go.RowKit
attribute [local go_sem] Oper.semAt_some
theorem rkey_any (s : Bs) (w : World) : Calls Tryz.prog 89 #[strV s] w (Ret (.bool (isKey s)) w) :=
  (rkey_same s w).mono fun e w' ⟨h1, h2⟩ => ⟨h1, by rw [h2]; exact Below.refl _ _⟩
/-- No record ahead of k has the key. -/
def NoKey (d : Ds) (key : Bs) (k : Nat) : Prop := ∀ (j : Nat) (x : Rec), j < k → d[j]? = some x → x.1 ≠ key
theorem noKey_succ {d : Ds} {key : Bs} {k : Nat} {r : Rec} (h : NoKey d key k) (hr : d[k]? = some r) (hne : r.1 ≠ key) : NoKey d key (k + 1) := fun j x hj hx => by
  by_cases e : j = k
  · subst e; rw [hr] at hx; cases hx; exact hne
  · exact h j x (by omega) hx
theorem noKey_all {d : Ds} {key : Bs} (h : NoKey d key d.length) : look d key = none := look_none.2 fun x hx => by
  obtain ⟨j, hj⟩ := List.getElem?_of_mem hx
  exact h j x (List.getElem?_eq_some_iff.1 hj).1 hj
set_option maxHeartbeats 1000000 in
set_option maxRecDepth 100000 in
theorem rread_any (d : Ds) (v : Value) (key : Bs) (w : World) (hR : RdR w v d) : Calls Tryz.prog 96 #[v, strV key] w (Ret (.tuple #[strV (readD d key).1, .int .i64 (readD d key).2]) w) := by
  have HC := hid (fun w' (hb : Below w.heap.size w w') => rcheck_any d v w' (hR.below hb))
  have HK := hid (fun w => rkey_any key w)
  cases hd : isDs d with
  | false =>
    rw [hd] at HC
    have hr : readD d key = ([], 140) := by unfold readD; rw [hd]; rfl
    rw [hr]
    have HC2 : Hid (∀ w', Below w.heap.size w w' → Calls Tryz.prog 90 #[v] w' (Ret (.int .i64 140) w')) := HC.out
    clear HC hd hr hR
    go_enter Tryz.func96, Tryz.ntmps96
    go_wp2_with fail
    refine (HC2.out _ (Below.refl _ _)).mono ?_
    rintro e w1 ⟨rfl, hb1⟩
    have HB1 := hid hb1
    clear hb1
    go_wp2_with fail
    go_ret2
    exact ⟨rfl, HB1.out⟩
  | true =>
    rw [hd] at HC
    have HC2 : Hid (∀ w', Below w.heap.size w w' → Calls Tryz.prog 90 #[v] w' (Ret (.int .i64 0) w')) := HC.out
    cases hk : isKey key with
    | false =>
      rw [hk] at HK
      have hr : readD d key = ([], 1) := by unfold readD; rw [hd, hk]; rfl
      rw [hr]
      clear HC hd hr hR hk
      go_enter Tryz.func96, Tryz.ntmps96
      go_wp2_with fail
      refine (HC2.out _ (Below.refl _ _)).mono ?_
      rintro e w1 ⟨rfl, hb1⟩
      have HB1 := hid hb1
      clear hb1
      go_wp2_with fail
      refine (HK.out _).mono ?_
      rintro e w2 ⟨rfl, hb2⟩
      have HB2 := hid (below_step hb2 HB1.out)
      clear hb2
      go_wp2_with fail
      go_ret2
      exact ⟨rfl, HB2.out⟩
    | true =>
      rw [hk] at HK
      have hl := isDs_len hd
      have HRL := hid (readD_look hd hk)
      have HS := hid (isDs_sorted hd)
      obtain ⟨A, hA⟩ : ∃ A, readD d key = A := ⟨_, rfl⟩
      rw [hA] at HRL ⊢
      obtain ⟨o, cap, rfl, hcap, hc⟩ := hR
      have HCC := hid hc
      obtain ⟨N, hN⟩ : ∃ N, d.length = N := ⟨_, rfl⟩
      rw [hN] at HC2 hl hcap ⊢
      have HN := hid hN
      clear HC hd hk hA hc hN
      go_enter Tryz.func96, Tryz.ntmps96
      go_wp2_with fail
      refine (HC2.out _ (Below.refl _ _)).mono ?_
      rintro e w1 ⟨rfl, hb1⟩
      have HB1 := hid hb1
      clear hb1
      go_wp2_with fail
      refine (HK.out _).mono ?_
      rintro e w2 ⟨rfl, hb2⟩
      have HB2 := hid (below_step hb2 HB1.out)
      clear hb2
      go_wp2_with fail
      go_loopw [6] (fun i wr => ∃ k : Nat, i = .int .i64 k ∧ k ≤ N ∧ Hid (NoKey d key k) ∧ Hid (Below w.heap.size w wr)) (fun i _ => N - (intOf i).toNat)
      case atStart => exact ⟨0, rfl, Nat.zero_le _, (fun j x hj => by omega), HB2⟩
      case round =>
        obtain ⟨k, rfl, hk, HT, HB⟩ := hrel
        by_cases hlt : k < N
        rotate_left
        · have e : A = ([], 4) := by
            have h1 := HT.out
            have h2 : k = d.length := by have := HN.out; omega
            rw [h2] at h1
            rw [HRL.out, noKey_all h1]
          subst e
          go_wp2_with fail
          go_ret2
          exact ⟨rfl, HB.out⟩
        obtain ⟨r, hr⟩ : ∃ r, d[k]? = some r := ⟨_, List.getElem?_eq_getElem (by have := HN.out; omega)⟩
        have hHC := HCC.out
        rcases hHC with hc | ⟨b, off, rfl, hbl, hc⟩
        · rw [hc] at hr; simp at hr
        obtain ⟨c0, c1⟩ := hc k r hr
        have c0 := HB.out.cell (p := ⟨b, off + k * 2, none⟩) hbl |>.trans c0
        have c1 := HB.out.cell (p := ⟨b, off + k * 2 + 1, none⟩) hbl |>.trans c1
        by_cases hq : r.1 = key
        · have e : A = (r.2, 0) := by
            rw [HRL.out, look_mem HS.out (k := key) (s := r.2) (by rw [← hq]; exact List.mem_of_getElem? hr)]
          have g1 : (r.1 == key) = true := by rw [beq_iff_eq]; exact hq
          subst e
          clear hc hr hq
          go_wp2_with fail
          go_ret2
          exact ⟨rfl, HB.out⟩
        · have HT1 := hid (noKey_succ HT.out hr hq)
          have g1 : (r.1 == key) = false := by rw [beq_eq_false_iff_ne]; exact hq
          clear hc hr hq
          go_wp2_with fail
          go_roundw
          case rel => exact ⟨k + 1, by go_num, by omega, HT1, HB⟩
          case measure => simp [intOf]; omega
end Go.Proofs.YtifcgimpgbeocaaGreat
/- The reference's Next. -/
set_option linter.unusedVariables false
set_option linter.unusedSimpArgs false
namespace Go.Proofs.YtifcgimpgbeocaaGreat
open Go.RowKit
attribute [local go_sem] Oper.semAt_some
theorem nextD_find {d : Ds} {k : Bs} (hd : isDs d = true) (hk : k.length ≤ 16) : nextD d k = match d.find? (fun r => ltB k r.1) with | some r => (r, 0) | none => (([], []), 4) := by
  rw [find_next (isDs_sorted hd)]
  unfold nextD
  rw [if_pos hd, if_pos hk]
  by_cases h : nextI d k < d.length
  · rw [if_pos h, List.getElem?_eq_getElem h]; rfl
  · rw [if_neg h, List.getElem?_eq_none (by omega)]
/-- No record ahead of k has a greater key. -/
def NoGt (d : Ds) (key : Bs) (k : Nat) : Prop := (d.take k).find? (fun r => ltB key r.1) = none
theorem noGt_succ {d : Ds} {key : Bs} {k : Nat} {r : Rec} (h : NoGt d key k) (hr : d[k]? = some r) (hne : ltB key r.1 = false) : NoGt d key (k + 1) := by
  obtain ⟨hk, rfl⟩ := List.getElem?_eq_some_iff.1 hr
  unfold NoGt at *
  rw [List.take_succ_eq_append_getElem hk, List.find?_append, h, Option.none_or, List.find?_cons, hne]
  rfl
theorem noGt_found {d : Ds} {key : Bs} {k : Nat} {r : Rec} (h : NoGt d key k) (hr : d[k]? = some r) (hne : ltB key r.1 = true) : d.find? (fun r => ltB key r.1) = some r := by
  obtain ⟨hk, rfl⟩ := List.getElem?_eq_some_iff.1 hr
  unfold NoGt at h
  conv => lhs; rw [← List.take_append_drop k d]
  rw [List.find?_append, h, Option.none_or, List.drop_eq_getElem_cons hk, List.find?_cons, hne]
set_option maxHeartbeats 1000000 in
set_option maxRecDepth 100000 in
theorem rnext_any (d : Ds) (v : Value) (key : Bs) (w : World) (hR : RdR w v d) : Calls Tryz.prog 94 #[v, strV key] w (Ret (.tuple #[recV (nextD d key).1, .int .i64 (nextD d key).2]) w) := by
  have HC := hid (fun w' (hb : Below w.heap.size w w') => rcheck_any d v w' (hR.below hb))
  have HB0 := hid ((Below.refl w.heap.size w).alloc (Nat.le_refl _) (.cells #[strV [], strV []] 59))
  have HX := hid (ownc_new w #[strV [], strV []] 59 0 (by decide))
  have HY := hid (ownc_new w #[strV [], strV []] 59 1 (by decide))
  cases hd : isDs d with
  | false =>
    rw [hd] at HC
    have hr : nextD d key = (([], []), 140) := by unfold nextD; rw [hd]; rfl
    rw [hr]
    have HC2 : Hid (∀ w', Below w.heap.size w w' → Calls Tryz.prog 90 #[v] w' (Ret (.int .i64 140) w')) := HC.out
    clear HC hd hr hR
    go_enter Tryz.func94, Tryz.ntmps94
    go_wp2_with fail
    refine (HC2.out _ HB0.out).mono ?_
    rintro e w1 ⟨rfl, hb1⟩
    have HB1 := hid (below_step hb1 HB0.out)
    obtain ⟨⟨u0, x0⟩, f0⟩ := keepOwn hb1 HX.out
    obtain ⟨⟨u1, x1⟩, f1⟩ := keepOwn hb1 HY.out
    have hz := HB1.out.size
    clear hb1
    go_wp2_with fail
    exact bodyPost_ret (v := .tuple #[.agg #[strV [], strV []], .int .i64 140]) (by simp [results, Tryz.results94, go_sem, x0, x1, hz]) rfl ⟨rfl, (HB1.out.setCell (Nat.le_refl _) _).setCell (Nat.le_refl _) _⟩
  | true =>
    rw [hd] at HC
    have HC2 : Hid (∀ w', Below w.heap.size w w' → Calls Tryz.prog 90 #[v] w' (Ret (.int .i64 0) w')) := HC.out
    by_cases hk : key.length ≤ 16
    rotate_left
    · have hr : nextD d key = (([], []), 1) := by unfold nextD; rw [if_pos hd, if_neg hk]
      rw [hr]
      have z1 : decide ((16 : Int) < (key.length : Int)) = true := by simp; omega
      clear HC hd hr hR hk
      go_enter Tryz.func94, Tryz.ntmps94
      go_wp2_with fail
      refine (HC2.out _ HB0.out).mono ?_
      rintro e w1 ⟨rfl, hb1⟩
      have HB1 := hid (below_step hb1 HB0.out)
      obtain ⟨⟨u0, x0⟩, f0⟩ := keepOwn hb1 HX.out
      obtain ⟨⟨u1, x1⟩, f1⟩ := keepOwn hb1 HY.out
      have hz := HB1.out.size
      clear hb1
      go_wp2_with fail
      exact bodyPost_ret (v := .tuple #[.agg #[strV [], strV []], .int .i64 1]) (by simp [results, Tryz.results94, go_sem, x0, x1, hz]) rfl ⟨rfl, (HB1.out.setCell (Nat.le_refl _) _).setCell (Nat.le_refl _) _⟩
    have hl := isDs_len hd
    have HRL := hid (nextD_find hd hk)
    obtain ⟨A, hA⟩ : ∃ A, nextD d key = A := ⟨_, rfl⟩
    rw [hA] at HRL ⊢
    have z1 : decide ((16 : Int) < (key.length : Int)) = false := by simp; omega
    obtain ⟨o, cap, rfl, hcap, hc⟩ := hR
    have HCC := hid hc
    obtain ⟨N, hN⟩ : ∃ N, d.length = N := ⟨_, rfl⟩
    rw [hN] at HC2 hl hcap ⊢
    have HN := hid hN
    clear HC hd hk hA hc hN
    go_enter Tryz.func94, Tryz.ntmps94
    go_wp2_with fail
    refine (HC2.out _ HB0.out).mono ?_
    rintro e w1 ⟨rfl, hb1⟩
    have HB1 := hid (below_step hb1 HB0.out)
    have HX1 := hid (keepOwn hb1 HX.out)
    have HY1 := hid (keepOwn hb1 HY.out)
    clear hb1
    go_wp2_with fail
    go_loopw [6] (fun i wr => ∃ k : Nat, i = .int .i64 k ∧ k ≤ N ∧ Hid (NoGt d key k) ∧ wr = w1) (fun i _ => N - (intOf i).toNat)
    case atStart => exact ⟨0, rfl, Nat.zero_le _, rfl, rfl⟩
    case round =>
      obtain ⟨k, rfl, hk, HT, hw⟩ := hrel
      subst hw
      obtain ⟨⟨u0', x0⟩, f0⟩ := HX1.out
      obtain ⟨⟨u1', x1⟩, f1⟩ := HY1.out
      have hz := HB1.out.size
      by_cases hlt : k < N
      rotate_left
      · have e : A = (([], []), 4) := by
          have h1 := HT.out
          unfold NoGt at h1
          have h2 : k = d.length := by have := HN.out; omega
          rw [h2, List.take_length] at h1
          rw [HRL.out, h1]
        subst e
        go_wp2_with fail
        exact bodyPost_ret (v := .tuple #[.agg #[strV [], strV []], .int .i64 4]) (by simp [results, Tryz.results94, go_sem, x0, x1, hz]) rfl ⟨rfl, (HB1.out.setCell (Nat.le_refl _) _).setCell (Nat.le_refl _) _⟩
      obtain ⟨r, hr⟩ : ∃ r, d[k]? = some r := ⟨_, List.getElem?_eq_getElem (by have := HN.out; omega)⟩
      have hHC := HCC.out
      rcases hHC with hc | ⟨b, off, rfl, hbl, hc⟩
      · rw [hc] at hr; simp at hr
      obtain ⟨c0, c1⟩ := hc k r hr
      have c0 := HB1.out.cell (p := ⟨b, off + k * 2, none⟩) hbl |>.trans c0
      have c1 := HB1.out.cell (p := ⟨b, off + k * 2 + 1, none⟩) hbl |>.trans c1
      have hgt : (!(Op.bytesLess r.1 key || r.1 == key)) = ltB key r.1 := by rw [leq_eq]; simp
      cases hq : ltB key r.1 with
      | true =>
        have e : A = (r, 0) := by rw [HRL.out, noGt_found HT.out hr hq]
        have g1 : Op.bytesLess r.1 key = false := ltB_asymm hq
        have g2 : (r.1 == key) = false := by rw [beq_eq_false_iff_ne]; exact (ne_of_ltB hq).symm
        subst e
        clear hc hr hq hgt
        go_wp2_with fail
        exact bodyPost_ret (v := .tuple #[.agg #[strV r.1, strV r.2], .int .i64 0]) (by simp [results, Tryz.results94, go_sem, x0, x1, hz]) rfl ⟨rfl, (HB1.out.setCell (Nat.le_refl _) _).setCell (Nat.le_refl _) _⟩
      | false =>
        have HT1 := hid (noGt_succ HT.out hr hq)
        rw [hq] at hgt
        have g1 : (Op.bytesLess r.1 key || r.1 == key) = true := by
          cases e : (Op.bytesLess r.1 key || r.1 == key) with
          | true => rfl
          | false => rw [e] at hgt; cases hgt
        have g1' : ¬ Op.bytesLess r.1 key = true → r.1 = key := by
          intro h
          have : Op.bytesLess r.1 key = false := by simpa using h
          rw [this] at g1
          simpa using g1
        by_cases h1 : Op.bytesLess r.1 key = true
        · clear hc hr hq hgt g1 g1'
          go_wp2_with fail
          go_roundw
          case rel => exact ⟨k + 1, by go_num, by omega, HT1, trivial⟩
          case measure => simp [intOf]; omega
        · have h2 := g1' h1
          have h1' : Op.bytesLess r.1 key = false := by simpa using h1
          have g2 : (r.1 == key) = true := by rw [beq_iff_eq]; exact h2
          clear hc hr hq hgt g1 g1' h1 h2
          go_wp2_with fail
          go_roundw
          case rel => exact ⟨k + 1, by go_num, by omega, HT1, trivial⟩
          case measure => simp [intOf]; omega
end Go.Proofs.YtifcgimpgbeocaaGreat
/- The reference's without, there. -/
set_option linter.unusedVariables false
set_option linter.unusedSimpArgs false
namespace Go.Proofs.YtifcgimpgbeocaaGreat
open Go.RowKit
attribute [local go_sem] Oper.semAt_some
/-- A record laid in a block of its own reads as a row of one. -/
theorem laid_one (w : World) (r : Rec) : ∀ j u, (encR [r])[j]? = some u → (w.alloc (.cells #[strV r.1, strV r.2] 59)).cell? ⟨w.heap.size, j, none⟩ = some u := fun j u hj => by
  match j, hj with
  | 0, hj => simp only [encR_cons, List.cons_append, List.getElem?_cons_zero, Option.some.injEq] at hj; rw [← hj]; exact cell_new _ _ _ 0 _ rfl
  | 1, hj => simp only [encR_cons, List.cons_append, List.getElem?_cons_zero, List.getElem?_cons_succ, Option.some.injEq] at hj; rw [← hj]; exact cell_new _ _ _ 1 _ rfl
  | j + 2, hj => simp [encR_cons, encR_nil] at hj
set_option maxHeartbeats 1000000 in
set_option maxRecDepth 100000 in
theorem rwithout_any (d : Ds) (v : Value) (key : Bs) (w : World) (hR : RdR w v d) (hl : d.length ≤ 64) : Calls Tryz.prog 95 #[v, strV key] w (OwnR (withoutR d key) w) := by
  have hwo : withoutR d key = d.filter (fun r => r.1 != key) := rfl
  rw [hwo]
  obtain ⟨o, cap, rfl, hcap, hc⟩ := hR
  have HCC := hid hc
  obtain ⟨N, hN⟩ : ∃ N, d.length = N := ⟨_, rfl⟩
  rw [hN] at hl hcap ⊢
  have HN := hid hN
  clear hc hN hwo
  obtain ⟨B, hBB⟩ : ∃ B, w.heap.size = B := ⟨_, rfl⟩
  have HBB := hid hBB
  have HO0 := hid (oR_new w B (by omega))
  have HB0 := hid ((Below.refl w.heap.size w).alloc (Nat.le_refl _) (.cells #[] 59))
  clear hBB
  go_enter Tryz.func95, Tryz.ntmps95
  go_wp2_with fail
  go_loopw [5, 6] (fun u i wr => ∃ k : Nat, i = .int .i64 k ∧ k ≤ N ∧ Hid (OR wr B u ((d.take k).filter (fun r => r.1 != key))) ∧ Hid (Below B w wr) ∧ B ≤ wr.heap.size) (fun _ i _ => N - (intOf i).toNat)
  case atStart => exact ⟨0, rfl, Nat.zero_le _, HO0, by have := HB0.out; rw [HBB.out] at this; exact this, by have := HBB.out; simp; omega⟩
  case round =>
    obtain ⟨k, rfl, hk, HO, HB, hz⟩ := hrel
    by_cases hlt : k < N
    rotate_left
    · have e : d.take k = d := List.take_of_length_le (by have := HN.out; omega)
      have hO := HO.out
      rw [e] at hO
      have HO2 := hid hO
      clear e hO
      go_wp2_with fail
      go_ret
      exact ⟨_, rfl, by rw [HBB.out]; exact HO2.out, by rw [HBB.out]; exact HB.out⟩
    obtain ⟨r, hr⟩ : ∃ r, d[k]? = some r := ⟨_, List.getElem?_eq_getElem (by have := HN.out; omega)⟩
    have hHC := HCC.out
    rcases hHC with hc | ⟨b1, off, rfl, hbl, hc⟩
    · rw [hc] at hr; simp at hr
    obtain ⟨c0, c1⟩ := hc k r hr
    have hbB : b1 < B := by have := HBB.out; omega
    have c0 := keepB HB.out (a := ⟨b1, off + k * 2, none⟩) hbB c0
    have c1 := keepB HB.out (a := ⟨b1, off + k * 2 + 1, none⟩) hbB c1
    have HF := hid (filter_succ hr (fun r => r.1 != key))
    by_cases hq : r.1 = key
    · have g1 : (r.1 == key) = true := by rw [beq_iff_eq]; exact hq
      have g2 : (r.1 != key) = false := by simp [hq]
      have HO2 : Hid (OR wr B u5 ((d.take (k + 1)).filter (fun r => r.1 != key))) := by unfold Hid; rw [HF.out, g2, if_neg (by simp), List.append_nil]; exact HO.out
      clear hc hr HF hq
      go_wp2_with fail
      go_roundw
      case rel => exact ⟨k + 1, by go_num, by omega, HO2, HB, hz⟩
      case measure => simp [intOf]; omega
    · have g1 : (r.1 == key) = false := by rw [beq_eq_false_iff_ne]; exact hq
      have g2 : (r.1 != key) = true := by simpa using hq
      have HF2 : Hid ((d.take (k + 1)).filter (fun r => r.1 != key) = (d.take k).filter (fun r => r.1 != key) ++ [r]) := by unfold Hid; rw [HF.out, g2, if_pos rfl]
      have HLF := hid (show ((d.take k).filter (fun r => r.1 != key)).length ≤ 1000000 by
        have := List.length_filter_le (fun r : Rec => r.1 != key) (d.take k)
        have := List.length_take_le k d
        omega)
      have HY1 := hid (laid_one wr r)
      have HO3 := hid (HO.out.below ((Below.refl _ _).alloc (Nat.le_refl _) (.cells #[strV r.1, strV r.2] 59)))
      have HB3 := hid (HB.out.alloc hz (.cells #[strV r.1, strV r.2] 59))
      have HZ3 := hid (show B ≤ (wr.alloc (.cells #[strV r.1, strV r.2] 59)).heap.size by simp; omega)
      clear hc hr HF hq
      go_wp2_with (at_builtin; refine appR rfl _ _ rfl B _ ((d.take k).filter (fun r => r.1 != key)) r _ _ rfl rfl HO3.out HY1.out HLF.out HZ3.out ?_)
      intro v7 w7 hop7 hg7
      have HB7 := hid (HO3.out.grown HB3.out hg7 HZ3.out)
      have hz7 : B ≤ w7.heap.size := by have := hg7.size; simp at this; omega
      have HO7 : Hid (OR w7 B v7 ((d.take (k + 1)).filter (fun r => r.1 != key))) := by unfold Hid; rw [HF2.out]; exact hop7
      clear hop7 hg7
      go_wp2_with fail
      go_roundw
      case rel => exact ⟨k + 1, by go_num, by omega, HO7, HB7, hz7⟩
      case measure => simp [intOf]; omega
theorem rthere_any (d : Ds) (v : Value) (key : Bs) (w : World) (hR : RdR w v d) (hd : isDs d = true) : Calls Tryz.prog 116 #[v, strV key] w (Ret (.bool (hasD d key)) w) := by
  have HW := hid (rwithout_any d v key w hR (isDs_len hd))
  have ht := there_iff (k := key) (isDs_sorted hd)
  rw [← ht]
  obtain ⟨o, cap, rfl, -, -⟩ := hR
  obtain ⟨N, hN⟩ : ∃ N, d.length = N := ⟨_, rfl⟩
  obtain ⟨M, hM⟩ : ∃ M, withoutR d key = M := ⟨_, rfl⟩
  rw [hN, hM] at HW ⊢
  clear ht hN hM hd
  go_enter Tryz.func116, Tryz.ntmps116
  go_wp2_with fail
  refine (HW.out).mono ?_
  rintro e w1 ⟨u1, rfl, ho1, hb1⟩
  obtain ⟨o1, cap1, rfl, -, -⟩ := ho1.rd
  have HB1 := hid hb1
  clear hb1 ho1
  go_wp2_with fail
  go_ret
  exact ⟨ret_bool (decide_eq_decide.2 (by omega)), HB1.out⟩
end Go.Proofs.YtifcgimpgbeocaaGreat
/- The reference's with. -/
set_option linter.unusedVariables false
set_option linter.unusedSimpArgs false
namespace Go.Proofs.YtifcgimpgbeocaaGreat
open Go.RowKit
attribute [local go_sem] Oper.semAt_some
theorem gtr_eq (a b : Bs) : (!(Op.bytesLess a b || a == b)) = ltB b a := by rw [leq_eq]; simp
theorem gtr_yes {a b : Bs} (h : ltB b a = true) : Op.bytesLess a b = false ∧ (a == b) = false := ⟨ltB_asymm h, by rw [beq_eq_false_iff_ne]; exact (ne_of_ltB h).symm⟩
theorem le_cases {a b : Bs} (h : ltB b a = false) : (Op.bytesLess a b = true ∧ True) ∨ (Op.bytesLess a b = false ∧ (a == b) = true) := by
  cases e : ltB a b with
  | true => exact .inl ⟨e, trivial⟩
  | false => exact .inr ⟨e, by rw [beq_iff_eq]; exact ltB_tri e h⟩
set_option maxHeartbeats 2000000 in
set_option maxRecDepth 100000 in
theorem rwith_any (d : Ds) (v : Value) (x : Rec) (w : World) (hR : RdR w v d) (hl : d.length ≤ 64) : Calls Tryz.prog 117 #[v, recV x] w (OwnR (withR d x) w) := by
  have hwo : withR d x = d.filter (fun y => ltB y.1 x.1) ++ [x] ++ d.filter (fun y => ltB x.1 y.1) := rfl
  rw [hwo]
  obtain ⟨o, cap, rfl, hcap, hc⟩ := hR
  have HCC := hid hc
  obtain ⟨N, hN⟩ : ∃ N, d.length = N := ⟨_, rfl⟩
  rw [hN] at hl hcap ⊢
  have HN := hid hN
  clear hc hN hwo
  obtain ⟨B, hBB⟩ : ∃ B, w.heap.size = B := ⟨_, rfl⟩
  have HBB := hid hBB
  have HX0 := hid (cell_new w #[strV x.1, strV x.2] 59 0 (strV x.1) rfl)
  have HX1 := hid (cell_new w #[strV x.1, strV x.2] 59 1 (strV x.2) rfl)
  have HB0 := hid ((Below.refl w.heap.size w).alloc (Nat.le_refl _) (.cells #[strV x.1, strV x.2] 59))
  have hO0 := oR_new (w.alloc (.cells #[strV x.1, strV x.2] 59)) (B + 1) (by rw [World.size_alloc]; omega)
  rw [World.size_alloc, hBB] at hO0
  have HO0 := hid hO0
  clear hO0
  have HB0' := hid (HB0.out.alloc HB0.out.size (.cells #[] 59))
  have HX0' := hid (Lib.cell?_alloc_some (.cells #[] 59) HX0.out)
  have HX1' := hid (Lib.cell?_alloc_some (.cells #[] 59) HX1.out)
  have HS0 := hid (show B + 1 ≤ ((w.alloc (.cells #[strV x.1, strV x.2] 59)).alloc (.cells #[] 59)).heap.size by simp; omega)
  rw [hBB] at HB0' HX0' HX1'
  clear HX0 HX1
  go_enter Tryz.func117, Tryz.ntmps117
  go_wp2_with fail
  try simp only [hBB]
  clear hBB
  go_loopw [5, 6] (fun u i wr => ∃ k : Nat, i = .int .i64 k ∧ k ≤ N ∧ Hid (OR wr (B + 1) u ((d.take k).filter (fun y => ltB y.1 x.1))) ∧ Hid (Below B w wr) ∧ B + 1 ≤ wr.heap.size ∧ wr.cell? ⟨B, 0, none⟩ = some (strV x.1) ∧ wr.cell? ⟨B, 1, none⟩ = some (strV x.2)) (fun _ i _ => N - (intOf i).toNat)
  case atStart => exact ⟨0, rfl, Nat.zero_le _, HO0, HB0', HS0.out, HX0'.out, HX1'.out⟩
  case round =>
    obtain ⟨k, rfl, hk, HO, HB, hz, x0, x1⟩ := hrel
    by_cases hlt : k < N
    rotate_left
    · have e : d.take k = d := List.take_of_length_le (by have := HN.out; omega)
      have hO := HO.out
      rw [e] at hO
      have HO2 := hid hO
      clear e hO HO
      have HLF := hid (show (d.filter (fun y => ltB y.1 x.1)).length ≤ 1000000 by
        have := List.length_filter_le (fun y : Rec => ltB y.1 x.1) d
        have := HN.out
        omega)
      have HY1 := hid (laid_one wr x)
      have HO3 := hid (HO2.out.below ((Below.refl _ _).alloc (Nat.le_refl _) (.cells #[strV x.1, strV x.2] 59)))
      have HB3 := hid ((HB.out.mono (Nat.le_refl _)).alloc (by omega) (.cells #[strV x.1, strV x.2] 59))
      have HZ3 := hid (show B + 1 ≤ (wr.alloc (.cells #[strV x.1, strV x.2] 59)).heap.size by simp; omega)
      go_wp2_with (at_builtin; refine appR rfl _ _ rfl (B + 1) _ (d.filter (fun y => ltB y.1 x.1)) x _ _ rfl rfl HO3.out HY1.out HLF.out HZ3.out ?_)
      intro v7 w7 hop7 hg7
      have HB7 := hid (HB3.out.grown hg7 (by simp; omega) (fun k hk => by have := HO3.out.own k hk; omega))
      have hz7 : B + 1 ≤ w7.heap.size := by have := hg7.size; simp at this; omega
      have hneB : some B ≠ v7.ownBlock := fun e => by have := (World.ownsRow.lt hop7 _ e.symm).1; omega
      have x0 : w7.cell? ⟨B, 0, none⟩ = some (strV x.1) := hg7.cell (Lib.cell?_alloc_some _ x0) (fun e => by have := (World.ownsRow.lt HO3.out _ e.symm).1; simp only at this; omega)
      have HO7 : Hid (OR w7 (B + 1) v7 (d.filter (fun y => ltB y.1 x.1) ++ [x] ++ (d.take 0).filter (fun y => ltB x.1 y.1))) := by unfold Hid; rw [List.take_zero, List.filter_nil, List.append_nil]; exact hop7
      clear hop7 hg7 hneB HO3 HB3 HZ3 HY1 HO2 HLF x1
      go_wp2_with fail
      go_loopw [5, 7] (fun u i wr => ∃ k : Nat, i = .int .i64 k ∧ k ≤ N ∧ Hid (OR wr (B + 1) u (d.filter (fun y => ltB y.1 x.1) ++ [x] ++ (d.take k).filter (fun y => ltB x.1 y.1))) ∧ Hid (Below B w wr) ∧ B + 1 ≤ wr.heap.size ∧ wr.cell? ⟨B, 0, none⟩ = some (strV x.1)) (fun _ i _ => N - (intOf i).toNat)
      case atStart => exact ⟨0, rfl, Nat.zero_le _, HO7, HB7, hz7, x0⟩
      case round =>
        clear HO7 HB7 hz7 x0 HB hz
        obtain ⟨j, rfl, hj, HO, HB, hz, x0⟩ := hrel
        by_cases hlt2 : j < N
        rotate_left
        · have e : d.take j = d := List.take_of_length_le (by have := HN.out; omega)
          have hO := HO.out
          rw [e] at hO
          have HO2 := hid (hO.mono (B' := B) (by omega))
          clear e hO
          go_wp2_with fail
          go_ret
          exact ⟨_, rfl, by rw [HBB.out]; exact HO2.out, by rw [HBB.out]; exact HB.out⟩
        obtain ⟨r, hr⟩ : ∃ r, d[j]? = some r := ⟨_, List.getElem?_eq_getElem (by have := HN.out; omega)⟩
        have hHC := HCC.out
        rcases hHC with hc | ⟨b1, off, rfl, hbl, hc⟩
        · rw [hc] at hr; simp at hr
        obtain ⟨c0, c1⟩ := hc j r hr
        have hbB : b1 < B := by have := HBB.out; omega
        have c0 := keepB HB.out (a := ⟨b1, off + j * 2, none⟩) hbB c0
        have c1 := keepB HB.out (a := ⟨b1, off + j * 2 + 1, none⟩) hbB c1
        have HF := hid (filter_succ hr (fun y => ltB x.1 y.1))
        have HBD := hid (fun n => below_drewN HB.out n)
        have HOD := hid (fun n => HO.out.below (below_drewN (Below.refl _ _) n))
        have hgt := gtr_eq r.1 x.1
        cases hq : ltB x.1 r.1 with
        | true =>
          obtain ⟨g1, g2⟩ := gtr_yes (a := r.1) (b := x.1) hq
          have HF2 : Hid ((d.take (j + 1)).filter (fun y => ltB x.1 y.1) = (d.take j).filter (fun y => ltB x.1 y.1) ++ [r]) := by unfold Hid; rw [HF.out]; simp only [hq, if_true]
          have HLF := hid (show (d.filter (fun y => ltB y.1 x.1) ++ [x] ++ (d.take j).filter (fun y => ltB x.1 y.1)).length ≤ 1000000 by
            have := List.length_filter_le (fun y => ltB x.1 y.1) (d.take j)
            have := List.length_filter_le (fun y : Rec => ltB y.1 x.1) d
            have := List.length_take_le j d
            have := HN.out
            try simp only [List.length_append, List.length_cons, List.length_nil]
            omega)
          clear hc hr HF hq
          go_wp2_with fail
          go_quiet (fail)
          obtain ⟨W1, hW1⟩ : ∃ W1, wr.drewN nq = W1 := ⟨_, rfl⟩
          have HO1 : Hid (OR W1 (B + 1) u5 (d.filter (fun y => ltB y.1 x.1) ++ [x] ++ (d.take j).filter (fun y => ltB x.1 y.1))) := by rw [← hW1]; exact HOD.out nq
          have HB1 : Hid (Below B w W1) := by rw [← hW1]; exact HBD.out nq
          have hz1 : B + 1 ≤ W1.heap.size := by rw [← hW1]; exact hz
          have x0w : W1.cell? ⟨B, 0, none⟩ = some (strV x.1) := by rw [← hW1]; exact x0

          have c0 : W1.cell? ⟨b1, off + j * 2, none⟩ = some (strV r.1) := by rw [← hW1]; exact c0
          have c1 : W1.cell? ⟨b1, off + j * 2 + 1, none⟩ = some (strV r.2) := by rw [← hW1]; exact c1
          rw [hW1]
          clear hW1 HOD HBD
          have HY1 := hid (laid_one W1 r)
          have HO3 := hid (HO1.out.below ((Below.refl _ _).alloc (Nat.le_refl _) (.cells #[strV r.1, strV r.2] 59)))
          have HB3 := hid (HB1.out.alloc (by omega) (.cells #[strV r.1, strV r.2] 59))
          have HZ3 := hid (show B + 1 ≤ (W1.alloc (.cells #[strV r.1, strV r.2] 59)).heap.size by simp; omega)
          go_wp2_with (at_builtin; refine appR rfl _ _ rfl (B + 1) _ (d.filter (fun y => ltB y.1 x.1) ++ [x] ++ (d.take j).filter (fun y => ltB x.1 y.1)) r _ _ rfl rfl HO3.out HY1.out HLF.out HZ3.out ?_)
          intro v7 w7 hop7 hg7
          have HB7 := hid (HB3.out.grown hg7 (by simp; omega) (fun k hk => by have := HO3.out.own k hk; omega))
          have hz7 : B + 1 ≤ w7.heap.size := by have := hg7.size; simp at this; omega
          have x0z : w7.cell? ⟨B, 0, none⟩ = some (strV x.1) := hg7.cell (Lib.cell?_alloc_some _ x0w) (fun e => by have := (World.ownsRow.lt HO3.out _ e.symm).1; simp only at this; omega)

          have HO7 : Hid (OR w7 (B + 1) v7 (d.filter (fun y => ltB y.1 x.1) ++ [x] ++ (d.take (j + 1)).filter (fun y => ltB x.1 y.1))) := by unfold Hid; rw [HF2.out]; simpa only [List.append_assoc, List.cons_append, List.nil_append] using hop7
          clear hop7 hg7
          go_wp2_with fail
          go_roundw
          case rel => exact ⟨j + 1, by go_num, by omega, HO7, HB7, hz7, x0z⟩
          case measure => simp [intOf]; omega
        | false =>
          have hle := hq
          have HF2 : Hid ((d.take (j + 1)).filter (fun y => ltB x.1 y.1) = (d.take j).filter (fun y => ltB x.1 y.1)) := by unfold Hid; rw [HF.out]; simp only [hq, Bool.false_eq_true, if_false, List.append_nil]
          clear hc hr HF hq
          rcases le_cases hle with ⟨g1, -⟩ | ⟨g1, g2⟩
          all_goals
            go_wp2_with fail
            go_quiet (fail)
            go_wp2_with fail
            go_roundw
            case rel => exact ⟨j + 1, by go_num, by omega, by unfold Hid; rw [HF2.out]; exact HOD.out _, HBD.out _, hz, x0⟩
            case measure => simp [intOf]; omega
    obtain ⟨r, hr⟩ : ∃ r, d[k]? = some r := ⟨_, List.getElem?_eq_getElem (by have := HN.out; omega)⟩
    have hHC := HCC.out
    rcases hHC with hc | ⟨b1, off, rfl, hbl, hc⟩
    · rw [hc] at hr; simp at hr
    obtain ⟨c0, c1⟩ := hc k r hr
    have hbB : b1 < B := by have := HBB.out; omega
    have c0 := keepB HB.out (a := ⟨b1, off + k * 2, none⟩) hbB c0
    have c1 := keepB HB.out (a := ⟨b1, off + k * 2 + 1, none⟩) hbB c1
    have HF := hid (filter_succ hr (fun y => ltB y.1 x.1))
    have HBD := hid (fun n => below_drewN HB.out n)
    have HOD := hid (fun n => HO.out.below (below_drewN (Below.refl _ _) n))
    cases hq : ltB r.1 x.1 with
    | true =>
      have g1 : Op.bytesLess r.1 x.1 = true := hq
      have HF2 : Hid ((d.take (k + 1)).filter (fun y => ltB y.1 x.1) = (d.take k).filter (fun y => ltB y.1 x.1) ++ [r]) := by unfold Hid; rw [HF.out]; simp only [hq, if_true]
      have HLF := hid (show ((d.take k).filter (fun y => ltB y.1 x.1)).length ≤ 1000000 by
        have := List.length_filter_le (fun y => ltB y.1 x.1) (d.take k)
        have := List.length_filter_le (fun y : Rec => ltB y.1 x.1) d
        have := List.length_take_le k d
        have := HN.out
        try simp only [List.length_append, List.length_cons, List.length_nil]
        omega)
      clear hc hr HF hq
      go_wp2_with fail
      go_quiet (fail)
      obtain ⟨W1, hW1⟩ : ∃ W1, wr.drewN nq = W1 := ⟨_, rfl⟩
      have HO1 : Hid (OR W1 (B + 1) u5 ((d.take k).filter (fun y => ltB y.1 x.1))) := by rw [← hW1]; exact HOD.out nq
      have HB1 : Hid (Below B w W1) := by rw [← hW1]; exact HBD.out nq
      have hz1 : B + 1 ≤ W1.heap.size := by rw [← hW1]; exact hz
      have x0w : W1.cell? ⟨B, 0, none⟩ = some (strV x.1) := by rw [← hW1]; exact x0
      have x1w : W1.cell? ⟨B, 1, none⟩ = some (strV x.2) := by rw [← hW1]; exact x1
      have c0 : W1.cell? ⟨b1, off + k * 2, none⟩ = some (strV r.1) := by rw [← hW1]; exact c0
      have c1 : W1.cell? ⟨b1, off + k * 2 + 1, none⟩ = some (strV r.2) := by rw [← hW1]; exact c1
      rw [hW1]
      clear hW1 HOD HBD
      have HY1 := hid (laid_one W1 r)
      have HO3 := hid (HO1.out.below ((Below.refl _ _).alloc (Nat.le_refl _) (.cells #[strV r.1, strV r.2] 59)))
      have HB3 := hid (HB1.out.alloc (by omega) (.cells #[strV r.1, strV r.2] 59))
      have HZ3 := hid (show B + 1 ≤ (W1.alloc (.cells #[strV r.1, strV r.2] 59)).heap.size by simp; omega)
      go_wp2_with (at_builtin; refine appR rfl _ _ rfl (B + 1) _ ((d.take k).filter (fun y => ltB y.1 x.1)) r _ _ rfl rfl HO3.out HY1.out HLF.out HZ3.out ?_)
      intro v7 w7 hop7 hg7
      have HB7 := hid (HB3.out.grown hg7 (by simp; omega) (fun k hk => by have := HO3.out.own k hk; omega))
      have hz7 : B + 1 ≤ w7.heap.size := by have := hg7.size; simp at this; omega
      have x0z : w7.cell? ⟨B, 0, none⟩ = some (strV x.1) := hg7.cell (Lib.cell?_alloc_some _ x0w) (fun e => by have := (World.ownsRow.lt HO3.out _ e.symm).1; simp only at this; omega)
      have x1z : w7.cell? ⟨B, 1, none⟩ = some (strV x.2) := hg7.cell (Lib.cell?_alloc_some _ x1w) (fun e => by have := (World.ownsRow.lt HO3.out _ e.symm).1; simp only at this; omega)
      have HO7 : Hid (OR w7 (B + 1) v7 ((d.take (k + 1)).filter (fun y => ltB y.1 x.1))) := by unfold Hid; rw [HF2.out]; simpa only [List.append_assoc, List.cons_append, List.nil_append] using hop7
      clear hop7 hg7
      go_wp2_with fail
      go_roundw
      case rel => exact ⟨k + 1, by go_num, by omega, HO7, HB7, hz7, x0z, x1z⟩
      case measure => simp [intOf]; omega
    | false =>
      have g1 : Op.bytesLess r.1 x.1 = false := hq
      have HF2 : Hid ((d.take (k + 1)).filter (fun y => ltB y.1 x.1) = (d.take k).filter (fun y => ltB y.1 x.1)) := by unfold Hid; rw [HF.out]; simp only [hq, Bool.false_eq_true, if_false, List.append_nil]
      clear hc hr HF hq
      go_wp2_with fail
      go_quiet (fail)
      go_wp2_with fail
      go_roundw
      case rel => exact ⟨k + 1, by go_num, by omega, by unfold Hid; rw [HF2.out]; exact HOD.out _, HBD.out _, hz, x0, x1⟩
      case measure => simp [intOf]; omega
end Go.Proofs.YtifcgimpgbeocaaGreat
