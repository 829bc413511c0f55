/- An act of a store's drive. -/
import Derived.Test.YtifcgimpgbeocaaK6
import Derived.Test.YtifcgimpgbeocaaK10
import Derived.Test.YtifcgimpgbeocaaK1
import Derived.Test.YtifcgimpgbeocaaK3
import Derived.Test.YtifcgimpgbeocaaK5
import Derived.Test.YtifcgimpgbeocaaK7
set_option linter.unusedVariables false
set_option linter.unusedSimpArgs false
namespace Go.Proofs.Ytifcgimpgbeocaa
open Go.RowKit
variable {w : World} {U : Nat → Prop} {S D : Nat} {vp vq va vw vd vk : Value} {us ks : List Value} {st : St}
theorem SA.put (h : SA w U S D vp vq va vw vd vk us ks st) {a : Ac} {w' : World} {vp' vq' va' : Value} (hda : DA w' D vp' vq' va' (actDk st.dk a) (st.acts ++ [a])) (hf : Frm (FD D va) w w') (hvp : ∀ k, vp'.ownBlock = some k → w.heap.size ≤ k ∧ k < w'.heap.size ∧ va'.ownBlock ≠ some k) (hvq : ∀ k, vq'.ownBlock = some k → w.heap.size ≤ k ∧ k < w'.heap.size ∧ va'.ownBlock ≠ some k)
    (hva : va'.ownBlock = va.ownBlock ∨ ∃ k, va'.ownBlock = some k ∧ w.heap.size ≤ k) :
    SA w' (fun k => (U k ∨ w.heap.size ≤ k) ∧ k < w'.heap.size) S D vp' vq' va' vw vd vk us ks { st with dk := actDk st.dk a, acts := st.acts ++ [a] } := by
  have hvaU : ∀ k, va.ownBlock = some k → U k := fun k hk => h.uF k (.inr (.inr (.inl hk)))
  have hDU : U D := h.uF D (.inr (.inl rfl))
  have hSU : U S := h.uF S (.inl rfl)
  have hSl := h.ult S hSU
  have hDl := h.ult D hDU
  have hSF : ¬ FD D va S := fun hf => by
    rcases hf with hf | hf
    · exact h.sd hf
    · exact (h.no va (.inl rfl)).1 hf
  have hblk : ∀ k, k < w.heap.size → ¬ FD D va k → w'.heap[k]? = w.heap[k]? := fun k h1 h2 => hf.block k h1 h2
  have hS := hblk S hSl hSF
  have hR : ∀ x, x ∈ vk :: (us ++ ks) → ∀ k, x.ownBlock = some k → U k ∧ ¬ FSt S D va vw vd k := fun x hx k hk => h.uR x (by simp only [List.mem_cons] at hx ⊢; rcases hx with hx | hx; exact .inr (.inr (.inl hx)); exact .inr (.inr (.inr hx))) k hk
  have hRF : ∀ x, x ∈ vk :: (us ++ ks) → ∀ k, x.ownBlock = some k → w'.heap[k]? = w.heap[k]? := fun x hx k hk => hblk k (h.ult k (hR x hx k hk).1) (fun hf => by
    rcases hf with hf | hf
    · exact (hR x hx k hk).2 (.inr (.inl hf))
    · exact (hR x hx k hk).2 (.inr (.inr (.inl hf))))
  have hrow : ∀ {e s n : Nat} {v : Value} {xs : List Value}, w.ownsRow 0 e s v n xs → e ≠ 104 → v.ownBlock ≠ some D → ∀ k, v.ownBlock = some k → w'.heap[k]? = w.heap[k]? := fun {e s n v xs} hr he hD k hk => hblk k (World.ownsRow.lt hr k hk).2 (fun hf => by
    rcases hf with hf | hf
    · exact hD (by rw [hk, hf])
    · rcases rows_apart hr h.dv.oa he with h1 | h1
      · rw [h1] at hk; cases hk
      · exact h1 (by rw [hk, hf]))
  have hw := hrow h.ow (by decide) (h.no vw (.inr (.inl rfl))).2
  have hd := hrow h.od (by decide) (h.no vd (.inr (.inr rfl))).2
  have hva' : ∀ k, va'.ownBlock = some k → (va.ownBlock = some k) ∨ w.heap.size ≤ k := fun k hk => by
    rcases hva with h1 | ⟨j, h1, h2⟩
    · exact .inl (by rw [← h1]; exact hk)
    · rw [h1] at hk; cases hk; exact .inr h2
  refine ⟨fun k hk => hk.2, ?_, ?_, h.sd, ?_, cell_at hS h.s0, cell_at hS h.s1, cell_at hS h.s2, cell_at hS h.s3, cell_at hS h.s4, cell_at hS h.s5, cell_at hS h.s6, cell_at hS h.s7, cell_at hS h.s8, fun j => (frozen_at hS).trans (h.fz j), hda, ownsRow_of_block h.ow hw, ownsRow_of_block h.od hd, h.ul,
    fun i u d hu hd => ownsRow_of_block (h.ur i u d hu hd) (hRF u (by have := List.mem_of_getElem? hu; simp [this])), ownsRow_of_block h.ok (hRF vk (by simp)), h.kl, fun i u d hu hd => ownsRow_of_block (h.kr i u d hu hd) (hRF u (by have := List.mem_of_getElem? hu; simp [this]))⟩
  · intro k hk
    have hz := hf.size
    rcases hk with rfl | rfl | hk | hk | hk
    · exact ⟨.inl hSU, by omega⟩
    · exact ⟨.inl hDU, by omega⟩
    · refine ⟨?_, (World.ownsRow.lt hda.oa k hk).2⟩
      rcases hva' k hk with h1 | h1
      · exact .inl (hvaU k h1)
      · exact .inr h1
    · have := h.uF k (.inr (.inr (.inr (.inl hk)))); exact ⟨.inl this, by have := h.ult k this; omega⟩
    · have := h.uF k (.inr (.inr (.inr (.inr hk)))); exact ⟨.inl this, by have := h.ult k this; omega⟩
  · intro x hx k hk
    have hz := hf.size
    have hnew : w.heap.size ≤ k → k < w'.heap.size → (∀ j, va'.ownBlock = some j → j ≠ k) → ((U k ∨ w.heap.size ≤ k) ∧ k < w'.heap.size) ∧ ¬ FSt S D va' vw vd k := fun h1 h2 h3 => by
      refine ⟨⟨.inr h1, h2⟩, fun hf => ?_⟩
      rcases hf with hf | hf | hf | hf | hf
      · omega
      · omega
      · exact h3 k hf rfl
      · have := h.ult k (h.uF k (.inr (.inr (.inr (.inl hf))))); omega
      · have := h.ult k (h.uF k (.inr (.inr (.inr (.inr hf))))); omega
    simp only [List.mem_cons] at hx
    rcases hx with rfl | rfl | hx
    · obtain ⟨h1, h2, h3⟩ := hvp k hk
      exact hnew h1 h2 (fun j hj e => h3 (by rw [hj, e]))
    · obtain ⟨h1, h2, h3⟩ := hvq k hk
      exact hnew h1 h2 (fun j hj e => h3 (by rw [hj, e]))
    · have h1 := hR x (by simpa using hx) k hk
      have h2 := h.ult k h1.1
      refine ⟨⟨.inl h1.1, by omega⟩, fun hf => ?_⟩
      rcases hf with hf | hf | hf | hf | hf
      · exact h1.2 (.inl hf)
      · exact h1.2 (.inr (.inl hf))
      · rcases hva' k hf with h3 | h3
        · exact h1.2 (.inr (.inr (.inl h3)))
        · omega
      · exact h1.2 (.inr (.inr (.inr (.inl hf))))
      · exact h1.2 (.inr (.inr (.inr (.inr hf))))
  · rintro x (rfl | rfl | rfl)
    · refine ⟨fun e => ?_, fun e => ?_⟩
      · rcases hva' S e with h1 | h1
        · exact (h.no va (.inl rfl)).1 h1
        · omega
      · exact hda.na e
    · exact h.no x (.inr (.inl rfl))
    · exact h.no x (.inr (.inr rfl))
end Go.Proofs.Ytifcgimpgbeocaa
/- A store since some world: acts of its drive. -/
set_option linter.unusedVariables false
set_option linter.unusedSimpArgs false
namespace Go.Proofs.Ytifcgimpgbeocaa
open Go.RowKit
/-- The store since w0: what has turned lay in its own memory (U0), or is newer than w0. -/
def SD (w0 : World) (U0 : Nat → Prop) (S D : Nat) (vw vd vk : Value) (us ks : List Value) (st : St) (w : World) : Prop :=
  ∃ vp vq va U, SA w U S D vp vq va vw vd vk us ks st ∧ Frm U0 w0 w ∧ ∀ k, U k → U0 k ∨ w0.heap.size ≤ k
variable {w0 w w' : World} {U0 : Nat → Prop} {S D : Nat} {vw vd vk : Value} {us ks : List Value} {st : St}
theorem SD.start {vp vq va : Value} (h : SA w0 U0 S D vp vq va vw vd vk us ks st) : SD w0 U0 S D vw vd vk us ks st w0 := ⟨vp, vq, va, U0, h, Frm.refl _ _, fun k hk => .inl hk⟩
theorem SD.below (h : SD w0 U0 S D vw vd vk us ks st w) (hb : Below w.heap.size w w') : SD w0 U0 S D vw vd vk us ks st w' := by
  obtain ⟨vp, vq, va, U, h, hf, hu⟩ := h
  exact ⟨vp, vq, va, U, h.below hb, hf.trans (Frm.of_below (F := U0) hb) (fun i _ h => h), hu⟩
theorem SD.drew (h : SD w0 U0 S D vw vd vk us ks st w) : SD w0 U0 S D vw vd vk us ks st w.drew := h.below (drew_below w)
theorem SD.post (h : SD w0 U0 S D vw vd vk us ks st w) (v : Value) : StPost U0 S v st w0 (.returned v) w := by
  obtain ⟨vp, vq, va, U, h, hf, hu⟩ := h
  exact ⟨rfl, U, ⟨D, vp, vq, va, vw, vd, vk, us, ks, h⟩, hf, hu⟩
theorem SD.cells (h : SD w0 U0 S D vw vd vk us ks st w) : w.cell? ⟨S, 0, none⟩ = some (.pointer (some ⟨D, 0, none⟩)) ∧ ∃ op cp oq cq, w.cell? ⟨D, 0, none⟩ = some (.slice op st.dk.1.length cp) ∧ w.cell? ⟨D, 1, none⟩ = some (.slice oq st.dk.2.length cq) := by
  obtain ⟨vp, vq, va, U, h, hf, hu⟩ := h
  obtain ⟨op, cp, e1, -⟩ := h.dv.rp
  obtain ⟨oq, cq, e2, -⟩ := h.dv.rq
  exact ⟨h.s0, op, cp, oq, cq, by rw [← e1]; exact h.dv.c0, by rw [← e2]; exact h.dv.c1⟩
theorem SD.size (h : SD w0 U0 S D vw vd vk us ks st w) : w0.heap.size ≤ w.heap.size := by obtain ⟨vp, vq, va, U, h, hf, hu⟩ := h; exact hf.size
/-- An act. -/
theorem sput_any (a : Ac) (h : SD w0 U0 S D vw vd vk us ks st w) (hd : isDk st.dk = true) (hl : st.dk.2.length ≤ 1000000) (ha : st.acts.length ≤ 1000000) :
    Calls Try.prog 108 #[.pointer (some ⟨D, 0, none⟩), acV a] w (fun e w' => e = .returned (.tuple #[]) ∧ SD w0 U0 S D vw vd vk us ks (actSt st a) w') := by
  obtain ⟨vp, vq, va, U, h, hf, hu⟩ := h
  refine (put_any D vp vq va st.dk st.acts a w h.dv hd hl ha).mono ?_
  rintro e w' ⟨rfl, vp', vq', va', hda, hfr, hvp, hvq, hva⟩
  refine ⟨rfl, vp', vq', va', _, h.put hda hfr hvp hvq hva, hf.trans hfr ?_, ?_⟩
  · rintro i hi (hk | hk)
    · exact (hu i (h.uF i (.inr (.inl hk)))).elim id (fun h => by omega)
    · exact (hu i (h.uF i (.inr (.inr (.inl hk))))).elim id (fun h => by omega)
  · rintro k ⟨hk | hk, -⟩
    · exact hu k hk
    · exact .inr (Nat.le_trans hf.size hk)
end Go.Proofs.Ytifcgimpgbeocaa
/- The last step of a commit: head, log, operations and what is kept are set anew. -/
set_option linter.unusedVariables false
set_option linter.unusedSimpArgs false
namespace Go.Proofs.Ytifcgimpgbeocaa
open Go.RowKit
/-- The seven stores of a commit's end. -/
def setHead (w : World) (S : Nat) (a b c d : Int) (L v : Value) : World :=
  ((((((w.setCell ⟨S, 1, none⟩ (.int .i64 a)).setCell ⟨S, 2, none⟩ (.int .i64 b)).setCell ⟨S, 3, none⟩ (.int .i64 c)).setCell ⟨S, 4, none⟩ (.int .i64 d)).setCell ⟨S, 5, none⟩ L).setCell ⟨S, 6, none⟩ (.slice none 0 0)).setCell ⟨S, 8, none⟩ v
theorem setHead_frm (w : World) (S : Nat) (a b c d : Int) (L v : Value) : Frm (fun k => k = S) w (setHead w S a b c d L v) := by
  unfold setHead
  exact frm_setCell (frm_setCell (frm_setCell (frm_setCell (frm_setCell (frm_setCell (frm_setCell (Frm.refl _ _) (by rfl) _) (by rfl) _) (by rfl) _) (by rfl) _) (by rfl) _) (by rfl) _) (by rfl) _
theorem setHead_other (w : World) (S : Nat) (a b c d : Int) (L v : Value) (j : Nat) (h : j = 0 ∨ j = 7) : (setHead w S a b c d L v).cell? ⟨S, j, none⟩ = w.cell? ⟨S, j, none⟩ := by
  unfold setHead
  rw [setS _ _ _ _ _ (by omega), setS _ _ _ _ _ (by omega), setS _ _ _ _ _ (by omega), setS _ _ _ _ _ (by omega), setS _ _ _ _ _ (by omega), setS _ _ _ _ _ (by omega), setS _ _ _ _ _ (by omega)]
theorem sameS {w : World} {S i : Nat} {x : Value} (v : Value) (h : w.cell? ⟨S, i, none⟩ = some x) : (w.setCell ⟨S, i, none⟩ v).cell? ⟨S, i, none⟩ = some v := World.cell?_setCell_same _ _ _ h
theorem setHead_cells {w : World} {S : Nat} (a b c d : Int) (L v : Value) (h : ∀ j, j < 9 → ∃ x, w.cell? ⟨S, j, none⟩ = some x) :
    (setHead w S a b c d L v).cell? ⟨S, 1, none⟩ = some (.int .i64 a) ∧ (setHead w S a b c d L v).cell? ⟨S, 2, none⟩ = some (.int .i64 b) ∧ (setHead w S a b c d L v).cell? ⟨S, 3, none⟩ = some (.int .i64 c) ∧ (setHead w S a b c d L v).cell? ⟨S, 4, none⟩ = some (.int .i64 d) ∧
    (setHead w S a b c d L v).cell? ⟨S, 5, none⟩ = some L ∧ (setHead w S a b c d L v).cell? ⟨S, 6, none⟩ = some (.slice none 0 0) ∧ (setHead w S a b c d L v).cell? ⟨S, 8, none⟩ = some v := by
  obtain ⟨x1, h1⟩ := h 1 (by decide)
  obtain ⟨x2, h2⟩ := h 2 (by decide)
  obtain ⟨x3, h3⟩ := h 3 (by decide)
  obtain ⟨x4, h4⟩ := h 4 (by decide)
  obtain ⟨x5, h5⟩ := h 5 (by decide)
  obtain ⟨x6, h6⟩ := h 6 (by decide)
  obtain ⟨x8, h8⟩ := h 8 (by decide)
  unfold setHead
  refine ⟨?_, ?_, ?_, ?_, ?_, ?_, ?_⟩
  · rw [setS _ _ _ _ _ (by decide), setS _ _ _ _ _ (by decide), setS _ _ _ _ _ (by decide), setS _ _ _ _ _ (by decide), setS _ _ _ _ _ (by decide), setS _ _ _ _ _ (by decide)]
    exact sameS _ h1
  · rw [setS _ _ _ _ _ (by decide), setS _ _ _ _ _ (by decide), setS _ _ _ _ _ (by decide), setS _ _ _ _ _ (by decide), setS _ _ _ _ _ (by decide)]
    exact sameS (x := x2) _ (by rw [setS _ _ _ _ _ (by decide)]; exact h2)
  · rw [setS _ _ _ _ _ (by decide), setS _ _ _ _ _ (by decide), setS _ _ _ _ _ (by decide), setS _ _ _ _ _ (by decide)]
    exact sameS (x := x3) _ (by rw [setS _ _ _ _ _ (by decide), setS _ _ _ _ _ (by decide)]; exact h3)
  · rw [setS _ _ _ _ _ (by decide), setS _ _ _ _ _ (by decide), setS _ _ _ _ _ (by decide)]
    exact sameS (x := x4) _ (by rw [setS _ _ _ _ _ (by decide), setS _ _ _ _ _ (by decide), setS _ _ _ _ _ (by decide)]; exact h4)
  · rw [setS _ _ _ _ _ (by decide), setS _ _ _ _ _ (by decide)]
    exact sameS (x := x5) _ (by rw [setS _ _ _ _ _ (by decide), setS _ _ _ _ _ (by decide), setS _ _ _ _ _ (by decide), setS _ _ _ _ _ (by decide)]; exact h5)
  · rw [setS _ _ _ _ _ (by decide)]
    exact sameS (x := x6) _ (by rw [setS _ _ _ _ _ (by decide), setS _ _ _ _ _ (by decide), setS _ _ _ _ _ (by decide), setS _ _ _ _ _ (by decide), setS _ _ _ _ _ (by decide)]; exact h6)
  · exact sameS (x := x8) _ (by rw [setS _ _ _ _ _ (by decide), setS _ _ _ _ _ (by decide), setS _ _ _ _ _ (by decide), setS _ _ _ _ _ (by decide), setS _ _ _ _ _ (by decide), setS _ _ _ _ _ (by decide)]; exact h8)
variable {w : World} {U : Nat → Prop} {S D : Nat} {vp vq va vw vd vk : Value} {us ks : List Value} {st : St}
theorem SA.commit_post {W8 : World} (h : SA w U S D vp vq va vw vd vk us ks st) (hb : Below w.heap.size w W8) {B : Nat} {v : Value} (hd : Hd) (L : Bs) (ho : OD W8 B v st.now) (hB : w.heap.size ≤ B) :
    ∃ U', So (setHead W8 S hd.1 hd.2.1 hd.2.2.1 hd.2.2.2 (strV L) v) U' S { st with hd := hd, log := L, ops := [], kept := st.now } ∧ Frm U w (setHead W8 S hd.1 hd.2.1 hd.2.2.1 hd.2.2.2 (strV L) v) ∧ ∀ k, U' k → U k ∨ w.heap.size ≤ k := by
  obtain ⟨us', hul, hod, hur⟩ := ho
  have h8 := h.below hb
  have hvo : ∀ k, v.ownBlock = some k → B ≤ k ∧ k < W8.heap.size := fun k hk => World.ownsRow.lt hod k hk
  have hSl := h.ult S (h.uF S (.inl rfl))
  have hDl := h.ult D (h.uF D (.inr (.inl rfl)))
  have huo : ∀ u, u ∈ us' → ∀ k, u.ownBlock = some k → B ≤ k ∧ k < W8.heap.size := fun u hu k hk => by
    obtain ⟨i, hi⟩ := List.getElem?_of_mem hu
    obtain ⟨d, hd⟩ : ∃ d, st.now[i]? = some d := ⟨_, List.getElem?_eq_getElem (by have := (List.getElem?_eq_some_iff.1 hi).1; omega)⟩
    exact World.ownsRow.lt (hur i u d hi hd) k hk
  have hf := setHead_frm W8 S hd.1 hd.2.1 hd.2.2.1 hd.2.2.2 (strV L) v
  obtain ⟨c1, c2, c3, c4, c5, c6, c8⟩ := setHead_cells (w := W8) (S := S) hd.1 hd.2.1 hd.2.2.1 hd.2.2.2 (strV L) v (fun j hj => by
    match j, hj with
    | 0, _ => exact ⟨_, h8.s0⟩
    | 1, _ => exact ⟨_, h8.s1⟩
    | 2, _ => exact ⟨_, h8.s2⟩
    | 3, _ => exact ⟨_, h8.s3⟩
    | 4, _ => exact ⟨_, h8.s4⟩
    | 5, _ => exact ⟨_, h8.s5⟩
    | 6, _ => exact ⟨_, h8.s6⟩
    | 7, _ => exact ⟨_, h8.s7⟩
    | 8, _ => exact ⟨_, h8.s8⟩)
  have hfl : ∀ k, k < w.heap.size → FSt S D va vw vd k ∨ True := fun _ _ => .inr trivial
  refine ⟨fun k => U k ∨ v.ownBlock = some k ∨ ∃ u ∈ us', u.ownBlock = some k, ⟨D, vp, vq, va, .slice none 0 0, vd, v, us, us', SA.inS (w := W8) hf h8.dv ?_ ?_ ?_ h.sd ?_ ?_ c1 c2 c3 c4 c5 c6 ?_ c8 ?_ (oO_nil _ _) h8.od h8.ul h8.ur (hod.mono (Nat.zero_le _)) hul (fun i u d hu hd => (hur i u d hu hd).mono (Nat.zero_le _))⟩, ?_, ?_⟩
  · rintro k (hk | hk | ⟨u, hu, hk⟩)
    · exact h8.ult k hk
    · exact (hvo k hk).2
    · exact (huo u hu k hk).2
  · rintro k (hk | hk | hk | hk | hk)
    · exact .inl (h.uF k (.inl hk))
    · exact .inl (h.uF k (.inr (.inl hk)))
    · exact .inl (h.uF k (.inr (.inr (.inl hk))))
    · cases hk
    · exact .inl (h.uF k (.inr (.inr (.inr (.inr hk)))))
  · intro x hx k hk
    have hold : x ∈ vp :: vq :: vk :: (us ++ ks) → (U k ∨ v.ownBlock = some k ∨ ∃ u ∈ us', u.ownBlock = some k) ∧ ¬ FSt S D va (.slice none 0 0) vd k := fun hx' => by
      refine ⟨.inl (h.uR x hx' k hk).1, fun hf => ?_⟩
      rcases hf with hf | hf | hf | hf | hf
      · exact (h.uR x hx' k hk).2 (.inl hf)
      · exact (h.uR x hx' k hk).2 (.inr (.inl hf))
      · exact (h.uR x hx' k hk).2 (.inr (.inr (.inl hf)))
      · cases hf
      · exact (h.uR x hx' k hk).2 (.inr (.inr (.inr (.inr hf))))
    have hnew : B ≤ k → ¬ FSt S D va (.slice none 0 0) vd k := fun h1 hf => by
      rcases hf with hf | hf | hf | hf | hf
      · omega
      · omega
      · have := h.ult k (h.uF k (.inr (.inr (.inl hf)))); omega
      · cases hf
      · have := h.ult k (h.uF k (.inr (.inr (.inr (.inr hf))))); omega
    simp only [List.mem_cons, List.mem_append] at hx
    rcases hx with hx | hx | hx | hx | hx
    · exact hold (by simp [hx])
    · exact hold (by simp [hx])
    · subst hx; exact ⟨.inr (.inl hk), hnew (hvo k hk).1⟩
    · exact hold (by simp [hx])
    · exact ⟨.inr (.inr ⟨x, hx, hk⟩), hnew (huo x hx k hk).1⟩
  · rintro x (rfl | rfl | rfl)
    · exact h.no x (.inl rfl)
    · exact ⟨by simp [Value.ownBlock], by simp [Value.ownBlock]⟩
    · exact h.no x (.inr (.inr rfl))
  · rw [setHead_other _ _ _ _ _ _ _ _ _ (.inl rfl)]; exact h8.s0
  · rw [setHead_other _ _ _ _ _ _ _ _ _ (.inr rfl)]; exact h8.s7
  · intro j
    unfold setHead
    rw [World.frozen?_setCell, World.frozen?_setCell, World.frozen?_setCell, World.frozen?_setCell, World.frozen?_setCell, World.frozen?_setCell, World.frozen?_setCell]
    exact h8.fz j
  · exact (Frm.of_below (F := U) hb).trans hf (fun i hi e => by rw [e]; exact h.uF S (.inl rfl))
  · rintro k (hk | hk | ⟨u, hu, hk⟩)
    · exact .inl hk
    · exact .inr (by have := (hvo k hk).1; omega)
    · exact .inr (by have := (huo u hu k hk).1; omega)
end Go.Proofs.Ytifcgimpgbeocaa
/- A store that has just been laid out; its first copies. -/
set_option linter.unusedVariables false
set_option linter.unusedSimpArgs false
namespace Go.Proofs.Ytifcgimpgbeocaa
open Go.RowKit
/-! ### A region whose operations each leave a fact that lasts -/
def FamX (F : Nat → Value → World → Prop) (B : Nat) (w0 : World) (L : Nat → Bool) (vals : Nat → Value) (w : World) : Prop := Below B w0 w ∧ B ≤ w.heap.size ∧ ∀ i, L i = true → F i (vals i) w
def Lasts (F : Nat → Value → World → Prop) : Prop := ∀ i v w w', F i v w → Below w.heap.size w w' → F i v w'
theorem FamX.add {F : Nat → Value → World → Prop} {B : Nat} {w0 : World} {L : Nat → Bool} {vals : Nat → Value} {w w' : World} {i : Nat} {v : Value} (hF : Lasts F) (h : FamX F B w0 L vals w) (hb : Below w.heap.size w w') (hv : F i v w') : FamX F B w0 (addTo L i) (upd vals i v) w' := by
  refine ⟨h.1.trans (hb.mono h.2.1), Nat.le_trans h.2.1 hb.size, fun j hj => ?_⟩
  by_cases e : j = i
  · subst e
    rw [upd_self]; exact hv
  · rw [upd_ne _ _ e]
    rw [addTo_ne _ e] at hj
    exact hF _ _ _ _ (h.2.2 j hj) hb
theorem FamX.start {F : Nat → Value → World → Prop} (w : World) (vals : Nat → Value) : FamX F w.heap.size w (fun _ => false) vals w.drew := ⟨drew_below w, Nat.le_refl _, fun i h => by cases h⟩
theorem FamX.same {F : Nat → Value → World → Prop} {B : Nat} {w0 : World} {L : Nat → Bool} {vals : Nat → Value} {w : World} {i : Nat} {v : Value} (hF : Lasts F) (h : FamX F B w0 L vals w) (hv : F i v w) : FamX F B w0 (addTo L i) (upd vals i v) w := h.add hF (Below.refl _ _) hv
/-! ### A row of datasets that are nil -/
theorem run_makeV (w : World) (n : Nat) (hn : n ≤ 1000000) :
    (Instr.makeSlice 51 (.int .i64 (n : Int)) (.int .i64 (n : Int))).run Try.prog w = .ok (.slice (some ⟨w.heap.size, 0, none⟩) n n) (w.alloc (.cells (List.replicate n (.slice none 0 0)).toArray 69)) := by
  obtain ⟨i0, hi, hz0, hz1, hz2⟩ := info_parts infoD
  have := run_make (P := Try.prog) w 51 69 i0 (.slice none 0 0) underD hi hz0 .i64 .i64 n n (by omega) (Int.le_refl _) (by rw [hz2]; omega) (by omega)
  rw [this]
  have e : madeCells (Value.slice none 0 0).cells (n * 1) = (List.replicate n (.slice none 0 0)).toArray := by
    apply Array.ext'
    rw [Nat.mul_one, show (Value.slice none 0 0).cells = #[.slice none 0 0] from rfl, toList_madeCells_one]
  rw [Int.toNat_natCast, hz1, e]
theorem oV_new (w : World) (n : Nat) (hn : n ≤ 1000000) : OV (w.alloc (.cells (List.replicate n (.slice none 0 0)).toArray 69)) w.heap.size (.slice (some ⟨w.heap.size, 0, none⟩) n n) (List.replicate n (.slice none 0 0)) := by
  unfold OV
  rw [List.length_replicate]
  exact ⟨by simp, .inr ⟨_, n, _, rfl, Nat.le_refl _, heap_alloc_new w _, Nat.le_refl _, by unfold maxLen; omega, by simp, by simp⟩⟩
/-! ### A store just laid out -/
theorem row_off {w : World} {B e s n k e' : Nat} {v : Value} {xs : List Value} {c : Array Value} {fz : Nat × Nat} (h : w.ownsRow B e s v n xs) (hk : w.heap[k]? = some (.cells c e' fz)) (hne : e ≠ e') : v.ownBlock ≠ some k := by
  obtain ⟨-, ⟨rfl, -⟩ | ⟨g, cap, cur, rfl, -, hg, -⟩⟩ := h
  · simp [Value.ownBlock]
  · simp only [Value.ownBlock, ne_eq, Option.some.injEq]
    rintro rfl
    rw [hk] at hg
    simp only [Option.some.injEq, Obj.cells.injEq] at hg
    exact hne hg.2.1.symm
theorem block_cell {w : World} {b j : Nat} {c : Array Value} {t : TypeId} {v : Value} (h : w.heap[b]? = some (.cells c t (0, 0))) (hj : c[j]? = some v) : w.cell? ⟨b, j, none⟩ = some v := by
  unfold World.cell?
  rw [h]
  simpa using hj
theorem block_fz {w : World} {b : Nat} {c : Array Value} {t : TypeId} (h : w.heap[b]? = some (.cells c t (0, 0))) (j : Nat) : w.frozen? ⟨b, j, none⟩ = false := by
  unfold World.frozen?
  rw [h]
  simp
theorem SA.born {w : World} {B S D n : Nat} {a b vd : Value} {d : Dk} {h : Hd} {C : Bs} (hS : w.heap[S]? = some (.cells #[.pointer (some ⟨D, 0, none⟩), .int .i64 h.1, .int .i64 h.2.1, .int .i64 h.2.2.1, .int .i64 h.2.2.2, strV C, .slice none 0 0, vd, .slice none 0 0] 129 (0, 0)))
    (hD : w.heap[D]? = some (.cells #[a, b, .slice none 0 0] 126 (0, 0))) (hBS : B ≤ S) (hBD : B ≤ D) (ha : OS w B a d.1) (hb : OW w B b d.2) (hv : OV w B vd (List.replicate n (.slice none 0 0))) :
    SA w (fun k => B ≤ k ∧ k < w.heap.size) S D a b (.slice none 0 0) (.slice none 0 0) vd (.slice none 0 0) (List.replicate n (.slice none 0 0)) [] ⟨d, h, C, [], empties n, [], []⟩ := by
  have hSl : S < w.heap.size := (Array.getElem?_eq_some_iff.1 hS).1
  have hDl : D < w.heap.size := (Array.getElem?_eq_some_iff.1 hD).1
  have nil : ∀ k, (Value.slice none 0 0).ownBlock = some k → False := fun k hk => by cases hk
  refine ⟨fun k hk => hk.2, ?_, ?_, ?_, ?_, block_cell hS rfl, block_cell hS rfl, block_cell hS rfl, block_cell hS rfl, block_cell hS rfl, block_cell hS rfl, block_cell hS rfl, block_cell hS rfl, block_cell hS rfl, block_fz hS,
    ⟨block_cell hD rfl, block_cell hD rfl, block_cell hD rfl, block_fz hD, ha.rd, hb.rd, ⟨rfl, .inl ⟨rfl, rfl⟩⟩, by simp [Value.ownBlock]⟩, oO_nil _ _, hv.mono (Nat.zero_le _), by simp [empties], ?_, oV_nil _ _, rfl, ?_⟩
  · rintro k (rfl | rfl | hk | hk | hk)
    · exact ⟨hBS, hSl⟩
    · exact ⟨hBD, hDl⟩
    · exact (nil k hk).elim
    · exact (nil k hk).elim
    · exact World.ownsRow.lt hv k hk
  · intro x hx k hk
    have hrow : x = a ∨ x = b := by
      simp only [List.mem_cons, List.mem_append, List.mem_replicate] at hx
      rcases hx with hx | hx | hx | hx | hx
      · exact .inl hx
      · exact .inr hx
      · subst hx; exact (nil k hk).elim
      · rw [hx.2] at hk; exact (nil k hk).elim
      · cases hx
    rcases hrow with rfl | rfl
    · refine ⟨World.ownsRow.lt ha k hk, ?_⟩
      rintro (rfl | rfl | hf | hf | hf)
      · exact row_off ha hS (by decide) hk
      · exact row_off ha hD (by decide) hk
      · exact nil k hf
      · exact nil k hf
      · rcases rows_apart ha hv (by decide) with h1 | h1
        · rw [h1] at hk; cases hk
        · exact h1 (by rw [hk, hf])
    · refine ⟨World.ownsRow.lt hb k hk, ?_⟩
      rintro (rfl | rfl | hf | hf | hf)
      · exact row_off hb hS (by decide) hk
      · exact row_off hb hD (by decide) hk
      · exact nil k hf
      · exact nil k hf
      · rcases rows_apart hb hv (by decide) with h1 | h1
        · rw [h1] at hk; cases hk
        · exact h1 (by rw [hk, hf])
  · rintro rfl
    rw [hS] at hD
    simp only [Option.some.injEq, Obj.cells.injEq] at hD
    exact absurd hD.2.1 (by decide)
  · rintro x (rfl | rfl | rfl)
    · exact ⟨by simp [Value.ownBlock], by simp [Value.ownBlock]⟩
    · exact ⟨by simp [Value.ownBlock], by simp [Value.ownBlock]⟩
    · exact ⟨row_off hv hS (by decide), row_off hv hD (by decide)⟩
  · intro i u x hu hx
    have h1 := (List.mem_replicate.1 (List.mem_of_getElem? hu)).2
    have h2 := (List.mem_replicate.1 (List.mem_of_getElem? hx)).2
    rw [h1, h2]
    exact ⟨rfl, .inl ⟨rfl, rfl⟩⟩
  · intro i u x hu hx
    simp at hu
variable {w : World} {U : Nat → Prop} {S D : Nat} {vp vq va vw vd vk : Value} {us ks : List Value} {st : St}
/-- What is kept is what there is. -/
theorem SA.open_post {W8 : World} (h : SA w U S D vp vq va vw vd vk us ks st) (hb : Below w.heap.size w W8) {B : Nat} {v : Value} (ho : OD W8 B v st.now) (hB : w.heap.size ≤ B) :
    ∃ U', So (W8.setCell ⟨S, 8, none⟩ v) U' S { st with kept := st.now } ∧ Frm U w (W8.setCell ⟨S, 8, none⟩ v) ∧ ∀ k, U' k → U k ∨ w.heap.size ≤ k := by
  obtain ⟨us', hul, hod, hur⟩ := ho
  have h8 := h.below hb
  have hvo : ∀ k, v.ownBlock = some k → B ≤ k ∧ k < W8.heap.size := fun k hk => World.ownsRow.lt hod k hk
  have hSl := h.ult S (h.uF S (.inl rfl))
  have hDl := h.ult D (h.uF D (.inr (.inl rfl)))
  have huo : ∀ u, u ∈ us' → ∀ k, u.ownBlock = some k → B ≤ k ∧ k < W8.heap.size := fun u hu k hk => by
    obtain ⟨i, hi⟩ := List.getElem?_of_mem hu
    obtain ⟨d, hd⟩ : ∃ d, st.now[i]? = some d := ⟨_, List.getElem?_eq_getElem (by have := (List.getElem?_eq_some_iff.1 hi).1; omega)⟩
    exact World.ownsRow.lt (hur i u d hi hd) k hk
  have hf : Frm (fun k => k = S) W8 (W8.setCell ⟨S, 8, none⟩ v) := frm_setCell (Frm.refl _ _) (by rfl) _
  have hcell : ∀ j, j ≠ 8 → (W8.setCell ⟨S, 8, none⟩ v).cell? ⟨S, j, none⟩ = W8.cell? ⟨S, j, none⟩ := fun j h1 => setS _ _ _ _ _ h1
  refine ⟨fun k => U k ∨ v.ownBlock = some k ∨ ∃ u ∈ us', u.ownBlock = some k, ⟨D, vp, vq, va, vw, vd, v, us, us', SA.inS (w := W8) hf h8.dv ?_ ?_ ?_ h.sd h.no ?_ ?_ ?_ ?_ ?_ ?_ ?_ ?_ ?_ ?_ h8.ow h8.od h8.ul h8.ur (hod.mono (Nat.zero_le _)) hul (fun i u d hu hd => (hur i u d hu hd).mono (Nat.zero_le _))⟩, ?_, ?_⟩
  · rintro k (hk | hk | ⟨u, hu, hk⟩)
    · exact h8.ult k hk
    · exact (hvo k hk).2
    · exact (huo u hu k hk).2
  · exact fun k hk => .inl (h.uF k hk)
  · intro x hx k hk
    have hnew : B ≤ k → ¬ FSt S D va vw vd k := fun h1 hf => by have := h.ult k (h.uF k hf); omega
    have hold : x ∈ vp :: vq :: vk :: (us ++ ks) → (U k ∨ v.ownBlock = some k ∨ ∃ u ∈ us', u.ownBlock = some k) ∧ ¬ FSt S D va vw vd k := fun hx' => ⟨.inl (h.uR x hx' k hk).1, (h.uR x hx' k hk).2⟩
    simp only [List.mem_cons, List.mem_append] at hx
    rcases hx with hx | hx | hx | hx | hx
    · exact hold (by simp [hx])
    · exact hold (by simp [hx])
    · subst hx; exact ⟨.inr (.inl hk), hnew (hvo k hk).1⟩
    · exact hold (by simp [hx])
    · exact ⟨.inr (.inr ⟨x, hx, hk⟩), hnew (huo x hx k hk).1⟩
  · rw [hcell _ (by decide)]; exact h8.s0
  · rw [hcell _ (by decide)]; exact h8.s1
  · rw [hcell _ (by decide)]; exact h8.s2
  · rw [hcell _ (by decide)]; exact h8.s3
  · rw [hcell _ (by decide)]; exact h8.s4
  · rw [hcell _ (by decide)]; exact h8.s5
  · rw [hcell _ (by decide)]; exact h8.s6
  · rw [hcell _ (by decide)]; exact h8.s7
  · exact World.cell?_setCell_same _ _ _ h8.s8
  · intro j; rw [World.frozen?_setCell]; exact h8.fz j
  · exact frm_setCell (Frm.of_below hb) (h.uF S (.inl rfl)) _
  · rintro k (hk | hk | ⟨u, hu, hk⟩)
    · exact .inl hk
    · exact .inr (by have := (hvo k hk).1; omega)
    · exact .inr (by have := (huo u hu k hk).1; omega)
end Go.Proofs.Ytifcgimpgbeocaa
/- A range over an iterator whose values are known, a list: the caller owes one walk of a round, at the place k of the list. -/
set_option linter.unusedVariables false
set_option linter.unusedSimpArgs false
namespace Go.Proofs.Ytifcgimpgbeocaa
open Go.RowKit
variable {P : Program}

/-- What lay at or beyond block n0 lies as it lay. -/
structure Rnd (n0 : Nat) (A B : World) : Prop where
  size : A.heap.size ≤ B.heap.size
  same : ∀ k, n0 ≤ k → k < A.heap.size → B.heap[k]? = A.heap[k]?
theorem Rnd.refl (n0 : Nat) (A : World) : Rnd n0 A A := ⟨Nat.le_refl _, fun _ _ _ => rfl⟩
theorem Rnd.trans {n0 : Nat} {A B C : World} (h : Rnd n0 A B) (k : Rnd n0 B C) : Rnd n0 A C :=
  ⟨Nat.le_trans h.size k.size, fun i hi hlt => (k.same i hi (Nat.lt_of_lt_of_le hlt h.size)).trans (h.same i hi hlt)⟩
theorem Rnd.alloc {n0 : Nat} {A B : World} (h : Rnd n0 A B) (o : Obj) : Rnd n0 A (B.alloc o) :=
  h.trans ⟨by simp, fun k _ hk => Below.heap_alloc _ _ _ hk⟩
theorem Rnd.drewN {n0 : Nat} {A B : World} (h : Rnd n0 A B) (n : Nat) : Rnd n0 A (B.drewN n) := h.trans ⟨Nat.le_refl _, fun _ _ _ => rfl⟩
theorem Rnd.drew {n0 : Nat} {A B : World} (h : Rnd n0 A B) : Rnd n0 A B.drew := h.trans ⟨Nat.le_refl _, fun _ _ _ => rfl⟩
/-- A store into a block that lay before n0, or that is new. -/
theorem Rnd.setCell {n0 : Nat} {A B : World} (h : Rnd n0 A B) {p : Addr} (hp : p.block < n0 ∨ A.heap.size ≤ p.block) (v : Value) : Rnd n0 A (B.setCell p v) :=
  ⟨Nat.le_trans h.size (by simp [World.setCell]), fun k hk hlt => (Below.heap_setCell _ _ _ _ (by omega)).trans (h.same k hk hlt)⟩
theorem Rnd.grown {n0 : Nat} {A B C : World} {row : Option Nat} (h : Rnd n0 A B) (hg : B.grownBy C row) (hr : ∀ b, row = some b → b < n0 ∨ A.heap.size ≤ b) : Rnd n0 A C :=
  ⟨Nat.le_trans h.size hg.size, fun k hk hlt => (hg.block k (Nat.lt_of_lt_of_le hlt h.size) (fun e => by have := hr k e.symm; omega)).trans (h.same k hk hlt)⟩
theorem Rnd.below {n0 : Nat} {A B C : World} (h : Rnd n0 A B) (hb : Below B.heap.size B C) : Rnd n0 A C := h.grown (below_grow hb none) (fun _ e => by cases e)
/-- What lay in cells at or beyond block n0 lies as it lay: a round's word to the iterator. -/
def RndC (n0 : Nat) (A B : World) : Prop := ∀ (k : Nat) (c : Array Value) (t : TypeId) (f : Nat × Nat), n0 ≤ k → A.heap[k]? = some (.cells c t f) → B.heap[k]? = some (.cells c t f)
theorem Rnd.cells {n0 : Nat} {A B : World} (h : Rnd n0 A B) : RndC n0 A B := fun k _ _ _ hk hc => (h.same k hk (Array.getElem?_eq_some_iff.1 hc).1).trans hc
theorem RndC.trans {n0 : Nat} {A B C : World} (h : RndC n0 A B) (k : RndC n0 B C) : RndC n0 A C := fun i c t f hi hc => k i c t f hi (h i c t f hi hc)
theorem rndC_put (n0 : Nat) (A : World) {l : Nat} {o : Obj} (hl : A.heap[l]? = some o) (ho : o.isCells = false) (o' : Obj) : RndC n0 A (A.putObj l o') := fun k c t f _ hc => by
  by_cases e : k = l
  · subst e; rw [hl] at hc; cases hc; cases ho
  · exact (World.putObj_heap_other e).trans hc
theorem RndC.cell {n0 : Nat} {A B : World} (h : RndC n0 A B) {p : Addr} {v : Value} (hp : n0 ≤ p.block) (hc : A.cell? p = some v) : B.cell? p = some v := by
  unfold World.cell? at hc ⊢
  cases hh : A.heap[p.block]? with
  | none => rw [hh] at hc; cases hc
  | some o =>
    rw [hh] at hc
    cases o <;> simp only [reduceCtorEq] at hc
    rename_i c t f
    rw [h _ c t f hp hh]
    exact hc

/-- The contract of an iterator that gives the values us, while R holds between two rounds. -/
def SeqL (P : Program) (gf : Nat) (lb : Array Value) (us : List (Array Value)) (R : World → Prop) : Prop :=
  ∀ (n0 l : Nat) (J Jx : Nat → World → Prop) (W : World), n0 ≤ W.heap.size →
    (∀ k A B, J k A → A.grownBy B none → J k B) → (∀ k A B, Jx k A → A.grownBy B none → Jx k B) → (∀ k A, J k A → R A) →
    (∀ (k : Nat) (x : Array Value) (A : World), us[k]? = some x → J k A → YieldAt Fence.wide 0 P l x A fun e B => (e = .returned (.bool true) ∧ J (k + 1) B ∧ RndC n0 A B) ∨ (e = .returned (.bool false) ∧ Jx (k + 1) B)) →
    J 0 W →
    CallsIn Fence.wide 0 P gf (#[.func (.yield l) #[] #[]] ++ lb) W fun e B => (∃ v, e = .returned v) ∧ (J us.length B ∨ ∃ k, k ≤ us.length ∧ Jx k B)

/-- How the body of the round number k may be left. -/
def roundEnd (n0 : Nat) (I : Nat → World → Prop) (Ix : Code → Nat → World → Prop) (k : Nat) (W : World) : Exit → Act → World → Prop
  | .normal, _, B => Rnd n0 W B ∧ I (k + 1) B
  | .ret, _, B => Rnd n0 W B ∧ Ix .ret (k + 1) B
  | .exit id, _, B => Rnd n0 W B ∧ Ix (.exit id) (k + 1) B
  | .goto t, _, B => Rnd n0 W B ∧ Ix (.goto t) (k + 1) B
  | .panic _, _, _ => False
  | .outgrown, _, _ => False
def assignEnd (n0 : Nat) (Ax : Nat → Act → World → Prop) (k : Nat) (W : World) : Exit → Act → World → Prop
  | .normal, a, B => Rnd n0 W B ∧ Ax k a B
  | _, _, _ => False

theorem wp_range {us : List (Array Value)} {R : World → Prop} {g : Operand} {ps : Array Tmp} {assign body : Code} {Q : Exit → Act → World → Prop} {a : Act} {w : World} {gf : Nat} {lb : Array Value}
    (hg : a.eval g = .func (.func gf) #[] lb) (eg : ∀ args w, (callFunc gf args).run P w = .ok (.enter gf args) w) (hseq : SeqL P gf lb us R) (hps : ∀ (k : Nat) (x : Array Value), us[k]? = some x → x.size = ps.size)
    (I : Nat → World → Prop) (Ix : Code → Nat → World → Prop) (Ax : Nat → Act → World → Prop) (hI : OwnFrom w.heap.size I) (hIx : ∀ c, OwnFrom w.heap.size (Ix c)) (hAx : ∀ a₁, OwnFrom w.heap.size (fun k W => Ax k a₁ W))
    (hR : ∀ k W, I k W → R W) (h0 : I 0 w)
    (hassign : ∀ (l k : Nat) (x : Array Value) (W : World), us[k]? = some x → I k W → w.heap.size + 2 ≤ W.heap.size →
      assign.wpIn (Fence.wide.inRound l) 0 P (assignEnd w.heap.size Ax k W) { tmps := (ps.zip x).foldl (fun t (p, v) => t.setIfInBounds p v) a.tmps, defers := [] } W)
    (hbody : ∀ (l k : Nat) (x : Array Value) (a₁ : Act) (W : World), us[k]? = some x → Ax k a₁ W → w.heap.size + 2 ≤ W.heap.size → body.wpIn (Fence.wide.inRound l) 0 P (roundEnd w.heap.size I Ix k W) a₁ W)
    (hdone : ∀ (D : Nat) (W : World), w.heap.size ≤ D → I us.length W → W.heap[D]? = some (.deferred (some [])) → Q .normal { a with defers := { target := .collected D, args := #[] } :: a.defers } W)
    (hstop : ∀ (D : Nat) (c : Code) (k : Nat) (W : World), w.heap.size ≤ D → Ix c k W → W.heap[D]? = some (.deferred (some [])) → c.wpIn Fence.wide 0 P Q { a with defers := { target := .collected D, args := #[] } :: a.defers } W) :
    (Code.rangeFunc g ps assign body).wpIn Fence.wide 0 P Q a w := by
  refine wpIn_rangeFunc fun fn hfn => ?_
  let rec_ : LoopState → Option Code → Loop := fun st pe => { state := st, pending := pe, fn, tmps := a.tmps, params := ps, assign, body, defers := w.heap.size }
  obtain ⟨W1, hW1⟩ : ∃ W1, (w.alloc (.deferred (some []))).alloc (.loop (rec_ .ready none)) = W1 := ⟨_, rfl⟩
  have hz1 : W1.heap.size = w.heap.size + 2 := by rw [← hW1]; simp
  have hL1 : W1.heap[w.heap.size + 1]? = some (.loop (rec_ .ready none)) := by
    rw [← hW1]; have := World.alloc_heap_new (w.alloc (.deferred (some []))) (.loop (rec_ .ready none)); rwa [World.size_alloc] at this
  have hK1 : W1.heap[w.heap.size]? = some (.deferred (some [])) := by
    rw [← hW1]; exact (Below.heap_alloc _ _ _ (by simp)).trans (World.alloc_heap_new w _)
  have hI1 : I 0 W1 := by rw [← hW1]; exact hI.alloc _ (hI.alloc _ h0)
  -- the two facts of book-keeping, and that the heap has not shrunk, beside the caller's own
  let Bk : LoopState → Option Code → World → Prop := fun st pe W => W.heap[w.heap.size + 1]? = some (.loop (rec_ st pe)) ∧ W.heap[w.heap.size]? = some (.deferred (some []))
  have bkGrow : ∀ st pe A B, Bk st pe A → A.grownBy B none → Bk st pe B := fun st pe A B h hg' =>
    ⟨(hg'.block _ (Array.getElem?_eq_some_iff.1 h.1).1 (by simp)).trans h.1, (hg'.block _ (Array.getElem?_eq_some_iff.1 h.2).1 (by simp)).trans h.2⟩
  have bkOthers : ∀ st pe A B, Bk st pe A → Rnd w.heap.size A B → Bk st pe B := fun st pe A B h hk =>
    ⟨(hk.same _ (by omega) (Array.getElem?_eq_some_iff.1 h.1).1).trans h.1, (hk.same _ (Nat.le_refl _) (Array.getElem?_eq_some_iff.1 h.2).1).trans h.2⟩
  have bkPut : ∀ st pe st' pe' A, Bk st pe A → Bk st' pe' (A.putObj (w.heap.size + 1) (.loop (rec_ st' pe'))) := fun st pe st' pe' A h =>
    ⟨World.putObj_heap_same (Array.getElem?_eq_some_iff.1 h.1).1, (World.putObj_heap_other (by omega)).trans h.2⟩
  have bkSize : ∀ st pe A, Bk st pe A → w.heap.size + 2 ≤ A.heap.size := fun st pe A h => by have := (Array.getElem?_eq_some_iff.1 h.1).1; omega
  refine ⟨w.heap.size + 1, [{ target := .collected w.heap.size, args := #[] }], W1, { target := .fn (.func gf) lb, args := #[.func (.yield (w.heap.size + 1)) #[] #[]] }, W1, gf,
    #[.func (.yield (w.heap.size + 1)) #[] #[]] ++ lb, W1, ?_, ?_, fun _ _ => trivial, ?_, fun h => by simp [Fence.wide] at h, ?_⟩
  · rw [← hW1]; exact run_enterLoop_outer _ _ _ _ _
  · simp only [resolve, hg]
    simp [go_sem]
  · simp [invoke, go_sem, eg]
  · refine CallsIn.mono (hseq w.heap.size (w.heap.size + 1) (fun k W => I k W ∧ Bk .ready none W) (fun k W => ∃ c, Ix c k W ∧ Bk .done (some c) W) W1 (by omega)
      (fun k A B h hg' => ⟨hI k A B none h.1 hg' (fun r e => by cases e), bkGrow _ _ _ _ h.2 hg'⟩)
      (fun k A B ⟨c, h, hb⟩ hg' => ⟨c, hIx c k A B none h hg' (fun r e => by cases e), bkGrow _ _ _ _ hb hg'⟩)
      (fun k A h => hR k A h.1) ?_ ⟨hI1, hL1, hK1⟩) ?_
    · -- one round
      rintro k x A hx ⟨hi, hb⟩
      have hy := run_yield (P := P) (args := x) hb.1 (hps k x hx)
      refine ⟨fn, _, assign, body, hy, roundIn_of_wpIn hfn (wpIn_mono (hassign _ k x A hx hi (bkSize _ _ _ hb)) ?_)⟩
      intro e a₁ A1 hpost
      cases e with
      | normal =>
        obtain ⟨hk1, hax⟩ := hpost
        have hb1 := bkOthers _ _ _ _ hb hk1
        refine ⟨_, run_beginRound hb1.1 rfl, ?_⟩
        have hb2 : Bk .busy none (A1.putObj (w.heap.size + 1) (.loop (rec_ .busy none))) := bkPut _ _ _ _ _ hb1
        have hax2 : Ax k a₁ (A1.putObj (w.heap.size + 1) (.loop (rec_ .busy none))) := (hAx a₁).putObj (s := k) _ hax (by omega) hb1.1 rfl
        refine wpIn_mono (hbody _ k x a₁ _ hx hax2 (bkSize _ _ _ hb2)) ?_
        have fin : ∀ (jump : Option Code) (A3 : World), Rnd w.heap.size (A1.putObj (w.heap.size + 1) (.loop (rec_ .busy none))) A3 →
            (Instr.endRound (w.heap.size + 1) jump).run P A3 = .ok (.bool jump.isNone) (A3.putObj (w.heap.size + 1) (.loop (rec_ (if jump.isNone then .ready else .done) jump))) ∧
            A3.heap[w.heap.size + 1]? = some (.loop (rec_ .busy none)) ∧ Bk (if jump.isNone then .ready else .done) jump (A3.putObj (w.heap.size + 1) (.loop (rec_ (if jump.isNone then .ready else .done) jump))) := fun jump A3 hk3 => by
          have hb3 := bkOthers _ _ _ _ hb2 hk3
          exact ⟨run_endRound (P := P) jump hb3.1, hb3.1, bkPut _ _ _ _ _ hb3⟩
        intro e2 a3 A3 hp
        cases e2 with
        | normal =>
          obtain ⟨hr, hl3, hb4⟩ := fin none A3 hp.1
          exact ⟨_, _, hr, .inl ⟨rfl, ⟨hI.putObj _ hp.2 (by omega) hl3 rfl, hb4⟩, ((hk1.cells.trans (rndC_put _ _ hb1.1 rfl _)).trans hp.1.cells).trans (rndC_put _ _ hl3 rfl _)⟩⟩
        | ret =>
          obtain ⟨hr, hl3, hb4⟩ := fin (some .ret) A3 hp.1
          exact ⟨_, _, hr, .inr ⟨rfl, .ret, (hIx _).putObj _ hp.2 (by omega) hl3 rfl, hb4⟩⟩
        | exit id =>
          obtain ⟨hr, hl3, hb4⟩ := fin (some (.exit id)) A3 hp.1
          exact ⟨_, _, hr, .inr ⟨rfl, .exit id, (hIx _).putObj _ hp.2 (by omega) hl3 rfl, hb4⟩⟩
        | goto t =>
          obtain ⟨hr, hl3, hb4⟩ := fin (some (.goto t)) A3 hp.1
          exact ⟨_, _, hr, .inr ⟨rfl, .goto t, (hIx _).putObj _ hp.2 (by omega) hl3 rfl, hb4⟩⟩
        | panic ch => exact hp.elim
        | outgrown => exact hp.elim
      | ret => exact hpost.elim
      | exit id => exact hpost.elim
      | goto t => exact hpost.elim
      | panic ch => exact hpost.elim
      | outgrown => exact hpost.elim
    · -- behind the iterator
      rintro e W2 ⟨⟨v, rfl⟩, (⟨hi, hb⟩ | ⟨k, _, c, hi, hb⟩)⟩
      · exact ⟨none, _, run_endLoop (P := P) hb.1 (by simp [rec_]), hdone _ _ (Nat.le_refl _) (hI.putObj _ hi (by omega) hb.1 rfl) ((World.putObj_heap_other (by omega)).trans hb.2)⟩
      · exact ⟨some c, _, run_endLoop (P := P) hb.1 (by simp [rec_]), hstop _ c k _ (Nat.le_refl _) ((hIx c).putObj _ hi (by omega) hb.1 rfl) ((World.putObj_heap_other (by omega)).trans hb.2)⟩

/-! What abides the turn of blocks that are no cells. -/
section
variable {β : Type} {B : Nat}
theorem ownF_cell (a : β → Addr) (v : β → Value) : OwnFrom B (fun (k : β) W => W.cell? (a k) = some (v k)) := fun _ _ _ _ hs hg hr => cell_kept hs hg (fun r e => (hr r e).2)
theorem ownF_pure (p : β → Prop) : OwnFrom B (fun (k : β) _ => p k) := fun _ _ _ _ hs _ _ => hs
theorem ownF_ownc (a : β → Addr) : OwnFrom B (fun (k : β) W => OwnC W (a k)) := fun _ _ _ _ hs hg hr => by
  obtain ⟨⟨v, hv⟩, hf⟩ := hs
  exact ⟨⟨v, cell_kept hv hg (fun r e => (hr r e).2)⟩, (frozen_kept hv hg (fun r e => (hr r e).2)).trans hf⟩
theorem ownF_ex {γ : Type} {I : γ → β → World → Prop} (h : ∀ x, OwnFrom B (I x)) : OwnFrom B (fun k W => ∃ x, I x k W) := fun s A C row ⟨x, hx⟩ hg hr => ⟨x, h x s A C row hx hg hr⟩
theorem ownF_imp {I : β → World → Prop} (p : β → Prop) (h : OwnFrom B I) : OwnFrom B (fun k W => p k → I k W) := fun s A C row hs hg hr hp => h s A C row (hs hp) hg hr
theorem ownF_row (base e size : Nat) (v : β → Value) (n : β → Nat) (xs : β → List Value) : OwnFrom B (fun (k : β) W => W.ownsRow base e size (v k) (n k) (xs k)) := fun k A C row hs hg hr => by
  obtain ⟨h1, h2⟩ := hs
  refine ⟨h1, ?_⟩
  rcases h2 with h2 | ⟨g, cap, cur, hv, hb, hh, hrest⟩
  · exact .inl h2
  · exact .inr ⟨g, cap, cur, hv, hb, (grownBy_keeps_cells hg (fun r e => (hr r e).2) hh rfl).trans hh, hrest⟩
end
end Go.Proofs.Ytifcgimpgbeocaa
/- Check. -/
set_option linter.unusedVariables false
set_option linter.unusedSimpArgs false
namespace Go.Proofs.Ytifcgimpgbeocaa
open Go.RowKit
attribute [local go_sem] Oper.semAt_some
def chkTo (d : Ds) (k : Nat) : Bool := (d.take k).all isRec && incr (d.take k)
theorem incr_snoc : ∀ (l : Ds) (x : Rec), incr (l ++ [x]) = (incr l && match l.getLast? with | some y => ltB y.1 x.1 | none => true)
  | [], x => rfl
  | [a], x => by show (ltB a.1 x.1 && true) = (true && ltB a.1 x.1); simp
  | a :: b :: r, x => by
    have ih := incr_snoc (b :: r) x
    show (ltB a.1 b.1 && incr ((b :: r) ++ [x])) = ((ltB a.1 b.1 && incr (b :: r)) && _)
    rw [ih, Bool.and_assoc, List.getLast?_cons_cons]
def prevOk (d : Ds) (r : Rec) : Nat → Bool
  | 0 => true
  | m + 1 => match d[m]? with
    | some p => ltB p.1 r.1
    | none => true
theorem prevOk_pos {d : Ds} {r p : Rec} {k : Nat} (hk : 0 < k) (h : d[k - 1]? = some p) : prevOk d r k = ltB p.1 r.1 := by
  obtain ⟨m, rfl⟩ : ∃ m, k = m + 1 := ⟨k - 1, by omega⟩
  simp only [Nat.add_sub_cancel] at h
  show (match d[m]? with | some p => ltB p.1 r.1 | none => true) = _
  rw [h]
theorem chkTo_succ {d : Ds} {k : Nat} {r : Rec} (h : d[k]? = some r) : chkTo d (k + 1) = (chkTo d k && (isRec r && prevOk d r k)) := by
  obtain ⟨hk, rfl⟩ := List.getElem?_eq_some_iff.1 h
  unfold chkTo
  rw [List.take_succ_eq_append_getElem hk, List.all_append, incr_snoc]
  have e : (match (d.take k).getLast? with | some y => ltB y.1 (d[k]).1 | none => true) = prevOk d d[k] k := by
    cases k with
    | zero => rfl
    | succ m =>
      have : (d.take (m + 1)).getLast? = d[m]? := by rw [List.getLast?_eq_getElem?, List.length_take, List.getElem?_take_of_lt (by omega)]; congr 1; omega
      rw [this]; rfl
  rw [e]
  simp only [List.all_cons, List.all_nil, Bool.and_true]
  cases (d.take k).all isRec <;> cases incr (d.take k) <;> cases isRec (d[k]) <;> rfl
theorem chkTo_full {d : Ds} (h : d.length ≤ 64) : isDs d = chkTo d d.length := by
  unfold isDs chkTo
  rw [List.take_length]
  simp [h]
theorem incr_take {d : Ds} (k : Nat) (h : incr d = true) : incr (d.take k) = true := (incr_sorted _).2 (((incr_sorted d).1 h).sublist (List.take_sublist _ _))
theorem chkTo_bad {d : Ds} {k : Nat} (h : chkTo d k = false) : isDs d = false := by
  cases e : isDs d with
  | false => rfl
  | true =>
    unfold isDs at e
    simp only [Bool.and_eq_true] at e
    unfold chkTo at h
    have h1 : (d.take k).all isRec = true := List.all_eq_true.2 fun x hx => List.all_eq_true.1 e.2.1 x (List.mem_of_mem_take hx)
    rw [h1, incr_take k e.2.2] at h
    cases h
def chkE (b : Bool) : Int := if b = true then 0 else 140
set_option maxHeartbeats 2000000 in
set_option maxRecDepth 100000 in
theorem check_any (d : Ds) (v : Value) (w : World) (hR : RdR w v d) : Calls Try.prog 43 #[v] w (Ret (.int .i64 (chkE (isDs d))) w) := by
  obtain ⟨o, cap, rfl, hcap, hc⟩ := hR
  by_cases hl : d.length ≤ 64
  rotate_left
  · have e : isDs d = false := by
      unfold isDs
      have : decide (d.length ≤ 64) = false := by simpa using hl
      rw [this]; rfl
    rw [e]
    have d1 : decide ((64 : Int) < (d.length : Int)) = true := by simp; omega
    clear e hc
    go_enter Try.func43, Try.ntmps43
    go_wp2_with fail
    go_ret
    exact ⟨rfl, Below.refl _ _⟩
  have HC := hid hc
  have HFULL := hid (chkTo_full hl)
  obtain ⟨N, hN⟩ : ∃ N, d.length = N := ⟨_, rfl⟩
  rw [hN] at hl hcap HFULL ⊢
  have HN := hid hN
  obtain ⟨E, hE⟩ : ∃ E, chkE (isDs d) = E := ⟨_, rfl⟩
  rw [hE]
  have HE := hid hE
  clear hN hc hE
  have d1 : decide ((64 : Int) < (N : Int)) = false := by simp; omega
  go_enter Try.func43, Try.ntmps43
  go_wp2_with fail
  go_loopw [10] (fun i wr => ∃ k : Nat, i = .int .i64 k ∧ k ≤ N ∧ Hid (chkTo d k = true) ∧ Hid (Below w.heap.size w wr)) (fun i _ => N - (intOf i).toNat)
  case atStart => exact ⟨0, rfl, Nat.zero_le _, rfl, Below.refl _ _⟩
  case round =>
    obtain ⟨k, rfl, hk, HT, HB⟩ := hrel
    by_cases hlt : k < N
    rotate_left
    · have e : isDs d = true := by rw [HFULL.out]; have : k = N := by omega
                                   rw [← this]; exact HT.out
      have HEE : Hid (E = 0) := by unfold Hid; rw [← HE.out, e]; rfl
      clear e
      go_wp2_with fail
      go_ret
      exact ⟨ret_int HEE.out.symm, HB.out⟩
    obtain ⟨r, hr⟩ : ∃ r, d[k]? = some r := ⟨_, List.getElem?_eq_getElem (by have := HN.out; omega)⟩
    have hHC := HC.out
    rcases hHC with hc | ⟨b, off, rfl, hbl, hc⟩
    · rw [hc] at hr; simp at hr
    obtain ⟨c0, c1⟩ := hc k r hr
    have c0 := HB.out.cell (p := ⟨b, off + k * 2, none⟩) hbl |>.trans c0
    have c1 := HB.out.cell (p := ⟨b, off + k * 2 + 1, none⟩) hbl |>.trans c1
    have HST := hid (chkTo_succ hr)
    have HREC := hid (fun w => isrecord_any r w)
    have X0 : (wr.alloc (.cells #[strV r.1, strV r.2] 59)).cell? ⟨wr.heap.size, 0, none⟩ = some (strV r.1) := cell_new _ _ _ 0 _ rfl
    have X1 : (wr.alloc (.cells #[strV r.1, strV r.2] 59)).cell? ⟨wr.heap.size, 1, none⟩ = some (strV r.2) := cell_new _ _ _ 1 _ rfl
    have hz := HB.out.size
    have HB1 := hid (HB.out.alloc hz (.cells #[strV r.1, strV r.2] 59))
    have prev : ∀ m, k = m + 1 → ∃ p, d[m]? = some p ∧ (wr.alloc (.cells #[strV r.1, strV r.2] 59)).cell? ⟨b, off + (k - 1) * 2, none⟩ = some (strV p.1) := fun m hm => by
      obtain ⟨p, hp⟩ : ∃ p, d[m]? = some p := ⟨_, List.getElem?_eq_getElem (by have := HN.out; omega)⟩
      refine ⟨p, hp, ?_⟩
      have := (HB1.out.cell (p := ⟨b, off + m * 2, none⟩) hbl).trans (hc m p hp).1
      rw [show k - 1 = m by omega]; exact this
    have HPREV := hid prev
    clear hc hr prev
    go_upto_region 6 with (fail)
    cases er : isRec r with
    | false =>
      rw [er] at HREC
      have e : isDs d = false := chkTo_bad (k := k + 1) (by rw [HST.out, er]; simp)
      have HEE : Hid (E = 140) := by unfold Hid; rw [← HE.out, e]; rfl
      clear e er
      refine (fun hm hB S hS h => wp_region_freeL S hm hB hS h) (by kernel_rfl) (by kernel_rfl) (fun L w' => Below w.heap.size w w' ∧ w'.cell? ⟨wr.heap.size, 0, none⟩ = some (strV r.1) ∧ w'.cell? ⟨wr.heap.size, 1, none⟩ = some (strV r.2)) ⟨(HB1.out).drew, X0, X1⟩ ?_
      refine wpFreeL_val rfl (fun _ _ _ h => h) (fun K hK => ?_); apply Exists.intro; refine ⟨fun L w' hS => ?_, ?_⟩; (have hb := hS.1; have g0 := hS.2.1; have g1 := hS.2.2; clear hS; go_simp; rfl); (go_simp; refine hK _ ?_; clear hK K)
      refine wpFreeL_gen rfl (fun K hK => ?_); apply Exists.intro; refine ⟨fun L w' hcl hL hdep hS => ?_, ?_⟩
      · have hb := hS.1; have g0 := hS.2.1; have g1 := hS.2.2; go_simp; refine (HREC.out _).mono ?_; rintro e w1 ⟨rfl, hb1⟩; exact ⟨rfl, ⟨hb.trans (hb1.mono (by have := hb.size; omega)), keepc hb1 g0, keepc hb1 g1⟩⟩
      go_simp; refine hK _ ?_; clear hK K
      refine wpFreeL_val rfl (fun _ _ _ h => h) (fun K hK => ?_); apply Exists.intro; refine ⟨fun L w' hS => ?_, ?_⟩; (have hb := hS.1; have g0 := hS.2.1; have g1 := hS.2.2; clear hS; go_simp; rfl); (go_simp; refine hK _ ?_; clear hK K)
      refine wpFreeL_val rfl (fun _ _ _ h => h) (fun K hK => ?_); apply Exists.intro; refine ⟨fun L w' hS => ?_, ?_⟩; (have hb := hS.1; have g0 := hS.2.1; have g1 := hS.2.2; clear hS; go_simp; rfl); (go_simp; refine hK _ ?_; clear hK K)
      refine wpFreeL_skip rfl (fun _ _ _ h => h) (fun K hK => ?_); go_simp; refine hK _ ?_; clear hK K
      refine wpFreeL_skip rfl (fun _ _ _ h => h) (fun K hK => ?_); go_simp; refine hK _ ?_; clear hK K
      refine wpFreeL_skip rfl (fun _ _ _ h => h) (fun K hK => ?_); go_simp; refine hK _ ?_; clear hK K
      refine wpFreeL_skip rfl (fun _ _ _ h => h) (fun K hK => ?_); go_simp; refine hK _ ?_; clear hK K
      refine wpFreeL_skip rfl (fun _ _ _ h => h) (fun K hK => ?_); go_simp; refine hK _ ?_; clear hK K
      refine wpFreeL_skip rfl (fun _ _ _ h => h) (fun K hK => ?_); go_simp; refine hK _ ?_; clear hK K
      refine wpFreeL_skip rfl (fun _ _ _ h => h) (fun K hK => ?_); go_simp; refine hK _ ?_; clear hK K
      refine wpFreeL_skip rfl (fun _ _ _ h => h) (fun K hK => ?_); go_simp; refine hK _ ?_; clear hK K
      refine wpFreeL_skip rfl (fun _ _ _ h => h) (fun K hK => ?_); go_simp; refine hK _ ?_; clear hK K
      refine wpFreeL_skip rfl (fun _ _ _ h => h) (fun K hK => ?_); go_simp; refine hK _ ?_; clear hK K
      refine wpFreeL_skip rfl (fun _ _ _ h => h) (fun K hK => ?_); go_simp; refine hK _ ?_; clear hK K
      refine wpFreeL_skip rfl (fun _ _ _ h => h) (fun K hK => ?_); go_simp; refine hK _ ?_; clear hK K
      refine wpFreeL_skip rfl (fun _ _ _ h => h) (fun K hK => ?_); go_simp; refine hK _ ?_; clear hK K
      refine wpFreeL_val rfl (fun _ _ _ h => h) (fun K hK => ?_); apply Exists.intro; refine ⟨fun L w' hS => ?_, ?_⟩; (have hb := hS.1; have g0 := hS.2.1; have g1 := hS.2.2; clear hS; go_simp; rfl); (go_simp; refine hK _ ?_; clear hK K)
      refine wpFreeL_nil (fun L w' hL hS => ?_)
      have hb := hS.1; have g0 := hS.2.1; have g1 := hS.2.2
      clear hL hS

      go_wp2_with fail
      go_ret
      exact ⟨ret_int HEE.out.symm, hb⟩
    | true =>
      rw [er] at HREC
      by_cases hk0 : k = 0
      · subst hk0
        have HT1 : Hid (chkTo d (0 + 1) = true) := by unfold Hid; rw [HST.out, HT.out, er]; rfl
        clear HST er HPREV HT
        have z0 : decide ((0 : Int) < ((0 : Nat) : Int)) = false := rfl
        refine (fun hm hB S hS h => wp_region_freeL S hm hB hS h) (by kernel_rfl) (by kernel_rfl) (fun L w' => Below w.heap.size w w' ∧ w'.cell? ⟨wr.heap.size, 0, none⟩ = some (strV r.1) ∧ w'.cell? ⟨wr.heap.size, 1, none⟩ = some (strV r.2)) ⟨(HB1.out).drew, X0, X1⟩ ?_
        refine wpFreeL_val rfl (fun _ _ _ h => h) (fun K hK => ?_); apply Exists.intro; refine ⟨fun L w' hS => ?_, ?_⟩; (have hb := hS.1; have g0 := hS.2.1; have g1 := hS.2.2; clear hS; go_simp; rfl); (go_simp; refine hK _ ?_; clear hK K)
        refine wpFreeL_gen rfl (fun K hK => ?_); apply Exists.intro; refine ⟨fun L w' hcl hL hdep hS => ?_, ?_⟩
        · have hb := hS.1; have g0 := hS.2.1; have g1 := hS.2.2; go_simp; refine (HREC.out _).mono ?_; rintro e w1 ⟨rfl, hb1⟩; exact ⟨rfl, ⟨hb.trans (hb1.mono (by have := hb.size; omega)), keepc hb1 g0, keepc hb1 g1⟩⟩
        go_simp; refine hK _ ?_; clear hK K
        refine wpFreeL_val rfl (fun _ _ _ h => h) (fun K hK => ?_); apply Exists.intro; refine ⟨fun L w' hS => ?_, ?_⟩; (have hb := hS.1; have g0 := hS.2.1; have g1 := hS.2.2; clear hS; go_simp; rfl); (go_simp; refine hK _ ?_; clear hK K)
        refine wpFreeL_val rfl (fun _ _ _ h => h) (fun K hK => ?_); apply Exists.intro; refine ⟨fun L w' hS => ?_, ?_⟩; (have hb := hS.1; have g0 := hS.2.1; have g1 := hS.2.2; clear hS; go_simp; rfl); (go_simp; refine hK _ ?_; clear hK K)
        refine wpFreeL_val rfl (fun _ _ _ h => h) (fun K hK => ?_); apply Exists.intro; refine ⟨fun L w' hS => ?_, ?_⟩; (have hb := hS.1; have g0 := hS.2.1; have g1 := hS.2.2; clear hS; go_simp; rfl); (go_simp; refine hK _ ?_; clear hK K)
        refine wpFreeL_val rfl (fun _ _ _ h => h) (fun K hK => ?_); apply Exists.intro; refine ⟨fun L w' hS => ?_, ?_⟩; (have hb := hS.1; have g0 := hS.2.1; have g1 := hS.2.2; clear hS; go_simp; rfl); (go_simp; refine hK _ ?_; clear hK K)
        refine wpFreeL_val rfl (fun _ _ _ h => h) (fun K hK => ?_); apply Exists.intro; refine ⟨fun L w' hS => ?_, ?_⟩; (have hb := hS.1; have g0 := hS.2.1; have g1 := hS.2.2; clear hS; go_simp; rfl); (go_simp; refine hK _ ?_; clear hK K)
        refine wpFreeL_skip rfl (fun _ _ _ h => h) (fun K hK => ?_); go_simp; refine hK _ ?_; clear hK K
        refine wpFreeL_skip rfl (fun _ _ _ h => h) (fun K hK => ?_); go_simp; refine hK _ ?_; clear hK K
        refine wpFreeL_skip rfl (fun _ _ _ h => h) (fun K hK => ?_); go_simp; refine hK _ ?_; clear hK K
        refine wpFreeL_skip rfl (fun _ _ _ h => h) (fun K hK => ?_); go_simp; refine hK _ ?_; clear hK K
        refine wpFreeL_skip rfl (fun _ _ _ h => h) (fun K hK => ?_); go_simp; refine hK _ ?_; clear hK K
        refine wpFreeL_skip rfl (fun _ _ _ h => h) (fun K hK => ?_); go_simp; refine hK _ ?_; clear hK K
        refine wpFreeL_skip rfl (fun _ _ _ h => h) (fun K hK => ?_); go_simp; refine hK _ ?_; clear hK K
        refine wpFreeL_skip rfl (fun _ _ _ h => h) (fun K hK => ?_); go_simp; refine hK _ ?_; clear hK K
        refine wpFreeL_skip rfl (fun _ _ _ h => h) (fun K hK => ?_); go_simp; refine hK _ ?_; clear hK K
        refine wpFreeL_val rfl (fun _ _ _ h => h) (fun K hK => ?_); apply Exists.intro; refine ⟨fun L w' hS => ?_, ?_⟩; (have hb := hS.1; have g0 := hS.2.1; have g1 := hS.2.2; clear hS; go_simp; rfl); (go_simp; refine hK _ ?_; clear hK K)
        refine wpFreeL_val rfl (fun _ _ _ h => h) (fun K hK => ?_); apply Exists.intro; refine ⟨fun L w' hS => ?_, ?_⟩; (have hb := hS.1; have g0 := hS.2.1; have g1 := hS.2.2; clear hS; go_simp; rfl); (go_simp; refine hK _ ?_; clear hK K)
        refine wpFreeL_nil (fun L w' hL hS => ?_)
        have hb := hS.1; have g0 := hS.2.1; have g1 := hS.2.2
        clear hL hS

        go_wp2_with fail
        go_roundw
        case rel => exact ⟨0 + 1, rfl, by omega, HT1, hb⟩
        case measure => simp [intOf]; omega
      · have hkp : 0 < k := by omega
        obtain ⟨p, hp, P0⟩ := HPREV.out (k - 1) (by omega)
        have ep : prevOk d r k = ltB p.1 r.1 := prevOk_pos hkp hp
        have HST2 : Hid (chkTo d (k + 1) = ltB p.1 r.1) := by unfold Hid; rw [HST.out, HT.out, er, ep]; simp
        clear ep er HST hk0 hp HPREV
        have w0 : IntKind.i64.wrap ((k : Int) - 1) = (k : Int) - 1 := IntWalk.i64_in _ ⟨by omega, by omega⟩
        have w1 : (0 : Int) ≤ (k : Int) - 1 := by omega
        have w1' : (1 : Int) ≤ (k : Int) := by omega
        have w2 : (k : Int) - 1 < (N : Int) := by omega
        have w3 : ((k : Int) - 1).toNat = k - 1 := by omega
        have z0 : decide ((0 : Int) < (k : Int)) = true := by simp; omega
        cases el : ltB p.1 r.1 with
        | true =>
          have HT1 : Hid (chkTo d (k + 1) = true) := HST2.out.trans el
          have el' : Op.bytesLess p.1 r.1 = true := el
          clear HST2 el HT
          refine (fun hm hB S hS h => wp_region_freeL S hm hB hS h) (by kernel_rfl) (by kernel_rfl) (fun L w' => Below w.heap.size w w' ∧ w'.cell? ⟨wr.heap.size, 0, none⟩ = some (strV r.1) ∧ w'.cell? ⟨wr.heap.size, 1, none⟩ = some (strV r.2) ∧ w'.cell? ⟨b, off + (k - 1) * 2, none⟩ = some (strV p.1)) ⟨(HB1.out).drew, X0, X1, P0⟩ ?_
          refine wpFreeL_val rfl (fun _ _ _ h => h) (fun K hK => ?_); apply Exists.intro; refine ⟨fun L w' hS => ?_, ?_⟩; (have hb := hS.1; have g0 := hS.2.1; have g1 := hS.2.2.1; have g2 := hS.2.2.2; clear hS; go_simp; rfl); (go_simp; refine hK _ ?_; clear hK K)
          refine wpFreeL_gen rfl (fun K hK => ?_); apply Exists.intro; refine ⟨fun L w' hcl hL hdep hS => ?_, ?_⟩
          · have hb := hS.1; have g0 := hS.2.1; have g1 := hS.2.2.1; have g2 := hS.2.2.2; go_simp; refine (HREC.out _).mono ?_; rintro e w1 ⟨rfl, hb1⟩; exact ⟨rfl, ⟨hb.trans (hb1.mono (by have := hb.size; omega)), keepc hb1 g0, keepc hb1 g1, keepc hb1 g2⟩⟩
          go_simp; refine hK _ ?_; clear hK K
          refine wpFreeL_val rfl (fun _ _ _ h => h) (fun K hK => ?_); apply Exists.intro; refine ⟨fun L w' hS => ?_, ?_⟩; (have hb := hS.1; have g0 := hS.2.1; have g1 := hS.2.2.1; have g2 := hS.2.2.2; clear hS; go_simp; rfl); (go_simp; refine hK _ ?_; clear hK K)
          refine wpFreeL_val rfl (fun _ _ _ h => h) (fun K hK => ?_); apply Exists.intro; refine ⟨fun L w' hS => ?_, ?_⟩; (have hb := hS.1; have g0 := hS.2.1; have g1 := hS.2.2.1; have g2 := hS.2.2.2; clear hS; go_simp; rfl); (go_simp; refine hK _ ?_; clear hK K)
          refine wpFreeL_val rfl (fun _ _ _ h => h) (fun K hK => ?_); apply Exists.intro; refine ⟨fun L w' hS => ?_, ?_⟩; (have hb := hS.1; have g0 := hS.2.1; have g1 := hS.2.2.1; have g2 := hS.2.2.2; clear hS; go_simp; rfl); (go_simp; refine hK _ ?_; clear hK K)
          refine wpFreeL_val rfl (fun _ _ _ h => h) (fun K hK => ?_); apply Exists.intro; refine ⟨fun L w' hS => ?_, ?_⟩; (have hb := hS.1; have g0 := hS.2.1; have g1 := hS.2.2.1; have g2 := hS.2.2.2; clear hS; go_simp; rfl); (go_simp; refine hK _ ?_; clear hK K)
          refine wpFreeL_val rfl (fun _ _ _ h => h) (fun K hK => ?_); apply Exists.intro; refine ⟨fun L w' hS => ?_, ?_⟩; (have hb := hS.1; have g0 := hS.2.1; have g1 := hS.2.2.1; have g2 := hS.2.2.2; clear hS; go_simp; rfl); (go_simp; refine hK _ ?_; clear hK K)
          refine wpFreeL_val rfl (fun _ _ _ h => h) (fun K hK => ?_); apply Exists.intro; refine ⟨fun L w' hS => ?_, ?_⟩; (have hb := hS.1; have g0 := hS.2.1; have g1 := hS.2.2.1; have g2 := hS.2.2.2; clear hS; go_simp; rfl); (go_simp; refine hK _ ?_; clear hK K)
          refine wpFreeL_val rfl (fun _ _ _ h => h) (fun K hK => ?_); apply Exists.intro; refine ⟨fun L w' hS => ?_, ?_⟩; (have hb := hS.1; have g0 := hS.2.1; have g1 := hS.2.2.1; have g2 := hS.2.2.2; clear hS; go_simp; rfl); (go_simp; refine hK _ ?_; clear hK K)
          refine wpFreeL_val rfl (fun _ _ _ h => h) (fun K hK => ?_); apply Exists.intro; refine ⟨fun L w' hS => ?_, ?_⟩; (have hb := hS.1; have g0 := hS.2.1; have g1 := hS.2.2.1; have g2 := hS.2.2.2; clear hS; go_simp; rfl); (go_simp; refine hK _ ?_; clear hK K)
          refine wpFreeL_val rfl (fun _ _ _ h => h) (fun K hK => ?_); apply Exists.intro; refine ⟨fun L w' hS => ?_, ?_⟩; (have hb := hS.1; have g0 := hS.2.1; have g1 := hS.2.2.1; have g2 := hS.2.2.2; clear hS; go_simp; rfl); (go_simp; refine hK _ ?_; clear hK K)
          refine wpFreeL_val rfl (fun _ _ _ h => h) (fun K hK => ?_); apply Exists.intro; refine ⟨fun L w' hS => ?_, ?_⟩; (have hb := hS.1; have g0 := hS.2.1; have g1 := hS.2.2.1; have g2 := hS.2.2.2; clear hS; go_simp; rfl); (go_simp; refine hK _ ?_; clear hK K)
          refine wpFreeL_val rfl (fun _ _ _ h => h) (fun K hK => ?_); apply Exists.intro; refine ⟨fun L w' hS => ?_, ?_⟩; (have hb := hS.1; have g0 := hS.2.1; have g1 := hS.2.2.1; have g2 := hS.2.2.2; clear hS; go_simp; rfl); (go_simp; refine hK _ ?_; clear hK K)
          refine wpFreeL_val rfl (fun _ _ _ h => h) (fun K hK => ?_); apply Exists.intro; refine ⟨fun L w' hS => ?_, ?_⟩; (have hb := hS.1; have g0 := hS.2.1; have g1 := hS.2.2.1; have g2 := hS.2.2.2; clear hS; go_simp; rfl); (go_simp; refine hK _ ?_; clear hK K)
          refine wpFreeL_val rfl (fun _ _ _ h => h) (fun K hK => ?_); apply Exists.intro; refine ⟨fun L w' hS => ?_, ?_⟩; (have hb := hS.1; have g0 := hS.2.1; have g1 := hS.2.2.1; have g2 := hS.2.2.2; clear hS; go_simp; rfl); (go_simp; refine hK _ ?_; clear hK K)
          refine wpFreeL_val rfl (fun _ _ _ h => h) (fun K hK => ?_); apply Exists.intro; refine ⟨fun L w' hS => ?_, ?_⟩; (have hb := hS.1; have g0 := hS.2.1; have g1 := hS.2.2.1; have g2 := hS.2.2.2; clear hS; go_simp; rfl); (go_simp; refine hK _ ?_; clear hK K)
          refine wpFreeL_val rfl (fun _ _ _ h => h) (fun K hK => ?_); apply Exists.intro; refine ⟨fun L w' hS => ?_, ?_⟩; (have hb := hS.1; have g0 := hS.2.1; have g1 := hS.2.2.1; have g2 := hS.2.2.2; clear hS; go_simp; rfl); (go_simp; refine hK _ ?_; clear hK K)
          refine wpFreeL_val rfl (fun _ _ _ h => h) (fun K hK => ?_); apply Exists.intro; refine ⟨fun L w' hS => ?_, ?_⟩; (have hb := hS.1; have g0 := hS.2.1; have g1 := hS.2.2.1; have g2 := hS.2.2.2; clear hS; go_simp; rfl); (go_simp; refine hK _ ?_; clear hK K)
          refine wpFreeL_nil (fun L w' hL hS => ?_)
          have hb := hS.1; have g0 := hS.2.1; have g1 := hS.2.2.1; have g2 := hS.2.2.2
          clear hL hS

          go_wp2_with fail
          go_roundw
          case rel => exact ⟨k + 1, by go_num, by omega, HT1, hb⟩
          case measure => simp [intOf]; omega
        | false =>
          have e : isDs d = false := chkTo_bad (k := k + 1) (HST2.out.trans el)
          have HEE : Hid (E = 140) := by unfold Hid; rw [← HE.out, e]; rfl
          have el' : Op.bytesLess p.1 r.1 = false := el
          clear HST2 el HT e
          refine (fun hm hB S hS h => wp_region_freeL S hm hB hS h) (by kernel_rfl) (by kernel_rfl) (fun L w' => Below w.heap.size w w' ∧ w'.cell? ⟨wr.heap.size, 0, none⟩ = some (strV r.1) ∧ w'.cell? ⟨wr.heap.size, 1, none⟩ = some (strV r.2) ∧ w'.cell? ⟨b, off + (k - 1) * 2, none⟩ = some (strV p.1)) ⟨(HB1.out).drew, X0, X1, P0⟩ ?_
          refine wpFreeL_val rfl (fun _ _ _ h => h) (fun K hK => ?_); apply Exists.intro; refine ⟨fun L w' hS => ?_, ?_⟩; (have hb := hS.1; have g0 := hS.2.1; have g1 := hS.2.2.1; have g2 := hS.2.2.2; clear hS; go_simp; rfl); (go_simp; refine hK _ ?_; clear hK K)
          refine wpFreeL_gen rfl (fun K hK => ?_); apply Exists.intro; refine ⟨fun L w' hcl hL hdep hS => ?_, ?_⟩
          · have hb := hS.1; have g0 := hS.2.1; have g1 := hS.2.2.1; have g2 := hS.2.2.2; go_simp; refine (HREC.out _).mono ?_; rintro e w1 ⟨rfl, hb1⟩; exact ⟨rfl, ⟨hb.trans (hb1.mono (by have := hb.size; omega)), keepc hb1 g0, keepc hb1 g1, keepc hb1 g2⟩⟩
          go_simp; refine hK _ ?_; clear hK K
          refine wpFreeL_val rfl (fun _ _ _ h => h) (fun K hK => ?_); apply Exists.intro; refine ⟨fun L w' hS => ?_, ?_⟩; (have hb := hS.1; have g0 := hS.2.1; have g1 := hS.2.2.1; have g2 := hS.2.2.2; clear hS; go_simp; rfl); (go_simp; refine hK _ ?_; clear hK K)
          refine wpFreeL_val rfl (fun _ _ _ h => h) (fun K hK => ?_); apply Exists.intro; refine ⟨fun L w' hS => ?_, ?_⟩; (have hb := hS.1; have g0 := hS.2.1; have g1 := hS.2.2.1; have g2 := hS.2.2.2; clear hS; go_simp; rfl); (go_simp; refine hK _ ?_; clear hK K)
          refine wpFreeL_val rfl (fun _ _ _ h => h) (fun K hK => ?_); apply Exists.intro; refine ⟨fun L w' hS => ?_, ?_⟩; (have hb := hS.1; have g0 := hS.2.1; have g1 := hS.2.2.1; have g2 := hS.2.2.2; clear hS; go_simp; rfl); (go_simp; refine hK _ ?_; clear hK K)
          refine wpFreeL_val rfl (fun _ _ _ h => h) (fun K hK => ?_); apply Exists.intro; refine ⟨fun L w' hS => ?_, ?_⟩; (have hb := hS.1; have g0 := hS.2.1; have g1 := hS.2.2.1; have g2 := hS.2.2.2; clear hS; go_simp; rfl); (go_simp; refine hK _ ?_; clear hK K)
          refine wpFreeL_val rfl (fun _ _ _ h => h) (fun K hK => ?_); apply Exists.intro; refine ⟨fun L w' hS => ?_, ?_⟩; (have hb := hS.1; have g0 := hS.2.1; have g1 := hS.2.2.1; have g2 := hS.2.2.2; clear hS; go_simp; rfl); (go_simp; refine hK _ ?_; clear hK K)
          refine wpFreeL_val rfl (fun _ _ _ h => h) (fun K hK => ?_); apply Exists.intro; refine ⟨fun L w' hS => ?_, ?_⟩; (have hb := hS.1; have g0 := hS.2.1; have g1 := hS.2.2.1; have g2 := hS.2.2.2; clear hS; go_simp; rfl); (go_simp; refine hK _ ?_; clear hK K)
          refine wpFreeL_val rfl (fun _ _ _ h => h) (fun K hK => ?_); apply Exists.intro; refine ⟨fun L w' hS => ?_, ?_⟩; (have hb := hS.1; have g0 := hS.2.1; have g1 := hS.2.2.1; have g2 := hS.2.2.2; clear hS; go_simp; rfl); (go_simp; refine hK _ ?_; clear hK K)
          refine wpFreeL_val rfl (fun _ _ _ h => h) (fun K hK => ?_); apply Exists.intro; refine ⟨fun L w' hS => ?_, ?_⟩; (have hb := hS.1; have g0 := hS.2.1; have g1 := hS.2.2.1; have g2 := hS.2.2.2; clear hS; go_simp; rfl); (go_simp; refine hK _ ?_; clear hK K)
          refine wpFreeL_val rfl (fun _ _ _ h => h) (fun K hK => ?_); apply Exists.intro; refine ⟨fun L w' hS => ?_, ?_⟩; (have hb := hS.1; have g0 := hS.2.1; have g1 := hS.2.2.1; have g2 := hS.2.2.2; clear hS; go_simp; rfl); (go_simp; refine hK _ ?_; clear hK K)
          refine wpFreeL_val rfl (fun _ _ _ h => h) (fun K hK => ?_); apply Exists.intro; refine ⟨fun L w' hS => ?_, ?_⟩; (have hb := hS.1; have g0 := hS.2.1; have g1 := hS.2.2.1; have g2 := hS.2.2.2; clear hS; go_simp; rfl); (go_simp; refine hK _ ?_; clear hK K)
          refine wpFreeL_val rfl (fun _ _ _ h => h) (fun K hK => ?_); apply Exists.intro; refine ⟨fun L w' hS => ?_, ?_⟩; (have hb := hS.1; have g0 := hS.2.1; have g1 := hS.2.2.1; have g2 := hS.2.2.2; clear hS; go_simp; rfl); (go_simp; refine hK _ ?_; clear hK K)
          refine wpFreeL_val rfl (fun _ _ _ h => h) (fun K hK => ?_); apply Exists.intro; refine ⟨fun L w' hS => ?_, ?_⟩; (have hb := hS.1; have g0 := hS.2.1; have g1 := hS.2.2.1; have g2 := hS.2.2.2; clear hS; go_simp; rfl); (go_simp; refine hK _ ?_; clear hK K)
          refine wpFreeL_val rfl (fun _ _ _ h => h) (fun K hK => ?_); apply Exists.intro; refine ⟨fun L w' hS => ?_, ?_⟩; (have hb := hS.1; have g0 := hS.2.1; have g1 := hS.2.2.1; have g2 := hS.2.2.2; clear hS; go_simp; rfl); (go_simp; refine hK _ ?_; clear hK K)
          refine wpFreeL_val rfl (fun _ _ _ h => h) (fun K hK => ?_); apply Exists.intro; refine ⟨fun L w' hS => ?_, ?_⟩; (have hb := hS.1; have g0 := hS.2.1; have g1 := hS.2.2.1; have g2 := hS.2.2.2; clear hS; go_simp; rfl); (go_simp; refine hK _ ?_; clear hK K)
          refine wpFreeL_val rfl (fun _ _ _ h => h) (fun K hK => ?_); apply Exists.intro; refine ⟨fun L w' hS => ?_, ?_⟩; (have hb := hS.1; have g0 := hS.2.1; have g1 := hS.2.2.1; have g2 := hS.2.2.2; clear hS; go_simp; rfl); (go_simp; refine hK _ ?_; clear hK K)
          refine wpFreeL_val rfl (fun _ _ _ h => h) (fun K hK => ?_); apply Exists.intro; refine ⟨fun L w' hS => ?_, ?_⟩; (have hb := hS.1; have g0 := hS.2.1; have g1 := hS.2.2.1; have g2 := hS.2.2.2; clear hS; go_simp; rfl); (go_simp; refine hK _ ?_; clear hK K)
          refine wpFreeL_nil (fun L w' hL hS => ?_)
          have hb := hS.1; have g0 := hS.2.1; have g1 := hS.2.2.1; have g2 := hS.2.2.2
          clear hL hS

          go_wp2_with fail
          go_ret
          exact ⟨ret_int HEE.out.symm, hb⟩
end Go.Proofs.Ytifcgimpgbeocaa
