/- What the methods of a store make of what it keeps: cells of the store's own block set anew. -/
import Derived.Test.YtifcgimpgbeocaaGreatK11
import Derived.Test.YtifcgimpgbeocaaGreatK6
set_option linter.unusedVariables false
set_option linter.unusedSimpArgs false
namespace Go.Proofs.YtifcgimpgbeocaaGreat
open Go.RowKit
theorem SA.inS {w w9 : World} {U : Nat → Prop} {S D : Nat} {vp vq va vw vd vk : Value} {us ks : List Value} {st : St} (hf : Frm (fun k => k = S) w w9) (hdv : DA w D vp vq va st.dk st.acts) (hult : ∀ k, U k → k < w.heap.size) (huF : ∀ k, FSt S D va vw vd k → U k)
    (huR : ∀ v, v ∈ vp :: vq :: vk :: (us ++ ks) → ∀ k, v.ownBlock = some k → U k ∧ ¬ FSt S D va vw vd k) (hsd : S ≠ D) (hno : ∀ v, v = va ∨ v = vw ∨ v = vd → v.ownBlock ≠ some S ∧ v.ownBlock ≠ some D)
    (s0 : w9.cell? ⟨S, 0, none⟩ = some (.pointer (some ⟨D, 0, none⟩))) (s1 : w9.cell? ⟨S, 1, none⟩ = some (.int .i64 st.hd.1)) (s2 : w9.cell? ⟨S, 2, none⟩ = some (.int .i64 st.hd.2.1)) (s3 : w9.cell? ⟨S, 3, none⟩ = some (.int .i64 st.hd.2.2.1)) (s4 : w9.cell? ⟨S, 4, none⟩ = some (.int .i64 st.hd.2.2.2))
    (s5 : w9.cell? ⟨S, 5, none⟩ = some (strV st.log)) (s6 : w9.cell? ⟨S, 6, none⟩ = some vw) (s7 : w9.cell? ⟨S, 7, none⟩ = some vd) (s8 : w9.cell? ⟨S, 8, none⟩ = some vk) (fz : ∀ j, w9.frozen? ⟨S, j, none⟩ = false)
    (ow : OO w 0 vw st.ops) (od : OV w 0 vd us) (ul : us.length = st.now.length) (ur : ∀ (i : Nat) (u : Value) (d : Ds), us[i]? = some u → st.now[i]? = some d → OR w 0 u d)
    (ok : OV w 0 vk ks) (kl : ks.length = st.kept.length) (kr : ∀ (i : Nat) (u : Value) (d : Ds), ks[i]? = some u → st.kept[i]? = some d → OR w 0 u d) : SA w9 U S D vp vq va vw vd vk us ks st := by
  have hblk : ∀ k, k < w.heap.size → k ≠ S → w9.heap[k]? = w.heap[k]? := fun k h1 h2 => hf.block k h1 h2
  have hR : ∀ x, x ∈ vp :: vq :: vk :: (us ++ ks) → ∀ k, x.ownBlock = some k → w9.heap[k]? = w.heap[k]? := fun x hx k hk => hblk k (hult k (huR x hx k hk).1) (fun e => (huR x hx k hk).2 (.inl e))
  exact ⟨fun k hk => Nat.lt_of_lt_of_le (hult k hk) hf.size, huF, huR, hsd, hno, s0, s1, s2, s3, s4, s5, s6, s7, s8, fz,
    hdv.blocks hf.size (fun k hk hc => hblk k hk (by
      rcases hc with rfl | hc | hc | hc
      · exact fun e => hsd e.symm
      · exact fun e => (hno va (.inl rfl)).1 (by rw [hc, e])
      · exact fun e => (huR vp (by simp) k hc).2 (.inl e)
      · exact fun e => (huR vq (by simp) k hc).2 (.inl e))) (fun k hk => hult k (huR vp (by simp) k hk).1) (fun k hk => hult k (huR vq (by simp) k hk).1),
    ownsRow_of_block ow (fun k hk => hblk k (World.ownsRow.lt ow k hk).2 (fun e => (hno vw (.inr (.inl rfl))).1 (by rw [hk, e]))),
    ownsRow_of_block od (fun k hk => hblk k (World.ownsRow.lt od k hk).2 (fun e => (hno vd (.inr (.inr rfl))).1 (by rw [hk, e]))), ul,
    fun i u d hu hd => ownsRow_of_block (ur i u d hu hd) (hR u (SA.mem_us hu)), ownsRow_of_block ok (hR vk (by simp)), kl, fun i u d hu hd => ownsRow_of_block (kr i u d hu hd) (hR u (SA.mem_ks hu))⟩
variable {w : World} {U : Nat → Prop} {S D : Nat} {vp vq va vw vd vk : Value} {us ks : List Value} {st : St}
theorem SA.rdNow (h : SA w U S D vp vq va vw vd vk us ks st) : RdD w vd st.now := OD.rd (B := 0) ⟨us, h.ul, h.od, h.ur⟩
theorem SA.rdKept (h : SA w U S D vp vq va vw vd vk us ks st) : RdD w vk st.kept := OD.rd (B := 0) ⟨ks, h.kl, h.ok, h.kr⟩
theorem setS (w : World) (S i : Nat) (v : Value) (j : Nat) (h : j ≠ i) : (w.setCell ⟨S, i, none⟩ v).cell? ⟨S, j, none⟩ = w.cell? ⟨S, j, none⟩ := World.cell?_setCell_other _ _ _ _ (fun e => h (by cases e; rfl))
/-- The datasets are those of the last commit again. -/
theorem SA.undo_post {W8 : World} (h : SA w U S D vp vq va vw vd vk us ks st) (hb : Below w.heap.size w W8) {B : Nat} {v : Value} (ho : OD W8 B v st.kept) (hB : w.heap.size ≤ B) :
    ∃ U', So ((W8.setCell ⟨S, 7, none⟩ v).setCell ⟨S, 6, none⟩ (.slice none 0 0)) U' S (undoD st) ∧ Frm U w ((W8.setCell ⟨S, 7, none⟩ v).setCell ⟨S, 6, none⟩ (.slice none 0 0)) ∧ ∀ k, U' k → U k ∨ w.heap.size ≤ k := by
  obtain ⟨us', hul, hod, hur⟩ := ho
  have h8 := h.below hb
  have hvo : ∀ k, v.ownBlock = some k → B ≤ k ∧ k < W8.heap.size := fun k hk => World.ownsRow.lt hod k hk
  have hSl := h.ult S (h.uF S (.inl rfl))
  have hDl := h.ult D (h.uF D (.inr (.inl rfl)))
  have huo : ∀ u, u ∈ us' → ∀ k, u.ownBlock = some k → B ≤ k ∧ k < W8.heap.size ∧ v.ownBlock ≠ some k := fun u hu k hk => by
    obtain ⟨i, hi⟩ := List.getElem?_of_mem hu
    obtain ⟨d, hd⟩ : ∃ d, st.kept[i]? = some d := ⟨_, List.getElem?_eq_getElem (by have := (List.getElem?_eq_some_iff.1 hi).1; omega)⟩
    have h1 := hur i u d hi hd
    refine ⟨(World.ownsRow.lt h1 k hk).1, (World.ownsRow.lt h1 k hk).2, fun e => ?_⟩
    rcases rows_apart h1 hod (by decide) with h2 | h2
    · rw [h2] at hk; cases hk
    · exact h2 (by rw [hk, e])
  have hvS : v.ownBlock ≠ some S := fun e => by have := (hvo S e).1; omega
  have hvD : v.ownBlock ≠ some D := fun e => by have := (hvo D e).1; omega
  have hf : Frm (fun k => k = S) W8 ((W8.setCell ⟨S, 7, none⟩ v).setCell ⟨S, 6, none⟩ (.slice none 0 0)) := frm_setCell (frm_setCell (Frm.refl _ _) (by rfl) _) (by rfl) _
  have hcell : ∀ j, j ≠ 7 → j ≠ 6 → ((W8.setCell ⟨S, 7, none⟩ v).setCell ⟨S, 6, none⟩ (.slice none 0 0)).cell? ⟨S, j, none⟩ = W8.cell? ⟨S, j, none⟩ := fun j h1 h2 => by rw [setS _ _ _ _ _ h2, setS _ _ _ _ _ h1]
  refine ⟨fun k => U k ∨ v.ownBlock = some k ∨ ∃ u ∈ us', u.ownBlock = some k, ⟨D, vp, vq, va, .slice none 0 0, v, vk, us', ks, SA.inS (w := W8) hf h8.dv ?_ ?_ ?_ h.sd ?_ ?_ ?_ ?_ ?_ ?_ ?_ ?_ ?_ ?_ ?_ (oO_nil _ _) (hod.mono (Nat.zero_le _)) hul (fun i u d hu hd => (hur i u d hu hd).mono (Nat.zero_le _)) h8.ok h8.kl h8.kr⟩, ?_, ?_⟩
  · rintro k (hk | hk | ⟨u, hu, hk⟩)
    · exact h8.ult k hk
    · exact (hvo k hk).2
    · exact (huo u hu k hk).2.1
  · rintro k (hk | hk | hk | hk | hk)
    · exact .inl (h.uF k (.inl hk))
    · exact .inl (h.uF k (.inr (.inl hk)))
    · exact .inl (h.uF k (.inr (.inr (.inl hk))))
    · cases hk
    · exact .inr (.inl hk)
  · intro x hx k hk
    have hold : x ∈ vp :: vq :: vk :: (us ++ ks) → (U k ∨ v.ownBlock = some k ∨ ∃ u ∈ us', u.ownBlock = some k) ∧ ¬ FSt S D va (.slice none 0 0) v k := fun hx' => by
      refine ⟨.inl (h.uR x hx' k hk).1, fun hf => ?_⟩
      rcases hf with hf | hf | hf | hf | hf
      · exact (h.uR x hx' k hk).2 (.inl hf)
      · exact (h.uR x hx' k hk).2 (.inr (.inl hf))
      · exact (h.uR x hx' k hk).2 (.inr (.inr (.inl hf)))
      · cases hf
      · have h1 := (hvo k hf).1; have h2 := h.ult k (h.uR x hx' k hk).1; omega
    simp only [List.mem_cons, List.mem_append] at hx
    rcases hx with hx | hx | hx | hx | hx
    · exact hold (by simp [hx])
    · exact hold (by simp [hx])
    · exact hold (by simp [hx])
    · refine ⟨.inr (.inr ⟨x, hx, hk⟩), fun hf => ?_⟩
      have h1 := huo x hx k hk
      rcases hf with hf | hf | hf | hf | hf
      · omega
      · omega
      · have := h.ult k (h.uF k (.inr (.inr (.inl hf)))); omega
      · cases hf
      · exact h1.2.2 hf
    · exact hold (by simp [hx])
  · rintro x (rfl | rfl | rfl)
    · exact h.no x (.inl rfl)
    · exact ⟨by simp [Value.ownBlock], by simp [Value.ownBlock]⟩
    · exact ⟨hvS, hvD⟩
  · rw [hcell _ (by decide) (by decide)]; exact h8.s0
  · rw [hcell _ (by decide) (by decide)]; exact h8.s1
  · rw [hcell _ (by decide) (by decide)]; exact h8.s2
  · rw [hcell _ (by decide) (by decide)]; exact h8.s3
  · rw [hcell _ (by decide) (by decide)]; exact h8.s4
  · rw [hcell _ (by decide) (by decide)]; exact h8.s5
  · exact World.cell?_setCell_same _ _ _ (by rw [setS _ _ _ _ _ (by decide)]; exact h8.s6)
  · rw [setS _ _ _ _ _ (by decide)]; exact World.cell?_setCell_same _ _ _ h8.s7
  · rw [hcell _ (by decide) (by decide)]; exact h8.s8
  · intro j; rw [World.frozen?_setCell, World.frozen?_setCell]; exact h8.fz j
  · exact frm_setCell (frm_setCell (Frm.of_below hb) (h.uF S (.inl rfl)) _) (h.uF S (.inl rfl)) _
  · rintro k (hk | hk | ⟨u, hu, hk⟩)
    · exact .inl hk
    · exact .inr (by have := (hvo k hk).1; omega)
    · exact .inr (by have := (huo u hu k hk).1; omega)
end Go.Proofs.YtifcgimpgbeocaaGreat
/- An operation is laid behind those since the last commit. -/
set_option linter.unusedVariables false
set_option linter.unusedSimpArgs false
namespace Go.Proofs.YtifcgimpgbeocaaGreat
open Go.RowKit
theorem So.frm {w w' : World} {U F : Nat → Prop} {S : Nat} {st : St} (h : So w U S st) (hf : Frm F w w') (hF : ∀ k, U k → ¬ F k) : So w' U S st := by
  obtain ⟨D, vp, vq, va, vw, vd, vk, us, ks, h⟩ := h
  exact ⟨D, vp, vq, va, vw, vd, vk, us, ks, h.frm hf hF⟩
theorem So.below {w w' : World} {U : Nat → Prop} {S : Nat} {st : St} (h : So w U S st) (hb : Below w.heap.size w w') : So w' U S st := by
  obtain ⟨D, vp, vq, va, vw, vd, vk, us, ks, h⟩ := h
  exact ⟨D, vp, vq, va, vw, vd, vk, us, ks, h.below hb⟩
theorem So.lt {w : World} {U : Nat → Prop} {S : Nat} {st : St} (h : So w U S st) : ∀ k, U k → k < w.heap.size := by
  obtain ⟨D, vp, vq, va, vw, vd, vk, us, ks, h⟩ := h
  exact h.ult
theorem doData_err {data : List Ds} {o : FOp} (h : (doData data o).2.2 ≠ 0) : (doData data o).1 = data := by
  unfold doData at *
  split
  · rename_i h1
    rw [if_pos h1] at h
    split
    · rename_i h2
      rw [if_pos h2] at h
      exact absurd h2 h
    · rfl
  · rfl
variable {w : World} {U : Nat → Prop} {S D : Nat} {vp vq va vw vd vk : Value} {us ks : List Value} {st : St}
theorem SA.wait (h : SA w U S D vp vq va vw vd vk us ks st) {X w4 : World} {v4 : Value} {o : FOp} (hX : Below w.heap.size w X) (hg : X.grownBy w4 vw.ownBlock) (ho : OO w4 0 v4 (st.ops ++ [o])) (hat : v4.ownBlock = vw.ownBlock ∨ v4.ownBlock = some X.heap.size) :
    SA (w4.setCell ⟨S, 6, none⟩ v4) (fun k => U k ∨ v4.ownBlock = some k) S D vp vq va v4 vd vk us ks { st with ops := st.ops ++ [o] } := by
  have h8 := h.below hX
  have hSl := h.ult S (h.uF S (.inl rfl))
  have hDl := h.ult D (h.uF D (.inr (.inl rfl)))
  have hXz := hX.size
  have hvwS := h.no vw (.inr (.inl rfl))
  have hblk : ∀ k, k < X.heap.size → vw.ownBlock ≠ some k → w4.heap[k]? = X.heap[k]? := fun k h1 h2 => hg.block k h1 (fun e => h2 e.symm)
  have hR : ∀ x, x ∈ vp :: vq :: vk :: (us ++ ks) → ∀ k, x.ownBlock = some k → w4.heap[k]? = X.heap[k]? := fun x hx k hk => hblk k (h8.ult k (h8.uR x hx k hk).1) (fun e => (h8.uR x hx k hk).2 (.inr (.inr (.inr (.inl e)))))
  have hapA := rows_apart h8.dv.oa h8.ow (by decide)
  have hapV := rows_apart h8.od h8.ow (by decide)
  have hva : ∀ k, va.ownBlock = some k → vw.ownBlock ≠ some k := fun k hk e => by
    rcases hapA with h1 | h1
    · rw [h1] at hk; cases hk
    · exact h1 (by rw [hk, e])
  have hvd : ∀ k, vd.ownBlock = some k → vw.ownBlock ≠ some k := fun k hk e => by
    rcases hapV with h1 | h1
    · rw [h1] at hk; cases hk
    · exact h1 (by rw [hk, e])
  have hn4 : v4.ownBlock ≠ some S ∧ v4.ownBlock ≠ some D := by
    rcases hat with h1 | h1
    · rw [h1]; exact hvwS
    · rw [h1]; simp only [ne_eq, Option.some.injEq]; omega
  have hS := hblk S (by omega) hvwS.1
  have hcell : ∀ j, j ≠ 6 → ∀ v, X.cell? ⟨S, j, none⟩ = some v → (w4.setCell ⟨S, 6, none⟩ v4).cell? ⟨S, j, none⟩ = some v := fun j hj v hv => by rw [setS _ _ _ _ _ hj]; exact cell_at hS hv
  refine SA.inS (w := w4) (frm_setCell (Frm.refl _ _) (by rfl) _) ?_ ?_ ?_ ?_ h.sd ?_ (hcell 0 (by decide) _ h8.s0) (hcell 1 (by decide) _ h8.s1) (hcell 2 (by decide) _ h8.s2) (hcell 3 (by decide) _ h8.s3) (hcell 4 (by decide) _ h8.s4) (hcell 5 (by decide) _ h8.s5) ?_ (hcell 7 (by decide) _ h8.s7) (hcell 8 (by decide) _ h8.s8) ?_ ho ?_ h8.ul ?_ ?_ h8.kl ?_
  · exact h8.dv.blocks hg.size (fun k hk hc => hblk k hk (by
      rcases hc with rfl | hc | hc | hc
      · exact hvwS.2
      · exact hva k hc
      · exact fun e => (h8.uR vp (by simp) k hc).2 (.inr (.inr (.inr (.inl e))))
      · exact fun e => (h8.uR vq (by simp) k hc).2 (.inr (.inr (.inr (.inl e)))))) (fun k hk => h8.ult k (h8.uR vp (by simp) k hk).1) (fun k hk => h8.ult k (h8.uR vq (by simp) k hk).1)
  · rintro k (hk | hk)
    · exact Nat.lt_of_lt_of_le (h8.ult k hk) hg.size
    · exact (World.ownsRow.lt ho k hk).2
  · rintro k (hk | hk | hk | hk | hk)
    · exact .inl (h.uF k (.inl hk))
    · exact .inl (h.uF k (.inr (.inl hk)))
    · exact .inl (h.uF k (.inr (.inr (.inl hk))))
    · exact .inr hk
    · exact .inl (h.uF k (.inr (.inr (.inr (.inr hk)))))
  · intro x hx k hk
    have h1 := h.uR x hx k hk
    refine ⟨.inl h1.1, fun hf => ?_⟩
    rcases hf with hf | hf | hf | hf | hf
    · exact h1.2 (.inl hf)
    · exact h1.2 (.inr (.inl hf))
    · exact h1.2 (.inr (.inr (.inl hf)))
    · rcases hat with h2 | h2
      · exact h1.2 (.inr (.inr (.inr (.inl (by rw [← h2]; exact hf)))))
      · rw [h2] at hf; simp only [Option.some.injEq] at hf; have := h.ult k h1.1; omega
    · exact h1.2 (.inr (.inr (.inr (.inr hf))))
  · rintro x (rfl | rfl | rfl)
    · exact h.no x (.inl rfl)
    · exact hn4
    · exact h.no x (.inr (.inr rfl))
  · exact World.cell?_setCell_same _ _ _ (cell_at hS h8.s6)
  · intro j; rw [World.frozen?_setCell]; exact (frozen_at hS).trans (h8.fz j)
  · exact ownsRow_of_block h8.od fun k hk => hblk k (World.ownsRow.lt h8.od k hk).2 (hvd k hk)
  · exact fun i u d hu hd => ownsRow_of_block (h8.ur i u d hu hd) (hR u (SA.mem_us hu))
  · exact ownsRow_of_block h8.ok (hR vk (by simp))
  · exact fun i u d hu hd => ownsRow_of_block (h8.kr i u d hu hd) (hR u (SA.mem_ks hu))
end Go.Proofs.YtifcgimpgbeocaaGreat
