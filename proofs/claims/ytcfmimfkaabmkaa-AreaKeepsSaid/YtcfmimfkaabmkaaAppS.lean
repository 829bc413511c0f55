/- A region that draws its order, with one append to a row that a slot of the frame holds. Slices of moves. -/
import Derived.Test.YtcfmimfkaabmkaaN4
set_option linter.unusedVariables false
set_option linter.unusedSimpArgs false
namespace Go.Proofs.Ytcfmimfkaabmkaa
open Go.RowKit
/-- What such a region is told: the row v of n elements of type ty and size sz (cells xs), the new element es, the numbers of the operations that make the slice of it, append, and lay the new row into its slot; what the other operations yield (fx); what else holds (R). -/
structure RowCfg where
  n0 : Nat
  ty : TypeId
  sz : Nat
  fx : Nat → Option Value
  is : Nat
  ia : Nat
  iz : Nat
  v : Value
  n : Nat
  xs : List Value
  es : List Value
  R : World → Prop
  hle : ∀ W, R W → n0 ≤ W.heap.size
  rB : ∀ W W', R W → Below W.heap.size W W' → R W'
  rG : ∀ W W', R W → W.ownsRow n0 ty sz v n xs → W.grownBy W' v.ownBlock → R W'
  his : fx is = none
  hia : fx ia = none
  hiz : fx iz = none
  h1 : is ≠ ia
  h2 : is ≠ iz
  h3 : ia ≠ iz
namespace RowCfg
variable (C : RowCfg) {L : Nat → Bool} {vals : Nat → Value} {W W' W1 : World}
def S (L : Nat → Bool) (vals : Nat → Value) (W : World) : Prop :=
  C.R W ∧ (∀ i x, C.fx i = some x → L i = true → vals i = x) ∧
  (L C.is = true → L C.ia = false → ∃ g, vals C.is = .slice (some ⟨g, 0, none⟩) 1 1 ∧ ∀ (j : Nat) (u : Value), C.es[j]? = some u → W.cell? ⟨g, j, none⟩ = some u) ∧
  (L C.ia = false → W.ownsRow C.n0 C.ty C.sz C.v C.n C.xs) ∧ (L C.ia = true → W.ownsRow C.n0 C.ty C.sz (vals C.ia) (C.n + 1) (C.xs ++ C.es)) ∧ (L C.iz = true → vals C.iz = vals C.ia)
variable {C}
theorem start (hR : C.R W) (hr : W.ownsRow C.n0 C.ty C.sz C.v C.n C.xs) : C.S (fun _ => false) vals W :=
  ⟨hR, fun i x _ h => (by simp at h), fun h => (by simp at h), fun _ => hr, fun h => (by simp at h), fun h => (by simp at h)⟩
theorem S.below (h : C.S L vals W) (hb : Below W.heap.size W W') : C.S L vals W' := by
  obtain ⟨r1, r3, r4, r5, r6, r7⟩ := h
  refine ⟨C.rB _ _ r1 hb, r3, fun a b => ?_, fun a => (r5 a).kept (row := none) (below_grow hb none) (by cases C.v.ownBlock <;> simp), fun a => (r6 a).kept (row := none) (below_grow hb none) (by cases (vals C.ia).ownBlock <;> simp), r7⟩
  obtain ⟨g, e1, e2⟩ := r4 a b
  exact ⟨g, e1, fun j u hj => keepc hb (e2 j u hj)⟩
theorem S.val {i : Nat} {x : Value} (h : C.S L vals W) (hx : C.fx i = some x) : C.S (addTo L i) (upd vals i x) W := by
  obtain ⟨r1, r3, r4, r5, r6, r7⟩ := h
  have k1 : C.is ≠ i := fun e => by subst e; rw [C.his] at hx; cases hx
  have k2 : C.ia ≠ i := fun e => by subst e; rw [C.hia] at hx; cases hx
  have k3 : C.iz ≠ i := fun e => by subst e; rw [C.hiz] at hx; cases hx
  refine ⟨r1, fun j y hy hl => ?_, ?_, ?_, ?_, ?_⟩
  · by_cases hj : j = i
    · subst hj; rw [hx] at hy; cases hy; exact upd_self _ _ _
    · rw [upd_ne _ _ hj]; rw [addTo_ne _ hj] at hl; exact r3 j y hy hl
  · rw [addTo_ne _ k1, addTo_ne _ k2, upd_ne _ _ k1]; exact r4
  · rw [addTo_ne _ k2]; exact r5
  · rw [addTo_ne _ k2, upd_ne _ _ k2]; exact r6
  · rw [addTo_ne _ k3, upd_ne _ _ k3, upd_ne _ _ k2]; exact r7
theorem S.call {i : Nat} {x : Value} (h : C.S L vals W) (hb : Below W.heap.size W W') (hx : C.fx i = some x) : C.S (addTo L i) (upd vals i x) W' := (h.below hb).val hx
theorem S.slice (h : C.S L vals W) {o : Obj} {cs : Array Value} {t : TypeId} (ho : o = .cells cs t) (hcs : ∀ (j : Nat) (u : Value), C.es[j]? = some u → cs[j]? = some u) :
    C.S (addTo L C.is) (upd vals C.is (.slice (some ⟨W.heap.size, 0, none⟩) 1 1)) (W.alloc o) := by
  subst ho
  obtain ⟨r1, r3, r4, r5, r6, r7⟩ := h.below ((Below.refl _ _).alloc (Nat.le_refl _) (.cells cs t))
  refine ⟨r1, fun j y hy hl' => ?_, fun _ _ => ⟨_, upd_self _ _ _, fun j u hj => ?_⟩, ?_, ?_, ?_⟩
  · have hj : j ≠ C.is := fun e => by subst e; rw [C.his] at hy; cases hy
    rw [upd_ne _ _ hj]; rw [addTo_ne _ hj] at hl'; exact r3 j y hy hl'
  · exact cell_new _ _ _ j _ (hcs j u hj)
  · rw [addTo_ne _ (Ne.symm C.h1)]; exact r5
  · rw [addTo_ne _ (Ne.symm C.h1), upd_ne _ _ (Ne.symm C.h1)]; exact r6
  · rw [addTo_ne _ (Ne.symm C.h2), upd_ne _ _ (Ne.symm C.h2), upd_ne _ _ (Ne.symm C.h1)]; exact r7
theorem S.app {v1 : Value} (h : C.S L vals W) (ha : L C.ia = false) (ht : L C.iz = false) (hv1 : W'.ownsRow C.n0 C.ty C.sz v1 (C.n + 1) (C.xs ++ C.es)) (hg : W.grownBy W' C.v.ownBlock) : C.S (addTo L C.ia) (upd vals C.ia v1) W' := by
  obtain ⟨r1, r3, r4, r5, r6, r7⟩ := h
  refine ⟨C.rG _ _ r1 (r5 ha) hg, fun j y hy hl => ?_, fun _ hl => (by rw [addTo_self] at hl; cases hl), fun hl => (by rw [addTo_self] at hl; cases hl), fun _ => (by rw [upd_self]; exact hv1), fun hl => ?_⟩
  · have hj : j ≠ C.ia := fun e => by subst e; rw [C.hia] at hy; cases hy
    rw [upd_ne _ _ hj]; rw [addTo_ne _ hj] at hl; exact r3 j y hy hl
  · rw [addTo_ne _ (Ne.symm C.h3), ht] at hl; cases hl
theorem S.lay (h : C.S L vals W) : C.S (addTo L C.iz) (upd vals C.iz (vals C.ia)) W := by
  obtain ⟨r1, r3, r4, r5, r6, r7⟩ := h
  refine ⟨r1, fun j y hy hl => ?_, ?_, ?_, ?_, fun _ => ?_⟩
  · have hj : j ≠ C.iz := fun e => by subst e; rw [C.hiz] at hy; cases hy
    rw [upd_ne _ _ hj]; rw [addTo_ne _ hj] at hl; exact r3 j y hy hl
  · rw [addTo_ne _ C.h2, addTo_ne _ C.h3, upd_ne _ _ C.h2]; exact r4
  · rw [addTo_ne _ C.h3]; exact r5
  · rw [addTo_ne _ C.h3, upd_ne _ _ C.h3]; exact r6
  · rw [upd_self, upd_ne _ _ C.h3]
theorem S.fix (h : C.S L vals W) {i : Nat} {x : Value} (hx : C.fx i = some x) (hl : L i = true) : vals i = x := h.2.1 i x hx hl
end RowCfg

/-! ### Slices of moves -/
theorem under42 : Try.prog.underlying 42 = some (.slice 78) := by kernel_rfl
theorem info78 : (Try.prog.info? 78).map (fun i => (i.zero, i.size, i.bytes)) = some (some (.agg #[.int .i64 0, .int .i64 0, .int .i64 0]), 3, 24) := by kernel_rfl
abbrev Mv := Int × Int × Int
def encM (ms : List Mv) : List Value := ms.flatMap (fun p => [.int .i64 p.1, .int .i64 p.2.1, .int .i64 p.2.2])
theorem encM_length (ms : List Mv) : (encM ms).length = ms.length * 3 := by
  induction ms with
  | nil => rfl
  | cons p r ih => simp only [encM, List.flatMap_cons, List.length_append, List.length_cons, List.length_nil] at ih ⊢; omega
theorem encM_append (a b : List Mv) : encM (a ++ b) = encM a ++ encM b := by simp [encM]
theorem encM_at : ∀ (ms : List Mv) (i : Nat) (p : Mv), ms[i]? = some p → (encM ms)[i * 3]? = some (.int .i64 p.1) ∧ (encM ms)[i * 3 + 1]? = some (.int .i64 p.2.1) ∧ (encM ms)[i * 3 + 2]? = some (.int .i64 p.2.2)
  | [], i, p, h => by simp at h
  | q :: r, 0, p, h => by simp at h; subst h; exact ⟨rfl, rfl, rfl⟩
  | q :: r, i + 1, p, h => by
    have ih := encM_at r i p (by simpa using h)
    simp only [encM, List.flatMap_cons] at ih ⊢
    rw [show (i + 1) * 3 = i * 3 + 3 by omega, show i * 3 + 3 + 1 = (i * 3 + 1) + 3 by omega, show i * 3 + 3 + 2 = (i * 3 + 2) + 3 by omega]
    exact ih
/-- The slice v reads as these moves. -/
def RM (w : World) (v : Value) (ms : List Mv) : Prop :=
  ∃ o cap, v = .slice o ms.length cap ∧ (ms = [] ∨ ∃ b off, o = some ⟨b, off, none⟩ ∧ b < w.heap.size ∧ ∀ i p, ms[i]? = some p → w.cell? ⟨b, off + i * 3, none⟩ = some (.int .i64 p.1) ∧ w.cell? ⟨b, off + i * 3 + 1, none⟩ = some (.int .i64 p.2.1) ∧ w.cell? ⟨b, off + i * 3 + 2, none⟩ = some (.int .i64 p.2.2))
def OM (w : World) (B : Nat) (v : Value) (ms : List Mv) : Prop := w.ownsRow B 78 3 v ms.length (encM ms)
theorem RM.below {w w' : World} {v : Value} {ms : List Mv} (h : RM w v ms) (hb : Below w.heap.size w w') : RM w' v ms := by
  obtain ⟨o, cap, rfl, h⟩ := h
  refine ⟨o, cap, rfl, h.imp id ?_⟩
  rintro ⟨b, off, rfl, hlt, hc⟩
  exact ⟨b, off, rfl, Nat.lt_of_lt_of_le hlt hb.size, fun i p hi => ⟨keepc hb (hc i p hi).1, keepc hb (hc i p hi).2.1, keepc hb (hc i p hi).2.2⟩⟩
theorem OM.rm {w : World} {B : Nat} {v : Value} {ms : List Mv} (h : OM w B v ms) : RM w v ms := by
  obtain ⟨hl, ⟨rfl, hn⟩ | ⟨g, cap, cur, rfl, hb, hg, hnc, hcm, hcs, ht⟩⟩ := h
  · exact ⟨none, 0, by rw [hn], .inl (List.eq_nil_of_length_eq_zero hn)⟩
  · refine ⟨_, cap, rfl, .inr ⟨g, 0, rfl, (Array.getElem?_eq_some_iff.1 hg).1, fun i p hi => ?_⟩⟩
    obtain ⟨e1, e2, e3⟩ := encM_at ms i p hi
    have hlt : i < ms.length := (List.getElem?_eq_some_iff.1 hi).1
    have hcell : ∀ j, j < ms.length * 3 → w.cell? ⟨g, 0 + j, none⟩ = (encM ms)[j]? := fun j hj => by
      rw [← ht, List.getElem?_take_of_lt hj, Nat.zero_add]
      simp [World.cell?, hg]
    exact ⟨by rw [hcell _ (by omega), e1], by rw [Nat.add_assoc, hcell _ (by omega), e2], by rw [Nat.add_assoc, hcell _ (by omega), e3]⟩
theorem OM.below {w w' : World} {B : Nat} {v : Value} {ms : List Mv} (h : OM w B v ms) (hb : Below w.heap.size w w') : OM w' B v ms :=
  World.ownsRow.kept (row := none) h (below_grow hb none) (by cases v.ownBlock <;> simp)
theorem OM.mono {w : World} {B B' : Nat} {v : Value} {ms : List Mv} (h : OM w B v ms) (hB : B' ≤ B) : OM w B' v ms := by
  obtain ⟨hl, h | ⟨g, cap, cur, hv, hb, h⟩⟩ := h
  · exact ⟨hl, .inl h⟩
  · exact ⟨hl, .inr ⟨g, cap, cur, hv, Nat.le_trans hB hb, h⟩⟩
theorem OM.own {w : World} {B : Nat} {v : Value} {ms : List Mv} (h : OM w B v ms) : ∀ k, v.ownBlock = some k → B ≤ k := fun k hk => (World.ownsRow.lt h k hk).1
theorem om_new (w : World) (B : Nat) (hB : B ≤ w.heap.size) : OM (w.alloc (.cells #[] 78)) B (.slice (some ⟨w.heap.size, 0, none⟩) 0 0) [] := World.ownsRow_lit w #[] 0 hB (by decide) rfl
theorem OP.keptM {w w' : World} {B B' : Nat} {v v' : Value} {ps : List (Int × Int)} {ms : List Mv} (h : OP w B v ps) (h' : OM w B' v' ms) (hg : w.grownBy w' v'.ownBlock) : OP w' B v ps := World.ownsRow.kept h hg (rows_apart h h' (by decide))
theorem OM.keptP {w w' : World} {B B' : Nat} {v v' : Value} {ps : List (Int × Int)} {ms : List Mv} (h : OM w B v ms) (h' : OP w B' v' ps) (hg : w.grownBy w' v'.ownBlock) : OM w' B v ms := World.ownsRow.kept h hg (rows_apart h h' (by decide))
theorem om_row {W : World} {B : Nat} {v : Value} {ms : List Mv} (h : OM W B v ms) : ∀ b, v.ownBlock = some b → Row37 W b := by
  intro b e
  obtain ⟨-, ⟨rfl, -⟩ | ⟨g, cap, cur, rfl, -, hg, -⟩⟩ := h
  · simp [Value.ownBlock] at e
  · simp only [Value.ownBlock, Option.some.injEq] at e
    subst e
    exact ⟨_, 78, _, rfl, hg⟩
end Go.Proofs.Ytcfmimfkaabmkaa
