/- A region that draws its order, with one append to a row that a cell holds: the states between its operations, and what each operation makes of them. -/
import Derived.Test.YtcfmimfkaabmkaaH4
set_option linter.unusedVariables false
set_option linter.unusedSimpArgs false
namespace Go.Proofs.Ytcfmimfkaabmkaa
open Go.RowKit
/-- What such a region is told: the cell X that holds the row, the row v of n elements of type ty and size sz (cells xs), the new element es, the numbers of the operations that make the slice of it, append, and store; what the other operations yield (fx); what else holds (R). -/
structure AppCfg where
  X : Nat
  n0 : Nat
  ty : TypeId
  sz : Nat
  fx : Nat → Option Value
  is : Nat
  ia : Nat
  it : Nat
  v : Value
  n : Nat
  xs : List Value
  es : List Value
  R : World → Prop
  hX : X < n0
  hle : ∀ W, R W → n0 ≤ W.heap.size
  rB : ∀ W W', R W → Below W.heap.size W W' → R W'
  rG : ∀ W W', R W → W.ownsRow n0 ty sz v n xs → W.grownBy W' v.ownBlock → R W'
  rS : ∀ W x, R W → R (W.setCell ⟨X, 0, none⟩ x)
  his : fx is = none
  hia : fx ia = none
  hit : fx it = none
  h1 : is ≠ ia
  h2 : is ≠ it
  h3 : ia ≠ it
namespace AppCfg
variable (C : AppCfg) {L : Nat → Bool} {vals : Nat → Value} {W W' W1 : World}
def S (L : Nat → Bool) (vals : Nat → Value) (W : World) : Prop :=
  C.R W ∧ OwnC W ⟨C.X, 0, none⟩ ∧ (∀ i x, C.fx i = some x → L i = true → vals i = x) ∧
  (L C.is = true → L C.ia = false → ∃ g, vals C.is = .slice (some ⟨g, 0, none⟩) 1 1 ∧ ∀ (j : Nat) (u : Value), C.es[j]? = some u → W.cell? ⟨g, j, none⟩ = some u) ∧
  (L C.ia = false → W.ownsRow C.n0 C.ty C.sz C.v C.n C.xs) ∧ (L C.ia = true → W.ownsRow C.n0 C.ty C.sz (vals C.ia) (C.n + 1) (C.xs ++ C.es)) ∧
  (L C.it = false → W.cell? ⟨C.X, 0, none⟩ = some C.v) ∧ (L C.it = true → W.cell? ⟨C.X, 0, none⟩ = some (vals C.ia))
variable {C}
theorem start (hR : C.R W) (ho : OwnC W ⟨C.X, 0, none⟩) (hr : W.ownsRow C.n0 C.ty C.sz C.v C.n C.xs) (hc : W.cell? ⟨C.X, 0, none⟩ = some C.v) : C.S (fun _ => false) vals W :=
  ⟨hR, ho, fun i x _ h => (by simp at h), fun h => (by simp at h), fun _ => hr, fun h => (by simp at h), fun _ => hc, fun h => (by simp at h)⟩
theorem S.below (h : C.S L vals W) (hb : Below W.heap.size W W') : C.S L vals W' := by
  obtain ⟨r1, r2, r3, r4, r5, r6, r7, r8⟩ := h
  refine ⟨C.rB _ _ r1 hb, keepOwn hb r2, r3, fun a b => ?_, fun a => (r5 a).kept (row := none) (below_grow hb none) (by cases C.v.ownBlock <;> simp), fun a => (r6 a).kept (row := none) (below_grow hb none) (by cases (vals C.ia).ownBlock <;> simp), fun a => keepc hb (r7 a), fun a => keepc hb (r8 a)⟩
  obtain ⟨g, e1, e2⟩ := r4 a b
  exact ⟨g, e1, fun j u hj => keepc hb (e2 j u hj)⟩
theorem S.val {i : Nat} {x : Value} (h : C.S L vals W) (hx : C.fx i = some x) : C.S (addTo L i) (upd vals i x) W := by
  obtain ⟨r1, r2, r3, r4, r5, r6, r7, r8⟩ := h
  have k1 : C.is ≠ i := fun e => by subst e; rw [C.his] at hx; cases hx
  have k2 : C.ia ≠ i := fun e => by subst e; rw [C.hia] at hx; cases hx
  have k3 : C.it ≠ i := fun e => by subst e; rw [C.hit] at hx; cases hx
  refine ⟨r1, r2, fun j y hy hl => ?_, ?_, ?_, ?_, ?_, ?_⟩
  · by_cases hj : j = i
    · subst hj; rw [hx] at hy; cases hy; exact upd_self _ _ _
    · rw [upd_ne _ _ hj]; rw [addTo_ne _ hj] at hl; exact r3 j y hy hl
  · rw [addTo_ne _ k1, addTo_ne _ k2, upd_ne _ _ k1]; exact r4
  · rw [addTo_ne _ k2]; exact r5
  · rw [addTo_ne _ k2, upd_ne _ _ k2]; exact r6
  · rw [addTo_ne _ k3]; exact r7
  · rw [addTo_ne _ k3, upd_ne _ _ k2]; exact r8
theorem S.call {i : Nat} {x : Value} (h : C.S L vals W) (hb : Below W.heap.size W W') (hx : C.fx i = some x) : C.S (addTo L i) (upd vals i x) W' := (h.below hb).val hx
theorem S.slice (h : C.S L vals W) (hl : L C.is = false) {o : Obj} {cs : Array Value} {t : TypeId} (ho : o = .cells cs t) (hcs : ∀ (j : Nat) (u : Value), C.es[j]? = some u → cs[j]? = some u) :
    C.S (addTo L C.is) (upd vals C.is (.slice (some ⟨W.heap.size, 0, none⟩) 1 1)) (W.alloc o) := by
  subst ho
  obtain ⟨r1, r2, r3, r4, r5, r6, r7, r8⟩ := h.below ((Below.refl _ _).alloc (Nat.le_refl _) (.cells cs t))
  refine ⟨r1, r2, fun j y hy hl' => ?_, fun _ _ => ⟨_, upd_self _ _ _, fun j u hj => ?_⟩, ?_, ?_, ?_, ?_⟩
  · have hj : j ≠ C.is := fun e => by subst e; rw [C.his] at hy; cases hy
    rw [upd_ne _ _ hj]; rw [addTo_ne _ hj] at hl'; exact r3 j y hy hl'
  · exact cell_new _ _ _ j _ (hcs j u hj)
  · rw [addTo_ne _ (Ne.symm C.h1)]; exact r5
  · rw [addTo_ne _ (Ne.symm C.h1), upd_ne _ _ (Ne.symm C.h1)]; exact r6
  · rw [addTo_ne _ (Ne.symm C.h2)]; exact r7
  · rw [addTo_ne _ (Ne.symm C.h2), upd_ne _ _ (Ne.symm C.h1)]; exact r8
theorem S.app {v1 : Value} (h : C.S L vals W) (ha : L C.ia = false) (ht : L C.it = false) (hv1 : W'.ownsRow C.n0 C.ty C.sz v1 (C.n + 1) (C.xs ++ C.es)) (hg : W.grownBy W' C.v.ownBlock) : C.S (addTo L C.ia) (upd vals C.ia v1) W' := by
  obtain ⟨r1, r2, r3, r4, r5, r6, r7, r8⟩ := h
  have hrow := r5 ha
  have hne : some C.X ≠ C.v.ownBlock := fun e => by have := (World.ownsRow.lt hrow _ e.symm).1; have := C.hX; omega
  refine ⟨C.rG _ _ r1 hrow hg, ?_, fun j y hy hl => ?_, fun _ hl => (by rw [addTo_self] at hl; cases hl), fun hl => (by rw [addTo_self] at hl; cases hl), fun _ => (by rw [upd_self]; exact hv1), fun hl => ?_, fun hl => ?_⟩
  · obtain ⟨⟨x, hx⟩, hf⟩ := r2
    have hlt := World.block_lt_of_cell? _ _ hx
    exact ⟨⟨x, hg.cell hx hne⟩, (World.frozen?_of_block (hg.block C.X hlt hne)).trans hf⟩
  · have hj : j ≠ C.ia := fun e => by subst e; rw [C.hia] at hy; cases hy
    rw [upd_ne _ _ hj]; rw [addTo_ne _ hj] at hl; exact r3 j y hy hl
  · exact hg.cell (r7 ht) hne
  · rw [addTo_ne _ (Ne.symm C.h3), ht] at hl; cases hl
theorem S.store (h : C.S L vals W) (ha : L C.ia = true) : C.S (addTo L C.it) (upd vals C.it undef) (W.setCell ⟨C.X, 0, none⟩ (vals C.ia)) := by
  obtain ⟨r1, r2, r3, r4, r5, r6, r7, r8⟩ := h
  have hrow := r6 ha
  have hne : some C.X ≠ (vals C.ia).ownBlock := fun e => by have := (World.ownsRow.lt hrow _ e.symm).1; have := C.hX; omega
  refine ⟨C.rS _ _ r1, r2.set _ _, fun j y hy hl => ?_, fun _ hl => ?_, fun hl => ?_, fun _ => ?_, fun hl => (by rw [addTo_self] at hl; cases hl), fun _ => ?_⟩
  · have hj : j ≠ C.it := fun e => by subst e; rw [C.hit] at hy; cases hy
    rw [upd_ne _ _ hj]; rw [addTo_ne _ hj] at hl; exact r3 j y hy hl
  · rw [addTo_ne _ C.h3, ha] at hl; cases hl
  · rw [addTo_ne _ C.h3, ha] at hl; cases hl
  · rw [upd_ne _ _ C.h3]
    exact World.ownsRow.kept (row := some C.X) hrow ⟨rfl, rfl, rfl, by simp [World.setCell], fun k _ hk => Below.heap_setCell _ _ _ _ (fun e => hk (by rw [e]))⟩ (.inr (Ne.symm hne))
  · rw [upd_ne _ _ C.h3]
    obtain ⟨⟨x, hx⟩, hf⟩ := r2
    exact World.cell?_setCell_same' W ⟨C.X, 0, none⟩ (vals C.ia) (by rw [hx]; rfl)
/-- The row that the cell holds is read before it is stored anew. -/
theorem S.load (h : C.S L vals W) (ht : L C.it = false) : W.cell? ⟨C.X, 0, none⟩ = some C.v := h.2.2.2.2.2.2.1 ht
theorem S.fix (h : C.S L vals W) {i : Nat} {x : Value} (hx : C.fx i = some x) (hl : L i = true) : vals i = x := h.2.2.1 i x hx hl
end AppCfg
theorem row_slice {w : World} {B e s n : Nat} {v : Value} {xs : List Value} (h : w.ownsRow B e s v n xs) : ∃ o cap, v = .slice o n cap := by
  obtain ⟨-, ⟨rfl, rfl⟩ | ⟨g, cap, cur, rfl, -⟩⟩ := h
  · exact ⟨_, _, rfl⟩
  · exact ⟨_, _, rfl⟩
/-- A block that is no row of cells is no own row's. -/
theorem row_put {W : World} {B D e s n : Nat} {v : Value} {xs : List Value} {o : Obj} (h : W.ownsRow B e s v n xs) (hD : W.heap[D]? = some o) (ho : o.isCells = false) : some D ≠ v.ownBlock := by
  intro he
  obtain ⟨-, ⟨rfl, -⟩ | ⟨g, cap, cur, rfl, -, hg, -⟩⟩ := h
  · simp [Value.ownBlock] at he
  · simp only [Value.ownBlock, Option.some.injEq] at he
    subst he
    rw [hD] at hg
    simp only [Option.some.injEq] at hg
    subst hg
    cases ho
/-- append(v, es), carried out at any row. -/
theorem uponX_row {R : Value → World → Prop} {o : Oper} {a : Act} {w : World} (s x : Operand) (st ty : TypeId) (z : Value) (sz by_ : Nat) (hu : Try.prog.underlying st = some (.slice ty))
    (hinfo : (Try.prog.info? ty).map (fun i => (i.zero, i.size, i.bytes)) = some (some z, sz, by_)) (hzs : z.cells.size = sz) (hsz : 0 < sz)
    (ho : o.op = .call { callee := .builtin .append, args := #[s, x], argTypes := #[st, st] }) (B : Nat) (v : Value) (n : Nat) (xs es : List Value) (g c : Nat)
    (hs : a.eval s = v) (hx : a.eval x = .slice (some ⟨g, 0, none⟩) 1 c) (hP : w.ownsRow B ty sz v n xs) (hel : es.length = sz) (hes : ∀ (j : Nat) (u : Value), es[j]? = some u → w.cell? ⟨g, j, none⟩ = some u) (h1 : ∀ u ∈ es, u.oneCell' = true)
    (hn : n ≤ 1000000) (hby : by_ ≤ 100) (hb : B ≤ w.heap.size)
    (h : ∀ v' w', w'.ownsRow B ty sz v' (n + 1) (xs ++ es) → w.grownBy w' v.ownBlock → R v' w') : uponX Try.prog R ((execOp a.eval o).run Try.prog w) := by
  obtain ⟨i0, hi, hz0, hz1, hz2⟩ := info_parts hinfo
  have hbb : (n + 1) * by_ ≤ 1000001 * 100 := Nat.mul_le_mul (by omega) hby
  obtain ⟨v', w', hr, h2, h3, -⟩ := run_append_own (P := Try.prog) w B st o.type ty i0 z sz by_ hu hi hz0 hz1 hz2 hzs hsz v n xs hP ⟨g, 0, none⟩ 1 c es (by rw [hel, Nat.one_mul])
    (fun j u hj => by rw [addr_add, Nat.zero_add]; exact hes j u hj) h1 (by unfold maxLen; omega) (by omega) hb
  have : (execOp a.eval o).run Try.prog w = .ok (.value v') w' := by
    unfold execOp
    simp only [ho, resolve, invoke, builtin, Sem.run_bind, Sem.run_pure, Result.andThen_ok, List.map_toArray, List.map_cons, List.map_nil, hs, hx, hr]
  rw [this]
  exact h v' w' h2 h3
end Go.Proofs.Ytcfmimfkaabmkaa
