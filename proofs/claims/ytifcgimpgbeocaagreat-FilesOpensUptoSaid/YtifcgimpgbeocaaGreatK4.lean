/- Rows of datasets; appends that tell where the new row lies; what a call leaves outside a set of blocks. -/
import Derived.Test.YtifcgimpgbeocaaGreatK3
import Derived.Maps.AppendAt
set_option linter.unusedVariables false
set_option linter.unusedSimpArgs false
namespace Go.Proofs.YtifcgimpgbeocaaGreat
open Go.RowKit
/-! ### Rows of datasets -/
theorem underD : Tryz.prog.underlying 35 = some (.slice 69) := by kernel_rfl
theorem infoD : (Tryz.prog.info? 69).map (fun i => (i.zero, i.size, i.bytes)) = some (some (.slice none 0 0), 1, 24) := by kernel_rfl
/-- v is a row of one's own, of the datasets us. -/
def OV (w : World) (B : Nat) (v : Value) (us : List Value) : Prop := w.ownsRow B 69 1 v us.length us
theorem OV.cells {w : World} {B : Nat} {v : Value} {l : List Value} (h : OV w B v l) (hne : 0 < l.length) :
    ∃ g cap, v = .slice (some ⟨g, 0, none⟩) l.length cap ∧ B ≤ g ∧ g < w.heap.size ∧ l.length ≤ cap ∧ (∀ j, w.frozen? ⟨g, j, none⟩ = false) ∧ ∀ j u, l[j]? = some u → w.cell? ⟨g, j, none⟩ = some u := by
  have h0 := h
  unfold OV at h0
  obtain ⟨hl, ⟨rfl, hn⟩ | ⟨g, cap, cur, rfl, hb, hg, hnc, hcm, hcs, ht⟩⟩ := h
  · omega
  · refine ⟨g, cap, rfl, hb, (Array.getElem?_eq_some_iff.1 hg).1, hnc, fun j => World.ownsRow.frozenAt h0 j, fun j u hj => ?_⟩
    have hlt := (List.getElem?_eq_some_iff.1 hj).1
    rw [← ht, List.getElem?_take_of_lt (by omega)] at hj
    unfold World.cell?
    simp only [hg]
    simpa using hj
theorem OV.below {w w' : World} {B : Nat} {v : Value} {l : List Value} (h : OV w B v l) (hb : Below w.heap.size w w') : OV w' B v l :=
  World.ownsRow.kept (row := none) h (below_grow hb none) (by cases v.ownBlock <;> simp)
theorem OV.mono {w : World} {B B' : Nat} {v : Value} {l : List Value} (h : OV w B v l) (hB : B' ≤ B) : OV w B' v l := by
  obtain ⟨hl, h | ⟨g, cap, cur, hv, hb, h⟩⟩ := h
  · exact ⟨hl, .inl h⟩
  · exact ⟨hl, .inr ⟨g, cap, cur, hv, Nat.le_trans hB hb, h⟩⟩
theorem OV.own {w : World} {B : Nat} {v : Value} {l : List Value} (h : OV w B v l) : ∀ k, v.ownBlock = some k → B ≤ k := fun k hk => (World.ownsRow.lt h k hk).1
theorem OV.grown {w0 w w' : World} {B : Nat} {v : Value} {l : List Value} (h : OV w B v l) (hb : Below B w0 w) (hg : w.grownBy w' v.ownBlock) (hB : B ≤ w.heap.size) : Below B w0 w' := hb.grown hg hB h.own
theorem oV_nil (w : World) (B : Nat) : OV w B (.slice none 0 0) [] := ⟨rfl, .inl ⟨rfl, rfl⟩⟩
theorem appV {ops : Array Oper} {rest : List Oper} {o : Oper} {a : Act} {Q : Exit → Act → World → Prop} {w : World} (hgd : o.guard = none) (s x : Operand)
    (ho : o.op = .call { callee := .builtin .append, args := #[s, x], argTypes := #[35, 35] }) (B : Nat) (v : Value) (l : List Value) (y : Value) (g c : Nat)
    (hs : a.eval s = v) (hx : a.eval x = .slice (some ⟨g, 0, none⟩) 1 c) (hP : OV w B v l) (hc : w.cell? ⟨g, 0, none⟩ = some y) (hy : y.oneCell' = true) (hn : l.length ≤ 1000000) (hb : B ≤ w.heap.size)
    (h : ∀ v' w', OV w' B v' (l ++ [y]) → w.grownBy w' v.ownBlock → wpList Tryz.prog ops Q rest (a.put o.dst v') w') : wpList Tryz.prog ops Q (o :: rest) a w := by
  obtain ⟨i0, hi, hz0, hz1, hz2⟩ := info_parts infoD
  refine wpList_append_own _ hgd s x 35 ho B 69 i0 (.slice none 0 0) 1 24 underD hi hz0 hz1 hz2 rfl (by decide) v l.length l hs hP ⟨g, 0, none⟩ 1 c [y] hx rfl ?_ ?_ (by unfold maxLen; omega) (by omega) hb ?_
  · intro j u hj
    rw [addr_add, Nat.zero_add]
    match j, hj with
    | 0, hj => simp only [List.getElem?_cons_zero, Option.some.injEq] at hj; rw [← hj]; exact hc
    | j + 1, hj => simp at hj
  · intro u hu
    simp only [List.mem_cons, List.not_mem_nil, or_false] at hu
    subst hu; exact hy
  · intro v' w' hown hg _
    refine h v' w' ?_ hg
    unfold OV
    rw [List.length_append]
    exact hown
/-- v reads as datasets, all of it at or beyond block B. -/
def OD (w : World) (B : Nat) (v : Value) (l : List Ds) : Prop := ∃ us : List Value, us.length = l.length ∧ OV w B v us ∧ ∀ (i : Nat) (u : Value) (d : Ds), us[i]? = some u → l[i]? = some d → OR w B u d
theorem OR.one {w : World} {B : Nat} {v : Value} {l : Ds} (h : OR w B v l) : v.oneCell' = true := by
  obtain ⟨-, ⟨rfl, -⟩ | ⟨g, cap, cur, rfl, -⟩⟩ := h <;> rfl
theorem OD.below {w w' : World} {B : Nat} {v : Value} {l : List Ds} (h : OD w B v l) (hb : Below w.heap.size w w') : OD w' B v l := by
  obtain ⟨us, h1, h2, h3⟩ := h
  exact ⟨us, h1, h2.below hb, fun i u d hu hd => (h3 i u d hu hd).below hb⟩
theorem OD.mono {w : World} {B B' : Nat} {v : Value} {l : List Ds} (h : OD w B v l) (hB : B' ≤ B) : OD w B' v l := by
  obtain ⟨us, h1, h2, h3⟩ := h
  exact ⟨us, h1, h2.mono hB, fun i u d hu hd => (h3 i u d hu hd).mono hB⟩
theorem oD_nil (w : World) (B : Nat) : OD w B (.slice none 0 0) [] := ⟨[], rfl, oV_nil _ _, fun i u d h => by simp at h⟩
theorem OD.rd {w : World} {B : Nat} {v : Value} {l : List Ds} (h : OD w B v l) : RdD w v l := by
  obtain ⟨us, h1, h2, h3⟩ := h
  rcases Nat.eq_zero_or_pos us.length with h0 | h0
  · have e : l = [] := List.eq_nil_of_length_eq_zero (by omega)
    subst e
    obtain ⟨hl, ⟨rfl, hn⟩ | ⟨g, cap, cur, rfl, hb, hg, hnc, hcm, hcs, ht⟩⟩ := h2
    · exact ⟨none, 0, rfl, Nat.le_refl _, .inl rfl⟩
    · exact ⟨_, cap, by rw [h1], by rw [← h1]; exact hnc, .inl rfl⟩
  · obtain ⟨g, cap, rfl, hb, hg, hnc, -, hc⟩ := h2.cells h0
    refine ⟨_, cap, by rw [h1], by omega, .inr ⟨g, 0, rfl, hg, fun i d hi => ?_⟩⟩
    obtain ⟨u, hu⟩ : ∃ u, us[i]? = some u := ⟨_, List.getElem?_eq_getElem (by have := (List.getElem?_eq_some_iff.1 hi).1; omega)⟩
    exact ⟨u, by rw [Nat.zero_add]; exact hc i u hu, (h3 i u d hu hi).rd⟩
/-! ### Appends that tell where the new row lies -/
theorem appAtO {ops : Array Oper} {rest : List Oper} {o : Oper} {a : Act} {Q : Exit → Act → World → Prop} {w : World} (hgd : o.guard = none) (s x : Operand)
    (ho : o.op = .call { callee := .builtin .append, args := #[s, x], argTypes := #[36, 36] }) (B : Nat) (v : Value) (l : List FOp) (y : FOp) (g c : Nat)
    (hs : a.eval s = v) (hx : a.eval x = .slice (some ⟨g, 0, none⟩) 1 c) (hP : OO w B v l) (hc : ∀ j u, (encO [y])[j]? = some u → w.cell? ⟨g, j, none⟩ = some u) (hn : l.length ≤ 1000000) (hb : B ≤ w.heap.size)
    (h : ∀ v' w', OO w' B v' (l ++ [y]) → w.grownBy w' v.ownBlock → (v'.ownBlock = v.ownBlock ∨ v'.ownBlock = some w.heap.size) → wpList Tryz.prog ops Q rest (a.put o.dst v') w') : wpList Tryz.prog ops Q (o :: rest) a w := by
  obtain ⟨i0, hi, hz0, hz1, hz2⟩ := info_parts infoO
  refine wpList_append_own_at _ hgd s x 36 ho B 55 i0 (.agg #[.int .i64 0, .int .i64 0, .string ⟨#[]⟩, .string ⟨#[]⟩]) 4 48 underO hi hz0 hz1 hz2 rfl (by decide) v l.length (encO l) hs hP ⟨g, 0, none⟩ 1 c (encO [y]) hx rfl ?_ ?_ (by unfold maxLen; omega) (by omega) hb ?_
  · intro j u hj
    rw [addr_add, Nat.zero_add]
    exact hc j u hj
  · intro u hu
    obtain ⟨z, hz, hu⟩ := List.mem_flatMap.1 hu
    simp only [List.mem_cons, List.not_mem_nil, or_false] at hu
    rcases hu with rfl | rfl | rfl | rfl <;> rfl
  · intro v' w' hown hg _ hat
    refine h v' w' ?_ hg hat
    unfold OO
    rw [encO_append, List.length_append]
    exact hown
theorem appAtA {ops : Array Oper} {rest : List Oper} {o : Oper} {a : Act} {Q : Exit → Act → World → Prop} {w : World} (hgd : o.guard = none) (s x : Operand)
    (ho : o.op = .call { callee := .builtin .append, args := #[s, x], argTypes := #[37, 37] }) (B : Nat) (v : Value) (l : List Ac) (y : Ac) (g c : Nat)
    (hs : a.eval s = v) (hx : a.eval x = .slice (some ⟨g, 0, none⟩) 1 c) (hP : OA w B v l) (hc : ∀ j u, (encA [y])[j]? = some u → w.cell? ⟨g, j, none⟩ = some u) (hn : l.length ≤ 1000000) (hb : B ≤ w.heap.size)
    (h : ∀ v' w', OA w' B v' (l ++ [y]) → w.grownBy w' v.ownBlock → (v'.ownBlock = v.ownBlock ∨ v'.ownBlock = some w.heap.size) → wpList Tryz.prog ops Q rest (a.put o.dst v') w') : wpList Tryz.prog ops Q (o :: rest) a w := by
  obtain ⟨i0, hi, hz0, hz1, hz2⟩ := info_parts infoA
  refine wpList_append_own_at _ hgd s x 37 ho B 77 i0 (.agg #[.bool false, .int .i64 0, .string ⟨#[]⟩]) 3 32 underA hi hz0 hz1 hz2 rfl (by decide) v l.length (encA l) hs hP ⟨g, 0, none⟩ 1 c (encA [y]) hx rfl ?_ ?_ (by unfold maxLen; omega) (by omega) hb ?_
  · intro j u hj
    rw [addr_add, Nat.zero_add]
    exact hc j u hj
  · intro u hu
    obtain ⟨z, hz, hu⟩ := List.mem_flatMap.1 hu
    simp only [List.mem_cons, List.not_mem_nil, or_false] at hu
    rcases hu with rfl | rfl | rfl <;> rfl
  · intro v' w' hown hg _ hat
    refine h v' w' ?_ hg hat
    unfold OA
    rw [encA_append, List.length_append]
    exact hown
/-! ### What a call leaves -/
/-- What lies outside the blocks F is as it was. -/
structure Frm (F : Nat → Prop) (w w' : World) : Prop where
  os : w'.os = w.os
  tape : w'.tape = w.tape
  output : w'.output = w.output
  size : w.heap.size ≤ w'.heap.size
  block : ∀ k, k < w.heap.size → ¬ F k → w'.heap[k]? = w.heap[k]?
theorem Frm.refl (F : Nat → Prop) (w : World) : Frm F w w := ⟨rfl, rfl, rfl, Nat.le_refl _, fun _ _ _ => rfl⟩
theorem Frm.of_below {F : Nat → Prop} {w w' : World} (h : Below w.heap.size w w') : Frm F w w' := ⟨h.os, h.tape, h.output, h.size, fun k hk _ => h.block k hk⟩
theorem Frm.of_grown {F : Nat → Prop} {w w' : World} {row : Option Nat} (h : w.grownBy w' row) (hr : ∀ k, row = some k → F k) : Frm F w w' :=
  ⟨h.os, h.tape, h.output, h.size, fun k hk hn => h.block k hk (fun e => hn (hr k e.symm))⟩
theorem Frm.trans {F G : Nat → Prop} {a b c : World} (h : Frm F a b) (k : Frm G b c) (hG : ∀ i, i < a.heap.size → G i → F i) : Frm F a c :=
  ⟨k.os.trans h.os, k.tape.trans h.tape, k.output.trans h.output, Nat.le_trans h.size k.size, fun i hi hn => (k.block i (Nat.lt_of_lt_of_le hi h.size) (fun hg => hn (hG i hi hg))).trans (h.block i hi hn)⟩
theorem Frm.mono {F G : Nat → Prop} {a b : World} (h : Frm F a b) (hG : ∀ i, i < a.heap.size → F i → G i) : Frm G a b := ⟨h.os, h.tape, h.output, h.size, fun i hi hn => h.block i hi (fun hf => hn (hG i hi hf))⟩
theorem Frm.below {F : Nat → Prop} {B : Nat} {w0 a b : World} (h : Below B w0 a) (k : Frm F a b) (hF : ∀ i, F i → B ≤ i) (hB : B ≤ a.heap.size) : Below B w0 b :=
  ⟨k.os.trans h.os, k.tape.trans h.tape, k.output.trans h.output, Nat.le_trans h.size k.size, fun i hi => (k.block i (by omega) (fun hf => by have := hF i hf; omega)).trans (h.block i hi)⟩
theorem Frm.cell {F : Nat → Prop} {w w' : World} {a : Addr} {v : Value} (h : Frm F w w') (hF : ¬ F a.block) (k : w.cell? a = some v) : w'.cell? a = some v :=
  (World.cell?_of_block (h.block a.block (World.block_lt_of_cell? w a k) hF)).trans k
theorem Frm.frozen {F : Nat → Prop} {w w' : World} {a : Addr} {v : Value} (h : Frm F w w') (hF : ¬ F a.block) (k : w.cell? a = some v) (f : w.frozen? a = false) : w'.frozen? a = false :=
  (World.frozen?_of_block (h.block a.block (World.block_lt_of_cell? w a k) hF)).trans f
theorem Frm.ownc {F : Nat → Prop} {w w' : World} {a : Addr} (h : Frm F w w') (hF : ¬ F a.block) (k : OwnC w a) : OwnC w' a := by
  obtain ⟨⟨v, hv⟩, hf⟩ := k
  exact ⟨⟨v, h.cell hF hv⟩, h.frozen hF hv hf⟩
theorem ownsRow_of_block {w w' : World} {B e s n : Nat} {v : Value} {xs : List Value} (h : w.ownsRow B e s v n xs) (hb : ∀ k, v.ownBlock = some k → w'.heap[k]? = w.heap[k]?) : w'.ownsRow B e s v n xs := by
  obtain ⟨h1, h2⟩ := h
  refine ⟨h1, ?_⟩
  rcases h2 with h2 | ⟨g, cap, cur, hv, hb', hh, hrest⟩
  · exact .inl h2
  · exact .inr ⟨g, cap, cur, hv, hb', (hb g (by rw [hv]; rfl)).trans hh, hrest⟩
theorem Frm.row {F : Nat → Prop} {w w' : World} {B e s n : Nat} {v : Value} {xs : List Value} (h : Frm F w w') (hr : w.ownsRow B e s v n xs) (hF : ∀ k, v.ownBlock = some k → ¬ F k) : w'.ownsRow B e s v n xs :=
  ownsRow_of_block hr fun k hk => h.block k (World.ownsRow.lt hr k hk).2 (hF k hk)
theorem frm_setCell {F : Nat → Prop} {w w1 : World} (h : Frm F w w1) {p : Addr} (hp : F p.block) (v : Value) : Frm F w (w1.setCell p v) :=
  ⟨h.os, h.tape, h.output, by simp [World.setCell]; exact h.size, fun k hk hn => (Below.heap_setCell _ _ _ _ (fun e => hn (by rw [e]; exact hp))).trans (h.block k hk hn)⟩
end Go.Proofs.YtifcgimpgbeocaaGreat
/- What a store keeps in memory, and what its steps turn. -/
set_option linter.unusedVariables false
set_option linter.unusedSimpArgs false
namespace Go.Proofs.YtifcgimpgbeocaaGreat
open Go.RowKit
/-! ### Values that read alike -/
theorem rd_block {w w' : World} {v : Value} (h : ∀ k, v.ownBlock = some k → w'.heap[k]? = w.heap[k]?) {o : Option Addr} {n cap b off : Nat} (e : v = .slice o n cap) (eo : o = some ⟨b, off, none⟩) : w'.heap[b]? = w.heap[b]? := h b (by rw [e, eo]; rfl)
theorem cell_at {w w' : World} {b i : Nat} {v : Value} (h : w'.heap[b]? = w.heap[b]?) (k : w.cell? ⟨b, i, none⟩ = some v) : w'.cell? ⟨b, i, none⟩ = some v := (World.cell?_of_block (a := ⟨b, i, none⟩) h).trans k
theorem RdS.block {w w' : World} {v : Value} {d : List Bs} (h : RdS w v d) (hb : ∀ k, v.ownBlock = some k → w'.heap[k]? = w.heap[k]?) (hz : w.heap.size ≤ w'.heap.size) : RdS w' v d := by
  obtain ⟨o, cap, e, hc, h⟩ := h
  refine ⟨o, cap, e, hc, ?_⟩
  rcases h with h | ⟨b, off, e1, e2, h⟩
  · exact .inl h
  · have hq := rd_block hb e e1
    exact .inr ⟨b, off, e1, by omega, fun i r hi => cell_at hq (h i r hi)⟩
theorem RdW.block {w w' : World} {v : Value} {d : List Wt} (h : RdW w v d) (hb : ∀ k, v.ownBlock = some k → w'.heap[k]? = w.heap[k]?) (hz : w.heap.size ≤ w'.heap.size) : RdW w' v d := by
  obtain ⟨o, cap, e, hc, h⟩ := h
  refine ⟨o, cap, e, hc, ?_⟩
  rcases h with h | ⟨b, off, e1, e2, h⟩
  · exact .inl h
  · have hq := rd_block hb e e1
    exact .inr ⟨b, off, e1, by omega, fun i r hi => ⟨cell_at hq (h i r hi).1, cell_at hq (h i r hi).2⟩⟩
/-- The drive in block D. -/
structure DA (w : World) (D : Nat) (vp vq va : Value) (dk : Dk) (acts : List Ac) : Prop where
  c0 : w.cell? ⟨D, 0, none⟩ = some vp
  c1 : w.cell? ⟨D, 1, none⟩ = some vq
  c2 : w.cell? ⟨D, 2, none⟩ = some va
  fz : ∀ j, w.frozen? ⟨D, j, none⟩ = false
  rp : RdS w vp dk.1
  rq : RdW w vq dk.2
  oa : OA w 0 va acts
  na : va.ownBlock ≠ some D
/-- The blocks that a drive turns. -/
def FD (D : Nat) (va : Value) (k : Nat) : Prop := k = D ∨ va.ownBlock = some k
theorem frozen_at {w w' : World} {b i : Nat} (h : w'.heap[b]? = w.heap[b]?) : w'.frozen? ⟨b, i, none⟩ = w.frozen? ⟨b, i, none⟩ := World.frozen?_of_block (a := ⟨b, i, none⟩) h
theorem DA.blocks {w w' : World} {D : Nat} {vp vq va : Value} {dk : Dk} {acts : List Ac} (h : DA w D vp vq va dk acts) (hz : w.heap.size ≤ w'.heap.size)
    (hb : ∀ k, k < w.heap.size → (k = D ∨ va.ownBlock = some k ∨ vp.ownBlock = some k ∨ vq.ownBlock = some k) → w'.heap[k]? = w.heap[k]?)
    (hp : ∀ k, vp.ownBlock = some k → k < w.heap.size) (hq : ∀ k, vq.ownBlock = some k → k < w.heap.size) : DA w' D vp vq va dk acts :=
  have hD := hb D (World.block_lt_of_cell? w _ h.c0) (.inl rfl)
  ⟨cell_at hD h.c0, cell_at hD h.c1, cell_at hD h.c2, fun j => (frozen_at hD).trans (h.fz j), h.rp.block (fun k e => hb k (hp k e) (.inr (.inr (.inl e)))) hz, h.rq.block (fun k e => hb k (hq k e) (.inr (.inr (.inr e)))) hz,
    ownsRow_of_block h.oa (fun k e => hb k (World.ownsRow.lt h.oa k e).2 (.inr (.inl e))), h.na⟩
/-- The blocks that a store turns. -/
def FSt (S D : Nat) (va vw vd : Value) (k : Nat) : Prop := k = S ∨ k = D ∨ va.ownBlock = some k ∨ vw.ownBlock = some k ∨ vd.ownBlock = some k
/-- The store in block S, its drive in block D; its blocks are among U. -/
structure SA (w : World) (U : Nat → Prop) (S D : Nat) (vp vq va vw vd vk : Value) (us ks : List Value) (st : St) : Prop where
  ult : ∀ k, U k → k < w.heap.size
  uF : ∀ k, FSt S D va vw vd k → U k
  uR : ∀ v, v ∈ vp :: vq :: vk :: (us ++ ks) → ∀ k, v.ownBlock = some k → U k ∧ ¬ FSt S D va vw vd k
  sd : S ≠ D
  no : ∀ v, v = va ∨ v = vw ∨ v = vd → v.ownBlock ≠ some S ∧ v.ownBlock ≠ some D
  s0 : w.cell? ⟨S, 0, none⟩ = some (.pointer (some ⟨D, 0, none⟩))
  s1 : w.cell? ⟨S, 1, none⟩ = some (.int .i64 st.hd.1)
  s2 : w.cell? ⟨S, 2, none⟩ = some (.int .i64 st.hd.2.1)
  s3 : w.cell? ⟨S, 3, none⟩ = some (.int .i64 st.hd.2.2.1)
  s4 : w.cell? ⟨S, 4, none⟩ = some (.int .i64 st.hd.2.2.2)
  s5 : w.cell? ⟨S, 5, none⟩ = some (strV st.log)
  s6 : w.cell? ⟨S, 6, none⟩ = some vw
  s7 : w.cell? ⟨S, 7, none⟩ = some vd
  s8 : w.cell? ⟨S, 8, none⟩ = some vk
  fz : ∀ j, w.frozen? ⟨S, j, none⟩ = false
  dv : DA w D vp vq va st.dk st.acts
  ow : OO w 0 vw st.ops
  od : OV w 0 vd us
  ul : us.length = st.now.length
  ur : ∀ (i : Nat) (u : Value) (d : Ds), us[i]? = some u → st.now[i]? = some d → OR w 0 u d
  ok : OV w 0 vk ks
  kl : ks.length = st.kept.length
  kr : ∀ (i : Nat) (u : Value) (d : Ds), ks[i]? = some u → st.kept[i]? = some d → OR w 0 u d
/-- What a step of the store lets stand of what is read alone. -/
theorem SA.row {w w' : World} {U : Nat → Prop} {S D : Nat} {vp vq va vw vd vk : Value} {us ks : List Value} {st : St} (h : SA w U S D vp vq va vw vd vk us ks st) (hf : Frm (FSt S D va vw vd) w w')
    {v : Value} (hv : v ∈ vp :: vq :: vk :: (us ++ ks)) {B e s n : Nat} {xs : List Value} (hr : w.ownsRow B e s v n xs) : w'.ownsRow B e s v n xs := hf.row hr fun k hk => (h.uR v hv k hk).2
theorem SA.keep {w w' : World} {U : Nat → Prop} {S D : Nat} {vp vq va vw vd vk : Value} {us ks : List Value} {st : St} (h : SA w U S D vp vq va vw vd vk us ks st) (hf : Frm (FSt S D va vw vd) w w') {v : Value} (hv : v ∈ vp :: vq :: vk :: (us ++ ks)) : ∀ k, v.ownBlock = some k → w'.heap[k]? = w.heap[k]? :=
  fun k hk => hf.block k (h.ult k (h.uR v hv k hk).1) (h.uR v hv k hk).2
/-- Nothing of the store has turned. -/
theorem SA.still {w w' : World} {U : Nat → Prop} {S D : Nat} {vp vq va vw vd vk : Value} {us ks : List Value} {st : St} (h : SA w U S D vp vq va vw vd vk us ks st) (hz : w.heap.size ≤ w'.heap.size) (hb : ∀ k, U k → w'.heap[k]? = w.heap[k]?) : SA w' U S D vp vq va vw vd vk us ks st := by
  have hS := hb S (h.uF S (.inl rfl))
  have hF : ∀ v, v = va ∨ v = vw ∨ v = vd → ∀ k, v.ownBlock = some k → w'.heap[k]? = w.heap[k]? := fun v hv k hk => hb k (h.uF k (by rcases hv with rfl | rfl | rfl <;> simp [FSt, hk]))
  have hR : ∀ v, v ∈ vp :: vq :: vk :: (us ++ ks) → ∀ k, v.ownBlock = some k → w'.heap[k]? = w.heap[k]? := fun v hv k hk => hb k (h.uR v hv k hk).1
  have hmu : ∀ i u, us[i]? = some u → u ∈ vp :: vq :: vk :: (us ++ ks) := fun i u hu => by have := List.mem_of_getElem? hu; simp [this]
  have hmk : ∀ i u, ks[i]? = some u → u ∈ vp :: vq :: vk :: (us ++ ks) := fun i u hu => by have := List.mem_of_getElem? hu; simp [this]
  exact ⟨fun k hk => Nat.lt_of_lt_of_le (h.ult k hk) hz, h.uF, h.uR, h.sd, h.no, cell_at hS h.s0, cell_at hS h.s1, cell_at hS h.s2, cell_at hS h.s3, cell_at hS h.s4, cell_at hS h.s5, cell_at hS h.s6, cell_at hS h.s7, cell_at hS h.s8,
    fun j => (frozen_at hS).trans (h.fz j),
    h.dv.blocks hz (fun k _ hk => hb k (by
      rcases hk with rfl | hk | hk | hk
      · exact h.uF _ (.inr (.inl rfl))
      · exact h.uF _ (by simp [FSt, hk])
      · exact (h.uR vp (by simp) k hk).1
      · exact (h.uR vq (by simp) k hk).1)) (fun k hk => h.ult k (h.uR vp (by simp) k hk).1) (fun k hk => h.ult k (h.uR vq (by simp) k hk).1),
    ownsRow_of_block h.ow (hF vw (by simp)), ownsRow_of_block h.od (hF vd (by simp)), h.ul, fun i u d hu hd => ownsRow_of_block (h.ur i u d hu hd) (hR u (hmu i u hu)),
    ownsRow_of_block h.ok (hR vk (by simp)), h.kl, fun i u d hu hd => ownsRow_of_block (h.kr i u d hu hd) (hR u (hmk i u hu))⟩
theorem SA.below {w w' : World} {U : Nat → Prop} {S D : Nat} {vp vq va vw vd vk : Value} {us ks : List Value} {st : St} (h : SA w U S D vp vq va vw vd vk us ks st) (hb : Below w.heap.size w w') : SA w' U S D vp vq va vw vd vk us ks st :=
  h.still hb.size fun k hk => hb.block k (h.ult k hk)
theorem SA.frm {w w' : World} {U F : Nat → Prop} {S D : Nat} {vp vq va vw vd vk : Value} {us ks : List Value} {st : St} (h : SA w U S D vp vq va vw vd vk us ks st) (hf : Frm F w w') (hF : ∀ k, U k → ¬ F k) : SA w' U S D vp vq va vw vd vk us ks st :=
  h.still hf.size fun k hk => hf.block k (h.ult k hk) (hF k hk)
theorem SA.widen {w : World} {U U' : Nat → Prop} {S D : Nat} {vp vq va vw vd vk : Value} {us ks : List Value} {st : St} (h : SA w U S D vp vq va vw vd vk us ks st) (h1 : ∀ k, U k → U' k) (h2 : ∀ k, U' k → k < w.heap.size) : SA w U' S D vp vq va vw vd vk us ks st :=
  { h with ult := h2, uF := fun k hk => h1 k (h.uF k hk), uR := fun v hv k hk => ⟨h1 k (h.uR v hv k hk).1, (h.uR v hv k hk).2⟩ }
end Go.Proofs.YtifcgimpgbeocaaGreat
/- A cell of a row of strings, of datasets, stored. -/
set_option linter.unusedVariables false
set_option linter.unusedSimpArgs false
namespace Go.Proofs.YtifcgimpgbeocaaGreat
open Go.RowKit
theorem row_set {w : World} {B e g n cap i : Nat} {xs : List Value} {v : Value} (h : w.ownsRow B e 1 (.slice (some ⟨g, 0, none⟩) n cap) n xs) (hi : i < n) :
    (w.setCell ⟨g, i, none⟩ v).ownsRow B e 1 (.slice (some ⟨g, 0, none⟩) n cap) n (xs.set i v) ∧ w.grownBy (w.setCell ⟨g, i, none⟩ v) (some g) := by
  obtain ⟨hl, ⟨hv, -⟩ | ⟨g', cap', cur, hv, hb, hg, hnc, hcm, hcs, ht⟩⟩ := h
  · cases hv
  · simp only [Value.slice.injEq, Option.some.injEq, Addr.mk.injEq, true_and, and_true] at hv
    obtain ⟨rfl, rfl⟩ := hv
    refine ⟨⟨by simpa using hl, .inr ⟨g, cap, cur.setIfInBounds i v, rfl, hb, heap_setCell_same w g i cur e v hg, hnc, hcm, by simpa using hcs, ?_⟩⟩, grown_set (grown_refl w _) i v⟩
    rw [← ht, Array.toList_setIfInBounds, List.take_set]
theorem encS_set (l : List Bs) (i : Nat) (s : Bs) : encS (l.set i s) = (encS l).set i (strV s) := by
  have e : ∀ l : List Bs, encS l = l.map strV := fun l => by induction l with
    | nil => rfl
    | cons x r ih => rw [encS_cons, ih]; rfl
  rw [e, e, List.map_set]
theorem OS.set {w : World} {B g cap i : Nat} {l : List Bs} {s : Bs} {n : Nat} (h : OS w B (.slice (some ⟨g, 0, none⟩) n cap) l) (hn : l.length = n) (hi : i < n) :
    OS (w.setCell ⟨g, i, none⟩ (strV s)) B (.slice (some ⟨g, 0, none⟩) n cap) (l.set i s) ∧ w.grownBy (w.setCell ⟨g, i, none⟩ (strV s)) (some g) := by
  unfold OS at *
  rw [encS_set, List.length_set]
  rw [hn] at h ⊢
  exact row_set h hi
theorem OV.set {w : World} {B g cap i : Nat} {l : List Value} {u : Value} {n : Nat} (h : OV w B (.slice (some ⟨g, 0, none⟩) n cap) l) (hn : l.length = n) (hi : i < n) :
    OV (w.setCell ⟨g, i, none⟩ u) B (.slice (some ⟨g, 0, none⟩) n cap) (l.set i u) ∧ w.grownBy (w.setCell ⟨g, i, none⟩ u) (some g) := by
  unfold OV at *
  rw [List.length_set]
  rw [hn] at h ⊢
  exact row_set h hi
end Go.Proofs.YtifcgimpgbeocaaGreat
