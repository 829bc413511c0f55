/- Slices that a call owns: rows of records, operations, writes, acts, strings, numbers. -/
import Derived.Test.YtifcgimpgbeocaaGreatK2
import Derived.Lib.AppendZerosOnto
import Derived.Lib.Overlaps
import Derived.Laws.Externs
import Derived.Shelf.Spec.SlicesInsert
set_option linter.unusedVariables false
set_option linter.unusedSimpArgs false
namespace Go.Proofs.YtifcgimpgbeocaaGreat
open Go.RowKit
/-- Two rows of cells of different types lie apart. -/
theorem rows_apart {w : World} {B B' e e' s s' n n' : Nat} {v v' : Value} {xs ys : List Value} (h : w.ownsRow B e s v n xs) (h' : w.ownsRow B' e' s' v' n' ys) (hne : e ≠ e') : v.ownBlock = none ∨ v.ownBlock ≠ v'.ownBlock := by
  obtain ⟨-, ⟨rfl, -⟩ | ⟨g, cap, cur, rfl, hb, hg, -⟩⟩ := h
  · exact .inl rfl
  · right
    obtain ⟨-, ⟨rfl, -⟩ | ⟨g', cap', cur', rfl, hb', hg', -⟩⟩ := h'
    · simp [Value.ownBlock]
    · intro he
      simp only [Value.ownBlock, Option.some.injEq] at he
      subst he
      rw [hg] at hg'
      simp only [Option.some.injEq, Obj.cells.injEq] at hg'
      exact hne hg'.2.1
theorem keepB {B : Nat} {w w1 : World} {a : Addr} {v : Value} (h : Below B w w1) (ha : a.block < B) (k : w.cell? a = some v) : w1.cell? a = some v := (h.cell ha).trans k
/-- Strings joined. -/
@[go_sem] theorem str_app (a b : List UInt8) : (⟨a.toArray⟩ : ByteArray) ++ ⟨b.toArray⟩ = ⟨(a ++ b).toArray⟩ := by
  apply ByteArray.ext
  simp
@[go_sem high] theorem run_add_lists {P : Program} (x y : List UInt8) (w : World) (h : x.length + y.length ≤ 9223372036854775807) : (Op.stringOp .add ⟨x.toArray⟩ ⟨y.toArray⟩).run P w = .ok (.string ⟨(x ++ y).toArray⟩) w := by
  rw [run_string_add_sum w _ _ (by simpa [ByteArray.size] using h), str_app]
/-! ### Kind R -/
theorem underR : Tryz.prog.underlying 69 = some (.slice 59) := by kernel_rfl
theorem infoR : (Tryz.prog.info? 59).map (fun i => (i.zero, i.size, i.bytes)) = some (some (.agg #[.string ⟨#[]⟩, .string ⟨#[]⟩]), 2, 32) := by kernel_rfl
def encR (l : Ds) : List Value := l.flatMap (fun x => [strV x.1, strV x.2])
theorem encR_nil : encR [] = [] := rfl
theorem encR_cons (x : Rec) (l : Ds) : encR (x :: l) = [strV x.1, strV x.2] ++ encR l := rfl
theorem encR_length (l : Ds) : (encR l).length = l.length * 2 := by
  induction l with
  | nil => rfl
  | cons x r ih => rw [encR_cons, List.length_append, ih]; simp only [List.length_cons, List.length_nil]; omega
theorem encR_append (a b : Ds) : encR (a ++ b) = encR a ++ encR b := by unfold encR; exact List.flatMap_append
theorem encR_at : ∀ (l : Ds) (i : Nat) (x : Rec), l[i]? = some x → (encR l)[i * 2]? = some (strV x.1) ∧ (encR l)[i * 2 + 1]? = some (strV x.2)
  | [], i, x, h => by simp at h
  | q :: r, 0, x, h => by
    simp only [List.getElem?_cons_zero, Option.some.injEq] at h
    subst h
    exact ⟨rfl, rfl⟩
  | q :: r, i + 1, x, h => by
    have ih := encR_at r i x (by simpa using h)
    rw [encR_cons]
    rw [show (i + 1) * 2 = i * 2 + 2 by omega, show i * 2 + 2 + 1 = (i * 2 + 1) + 2 by omega]
    simp only [List.cons_append, List.nil_append, List.getElem?_cons_succ]
    exact ih
def OR (w : World) (B : Nat) (v : Value) (l : Ds) : Prop := w.ownsRow B 59 2 v l.length (encR l)
theorem OR.cells {w : World} {B : Nat} {v : Value} {l : Ds} (h : OR w B v l) (hne : 0 < l.length) :
    ∃ g cap, v = .slice (some ⟨g, 0, none⟩) l.length cap ∧ B ≤ g ∧ g < w.heap.size ∧ l.length ≤ cap ∧ (∀ j, w.frozen? ⟨g, j, none⟩ = false) ∧ ∀ j u, (encR l)[j]? = some u → w.cell? ⟨g, j, none⟩ = some u := by
  have h0 := h
  unfold OR at h0
  obtain ⟨hl, ⟨rfl, hn⟩ | ⟨g, cap, cur, rfl, hb, hg, hnc, hcm, hcs, ht⟩⟩ := h
  · omega
  · refine ⟨g, cap, rfl, hb, (Array.getElem?_eq_some_iff.1 hg).1, hnc, fun j => World.ownsRow.frozenAt h0 j, fun j u hj => ?_⟩
    have hlt := (List.getElem?_eq_some_iff.1 hj).1
    rw [encR_length] at hlt
    rw [← ht, List.getElem?_take_of_lt hlt] at hj
    unfold World.cell?
    simp only [hg]
    simpa using hj
theorem OR.rd {w : World} {B : Nat} {v : Value} {l : Ds} (h : OR w B v l) : RdR w v l := by
  rcases Nat.eq_zero_or_pos l.length with h0 | h0
  · have e := List.eq_nil_of_length_eq_zero h0
    subst e
    obtain ⟨hl, ⟨rfl, hn⟩ | ⟨g, cap, cur, rfl, hb, hg, hnc, hcm, hcs, ht⟩⟩ := h
    · exact ⟨none, 0, rfl, Nat.le_refl _, .inl rfl⟩
    · exact ⟨_, cap, rfl, hnc, .inl rfl⟩
  · obtain ⟨g, cap, rfl, hb, hg, hnc, -, hc⟩ := h.cells h0
    refine ⟨_, cap, rfl, hnc, .inr ⟨g, 0, rfl, hg, fun i x hi => ?_⟩⟩
    have e := encR_at l i x hi
    exact ⟨by rw [Nat.zero_add]; exact hc _ _ e.1, by rw [Nat.zero_add]; exact hc _ _ e.2⟩
theorem OR.below {w w' : World} {B : Nat} {v : Value} {l : Ds} (h : OR w B v l) (hb : Below w.heap.size w w') : OR w' B v l :=
  World.ownsRow.kept (row := none) h (below_grow hb none) (by cases v.ownBlock <;> simp)
theorem OR.mono {w : World} {B B' : Nat} {v : Value} {l : Ds} (h : OR w B v l) (hB : B' ≤ B) : OR w B' v l := by
  obtain ⟨hl, h | ⟨g, cap, cur, hv, hb, h⟩⟩ := h
  · exact ⟨hl, .inl h⟩
  · exact ⟨hl, .inr ⟨g, cap, cur, hv, Nat.le_trans hB hb, h⟩⟩
theorem OR.own {w : World} {B : Nat} {v : Value} {l : Ds} (h : OR w B v l) : ∀ k, v.ownBlock = some k → B ≤ k := fun k hk => (World.ownsRow.lt h k hk).1
theorem OR.grown {w0 w w' : World} {B : Nat} {v : Value} {l : Ds} (h : OR w B v l) (hb : Below B w0 w) (hg : w.grownBy w' v.ownBlock) (hB : B ≤ w.heap.size) : Below B w0 w' := hb.grown hg hB h.own
theorem oR_nil (w : World) (B : Nat) : OR w B (.slice none 0 0) [] := ⟨rfl, .inl ⟨rfl, rfl⟩⟩
theorem oR_new (w : World) (B : Nat) (hB : B ≤ w.heap.size) : OR (w.alloc (.cells #[] 59)) B (.slice (some ⟨w.heap.size, 0, none⟩) 0 0) [] := World.ownsRow_lit w #[] 0 hB (by decide) rfl
theorem appR {ops : Array Oper} {rest : List Oper} {o : Oper} {a : Act} {Q : Exit → Act → World → Prop} {w : World} (hgd : o.guard = none) (s x : Operand)
    (ho : o.op = .call { callee := .builtin .append, args := #[s, x], argTypes := #[69, 69] }) (B : Nat) (v : Value) (l : Ds) (y : Rec) (g c : Nat)
    (hs : a.eval s = v) (hx : a.eval x = .slice (some ⟨g, 0, none⟩) 1 c) (hP : OR w B v l) (hc : ∀ j u, (encR [y])[j]? = some u → w.cell? ⟨g, j, none⟩ = some u) (hn : l.length ≤ 1000000) (hb : B ≤ w.heap.size)
    (h : ∀ v' w', OR w' B v' (l ++ [y]) → w.grownBy w' v.ownBlock → wpList Tryz.prog ops Q rest (a.put o.dst v') w') : wpList Tryz.prog ops Q (o :: rest) a w := by
  obtain ⟨i0, hi, hz0, hz1, hz2⟩ := info_parts infoR
  refine wpList_append_own _ hgd s x 69 ho B 59 i0 (.agg #[.string ⟨#[]⟩, .string ⟨#[]⟩]) 2 32 underR hi hz0 hz1 hz2 rfl (by decide) v l.length (encR l) hs hP ⟨g, 0, none⟩ 1 c (encR [y]) hx rfl ?_ ?_ (by unfold maxLen; omega) (by omega) hb ?_
  · intro j u hj
    rw [addr_add, Nat.zero_add]
    exact hc j u hj
  · intro u hu
    obtain ⟨z, hz, hu⟩ := List.mem_flatMap.1 hu
    simp only [List.mem_cons, List.not_mem_nil, or_false] at hu
    rcases hu with rfl | rfl <;> rfl
  · intro v' w' hown hg _
    refine h v' w' ?_ hg
    unfold OR
    rw [encR_append, List.length_append]
    exact hown
theorem appAllR {ops : Array Oper} {rest : List Oper} {o : Oper} {a : Act} {Q : Exit → Act → World → Prop} {w : World} (hgd : o.guard = none) (s x : Operand)
    (ho : o.op = .call { callee := .builtin .append, args := #[s, x], argTypes := #[69, 69] }) (B : Nat) (v : Value) (l y : Ds) (g : Addr) (c : Nat)
    (hs : a.eval s = v) (hx : a.eval x = .slice (some g) y.length c) (hP : OR w B v l) (hc : ∀ j u, (encR y)[j]? = some u → w.cell? (g.add j) = some u) (hn : l.length + y.length ≤ 1000000000) (hb : B ≤ w.heap.size)
    (h : ∀ v' w', OR w' B v' (l ++ y) → w.grownBy w' v.ownBlock → wpList Tryz.prog ops Q rest (a.put o.dst v') w') : wpList Tryz.prog ops Q (o :: rest) a w := by
  obtain ⟨i0, hi, hz0, hz1, hz2⟩ := info_parts infoR
  refine wpList_append_own _ hgd s x 69 ho B 59 i0 (.agg #[.string ⟨#[]⟩, .string ⟨#[]⟩]) 2 32 underR hi hz0 hz1 hz2 rfl (by decide) v l.length (encR l) hs hP g y.length c (encR y) hx (encR_length y) ?_ ?_ (by unfold maxLen; omega) (by omega) hb ?_
  · intro j u hj
    exact hc j u hj
  · intro u hu
    obtain ⟨z, hz, hu⟩ := List.mem_flatMap.1 hu
    simp only [List.mem_cons, List.not_mem_nil, or_false] at hu
    rcases hu with rfl | rfl <;> rfl
  · intro v' w' hown hg _
    refine h v' w' ?_ hg
    unfold OR
    rw [encR_append, List.length_append]
    exact hown
theorem RdR.enc {w : World} {v : Value} {l : Ds} (h : RdR w v l) : ∃ o cap, v = .slice o l.length cap ∧ l.length ≤ cap ∧ (l = [] ∨ ∃ b off, o = some ⟨b, off, none⟩ ∧ b < w.heap.size ∧ ∀ j u, (encR l)[j]? = some u → w.cell? ⟨b, off + j, none⟩ = some u) := by
  obtain ⟨o, cap, e, hc, h⟩ := h
  refine ⟨o, cap, e, hc, ?_⟩
  rcases h with h | ⟨b, off, e1, e2, h⟩
  · exact .inl h
  · refine .inr ⟨b, off, e1, e2, fun j u hj => ?_⟩
    have hlt := (List.getElem?_eq_some_iff.1 hj).1
    rw [encR_length] at hlt
    obtain ⟨x, hx⟩ : ∃ x, l[j / 2]? = some x := ⟨_, List.getElem?_eq_getElem (by omega)⟩
    have e3 := encR_at l (j / 2) x hx
    have e4 := h (j / 2) x hx
    by_cases h0 : j % 2 = 0
    · have ej : j = j / 2 * 2 := by omega
      rw [ej] at hj
      rw [e3.1] at hj
      cases hj
      have := e4.1
      rw [show off + j = off + j / 2 * 2 by omega]
      exact this
    · have ej : j = j / 2 * 2 + 1 := by omega
      rw [ej] at hj
      rw [e3.2] at hj
      cases hj
      have := e4.2
      rw [show off + j = off + j / 2 * 2 + 1 by omega]
      exact this
/-! ### Kind O -/
theorem underO : Tryz.prog.underlying 36 = some (.slice 55) := by kernel_rfl
theorem infoO : (Tryz.prog.info? 55).map (fun i => (i.zero, i.size, i.bytes)) = some (some (.agg #[.int .i64 0, .int .i64 0, .string ⟨#[]⟩, .string ⟨#[]⟩]), 4, 48) := by kernel_rfl
def encO (l : List FOp) : List Value := l.flatMap (fun x => [.int .i64 x.1, .int .i64 x.2.1, strV x.2.2.1, strV x.2.2.2])
theorem encO_cons (x : FOp) (l : List FOp) : encO (x :: l) = [.int .i64 x.1, .int .i64 x.2.1, strV x.2.2.1, strV x.2.2.2] ++ encO l := rfl
theorem encO_length (l : List FOp) : (encO l).length = l.length * 4 := by
  induction l with
  | nil => rfl
  | cons x r ih => rw [encO_cons, List.length_append, ih]; simp only [List.length_cons, List.length_nil]; omega
theorem encO_append (a b : List FOp) : encO (a ++ b) = encO a ++ encO b := by unfold encO; exact List.flatMap_append
theorem encO_at : ∀ (l : List FOp) (i : Nat) (x : FOp), l[i]? = some x → (encO l)[i * 4]? = some (.int .i64 x.1) ∧ (encO l)[i * 4 + 1]? = some (.int .i64 x.2.1) ∧ (encO l)[i * 4 + 2]? = some (strV x.2.2.1) ∧ (encO l)[i * 4 + 3]? = some (strV x.2.2.2)
  | [], i, x, h => by simp at h
  | q :: r, 0, x, h => by
    simp only [List.getElem?_cons_zero, Option.some.injEq] at h
    subst h
    exact ⟨rfl, rfl, rfl, rfl⟩
  | q :: r, i + 1, x, h => by
    have ih := encO_at r i x (by simpa using h)
    rw [encO_cons]
    rw [show (i + 1) * 4 = i * 4 + 4 by omega, show i * 4 + 4 + 1 = (i * 4 + 1) + 4 by omega, show i * 4 + 4 + 2 = (i * 4 + 2) + 4 by omega, show i * 4 + 4 + 3 = (i * 4 + 3) + 4 by omega]
    simp only [List.cons_append, List.nil_append, List.getElem?_cons_succ]
    exact ih
def OO (w : World) (B : Nat) (v : Value) (l : List FOp) : Prop := w.ownsRow B 55 4 v l.length (encO l)
theorem OO.cells {w : World} {B : Nat} {v : Value} {l : List FOp} (h : OO w B v l) (hne : 0 < l.length) :
    ∃ g cap, v = .slice (some ⟨g, 0, none⟩) l.length cap ∧ B ≤ g ∧ g < w.heap.size ∧ l.length ≤ cap ∧ (∀ j, w.frozen? ⟨g, j, none⟩ = false) ∧ ∀ j u, (encO l)[j]? = some u → w.cell? ⟨g, j, none⟩ = some u := by
  have h0 := h
  unfold OO at h0
  obtain ⟨hl, ⟨rfl, hn⟩ | ⟨g, cap, cur, rfl, hb, hg, hnc, hcm, hcs, ht⟩⟩ := h
  · omega
  · refine ⟨g, cap, rfl, hb, (Array.getElem?_eq_some_iff.1 hg).1, hnc, fun j => World.ownsRow.frozenAt h0 j, fun j u hj => ?_⟩
    have hlt := (List.getElem?_eq_some_iff.1 hj).1
    rw [encO_length] at hlt
    rw [← ht, List.getElem?_take_of_lt hlt] at hj
    unfold World.cell?
    simp only [hg]
    simpa using hj
theorem OO.rd {w : World} {B : Nat} {v : Value} {l : List FOp} (h : OO w B v l) : RdO w v l := by
  rcases Nat.eq_zero_or_pos l.length with h0 | h0
  · have e := List.eq_nil_of_length_eq_zero h0
    subst e
    obtain ⟨hl, ⟨rfl, hn⟩ | ⟨g, cap, cur, rfl, hb, hg, hnc, hcm, hcs, ht⟩⟩ := h
    · exact ⟨none, 0, rfl, Nat.le_refl _, .inl rfl⟩
    · exact ⟨_, cap, rfl, hnc, .inl rfl⟩
  · obtain ⟨g, cap, rfl, hb, hg, hnc, -, hc⟩ := h.cells h0
    refine ⟨_, cap, rfl, hnc, .inr ⟨g, 0, rfl, hg, fun i x hi => ?_⟩⟩
    have e := encO_at l i x hi
    exact ⟨by rw [Nat.zero_add]; exact hc _ _ e.1, by rw [Nat.zero_add]; exact hc _ _ e.2.1, by rw [Nat.zero_add]; exact hc _ _ e.2.2.1, by rw [Nat.zero_add]; exact hc _ _ e.2.2.2⟩
theorem OO.below {w w' : World} {B : Nat} {v : Value} {l : List FOp} (h : OO w B v l) (hb : Below w.heap.size w w') : OO w' B v l :=
  World.ownsRow.kept (row := none) h (below_grow hb none) (by cases v.ownBlock <;> simp)
theorem OO.mono {w : World} {B B' : Nat} {v : Value} {l : List FOp} (h : OO w B v l) (hB : B' ≤ B) : OO w B' v l := by
  obtain ⟨hl, h | ⟨g, cap, cur, hv, hb, h⟩⟩ := h
  · exact ⟨hl, .inl h⟩
  · exact ⟨hl, .inr ⟨g, cap, cur, hv, Nat.le_trans hB hb, h⟩⟩
theorem OO.own {w : World} {B : Nat} {v : Value} {l : List FOp} (h : OO w B v l) : ∀ k, v.ownBlock = some k → B ≤ k := fun k hk => (World.ownsRow.lt h k hk).1
theorem OO.grown {w0 w w' : World} {B : Nat} {v : Value} {l : List FOp} (h : OO w B v l) (hb : Below B w0 w) (hg : w.grownBy w' v.ownBlock) (hB : B ≤ w.heap.size) : Below B w0 w' := hb.grown hg hB h.own
theorem oO_nil (w : World) (B : Nat) : OO w B (.slice none 0 0) [] := ⟨rfl, .inl ⟨rfl, rfl⟩⟩
theorem oO_new (w : World) (B : Nat) (hB : B ≤ w.heap.size) : OO (w.alloc (.cells #[] 55)) B (.slice (some ⟨w.heap.size, 0, none⟩) 0 0) [] := World.ownsRow_lit w #[] 0 hB (by decide) rfl
theorem appO {ops : Array Oper} {rest : List Oper} {o : Oper} {a : Act} {Q : Exit → Act → World → Prop} {w : World} (hgd : o.guard = none) (s x : Operand)
    (ho : o.op = .call { callee := .builtin .append, args := #[s, x], argTypes := #[36, 36] }) (B : Nat) (v : Value) (l : List FOp) (y : FOp) (g c : Nat)
    (hs : a.eval s = v) (hx : a.eval x = .slice (some ⟨g, 0, none⟩) 1 c) (hP : OO w B v l) (hc : ∀ j u, (encO [y])[j]? = some u → w.cell? ⟨g, j, none⟩ = some u) (hn : l.length ≤ 1000000) (hb : B ≤ w.heap.size)
    (h : ∀ v' w', OO w' B v' (l ++ [y]) → w.grownBy w' v.ownBlock → wpList Tryz.prog ops Q rest (a.put o.dst v') w') : wpList Tryz.prog ops Q (o :: rest) a w := by
  obtain ⟨i0, hi, hz0, hz1, hz2⟩ := info_parts infoO
  refine wpList_append_own _ hgd s x 36 ho B 55 i0 (.agg #[.int .i64 0, .int .i64 0, .string ⟨#[]⟩, .string ⟨#[]⟩]) 4 48 underO hi hz0 hz1 hz2 rfl (by decide) v l.length (encO l) hs hP ⟨g, 0, none⟩ 1 c (encO [y]) hx rfl ?_ ?_ (by unfold maxLen; omega) (by omega) hb ?_
  · intro j u hj
    rw [addr_add, Nat.zero_add]
    exact hc j u hj
  · intro u hu
    obtain ⟨z, hz, hu⟩ := List.mem_flatMap.1 hu
    simp only [List.mem_cons, List.not_mem_nil, or_false] at hu
    rcases hu with rfl | rfl | rfl | rfl <;> rfl
  · intro v' w' hown hg _
    refine h v' w' ?_ hg
    unfold OO
    rw [encO_append, List.length_append]
    exact hown
theorem RdO.enc {w : World} {v : Value} {l : List FOp} (h : RdO w v l) : ∃ o cap, v = .slice o l.length cap ∧ l.length ≤ cap ∧ (l = [] ∨ ∃ b off, o = some ⟨b, off, none⟩ ∧ b < w.heap.size ∧ ∀ j u, (encO l)[j]? = some u → w.cell? ⟨b, off + j, none⟩ = some u) := by
  obtain ⟨o, cap, e, hc, h⟩ := h
  refine ⟨o, cap, e, hc, ?_⟩
  rcases h with h | ⟨b, off, e1, e2, h⟩
  · exact .inl h
  · refine .inr ⟨b, off, e1, e2, fun j u hj => ?_⟩
    have hlt := (List.getElem?_eq_some_iff.1 hj).1
    rw [encO_length] at hlt
    obtain ⟨x, hx⟩ : ∃ x, l[j / 4]? = some x := ⟨_, List.getElem?_eq_getElem (by omega)⟩
    have e3 := encO_at l (j / 4) x hx
    have e4 := h (j / 4) x hx
    by_cases h0 : j % 4 = 0
    · have ej : j = j / 4 * 4 := by omega
      rw [ej] at hj
      rw [e3.1] at hj
      cases hj
      have := e4.1
      rw [show off + j = off + j / 4 * 4 by omega]
      exact this
    by_cases h1 : j % 4 = 1
    · have ej : j = j / 4 * 4 + 1 := by omega
      rw [ej] at hj
      rw [e3.2.1] at hj
      cases hj
      have := e4.2.1
      rw [show off + j = off + j / 4 * 4 + 1 by omega]
      exact this
    by_cases h2 : j % 4 = 2
    · have ej : j = j / 4 * 4 + 2 := by omega
      rw [ej] at hj
      rw [e3.2.2.1] at hj
      cases hj
      have := e4.2.2.1
      rw [show off + j = off + j / 4 * 4 + 2 by omega]
      exact this
    · have ej : j = j / 4 * 4 + 3 := by omega
      rw [ej] at hj
      rw [e3.2.2.2] at hj
      cases hj
      have := e4.2.2.2
      rw [show off + j = off + j / 4 * 4 + 3 by omega]
      exact this
/-! ### Kind W -/
theorem underW : Tryz.prog.underlying 23 = some (.slice 92) := by kernel_rfl
theorem infoW : (Tryz.prog.info? 92).map (fun i => (i.zero, i.size, i.bytes)) = some (some (.agg #[.int .i64 0, .string ⟨#[]⟩]), 2, 24) := by kernel_rfl
def encW (l : List Wt) : List Value := l.flatMap (fun x => [.int .i64 x.1, strV x.2])
theorem encW_nil : encW [] = [] := rfl
theorem encW_cons (x : Wt) (l : List Wt) : encW (x :: l) = [.int .i64 x.1, strV x.2] ++ encW l := rfl
theorem encW_length (l : List Wt) : (encW l).length = l.length * 2 := by
  induction l with
  | nil => rfl
  | cons x r ih => rw [encW_cons, List.length_append, ih]; simp only [List.length_cons, List.length_nil]; omega
theorem encW_append (a b : List Wt) : encW (a ++ b) = encW a ++ encW b := by unfold encW; exact List.flatMap_append
theorem encW_at : ∀ (l : List Wt) (i : Nat) (x : Wt), l[i]? = some x → (encW l)[i * 2]? = some (.int .i64 x.1) ∧ (encW l)[i * 2 + 1]? = some (strV x.2)
  | [], i, x, h => by simp at h
  | q :: r, 0, x, h => by
    simp only [List.getElem?_cons_zero, Option.some.injEq] at h
    subst h
    exact ⟨rfl, rfl⟩
  | q :: r, i + 1, x, h => by
    have ih := encW_at r i x (by simpa using h)
    rw [encW_cons]
    rw [show (i + 1) * 2 = i * 2 + 2 by omega, show i * 2 + 2 + 1 = (i * 2 + 1) + 2 by omega]
    simp only [List.cons_append, List.nil_append, List.getElem?_cons_succ]
    exact ih
def OW (w : World) (B : Nat) (v : Value) (l : List Wt) : Prop := w.ownsRow B 92 2 v l.length (encW l)
theorem OW.cells {w : World} {B : Nat} {v : Value} {l : List Wt} (h : OW w B v l) (hne : 0 < l.length) :
    ∃ g cap, v = .slice (some ⟨g, 0, none⟩) l.length cap ∧ B ≤ g ∧ g < w.heap.size ∧ l.length ≤ cap ∧ (∀ j, w.frozen? ⟨g, j, none⟩ = false) ∧ ∀ j u, (encW l)[j]? = some u → w.cell? ⟨g, j, none⟩ = some u := by
  have h0 := h
  unfold OW at h0
  obtain ⟨hl, ⟨rfl, hn⟩ | ⟨g, cap, cur, rfl, hb, hg, hnc, hcm, hcs, ht⟩⟩ := h
  · omega
  · refine ⟨g, cap, rfl, hb, (Array.getElem?_eq_some_iff.1 hg).1, hnc, fun j => World.ownsRow.frozenAt h0 j, fun j u hj => ?_⟩
    have hlt := (List.getElem?_eq_some_iff.1 hj).1
    rw [encW_length] at hlt
    rw [← ht, List.getElem?_take_of_lt hlt] at hj
    unfold World.cell?
    simp only [hg]
    simpa using hj
theorem OW.rd {w : World} {B : Nat} {v : Value} {l : List Wt} (h : OW w B v l) : RdW w v l := by
  rcases Nat.eq_zero_or_pos l.length with h0 | h0
  · have e := List.eq_nil_of_length_eq_zero h0
    subst e
    obtain ⟨hl, ⟨rfl, hn⟩ | ⟨g, cap, cur, rfl, hb, hg, hnc, hcm, hcs, ht⟩⟩ := h
    · exact ⟨none, 0, rfl, Nat.le_refl _, .inl rfl⟩
    · exact ⟨_, cap, rfl, hnc, .inl rfl⟩
  · obtain ⟨g, cap, rfl, hb, hg, hnc, -, hc⟩ := h.cells h0
    refine ⟨_, cap, rfl, hnc, .inr ⟨g, 0, rfl, hg, fun i x hi => ?_⟩⟩
    have e := encW_at l i x hi
    exact ⟨by rw [Nat.zero_add]; exact hc _ _ e.1, by rw [Nat.zero_add]; exact hc _ _ e.2⟩
theorem OW.below {w w' : World} {B : Nat} {v : Value} {l : List Wt} (h : OW w B v l) (hb : Below w.heap.size w w') : OW w' B v l :=
  World.ownsRow.kept (row := none) h (below_grow hb none) (by cases v.ownBlock <;> simp)
theorem OW.mono {w : World} {B B' : Nat} {v : Value} {l : List Wt} (h : OW w B v l) (hB : B' ≤ B) : OW w B' v l := by
  obtain ⟨hl, h | ⟨g, cap, cur, hv, hb, h⟩⟩ := h
  · exact ⟨hl, .inl h⟩
  · exact ⟨hl, .inr ⟨g, cap, cur, hv, Nat.le_trans hB hb, h⟩⟩
theorem OW.own {w : World} {B : Nat} {v : Value} {l : List Wt} (h : OW w B v l) : ∀ k, v.ownBlock = some k → B ≤ k := fun k hk => (World.ownsRow.lt h k hk).1
theorem OW.grown {w0 w w' : World} {B : Nat} {v : Value} {l : List Wt} (h : OW w B v l) (hb : Below B w0 w) (hg : w.grownBy w' v.ownBlock) (hB : B ≤ w.heap.size) : Below B w0 w' := hb.grown hg hB h.own
theorem oW_nil (w : World) (B : Nat) : OW w B (.slice none 0 0) [] := ⟨rfl, .inl ⟨rfl, rfl⟩⟩
theorem oW_new (w : World) (B : Nat) (hB : B ≤ w.heap.size) : OW (w.alloc (.cells #[] 92)) B (.slice (some ⟨w.heap.size, 0, none⟩) 0 0) [] := World.ownsRow_lit w #[] 0 hB (by decide) rfl
theorem appW {ops : Array Oper} {rest : List Oper} {o : Oper} {a : Act} {Q : Exit → Act → World → Prop} {w : World} (hgd : o.guard = none) (s x : Operand)
    (ho : o.op = .call { callee := .builtin .append, args := #[s, x], argTypes := #[23, 23] }) (B : Nat) (v : Value) (l : List Wt) (y : Wt) (g c : Nat)
    (hs : a.eval s = v) (hx : a.eval x = .slice (some ⟨g, 0, none⟩) 1 c) (hP : OW w B v l) (hc : ∀ j u, (encW [y])[j]? = some u → w.cell? ⟨g, j, none⟩ = some u) (hn : l.length ≤ 1000000) (hb : B ≤ w.heap.size)
    (h : ∀ v' w', OW w' B v' (l ++ [y]) → w.grownBy w' v.ownBlock → wpList Tryz.prog ops Q rest (a.put o.dst v') w') : wpList Tryz.prog ops Q (o :: rest) a w := by
  obtain ⟨i0, hi, hz0, hz1, hz2⟩ := info_parts infoW
  refine wpList_append_own _ hgd s x 23 ho B 92 i0 (.agg #[.int .i64 0, .string ⟨#[]⟩]) 2 24 underW hi hz0 hz1 hz2 rfl (by decide) v l.length (encW l) hs hP ⟨g, 0, none⟩ 1 c (encW [y]) hx rfl ?_ ?_ (by unfold maxLen; omega) (by omega) hb ?_
  · intro j u hj
    rw [addr_add, Nat.zero_add]
    exact hc j u hj
  · intro u hu
    obtain ⟨z, hz, hu⟩ := List.mem_flatMap.1 hu
    simp only [List.mem_cons, List.not_mem_nil, or_false] at hu
    rcases hu with rfl | rfl <;> rfl
  · intro v' w' hown hg _
    refine h v' w' ?_ hg
    unfold OW
    rw [encW_append, List.length_append]
    exact hown
theorem appAllW {ops : Array Oper} {rest : List Oper} {o : Oper} {a : Act} {Q : Exit → Act → World → Prop} {w : World} (hgd : o.guard = none) (s x : Operand)
    (ho : o.op = .call { callee := .builtin .append, args := #[s, x], argTypes := #[23, 23] }) (B : Nat) (v : Value) (l y : List Wt) (g : Addr) (c : Nat)
    (hs : a.eval s = v) (hx : a.eval x = .slice (some g) y.length c) (hP : OW w B v l) (hc : ∀ j u, (encW y)[j]? = some u → w.cell? (g.add j) = some u) (hn : l.length + y.length ≤ 1000000000) (hb : B ≤ w.heap.size)
    (h : ∀ v' w', OW w' B v' (l ++ y) → w.grownBy w' v.ownBlock → wpList Tryz.prog ops Q rest (a.put o.dst v') w') : wpList Tryz.prog ops Q (o :: rest) a w := by
  obtain ⟨i0, hi, hz0, hz1, hz2⟩ := info_parts infoW
  refine wpList_append_own _ hgd s x 23 ho B 92 i0 (.agg #[.int .i64 0, .string ⟨#[]⟩]) 2 24 underW hi hz0 hz1 hz2 rfl (by decide) v l.length (encW l) hs hP g y.length c (encW y) hx (encW_length y) ?_ ?_ (by unfold maxLen; omega) (by omega) hb ?_
  · intro j u hj
    exact hc j u hj
  · intro u hu
    obtain ⟨z, hz, hu⟩ := List.mem_flatMap.1 hu
    simp only [List.mem_cons, List.not_mem_nil, or_false] at hu
    rcases hu with rfl | rfl <;> rfl
  · intro v' w' hown hg _
    refine h v' w' ?_ hg
    unfold OW
    rw [encW_append, List.length_append]
    exact hown
theorem RdW.enc {w : World} {v : Value} {l : List Wt} (h : RdW w v l) : ∃ o cap, v = .slice o l.length cap ∧ l.length ≤ cap ∧ (l = [] ∨ ∃ b off, o = some ⟨b, off, none⟩ ∧ b < w.heap.size ∧ ∀ j u, (encW l)[j]? = some u → w.cell? ⟨b, off + j, none⟩ = some u) := by
  obtain ⟨o, cap, e, hc, h⟩ := h
  refine ⟨o, cap, e, hc, ?_⟩
  rcases h with h | ⟨b, off, e1, e2, h⟩
  · exact .inl h
  · refine .inr ⟨b, off, e1, e2, fun j u hj => ?_⟩
    have hlt := (List.getElem?_eq_some_iff.1 hj).1
    rw [encW_length] at hlt
    obtain ⟨x, hx⟩ : ∃ x, l[j / 2]? = some x := ⟨_, List.getElem?_eq_getElem (by omega)⟩
    have e3 := encW_at l (j / 2) x hx
    have e4 := h (j / 2) x hx
    by_cases h0 : j % 2 = 0
    · have ej : j = j / 2 * 2 := by omega
      rw [ej] at hj
      rw [e3.1] at hj
      cases hj
      have := e4.1
      rw [show off + j = off + j / 2 * 2 by omega]
      exact this
    · have ej : j = j / 2 * 2 + 1 := by omega
      rw [ej] at hj
      rw [e3.2] at hj
      cases hj
      have := e4.2
      rw [show off + j = off + j / 2 * 2 + 1 by omega]
      exact this
/-! ### Kind A -/
theorem underA : Tryz.prog.underlying 37 = some (.slice 77) := by kernel_rfl
theorem infoA : (Tryz.prog.info? 77).map (fun i => (i.zero, i.size, i.bytes)) = some (some (.agg #[.bool false, .int .i64 0, .string ⟨#[]⟩]), 3, 32) := by kernel_rfl
def encA (l : List Ac) : List Value := l.flatMap (fun x => [.bool x.1, .int .i64 x.2.1, strV x.2.2])
theorem encA_nil : encA [] = [] := rfl
theorem encA_cons (x : Ac) (l : List Ac) : encA (x :: l) = [.bool x.1, .int .i64 x.2.1, strV x.2.2] ++ encA l := rfl
theorem encA_length (l : List Ac) : (encA l).length = l.length * 3 := by
  induction l with
  | nil => rfl
  | cons x r ih => rw [encA_cons, List.length_append, ih]; simp only [List.length_cons, List.length_nil]; omega
theorem encA_append (a b : List Ac) : encA (a ++ b) = encA a ++ encA b := by unfold encA; exact List.flatMap_append
theorem encA_at : ∀ (l : List Ac) (i : Nat) (x : Ac), l[i]? = some x → (encA l)[i * 3]? = some (.bool x.1) ∧ (encA l)[i * 3 + 1]? = some (.int .i64 x.2.1) ∧ (encA l)[i * 3 + 2]? = some (strV x.2.2)
  | [], i, x, h => by simp at h
  | q :: r, 0, x, h => by
    simp only [List.getElem?_cons_zero, Option.some.injEq] at h
    subst h
    exact ⟨rfl, rfl, rfl⟩
  | q :: r, i + 1, x, h => by
    have ih := encA_at r i x (by simpa using h)
    rw [encA_cons]
    rw [show (i + 1) * 3 = i * 3 + 3 by omega, show i * 3 + 3 + 1 = (i * 3 + 1) + 3 by omega, show i * 3 + 3 + 2 = (i * 3 + 2) + 3 by omega]
    simp only [List.cons_append, List.nil_append, List.getElem?_cons_succ]
    exact ih
def OA (w : World) (B : Nat) (v : Value) (l : List Ac) : Prop := w.ownsRow B 77 3 v l.length (encA l)
theorem OA.cells {w : World} {B : Nat} {v : Value} {l : List Ac} (h : OA w B v l) (hne : 0 < l.length) :
    ∃ g cap, v = .slice (some ⟨g, 0, none⟩) l.length cap ∧ B ≤ g ∧ g < w.heap.size ∧ l.length ≤ cap ∧ (∀ j, w.frozen? ⟨g, j, none⟩ = false) ∧ ∀ j u, (encA l)[j]? = some u → w.cell? ⟨g, j, none⟩ = some u := by
  have h0 := h
  unfold OA at h0
  obtain ⟨hl, ⟨rfl, hn⟩ | ⟨g, cap, cur, rfl, hb, hg, hnc, hcm, hcs, ht⟩⟩ := h
  · omega
  · refine ⟨g, cap, rfl, hb, (Array.getElem?_eq_some_iff.1 hg).1, hnc, fun j => World.ownsRow.frozenAt h0 j, fun j u hj => ?_⟩
    have hlt := (List.getElem?_eq_some_iff.1 hj).1
    rw [encA_length] at hlt
    rw [← ht, List.getElem?_take_of_lt hlt] at hj
    unfold World.cell?
    simp only [hg]
    simpa using hj
theorem OA.rd {w : World} {B : Nat} {v : Value} {l : List Ac} (h : OA w B v l) : RdA w v l := by
  rcases Nat.eq_zero_or_pos l.length with h0 | h0
  · have e := List.eq_nil_of_length_eq_zero h0
    subst e
    obtain ⟨hl, ⟨rfl, hn⟩ | ⟨g, cap, cur, rfl, hb, hg, hnc, hcm, hcs, ht⟩⟩ := h
    · exact ⟨none, 0, rfl, Nat.le_refl _, .inl rfl⟩
    · exact ⟨_, cap, rfl, hnc, .inl rfl⟩
  · obtain ⟨g, cap, rfl, hb, hg, hnc, -, hc⟩ := h.cells h0
    refine ⟨_, cap, rfl, hnc, .inr ⟨g, 0, rfl, hg, fun i x hi => ?_⟩⟩
    have e := encA_at l i x hi
    exact ⟨by rw [Nat.zero_add]; exact hc _ _ e.1, by rw [Nat.zero_add]; exact hc _ _ e.2.1, by rw [Nat.zero_add]; exact hc _ _ e.2.2⟩
theorem OA.below {w w' : World} {B : Nat} {v : Value} {l : List Ac} (h : OA w B v l) (hb : Below w.heap.size w w') : OA w' B v l :=
  World.ownsRow.kept (row := none) h (below_grow hb none) (by cases v.ownBlock <;> simp)
theorem OA.mono {w : World} {B B' : Nat} {v : Value} {l : List Ac} (h : OA w B v l) (hB : B' ≤ B) : OA w B' v l := by
  obtain ⟨hl, h | ⟨g, cap, cur, hv, hb, h⟩⟩ := h
  · exact ⟨hl, .inl h⟩
  · exact ⟨hl, .inr ⟨g, cap, cur, hv, Nat.le_trans hB hb, h⟩⟩
theorem OA.own {w : World} {B : Nat} {v : Value} {l : List Ac} (h : OA w B v l) : ∀ k, v.ownBlock = some k → B ≤ k := fun k hk => (World.ownsRow.lt h k hk).1
theorem OA.grown {w0 w w' : World} {B : Nat} {v : Value} {l : List Ac} (h : OA w B v l) (hb : Below B w0 w) (hg : w.grownBy w' v.ownBlock) (hB : B ≤ w.heap.size) : Below B w0 w' := hb.grown hg hB h.own
theorem oA_nil (w : World) (B : Nat) : OA w B (.slice none 0 0) [] := ⟨rfl, .inl ⟨rfl, rfl⟩⟩
theorem oA_new (w : World) (B : Nat) (hB : B ≤ w.heap.size) : OA (w.alloc (.cells #[] 77)) B (.slice (some ⟨w.heap.size, 0, none⟩) 0 0) [] := World.ownsRow_lit w #[] 0 hB (by decide) rfl
theorem appA {ops : Array Oper} {rest : List Oper} {o : Oper} {a : Act} {Q : Exit → Act → World → Prop} {w : World} (hgd : o.guard = none) (s x : Operand)
    (ho : o.op = .call { callee := .builtin .append, args := #[s, x], argTypes := #[37, 37] }) (B : Nat) (v : Value) (l : List Ac) (y : Ac) (g c : Nat)
    (hs : a.eval s = v) (hx : a.eval x = .slice (some ⟨g, 0, none⟩) 1 c) (hP : OA w B v l) (hc : ∀ j u, (encA [y])[j]? = some u → w.cell? ⟨g, j, none⟩ = some u) (hn : l.length ≤ 1000000) (hb : B ≤ w.heap.size)
    (h : ∀ v' w', OA w' B v' (l ++ [y]) → w.grownBy w' v.ownBlock → wpList Tryz.prog ops Q rest (a.put o.dst v') w') : wpList Tryz.prog ops Q (o :: rest) a w := by
  obtain ⟨i0, hi, hz0, hz1, hz2⟩ := info_parts infoA
  refine wpList_append_own _ hgd s x 37 ho B 77 i0 (.agg #[.bool false, .int .i64 0, .string ⟨#[]⟩]) 3 32 underA hi hz0 hz1 hz2 rfl (by decide) v l.length (encA l) hs hP ⟨g, 0, none⟩ 1 c (encA [y]) hx rfl ?_ ?_ (by unfold maxLen; omega) (by omega) hb ?_
  · intro j u hj
    rw [addr_add, Nat.zero_add]
    exact hc j u hj
  · intro u hu
    obtain ⟨z, hz, hu⟩ := List.mem_flatMap.1 hu
    simp only [List.mem_cons, List.not_mem_nil, or_false] at hu
    rcases hu with rfl | rfl | rfl <;> rfl
  · intro v' w' hown hg _
    refine h v' w' ?_ hg
    unfold OA
    rw [encA_append, List.length_append]
    exact hown
theorem appAllA {ops : Array Oper} {rest : List Oper} {o : Oper} {a : Act} {Q : Exit → Act → World → Prop} {w : World} (hgd : o.guard = none) (s x : Operand)
    (ho : o.op = .call { callee := .builtin .append, args := #[s, x], argTypes := #[37, 37] }) (B : Nat) (v : Value) (l y : List Ac) (g : Addr) (c : Nat)
    (hs : a.eval s = v) (hx : a.eval x = .slice (some g) y.length c) (hP : OA w B v l) (hc : ∀ j u, (encA y)[j]? = some u → w.cell? (g.add j) = some u) (hn : l.length + y.length ≤ 1000000000) (hb : B ≤ w.heap.size)
    (h : ∀ v' w', OA w' B v' (l ++ y) → w.grownBy w' v.ownBlock → wpList Tryz.prog ops Q rest (a.put o.dst v') w') : wpList Tryz.prog ops Q (o :: rest) a w := by
  obtain ⟨i0, hi, hz0, hz1, hz2⟩ := info_parts infoA
  refine wpList_append_own _ hgd s x 37 ho B 77 i0 (.agg #[.bool false, .int .i64 0, .string ⟨#[]⟩]) 3 32 underA hi hz0 hz1 hz2 rfl (by decide) v l.length (encA l) hs hP g y.length c (encA y) hx (encA_length y) ?_ ?_ (by unfold maxLen; omega) (by omega) hb ?_
  · intro j u hj
    exact hc j u hj
  · intro u hu
    obtain ⟨z, hz, hu⟩ := List.mem_flatMap.1 hu
    simp only [List.mem_cons, List.not_mem_nil, or_false] at hu
    rcases hu with rfl | rfl | rfl <;> rfl
  · intro v' w' hown hg _
    refine h v' w' ?_ hg
    unfold OA
    rw [encA_append, List.length_append]
    exact hown
theorem RdA.enc {w : World} {v : Value} {l : List Ac} (h : RdA w v l) : ∃ o cap, v = .slice o l.length cap ∧ l.length ≤ cap ∧ (l = [] ∨ ∃ b off, o = some ⟨b, off, none⟩ ∧ b < w.heap.size ∧ ∀ j u, (encA l)[j]? = some u → w.cell? ⟨b, off + j, none⟩ = some u) := by
  obtain ⟨o, cap, e, hc, h⟩ := h
  refine ⟨o, cap, e, hc, ?_⟩
  rcases h with h | ⟨b, off, e1, e2, h⟩
  · exact .inl h
  · refine .inr ⟨b, off, e1, e2, fun j u hj => ?_⟩
    have hlt := (List.getElem?_eq_some_iff.1 hj).1
    rw [encA_length] at hlt
    obtain ⟨x, hx⟩ : ∃ x, l[j / 3]? = some x := ⟨_, List.getElem?_eq_getElem (by omega)⟩
    have e3 := encA_at l (j / 3) x hx
    have e4 := h (j / 3) x hx
    by_cases h0 : j % 3 = 0
    · have ej : j = j / 3 * 3 := by omega
      rw [ej] at hj
      rw [e3.1] at hj
      cases hj
      have := e4.1
      rw [show off + j = off + j / 3 * 3 by omega]
      exact this
    by_cases h1 : j % 3 = 1
    · have ej : j = j / 3 * 3 + 1 := by omega
      rw [ej] at hj
      rw [e3.2.1] at hj
      cases hj
      have := e4.2.1
      rw [show off + j = off + j / 3 * 3 + 1 by omega]
      exact this
    · have ej : j = j / 3 * 3 + 2 := by omega
      rw [ej] at hj
      rw [e3.2.2] at hj
      cases hj
      have := e4.2.2
      rw [show off + j = off + j / 3 * 3 + 2 by omega]
      exact this
/-! ### Kind S -/
theorem underS : Tryz.prog.underlying 22 = some (.slice 9) := by kernel_rfl
theorem infoS : (Tryz.prog.info? 9).map (fun i => (i.zero, i.size, i.bytes)) = some (some (.string ⟨#[]⟩), 1, 16) := by kernel_rfl
def encS (l : List Bs) : List Value := l.flatMap (fun x => [strV x])
theorem encS_nil : encS [] = [] := rfl
theorem encS_cons (x : Bs) (l : List Bs) : encS (x :: l) = [strV x] ++ encS l := rfl
theorem encS_length (l : List Bs) : (encS l).length = l.length * 1 := by
  induction l with
  | nil => rfl
  | cons x r ih => rw [encS_cons, List.length_append, ih]; simp only [List.length_cons, List.length_nil]; omega
theorem encS_append (a b : List Bs) : encS (a ++ b) = encS a ++ encS b := by unfold encS; exact List.flatMap_append
theorem encS_at : ∀ (l : List Bs) (i : Nat) (x : Bs), l[i]? = some x → (encS l)[i]? = some (strV x)
  | [], i, x, h => by simp at h
  | q :: r, 0, x, h => by
    simp only [List.getElem?_cons_zero, Option.some.injEq] at h
    subst h
    exact rfl
  | q :: r, i + 1, x, h => by
    have ih := encS_at r i x (by simpa using h)
    rw [encS_cons]
    simpa using ih
def OS (w : World) (B : Nat) (v : Value) (l : List Bs) : Prop := w.ownsRow B 9 1 v l.length (encS l)
theorem OS.cells {w : World} {B : Nat} {v : Value} {l : List Bs} (h : OS w B v l) (hne : 0 < l.length) :
    ∃ g cap, v = .slice (some ⟨g, 0, none⟩) l.length cap ∧ B ≤ g ∧ g < w.heap.size ∧ l.length ≤ cap ∧ (∀ j, w.frozen? ⟨g, j, none⟩ = false) ∧ ∀ j u, (encS l)[j]? = some u → w.cell? ⟨g, j, none⟩ = some u := by
  have h0 := h
  unfold OS at h0
  obtain ⟨hl, ⟨rfl, hn⟩ | ⟨g, cap, cur, rfl, hb, hg, hnc, hcm, hcs, ht⟩⟩ := h
  · omega
  · refine ⟨g, cap, rfl, hb, (Array.getElem?_eq_some_iff.1 hg).1, hnc, fun j => World.ownsRow.frozenAt h0 j, fun j u hj => ?_⟩
    have hlt := (List.getElem?_eq_some_iff.1 hj).1
    rw [encS_length] at hlt
    rw [← ht, List.getElem?_take_of_lt hlt] at hj
    unfold World.cell?
    simp only [hg]
    simpa using hj
theorem OS.rd {w : World} {B : Nat} {v : Value} {l : List Bs} (h : OS w B v l) : RdS w v l := by
  rcases Nat.eq_zero_or_pos l.length with h0 | h0
  · have e := List.eq_nil_of_length_eq_zero h0
    subst e
    obtain ⟨hl, ⟨rfl, hn⟩ | ⟨g, cap, cur, rfl, hb, hg, hnc, hcm, hcs, ht⟩⟩ := h
    · exact ⟨none, 0, rfl, Nat.le_refl _, .inl rfl⟩
    · exact ⟨_, cap, rfl, hnc, .inl rfl⟩
  · obtain ⟨g, cap, rfl, hb, hg, hnc, -, hc⟩ := h.cells h0
    refine ⟨_, cap, rfl, hnc, .inr ⟨g, 0, rfl, hg, fun i x hi => ?_⟩⟩
    have e := encS_at l i x hi
    rw [Nat.zero_add]; exact hc _ _ e
theorem OS.below {w w' : World} {B : Nat} {v : Value} {l : List Bs} (h : OS w B v l) (hb : Below w.heap.size w w') : OS w' B v l :=
  World.ownsRow.kept (row := none) h (below_grow hb none) (by cases v.ownBlock <;> simp)
theorem OS.mono {w : World} {B B' : Nat} {v : Value} {l : List Bs} (h : OS w B v l) (hB : B' ≤ B) : OS w B' v l := by
  obtain ⟨hl, h | ⟨g, cap, cur, hv, hb, h⟩⟩ := h
  · exact ⟨hl, .inl h⟩
  · exact ⟨hl, .inr ⟨g, cap, cur, hv, Nat.le_trans hB hb, h⟩⟩
theorem OS.own {w : World} {B : Nat} {v : Value} {l : List Bs} (h : OS w B v l) : ∀ k, v.ownBlock = some k → B ≤ k := fun k hk => (World.ownsRow.lt h k hk).1
theorem OS.grown {w0 w w' : World} {B : Nat} {v : Value} {l : List Bs} (h : OS w B v l) (hb : Below B w0 w) (hg : w.grownBy w' v.ownBlock) (hB : B ≤ w.heap.size) : Below B w0 w' := hb.grown hg hB h.own
theorem oS_nil (w : World) (B : Nat) : OS w B (.slice none 0 0) [] := ⟨rfl, .inl ⟨rfl, rfl⟩⟩
theorem oS_new (w : World) (B : Nat) (hB : B ≤ w.heap.size) : OS (w.alloc (.cells #[] 9)) B (.slice (some ⟨w.heap.size, 0, none⟩) 0 0) [] := World.ownsRow_lit w #[] 0 hB (by decide) rfl
theorem appAllS {ops : Array Oper} {rest : List Oper} {o : Oper} {a : Act} {Q : Exit → Act → World → Prop} {w : World} (hgd : o.guard = none) (s x : Operand)
    (ho : o.op = .call { callee := .builtin .append, args := #[s, x], argTypes := #[22, 22] }) (B : Nat) (v : Value) (l y : List Bs) (g : Addr) (c : Nat)
    (hs : a.eval s = v) (hx : a.eval x = .slice (some g) y.length c) (hP : OS w B v l) (hc : ∀ j u, (encS y)[j]? = some u → w.cell? (g.add j) = some u) (hn : l.length + y.length ≤ 1000000000) (hb : B ≤ w.heap.size)
    (h : ∀ v' w', OS w' B v' (l ++ y) → w.grownBy w' v.ownBlock → wpList Tryz.prog ops Q rest (a.put o.dst v') w') : wpList Tryz.prog ops Q (o :: rest) a w := by
  obtain ⟨i0, hi, hz0, hz1, hz2⟩ := info_parts infoS
  refine wpList_append_own _ hgd s x 22 ho B 9 i0 (.string ⟨#[]⟩) 1 16 underS hi hz0 hz1 hz2 rfl (by decide) v l.length (encS l) hs hP g y.length c (encS y) hx (encS_length y) ?_ ?_ (by unfold maxLen; omega) (by omega) hb ?_
  · intro j u hj
    exact hc j u hj
  · intro u hu
    obtain ⟨z, hz, hu⟩ := List.mem_flatMap.1 hu
    simp only [List.mem_cons, List.not_mem_nil, or_false] at hu
    subst hu; rfl
  · intro v' w' hown hg _
    refine h v' w' ?_ hg
    unfold OS
    rw [encS_append, List.length_append]
    exact hown
theorem RdS.enc {w : World} {v : Value} {l : List Bs} (h : RdS w v l) : ∃ o cap, v = .slice o l.length cap ∧ l.length ≤ cap ∧ (l = [] ∨ ∃ b off, o = some ⟨b, off, none⟩ ∧ b < w.heap.size ∧ ∀ j u, (encS l)[j]? = some u → w.cell? ⟨b, off + j, none⟩ = some u) := by
  obtain ⟨o, cap, e, hc, h⟩ := h
  refine ⟨o, cap, e, hc, ?_⟩
  rcases h with h | ⟨b, off, e1, e2, h⟩
  · exact .inl h
  · refine .inr ⟨b, off, e1, e2, fun j u hj => ?_⟩
    have hlt := (List.getElem?_eq_some_iff.1 hj).1
    rw [encS_length] at hlt
    obtain ⟨x, hx⟩ : ∃ x, l[j / 1]? = some x := ⟨_, List.getElem?_eq_getElem (by omega)⟩
    have e3 := encS_at l (j / 1) x hx
    have e4 := h (j / 1) x hx
    rw [Nat.div_one] at e3 e4
    rw [hj] at e3
    cases e3
    exact e4
/-! ### Kind I -/
theorem underI : Tryz.prog.underlying 168 = some (.slice 3) := by kernel_rfl
theorem infoI : (Tryz.prog.info? 3).map (fun i => (i.zero, i.size, i.bytes)) = some (some (.int .i64 0), 1, 8) := by kernel_rfl
def encI (l : List Int) : List Value := l.flatMap (fun x => [.int .i64 x])
theorem encI_cons (x : Int) (l : List Int) : encI (x :: l) = [.int .i64 x] ++ encI l := rfl
theorem encI_length (l : List Int) : (encI l).length = l.length * 1 := by
  induction l with
  | nil => rfl
  | cons x r ih => rw [encI_cons, List.length_append, ih]; simp only [List.length_cons, List.length_nil]; omega
theorem encI_append (a b : List Int) : encI (a ++ b) = encI a ++ encI b := by unfold encI; exact List.flatMap_append
theorem encI_at : ∀ (l : List Int) (i : Nat) (x : Int), l[i]? = some x → (encI l)[i]? = some (.int .i64 x)
  | [], i, x, h => by simp at h
  | q :: r, 0, x, h => by
    simp only [List.getElem?_cons_zero, Option.some.injEq] at h
    subst h
    exact rfl
  | q :: r, i + 1, x, h => by
    have ih := encI_at r i x (by simpa using h)
    rw [encI_cons]
    simpa using ih
def OI (w : World) (B : Nat) (v : Value) (l : List Int) : Prop := w.ownsRow B 3 1 v l.length (encI l)
theorem OI.cells {w : World} {B : Nat} {v : Value} {l : List Int} (h : OI w B v l) (hne : 0 < l.length) :
    ∃ g cap, v = .slice (some ⟨g, 0, none⟩) l.length cap ∧ B ≤ g ∧ g < w.heap.size ∧ l.length ≤ cap ∧ (∀ j, w.frozen? ⟨g, j, none⟩ = false) ∧ ∀ j u, (encI l)[j]? = some u → w.cell? ⟨g, j, none⟩ = some u := by
  have h0 := h
  unfold OI at h0
  obtain ⟨hl, ⟨rfl, hn⟩ | ⟨g, cap, cur, rfl, hb, hg, hnc, hcm, hcs, ht⟩⟩ := h
  · omega
  · refine ⟨g, cap, rfl, hb, (Array.getElem?_eq_some_iff.1 hg).1, hnc, fun j => World.ownsRow.frozenAt h0 j, fun j u hj => ?_⟩
    have hlt := (List.getElem?_eq_some_iff.1 hj).1
    rw [encI_length] at hlt
    rw [← ht, List.getElem?_take_of_lt hlt] at hj
    unfold World.cell?
    simp only [hg]
    simpa using hj
theorem OI.rd {w : World} {B : Nat} {v : Value} {l : List Int} (h : OI w B v l) : RdI w v l := by
  rcases Nat.eq_zero_or_pos l.length with h0 | h0
  · have e := List.eq_nil_of_length_eq_zero h0
    subst e
    obtain ⟨hl, ⟨rfl, hn⟩ | ⟨g, cap, cur, rfl, hb, hg, hnc, hcm, hcs, ht⟩⟩ := h
    · exact ⟨none, 0, rfl, Nat.le_refl _, .inl rfl⟩
    · exact ⟨_, cap, rfl, hnc, .inl rfl⟩
  · obtain ⟨g, cap, rfl, hb, hg, hnc, -, hc⟩ := h.cells h0
    refine ⟨_, cap, rfl, hnc, .inr ⟨g, 0, rfl, hg, fun i x hi => ?_⟩⟩
    have e := encI_at l i x hi
    rw [Nat.zero_add]; exact hc _ _ e
theorem OI.below {w w' : World} {B : Nat} {v : Value} {l : List Int} (h : OI w B v l) (hb : Below w.heap.size w w') : OI w' B v l :=
  World.ownsRow.kept (row := none) h (below_grow hb none) (by cases v.ownBlock <;> simp)
theorem OI.mono {w : World} {B B' : Nat} {v : Value} {l : List Int} (h : OI w B v l) (hB : B' ≤ B) : OI w B' v l := by
  obtain ⟨hl, h | ⟨g, cap, cur, hv, hb, h⟩⟩ := h
  · exact ⟨hl, .inl h⟩
  · exact ⟨hl, .inr ⟨g, cap, cur, hv, Nat.le_trans hB hb, h⟩⟩
theorem OI.own {w : World} {B : Nat} {v : Value} {l : List Int} (h : OI w B v l) : ∀ k, v.ownBlock = some k → B ≤ k := fun k hk => (World.ownsRow.lt h k hk).1
theorem OI.grown {w0 w w' : World} {B : Nat} {v : Value} {l : List Int} (h : OI w B v l) (hb : Below B w0 w) (hg : w.grownBy w' v.ownBlock) (hB : B ≤ w.heap.size) : Below B w0 w' := hb.grown hg hB h.own
theorem oI_new (w : World) (B : Nat) (hB : B ≤ w.heap.size) : OI (w.alloc (.cells #[] 3)) B (.slice (some ⟨w.heap.size, 0, none⟩) 0 0) [] := World.ownsRow_lit w #[] 0 hB (by decide) rfl
theorem appI {ops : Array Oper} {rest : List Oper} {o : Oper} {a : Act} {Q : Exit → Act → World → Prop} {w : World} (hgd : o.guard = none) (s x : Operand)
    (ho : o.op = .call { callee := .builtin .append, args := #[s, x], argTypes := #[168, 168] }) (B : Nat) (v : Value) (l : List Int) (y : Int) (g c : Nat)
    (hs : a.eval s = v) (hx : a.eval x = .slice (some ⟨g, 0, none⟩) 1 c) (hP : OI w B v l) (hc : ∀ j u, (encI [y])[j]? = some u → w.cell? ⟨g, j, none⟩ = some u) (hn : l.length ≤ 1000000) (hb : B ≤ w.heap.size)
    (h : ∀ v' w', OI w' B v' (l ++ [y]) → w.grownBy w' v.ownBlock → wpList Tryz.prog ops Q rest (a.put o.dst v') w') : wpList Tryz.prog ops Q (o :: rest) a w := by
  obtain ⟨i0, hi, hz0, hz1, hz2⟩ := info_parts infoI
  refine wpList_append_own _ hgd s x 168 ho B 3 i0 (.int .i64 0) 1 8 underI hi hz0 hz1 hz2 rfl (by decide) v l.length (encI l) hs hP ⟨g, 0, none⟩ 1 c (encI [y]) hx rfl ?_ ?_ (by unfold maxLen; omega) (by omega) hb ?_
  · intro j u hj
    rw [addr_add, Nat.zero_add]
    exact hc j u hj
  · intro u hu
    obtain ⟨z, hz, hu⟩ := List.mem_flatMap.1 hu
    simp only [List.mem_cons, List.not_mem_nil, or_false] at hu
    subst hu; rfl
  · intro v' w' hown hg _
    refine h v' w' ?_ hg
    unfold OI
    rw [encI_append, List.length_append]
    exact hown
theorem RdI.enc {w : World} {v : Value} {l : List Int} (h : RdI w v l) : ∃ o cap, v = .slice o l.length cap ∧ l.length ≤ cap ∧ (l = [] ∨ ∃ b off, o = some ⟨b, off, none⟩ ∧ b < w.heap.size ∧ ∀ j u, (encI l)[j]? = some u → w.cell? ⟨b, off + j, none⟩ = some u) := by
  obtain ⟨o, cap, e, hc, h⟩ := h
  refine ⟨o, cap, e, hc, ?_⟩
  rcases h with h | ⟨b, off, e1, e2, h⟩
  · exact .inl h
  · refine .inr ⟨b, off, e1, e2, fun j u hj => ?_⟩
    have hlt := (List.getElem?_eq_some_iff.1 hj).1
    rw [encI_length] at hlt
    obtain ⟨x, hx⟩ : ∃ x, l[j / 1]? = some x := ⟨_, List.getElem?_eq_getElem (by omega)⟩
    have e3 := encI_at l (j / 1) x hx
    have e4 := h (j / 1) x hx
    rw [Nat.div_one] at e3 e4
    rw [hj] at e3
    cases e3
    exact e4
end Go.Proofs.YtifcgimpgbeocaaGreat
/- Rows turned in place: copy, clear, at elements of several cells. -/
set_option linter.unusedVariables false
set_option linter.unusedSimpArgs false
namespace Go.Proofs.YtifcgimpgbeocaaGreat
open Go.RowKit
theorem run_copy_rowN {P : Program} (w : World) (dT sT ty elem : TypeId) (sz g o dLen dCap : Nat) (a : Addr) (sLen sCap : Nat) (cur : Array Value) (t : TypeId) (cs : List Value)
    (hu : P.underlying dT = some (.slice elem)) (hs : (P.info? elem).map (·.size) = some sz)
    (hg : w.heap[g]? = some (.cells cur t (0, 0))) (hn : cs.length = Nat.min sLen dLen * sz)
    (hsrc : ∀ j v, cs[j]? = some v → w.cell? (a.add j) = some v) (hfit : o + cs.length ≤ cur.size) (h1 : ∀ v ∈ cs, v.oneCell' = true) :
    (Builtin.copy_ #[dT, sT] ty #[.slice (some ⟨g, o, none⟩) dLen dCap, .slice (some a) sLen sCap]).run P w =
      .ok (goInt (Nat.min sLen dLen)) (w.setRow g (cur.toList.take o ++ cs ++ cur.toList.drop (o + cs.length)).toArray) := by
  have hl := run_loadCells_list (P := P) w a cs hsrc
  have hst := run_storeCells_at P g o t cs 0 cur w hg (by simpa using hfit) h1
  cases hq : P.info? elem with
  | none => simp [hq] at hs
  | some i =>
    have hi : i.size = sz := by simpa [hq] using hs
    simp only [Nat.add_zero] at hst
    simp [Builtin.copy_, run_underlying hu, Builtin.lenOf, Builtin.firstCells, sizeOf, typeInfo, hq, hi, ← hn, hl, hst]
theorem run_clear_rowN {P : Program} (w : World) (t e ty : TypeId) (z : Value) (ht : P.underlying t = some (.slice e)) (hv : ∀ w, (zeroValue e).run P w = .ok z w) (g o n c : Nat) (hn : 0 < n) (cur : Array Value) (et : TypeId) (zs : List Value)
    (hz : (Builtin.zeroCells z.cells n).toList = zs) (h1 : ∀ v ∈ zs, v.oneCell' = true) (hg : w.heap[g]? = some (.cells cur et (0, 0))) (hfit : o + zs.length ≤ cur.size) :
    (Builtin.clear_ #[t] ty #[.slice (some ⟨g, o, none⟩) n c]).run P w = .ok (.tuple #[]) (w.setRow g (cur.toList.take o ++ zs ++ cur.toList.drop (o + zs.length)).toArray) := by
  have hst := run_storeCells_at P g o et zs 0 cur w hg (by simpa using hfit) h1
  simp only [Nat.add_zero] at hst
  obtain ⟨m, rfl⟩ : ∃ m, n = m + 1 := ⟨n - 1, by omega⟩
  simp [Builtin.clear_, run_underlying ht, hv, hz, hst]
/-- A row of one's own, turned. -/
theorem own_setRow {w : World} {B e s g cap n' : Nat} {cur : Array Value} {xs' N : List Value} (hb : B ≤ g) (hg : w.heap[g]? = some (.cells cur e (0, 0))) (hcap : cap ≤ maxLen) (hN : N.length = cap * s) (hn : n' ≤ cap) (hx : N.take (n' * s) = xs') :
    (w.setRow g N.toArray).ownsRow B e s (.slice (some ⟨g, 0, none⟩) n' cap) n' xs' ∧ w.grownBy (w.setRow g N.toArray) (some g) := by
  refine ⟨⟨?_, .inr ⟨g, cap, N.toArray, rfl, hb, setRow_heap w g cur _ e _ hg, hn, hcap, by simpa using hN, by simpa using hx⟩⟩, ⟨rfl, rfl, rfl, by simp, fun k _ hk => setRow_other w g k _ (fun e => hk (by rw [e]))⟩⟩
  rw [← hx, List.length_take, hN]
  have : n' * s ≤ cap * s := Nat.mul_le_mul_right _ hn
  omega
end Go.Proofs.YtifcgimpgbeocaaGreat
