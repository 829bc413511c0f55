/- Rows of bytes of one's own. -/
import Derived.Test.YtifcgimpgbeocaaK6
set_option linter.unusedVariables false
set_option linter.unusedSimpArgs false
namespace Go.Proofs.Ytifcgimpgbeocaa
open Go.RowKit
/-! ### Kind B -/
theorem underBy : Try.prog.underlying 164 = some (.slice 5) := underB
theorem infoBy : (Try.prog.info? 5).map (fun i => (i.zero, i.size, i.bytes)) = some (some (.int .u8 0), 1, 1) := by kernel_rfl
def encBy (l : Bs) : List Value := l.flatMap (fun x => [.int .u8 (x.toNat : Int)])
theorem encBy_nil : encBy [] = [] := rfl
theorem encBy_cons (x : UInt8) (l : Bs) : encBy (x :: l) = [.int .u8 (x.toNat : Int)] ++ encBy l := rfl
theorem encBy_length (l : Bs) : (encBy l).length = l.length * 1 := by
  induction l with
  | nil => rfl
  | cons x r ih => rw [encBy_cons, List.length_append, ih]; simp only [List.length_cons, List.length_nil]; omega
theorem encBy_append (a b : Bs) : encBy (a ++ b) = encBy a ++ encBy b := by unfold encBy; exact List.flatMap_append
theorem encBy_at : ∀ (l : Bs) (i : Nat) (x : UInt8), l[i]? = some x → (encBy l)[i]? = some (.int .u8 (x.toNat : Int))
  | [], i, x, h => by simp at h
  | q :: r, 0, x, h => by
    simp only [List.getElem?_cons_zero, Option.some.injEq] at h
    subst h
    exact rfl
  | q :: r, i + 1, x, h => by
    have ih := encBy_at r i x (by simpa using h)
    rw [encBy_cons]
    simpa using ih
def OB (w : World) (B : Nat) (v : Value) (l : Bs) : Prop := w.ownsRow B 5 1 v l.length (encBy l)
theorem OB.cells {w : World} {B : Nat} {v : Value} {l : Bs} (h : OB w B v l) (hne : 0 < l.length) :
    ∃ g cap, v = .slice (some ⟨g, 0, none⟩) l.length cap ∧ B ≤ g ∧ g < w.heap.size ∧ l.length ≤ cap ∧ (∀ j, w.frozen? ⟨g, j, none⟩ = false) ∧ ∀ j u, (encBy l)[j]? = some u → w.cell? ⟨g, j, none⟩ = some u := by
  have h0 := h
  unfold OB at h0
  obtain ⟨hl, ⟨rfl, hn⟩ | ⟨g, cap, cur, rfl, hb, hg, hnc, hcm, hcs, ht⟩⟩ := h
  · omega
  · refine ⟨g, cap, rfl, hb, (Array.getElem?_eq_some_iff.1 hg).1, hnc, fun j => World.ownsRow.frozenAt h0 j, fun j u hj => ?_⟩
    have hlt := (List.getElem?_eq_some_iff.1 hj).1
    rw [encBy_length] at hlt
    rw [← ht, List.getElem?_take_of_lt hlt] at hj
    unfold World.cell?
    simp only [hg]
    simpa using hj
theorem OB.below {w w' : World} {B : Nat} {v : Value} {l : Bs} (h : OB w B v l) (hb : Below w.heap.size w w') : OB w' B v l :=
  World.ownsRow.kept (row := none) h (below_grow hb none) (by cases v.ownBlock <;> simp)
theorem OB.mono {w : World} {B B' : Nat} {v : Value} {l : Bs} (h : OB w B v l) (hB : B' ≤ B) : OB w B' v l := by
  obtain ⟨hl, h | ⟨g, cap, cur, hv, hb, h⟩⟩ := h
  · exact ⟨hl, .inl h⟩
  · exact ⟨hl, .inr ⟨g, cap, cur, hv, Nat.le_trans hB hb, h⟩⟩
theorem OB.own {w : World} {B : Nat} {v : Value} {l : Bs} (h : OB w B v l) : ∀ k, v.ownBlock = some k → B ≤ k := fun k hk => (World.ownsRow.lt h k hk).1
theorem OB.grown {w0 w w' : World} {B : Nat} {v : Value} {l : Bs} (h : OB w B v l) (hb : Below B w0 w) (hg : w.grownBy w' v.ownBlock) (hB : B ≤ w.heap.size) : Below B w0 w' := hb.grown hg hB h.own
theorem oB_nil (w : World) (B : Nat) : OB w B (.slice none 0 0) [] := ⟨rfl, .inl ⟨rfl, rfl⟩⟩
theorem oB_new (w : World) (B : Nat) (hB : B ≤ w.heap.size) : OB (w.alloc (.cells #[] 5)) B (.slice (some ⟨w.heap.size, 0, none⟩) 0 0) [] := World.ownsRow_lit w #[] 0 hB (by decide) rfl
theorem appB {ops : Array Oper} {rest : List Oper} {o : Oper} {a : Act} {Q : Exit → Act → World → Prop} {w : World} (hgd : o.guard = none) (s x : Operand)
    (ho : o.op = .call { callee := .builtin .append, args := #[s, x], argTypes := #[164, 164] }) (B : Nat) (v : Value) (l : Bs) (y : UInt8) (g c : Nat)
    (hs : a.eval s = v) (hx : a.eval x = .slice (some ⟨g, 0, none⟩) 1 c) (hP : OB w B v l) (hc : ∀ j u, (encBy [y])[j]? = some u → w.cell? ⟨g, j, none⟩ = some u) (hn : l.length ≤ 1000000000) (hb : B ≤ w.heap.size)
    (h : ∀ v' w', OB w' B v' (l ++ [y]) → w.grownBy w' v.ownBlock → wpList Try.prog ops Q rest (a.put o.dst v') w') : wpList Try.prog ops Q (o :: rest) a w := by
  obtain ⟨i0, hi, hz0, hz1, hz2⟩ := info_parts infoBy
  refine wpList_append_own _ hgd s x 164 ho B 5 i0 (.int .u8 0) 1 1 underBy hi hz0 hz1 hz2 rfl (by decide) v l.length (encBy l) hs hP ⟨g, 0, none⟩ 1 c (encBy [y]) hx rfl ?_ ?_ (by unfold maxLen; omega) (by omega) hb ?_
  · intro j u hj
    rw [addr_add, Nat.zero_add]
    exact hc j u hj
  · intro u hu
    obtain ⟨z, hz, hu⟩ := List.mem_flatMap.1 hu
    simp only [List.mem_cons, List.not_mem_nil, or_false] at hu
    subst hu; rfl
  · intro v' w' hown hg _
    refine h v' w' ?_ hg
    unfold OB
    rw [encBy_append, List.length_append]
    exact hown
theorem OB.slice {w : World} {B : Nat} {v : Value} {l : Bs} (h : OB w B v l) (hne : 0 < l.length) : ∃ g cap, v = .slice (some ⟨g, 0, none⟩) l.length cap := by
  obtain ⟨g, cap, e, -⟩ := h.cells hne
  exact ⟨g, cap, e⟩
/-- The string of one's own bytes. -/
theorem run_strOB {w : World} {B g cap : Nat} {l : Bs} (h : OB w B (.slice (some ⟨g, 0, none⟩) l.length cap) l) : (convert 164 9 (.slice (some ⟨g, 0, none⟩) l.length cap)).run Try.prog w = .ok (.string ⟨l.toArray⟩) w := by
  refine run_str_of w g 0 l.length cap l rfl fun i hi => ?_
  obtain ⟨g', cap', e, -, -, -, -, hc⟩ := h.cells (by omega)
  simp only [Value.slice.injEq, Option.some.injEq, Addr.mk.injEq, and_true, true_and] at e
  obtain ⟨rfl, rfl⟩ := e
  have h1 := hc i _ (encBy_at l i l[i] (List.getElem?_eq_getElem hi))
  rw [Nat.zero_add, h1]
  simp [byt, List.getElem?_eq_getElem hi]
end Go.Proofs.Ytifcgimpgbeocaa
