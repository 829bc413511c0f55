/- Slices of pieces and of strings: what a function reads, and what it grows by append. -/
import Derived.Test.YtcfmimfkaabmkaaE1
set_option linter.unusedVariables false
set_option linter.unusedSimpArgs false
namespace Go.Proofs.Ytcfmimfkaabmkaa
open Go.RowKit
theorem under33 : Try.prog.underlying 33 = some (.slice 37) := by kernel_rfl
theorem under49 : Try.prog.underlying 49 = some (.slice 9) := by kernel_rfl
theorem info37 : (Try.prog.info? 37).map (fun i => (i.zero, i.size, i.bytes)) = some (some (.agg #[.int .i64 0, .int .i64 0]), 2, 16) := by kernel_rfl
theorem info9 : (Try.prog.info? 9).map (fun i => (i.zero, i.size, i.bytes)) = some (some (.string ⟨#[]⟩), 1, 16) := by kernel_rfl
/-- Pieces as cells. -/
def encP (ps : List (Int × Int)) : List Value := ps.flatMap (fun p => [.int .i64 p.1, .int .i64 p.2])
def encS (bs : List (List UInt8)) : List Value := bs.map strV
theorem encP_length (ps : List (Int × Int)) : (encP ps).length = ps.length * 2 := by
  induction ps with
  | nil => rfl
  | cons p r ih => simp only [encP, List.flatMap_cons, List.length_append, List.length_cons, List.length_nil] at ih ⊢; omega
theorem encP_append (a b : List (Int × Int)) : encP (a ++ b) = encP a ++ encP b := by simp [encP]
theorem encP_at : ∀ (ps : List (Int × Int)) (i : Nat) (p : Int × Int), ps[i]? = some p → (encP ps)[i * 2]? = some (.int .i64 p.1) ∧ (encP ps)[i * 2 + 1]? = some (.int .i64 p.2)
  | [], i, p, h => by simp at h
  | q :: r, 0, p, h => by simp at h; subst h; exact ⟨rfl, rfl⟩
  | q :: r, i + 1, p, h => by
    have ih := encP_at r i p (by simpa using h)
    simp only [encP, List.flatMap_cons] at ih ⊢
    rw [show (i + 1) * 2 = i * 2 + 2 by omega, show i * 2 + 2 + 1 = (i * 2 + 1) + 2 by omega]
    exact ih
theorem encS_length (bs : List (List UInt8)) : (encS bs).length = bs.length * 1 := by simp [encS]
theorem encS_append (a b : List (List UInt8)) : encS (a ++ b) = encS a ++ encS b := by simp [encS]
theorem encS_at (bs : List (List UInt8)) (i : Nat) (t : List UInt8) (h : bs[i]? = some t) : (encS bs)[i]? = some (strV t) := by simp [encS, h]
/-- The slice v reads as these pieces. -/
def RP (w : World) (v : Value) (ps : List (Int × Int)) : Prop :=
  ∃ o cap, v = .slice o ps.length cap ∧ (ps = [] ∨ ∃ b off, o = some ⟨b, off, none⟩ ∧ b < w.heap.size ∧ ∀ i p, ps[i]? = some p → w.cell? ⟨b, off + i * 2, none⟩ = some (.int .i64 p.1) ∧ w.cell? ⟨b, off + i * 2 + 1, none⟩ = some (.int .i64 p.2))
def RS (w : World) (v : Value) (bs : List (List UInt8)) : Prop :=
  ∃ o cap, v = .slice o bs.length cap ∧ (bs = [] ∨ ∃ b off, o = some ⟨b, off, none⟩ ∧ b < w.heap.size ∧ ∀ i t, bs[i]? = some t → w.cell? ⟨b, off + i, none⟩ = some (strV t))
/-- The slice v is the call's own, and holds these pieces. -/
def OP (w : World) (B : Nat) (v : Value) (ps : List (Int × Int)) : Prop := w.ownsRow B 37 2 v ps.length (encP ps)
def OS (w : World) (B : Nat) (v : Value) (bs : List (List UInt8)) : Prop := w.ownsRow B 9 1 v bs.length (encS bs)
theorem RP.below {w w' : World} {v : Value} {ps : List (Int × Int)} (h : RP w v ps) (hb : Below w.heap.size w w') : RP w' v ps := by
  obtain ⟨o, cap, rfl, h⟩ := h
  refine ⟨o, cap, rfl, h.imp id ?_⟩
  rintro ⟨b, off, rfl, hlt, hc⟩
  exact ⟨b, off, rfl, Nat.lt_of_lt_of_le hlt hb.size, fun i p hi => ⟨keepc hb (hc i p hi).1, keepc hb (hc i p hi).2⟩⟩
theorem RS.below {w w' : World} {v : Value} {bs : List (List UInt8)} (h : RS w v bs) (hb : Below w.heap.size w w') : RS w' v bs := by
  obtain ⟨o, cap, rfl, h⟩ := h
  refine ⟨o, cap, rfl, h.imp id ?_⟩
  rintro ⟨b, off, rfl, hlt, hc⟩
  exact ⟨b, off, rfl, Nat.lt_of_lt_of_le hlt hb.size, fun i p hi => keepc hb (hc i p hi)⟩
theorem OP.rp {w : World} {B : Nat} {v : Value} {ps : List (Int × Int)} (h : OP w B v ps) : RP w v ps := by
  obtain ⟨hl, ⟨rfl, hn⟩ | ⟨g, cap, cur, rfl, hb, hg, hnc, hcm, hcs, ht⟩⟩ := h
  · exact ⟨none, 0, by rw [hn], .inl (List.eq_nil_of_length_eq_zero hn)⟩
  · refine ⟨_, cap, rfl, .inr ⟨g, 0, rfl, (Array.getElem?_eq_some_iff.1 hg).1, fun i p hi => ?_⟩⟩
    obtain ⟨e1, e2⟩ := encP_at ps i p hi
    have hlt : i < ps.length := (List.getElem?_eq_some_iff.1 hi).1
    have hcell : ∀ j, j < ps.length * 2 → w.cell? ⟨g, 0 + j, none⟩ = (encP ps)[j]? := fun j hj => by
      rw [← ht, List.getElem?_take_of_lt hj, Nat.zero_add]
      simp [World.cell?, hg]
    exact ⟨by rw [hcell _ (by omega), e1], by rw [Nat.add_assoc, hcell _ (by omega), e2]⟩
theorem OS.rs {w : World} {B : Nat} {v : Value} {bs : List (List UInt8)} (h : OS w B v bs) : RS w v bs := by
  obtain ⟨hl, ⟨rfl, hn⟩ | ⟨g, cap, cur, rfl, hb, hg, hnc, hcm, hcs, ht⟩⟩ := h
  · exact ⟨none, 0, by rw [hn], .inl (List.eq_nil_of_length_eq_zero hn)⟩
  · refine ⟨_, cap, rfl, .inr ⟨g, 0, rfl, (Array.getElem?_eq_some_iff.1 hg).1, fun i p hi => ?_⟩⟩
    have e1 := encS_at bs i p hi
    have hlt : i < bs.length := (List.getElem?_eq_some_iff.1 hi).1
    have hcell : ∀ j, j < bs.length * 1 → w.cell? ⟨g, 0 + j, none⟩ = (encS bs)[j]? := fun j hj => by
      rw [← ht, List.getElem?_take_of_lt hj, Nat.zero_add]
      simp [World.cell?, hg]
    rw [hcell _ (by omega), e1]
theorem OP.below {w w' : World} {B : Nat} {v : Value} {ps : List (Int × Int)} (h : OP w B v ps) (hb : Below w.heap.size w w') : OP w' B v ps :=
  World.ownsRow.kept (row := none) h (below_grow hb none) (by cases v.ownBlock <;> simp)
theorem OS.below {w w' : World} {B : Nat} {v : Value} {bs : List (List UInt8)} (h : OS w B v bs) (hb : Below w.heap.size w w') : OS w' B v bs :=
  World.ownsRow.kept (row := none) h (below_grow hb none) (by cases v.ownBlock <;> simp)
theorem OP.mono {w : World} {B B' : Nat} {v : Value} {ps : List (Int × Int)} (h : OP w B v ps) (hB : B' ≤ B) : OP w B' v ps := by
  obtain ⟨hl, h | ⟨g, cap, cur, hv, hb, h⟩⟩ := h
  · exact ⟨hl, .inl h⟩
  · exact ⟨hl, .inr ⟨g, cap, cur, hv, Nat.le_trans hB hb, h⟩⟩
theorem OS.mono {w : World} {B B' : Nat} {v : Value} {bs : List (List UInt8)} (h : OS w B v bs) (hB : B' ≤ B) : OS w B' v bs := by
  obtain ⟨hl, h | ⟨g, cap, cur, hv, hb, h⟩⟩ := h
  · exact ⟨hl, .inl h⟩
  · exact ⟨hl, .inr ⟨g, cap, cur, hv, Nat.le_trans hB hb, h⟩⟩
/-- Two rows of cells of different types lie apart. -/
theorem rows_apart {w : World} {B B' e e' s s' n n' : Nat} {v v' : Value} {xs ys : List Value} (h : w.ownsRow B e s v n xs) (h' : w.ownsRow B' e' s' v' n' ys) (hne : e ≠ e') : v.ownBlock = none ∨ v.ownBlock ≠ v'.ownBlock := by
  obtain ⟨-, ⟨rfl, -⟩ | ⟨g, cap, cur, rfl, hb, hg, -⟩⟩ := h
  · exact .inl rfl
  · right
    obtain ⟨-, ⟨rfl, -⟩ | ⟨g', cap', cur', rfl, hb', hg', -⟩⟩ := h'
    · simp [Value.ownBlock]
    · intro he
      simp only [Value.ownBlock, Option.some.injEq] at he
      subst he
      rw [hg] at hg'
      simp only [Option.some.injEq, Obj.cells.injEq] at hg'
      exact hne hg'.2.1
theorem OP.kept {w w' : World} {B B' : Nat} {v v' : Value} {ps : List (Int × Int)} {bs : List (List UInt8)} (h : OP w B v ps) (h' : OS w B' v' bs) (hg : w.grownBy w' v'.ownBlock) : OP w' B v ps := World.ownsRow.kept h hg (rows_apart h h' (by decide))
theorem OS.kept {w w' : World} {B B' : Nat} {v v' : Value} {ps : List (Int × Int)} {bs : List (List UInt8)} (h : OS w B v bs) (h' : OP w B' v' ps) (hg : w.grownBy w' v'.ownBlock) : OS w' B v bs := World.ownsRow.kept h hg (rows_apart h h' (by decide))
theorem OP.own {w : World} {B : Nat} {v : Value} {ps : List (Int × Int)} (h : OP w B v ps) : ∀ k, v.ownBlock = some k → B ≤ k := fun k hk => (World.ownsRow.lt h k hk).1
theorem OS.own {w : World} {B : Nat} {v : Value} {bs : List (List UInt8)} (h : OS w B v bs) : ∀ k, v.ownBlock = some k → B ≤ k := fun k hk => (World.ownsRow.lt h k hk).1
/-- What lay below an own row lies as it lay behind an append to it. -/
theorem OP.grown {w0 w w' : World} {B : Nat} {v : Value} {ps : List (Int × Int)} (h : OP w B v ps) (hb : Below B w0 w) (hg : w.grownBy w' v.ownBlock) (hB : B ≤ w.heap.size) : Below B w0 w' := hb.grown hg hB h.own
theorem OS.grown {w0 w w' : World} {B : Nat} {v : Value} {bs : List (List UInt8)} (h : OS w B v bs) (hb : Below B w0 w) (hg : w.grownBy w' v.ownBlock) (hB : B ≤ w.heap.size) : Below B w0 w' := hb.grown hg hB h.own
/-- append(v, a piece). -/
theorem app_piece {ops : Array Oper} {rest : List Oper} {o : Oper} {a : Act} {Q : Exit → Act → World → Prop} {w : World} (hgd : o.guard = none) (s x : Operand)
    (ho : o.op = .call { callee := .builtin .append, args := #[s, x], argTypes := #[33, 33] }) (B : Nat) (v : Value) (ps : List (Int × Int)) (p : Int × Int) (g c : Nat)
    (hs : a.eval s = v) (hx : a.eval x = .slice (some ⟨g, 0, none⟩) 1 c) (hP : OP w B v ps) (c0 : w.cell? ⟨g, 0, none⟩ = some (.int .i64 p.1)) (c1 : w.cell? ⟨g, 1, none⟩ = some (.int .i64 p.2)) (hn : ps.length ≤ 1000000) (hb : B ≤ w.heap.size)
    (h : ∀ v' w', OP w' B v' (ps ++ [p]) → w.grownBy w' v.ownBlock → wpList Try.prog ops Q rest (a.put o.dst v') w') : wpList Try.prog ops Q (o :: rest) a w := by
  obtain ⟨i0, hi, hz0, hz1, hz2⟩ := info_parts info37
  refine wpList_append_own _ hgd s x 33 ho B 37 i0 (.agg #[.int .i64 0, .int .i64 0]) 2 16 under33 hi hz0 hz1 hz2 rfl (by decide) v ps.length (encP ps) hs hP ⟨g, 0, none⟩ 1 c [.int .i64 p.1, .int .i64 p.2] hx rfl ?_ ?_ (by unfold maxLen; omega) (by omega) hb ?_
  · intro j u hj
    match j, hj with
    | 0, hj => simp at hj; subst hj; exact c0
    | 1, hj => simp at hj; subst hj; exact c1
  · intro u hu; simp at hu; rcases hu with rfl | rfl <;> rfl
  · intro v' w' hown hg _
    refine h v' w' ?_ hg
    unfold OP
    rw [encP_append, List.length_append]
    exact hown
/-- append(v, a string). -/
theorem app_str {ops : Array Oper} {rest : List Oper} {o : Oper} {a : Act} {Q : Exit → Act → World → Prop} {w : World} (hgd : o.guard = none) (s x : Operand)
    (ho : o.op = .call { callee := .builtin .append, args := #[s, x], argTypes := #[49, 49] }) (B : Nat) (v : Value) (bs : List (List UInt8)) (t : List UInt8) (g c : Nat)
    (hs : a.eval s = v) (hx : a.eval x = .slice (some ⟨g, 0, none⟩) 1 c) (hP : OS w B v bs) (c0 : w.cell? ⟨g, 0, none⟩ = some (strV t)) (hn : bs.length ≤ 1000000) (hb : B ≤ w.heap.size)
    (h : ∀ v' w', OS w' B v' (bs ++ [t]) → w.grownBy w' v.ownBlock → wpList Try.prog ops Q rest (a.put o.dst v') w') : wpList Try.prog ops Q (o :: rest) a w := by
  obtain ⟨i0, hi, hz0, hz1, hz2⟩ := info_parts info9
  refine wpList_append_own _ hgd s x 49 ho B 9 i0 (.string ⟨#[]⟩) 1 16 under49 hi hz0 hz1 hz2 rfl (by decide) v bs.length (encS bs) hs hP ⟨g, 0, none⟩ 1 c [strV t] hx rfl ?_ ?_ (by unfold maxLen; omega) (by omega) hb ?_
  · intro j u hj
    match j, hj with
    | 0, hj => simp at hj; subst hj; exact c0
  · intro u hu; simp at hu; subst hu; rfl
  · intro v' w' hown hg _
    refine h v' w' ?_ hg
    unfold OS
    rw [encS_append, List.length_append]
    exact hown
/-- What an append leaves of the rest. -/
theorem after_piece {A W w1 : World} {B : Nat} {v v2 : Value} {ps : List (Int × Int)} {bs : List (List UInt8)} (hW : Below A.heap.size A W) (hop : OP A B v ps) (hos : OS A B v2 bs) (hB : B ≤ A.heap.size) (hg : W.grownBy w1 v.ownBlock) :
    OS w1 B v2 bs ∧ Below B A w1 :=
  ⟨(hos.below hW).kept (hop.below hW) hg, (hop.below hW).grown (hW.mono hB) hg (Nat.le_trans hB hW.size)⟩
theorem after_str {A W w1 : World} {B : Nat} {v v2 : Value} {ps : List (Int × Int)} {bs : List (List UInt8)} (hW : Below A.heap.size A W) (hop : OP A B v ps) (hos : OS A B v2 bs) (hB : B ≤ A.heap.size) (hg : W.grownBy w1 v2.ownBlock) :
    OP w1 B v ps ∧ Below B A w1 :=
  ⟨(hop.below hW).kept (hos.below hW) hg, (hos.below hW).grown (hW.mono hB) hg (Nat.le_trans hB hW.size)⟩
theorem keepB {B : Nat} {w w1 : World} {a : Addr} {v : Value} (h : Below B w w1) (ha : a.block < B) (k : w.cell? a = some v) : w1.cell? a = some v := (h.cell ha).trans k
/-- An empty slice that a call makes. -/
theorem op_new (w : World) (B : Nat) (hB : B ≤ w.heap.size) : OP (w.alloc (.cells #[] 37)) B (.slice (some ⟨w.heap.size, 0, none⟩) 0 0) [] := World.ownsRow_lit w #[] 0 hB (by decide) rfl
theorem os_new (w : World) (B : Nat) (hB : B ≤ w.heap.size) : OS (w.alloc (.cells #[] 9)) B (.slice (some ⟨w.heap.size, 0, none⟩) 0 0) [] := World.ownsRow_lit w #[] 0 hB (by decide) rfl
/-- Strings joined. -/
@[go_sem] theorem str_app (a b : List UInt8) : (⟨a.toArray⟩ : ByteArray) ++ ⟨b.toArray⟩ = ⟨(a ++ b).toArray⟩ := by
  apply ByteArray.ext
  simp
@[go_sem high] theorem run_add_lists {P : Program} (x y : List UInt8) (w : World) (h : x.length + y.length ≤ 9223372036854775807) : (Op.stringOp .add ⟨x.toArray⟩ ⟨y.toArray⟩).run P w = .ok (.string ⟨(x ++ y).toArray⟩) w := by
  rw [run_string_add_sum w _ _ (by simpa [ByteArray.size] using h), str_app]
end Go.Proofs.Ytcfmimfkaabmkaa
