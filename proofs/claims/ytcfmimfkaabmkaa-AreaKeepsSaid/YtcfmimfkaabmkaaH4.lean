/- The walk of area.Blocks. -/
import Derived.Test.YtcfmimfkaabmkaaXH
import Derived.Test.YtcfmimfkaabmkaaXA
import Derived.Test.YtcfmimfkaabmkaaXO
set_option linter.unusedVariables false
set_option linter.unusedSimpArgs false
namespace Go.Proofs.Ytcfmimfkaabmkaa
open Go.RowKit
attribute [local go_sem] Oper.semAt_some
attribute [local irreducible] num
/-- The pieces of the units with a mark. -/
def markP (m : Int) (us : List (Int × Int × Int)) : List (Int × Int) := (us.filter (fun u => u.2.2 == m)).map (fun u => (u.1 + 8, u.2.1))
theorem markP_snoc (m : Int) {us : List (Int × Int × Int)} {k : Nat} {u : Int × Int × Int} (h : us[k]? = some u) : markP m (us.take (k + 1)) = markP m (us.take k) ++ (if u.2.2 = m then [(u.1 + 8, u.2.1)] else []) := by
  unfold markP
  rw [List.take_add_one, h]
  simp only [Option.toList_some, List.filter_append, List.map_append, List.filter_cons, List.filter_nil]
  by_cases hm : u.2.2 = m
  · rw [if_pos hm, if_pos (by simpa using hm)]; rfl
  · rw [if_neg hm, if_neg (by simpa using hm)]; rfl
theorem markP_used : ∀ (lay : Lay) (b : Bool) (e : Nat), ok b e lay → markP 1 (unitsOf e lay) = psOf (itsOf lay)
  | [], _, _, _ => rfl
  | (p, s) :: r, b, e, ⟨o1, o2, o3, o4, o5⟩ => by
    have ih := markP_used r _ _ o5
    rw [unitsOf]
    unfold markP at ih ⊢
    rw [List.filter_append, List.filter_cons_of_pos (by simp), List.map_append, List.map_cons, ih]
    have : (((p - 8 : Nat) : Int) + 8) = (p : Int) := by omega
    split
    · simp [psOf, itsOf, this]
    · simp [psOf, itsOf, this]
/-- append(v, a piece), carried out. -/
theorem exec_app_piece {o : Oper} {a : Act} {w : World} (s x : Operand)
    (ho : o.op = .call { callee := .builtin .append, args := #[s, x], argTypes := #[33, 33] }) (B : Nat) (v : Value) (ps : List (Int × Int)) (p : Int × Int) (g c : Nat)
    (hs : a.eval s = v) (hx : a.eval x = .slice (some ⟨g, 0, none⟩) 1 c) (hP : OP w B v ps) (c0 : w.cell? ⟨g, 0, none⟩ = some (.int .i64 p.1)) (c1 : w.cell? ⟨g, 1, none⟩ = some (.int .i64 p.2)) (hn : ps.length ≤ 1000000) (hb : B ≤ w.heap.size) :
    ∃ v' w', (execOp a.eval o).run Try.prog w = .ok (.value v') w' ∧ OP w' B v' (ps ++ [p]) ∧ w.grownBy w' v.ownBlock := by
  obtain ⟨i0, hi, hz0, hz1, hz2⟩ := info_parts info37
  obtain ⟨v', w', hr, h2, h3, -⟩ := run_append_own (P := Try.prog) w B 33 o.type 37 i0 (.agg #[.int .i64 0, .int .i64 0]) 2 16 under33 hi hz0 hz1 hz2 rfl (by decide) v ps.length (encP ps) hP ⟨g, 0, none⟩ 1 c [.int .i64 p.1, .int .i64 p.2] rfl
    (fun j u hj => by
      match j, hj with
      | 0, hj => simp at hj; subst hj; exact c0
      | 1, hj => simp at hj; subst hj; exact c1)
    (fun u hu => by simp at hu; rcases hu with rfl | rfl <;> rfl) (by unfold maxLen; omega) (by omega) hb
  refine ⟨v', w', ?_, ?_, h3⟩
  · unfold execOp
    simp only [ho, resolve, invoke, builtin, Sem.run_bind, Sem.run_pure, Result.andThen_ok, List.map_toArray, List.map_cons, List.map_nil, hs, hx, hr]
  · unfold OP; rw [encP_append, List.length_append]; exact h2
theorem uponX_app {R : Value → World → Prop} {o : Oper} {a : Act} {w : World} (s x : Operand)
    (ho : o.op = .call { callee := .builtin .append, args := #[s, x], argTypes := #[33, 33] }) (B : Nat) (v : Value) (ps : List (Int × Int)) (p : Int × Int) (g c : Nat)
    (hs : a.eval s = v) (hx : a.eval x = .slice (some ⟨g, 0, none⟩) 1 c) (hP : OP w B v ps) (c0 : w.cell? ⟨g, 0, none⟩ = some (.int .i64 p.1)) (c1 : w.cell? ⟨g, 1, none⟩ = some (.int .i64 p.2)) (hn : ps.length ≤ 1000000) (hb : B ≤ w.heap.size)
    (h : ∀ v' w', OP w' B v' (ps ++ [p]) → w.grownBy w' v.ownBlock → R v' w') : uponX Try.prog R ((execOp a.eval o).run Try.prog w) := by
  obtain ⟨v1, w2, hrun, h1, h2⟩ := exec_app_piece s x ho B v ps p g c hs hx hP c0 c1 hn hb
  rw [hrun]
  exact h v1 w2 h1 h2
theorem op_put {W : World} {B D : Nat} {v : Value} {ps : List (Int × Int)} {o : Obj} (h : OP W B v ps) (hD : W.heap[D]? = some o) (ho : o.isCells = false) : v.ownBlock = none ∨ v.ownBlock ≠ some D := by
  right
  intro e
  obtain ⟨-, ⟨rfl, -⟩ | ⟨g, cap, cur, rfl, -, hg, -⟩⟩ := h
  · simp [Value.ownBlock] at e
  · simp only [Value.ownBlock, Option.some.injEq] at e
    subst e
    rw [hD] at hg
    simp only [Option.some.injEq] at hg
    subst hg
    cases ho
theorem op_putObj {W : World} {B D : Nat} {v : Value} {ps : List (Int × Int)} {o : Obj} (h : OP W B v ps) (hD : W.heap[D]? = some o) (ho : o.isCells = false) (o' : Obj) : OP (W.putObj D o') B v ps :=
  World.ownsRow.kept h (grownBy_putObj' W D o') (op_put h hD ho)
theorem op_ne_box {W : World} {B Bx : Nat} {v : Value} {ps : List (Int × Int)} (h : OP W B v ps) (hb : Box88 W Bx) : some Bx ≠ v.ownBlock := by
  intro e
  obtain ⟨c, f, hb⟩ := hb
  obtain ⟨-, ⟨rfl, -⟩ | ⟨g, cap, cur, rfl, -, hg, -⟩⟩ := h
  · simp [Value.ownBlock] at e
  · simp only [Value.ownBlock, Option.some.injEq] at e
    subst e
    rw [hb] at hg
    simp at hg
theorem op_row {W : World} {B : Nat} {v : Value} {ps : List (Int × Int)} (h : OP W B v ps) : ∀ b, v.ownBlock = some b → Row37 W b := by
  intro b e
  obtain ⟨-, ⟨rfl, -⟩ | ⟨g, cap, cur, rfl, -, hg, -⟩⟩ := h
  · simp [Value.ownBlock] at e
  · simp only [Value.ownBlock, Option.some.injEq] at e
    subst e
    exact ⟨_, 37, _, rfl, hg⟩
theorem ownF_box {β : Type} {B : Nat} (b : β → Nat) : OwnFrom B (fun (k : β) W => Box88 W (b k)) := fun _ _ _ _ hs hg hr => by
  obtain ⟨c, f, h⟩ := hs
  exact ⟨c, f, (grownBy_keeps_cells hg (fun r e => (hr r e).2) h rfl).trans h⟩
/-- The loop variable u in a box of its own, a block of its own kind. -/
def UBoxP (n0 : Nat) (us : List (Int × Int × Int)) (mk : Nat → Int × Int × Int → Act) (I : Nat → World → Prop) (k : Nat) (a₁ : Act) (W : World) : Prop :=
  ∃ (Bx : Nat) (u : Int × Int × Int), (us[k]? = some u ∧ n0 ≤ Bx ∧ a₁ = mk Bx u) ∧ W.cell? ⟨Bx, 0, none⟩ = some (.int .i64 u.1) ∧ W.cell? ⟨Bx, 1, none⟩ = some (.int .i64 u.2.1) ∧ W.cell? ⟨Bx, 2, none⟩ = some (.int .i64 u.2.2) ∧ Box88 W Bx ∧ I k W
theorem uboxP_own {n0 B : Nat} {us : List (Int × Int × Int)} {mk : Nat → Int × Int × Int → Act} {I : Nat → World → Prop} (hI : OwnFrom B I) (a₁ : Act) : OwnFrom B (fun k W => UBoxP n0 us mk I k a₁ W) :=
  ownF_ex fun Bx => ownF_ex fun u => OwnFrom.and (ownF_pure _) (OwnFrom.and (ownF_cell _ _) (OwnFrom.and (ownF_cell _ _) (OwnFrom.and (ownF_cell _ _) (OwnFrom.and (ownF_box _) hI))))
theorem uboxP_new {n0 : Nat} {us : List (Int × Int × Int)} {mk : Nat → Int × Int × Int → Act} {I : Nat → World → Prop} {k : Nat} {W : World} {u : Int × Int × Int} {a : Act} (hu : us[k]? = some u) (hn : n0 ≤ W.heap.size) (ha : a = mk W.heap.size u)
    (hI : I k (W.alloc (.cells #[.int .i64 u.1, .int .i64 u.2.1, .int .i64 u.2.2] 88))) :
    assignEndP n0 (UBoxP n0 us mk I) k W .normal a (W.alloc (.cells #[.int .i64 u.1, .int .i64 u.2.1, .int .i64 u.2.2] 88)) :=
  ⟨(RndP.refl _ _).alloc _, W.heap.size, u, ⟨hu, hn, ha⟩, cell_new _ _ _ _ _ rfl, cell_new _ _ _ _ _ rfl, cell_new _ _ _ _ _ rfl, box88_new _ _, hI⟩
/-- Between two rounds: the cell X holds the pieces of the units with mark m, so far. -/
def BlkI (m : Int) (us : List (Int × Int × Int)) (W0 : World) (X : Nat) (hv : Value) (k : Nat) (W : World) : Prop :=
  ∃ v, W.cell? ⟨X, 0, none⟩ = some v ∧ OwnC W ⟨X, 0, none⟩ ∧ OP W W0.heap.size v (markP m (us.take k)) ∧ Below X W0 W ∧ W.cell? ⟨X + 1, 0, none⟩ = some hv
theorem blkI_own (m : Int) (us : List (Int × Int × Int)) (W0 : World) (X : Nat) (hv : Value) (B : Nat) (hX : X ≤ W0.heap.size) (hB : W0.heap.size ≤ B) : OwnFrom B (BlkI m us W0 X hv) :=
  ownF_ex fun v => OwnFrom.and (ownF_cell _ _) (OwnFrom.and (ownF_ownc _) (OwnFrom.and (ownF_row _ _ _ _ _ _) (OwnFrom.and (ownFrom_below hX (Nat.le_trans hX hB)) (ownF_cell _ _))))
/-- The state within a round that appends a piece: the operations are 0: load the slice, 1: load the unit, 2: its piece, 3: a slice of it, 4: append, 5: store. -/
def BlkS (X n0 Bx : Nat) (hv v : Value) (u : Int × Int × Int) (ps : List (Int × Int)) (W0 W : World) (L : Nat → Bool) (vals : Nat → Value) (W' : World) : Prop :=
  RndP n0 W W' ∧ Below X W0 W' ∧ W'.cell? ⟨X + 1, 0, none⟩ = some hv ∧ OwnC W' ⟨X, 0, none⟩ ∧
  (W'.cell? ⟨Bx, 0, none⟩ = some (.int .i64 u.1) ∧ W'.cell? ⟨Bx, 1, none⟩ = some (.int .i64 u.2.1) ∧ W'.cell? ⟨Bx, 2, none⟩ = some (.int .i64 u.2.2) ∧ Box88 W' Bx) ∧
  (L 0 = true → vals 0 = v) ∧ (L 1 = true → vals 1 = .agg #[.int .i64 u.1, .int .i64 u.2.1, .int .i64 u.2.2]) ∧ (L 2 = true → vals 2 = .agg #[.int .i64 (u.1 + 8), .int .i64 u.2.1]) ∧
  (L 3 = true → L 4 = false → ∃ g, vals 3 = .slice (some ⟨g, 0, none⟩) 1 1 ∧ W'.cell? ⟨g, 0, none⟩ = some (.int .i64 (u.1 + 8)) ∧ W'.cell? ⟨g, 1, none⟩ = some (.int .i64 u.2.1)) ∧
  (L 4 = false → OP W' n0 v ps) ∧ (L 4 = true → OP W' n0 (vals 4) (ps ++ [(u.1 + 8, u.2.1)])) ∧
  (L 5 = false → W'.cell? ⟨X, 0, none⟩ = some v) ∧ (L 5 = true → W'.cell? ⟨X, 0, none⟩ = some (vals 4))
section
variable {X n0 Bx : Nat} {hv v : Value} {u : Int × Int × Int} {ps : List (Int × Int)} {W0 W W' : World} {L : Nat → Bool} {vals : Nat → Value}
theorem blkS_0 (h : BlkS X n0 Bx hv v u ps W0 W L vals W') : BlkS X n0 Bx hv v u ps W0 W (addTo L 0) (upd vals 0 v) W' := by
  obtain ⟨r1, r2, r3, r4, r5, r9, r10, r11, r12, r13, r14, r15, r16⟩ := h
  exact ⟨r1, r2, r3, r4, r5, fun _ => rfl, by simpa [addTo, upd] using r10, by simpa [addTo, upd] using r11, by simpa [addTo, upd] using r12, by simpa [addTo, upd] using r13, by simpa [addTo, upd] using r14, by simpa [addTo, upd] using r15, by simpa [addTo, upd] using r16⟩
theorem blkS_1 (h : BlkS X n0 Bx hv v u ps W0 W L vals W') : BlkS X n0 Bx hv v u ps W0 W (addTo L 1) (upd vals 1 (.agg #[.int .i64 u.1, .int .i64 u.2.1, .int .i64 u.2.2])) W' := by
  obtain ⟨r1, r2, r3, r4, r5, r9, r10, r11, r12, r13, r14, r15, r16⟩ := h
  exact ⟨r1, r2, r3, r4, r5, by simpa [addTo, upd] using r9, fun _ => rfl, by simpa [addTo, upd] using r11, by simpa [addTo, upd] using r12, by simpa [addTo, upd] using r13, by simpa [addTo, upd] using r14, by simpa [addTo, upd] using r15, by simpa [addTo, upd] using r16⟩
theorem below_keeps {W1 : World} (h : BlkS X n0 Bx hv v u ps W0 W L vals W') (hb : Below W'.heap.size W' W1) (hX : X ≤ W'.heap.size) : BlkS X n0 Bx hv v u ps W0 W L vals W1 := by
  obtain ⟨r1, r2, r3, r4, ⟨r5, r6, r7, c, f, r8⟩, r9, r10, r11, r12, r13, r14, r15, r16⟩ := h
  refine ⟨r1.below hb, r2.trans (hb.mono hX), keepc hb r3, keepOwn hb r4, ⟨keepc hb r5, keepc hb r6, keepc hb r7, c, f, (hb.block _ (Array.getElem?_eq_some_iff.1 r8).1).trans r8⟩, r9, r10, r11, fun h3 h4 => ?_, fun h4 => (r13 h4).below hb, fun h4 => (r14 h4).below hb, fun h5 => keepc hb (r15 h5), fun h5 => keepc hb (r16 h5)⟩
  obtain ⟨g, e1, e2, e3⟩ := r12 h3 h4
  exact ⟨g, e1, keepc hb e2, keepc hb e3⟩
theorem blkS_2 {W1 : World} (h : BlkS X n0 Bx hv v u ps W0 W L vals W') (hb : Below W'.heap.size W' W1) (hX : X ≤ W'.heap.size) : BlkS X n0 Bx hv v u ps W0 W (addTo L 2) (upd vals 2 (.agg #[.int .i64 (u.1 + 8), .int .i64 u.2.1])) W1 := by
  obtain ⟨r1, r2, r3, r4, r5, r9, r10, r11, r12, r13, r14, r15, r16⟩ := below_keeps h hb hX
  exact ⟨r1, r2, r3, r4, r5, by simpa [addTo, upd] using r9, by simpa [addTo, upd] using r10, fun _ => rfl, by simpa [addTo, upd] using r12, by simpa [addTo, upd] using r13, by simpa [addTo, upd] using r14, by simpa [addTo, upd] using r15, by simpa [addTo, upd] using r16⟩
theorem blkS_3 (h : BlkS X n0 Bx hv v u ps W0 W L vals W') (hX : X ≤ W'.heap.size) : BlkS X n0 Bx hv v u ps W0 W (addTo L 3) (upd vals 3 (.slice (some ⟨W'.heap.size, 0, none⟩) 1 1)) (W'.alloc (.cells #[.int .i64 (u.1 + 8), .int .i64 u.2.1] 37)) := by
  obtain ⟨r1, r2, r3, r4, r5, r9, r10, r11, r12, r13, r14, r15, r16⟩ := below_keeps h ((Below.refl _ _).alloc (Nat.le_refl _) (.cells #[.int .i64 (u.1 + 8), .int .i64 u.2.1] 37)) hX
  exact ⟨r1, r2, r3, r4, r5, by simpa [addTo, upd] using r9, by simpa [addTo, upd] using r10, by simpa [addTo, upd] using r11, fun _ _ => ⟨_, rfl, cell_new _ _ _ 0 _ rfl, cell_new _ _ _ 1 _ rfl⟩, by simpa [addTo, upd] using r13, by simpa [addTo, upd] using r14, by simpa [addTo, upd] using r15, by simpa [addTo, upd] using r16⟩
theorem blkS_4 {W1 : World} {v1 : Value} (h : BlkS X n0 Bx hv v u ps W0 W L vals W') (h4 : L 4 = false) (h5 : L 5 = false) (hX : X + 1 < n0) (hn : n0 ≤ W.heap.size) (hv1 : OP W1 n0 v1 (ps ++ [(u.1 + 8, u.2.1)])) (hg : W'.grownBy W1 v.ownBlock) (hrow : ∀ b, v.ownBlock = some b → W.heap.size ≤ b ∨ Row37 W b) :
    BlkS X n0 Bx hv v u ps W0 W (addTo L 4) (upd vals 4 v1) W1 := by
  obtain ⟨r1, r2, r3, r4, ⟨r5, r6, r7, r8⟩, r9, r10, r11, r12, r13, r14, r15, r16⟩ := h
  have hop := r13 h4
  have hown := hop.own
  have hbx := op_ne_box hop r8
  have hne : ∀ k, k < n0 → some k ≠ v.ownBlock := fun k hk e => by have := hown k e.symm; omega
  refine ⟨r1.grown hg (fun b e => .inr (hrow b e)), r2.grown hg ?_ (fun k e => by have := hown k e; omega), hg.cell r3 (hne _ (by dsimp only; omega)), ?_, ⟨hg.cell r5 hbx, hg.cell r6 hbx, hg.cell r7 hbx, ?_⟩, by simpa [addTo, upd] using r9, by simpa [addTo, upd] using r10, by simpa [addTo, upd] using r11, fun _ h => by simp [addTo] at h, fun h => by simp [addTo] at h, fun _ => hv1,
    fun h => hg.cell (r15 h5) (hne _ (by dsimp only; omega)), fun h => by simp [addTo, h5] at h⟩
  · have h1 := r1.size
    omega
  · obtain ⟨⟨x, hx⟩, hf⟩ := r4
    have hlt := World.block_lt_of_cell? _ _ hx
    exact ⟨⟨x, hg.cell hx (hne _ (by dsimp only; omega))⟩, (World.frozen?_of_block (hg.block X hlt (hne _ (by omega)))).trans hf⟩
  · obtain ⟨c, f, r8⟩ := r8
    exact ⟨c, f, (hg.block _ (Array.getElem?_eq_some_iff.1 r8).1 hbx).trans r8⟩
theorem op_set {B : Nat} {v : Value} {ps : List (Int × Int)} {W : World} (h : OP W B v ps) {p : Addr} (hp : p.block < B) (x : Value) : OP (W.setCell p x) B v ps :=
  World.ownsRow.kept (row := some p.block) h ⟨rfl, rfl, rfl, by simp [World.setCell], fun k _ hk => Below.heap_setCell _ _ _ _ (fun e => hk (by rw [e]))⟩ (.inr fun e => by have := (World.ownsRow.lt h _ e).1; omega)
theorem blkS_5 (h : BlkS X n0 Bx hv v u ps W0 W L vals W') (h4 : L 4 = true) (hX : X + 1 < n0) (hBx : n0 ≤ Bx) : BlkS X n0 Bx hv v u ps W0 W (addTo L 5) (upd vals 5 undef) (W'.setCell ⟨X, 0, none⟩ (vals 4)) := by
  obtain ⟨r1, r2, r3, r4, ⟨r5, r6, r7, r8⟩, r9, r10, r11, r12, r13, r14, r15, r16⟩ := h
  have hc : ∀ (k j : Nat) (x : Value), k ≠ X → W'.cell? ⟨k, j, none⟩ = some x → (W'.setCell ⟨X, 0, none⟩ (vals 4)).cell? ⟨k, j, none⟩ = some x := fun k j x hk hx => (World.cell?_of_block (a := ⟨k, j, none⟩) (Below.heap_setCell _ _ _ _ hk)).trans hx
  refine ⟨r1.setCell (.inl (by dsimp only; omega)) _, r2.setCell (Nat.le_refl _) _, hc _ _ _ (by omega) r3, r4.set _ _, ⟨hc _ _ _ (by omega) r5, hc _ _ _ (by omega) r6, hc _ _ _ (by omega) r7, r8.set _ _⟩, by simpa [addTo, upd] using r9, by simpa [addTo, upd] using r10, by simpa [addTo, upd] using r11, fun _ h => by simp [addTo, h4] at h, fun h => by simp [addTo, h4] at h, ?_, fun h => by simp [addTo] at h, ?_⟩
  · intro _
    have := op_set (r14 h4) (p := ⟨X, 0, none⟩) (by dsimp only; omega) (vals 4)
    simpa [upd] using this
  · intro _
    obtain ⟨⟨x, hx⟩, hf⟩ := r4
    have := World.cell?_setCell_same' W' ⟨X, 0, none⟩ (vals 4) (by rw [hx]; rfl)
    simpa [upd] using this
end
def blocksAct (l : List UInt8) (B X : Nat) (Bx : Nat) (u : Int × Int × Int) : Act := { defers := [], tmps := #[.string ⟨l.toArray⟩, undef, .slice none 0 0, .int .i64 0, .slice (some ⟨B, 0, none⟩) l.length l.length, .bool true, .pointer (some ⟨X, 0, none⟩), .pointer (some ⟨Bx, 0, none⟩),
  .tuple #[.slice (some ⟨B, 0, none⟩) l.length l.length, .bool true], .string ⟨l.toArray⟩, .tuple #[.slice (some ⟨B, 0, none⟩) l.length l.length, .bool true], .slice (some ⟨B, 0, none⟩) l.length l.length, .bool true, .bool true, .bool false,
  .slice (some ⟨B, 0, none⟩) l.length l.length, .func (.func 84) #[] #[.pointer (some ⟨X + 1, 0, none⟩)], .agg #[.int .i64 u.1, .int .i64 u.2.1, .int .i64 u.2.2],
  undef, undef, undef, undef, undef, undef, undef, undef, undef] }
theorem ul_length {l : List UInt8} {en a : Int} {us : List (Int × Int × Int)} (h : UL l en a us) (hen : en ≤ 8192) : us.length ≤ 9000 := by
  have key : us.length = 0 ∨ (us.length : Int) ≤ en - a := by
    induction h with
    | nil h => exact .inl rfl
    | @cons a r h h0 h1 hr ih =>
      have hn := (num_bd l a.toNat).1
      have := upZ_bd (num l a.toNat) hn
      simp only [List.length_cons]
      omega
  cases h with
  | nil h => simp
  | cons h h0 h1 hr => omega
set_option maxHeartbeats 2000000 in
set_option maxRecDepth 100000 in
theorem blocks_main (l : List UInt8) (w : World) (hl : l.length ≤ maxLen) (h : openS l = true) : Calls Try.prog 26 #[.string ⟨l.toArray⟩] w (PiecesPost (psOf (itsOf (layD l)), 0) w) := by
  have hA := area_D h
  have hu := (area_units hA).1
  have hue := (area_units hA).2
  have hend := hA.2.2.2.1
  have h1 := hA.1
  have h2 := hA.2.1
  have hmk := markP_used (layD l) true 8 hA.2.2.1
  obtain ⟨us, hus⟩ : ∃ us, unitsOf 8 (layD l) = us := ⟨_, rfl⟩
  rw [hus] at hu hmk
  rw [← hmk]
  have HBD := hid (us_bd hu (by omega))
  have h3 : 8 + num l 0 ≤ l.length := by omega
  have HO := hid (fun w => open_l l w hl)
  have HH := hid h
  have HU := hid hu
  have HUL := hid (ul_length hu (by omega))
  have H3 := hid h3
  clear h hA hue hus hmk hu h3 hend
  refine (callsIn_wide (n := 0)).1 (callsIn_of_wp_marks Try.func26 rfl trivial ?_ rfl)
  simp only [Try.ntmps26, List.size_toArray, List.length_cons, List.length_nil, Nat.reduceAdd, Nat.reduceSub, Array.replicate_succ, Array.replicate_zero, List.push_toArray, List.append_toArray, List.nil_append, List.cons_append]
  gi_wp2_with fail
  refine ⟨trivial, rfl, ?_⟩
  refine (callsIn_wide.2 (HO.out _)).mono ?_
  rintro e w1 ⟨hb1, hx⟩
  rw [HH.out, if_pos rfl] at hx
  obtain ⟨B, rfl, hB, hBl⟩ := hx
  have HB1 := hid hb1; have HB := hid hB
  have hBlt : B < w1.heap.size := hB.lt
  have hz1 := hb1.size
  clear hb1 hB
  gi_wp2_with fail
  refine ⟨trivial, rfl, ?_⟩
  refine (callsIn_wide.2 (units_any _ _ _ _ rfl _)).mono ?_
  rintro e w' ⟨rfl, rfl⟩
  gi_wp2_with fail
  obtain ⟨X, hX⟩ : ∃ X, w1.heap.size = X := ⟨_, rfl⟩
  obtain ⟨W0, hW0⟩ : ∃ W0, W0 = (w1.alloc (.cells #[.slice none 0 0] 33)).alloc (.cells #[.slice (some ⟨B, 0, none⟩) l.length l.length] 79) := ⟨_, rfl⟩
  rw [← hW0]
  rw [hX]
  have hz0 : W0.heap.size = X + 2 := by rw [hW0, ← hX]; simp
  have hb0 : Below X w1 W0 := by rw [hW0, ← hX]; exact ((Below.refl w1.heap.size w1).alloc (Nat.le_refl _) _).alloc (by simp) _
  have c0 : W0.cell? ⟨X, 0, none⟩ = some (.slice none 0 0) := by rw [hW0, ← hX]; go_simp
  have o0 : OwnC W0 ⟨X, 0, none⟩ := by rw [hW0, ← hX]; exact own_alloc (ownc_new _ _ _ 0 (by decide)) _
  have c1 : W0.cell? ⟨X + 1, 0, none⟩ = some (.slice (some ⟨B, 0, none⟩) l.length l.length) := by rw [hW0, ← hX]; go_simp
  have hBX : B < X := by omega
  have HI0 : Hid (BlkI 1 us W0 X (.slice (some ⟨B, 0, none⟩) l.length l.length) 0 W0) := ⟨_, c0, o0, World.ownsRow_nil _ _ _ _, Below.refl _ _, c1⟩
  have HB0 := hid hb0
  have HX := hid hX
  have HWX : Hid (Below w.heap.size w W0) := HB1.out.trans (hb0.mono (by omega))
  have hBytes : ∀ W, Below X W0 W → Bytes W B l := fun W h => ((HB.out.below (hX ▸ hb0) (by omega)).below h hBX)
  have HBY := hid hBytes
  have hwX : w.heap.size ≤ X := by omega
  clear hW0 hb0 c0 o0 c1 hBytes hX
  have hn0 : X ≤ W0.heap.size := by omega
  have hz0a : X + 2 ≤ W0.heap.size := by omega
  clear hz0
  refine wp_rangeP (us := us.map encU) (R := Reads B (X + 1) l) rfl (enters_of Try.func84 (by kernel_rfl) rfl) (units_seqP B (X + 1) l us HU.out h1 h2 H3.out) ?hps
    (BlkI 1 us W0 X (.slice (some ⟨B, 0, none⟩) l.length l.length)) (fun _ _ _ => False) (UBoxP W0.heap.size us (blocksAct l B X) (BlkI 1 us W0 X (.slice (some ⟨B, 0, none⟩) l.length l.length)))
    ?hI ?hIx ?hAx ?hR ?h0 ?hassign ?hbody ?hdone ?hstop
  case hps =>
    intro k x hx
    obtain ⟨u, _, rfl⟩ := map_some hx
    rfl
  case hI => exact blkI_own _ _ _ _ _ _ hn0 (Nat.le_refl _)
  case hIx => exact fun c => ownF_pure _
  case hAx => exact uboxP_own (blkI_own _ _ _ _ _ _ hn0 (Nat.le_refl _))
  case hR => exact fun k W ⟨v, i1, i2, i3, i4, i5⟩ => ⟨HBY.out W i4, i5⟩
  case h0 => exact HI0.out
  case hassign =>
    intro lp k x W hx hi hsz
    obtain ⟨u, hu1, rfl⟩ := map_some hx
    simp only [encU]
    go_simp
    gi_wp2_with fail
    refine uboxP_new hu1 (by omega) rfl ?_
    obtain ⟨v, i1, i2, i3, i4, i5⟩ := hi
    exact ⟨v, keep_alloc i1 _, own_alloc i2 _, i3.below ((Below.refl _ _).alloc (Nat.le_refl _) _), i4.alloc (by omega) _, keep_alloc i5 _⟩
  case hbody =>
    rintro lp k x a₁ W hx ⟨Bx, u, ⟨hu1, hBx, rfl⟩, q0, q1, q2, qb, v, i1, i2, i3, i4, i5⟩ hsz
    have HSN := hid (markP_snoc 1 hu1)
    have hub := HBD.out u (List.mem_of_getElem? hu1)
    have hkl : k < us.length := (List.getElem?_eq_some_iff.1 hu1).1
    clear hx hu1
    obtain ⟨a, s, m⟩ := u
    simp only at q0 q1 q2 hub
    obtain ⟨hub0, hub1, hub2⟩ := hub
    have hup := upZ_bd s hub1
    have QB := hid qb; have I1 := hid i1; have I2 := hid i2; have I3 := hid i3; have I4 := hid i4; have I5 := hid i5
    clear qb i1 i2 i3 i4 i5
    unfold blocksAct
    by_cases hm : m = 1
    · have g0 : (m == 1) = true := by simpa using hm
      subst hm
      have HS2 : Hid (markP 1 (us.take (k + 1)) = markP 1 (us.take k) ++ [(a + 8, s)]) := by unfold Hid; rw [HSN.out, if_pos rfl]
      have hps : (markP 1 (us.take k)).length ≤ 1000000 := by
        have h := HUL.out
        have h2 := List.length_filter_le (fun u : Int × Int × Int => u.2.2 == 1) (us.take k)
        have h3 := List.length_take_le k us
        unfold markP
        rw [List.length_map]
        omega
      obtain ⟨ps, hpe⟩ : ∃ ps, markP 1 (us.take k) = ps := ⟨_, rfl⟩
      rw [hpe] at HS2 hps
      have I3 : Hid (OP W W0.heap.size v ps) := by have h := I3.out; rw [hpe] at h; exact h
      clear hpe HSN
      gi_wp2_with fail
      refine wpIn_region_freeX (open_round lp) (by kernel_rfl) (by kernel_rfl) (BlkS X W0.heap.size Bx (.slice (some ⟨B, 0, none⟩) l.length l.length) v (a, s, 1) ps W0 W) ?_ ?_
      · intro vals
        refine ⟨(RndP.refl _ _).drew, I4.out.drew, I5.out, I2.out, ⟨q0, q1, q2, QB.out⟩, fun h => by simp at h, fun h => by simp at h, fun h => by simp at h, fun h => by simp at h, fun _ => I3.out.below (Below.refl _ _).drew, fun h => by simp at h, fun _ => I1.out, fun h => by simp at h⟩
      intro vals
      have hX2 : X + 1 < W0.heap.size := by omega
      have hnW : W0.heap.size ≤ W.heap.size := by omega
      clear g0
      refine wpX_op rfl ?_ (fun K hK => ?_)
      · intro L w' hC hL hdep hS
        have h4 : L 4 = false := by
          cases h4 : L 4 with
          | false => rfl
          | true => have := hC 4 _ rfl h4 ⟨0, .data⟩ (by simp) rfl; rw [hL] at this; cases this
        have h5 : L 5 = false := by
          cases h5 : L 5 with
          | false => rfl
          | true => have := hC 5 _ rfl h5 ⟨4, .data⟩ (by simp) rfl; rw [h4] at this; cases this
        have c0 := hS.2.2.2.2.2.2.2.2.2.2.2.1 h5
        have HS := hid hS; clear hS
        go_simp
        exact blkS_0 HS.out
      go_simp; refine hK _ ?_; clear hK K
      refine wpX_op rfl ?_ (fun K hK => ?_)
      · intro L w' hC hL hdep hS
        obtain ⟨p0, p1, p2, -⟩ := hS.2.2.2.2.1
        have HS := hid hS; clear hS
        simp only at p0 p1 p2
        go_simp
        exact blkS_1 HS.out
      go_simp; refine hK _ ?_; clear hK K
      refine wpX_op rfl ?_ (fun K hK => ?_)
      · intro L w' hC hL hdep hS
        have e1 := hS.2.2.2.2.2.2.1 (hdep ⟨1, .data⟩ (by simp) rfl)
        have hz := hS.1.size
        have HS := hid hS; clear hS
        simp only at e1
        go_simp
        refine (piece_any a s 1 w' (by omega) (by have := H3.out; omega)).mono ?_
        rintro e w2 ⟨rfl, hb2⟩
        exact ⟨_, rfl, blkS_2 HS.out hb2 (by omega)⟩
      go_simp; refine hK _ ?_; clear hK K
      refine wpX_op rfl ?_ (fun K hK => ?_)
      · intro L w' hC hL hdep hS
        have e1 := hS.2.2.2.2.2.2.2.1 (hdep ⟨2, .data⟩ (by simp) rfl)
        have hz := hS.1.size
        have HS := hid hS; clear hS
        simp only at e1
        go_simp
        exact blkS_3 HS.out (by omega)
      go_simp; refine hK _ ?_; clear hK K
      refine wpX_op rfl ?_ (fun K hK => ?_)
      · intro L w' hC hL hdep hS
        have h5 : L 5 = false := by
          cases h5 : L 5 with
          | false => rfl
          | true => have := hC 5 _ rfl h5 ⟨4, .data⟩ (by simp) rfl; rw [hL] at this; cases this
        have e0 := hS.2.2.2.2.2.1 (hdep ⟨0, .data⟩ (by simp) rfl)
        obtain ⟨g, e3, g0, g1⟩ := hS.2.2.2.2.2.2.2.2.1 (hdep ⟨3, .data⟩ (by simp) rfl) hL
        have hop := hS.2.2.2.2.2.2.2.2.2.1 hL
        have hz := hS.1.size
        refine uponX_app (.tmp 21) (.tmp 24) rfl W0.heap.size v ps (a + 8, s) g 1 e0 e3 hop g0 g1 hps (by omega) ?_
        exact fun v1 w2 hop2 hg2 => blkS_4 hS hL h5 (by omega) hnW hop2 hg2 (fun b hb => .inr (op_row I3.out b hb))
      go_simp; refine hK _ ?_; clear hK K
      refine wpX_op rfl ?_ (fun K hK => ?_)
      · intro L w' hC hL hdep hS
        have h4 := hdep ⟨4, .data⟩ (by simp) rfl
        have c0 := hS.2.2.2.1
        obtain ⟨⟨x, c0⟩, f0⟩ := c0
        obtain ⟨o, cap, e4, -⟩ := (hS.2.2.2.2.2.2.2.2.2.2.1 h4).rp
        have HF := blkS_5 hS h4 (by omega) hBx
        rw [e4] at HF
        simp only [List.length_append, List.length_cons, List.length_nil, Nat.zero_add] at HF
        have HF := hid HF; clear hS
        go_simp
        exact HF.out
      go_simp; refine hK _ ?_; clear hK K
      refine wpX_nil (fun L w' hL hS => ?_)
      obtain ⟨r1, r2, r3, r4, -, -, -, -, -, -, r14, -, r16⟩ := hS
      have k4 := hL 4 (by decide)
      have k5 := hL 5 (by decide)
      gi_wp2_with fail
      exact ⟨r1, vals 4, r16 k5, r4, by rw [HS2.out]; exact r14 k4, r2, r3⟩
    · have g0 : (m == 1) = false := by simpa using hm
      have HS2 : Hid (markP 1 (us.take (k + 1)) = markP 1 (us.take k)) := by unfold Hid; rw [HSN.out, if_neg hm, List.append_nil]
      clear hm
      gi_wp2_with fail
      exact ⟨RndP.refl _ _, v, I1.out, I2.out, by rw [HS2.out]; exact I3.out, I4.out, I5.out⟩
  case hdone =>
    rintro D W hD ⟨v, i1, i2, i3, i4, i5⟩ hK
    rw [List.length_map, List.take_length] at i3
    have HK := hid hK; have I3 := hid i3; have I4 := hid i4
    clear hK i2 i3 i4 i5
    obtain ⟨o, cap, rfl, -⟩ := I3.out.rp
    gi_wp2_with fail
    refine ⟨by simp, .inl ⟨_, _, rfl, run_takeDeferred HK.out, .tuple #[.slice o (markP 1 us).length cap, .int .i64 0], by simp [results, Try.results26, go_sem], ⟨_, rfl, ?_, below_put (HWX.out.trans (I4.out.mono hwX)) (by omega) _⟩⟩⟩
    exact (op_putObj I3.out HK.out rfl _).mono (by omega)
  case hstop => exact fun D c k W hD h => h.elim
set_option maxHeartbeats 1000000 in
set_option maxRecDepth 100000 in
theorem blocks_any (l : List UInt8) (w : World) (hl : l.length ≤ maxLen) : Calls Try.prog 26 #[.string ⟨l.toArray⟩] w (PiecesPost (blocksS l) w) := by
  cases h : openS l with
  | true =>
    have HX : blocksS l = (psOf (itsOf (layD l)), 0) := by unfold blocksS; rw [h]; exact if_pos rfl
    rw [HX]; exact blocks_main l w hl h
  | false =>
    have HX : Hid (blocksS l = ([], 120)) := by unfold Hid blocksS; rw [h]; exact if_neg (by simp)
    have HO := hid (fun w => open_l l w hl)
    have HH := hid h; clear h
    go_enter Try.func26, Try.ntmps26
    go_wp2_with fail
    refine (HO.out _).mono ?_
    rintro e w1 ⟨hb1, hx⟩
    rw [HH.out, if_neg (by simp)] at hx
    obtain ⟨o, k, c, rfl⟩ := hx
    have HB1 := hid hb1; clear hb1
    go_wp2_with fail
    go_ret2
    rw [HX.out]
    exact ⟨_, rfl, World.ownsRow_nil _ _ _ _, HB1.out⟩
end Go.Proofs.Ytcfmimfkaabmkaa
