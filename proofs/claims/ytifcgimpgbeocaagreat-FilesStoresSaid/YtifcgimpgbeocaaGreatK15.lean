/- A range over an iterator whose values are known, a list: the caller owes one walk of a round, at the place k of the list. -/
import Derived.Test.YtifcgimpgbeocaaGreatK3
import Derived.Test.YtifcgimpgbeocaaGreatK5
import Derived.OwnWalkIn
import Derived.LoopIn
import Derived.TacticsInMore
import Derived.Shelf.Abstract
set_option linter.unusedVariables false
set_option linter.unusedSimpArgs false
namespace Go.Proofs.YtifcgimpgbeocaaGreat
open Go.RowKit
variable {P : Program}

/-- What lay at or beyond block n0 lies as it lay. -/
structure Rnd (n0 : Nat) (A B : World) : Prop where
  size : A.heap.size ≤ B.heap.size
  same : ∀ k, n0 ≤ k → k < A.heap.size → B.heap[k]? = A.heap[k]?
theorem Rnd.refl (n0 : Nat) (A : World) : Rnd n0 A A := ⟨Nat.le_refl _, fun _ _ _ => rfl⟩
theorem Rnd.trans {n0 : Nat} {A B C : World} (h : Rnd n0 A B) (k : Rnd n0 B C) : Rnd n0 A C :=
  ⟨Nat.le_trans h.size k.size, fun i hi hlt => (k.same i hi (Nat.lt_of_lt_of_le hlt h.size)).trans (h.same i hi hlt)⟩
theorem Rnd.alloc {n0 : Nat} {A B : World} (h : Rnd n0 A B) (o : Obj) : Rnd n0 A (B.alloc o) :=
  h.trans ⟨by simp, fun k _ hk => Below.heap_alloc _ _ _ hk⟩
theorem Rnd.drewN {n0 : Nat} {A B : World} (h : Rnd n0 A B) (n : Nat) : Rnd n0 A (B.drewN n) := h.trans ⟨Nat.le_refl _, fun _ _ _ => rfl⟩
theorem Rnd.drew {n0 : Nat} {A B : World} (h : Rnd n0 A B) : Rnd n0 A B.drew := h.trans ⟨Nat.le_refl _, fun _ _ _ => rfl⟩
/-- A store into a block that lay before n0, or that is new. -/
theorem Rnd.setCell {n0 : Nat} {A B : World} (h : Rnd n0 A B) {p : Addr} (hp : p.block < n0 ∨ A.heap.size ≤ p.block) (v : Value) : Rnd n0 A (B.setCell p v) :=
  ⟨Nat.le_trans h.size (by simp [World.setCell]), fun k hk hlt => (Below.heap_setCell _ _ _ _ (by omega)).trans (h.same k hk hlt)⟩
theorem Rnd.grown {n0 : Nat} {A B C : World} {row : Option Nat} (h : Rnd n0 A B) (hg : B.grownBy C row) (hr : ∀ b, row = some b → b < n0 ∨ A.heap.size ≤ b) : Rnd n0 A C :=
  ⟨Nat.le_trans h.size hg.size, fun k hk hlt => (hg.block k (Nat.lt_of_lt_of_le hlt h.size) (fun e => by have := hr k e.symm; omega)).trans (h.same k hk hlt)⟩
theorem Rnd.below {n0 : Nat} {A B C : World} (h : Rnd n0 A B) (hb : Below B.heap.size B C) : Rnd n0 A C := h.grown (below_grow hb none) (fun _ e => by cases e)
/-- What lay in cells at or beyond block n0 lies as it lay: a round's word to the iterator. -/
def RndC (n0 : Nat) (A B : World) : Prop := ∀ (k : Nat) (c : Array Value) (t : TypeId) (f : Nat × Nat), n0 ≤ k → A.heap[k]? = some (.cells c t f) → B.heap[k]? = some (.cells c t f)
theorem Rnd.cells {n0 : Nat} {A B : World} (h : Rnd n0 A B) : RndC n0 A B := fun k _ _ _ hk hc => (h.same k hk (Array.getElem?_eq_some_iff.1 hc).1).trans hc
theorem RndC.trans {n0 : Nat} {A B C : World} (h : RndC n0 A B) (k : RndC n0 B C) : RndC n0 A C := fun i c t f hi hc => k i c t f hi (h i c t f hi hc)
theorem rndC_put (n0 : Nat) (A : World) {l : Nat} {o : Obj} (hl : A.heap[l]? = some o) (ho : o.isCells = false) (o' : Obj) : RndC n0 A (A.putObj l o') := fun k c t f _ hc => by
  by_cases e : k = l
  · subst e; rw [hl] at hc; cases hc; cases ho
  · exact (World.putObj_heap_other e).trans hc
theorem RndC.cell {n0 : Nat} {A B : World} (h : RndC n0 A B) {p : Addr} {v : Value} (hp : n0 ≤ p.block) (hc : A.cell? p = some v) : B.cell? p = some v := by
  unfold World.cell? at hc ⊢
  cases hh : A.heap[p.block]? with
  | none => rw [hh] at hc; cases hc
  | some o =>
    rw [hh] at hc
    cases o <;> simp only [reduceCtorEq] at hc
    rename_i c t f
    rw [h _ c t f hp hh]
    exact hc

/-- The contract of an iterator that gives the values us, while R holds between two rounds. -/
def SeqL (P : Program) (gf : Nat) (lb : Array Value) (us : List (Array Value)) (R : World → Prop) : Prop :=
  ∀ (n0 l : Nat) (J Jx : Nat → World → Prop) (W : World), n0 ≤ W.heap.size →
    (∀ k A B, J k A → A.grownBy B none → J k B) → (∀ k A B, Jx k A → A.grownBy B none → Jx k B) → (∀ k A, J k A → R A) →
    (∀ (k : Nat) (x : Array Value) (A : World), us[k]? = some x → J k A → YieldAt Fence.wide 0 P l x A fun e B => (e = .returned (.bool true) ∧ J (k + 1) B ∧ RndC n0 A B) ∨ (e = .returned (.bool false) ∧ Jx (k + 1) B)) →
    J 0 W →
    CallsIn Fence.wide 0 P gf (#[.func (.yield l) #[] #[]] ++ lb) W fun e B => (∃ v, e = .returned v) ∧ (J us.length B ∨ ∃ k, k ≤ us.length ∧ Jx k B)

/-- How the body of the round number k may be left. -/
def roundEnd (n0 : Nat) (I : Nat → World → Prop) (Ix : Code → Nat → World → Prop) (k : Nat) (W : World) : Exit → Act → World → Prop
  | .normal, _, B => Rnd n0 W B ∧ I (k + 1) B
  | .ret, _, B => Rnd n0 W B ∧ Ix .ret (k + 1) B
  | .exit id, _, B => Rnd n0 W B ∧ Ix (.exit id) (k + 1) B
  | .goto t, _, B => Rnd n0 W B ∧ Ix (.goto t) (k + 1) B
  | .panic _, _, _ => False
  | .outgrown, _, _ => False
def assignEnd (n0 : Nat) (Ax : Nat → Act → World → Prop) (k : Nat) (W : World) : Exit → Act → World → Prop
  | .normal, a, B => Rnd n0 W B ∧ Ax k a B
  | _, _, _ => False

theorem wp_range {us : List (Array Value)} {R : World → Prop} {g : Operand} {ps : Array Tmp} {assign body : Code} {Q : Exit → Act → World → Prop} {a : Act} {w : World} {gf : Nat} {lb : Array Value}
    (hg : a.eval g = .func (.func gf) #[] lb) (eg : ∀ args w, (callFunc gf args).run P w = .ok (.enter gf args) w) (hseq : SeqL P gf lb us R) (hps : ∀ (k : Nat) (x : Array Value), us[k]? = some x → x.size = ps.size)
    (I : Nat → World → Prop) (Ix : Code → Nat → World → Prop) (Ax : Nat → Act → World → Prop) (hI : OwnFrom w.heap.size I) (hIx : ∀ c, OwnFrom w.heap.size (Ix c)) (hAx : ∀ a₁, OwnFrom w.heap.size (fun k W => Ax k a₁ W))
    (hR : ∀ k W, I k W → R W) (h0 : I 0 w)
    (hassign : ∀ (l k : Nat) (x : Array Value) (W : World), us[k]? = some x → I k W → w.heap.size + 2 ≤ W.heap.size →
      assign.wpIn (Fence.wide.inRound l) 0 P (assignEnd w.heap.size Ax k W) { tmps := (ps.zip x).foldl (fun t (p, v) => t.setIfInBounds p v) a.tmps, defers := [] } W)
    (hbody : ∀ (l k : Nat) (x : Array Value) (a₁ : Act) (W : World), us[k]? = some x → Ax k a₁ W → w.heap.size + 2 ≤ W.heap.size → body.wpIn (Fence.wide.inRound l) 0 P (roundEnd w.heap.size I Ix k W) a₁ W)
    (hdone : ∀ (D : Nat) (W : World), w.heap.size ≤ D → I us.length W → W.heap[D]? = some (.deferred (some [])) → Q .normal { a with defers := { target := .collected D, args := #[] } :: a.defers } W)
    (hstop : ∀ (D : Nat) (c : Code) (k : Nat) (W : World), w.heap.size ≤ D → Ix c k W → W.heap[D]? = some (.deferred (some [])) → c.wpIn Fence.wide 0 P Q { a with defers := { target := .collected D, args := #[] } :: a.defers } W) :
    (Code.rangeFunc g ps assign body).wpIn Fence.wide 0 P Q a w := by
  refine wpIn_rangeFunc fun fn hfn => ?_
  let rec_ : LoopState → Option Code → Loop := fun st pe => { state := st, pending := pe, fn, tmps := a.tmps, params := ps, assign, body, defers := w.heap.size }
  obtain ⟨W1, hW1⟩ : ∃ W1, (w.alloc (.deferred (some []))).alloc (.loop (rec_ .ready none)) = W1 := ⟨_, rfl⟩
  have hz1 : W1.heap.size = w.heap.size + 2 := by rw [← hW1]; simp
  have hL1 : W1.heap[w.heap.size + 1]? = some (.loop (rec_ .ready none)) := by
    rw [← hW1]; have := World.alloc_heap_new (w.alloc (.deferred (some []))) (.loop (rec_ .ready none)); rwa [World.size_alloc] at this
  have hK1 : W1.heap[w.heap.size]? = some (.deferred (some [])) := by
    rw [← hW1]; exact (Below.heap_alloc _ _ _ (by simp)).trans (World.alloc_heap_new w _)
  have hI1 : I 0 W1 := by rw [← hW1]; exact hI.alloc _ (hI.alloc _ h0)
  -- the two facts of book-keeping, and that the heap has not shrunk, beside the caller's own
  let Bk : LoopState → Option Code → World → Prop := fun st pe W => W.heap[w.heap.size + 1]? = some (.loop (rec_ st pe)) ∧ W.heap[w.heap.size]? = some (.deferred (some []))
  have bkGrow : ∀ st pe A B, Bk st pe A → A.grownBy B none → Bk st pe B := fun st pe A B h hg' =>
    ⟨(hg'.block _ (Array.getElem?_eq_some_iff.1 h.1).1 (by simp)).trans h.1, (hg'.block _ (Array.getElem?_eq_some_iff.1 h.2).1 (by simp)).trans h.2⟩
  have bkOthers : ∀ st pe A B, Bk st pe A → Rnd w.heap.size A B → Bk st pe B := fun st pe A B h hk =>
    ⟨(hk.same _ (by omega) (Array.getElem?_eq_some_iff.1 h.1).1).trans h.1, (hk.same _ (Nat.le_refl _) (Array.getElem?_eq_some_iff.1 h.2).1).trans h.2⟩
  have bkPut : ∀ st pe st' pe' A, Bk st pe A → Bk st' pe' (A.putObj (w.heap.size + 1) (.loop (rec_ st' pe'))) := fun st pe st' pe' A h =>
    ⟨World.putObj_heap_same (Array.getElem?_eq_some_iff.1 h.1).1, (World.putObj_heap_other (by omega)).trans h.2⟩
  have bkSize : ∀ st pe A, Bk st pe A → w.heap.size + 2 ≤ A.heap.size := fun st pe A h => by have := (Array.getElem?_eq_some_iff.1 h.1).1; omega
  refine ⟨w.heap.size + 1, [{ target := .collected w.heap.size, args := #[] }], W1, { target := .fn (.func gf) lb, args := #[.func (.yield (w.heap.size + 1)) #[] #[]] }, W1, gf,
    #[.func (.yield (w.heap.size + 1)) #[] #[]] ++ lb, W1, ?_, ?_, fun _ _ => trivial, ?_, fun h => by simp [Fence.wide] at h, ?_⟩
  · rw [← hW1]; exact run_enterLoop_outer _ _ _ _ _
  · simp only [resolve, hg]
    simp [go_sem]
  · simp [invoke, go_sem, eg]
  · refine CallsIn.mono (hseq w.heap.size (w.heap.size + 1) (fun k W => I k W ∧ Bk .ready none W) (fun k W => ∃ c, Ix c k W ∧ Bk .done (some c) W) W1 (by omega)
      (fun k A B h hg' => ⟨hI k A B none h.1 hg' (fun r e => by cases e), bkGrow _ _ _ _ h.2 hg'⟩)
      (fun k A B ⟨c, h, hb⟩ hg' => ⟨c, hIx c k A B none h hg' (fun r e => by cases e), bkGrow _ _ _ _ hb hg'⟩)
      (fun k A h => hR k A h.1) ?_ ⟨hI1, hL1, hK1⟩) ?_
    · -- one round
      rintro k x A hx ⟨hi, hb⟩
      have hy := run_yield (P := P) (args := x) hb.1 (hps k x hx)
      refine ⟨fn, _, assign, body, hy, roundIn_of_wpIn hfn (wpIn_mono (hassign _ k x A hx hi (bkSize _ _ _ hb)) ?_)⟩
      intro e a₁ A1 hpost
      cases e with
      | normal =>
        obtain ⟨hk1, hax⟩ := hpost
        have hb1 := bkOthers _ _ _ _ hb hk1
        refine ⟨_, run_beginRound hb1.1 rfl, ?_⟩
        have hb2 : Bk .busy none (A1.putObj (w.heap.size + 1) (.loop (rec_ .busy none))) := bkPut _ _ _ _ _ hb1
        have hax2 : Ax k a₁ (A1.putObj (w.heap.size + 1) (.loop (rec_ .busy none))) := (hAx a₁).putObj (s := k) _ hax (by omega) hb1.1 rfl
        refine wpIn_mono (hbody _ k x a₁ _ hx hax2 (bkSize _ _ _ hb2)) ?_
        have fin : ∀ (jump : Option Code) (A3 : World), Rnd w.heap.size (A1.putObj (w.heap.size + 1) (.loop (rec_ .busy none))) A3 →
            (Instr.endRound (w.heap.size + 1) jump).run P A3 = .ok (.bool jump.isNone) (A3.putObj (w.heap.size + 1) (.loop (rec_ (if jump.isNone then .ready else .done) jump))) ∧
            A3.heap[w.heap.size + 1]? = some (.loop (rec_ .busy none)) ∧ Bk (if jump.isNone then .ready else .done) jump (A3.putObj (w.heap.size + 1) (.loop (rec_ (if jump.isNone then .ready else .done) jump))) := fun jump A3 hk3 => by
          have hb3 := bkOthers _ _ _ _ hb2 hk3
          exact ⟨run_endRound (P := P) jump hb3.1, hb3.1, bkPut _ _ _ _ _ hb3⟩
        intro e2 a3 A3 hp
        cases e2 with
        | normal =>
          obtain ⟨hr, hl3, hb4⟩ := fin none A3 hp.1
          exact ⟨_, _, hr, .inl ⟨rfl, ⟨hI.putObj _ hp.2 (by omega) hl3 rfl, hb4⟩, ((hk1.cells.trans (rndC_put _ _ hb1.1 rfl _)).trans hp.1.cells).trans (rndC_put _ _ hl3 rfl _)⟩⟩
        | ret =>
          obtain ⟨hr, hl3, hb4⟩ := fin (some .ret) A3 hp.1
          exact ⟨_, _, hr, .inr ⟨rfl, .ret, (hIx _).putObj _ hp.2 (by omega) hl3 rfl, hb4⟩⟩
        | exit id =>
          obtain ⟨hr, hl3, hb4⟩ := fin (some (.exit id)) A3 hp.1
          exact ⟨_, _, hr, .inr ⟨rfl, .exit id, (hIx _).putObj _ hp.2 (by omega) hl3 rfl, hb4⟩⟩
        | goto t =>
          obtain ⟨hr, hl3, hb4⟩ := fin (some (.goto t)) A3 hp.1
          exact ⟨_, _, hr, .inr ⟨rfl, .goto t, (hIx _).putObj _ hp.2 (by omega) hl3 rfl, hb4⟩⟩
        | panic ch => exact hp.elim
        | outgrown => exact hp.elim
      | ret => exact hpost.elim
      | exit id => exact hpost.elim
      | goto t => exact hpost.elim
      | panic ch => exact hpost.elim
      | outgrown => exact hpost.elim
    · -- behind the iterator
      rintro e W2 ⟨⟨v, rfl⟩, (⟨hi, hb⟩ | ⟨k, _, c, hi, hb⟩)⟩
      · exact ⟨none, _, run_endLoop (P := P) hb.1 (by simp [rec_]), hdone _ _ (Nat.le_refl _) (hI.putObj _ hi (by omega) hb.1 rfl) ((World.putObj_heap_other (by omega)).trans hb.2)⟩
      · exact ⟨some c, _, run_endLoop (P := P) hb.1 (by simp [rec_]), hstop _ c k _ (Nat.le_refl _) ((hIx c).putObj _ hi (by omega) hb.1 rfl) ((World.putObj_heap_other (by omega)).trans hb.2)⟩

/-! What abides the turn of blocks that are no cells. -/
section
variable {β : Type} {B : Nat}
theorem ownF_cell (a : β → Addr) (v : β → Value) : OwnFrom B (fun (k : β) W => W.cell? (a k) = some (v k)) := fun _ _ _ _ hs hg hr => cell_kept hs hg (fun r e => (hr r e).2)
theorem ownF_pure (p : β → Prop) : OwnFrom B (fun (k : β) _ => p k) := fun _ _ _ _ hs _ _ => hs
theorem ownF_ex {γ : Type} {I : γ → β → World → Prop} (h : ∀ x, OwnFrom B (I x)) : OwnFrom B (fun k W => ∃ x, I x k W) := fun s A C row ⟨x, hx⟩ hg hr => ⟨x, h x s A C row hx hg hr⟩
end
end Go.Proofs.YtifcgimpgbeocaaGreat
/- slices.Backward at writes, as the iterator of a list; written. -/
set_option linter.unusedVariables false
set_option linter.unusedSimpArgs false
namespace Go.Proofs.YtifcgimpgbeocaaGreat
open Go.RowKit
attribute [local go_sem] Oper.semAt_some
/-- What slices.Backward gives of ws, in its order. -/
def bk (N : Nat) (j : Nat) (x : Wt) : Array Value := #[.int .i64 ((N - 1 - j : Nat) : Int), wtV x]
def bks (ws : List Wt) : List (Array Value) := ws.reverse.mapIdx (bk ws.length)
theorem bks_len (ws : List Wt) : (bks ws).length = ws.length := by unfold bks; simp
theorem bks_get {ws : List Wt} {j : Nat} {x : Wt} (h : ws.reverse[j]? = some x) : (bks ws)[j]? = some (bk ws.length j x) := by
  unfold bks; rw [List.getElem?_mapIdx, h]; rfl
theorem bks_some {ws : List Wt} {j : Nat} {u : Array Value} (h : (bks ws)[j]? = some u) : ∃ x, ws.reverse[j]? = some x ∧ u = bk ws.length j x := by
  unfold bks at h
  rw [List.getElem?_mapIdx] at h
  cases hx : ws.reverse[j]? with
  | none => rw [hx] at h; cases h
  | some x => rw [hx] at h; cases h; exact ⟨x, rfl, rfl⟩
theorem rev_get {ws : List Wt} {j : Nat} (h : j < ws.length) : ws.reverse[j]? = ws[ws.length - 1 - j]? := List.getElem?_reverse h
/-- What the iterator reads between two rounds. -/
def ReadsW (Bh : Nat) (v : Value) (ws : List Wt) (W : World) : Prop := RdW W v ws ∧ W.cell? ⟨Bh, 0, none⟩ = some v
set_option maxHeartbeats 1000000 in
set_option maxRecDepth 100000 in
theorem back_seq (Bh : Nat) (v : Value) (ws : List Wt) (hl : ws.length ≤ 1000000000) : SeqL Tryz.prog 126 #[.pointer (some ⟨Bh, 0, none⟩)] (bks ws) (ReadsW Bh v ws) := by
  intro n0 lp J Jx W hn0 hJ hJx hR hY h0
  obtain ⟨N, hN⟩ : ∃ N, ws.length = N := ⟨_, rfl⟩
  have h00 := hR 0 W h0
  obtain ⟨⟨o, cap, rfl, hcap, -⟩, hc⟩ := h00
  have HY := hid hY
  have HJ0 := hid hJ
  have HJx0 := hid hJx
  have HR := hid hR
  have HN := hid hN
  rw [hN] at hl hcap hc HR
  have HC0 := hid hc
  clear hY hJ hJx hR hN
  refine callsIn_of_wp Tryz.func126 rfl trivial ?_ rfl
  simp only [Tryz.ntmps126, List.size_toArray, List.length_cons, List.length_nil, Nat.reduceAdd, Nat.reduceSub, Array.replicate_succ, Array.replicate_zero, List.push_toArray, List.append_toArray, List.nil_append, List.cons_append]
  gi_wp2_with fail
  gi_loopw [3] (fun p wr => ∃ k m : Nat, p = .int .i64 ((m : Int) - 1) ∧ k + m = N ∧ Hid (J k wr)) (fun p wr => (intOf p + 1).toNat)
  case atStart => exact ⟨0, N, rfl, by omega, h0⟩
  case round =>
    obtain ⟨k, m, rfl, hkm, HJ⟩ := hrel
    cases m with
    | zero =>
      have e0 : (((0 : Nat) : Int) - 1) = -1 := rfl
      rw [e0]
      have HK : Hid ((bks ws).length = k) := by show _ = _; rw [bks_len, HN.out]; omega
      gi_wp2_with fail
      go_end0
      exact ⟨⟨_, rfl⟩, .inl (by rw [HK.out]; exact HJ.out)⟩
    | succ m =>
      have e0 : (((m + 1 : Nat) : Int) - 1) = (m : Int) := by omega
      rw [e0]
      obtain ⟨x, hx⟩ : ∃ x, ws.reverse[k]? = some x := ⟨_, List.getElem?_eq_getElem (by rw [List.length_reverse, HN.out]; omega)⟩
      have hx2 : ws[m]? = some x := by rw [rev_get (by rw [HN.out]; omega), HN.out] at hx; rw [← hx]; congr 1; omega
      have hbx := bks_get hx
      rw [HN.out] at hbx
      unfold bk at hbx
      rw [show N - 1 - k = m by omega] at hbx
      obtain ⟨fn, tmps, assign, body, hy, hRd⟩ := HY.out k _ wr hbx HJ.out
      obtain ⟨hr, hc1⟩ := HR.out k wr HJ.out
      obtain ⟨o', cap', e1, hc2, hrr⟩ := hr
      rw [HN.out] at e1
      cases e1
      rcases hrr with hrr | ⟨b, off, rfl, hb, hrr⟩
      · rw [hrr] at hx2; simp at hx2
      obtain ⟨c0, c1⟩ := hrr m x hx2
      have HKL : Hid (k + 1 ≤ (bks ws).length) := by show _ ≤ _; rw [bks_len, HN.out]; omega
      have hw1 : IntKind.i64.wrap ((m : Int) - 1) = (m : Int) - 1 := IntWalk.i64_in _ ⟨by omega, by omega⟩
      clear hrr hx hx2 hbx hc
      gi_wp2_with fail
      refine ⟨rfl, hRd.mono ?_⟩
      rintro e W2 (⟨rfl, hJ2, hk2⟩ | ⟨rfl, hJx2⟩)
      · have HJ2 := hid hJ2
        clear hJ2 hk2
        gi_wp2_with fail
        go_roundw
        case rel => exact ⟨k + 1, m, rfl, by omega, HJ2⟩
        case measure => simp [intOf]
      · have HJx2 := hid hJx2
        clear hJx2
        gi_wp2_with fail
        refine bodyPost_ret (results_none rfl _ _ _) rfl ⟨⟨_, rfl⟩, .inr ⟨k + 1, HKL.out, HJx2.out⟩⟩
end Go.Proofs.YtifcgimpgbeocaaGreat
/- written: what was written to a page last. -/
set_option linter.unusedVariables false
set_option linter.unusedSimpArgs false
namespace Go.Proofs.YtifcgimpgbeocaaGreat
open Go.RowKit
attribute [local go_sem] Oper.semAt_some
theorem back_any (v : Value) (o : Option Addr) (n c : Nat) (hv : v = .slice o n c) (w : World) : Calls Tryz.prog 112 #[v] w fun e w' => e = .returned (.func (.func 126) #[] #[.pointer (some ⟨w.heap.size, 0, none⟩)]) ∧ w' = w.alloc (.cells #[v] 23) := by
  subst hv
  go_enter Tryz.func112, Tryz.ntmps112
  go_wp2_with fail
  go_ret
  exact ⟨rfl, rfl⟩
def isP (p : Nat) (x : Wt) : Bool := x.1 == (p : Int)
theorem backP_find (p : Nat) (o : Bs) : ∀ l : List Wt, backP p o l = match l.find? (isP p) with | some x => x.2 | none => o
  | [] => rfl
  | x :: l => by
    unfold backP
    rw [backP_find p o l, List.find?_cons]
    unfold isP
    by_cases h : x.1 = (p : Int)
    · rw [if_pos h]; simp [h]
    · have h2 : (x.1 == (p : Int)) = false := beq_eq_false_iff_ne.2 h
      rw [if_neg h, h2]
theorem wrt_find (d : Dk) (p : Nat) : wrt d p = match d.2.reverse.find? (isP p) with | some x => x.2 | none => (d.1[p]?).getD [] := by
  unfold wrt; rw [← back_wrt, backP_find]
theorem find_at {l : List Wt} {p k : Nat} {x : Wt} (h : (l.take k).find? (isP p) = none) (hx : l[k]? = some x) (hp : isP p x = true) : l.find? (isP p) = some x := by
  obtain ⟨hk, he⟩ := List.getElem?_eq_some_iff.1 hx
  have hsp : l = l.take k ++ (x :: l.drop (k + 1)) := by
    have := List.take_append_drop k l
    rw [List.drop_eq_getElem_cons hk, he] at this
    exact this.symm
  rw [hsp, List.find?_append, h]
  simp [hp]
/-- Between two rounds of written: no write so far is to the page. -/
def WrI (p : Nat) (l : List Wt) (W0 : World) (k : Nat) (W : World) : Prop := Below W0.heap.size W0 W ∧ (l.take k).find? (isP p) = none
def WrX (s : Bs) (w : World) (c : Code) (_ : Nat) (W : World) : Prop := c = .ret ∧ Below w.heap.size w W ∧ W.cell? ⟨w.heap.size + 2, 0, none⟩ = some (strV s)
theorem wrI_own (p : Nat) (l : List Wt) (W0 : World) (B : Nat) (h : W0.heap.size ≤ B) : OwnFrom B (WrI p l W0) := OwnFrom.and (ownFrom_below (Nat.le_refl _) h) (ownF_pure _)
/-- The loop variable lies in a box of its own, at or beyond n0. -/
def WBox (n0 : Nat) (l : List Wt) (mk : Nat → Nat → Wt → Act) (I : Nat → World → Prop) (k : Nat) (a₁ : Act) (W : World) : Prop :=
  ∃ (Bx : Nat) (x : Wt), (l[k]? = some x ∧ n0 ≤ Bx ∧ a₁ = mk Bx k x) ∧ W.cell? ⟨Bx, 0, none⟩ = some (.int .i64 x.1) ∧ W.cell? ⟨Bx, 1, none⟩ = some (strV x.2) ∧ I k W
theorem wbox_own {n0 B : Nat} {l : List Wt} {mk : Nat → Nat → Wt → Act} {I : Nat → World → Prop} (hI : OwnFrom B I) (a₁ : Act) : OwnFrom B (fun k W => WBox n0 l mk I k a₁ W) :=
  ownF_ex fun Bx => ownF_ex fun x => OwnFrom.and (ownF_pure _) (OwnFrom.and (ownF_cell _ _) (OwnFrom.and (ownF_cell _ _) hI))
def wrAct (vp : Value) (o : Option Addr) (N cap p S : Nat) (Bx k : Nat) (x : Wt) : Act :=
  { tmps := #[.agg #[vp, .slice o N cap], .int .i64 p, .pointer (some ⟨S, 0, none⟩), .pointer (some ⟨S + 1, 0, none⟩), .pointer (some ⟨S + 1 + 1, 0, none⟩), undef, .pointer (some ⟨Bx, 0, none⟩),
  .pointer (some ⟨S, 1, none⟩), .slice o N cap, .func (.func 126) #[] #[.pointer (some ⟨S + 1 + 1 + 1, 0, none⟩)], .int .i64 ((N - 1 - k : Nat) : Int), .agg #[.int .i64 x.1, strV x.2],
  undef, undef, undef, undef, undef, undef, undef, undef, undef, undef, undef], defers := [] }
set_option maxHeartbeats 1000000 in
set_option maxRecDepth 100000 in
theorem written_any (d : Dk) (vp vq : Value) (p : Nat) (w : World) (hp : RdS w vp d.1) (hq : RdW w vq d.2) (hpl : p < d.1.length) (hl1 : d.1.length ≤ 4096) (hl2 : d.2.length ≤ 1000000000) : Calls Tryz.prog 80 #[.agg #[vp, vq], .int .i64 p] w (Ret (strV (wrt d p)) w) := by
  obtain ⟨o, cap, rfl, hcap, hc⟩ := hq
  obtain ⟨N, hN⟩ : ∃ N, d.2.length = N := ⟨_, rfl⟩
  refine (callsIn_wide (n := 0)).1 (callsIn_of_wp_marks Tryz.func80 rfl trivial ?_ rfl)
  simp only [Tryz.ntmps80, List.size_toArray, List.length_cons, List.length_nil, Nat.reduceAdd, Nat.reduceSub, Array.replicate_succ, Array.replicate_zero, List.push_toArray, List.append_toArray, List.nil_append, List.cons_append]
  gi_wp2_with fail
  refine ⟨trivial, rfl, ?_⟩
  refine (callsIn_wide.2 (back_any _ _ _ _ rfl _)).mono ?_
  rintro e w' ⟨rfl, rfl⟩
  gi_wp2_with fail
  obtain ⟨W0, hW0⟩ : ∃ W0, W0 = ((((w.alloc (.cells #[vp, .slice o N cap] 25)).alloc (.cells #[.int .i64 p] 3)).alloc (.cells #[.string ⟨#[]⟩] 9)).alloc (.cells #[.slice o N cap] 23)) := ⟨_, rfl⟩
  rw [← hW0]
  have hz0 : W0.heap.size = w.heap.size + 4 := by rw [hW0]; simp
  have hb0 : Below w.heap.size w W0 := by rw [hW0]; exact ((((Below.refl w.heap.size w).alloc (Nat.le_refl _) _).alloc (by simp) _).alloc (by simp; omega) _).alloc (by simp; omega) _
  have c0 : W0.cell? ⟨w.heap.size, 0, none⟩ = some vp := by rw [hW0]; go_simp
  have c1 : W0.cell? ⟨w.heap.size + 1, 0, none⟩ = some (.int .i64 p) := by rw [hW0]; go_simp
  have c2 : W0.cell? ⟨w.heap.size + 2, 0, none⟩ = some (strV []) := by rw [hW0]; go_simp
  have f2 : W0.frozen? ⟨w.heap.size + 2, 0, none⟩ = false := by rw [hW0]; go_simp
  have c3 : W0.cell? ⟨w.heap.size + 3, 0, none⟩ = some (.slice o N cap) := by rw [hW0]; go_simp
  have hq0 : RdW W0 (.slice o N cap) d.2 := by
    have : RdW w (.slice o N cap) d.2 := ⟨o, cap, by rw [hN], hcap, hc⟩
    exact this.below hb0
  have hp0 : RdS W0 vp d.1 := hp.below hb0
  clear hW0 hc hp
  have HW0 := hid hb0
  have HF := hid (wrt_find d p)
  obtain ⟨R, hR⟩ : ∃ R, wrt d p = R := ⟨_, rfl⟩
  rw [hR] at HF
  have HRR := hid hR
  clear hR
  refine wp_range (us := bks d.2) (R := ReadsW (w.heap.size + 3) (.slice o N cap) d.2) rfl (enters_of Tryz.func126 (by kernel_rfl) rfl) (back_seq (w.heap.size + 3) (.slice o N cap) d.2 hl2) ?hps
    (WrI p d.2.reverse W0) (WrX R w) (WBox W0.heap.size d.2.reverse (wrAct vp o N cap p w.heap.size) (WrI p d.2.reverse W0))
    ?hI ?hIx ?hAx ?hR ?h0 ?hassign ?hbody ?hdone ?hstop
  case hps =>
    intro k x hx
    obtain ⟨u, _, rfl⟩ := bks_some hx
    rfl
  case hI => exact wrI_own _ _ _ _ (by omega)
  case hIx => exact fun c => OwnFrom.and (ownF_pure _) (OwnFrom.and (ownFrom_below (Nat.le_refl _) (by omega)) (ownF_cell _ _))
  case hAx => exact wbox_own (wrI_own _ _ _ _ (by omega))
  case hR => exact fun k W hi => ⟨hq0.below hi.1, keepc hi.1 c3⟩
  case h0 => exact ⟨Below.refl _ _, rfl⟩
  case hassign =>
    intro lp k x W hx hi hsz
    obtain ⟨u, hu1, rfl⟩ := bks_some hx
    rw [hN]
    simp only [bk]
    go_simp
    gi_wp2_with fail
    exact ⟨(Rnd.refl _ _).alloc _, W.heap.size, u, ⟨hu1, by omega, rfl⟩, cell_new _ _ _ _ _ rfl, cell_new _ _ _ _ _ rfl, hi.1.alloc (by omega) _, hi.2⟩
  case hbody =>
    rintro lp k x a₁ W hx ⟨Bx, u, ⟨hu1, hBx, rfl⟩, q0, q1, hbw, hno⟩ hsz
    have HNO := hid hno
    have HBW := hid hbw
    have d1 := keepc hbw c1
    have d2 := keepc hbw c2
    have e2 := keepf hbw c2 f2
    have hlt3 : w.heap.size + 2 < W.heap.size := World.block_lt_of_cell? _ _ d2
    clear hx hbw hno hb0 c0 c1 c2 c3 f2 hq0 hp0
    obtain ⟨a, s⟩ := u
    simp only at q0 q1
    by_cases ha : a = (p : Int)
    · have g1 : (a == (p : Int)) = true := by rw [beq_iff_eq]; exact ha
      have hh : R = s := by rw [HF.out, find_at HNO.out hu1 g1]
      subst hh
      clear hu1
      unfold wrAct
      gi_wp2_with fail
      exact ⟨(Rnd.refl _ _).setCell (p := ⟨w.heap.size + 1 + 1, 0, none⟩) (.inl (by show w.heap.size + 1 + 1 < W0.heap.size; omega)) _, rfl, ((HW0.out.trans (HBW.out.mono (by omega))).setCell (p := ⟨w.heap.size + 1 + 1, 0, none⟩) (by show w.heap.size ≤ w.heap.size + 1 + 1; omega) _), by go_simp⟩
    · have g1 : (a == (p : Int)) = false := by rw [beq_eq_false_iff_ne]; exact ha
      have hnx : (d.2.reverse.take (k + 1)).find? (isP p) = none := by
        rw [List.take_add_one, hu1, List.find?_append, HNO.out]
        simp [isP, ha]
      have HNX := hid hnx
      clear hu1 hnx ha
      unfold wrAct
      gi_wp2_with fail
      exact ⟨Rnd.refl _ _, HBW.out, HNX.out⟩
  case hdone =>
    rintro D W hD ⟨hbw, hno⟩ hK
    have hh : R = (d.1[p]?).getD [] := by
      rw [HF.out]; rw [bks_len] at hno; rw [List.take_of_length_le (by simp)] at hno; rw [hno]
    obtain ⟨op, capp, e1, hcp, hpp⟩ := hp0.below hbw
    subst e1
    obtain ⟨s, hs⟩ : ∃ s, d.1[p]? = some s := ⟨_, List.getElem?_eq_getElem hpl⟩
    rcases hpp with hpp | ⟨bp, offp, rfl, hbp, hpp⟩
    · rw [hpp] at hs; simp at hs
    have x0 := hpp p s hs
    rw [hs] at hh
    simp only [Option.getD_some] at hh
    subst hh
    have HBW := hid hbw
    have d0 := keepc hbw c0
    have d1 := keepc hbw c1
    have d2 := keepc hbw c2
    have e2 := keepf hbw c2 f2
    have HK := hid hK
    have hlt3 : w.heap.size + 2 < W.heap.size := World.block_lt_of_cell? _ _ d2
    have hpl' : (p : Int) < (d.1.length : Int) := by omega
    clear hbw hb0 c0 c1 c2 c3 f2 hq0 hp0 hK hno hpp HF hs
    gi_wp2_with fail
    have HK2 : (W.setCell ⟨w.heap.size + 1 + 1, 0, none⟩ (strV R)).heap[D]? = some (.deferred (some [])) := by
      rw [Below.heap_setCell _ _ _ _ (by show D ≠ w.heap.size + 1 + 1; omega)]; exact HK.out
    refine ⟨by simp, .inl ⟨_, _, rfl, run_takeDeferred HK2, strV R, ?_, by rw [HRR.out], below_put ((HW0.out.trans (HBW.out.mono (by omega))).setCell (p := ⟨w.heap.size + 1 + 1, 0, none⟩) (by show w.heap.size ≤ w.heap.size + 1 + 1; omega) _) (by omega) _⟩⟩
    have p1 := cell_put (o' := .deferred none) HK2 rfl (show (W.setCell ⟨w.heap.size + 1 + 1, 0, none⟩ (strV R)).cell? ⟨w.heap.size + 2, 0, none⟩ = some (strV R) by go_simp)
    simp [results, Tryz.results80, go_sem, p1]
  case hstop =>
    rintro D c k W hD ⟨rfl, hbw, d1⟩ hK
    have HBW := hid hbw; clear hbw
    have hlt3 : w.heap.size + 2 < W.heap.size := World.block_lt_of_cell? _ _ d1
    have HK := hid hK; clear hK
    clear hb0 c0 c1 c2 c3 f2 hq0 hp0
    gi_wp2_with fail
    refine ⟨by simp, .inl ⟨_, _, rfl, run_takeDeferred HK.out, strV R, ?_, by rw [HRR.out], below_put HBW.out (by omega) _⟩⟩
    have p1 := cell_put (o' := .deferred none) HK.out rfl d1
    simp [results, Tryz.results80, go_sem, p1]
end Go.Proofs.YtifcgimpgbeocaaGreat
