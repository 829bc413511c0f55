/- A range over an iterator whose values are known, where a round may write into rows of pieces that it owns. -/
import Derived.Test.YtcfmimfkaabmkaaRange
set_option linter.unusedVariables false
set_option linter.unusedSimpArgs false
namespace Go.Proofs.Ytcfmimfkaabmkaa
open Go.RowKit
variable {P : Program}

/-- Block k is a row of pieces. -/
def Row37 (W : World) (k : Nat) : Prop := ∃ c f, W.heap[k]? = some (.cells c 37 f)
/-- What lay at or beyond block n0 lies as it lay, but for rows of pieces. -/
structure RndP (n0 : Nat) (A B : World) : Prop where
  size : A.heap.size ≤ B.heap.size
  same : ∀ k, n0 ≤ k → k < A.heap.size → ¬ Row37 A k → B.heap[k]? = A.heap[k]?
theorem RndP.refl (n0 : Nat) (A : World) : RndP n0 A A := ⟨Nat.le_refl _, fun _ _ _ _ => rfl⟩
theorem RndP.trans {n0 : Nat} {A B C : World} (h : RndP n0 A B) (k : RndP n0 B C) : RndP n0 A C :=
  ⟨Nat.le_trans h.size k.size, fun i hi hlt hr => (k.same i hi (Nat.lt_of_lt_of_le hlt h.size) (fun ⟨c, f, e⟩ => hr ⟨c, f, (h.same i hi hlt hr).symm.trans e⟩)).trans (h.same i hi hlt hr)⟩
theorem RndP.alloc {n0 : Nat} {A B : World} (h : RndP n0 A B) (o : Obj) : RndP n0 A (B.alloc o) :=
  h.trans ⟨by simp, fun k _ hk _ => Below.heap_alloc _ _ _ hk⟩
theorem RndP.drewN {n0 : Nat} {A B : World} (h : RndP n0 A B) (n : Nat) : RndP n0 A (B.drewN n) := h.trans ⟨Nat.le_refl _, fun _ _ _ _ => rfl⟩
theorem RndP.drew {n0 : Nat} {A B : World} (h : RndP n0 A B) : RndP n0 A B.drew := h.trans ⟨Nat.le_refl _, fun _ _ _ _ => rfl⟩
theorem RndP.setCell {n0 : Nat} {A B : World} (h : RndP n0 A B) {p : Addr} (hp : p.block < n0 ∨ A.heap.size ≤ p.block) (v : Value) : RndP n0 A (B.setCell p v) :=
  ⟨Nat.le_trans h.size (by simp [World.setCell]), fun k hk hlt hr => (Below.heap_setCell _ _ _ _ (by omega)).trans (h.same k hk hlt hr)⟩
theorem RndP.grown {n0 : Nat} {A B C : World} {row : Option Nat} (h : RndP n0 A B) (hg : B.grownBy C row) (hr : ∀ b, row = some b → b < n0 ∨ A.heap.size ≤ b ∨ Row37 A b) : RndP n0 A C :=
  ⟨Nat.le_trans h.size hg.size, fun k hk hlt hn => (hg.block k (Nat.lt_of_lt_of_le hlt h.size) (fun e => by
    rcases hr k e.symm with h1 | h1 | h1
    · omega
    · omega
    · exact hn h1)).trans (h.same k hk hlt hn)⟩
theorem RndP.below {n0 : Nat} {A B C : World} (h : RndP n0 A B) (hb : Below B.heap.size B C) : RndP n0 A C := h.grown (below_grow hb none) (fun _ e => by cases e)
/-- What lay in cells at or beyond block n0 lies as it lay, but for rows of pieces: a round's word to the iterator. -/
def RndCP (n0 : Nat) (A B : World) : Prop := ∀ (k : Nat) (c : Array Value) (t : TypeId) (f : Nat × Nat), n0 ≤ k → t ≠ 37 → A.heap[k]? = some (.cells c t f) → B.heap[k]? = some (.cells c t f)
theorem RndP.cells {n0 : Nat} {A B : World} (h : RndP n0 A B) : RndCP n0 A B := fun k c t f hk ht hc => (h.same k hk (Array.getElem?_eq_some_iff.1 hc).1 (fun ⟨c', f', e⟩ => by rw [hc] at e; cases e; exact ht rfl)).trans hc
theorem RndCP.trans {n0 : Nat} {A B C : World} (h : RndCP n0 A B) (k : RndCP n0 B C) : RndCP n0 A C := fun i c t f hi ht hc => k i c t f hi ht (h i c t f hi ht hc)
theorem rndC_putP (n0 : Nat) (A : World) {l : Nat} {o : Obj} (hl : A.heap[l]? = some o) (ho : o.isCells = false) (o' : Obj) : RndCP n0 A (A.putObj l o') := fun k c t f _ _ hc => by
  by_cases e : k = l
  · subst e; rw [hl] at hc; cases hc; cases ho
  · exact (World.putObj_heap_other e).trans hc

/-- The contract of an iterator that gives the values us, while R holds between two rounds. -/
def SeqLP (P : Program) (gf : Nat) (lb : Array Value) (us : List (Array Value)) (R : World → Prop) : Prop :=
  ∀ (n0 l : Nat) (J Jx : Nat → World → Prop) (W : World), n0 ≤ W.heap.size →
    (∀ k A B, J k A → A.grownBy B none → J k B) → (∀ k A B, Jx k A → A.grownBy B none → Jx k B) → (∀ k A, J k A → R A) →
    (∀ (k : Nat) (x : Array Value) (A : World), us[k]? = some x → J k A → YieldAt Fence.wide 0 P l x A fun e B => (e = .returned (.bool true) ∧ J (k + 1) B ∧ RndCP n0 A B) ∨ (e = .returned (.bool false) ∧ Jx (k + 1) B)) →
    J 0 W →
    CallsIn Fence.wide 0 P gf (#[.func (.yield l) #[] #[]] ++ lb) W fun e B => (∃ v, e = .returned v) ∧ (J us.length B ∨ ∃ k, k ≤ us.length ∧ Jx k B)

/-- How the body of the round number k may be left. -/
def roundEndP (n0 : Nat) (I : Nat → World → Prop) (Ix : Code → Nat → World → Prop) (k : Nat) (W : World) : Exit → Act → World → Prop
  | .normal, _, B => RndP n0 W B ∧ I (k + 1) B
  | .ret, _, B => RndP n0 W B ∧ Ix .ret (k + 1) B
  | .exit id, _, B => RndP n0 W B ∧ Ix (.exit id) (k + 1) B
  | .goto t, _, B => RndP n0 W B ∧ Ix (.goto t) (k + 1) B
  | .panic _, _, _ => False
  | .outgrown, _, _ => False
def assignEndP (n0 : Nat) (Ax : Nat → Act → World → Prop) (k : Nat) (W : World) : Exit → Act → World → Prop
  | .normal, a, B => RndP n0 W B ∧ Ax k a B
  | _, _, _ => False

theorem wp_rangeP {us : List (Array Value)} {R : World → Prop} {g : Operand} {ps : Array Tmp} {assign body : Code} {Q : Exit → Act → World → Prop} {a : Act} {w : World} {gf : Nat} {lb : Array Value}
    (hg : a.eval g = .func (.func gf) #[] lb) (eg : ∀ args w, (callFunc gf args).run P w = .ok (.enter gf args) w) (hseq : SeqLP P gf lb us R) (hps : ∀ (k : Nat) (x : Array Value), us[k]? = some x → x.size = ps.size)
    (I : Nat → World → Prop) (Ix : Code → Nat → World → Prop) (Ax : Nat → Act → World → Prop) (hI : OwnFrom w.heap.size I) (hIx : ∀ c, OwnFrom w.heap.size (Ix c)) (hAx : ∀ a₁, OwnFrom w.heap.size (fun k W => Ax k a₁ W))
    (hR : ∀ k W, I k W → R W) (h0 : I 0 w)
    (hassign : ∀ (l k : Nat) (x : Array Value) (W : World), us[k]? = some x → I k W → w.heap.size + 2 ≤ W.heap.size →
      assign.wpIn (Fence.wide.inRound l) 0 P (assignEndP w.heap.size Ax k W) { tmps := (ps.zip x).foldl (fun t (p, v) => t.setIfInBounds p v) a.tmps, defers := [] } W)
    (hbody : ∀ (l k : Nat) (x : Array Value) (a₁ : Act) (W : World), us[k]? = some x → Ax k a₁ W → w.heap.size + 2 ≤ W.heap.size → body.wpIn (Fence.wide.inRound l) 0 P (roundEndP w.heap.size I Ix k W) a₁ W)
    (hdone : ∀ (D : Nat) (W : World), w.heap.size ≤ D → I us.length W → W.heap[D]? = some (.deferred (some [])) → Q .normal { a with defers := { target := .collected D, args := #[] } :: a.defers } W)
    (hstop : ∀ (D : Nat) (c : Code) (k : Nat) (W : World), w.heap.size ≤ D → Ix c k W → W.heap[D]? = some (.deferred (some [])) → c.wpIn Fence.wide 0 P Q { a with defers := { target := .collected D, args := #[] } :: a.defers } W) :
    (Code.rangeFunc g ps assign body).wpIn Fence.wide 0 P Q a w := by
  refine wpIn_rangeFunc fun fn hfn => ?_
  let rec_ : LoopState → Option Code → Loop := fun st pe => { state := st, pending := pe, fn, tmps := a.tmps, params := ps, assign, body, defers := w.heap.size }
  obtain ⟨W1, hW1⟩ : ∃ W1, (w.alloc (.deferred (some []))).alloc (.loop (rec_ .ready none)) = W1 := ⟨_, rfl⟩
  have hz1 : W1.heap.size = w.heap.size + 2 := by rw [← hW1]; simp
  have hL1 : W1.heap[w.heap.size + 1]? = some (.loop (rec_ .ready none)) := by
    rw [← hW1]; have := World.alloc_heap_new (w.alloc (.deferred (some []))) (.loop (rec_ .ready none)); rwa [World.size_alloc] at this
  have hK1 : W1.heap[w.heap.size]? = some (.deferred (some [])) := by
    rw [← hW1]; exact (Below.heap_alloc _ _ _ (by simp)).trans (World.alloc_heap_new w _)
  have hI1 : I 0 W1 := by rw [← hW1]; exact hI.alloc _ (hI.alloc _ h0)
  -- the two facts of book-keeping, and that the heap has not shrunk, beside the caller's own
  let Bk : LoopState → Option Code → World → Prop := fun st pe W => W.heap[w.heap.size + 1]? = some (.loop (rec_ st pe)) ∧ W.heap[w.heap.size]? = some (.deferred (some []))
  have bkGrow : ∀ st pe A B, Bk st pe A → A.grownBy B none → Bk st pe B := fun st pe A B h hg' =>
    ⟨(hg'.block _ (Array.getElem?_eq_some_iff.1 h.1).1 (by simp)).trans h.1, (hg'.block _ (Array.getElem?_eq_some_iff.1 h.2).1 (by simp)).trans h.2⟩
  have bkOthers : ∀ st pe A B, Bk st pe A → RndP w.heap.size A B → Bk st pe B := fun st pe A B h hk =>
    ⟨(hk.same _ (by omega) (Array.getElem?_eq_some_iff.1 h.1).1 (fun ⟨c, f, e⟩ => by rw [h.1] at e; cases e)).trans h.1, (hk.same _ (Nat.le_refl _) (Array.getElem?_eq_some_iff.1 h.2).1 (fun ⟨c, f, e⟩ => by rw [h.2] at e; cases e)).trans h.2⟩
  have bkPut : ∀ st pe st' pe' A, Bk st pe A → Bk st' pe' (A.putObj (w.heap.size + 1) (.loop (rec_ st' pe'))) := fun st pe st' pe' A h =>
    ⟨World.putObj_heap_same (Array.getElem?_eq_some_iff.1 h.1).1, (World.putObj_heap_other (by omega)).trans h.2⟩
  have bkSize : ∀ st pe A, Bk st pe A → w.heap.size + 2 ≤ A.heap.size := fun st pe A h => by have := (Array.getElem?_eq_some_iff.1 h.1).1; omega
  refine ⟨w.heap.size + 1, [{ target := .collected w.heap.size, args := #[] }], W1, { target := .fn (.func gf) lb, args := #[.func (.yield (w.heap.size + 1)) #[] #[]] }, W1, gf,
    #[.func (.yield (w.heap.size + 1)) #[] #[]] ++ lb, W1, ?_, ?_, fun _ _ => trivial, ?_, fun h => by simp [Fence.wide] at h, ?_⟩
  · rw [← hW1]; exact run_enterLoop_outer _ _ _ _ _
  · simp only [resolve, hg]
    simp [go_sem]
  · simp [invoke, go_sem, eg]
  · refine CallsIn.mono (hseq w.heap.size (w.heap.size + 1) (fun k W => I k W ∧ Bk .ready none W) (fun k W => ∃ c, Ix c k W ∧ Bk .done (some c) W) W1 (by omega)
      (fun k A B h hg' => ⟨hI k A B none h.1 hg' (fun r e => by cases e), bkGrow _ _ _ _ h.2 hg'⟩)
      (fun k A B ⟨c, h, hb⟩ hg' => ⟨c, hIx c k A B none h hg' (fun r e => by cases e), bkGrow _ _ _ _ hb hg'⟩)
      (fun k A h => hR k A h.1) ?_ ⟨hI1, hL1, hK1⟩) ?_
    · -- one round
      rintro k x A hx ⟨hi, hb⟩
      have hy := run_yield (P := P) (args := x) hb.1 (hps k x hx)
      refine ⟨fn, _, assign, body, hy, roundIn_of_wpIn hfn (wpIn_mono (hassign _ k x A hx hi (bkSize _ _ _ hb)) ?_)⟩
      intro e a₁ A1 hpost
      cases e with
      | normal =>
        obtain ⟨hk1, hax⟩ := hpost
        have hb1 := bkOthers _ _ _ _ hb hk1
        refine ⟨_, run_beginRound hb1.1 rfl, ?_⟩
        have hb2 : Bk .busy none (A1.putObj (w.heap.size + 1) (.loop (rec_ .busy none))) := bkPut _ _ _ _ _ hb1
        have hax2 : Ax k a₁ (A1.putObj (w.heap.size + 1) (.loop (rec_ .busy none))) := (hAx a₁).putObj (s := k) _ hax (by omega) hb1.1 rfl
        refine wpIn_mono (hbody _ k x a₁ _ hx hax2 (bkSize _ _ _ hb2)) ?_
        have fin : ∀ (jump : Option Code) (A3 : World), RndP w.heap.size (A1.putObj (w.heap.size + 1) (.loop (rec_ .busy none))) A3 →
            (Instr.endRound (w.heap.size + 1) jump).run P A3 = .ok (.bool jump.isNone) (A3.putObj (w.heap.size + 1) (.loop (rec_ (if jump.isNone then .ready else .done) jump))) ∧
            A3.heap[w.heap.size + 1]? = some (.loop (rec_ .busy none)) ∧ Bk (if jump.isNone then .ready else .done) jump (A3.putObj (w.heap.size + 1) (.loop (rec_ (if jump.isNone then .ready else .done) jump))) := fun jump A3 hk3 => by
          have hb3 := bkOthers _ _ _ _ hb2 hk3
          exact ⟨run_endRound (P := P) jump hb3.1, hb3.1, bkPut _ _ _ _ _ hb3⟩
        intro e2 a3 A3 hp
        cases e2 with
        | normal =>
          obtain ⟨hr, hl3, hb4⟩ := fin none A3 hp.1
          exact ⟨_, _, hr, .inl ⟨rfl, ⟨hI.putObj _ hp.2 (by omega) hl3 rfl, hb4⟩, ((hk1.cells.trans (rndC_putP _ _ hb1.1 rfl _)).trans hp.1.cells).trans (rndC_putP _ _ hl3 rfl _)⟩⟩
        | ret =>
          obtain ⟨hr, hl3, hb4⟩ := fin (some .ret) A3 hp.1
          exact ⟨_, _, hr, .inr ⟨rfl, .ret, (hIx _).putObj _ hp.2 (by omega) hl3 rfl, hb4⟩⟩
        | exit id =>
          obtain ⟨hr, hl3, hb4⟩ := fin (some (.exit id)) A3 hp.1
          exact ⟨_, _, hr, .inr ⟨rfl, .exit id, (hIx _).putObj _ hp.2 (by omega) hl3 rfl, hb4⟩⟩
        | goto t =>
          obtain ⟨hr, hl3, hb4⟩ := fin (some (.goto t)) A3 hp.1
          exact ⟨_, _, hr, .inr ⟨rfl, .goto t, (hIx _).putObj _ hp.2 (by omega) hl3 rfl, hb4⟩⟩
        | panic ch => exact hp.elim
        | outgrown => exact hp.elim
      | ret => exact hpost.elim
      | exit id => exact hpost.elim
      | goto t => exact hpost.elim
      | panic ch => exact hpost.elim
      | outgrown => exact hpost.elim
    · -- behind the iterator
      rintro e W2 ⟨⟨v, rfl⟩, (⟨hi, hb⟩ | ⟨k, _, c, hi, hb⟩)⟩
      · exact ⟨none, _, run_endLoop (P := P) hb.1 (by simp [rec_]), hdone _ _ (Nat.le_refl _) (hI.putObj _ hi (by omega) hb.1 rfl) ((World.putObj_heap_other (by omega)).trans hb.2)⟩
      · exact ⟨some c, _, run_endLoop (P := P) hb.1 (by simp [rec_]), hstop _ c k _ (Nat.le_refl _) ((hIx c).putObj _ hi (by omega) hb.1 rfl) ((World.putObj_heap_other (by omega)).trans hb.2)⟩

theorem ubox_newP {n0 : Nat} {us : List (Int × Int × Int)} {mk : Nat → Int × Int × Int → Act} {I : Nat → World → Prop} {k : Nat} {W : World} {u : Int × Int × Int} {a : Act} (hu : us[k]? = some u) (hn : n0 ≤ W.heap.size) (ha : a = mk W.heap.size u)
    (hI : I k (W.alloc (.cells #[.int .i64 u.1, .int .i64 u.2.1, .int .i64 u.2.2] 88))) :
    assignEndP n0 (UBox n0 us mk I) k W .normal a (W.alloc (.cells #[.int .i64 u.1, .int .i64 u.2.1, .int .i64 u.2.2] 88)) :=
  ⟨(RndP.refl _ _).alloc _, W.heap.size, u, ⟨hu, hn, ha⟩, cell_new _ _ _ _ _ rfl, cell_new _ _ _ _ _ rfl, cell_new _ _ _ _ _ rfl, hI⟩
end Go.Proofs.Ytcfmimfkaabmkaa
