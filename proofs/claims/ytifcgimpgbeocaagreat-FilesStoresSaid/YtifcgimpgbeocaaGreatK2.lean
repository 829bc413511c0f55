/- Plain: a commit, act by act; a store's steps keep it alive. -/
import Derived.Test.YtifcgimpgbeocaaGreatK1
import Derived.Test.YtifcgimpgbeocaaGreatProg
import Derived.WalkKit
import Derived.WalkSpells
import Derived.WalkLawsBesides
import Derived.Deep.QuietTactic
import Derived.BigQuiet
import Derived.Deep.RegionHeld3
import Derived.Deep.DrawnRows
import Derived.OrdersIn
import Derived.TacticsIn
import Derived.RangeFuncCalls
import Derived.Laws.CopyRow
import Derived.Laws.MakeOwn
import Derived.Laws.OwnMore
import Derived.Laws.BytesArg
import Derived.RangeFuncFrom
import Derived.RangeFuncLeaves
import Derived.Outline
import Derived.Deep.CutBlock
import Derived.Deep.DeepCutAuto
import Derived.Deep.RegionWith
import Derived.StillTailTactics
set_option linter.unusedVariables false
set_option linter.unusedSimpArgs false
namespace Go.Proofs.YtifcgimpgbeocaaGreat
open Go.RowKit
section
variable {st : St}
theorem tear64 {pages : List Bs} {n : Nat} {s : Bs} (hs : s.length = 64) (hp : ∀ x ∈ pages, x.length = 64) : tear pages ((n : Int), s) 64 = pages.set n s := by
  unfold tear
  simp only [Int.toNat_natCast]
  by_cases hn : n < pages.length
  · have := hp _ (List.getElem_mem hn)
    rw [List.getElem?_eq_getElem hn, Option.getD_some, List.take_of_length_le (by omega), List.drop_of_length_le (by omega), List.append_nil]
  · rw [List.set_eq_of_length_le (by omega), List.set_eq_of_length_le (by omega)]
theorem nActs_len (st : St) : (nActs st).length = (nW st).length + 3 := by unfold nActs; simp
theorem acts_all (d : Dk) (h : d.2 = []) (he : d.1 = st.dk.1) : (nActs st).foldl actDk d = (tear (mid st).1 ((((st.hd.1 + 1) % 2 : Nat) : Int), headPg (nHd st)) 64, []) := by
  unfold nActs
  rw [List.foldl_append, foldl_writes]
  show actDk (actDk (actDk (d.1, d.2 ++ nW st) syncA) (headA st)) syncA = _
  rw [h, he]
  rfl
theorem mid_page (h : Live st) (hr : (nBytes st).length ≤ room st) : ∀ x ∈ (mid st).1, x.length = 64 := fun x hx => by
  obtain ⟨i, hi⟩ := List.getElem?_of_mem hx
  exact isDk_page (phase_mid h hr).dk hi
theorem commit_dk (h : Live st) (hr : (nBytes st).length ≤ room st) : (nActs st).foldl actDk st.dk = ((mid st).1.set ((st.hd.1 + 1) % 2) (headPg (nHd st)), []) := by
  rw [acts_all st.dk h.as_.nw rfl, tear64 (headPg_len _) (mid_page h hr)]
theorem commit_live (h : Live st) (hr : (nBytes st).length ≤ room st) (ht : st.hd.1 + 2 < 4294967296) : Live (commitSt st) := by
  refine ⟨?_, rfl, fun o ho => by cases ho⟩
  have := phase_new h hr ht
  rw [← commit_dk h hr] at this
  exact this
theorem undo_live (h : Live st) : Live (undoD st) := ⟨h.as_, rfl, fun o ho => by cases ho⟩
theorem set_self {data : List Ds} {i : Nat} (hi : i < data.length) : data.set i ((data[i]?).getD []) = data := by
  rw [List.getElem?_eq_getElem hi, Option.getD_some, List.set_getElem_self]
/-- An operation that does not change leaves the datasets as they are. -/
theorem doData_read {data : List Ds} {o : FOp} (ha : AllDs data) (he : (doData data o).2.2 = 0) (hc : chg o = false) : (doData data o).1 = data := by
  unfold doData at he ⊢
  split at he
  · rename_i h1
    rw [if_pos h1]
    split at he
    · rename_i h2
      rw [if_pos h2]
      obtain ⟨k1, k2⟩ := isOp_kinds h1.1
      have hk : o.1 = 1 ∨ o.1 = 2 := by
        unfold chg at hc
        rw [h1.1, Bool.and_true, decide_eq_false_iff_not] at hc
        omega
      have hd := allDs_get ha o.2.1.toNat
      have hi : o.2.1.toNat < data.length := by
        have := h1.2
        have hop := h1.1
        unfold isOp at hop
        simp only [Bool.and_eq_true, decide_eq_true_eq] at hop
        omega
      have e : (applyD ((data[o.2.1.toNat]?).getD []) o).1 = (data[o.2.1.toNat]?).getD [] := by
        unfold applyD at h2 ⊢
        rw [if_pos hd, if_pos h1.1] at h2 ⊢
        rcases hk with hk | hk
        · rw [if_pos hk] at h2 ⊢
          split at h2
          · rename_i h3; rw [if_pos h3]
          · rename_i h3; exact absurd h2 h3
        · rw [if_neg (by omega), if_pos hk] at h2 ⊢
          split at h2
          · rename_i h3; rw [if_pos h3]
          · rename_i h3; exact absurd h2 h3
      simp only
      rw [e, set_self hi]
    · rename_i h2
      simp only at he
      exact absurd he h2
  · simp at he
theorem do_live (h : Live st) (o : FOp) : Live (doSt st o).1 := by
  unfold doSt
  split
  · rename_i he
    refine ⟨h.as_, ?_, ?_⟩
    · show runAll st.kept (if chg o = true then st.ops ++ [o] else st.ops) = some (doData st.now o).1
      cases c : chg o with
      | true =>
        simp only [if_true]
        rw [runAll_append, h.run, Option.bind_some]
        simp only [runAll]
        rw [if_pos he]
      | false =>
        simp only [Bool.false_eq_true, if_false]
        rw [doData_read (now_all h) he c]
        exact h.run
    · intro p hp
      have hp' : p ∈ (if chg o = true then st.ops ++ [o] else st.ops) := hp
      cases c : chg o with
      | true =>
        rw [c, if_pos rfl] at hp'
        rcases List.mem_append.1 hp' with hp' | hp'
        · exact h.chg p hp'
        · rw [List.mem_singleton] at hp'
          rw [hp']; exact c
      | false =>
        rw [c, if_neg (by simp)] at hp'
        exact h.chg p hp'
  · exact h
end
end Go.Proofs.YtifcgimpgbeocaaGreat
/- Plain: what became of a script: at each act a crash leaves what is allowed. -/
set_option linter.unusedVariables false
set_option linter.unusedSimpArgs false
namespace Go.Proofs.YtifcgimpgbeocaaGreat
open Go.RowKit
abbrev Hist := List (Nat × List Ds)
end Go.Proofs.YtifcgimpgbeocaaGreat
/- Common ground of the walks over stores: small facts, what lies below, slices that read as lists. -/
set_option linter.unusedVariables false
set_option linter.unusedSimpArgs false
namespace Go.Proofs.YtifcgimpgbeocaaGreat
open Go.RowKit
theorem hid {p : Prop} (h : p) : Hid p := h
theorem ret_int {k : IntKind} {a b : Int} (h : a = b) : Ending.returned (.int k a) = .returned (.int k b) := by rw [h]
theorem ret_bool {a b : Bool} (h : a = b) : Ending.returned (.bool a) = .returned (.bool b) := by rw [h]
theorem addr_add (b off l : Nat) : (⟨b, off, none⟩ : Addr).add l = ⟨b, off + l, none⟩ := by
  unfold Addr.add; split
  · rename_i h; rw [h]; rfl
  · rfl
theorem below_drewN {B : Nat} {a w : World} (h : Below B a w) (n : Nat) : Below B a (w.drewN n) := h.trans ⟨rfl, rfl, rfl, Nat.le_refl _, fun _ _ => rfl⟩
theorem below_grow {w w' : World} (h : Below w.heap.size w w') (row : Option Nat) : w.grownBy w' row := ⟨h.os, h.tape, h.output, h.size, fun k hk _ => h.block k hk⟩
theorem grown_trans {a b c : World} {row : Option Nat} (h : a.grownBy b row) (k : b.grownBy c row) : a.grownBy c row :=
  ⟨k.os.trans h.os, k.tape.trans h.tape, k.output.trans h.output, Nat.le_trans h.size k.size, fun i hi hn => (k.block i (Nat.lt_of_lt_of_le hi h.size) hn).trans (h.block i hi hn)⟩
/-- One more call that only makes memory. -/
theorem below_step {W w w1 : World} (k : Below w.heap.size w w1) (h : Below W.heap.size W w) : Below W.heap.size W w1 := h.trans (k.mono h.size)
/-- A cell that was there is there. -/
theorem keepc {W w1 : World} {a : Addr} {v : Value} (h : Below W.heap.size W w1) (k : W.cell? a = some v) : w1.cell? a = some v := (h.cell (World.block_lt_of_cell? W a k)).trans k
theorem keepf {W w1 : World} {a : Addr} {v : Value} (h : Below W.heap.size W w1) (k : W.cell? a = some v) (f : W.frozen? a = false) : w1.frozen? a = false := (h.frozen (World.block_lt_of_cell? W a k)).trans f
theorem grown_refl (w : World) (row : Option Nat) : w.grownBy w row := ⟨rfl, rfl, rfl, Nat.le_refl _, fun _ _ _ => rfl⟩
theorem grown_set {a w : World} {b : Nat} (h : a.grownBy w (some b)) (i : Nat) (v : Value) : a.grownBy (w.setCell ⟨b, i, none⟩ v) (some b) :=
  grown_trans h ⟨rfl, rfl, rfl, by simp [World.setCell], fun k _ hn => Below.heap_setCell _ _ _ _ (fun e => hn (by rw [e]))⟩
/-- A cell that a region may store into. -/
def OwnC (w : World) (a : Addr) : Prop := (∃ v, w.cell? a = some v) ∧ w.frozen? a = false
theorem keepOwn {w w1 : World} {a : Addr} (hb : Below w.heap.size w w1) (h : OwnC w a) : OwnC w1 a := by
  obtain ⟨⟨v, hv⟩, hf⟩ := h
  exact ⟨⟨v, keepc hb hv⟩, keepf hb hv hf⟩
theorem OwnC.set {w : World} {a : Addr} (h : OwnC w a) (b : Addr) (v : Value) : OwnC (w.setCell b v) a := by
  obtain ⟨⟨u, hu⟩, hf⟩ := h
  exact ⟨cell?_setCell_some hu, by rw [World.frozen?_setCell]; exact hf⟩
theorem ownc_new (w : World) (c : Array Value) (t : TypeId) (k : Nat) (h : k < c.size) : OwnC (w.alloc (.cells c t)) ⟨w.heap.size, k, none⟩ := by
  have hn := heap_alloc_new w (.cells c t)
  refine ⟨⟨c[k], ?_⟩, ?_⟩
  · unfold World.cell?; rw [hn]; simp [h]
  · unfold World.frozen?; rw [hn]; simp
theorem cell_new (w : World) (c : Array Value) (t : TypeId) (k : Nat) (v : Value) (h : c[k]? = some v) : (w.alloc (.cells c t)).cell? ⟨w.heap.size, k, none⟩ = some v := by
  have hn := heap_alloc_new w (.cells c t)
  unfold World.cell?
  rw [hn]
  simpa using h
/-- A cell, and what lay below, behind the turn of the block for the rounds' deferred calls. -/
theorem cell_put {W : World} {D : Nat} {o o' : Obj} {a : Addr} {v : Value} (hD : W.heap[D]? = some o) (ho : o.isCells = false) (h : W.cell? a = some v) : (W.putObj D o').cell? a = some v :=
  cell_kept h (grownBy_putObj' W D o') (fun r e => by cases e; exact ⟨o, hD, ho⟩)
theorem below_put {B : Nat} {w W : World} {D : Nat} (h : Below B w W) (hD : B ≤ D) (o' : Obj) : Below B w (W.putObj D o') :=
  h.trans ⟨rfl, rfl, rfl, by simp, fun k hk => World.putObj_heap_other (by omega)⟩

/-- A call that returns v and turns nothing that was there. -/
def Ret (v : Value) (w : World) (e : Ending) (w' : World) : Prop := e = .returned v ∧ Below w.heap.size w w'
abbrev strV (s : Bs) : Value := .string ⟨s.toArray⟩
abbrev recV (r : Rec) : Value := .agg #[strV r.1, strV r.2]
abbrev opV (o : FOp) : Value := .agg #[.int .i64 o.1, .int .i64 o.2.1, strV o.2.2.1, strV o.2.2.2]
abbrev wtV (w : Wt) : Value := .agg #[.int .i64 w.1, strV w.2]
abbrev acV (a : Ac) : Value := .agg #[.bool a.1, .int .i64 a.2.1, strV a.2.2]
/-- v reads as records. -/
def RdR (w : World) (v : Value) (d : Ds) : Prop := ∃ o cap, v = .slice o d.length cap ∧ d.length ≤ cap ∧ (d = [] ∨ ∃ b off, o = some ⟨b, off, none⟩ ∧ b < w.heap.size ∧ ∀ i r, d[i]? = some r → w.cell? ⟨b, off + i * 2, none⟩ = some (strV r.1) ∧ w.cell? ⟨b, off + i * 2 + 1, none⟩ = some (strV r.2))
/-- v reads as operations. -/
def RdO (w : World) (v : Value) (l : List FOp) : Prop := ∃ o cap, v = .slice o l.length cap ∧ l.length ≤ cap ∧ (l = [] ∨ ∃ b off, o = some ⟨b, off, none⟩ ∧ b < w.heap.size ∧ ∀ i x, l[i]? = some x → w.cell? ⟨b, off + i * 4, none⟩ = some (.int .i64 x.1) ∧ w.cell? ⟨b, off + i * 4 + 1, none⟩ = some (.int .i64 x.2.1) ∧ w.cell? ⟨b, off + i * 4 + 2, none⟩ = some (strV x.2.2.1) ∧ w.cell? ⟨b, off + i * 4 + 3, none⟩ = some (strV x.2.2.2))
/-- v reads as strings. -/
def RdS (w : World) (v : Value) (l : List Bs) : Prop := ∃ o cap, v = .slice o l.length cap ∧ l.length ≤ cap ∧ (l = [] ∨ ∃ b off, o = some ⟨b, off, none⟩ ∧ b < w.heap.size ∧ ∀ i s, l[i]? = some s → w.cell? ⟨b, off + i, none⟩ = some (strV s))
/-- v reads as writes. -/
def RdW (w : World) (v : Value) (l : List Wt) : Prop := ∃ o cap, v = .slice o l.length cap ∧ l.length ≤ cap ∧ (l = [] ∨ ∃ b off, o = some ⟨b, off, none⟩ ∧ b < w.heap.size ∧ ∀ i x, l[i]? = some x → w.cell? ⟨b, off + i * 2, none⟩ = some (.int .i64 x.1) ∧ w.cell? ⟨b, off + i * 2 + 1, none⟩ = some (strV x.2))
/-- v reads as acts. -/
def RdA (w : World) (v : Value) (l : List Ac) : Prop := ∃ o cap, v = .slice o l.length cap ∧ l.length ≤ cap ∧ (l = [] ∨ ∃ b off, o = some ⟨b, off, none⟩ ∧ b < w.heap.size ∧ ∀ i x, l[i]? = some x → w.cell? ⟨b, off + i * 3, none⟩ = some (.bool x.1) ∧ w.cell? ⟨b, off + i * 3 + 1, none⟩ = some (.int .i64 x.2.1) ∧ w.cell? ⟨b, off + i * 3 + 2, none⟩ = some (strV x.2.2))
/-- v reads as numbers. -/
def RdI (w : World) (v : Value) (l : List Int) : Prop := ∃ o cap, v = .slice o l.length cap ∧ l.length ≤ cap ∧ (l = [] ∨ ∃ b off, o = some ⟨b, off, none⟩ ∧ b < w.heap.size ∧ ∀ i x, l[i]? = some x → w.cell? ⟨b, off + i, none⟩ = some (.int .i64 x))
/-- v reads as datasets. -/
def RdD (w : World) (v : Value) (l : List Ds) : Prop := ∃ o cap, v = .slice o l.length cap ∧ l.length ≤ cap ∧ (l = [] ∨ ∃ b off, o = some ⟨b, off, none⟩ ∧ b < w.heap.size ∧ ∀ i d, l[i]? = some d → ∃ u, w.cell? ⟨b, off + i, none⟩ = some u ∧ RdR w u d)
theorem RdR.below {w w' : World} {v : Value} {d : Ds} (h : RdR w v d) (hb : Below w.heap.size w w') : RdR w' v d := by
  obtain ⟨o, cap, e, hc, h⟩ := h
  refine ⟨o, cap, e, hc, ?_⟩
  rcases h with h | ⟨b, off, e1, e2, h⟩
  · exact .inl h
  · exact .inr ⟨b, off, e1, Nat.lt_of_lt_of_le e2 hb.size, fun i r hi => ⟨keepc hb (h i r hi).1, keepc hb (h i r hi).2⟩⟩
theorem RdO.below {w w' : World} {v : Value} {d : List FOp} (h : RdO w v d) (hb : Below w.heap.size w w') : RdO w' v d := by
  obtain ⟨o, cap, e, hc, h⟩ := h
  refine ⟨o, cap, e, hc, ?_⟩
  rcases h with h | ⟨b, off, e1, e2, h⟩
  · exact .inl h
  · exact .inr ⟨b, off, e1, Nat.lt_of_lt_of_le e2 hb.size, fun i r hi => ⟨keepc hb (h i r hi).1, keepc hb (h i r hi).2.1, keepc hb (h i r hi).2.2.1, keepc hb (h i r hi).2.2.2⟩⟩
theorem RdS.below {w w' : World} {v : Value} {d : List Bs} (h : RdS w v d) (hb : Below w.heap.size w w') : RdS w' v d := by
  obtain ⟨o, cap, e, hc, h⟩ := h
  refine ⟨o, cap, e, hc, ?_⟩
  rcases h with h | ⟨b, off, e1, e2, h⟩
  · exact .inl h
  · exact .inr ⟨b, off, e1, Nat.lt_of_lt_of_le e2 hb.size, fun i r hi => keepc hb (h i r hi)⟩
theorem RdI.below {w w' : World} {v : Value} {d : List Int} (h : RdI w v d) (hb : Below w.heap.size w w') : RdI w' v d := by
  obtain ⟨o, cap, e, hc, h⟩ := h
  refine ⟨o, cap, e, hc, ?_⟩
  rcases h with h | ⟨b, off, e1, e2, h⟩
  · exact .inl h
  · exact .inr ⟨b, off, e1, Nat.lt_of_lt_of_le e2 hb.size, fun i r hi => keepc hb (h i r hi)⟩
theorem RdW.below {w w' : World} {v : Value} {d : List Wt} (h : RdW w v d) (hb : Below w.heap.size w w') : RdW w' v d := by
  obtain ⟨o, cap, e, hc, h⟩ := h
  refine ⟨o, cap, e, hc, ?_⟩
  rcases h with h | ⟨b, off, e1, e2, h⟩
  · exact .inl h
  · exact .inr ⟨b, off, e1, Nat.lt_of_lt_of_le e2 hb.size, fun i r hi => ⟨keepc hb (h i r hi).1, keepc hb (h i r hi).2⟩⟩
theorem RdA.below {w w' : World} {v : Value} {d : List Ac} (h : RdA w v d) (hb : Below w.heap.size w w') : RdA w' v d := by
  obtain ⟨o, cap, e, hc, h⟩ := h
  refine ⟨o, cap, e, hc, ?_⟩
  rcases h with h | ⟨b, off, e1, e2, h⟩
  · exact .inl h
  · exact .inr ⟨b, off, e1, Nat.lt_of_lt_of_le e2 hb.size, fun i r hi => ⟨keepc hb (h i r hi).1, keepc hb (h i r hi).2.1, keepc hb (h i r hi).2.2⟩⟩
theorem RdD.below {w w' : World} {v : Value} {d : List Ds} (h : RdD w v d) (hb : Below w.heap.size w w') : RdD w' v d := by
  obtain ⟨o, cap, e, hc, h⟩ := h
  refine ⟨o, cap, e, hc, ?_⟩
  rcases h with h | ⟨b, off, e1, e2, h⟩
  · exact .inl h
  · exact .inr ⟨b, off, e1, Nat.lt_of_lt_of_le e2 hb.size, fun i r hi => by obtain ⟨u, h1, h2⟩ := h i r hi; exact ⟨u, keepc hb h1, h2.below hb⟩⟩
end Go.Proofs.YtifcgimpgbeocaaGreat
