/- AreaKeeps: what is held; the switch. -/
import Derived.Test.YtcfmimfkaabmkaaS2
import Derived.Deep.CutBlock
import Derived.Deep.DeepCutAuto
import Derived.Deep.RegionWith
set_option linter.unusedVariables false
set_option linter.unusedSimpArgs false
namespace Go.Proofs.Ytcfmimfkaabmkaa
open Go.RowKit
attribute [local go_sem] Oper.semAt_some
attribute [local irreducible] num
abbrev StepT := Int × Int × Int × List UInt8
/-- The slice v reads as these steps. -/
def RSt (w : World) (v : Value) (ss : List StepT) : Prop :=
  ∃ o cap, v = .slice o ss.length cap ∧ (ss = [] ∨ ∃ b off, o = some ⟨b, off, none⟩ ∧ b < w.heap.size ∧ ∀ (i : Nat) (q : StepT), ss[i]? = some q →
    w.cell? ⟨b, off + i * 4, none⟩ = some (.int .i64 q.1) ∧ w.cell? ⟨b, off + i * 4 + 1, none⟩ = some (.int .i64 q.2.1) ∧ w.cell? ⟨b, off + i * 4 + 2, none⟩ = some (.int .i64 q.2.2.1) ∧ w.cell? ⟨b, off + i * 4 + 3, none⟩ = some (.string ⟨q.2.2.2.toArray⟩))
/-- What is held, and where it lies. -/
def KeepI (B : Nat) (w : World) (al : List UInt8) (lay L : Lay) (v7 v8 : Value) (wr : World) : Prop :=
  Area al lay ∧ L.Perm lay ∧ OP wr B v7 (psOf (itsOf L)) ∧ OS wr B v8 (bsOf (itsOf L)) ∧ Below B w wr ∧ B ≤ wr.heap.size
theorem KeepI.below {B : Nat} {w : World} {al : List UInt8} {lay L : Lay} {v7 v8 : Value} {wr wx : World} (h : KeepI B w al lay L v7 v8 wr) (hb : Below wr.heap.size wr wx) : KeepI B w al lay L v7 v8 wx := by
  obtain ⟨h1, h2, h3, h4, h5, h6⟩ := h
  exact ⟨h1, h2, h3.below hb, h4.below hb, h5.trans (hb.mono h6), by have := hb.size; omega⟩
theorem keep_index (at_ : Int) (M : Nat) (h : 0 < M) (hM : M ≤ 64) : ∃ J : Nat, J < M ∧ J ≤ 100 ∧ IntKind.u64.wrap (M : Int) = (M : Int) ∧ (IntKind.u64.wrap at_).tmod (M : Int) = (J : Int) ∧ IntKind.u64.wrap (J : Int) = (J : Int) ∧ IntKind.i64.wrap (J : Int) = (J : Int) ∧ ((M : Int) == 0) = false := by
  have hU0 : 0 ≤ IntKind.u64.wrap at_ := by rw [IntKind.wrap_u64]; omega
  obtain ⟨UU, hUU⟩ : ∃ u, IntKind.u64.wrap at_ = u := ⟨_, rfl⟩
  rw [hUU] at hU0 ⊢
  clear hUU
  obtain ⟨J, hJ⟩ : ∃ J : Nat, UU % (M : Int) = (J : Int) := ⟨(UU % (M : Int)).toNat, by have := Int.emod_nonneg UU (show (M : Int) ≠ 0 by omega); omega⟩
  have hJM : J < M := by have := Int.emod_lt_of_pos UU (show (0 : Int) < M by omega); omega
  refine ⟨J, hJM, by omega, IntWalk.u64_in _ ⟨by omega, by omega⟩, by rw [Int.tmod_eq_emod_of_nonneg hU0]; exact hJ, IntWalk.u64_in _ ⟨by omega, by omega⟩, IntWalk.i64_in _ ⟨by omega, by omega⟩, by rw [beq_eq_false_iff_ne]; omega⟩
theorem resizeA_ok {al r1 : List UInt8} {lay : Lay} {n : Int} (hA : Area al lay) (hr : resizeA lay n = (r1, 0)) : Area r1 lay := by
  unfold resizeA at hr
  split at hr
  · cases hr
  · rename_i h1
    split at hr
    · rename_i h2
      simp only [Prod.mk.injEq, and_true] at hr
      rw [← hr]
      exact area_render hA.2.2.1 (by omega) (by omega) (by omega)
    · cases hr
def findBlock (n : Nat) : Code → Option Code
  | .block k c => if k = n then some (.block k c) else findBlock n c
  | .loop c => findBlock n c
  | .scope c => findBlock n c
  | .seq a b => match findBlock n a with
    | some c => some c
    | none => findBlock n b
  | .cond _ a b => match findBlock n a with
    | some c => some c
    | none => findBlock n b
  | _ => none
def SwQ (Qn : Act → World → Prop) : Exit → Act → World → Prop
  | .normal, a, w => Qn a w
  | _, _, _ => False
theorem sw_mono {c : Code} {Q : Exit → Act → World → Prop} {a : Act} {w : World} (h : Code.wp Try.prog c (SwQ (Q .normal)) a w) : Code.wp Try.prog c Q a w :=
  wp_mono h (fun e a w hx => by cases e <;> first | exact hx | exact hx.elim)
theorem op_ne73 {w : World} {B X : Nat} {v : Value} {ps : List (Int × Int)} {cs : Array Value} (h : OP w B v ps) (hX : w.heap[X]? = some (.cells cs 73)) : some X ≠ v.ownBlock := by
  obtain ⟨-, ⟨rfl, -⟩ | ⟨g, cap, cur, rfl, -, hg, -⟩⟩ := h
  · simp [Value.ownBlock]
  · intro e
    simp [Value.ownBlock] at e
    subst e
    rw [hg] at hX
    cases hX
theorem os_ne73 {w : World} {B X : Nat} {v : Value} {bs : List (List UInt8)} {cs : Array Value} (h : OS w B v bs) (hX : w.heap[X]? = some (.cells cs 73)) : some X ≠ v.ownBlock := by
  obtain ⟨-, ⟨rfl, -⟩ | ⟨g, cap, cur, rfl, -, hg, -⟩⟩ := h
  · simp [Value.ownBlock]
  · intro e
    simp [Value.ownBlock] at e
    subst e
    rw [hg] at hX
    cases hX
theorem ps_snocK (A : Lay) (y : Nat × List UInt8) : psOf (itsOf (A ++ [y])) = psOf (itsOf A) ++ [((y.1 : Int), (y.2.length : Int))] := by rw [psOf_its, psOf_its, List.map_append]; rfl
theorem bs_snocK (A : Lay) (y : Nat × List UInt8) : bsOf (itsOf (A ++ [y])) = bsOf (itsOf A) ++ [y.2] := by rw [bsOf_its, bsOf_its, List.map_append]; rfl
noncomputable def swB : Code := (Try.f16.body.bind (findBlock 2)).getD .skip
end Go.Proofs.Ytcfmimfkaabmkaa
