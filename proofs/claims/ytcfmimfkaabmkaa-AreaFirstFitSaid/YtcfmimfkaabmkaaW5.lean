/- with (56): blocks and bytes with one allocation of zeros more. -/
import Derived.Test.YtcfmimfkaabmkaaQ2
import Derived.Deep.RegionLaw
import Derived.Deep.Upon
set_option linter.unusedVariables false
set_option linter.unusedSimpArgs false
namespace Go.Proofs.Ytcfmimfkaabmkaa
open Go.RowKit
attribute [local go_sem] Oper.semAt_some
attribute [local irreducible] num
/-- Slices cut from a place on. -/
def tailA (o : Option Addr) (l cap s : Nat) : Option Addr := if cap = l then o else o.map (·.add (l * s))
theorem sz37 (w : World) : (sizeOf 37).run Try.prog w = .ok 2 w := by kernel_rfl
theorem sz9 (w : World) : (sizeOf 9).run Try.prog w = .ok 1 w := by kernel_rfl
theorem el33 : Try.prog.elem 33 = 37 := by kernel_rfl
theorem el49 : Try.prog.elem 49 = 9 := by kernel_rfl
theorem sl33 : Try.prog.underlying 33 = some (.slice (Try.prog.elem 33)) := by kernel_rfl
theorem sl49 : Try.prog.underlying 49 = some (.slice (Try.prog.elem 49)) := by kernel_rfl
theorem run_tail33 (o : Option Addr) (len cap : Nat) (w : World) (kl : IntKind) (l : Int) (h0 : 0 ≤ l) (h1 : l ≤ len) :
    (Instr.slice 33 (.slice o len cap) (some (.int kl l)) none none).run Try.prog w = .ok (.slice (tailA o l.toNat cap 2) (len - l.toNat) (cap - l.toNat)) w := by
  rw [run_slice_l (t := 33) (ht := sl33) (kl := kl) (l := l) (h0 := h0) (h1 := h1), el33, sz37]
  rfl
theorem run_tail49 (o : Option Addr) (len cap : Nat) (w : World) (kl : IntKind) (l : Int) (h0 : 0 ≤ l) (h1 : l ≤ len) :
    (Instr.slice 49 (.slice o len cap) (some (.int kl l)) none none).run Try.prog w = .ok (.slice (tailA o l.toNat cap 1) (len - l.toNat) (cap - l.toNat)) w := by
  rw [run_slice_l (t := 49) (ht := sl49) (kl := kl) (l := l) (h0 := h0) (h1 := h1), el49, sz9]
  rfl
/-- A slice whose cells read as these values. -/
def SrcV (w : World) (x : Value) (m : Nat) (us : List Value) : Prop :=
  ∃ o c, x = .slice o m c ∧ ((o = none ∧ m = 0) ∨ ∃ ad, o = some ad ∧ ∀ j u, us[j]? = some u → w.cell? (ad.add j) = some u)
theorem SrcV.below {w w' : World} {x : Value} {m : Nat} {us : List Value} (h : SrcV w x m us) (hb : Below w.heap.size w w') : SrcV w' x m us := by
  obtain ⟨o, c, rfl, h⟩ := h
  exact ⟨o, c, rfl, h.imp id fun ⟨ad, e, h⟩ => ⟨ad, e, fun j u hu => keepc hb (h j u hu)⟩⟩
theorem SrcV.belowB {B : Nat} {w w' : World} {x : Value} {m : Nat} {us : List Value} (h : SrcV w x m us) (hw : w.heap.size ≤ B) (hb : Below B w w') : SrcV w' x m us := h.below (hb.mono hw)
theorem exec_app33 {w : World} {B : Nat} {v x : Value} {ps qs : List (Int × Int)} {ty : TypeId} (hP : OP w B v ps) (hx : SrcV w x qs.length (encP qs)) (hn : ps.length + qs.length ≤ 1000000) (hb : B ≤ w.heap.size) :
    ∃ v' w', (Builtin.append_ #[33, 33] ty #[v, x]).run Try.prog w = .ok v' w' ∧ OP w' B v' (ps ++ qs) ∧ w.grownBy w' v.ownBlock := by
  obtain ⟨i0, hi, hz0, hz1, hz2⟩ := info_parts info37
  obtain ⟨o, c, rfl, ⟨rfl, h0⟩ | ⟨ad, rfl, hc⟩⟩ := hx
  · obtain rfl : qs = [] := List.eq_nil_of_length_eq_zero h0
    obtain ⟨o', cap', rfl⟩ := row_slice hP
    have hle : ps.length ≤ cap' := by
      obtain ⟨-, ⟨e, hn⟩ | ⟨g, cc, cur, e, hb, hg, hnc, -⟩⟩ := hP
      · simp only [Value.slice.injEq] at e; omega
      · simp only [Value.slice.injEq] at e; omega
    refine ⟨_, _, run_append_nothing (P := Try.prog) w 33 33 ty 37 i0 under33 hi o' ps.length cap' hle _ (Src.ofNil _ (e' := 37) under33 c), by rw [List.append_nil]; exact hP, ⟨rfl, rfl, rfl, Nat.le_refl _, fun k _ _ => rfl⟩⟩
  · obtain ⟨v', w', h1, h2, h3, -⟩ := run_append_own (P := Try.prog) w B 33 ty 37 i0 (.agg #[.int .i64 0, .int .i64 0]) 2 16 under33 hi hz0 hz1 hz2 rfl (by decide) v ps.length (encP ps) hP ad qs.length c (encP qs) (encP_length qs) hc (fun u hu => by
      obtain ⟨p, -, hp⟩ := List.mem_flatMap.1 hu
      simp at hp
      rcases hp with rfl | rfl <;> rfl) (by unfold maxLen; omega) (by omega) hb
    refine ⟨v', w', h1, ?_, h3⟩
    unfold OP
    rw [encP_append, List.length_append]
    exact h2
theorem exec_app49 {w : World} {B : Nat} {v x : Value} {bs ts : List (List UInt8)} {ty : TypeId} (hP : OS w B v bs) (hx : SrcV w x ts.length (encS ts)) (hn : bs.length + ts.length ≤ 1000000) (hb : B ≤ w.heap.size) :
    ∃ v' w', (Builtin.append_ #[49, 49] ty #[v, x]).run Try.prog w = .ok v' w' ∧ OS w' B v' (bs ++ ts) ∧ w.grownBy w' v.ownBlock := by
  obtain ⟨i0, hi, hz0, hz1, hz2⟩ := info_parts info9
  obtain ⟨o, c, rfl, ⟨rfl, h0⟩ | ⟨ad, rfl, hc⟩⟩ := hx
  · obtain rfl : ts = [] := List.eq_nil_of_length_eq_zero h0
    obtain ⟨o', cap', rfl⟩ := row_slice hP
    have hle : bs.length ≤ cap' := by
      obtain ⟨-, ⟨e, hn⟩ | ⟨g, cc, cur, e, hb, hg, hnc, -⟩⟩ := hP
      · simp only [Value.slice.injEq] at e; omega
      · simp only [Value.slice.injEq] at e; omega
    refine ⟨_, _, run_append_nothing (P := Try.prog) w 49 49 ty 9 i0 under49 hi o' bs.length cap' hle _ (Src.ofNil _ (e' := 9) under49 c), by rw [List.append_nil]; exact hP, ⟨rfl, rfl, rfl, Nat.le_refl _, fun k _ _ => rfl⟩⟩
  · obtain ⟨v', w', h1, h2, h3, -⟩ := run_append_own (P := Try.prog) w B 49 ty 9 i0 (.string ⟨#[]⟩) 1 16 under49 hi hz0 hz1 hz2 rfl (by decide) v bs.length (encS bs) hP ad ts.length c (encS ts) (by simp [encS]) hc (fun u hu => by
      obtain ⟨p, -, rfl⟩ := List.mem_map.1 hu
      rfl) (by unfold maxLen; omega) (by omega) hb
    refine ⟨v', w', h1, ?_, h3⟩
    unfold OS
    rw [encS_append, List.length_append]
    exact h2
theorem step_app33 {ops : Array Oper} {o : Oper} {a : Act} {w : World} {K : Act → World → Prop} {Q : Exit → Act → World → Prop} {E : Prop} (hg : o.guard = none) (s x : Operand)
    (hop : o.op = Op.call { callee := Callee.builtin Builtin.append, args := #[s, x], argTypes := #[33, 33] }) (B : Nat) (v xv : Value) (ps qs : List (Int × Int))
    (hs : a.eval s = v) (hx : a.eval x = xv) (hP : OP w B v ps) (hsrc : SrcV w xv qs.length (encP qs)) (hn : ps.length + qs.length ≤ 1000000) (hb : B ≤ w.heap.size)
    (hK : ∀ v' w', OP w' B v' (ps ++ qs) → w.grownBy w' v.ownBlock → K (a.put o.dst v') w') :
    if Region.wanted o (yielded ops a.tmps) = true then Oper.wp Try.prog o a w K Q else E := by
  have hw : Region.wanted o (yielded ops a.tmps) = true := by simp [Region.wanted, hg]
  rw [if_pos hw]
  obtain ⟨v', w', hrun, h1, h2⟩ := exec_app33 (ty := o.type) hP hsrc hn hb
  unfold Oper.wp
  simp [execOp, hop, resolve, invoke, builtin, hs, hx, hrun, Result.andThen]
  exact hK _ _ h1 h2
theorem step_app49 {ops : Array Oper} {o : Oper} {a : Act} {w : World} {K : Act → World → Prop} {Q : Exit → Act → World → Prop} {E : Prop} (hg : o.guard = none) (s x : Operand)
    (hop : o.op = Op.call { callee := Callee.builtin Builtin.append, args := #[s, x], argTypes := #[49, 49] }) (B : Nat) (v xv : Value) (bs ts : List (List UInt8))
    (hs : a.eval s = v) (hx : a.eval x = xv) (hP : OS w B v bs) (hsrc : SrcV w xv ts.length (encS ts)) (hn : bs.length + ts.length ≤ 1000000) (hb : B ≤ w.heap.size)
    (hK : ∀ v' w', OS w' B v' (bs ++ ts) → w.grownBy w' v.ownBlock → K (a.put o.dst v') w') :
    if Region.wanted o (yielded ops a.tmps) = true then Oper.wp Try.prog o a w K Q else E := by
  have hw : Region.wanted o (yielded ops a.tmps) = true := by simp [Region.wanted, hg]
  rw [if_pos hw]
  obtain ⟨v', w', hrun, h1, h2⟩ := exec_app49 (ty := o.type) hP hsrc hn hb
  unfold Oper.wp
  simp [execOp, hop, resolve, invoke, builtin, hs, hx, hrun, Result.andThen]
  exact hK _ _ h1 h2
theorem encP_dropk : ∀ (ps : List (Int × Int)) (i : Nat), (encP ps).drop (i * 2) = encP (ps.drop i)
  | [], i => by simp [encP]
  | p :: r, 0 => by simp [encP]
  | p :: r, i + 1 => by
    have ih := encP_dropk r i
    simp only [encP, List.flatMap_cons, List.drop_succ_cons] at ih ⊢
    rw [show (i + 1) * 2 = i * 2 + 1 + 1 by omega]
    simp only [List.cons_append, List.nil_append, List.drop_succ_cons, ih]
/-- What is cut off an own slice reads as the rest of the list. -/
theorem OP.src {w : World} {B : Nat} {o : Option Addr} {n cap : Nat} {ps : List (Int × Int)} (h : OP w B (.slice o n cap) ps) {k : Nat} (hk : k ≤ n) : n = ps.length ∧ SrcV w (.slice (tailA o k cap 2) (n - k) (cap - k)) (ps.drop k).length (encP (ps.drop k)) := by
  obtain ⟨hl, ⟨e, hn⟩ | ⟨g, cap', cur, e, hb, hg, hnc, hcm, hcs, ht⟩⟩ := h
  · cases e
    have h0 : ps = [] := List.eq_nil_of_length_eq_zero hn
    subst h0
    have hk0 : k = 0 := by omega
    subst hk0
    exact ⟨rfl, none, 0, rfl, .inl ⟨rfl, rfl⟩⟩
  · cases e
    refine ⟨rfl, _, _, by rw [List.length_drop], .inr ?_⟩
    have hcell : ∀ j u, (encP (ps.drop k))[j]? = some u → w.cell? ⟨g, k * 2 + j, none⟩ = some u := fun j u hj => by
      rw [← encP_dropk, List.getElem?_drop, ← ht, List.getElem?_take] at hj
      split at hj
      · unfold World.cell?
        simp only [hg]
        simpa using hj
      · cases hj
    unfold tailA
    by_cases hc : cap = k
    · rw [if_pos hc]
      refine ⟨_, rfl, fun j u hj => ?_⟩
      have : ps.drop k = [] := List.drop_eq_nil_of_le (by omega)
      rw [this] at hj
      simp [encP] at hj
    · rw [if_neg hc]
      refine ⟨_, rfl, fun j u hj => ?_⟩
      show w.cell? ((Addr.add ⟨g, 0, none⟩ (k * 2)).add j) = some u
      rw [addr_add, addr_add, Nat.zero_add]
      exact hcell j u hj
theorem OS.src {w : World} {B : Nat} {o : Option Addr} {n cap : Nat} {bs : List (List UInt8)} (h : OS w B (.slice o n cap) bs) {k : Nat} (hk : k ≤ n) : n = bs.length ∧ SrcV w (.slice (tailA o k cap 1) (n - k) (cap - k)) (bs.drop k).length (encS (bs.drop k)) := by
  obtain ⟨hl, ⟨e, hn⟩ | ⟨g, cap', cur, e, hb, hg, hnc, hcm, hcs, ht⟩⟩ := h
  · cases e
    have h0 : bs = [] := List.eq_nil_of_length_eq_zero hn
    subst h0
    have hk0 : k = 0 := by omega
    subst hk0
    exact ⟨rfl, none, 0, rfl, .inl ⟨rfl, rfl⟩⟩
  · cases e
    refine ⟨rfl, _, _, by rw [List.length_drop], .inr ?_⟩
    have hcell : ∀ j u, (encS (bs.drop k))[j]? = some u → w.cell? ⟨g, k + j, none⟩ = some u := fun j u hj => by
      rw [show encS (bs.drop k) = (encS bs).drop k by simp [encS], List.getElem?_drop, ← ht, List.getElem?_take] at hj
      split at hj
      · unfold World.cell?
        simp only [hg]
        simpa using hj
      · cases hj
    unfold tailA
    by_cases hc : cap = k
    · rw [if_pos hc]
      refine ⟨_, rfl, fun j u hj => ?_⟩
      have : bs.drop k = [] := List.drop_eq_nil_of_le (by omega)
      rw [this] at hj
      simp [encS] at hj
    · rw [if_neg hc]
      refine ⟨_, rfl, fun j u hj => ?_⟩
      show w.cell? ((Addr.add ⟨g, 0, none⟩ (k * 1)).add j) = some u
      rw [addr_add, addr_add, Nat.zero_add, Nat.mul_one]
      exact hcell j u hj
theorem insW_split (b : Nat × List UInt8) : ∀ (lay : Lay) (k : Nat), (∀ j x, j < k → lay[j]? = some x → x.1 < b.1) → (∀ x, lay[k]? = some x → ¬ x.1 < b.1) → insW b lay = lay.take k ++ b :: lay.drop k
  | [], k, _, _ => by simp [insW]
  | x :: r, 0, _, h => by
    have := h x rfl
    simp only [insW]
    rw [if_neg this]; rfl
  | x :: r, k + 1, h, h' => by
    have h1 := h 0 x (by omega) rfl
    have ih := insW_split b r k (fun j y hj hy => h (j + 1) y (by omega) hy) (fun y hy => h' y hy)
    simp only [insW]
    rw [if_pos h1, ih]; rfl
end Go.Proofs.Ytcfmimfkaabmkaa
