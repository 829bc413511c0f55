/- Plain facts for AreaUndone: what is allocated and freed again, and two frees in either order; a piece struck out of a slice. -/
import Derived.Test.YtcfmimfkaabmkaaH4
import Derived.Deep.RegionLaw
set_option linter.unusedVariables false
set_option linter.unusedSimpArgs false
namespace Go.Proofs.Ytcfmimfkaabmkaa
open Go.RowKit
attribute [local irreducible] num
/-- The layout without the allocation at p. -/
def rm (p : Nat) (lay : Lay) : Lay := lay.filter (fun x => !decide (x.1 = p))
theorem rm_int (p : Nat) (lay : Lay) : lay.filter (fun x => !decide ((x.1 : Int) = (p : Int))) = rm p lay := by
  unfold rm; congr 1; funext x; simp only [Int.natCast_inj]
theorem freeA_rm {l : List UInt8} {lay : Lay} (h : Area l lay) {x : Nat × List UInt8} (hx : x ∈ lay) : freeA l.length lay x.1 = (render l.length (rm x.1 lay), 0) ∧ Area (render l.length (rm x.1 lay)) (rm x.1 lay) ∧ (render l.length (rm x.1 lay)).length = l.length := by
  obtain ⟨h16, h81, hok, hend, ha⟩ := h
  obtain ⟨k1, k2⟩ := ok_filter (fun y => !decide (y.1 = x.1)) lay true 8 hok
  have k2' : endOf 8 (rm x.1 lay) ≤ l.length := Nat.le_trans k2 hend
  refine ⟨?_, area_render k1 h16 h81 k2', render_length k1 k2'⟩
  unfold freeA
  rw [if_pos (List.any_eq_true.2 ⟨x, hx, by simp⟩), rm_int]
theorem rm_comm (p q : Nat) (lay : Lay) : rm p (rm q lay) = rm q (rm p lay) := by
  unfold rm; rw [List.filter_filter, List.filter_filter]; congr 1; funext x; exact Bool.and_comm _ _
theorem rm_erase : ∀ (lay : Lay) (b : Bool) (e i : Nat) (x : Nat × List UInt8), ok b e lay → lay[i]? = some x → rm x.1 lay = lay.eraseIdx i
  | [], _, _, i, x, _, h => by simp at h
  | (p, s) :: r, b, e, 0, x, ⟨o1, o2, o3, o4, o5⟩, h => by
    simp only [List.getElem?_cons_zero, Option.some.injEq] at h
    subst h
    unfold rm
    rw [List.filter_cons_of_neg (by simp), List.eraseIdx_cons_zero]
    exact List.filter_eq_self.2 fun y hy => by have := offs_ge r _ _ o5 y hy; simp; omega
  | (p, s) :: r, b, e, i + 1, x, ⟨o1, o2, o3, o4, o5⟩, h => by
    simp only [List.getElem?_cons_succ] at h
    have ih := rm_erase r _ _ i x o5 h
    have := offs_ge r _ _ o5 x (List.mem_of_getElem? h)
    unfold rm at ih ⊢
    rw [List.filter_cons_of_pos (by simp; omega), ih, List.eraseIdx_cons_succ]
theorem offs_ne : ∀ (lay : Lay) (b : Bool) (e i j : Nat) (x y : Nat × List UInt8), ok b e lay → lay[i]? = some x → lay[j]? = some y → i ≠ j → x.1 ≠ y.1
  | [], _, _, i, j, x, y, _, h, _, _ => by simp at h
  | (p, s) :: r, b, e, 0, 0, x, y, _, _, _, hne => absurd rfl hne
  | (p, s) :: r, b, e, 0, j + 1, x, y, ⟨o1, o2, o3, o4, o5⟩, h, h', _ => by
    simp only [List.getElem?_cons_zero, Option.some.injEq] at h
    simp only [List.getElem?_cons_succ] at h'
    have := offs_ge r _ _ o5 y (List.mem_of_getElem? h')
    subst h; simp only; omega
  | (p, s) :: r, b, e, i + 1, 0, x, y, ⟨o1, o2, o3, o4, o5⟩, h, h', _ => by
    simp only [List.getElem?_cons_zero, Option.some.injEq] at h'
    simp only [List.getElem?_cons_succ] at h
    have := offs_ge r _ _ o5 x (List.mem_of_getElem? h)
    subst h'; simp only; omega
  | (p, s) :: r, b, e, i + 1, j + 1, x, y, ⟨o1, o2, o3, o4, o5⟩, h, h', hne => by
    simp only [List.getElem?_cons_succ] at h h'
    exact offs_ne r _ _ i j x y o5 h h' (by omega)
theorem alloc_rm (n : Nat) : ∀ (lay : Lay) (b : Bool) (e : Nat), ok b e lay → rm (allocL n e lay).2 (allocL n e lay).1 = lay ∧ ((allocL n e lay).2, zs n) ∈ (allocL n e lay).1
  | [], _, _, _ => by simp [allocL, rm]
  | (p, s) :: r, b, e, ⟨o1, o2, o3, o4, o5⟩ => by
    have hnb := upN_bd n
    have hub := upN_bd s.length
    unfold allocL
    split
    · rename_i hf
      refine ⟨?_, List.mem_cons_self ..⟩
      simp only [rm]
      rw [List.filter_cons_of_neg (by simp), List.filter_cons_of_pos (by simp; omega)]
      congr 1
      exact List.filter_eq_self.2 fun y hy => by have := offs_ge r _ _ o5 y hy; simp; omega
    · have ih := alloc_rm n r _ _ o5
      have hge := allocL_ge n r _ _ o5
      refine ⟨?_, List.mem_cons_of_mem _ ih.2⟩
      have h1 := ih.1
      simp only [rm] at h1 ⊢
      rw [List.filter_cons_of_pos (by simp; omega), h1]
/-- What Alloc gives, Free takes back. -/
theorem alloc_free {l : List UInt8} {lay : Lay} (h : Area l lay) (n : Int) (hok : (allocA l.length lay n).2.2 = 0) :
    ∃ lay', Area (allocA l.length lay n).1 lay' ∧ freeA (allocA l.length lay n).1.length lay' (allocA l.length lay n).2.1 = (l, 0) := by
  have hA := h
  obtain ⟨h16, h81, hk, hend, ha⟩ := h
  unfold allocA at hok ⊢
  split at hok
  · simp at hok
  · rename_i hn
    rw [if_neg hn]
    split at hok
    · rename_i hfit
      rw [if_pos hfit]
      have hal := allocL_ok (n := n.toNat) (by omega) hk
      have hA2 := area_render hal h16 h81 hfit
      have hlen := render_length hal hfit
      obtain ⟨r1, r2⟩ := alloc_rm n.toNat lay true 8 hk
      refine ⟨_, hA2, ?_⟩
      have := (freeA_rm hA2 r2).1
      simp only at this ⊢
      rw [this, r1, hlen, ← ha]
    · simp at hok
theorem render_nil (n : Nat) (h : 8 ≤ n) : render n [] = zs n := by
  have : four 0 = zs 4 := rfl
  simp only [render, endOf, enc, List.length_nil, Nat.sub_self, List.nil_append]
  rw [this, ← zs_add, ← zs_add]
  congr 1; omega

/-! ### A piece struck out of a slice -/
theorem encP_take : ∀ (ps : List (Int × Int)) (i : Nat), (encP ps).take (i * 2) = encP (ps.take i)
  | [], i => by simp [encP]
  | p :: r, 0 => by simp [encP]
  | p :: r, i + 1 => by
    have ih := encP_take r i
    simp only [encP, List.flatMap_cons, List.take_succ_cons] at ih ⊢
    rw [show (i + 1) * 2 = i * 2 + 1 + 1 by omega]
    simp only [List.cons_append, List.nil_append, List.take_succ_cons, ih]
theorem encP_drop : ∀ (ps : List (Int × Int)) (i : Nat), (encP ps).drop (i * 2) = encP (ps.drop i)
  | [], i => by simp [encP]
  | p :: r, 0 => by simp [encP]
  | p :: r, i + 1 => by
    have ih := encP_drop r i
    simp only [encP, List.flatMap_cons, List.drop_succ_cons] at ih ⊢
    rw [show (i + 1) * 2 = i * 2 + 1 + 1 by omega]
    simp only [List.cons_append, List.nil_append, List.drop_succ_cons, ih]
theorem exec_del {w : World} {B g n cap i c : Nat} {A : Addr} {ps : List (Int × Int)} {ty : TypeId} (hP : OP w B (.slice (some ⟨g, 0, none⟩) n cap) ps) (hn : ps.length = n) (hi : i < n) (hA : n - (i + 1) = 0 ∨ A = ⟨g, (i + 1) * 2, none⟩) :
    ∃ w', (Builtin.append_ #[33, 33] ty #[.slice (some ⟨g, 0, none⟩) i cap, .slice (some A) (n - (i + 1)) c]).run Try.prog w = .ok (.slice (some ⟨g, 0, none⟩) (n - 1) cap) w' ∧
      OP w' B (.slice (some ⟨g, 0, none⟩) (n - 1) cap) (ps.eraseIdx i) ∧ w.grownBy w' (some g) := by
  obtain ⟨i0, hi0, hz0, hz1, hz2⟩ := info_parts info37
  obtain ⟨hlen, ⟨hv, -⟩ | ⟨g', cap', cur, hv, hb, hg, hnc, hcm, hcs, ht⟩⟩ := hP
  · cases hv
  simp only [Value.slice.injEq, Option.some.injEq, Addr.mk.injEq] at hv
  obtain ⟨⟨rfl, -, -⟩, -, rfl⟩ := hv
  have hel := encP_length ps
  have hnl : (encP (ps.drop (i + 1))).length = (n - (i + 1)) * i0.size := by rw [encP_length, List.length_drop, hn, hz1]
  have hcl : cur.toList.length = cap * 2 := by rw [Array.length_toList]; exact hcs
  have hrun := run_append_room (P := Try.prog) w 33 ty 37 i0 under33 hi0 g i cap cur hg A (n - (i + 1)) c (encP (ps.drop (i + 1))) hnl (fun j u hj => by
      have hjl := (List.getElem?_eq_some_iff.1 hj).1
      rw [hnl, hz1] at hjl
      rcases hA with h0 | rfl
      · omega
      · rw [addr_add]
        rw [← encP_drop, List.getElem?_drop, ← ht, List.getElem?_take_of_lt (by omega)] at hj
        unfold World.cell?
        simp only [hg]
        simpa using hj) (fun u hu => by
      obtain ⟨p, -, hp⟩ := List.mem_flatMap.1 hu
      simp at hp
      rcases hp with rfl | rfl <;> rfl) (by omega) (by rw [hnl, hz1, hcs]; omega)
  rw [hz1, show i + (n - (i + 1)) = n - 1 by omega] at hrun
  have hel2 : (ps.eraseIdx i).length = n - 1 := by rw [List.length_eraseIdx, if_pos (by omega), hn]
  refine ⟨_, hrun, ?_, ⟨rfl, rfl, rfl, by simp, fun k _ hk => setRow_other w g k _ (fun e => hk (by rw [e]))⟩⟩
  refine ⟨by rw [encP_length], .inr ⟨g, cap, _, by rw [hel2], hb, setRow_heap w g cur _ 37 _ hg, by omega, hcm, ?_, ?_⟩⟩
  · simp only [List.size_toArray, List.length_append, List.length_take, List.length_drop, hnl, hz1, hcl]
    omega
  · have e1 : cur.toList.take (i * 2) = encP (ps.take i) := by
      rw [← encP_take, ← ht, List.take_take, Nat.min_eq_left (by omega)]
    have e2 : (encP (ps.take i) ++ encP (ps.drop (i + 1))).length = (n - 1) * 2 := by
      rw [List.length_append, encP_length, encP_length, List.length_take, List.length_drop]; omega
    rw [hel2, e1, List.eraseIdx_eq_take_drop_succ, encP_append]
    simp only [List.append_assoc]
    rw [← List.append_assoc, List.take_append_of_le_length (by omega), List.take_of_length_le (by omega)]
/-- append(ps[:i], ps[i+1:]...), as one step of a region that draws. -/
theorem step_del {ops : Array Oper} {o : Oper} {a : Act} {w : World} {K : Act → World → Prop} {Q : Exit → Act → World → Prop} {E : Prop} (hg : o.guard = none) (s x : Operand)
    (hop : o.op = Op.call { callee := Callee.builtin Builtin.append, args := #[s, x], argTypes := #[33, 33] }) (B g n cap i c : Nat) (A : Addr) (ps : List (Int × Int))
    (hs : a.eval s = .slice (some ⟨g, 0, none⟩) i cap) (hx : a.eval x = .slice (some A) (n - (i + 1)) c) (hP : OP w B (.slice (some ⟨g, 0, none⟩) n cap) ps) (hn : ps.length = n) (hi : i < n) (hA : n - (i + 1) = 0 ∨ A = ⟨g, (i + 1) * 2, none⟩)
    (hK : ∀ w', OP w' B (.slice (some ⟨g, 0, none⟩) (n - 1) cap) (ps.eraseIdx i) → w.grownBy w' (some g) → K (a.put o.dst (.slice (some ⟨g, 0, none⟩) (n - 1) cap)) w') :
    if Region.wanted o (yielded ops a.tmps) = true then Oper.wp Try.prog o a w K Q else E := by
  have hw : Region.wanted o (yielded ops a.tmps) = true := by simp [Region.wanted, hg]
  rw [if_pos hw]
  obtain ⟨w', hrun, h1, h2⟩ := exec_del (ty := o.type) (c := c) hP hn hi hA
  unfold Oper.wp
  simp [execOp, hop, resolve, invoke, builtin, hs, hx, hrun, Result.andThen]
  exact hK w' h1 h2
end Go.Proofs.Ytcfmimfkaabmkaa
