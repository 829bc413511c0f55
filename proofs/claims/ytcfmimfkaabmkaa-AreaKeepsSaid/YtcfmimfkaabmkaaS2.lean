/- Facts for AreaKeeps: what is held, in any order; a string struck out of a slice; a string stored. -/
import Derived.Test.YtcfmimfkaabmkaaS1
import Derived.Test.YtcfmimfkaabmkaaJ2
set_option linter.unusedVariables false
set_option linter.unusedSimpArgs false
namespace Go.Proofs.Ytcfmimfkaabmkaa
open Go.RowKit
attribute [local irreducible] num
theorem alloc_perm (n : Nat) : ∀ (lay : Lay) (e : Nat), (allocL n e lay).1.Perm (lay ++ [((allocL n e lay).2, zs n)])
  | [], e => List.Perm.refl _
  | (p, s) :: r, e => by
    unfold allocL
    split
    · exact List.perm_append_comm (l₁ := [(e + 8, zs n)]) (l₂ := (p, s) :: r)
    · exact (alloc_perm n r _).cons _
theorem perm_at {L lay : Lay} (h : L.Perm lay) {i : Nat} {x : Nat × List UInt8} (hi : L[i]? = some x) : ∃ j : Nat, lay[j]? = some x :=
  List.getElem?_of_mem (h.mem_iff.1 (List.mem_of_getElem? hi))
theorem cons_erase {L : Lay} {i : Nat} {x : Nat × List UInt8} (hi : L[i]? = some x) : (x :: L.eraseIdx i).Perm L := by
  rw [List.eraseIdx_eq_take_drop_succ]
  conv => rhs; rw [lay_cut hi]
  exact List.perm_middle.symm
theorem erase_perm {L lay : Lay} (h : L.Perm lay) {i j : Nat} {x : Nat × List UInt8} (hi : L[i]? = some x) (hj : lay[j]? = some x) : (L.eraseIdx i).Perm (lay.eraseIdx j) :=
  ((cons_erase hi).trans (h.trans (cons_erase hj).symm)).cons_inv
theorem cons_set {L : Lay} {i : Nat} {x y : Nat × List UInt8} (hi : L[i]? = some x) : (L.set i y).Perm (y :: L.eraseIdx i) := by
  obtain ⟨h, -⟩ := List.getElem?_eq_some_iff.1 hi
  rw [List.set_eq_take_append_cons_drop, if_pos h, List.eraseIdx_eq_take_drop_succ]
  exact List.perm_middle
theorem set_perm {L lay : Lay} (h : L.Perm lay) {i j : Nat} {x y : Nat × List UInt8} (hi : L[i]? = some x) (hj : lay[j]? = some x) : (L.set i y).Perm (lay.set j y) :=
  (cons_set hi).trans (((erase_perm h hi hj).cons y).trans (cons_set hj).symm)
theorem putAt_set {lay : Lay} {j p : Nat} {s t : List UInt8} (hj : lay[j]? = some (p, t)) : putAt lay j p s = lay.set j (p, s) := by
  have hlt : j < lay.length := (List.getElem?_eq_some_iff.1 hj).1
  unfold putAt
  rw [List.set_eq_take_append_cons_drop, if_pos hlt]
theorem bs_erase (L : Lay) (i : Nat) : bsOf (itsOf (L.eraseIdx i)) = (bsOf (itsOf L)).eraseIdx i := by
  simp only [List.eraseIdx_eq_take_drop_succ, bsOf, itsOf, List.map_append, List.map_take, List.map_drop]
theorem bs_set (L : Lay) (i p : Nat) (s : List UInt8) : bsOf (itsOf (L.set i (p, s))) = (bsOf (itsOf L)).set i s := by
  rw [bsOf_its, bsOf_its, List.map_set]
theorem ps_set {L : Lay} {i p : Nat} {s t : List UInt8} (hi : L[i]? = some (p, t)) (hl : s.length = t.length) : psOf (itsOf (L.set i (p, s))) = psOf (itsOf L) := by
  rw [psOf_its, psOf_its, List.map_set]
  refine List.ext_getElem? fun k => ?_
  rw [List.getElem?_set]
  split
  · rename_i h
    subst h
    split
    · rw [List.getElem?_map, hi]; simp [hl]
    · rename_i h2
      rw [List.getElem?_eq_none (by omega)]
  · rfl
/-- What Free at something held leaves. -/
theorem held_free {al : List UInt8} {lay L : Lay} (hA : Area al lay) (hL : L.Perm lay) {i p : Nat} {s : List UInt8} (hi : L[i]? = some (p, s)) :
    freeA al.length lay (p : Int) = (render al.length (rm p lay), 0) ∧ Area (render al.length (rm p lay)) (rm p lay) ∧ (L.eraseIdx i).Perm (rm p lay) := by
  obtain ⟨j, hj⟩ := perm_at hL hi
  obtain ⟨h1, h2, -⟩ := freeA_rm hA (List.mem_of_getElem? hj)
  refine ⟨h1, h2, ?_⟩
  rw [rm_erase lay true 8 j (p, s) hA.2.2.1 hj]
  exact erase_perm hL hi hj
/-- What Put at something held makes. -/
theorem held_put {al : List UInt8} {lay L : Lay} (hA : Area al lay) (hL : L.Perm lay) {i p k : Nat} {t s : List UInt8} (hi : L[i]? = some (p, t)) (hs : 1 ≤ s.length) (hk : k + s.length ≤ t.length) :
    ∃ lay', putS al ((p : Int) + (k : Int)) s = (over al (p + k) s, 0) ∧ Area (over al (p + k) s) lay' ∧ (L.set i (p, over t k s)).Perm lay' := by
  obtain ⟨j, hj⟩ := perm_at hL hi
  obtain ⟨h1, -⟩ := area_put (s := s) hA hj hk
  refine ⟨_, putS_at hA hj hs hk, h1, ?_⟩
  rw [putAt_set hj]
  exact set_perm hL hi hj
/-- What Alloc makes. -/
theorem held_alloc {al : List UInt8} {lay L : Lay} (hA : Area al lay) (hL : L.Perm lay) {n : Nat} (h1 : 1 ≤ n) (h2 : n ≤ 8192) (hfit : endOf 8 (allocL n 8 lay).1 ≤ al.length) :
    allocA al.length lay (n : Int) = (render al.length (allocL n 8 lay).1, ((allocL n 8 lay).2 : Int), 0) ∧ Area (render al.length (allocL n 8 lay).1) (allocL n 8 lay).1 ∧ (L ++ [((allocL n 8 lay).2, zs n)]).Perm (allocL n 8 lay).1 := by
  refine ⟨?_, area_render (allocL_ok h1 hA.2.2.1) hA.1 hA.2.1 hfit, (hL.append_right _).trans (alloc_perm n lay 8).symm⟩
  unfold allocA
  rw [if_neg (by omega), Int.toNat_natCast, if_pos hfit]
/-! ### A string struck out of a slice -/
theorem elem49d : Try.prog.elem 49 = 9 := by kernel_rfl
theorem slice49d : Try.prog.underlying 49 = some (.slice (Try.prog.elem 49)) := by kernel_rfl
theorem sizeOf9 (w : World) : (sizeOf 9).run Try.prog w = .ok 1 w := by kernel_rfl
def cutB (g l cap : Nat) : Addr := if cap = l then ⟨g, 0, none⟩ else ⟨g, l, none⟩
@[go_sem high] theorem run_cutl49 (g len cap : Nat) (w : World) (kl : IntKind) (l : Int) (h0 : 0 ≤ l) (h1 : l ≤ len) :
    (Instr.slice 49 (.slice (some ⟨g, 0, none⟩) len cap) (some (.int kl l)) none none).run Try.prog w = .ok (.slice (some (cutB g l.toNat cap)) (len - l.toNat) (cap - l.toNat)) w := by
  rw [run_slice_l (t := 49) (ht := slice49d) (kl := kl) (l := l) (h0 := h0) (h1 := h1), elem49d, sizeOf9]
  simp only [Result.andThen, sliced, cutB]
  split <;> simp [addr_add]
@[go_sem high] theorem run_cuth49 (g len cap : Nat) (w : World) (kh : IntKind) (h : Int) (h0 : 0 ≤ h) (h1 : h ≤ cap) :
    (Instr.slice 49 (.slice (some ⟨g, 0, none⟩) len cap) none (some (.int kh h)) none).run Try.prog w = .ok (.slice (some ⟨g, 0, none⟩) h.toNat cap) w := by
  rw [run_slice_h (t := 49) (ht := slice49d) (kh := kh) (h := h) (h0 := h0) (h2 := h1), elem49d, sizeOf9]
  simp only [Result.andThen, sliced, Nat.zero_mul, Nat.sub_zero]
  split <;> simp [addr_add]
theorem encS_len (bs : List (List UInt8)) : (encS bs).length = bs.length := by simp [encS]
theorem exec_del49 {w : World} {B g n cap i c : Nat} {A : Addr} {bs : List (List UInt8)} {ty : TypeId} (hP : OS w B (.slice (some ⟨g, 0, none⟩) n cap) bs) (hn : bs.length = n) (hi : i < n) (hA : n - (i + 1) = 0 ∨ A = ⟨g, i + 1, none⟩) :
    ∃ w', (Builtin.append_ #[49, 49] ty #[.slice (some ⟨g, 0, none⟩) i cap, .slice (some A) (n - (i + 1)) c]).run Try.prog w = .ok (.slice (some ⟨g, 0, none⟩) (n - 1) cap) w' ∧
      OS w' B (.slice (some ⟨g, 0, none⟩) (n - 1) cap) (bs.eraseIdx i) ∧ w.grownBy w' (some g) := by
  obtain ⟨i0, hi0, hz0, hz1, hz2⟩ := info_parts info9
  obtain ⟨hlen, ⟨hv, -⟩ | ⟨g', cap', cur, hv, hb, hg, hnc, hcm, hcs, ht⟩⟩ := hP
  · cases hv
  simp only [Value.slice.injEq, Option.some.injEq, Addr.mk.injEq] at hv
  obtain ⟨⟨rfl, -, -⟩, -, rfl⟩ := hv
  have hel := encS_len bs
  have hd : encS (bs.drop (i + 1)) = (encS bs).drop (i + 1) := by simp [encS]
  have htk : encS (bs.take i) = (encS bs).take i := by simp [encS]
  have hnl : (encS (bs.drop (i + 1))).length = (n - (i + 1)) * i0.size := by rw [encS_len, List.length_drop, hn, hz1, Nat.mul_one]
  have hcl : cur.toList.length = cap := by rw [Array.length_toList, hcs, Nat.mul_one]
  rw [Nat.mul_one] at ht
  have hrun := run_append_room (P := Try.prog) w 49 ty 9 i0 under49 hi0 g i cap cur hg A (n - (i + 1)) c (encS (bs.drop (i + 1))) hnl (fun j u hj => by
      have hjl := (List.getElem?_eq_some_iff.1 hj).1
      rw [hnl, hz1, Nat.mul_one] at hjl
      rcases hA with h0 | rfl
      · omega
      · rw [addr_add]
        rw [hd, List.getElem?_drop, ← ht, List.getElem?_take_of_lt (by omega)] at hj
        unfold World.cell?
        simp only [hg]
        simpa using hj) (fun u hu => by
      obtain ⟨p, -, rfl⟩ := List.mem_map.1 hu
      rfl) (by omega) (by rw [hnl, hz1, hcs]; omega)
  rw [hz1, show i + (n - (i + 1)) = n - 1 by omega] at hrun
  have hel2 : (bs.eraseIdx i).length = n - 1 := by rw [List.length_eraseIdx, if_pos (by omega), hn]
  refine ⟨_, hrun, ?_, ⟨rfl, rfl, rfl, by simp, fun k _ hk => setRow_other w g k _ (fun e => hk (by rw [e]))⟩⟩
  refine ⟨by rw [encS_len, Nat.mul_one], .inr ⟨g, cap, _, by rw [hel2], hb, setRow_heap w g cur _ 9 _ hg, by omega, hcm, ?_, ?_⟩⟩
  · simp only [List.size_toArray, List.length_append, List.length_take, List.length_drop, hnl, hz1, hcl]
    omega
  · have e1 : cur.toList.take (i * 1) = encS (bs.take i) := by
      rw [Nat.mul_one, htk, ← ht, List.take_take, Nat.min_eq_left (by omega)]
    have e2 : (encS (bs.take i) ++ encS (bs.drop (i + 1))).length = (n - 1) * 1 := by
      rw [List.length_append, encS_len, encS_len, List.length_take, List.length_drop]; omega
    rw [hel2, e1, List.eraseIdx_eq_take_drop_succ, encS_append]
    simp only [List.append_assoc]
    rw [← List.append_assoc, List.take_append_of_le_length (by omega), List.take_of_length_le (by omega)]
theorem step_del49 {ops : Array Oper} {o : Oper} {a : Act} {w : World} {K : Act → World → Prop} {Q : Exit → Act → World → Prop} {E : Prop} (hg : o.guard = none) (s x : Operand)
    (hop : o.op = Op.call { callee := Callee.builtin Builtin.append, args := #[s, x], argTypes := #[49, 49] }) (B g n cap i c : Nat) (A : Addr) (bs : List (List UInt8))
    (hs : a.eval s = .slice (some ⟨g, 0, none⟩) i cap) (hx : a.eval x = .slice (some A) (n - (i + 1)) c) (hP : OS w B (.slice (some ⟨g, 0, none⟩) n cap) bs) (hn : bs.length = n) (hi : i < n) (hA : n - (i + 1) = 0 ∨ A = ⟨g, i + 1, none⟩)
    (hK : ∀ w', OS w' B (.slice (some ⟨g, 0, none⟩) (n - 1) cap) (bs.eraseIdx i) → w.grownBy w' (some g) → K (a.put o.dst (.slice (some ⟨g, 0, none⟩) (n - 1) cap)) w') :
    if Region.wanted o (yielded ops a.tmps) = true then Oper.wp Try.prog o a w K Q else E := by
  have hw : Region.wanted o (yielded ops a.tmps) = true := by simp [Region.wanted, hg]
  rw [if_pos hw]
  obtain ⟨w', hrun, h1, h2⟩ := exec_del49 (ty := o.type) (c := c) hP hn hi hA
  unfold Oper.wp
  simp [execOp, hop, resolve, invoke, builtin, hs, hx, hrun, Result.andThen]
  exact hK w' h1 h2
theorem OS.cells {w : World} {B : Nat} {v : Value} {bs : List (List UInt8)} (h : OS w B v bs) (hne : 0 < bs.length) :
    ∃ g cap, v = .slice (some ⟨g, 0, none⟩) bs.length cap ∧ B ≤ g ∧ g < w.heap.size ∧ bs.length ≤ cap ∧ ∀ i t, bs[i]? = some t → w.cell? ⟨g, i, none⟩ = some (.string ⟨t.toArray⟩) := by
  obtain ⟨hl, ⟨rfl, hn⟩ | ⟨g, cap, cur, rfl, hb, hg, hnc, hcm, hcs, ht⟩⟩ := h
  · omega
  · refine ⟨g, cap, rfl, hb, (Array.getElem?_eq_some_iff.1 hg).1, hnc, fun i t hi => ?_⟩
    have hlt : i < bs.length := (List.getElem?_eq_some_iff.1 hi).1
    have h1 : (encS bs)[i]? = some (strV t) := by unfold encS; rw [List.getElem?_map, hi]; rfl
    rw [← ht, List.getElem?_take_of_lt (by omega)] at h1
    unfold strV at h1
    unfold World.cell?
    simp only [hg]
    simpa using h1
end Go.Proofs.Ytcfmimfkaabmkaa
