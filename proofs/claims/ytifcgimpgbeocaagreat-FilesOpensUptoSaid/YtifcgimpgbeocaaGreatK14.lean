/- An act of a store's drive. -/
import Derived.Test.YtifcgimpgbeocaaGreatK12
import Derived.Test.YtifcgimpgbeocaaGreatK13
import Derived.Test.YtifcgimpgbeocaaGreatK9
import Derived.Test.YtifcgimpgbeocaaGreatK11
set_option linter.unusedVariables false
set_option linter.unusedSimpArgs false
namespace Go.Proofs.YtifcgimpgbeocaaGreat
open Go.RowKit
variable {w : World} {U : Nat → Prop} {S D : Nat} {vp vq va vw vd vk : Value} {us ks : List Value} {st : St}
theorem SA.put (h : SA w U S D vp vq va vw vd vk us ks st) {a : Ac} {w' : World} {vp' vq' va' : Value} (hda : DA w' D vp' vq' va' (actDk st.dk a) (st.acts ++ [a])) (hf : Frm (FD D va) w w') (hvp : ∀ k, vp'.ownBlock = some k → w.heap.size ≤ k ∧ k < w'.heap.size ∧ va'.ownBlock ≠ some k) (hvq : ∀ k, vq'.ownBlock = some k → w.heap.size ≤ k ∧ k < w'.heap.size ∧ va'.ownBlock ≠ some k)
    (hva : va'.ownBlock = va.ownBlock ∨ ∃ k, va'.ownBlock = some k ∧ w.heap.size ≤ k) :
    SA w' (fun k => (U k ∨ w.heap.size ≤ k) ∧ k < w'.heap.size) S D vp' vq' va' vw vd vk us ks { st with dk := actDk st.dk a, acts := st.acts ++ [a] } := by
  have hvaU : ∀ k, va.ownBlock = some k → U k := fun k hk => h.uF k (.inr (.inr (.inl hk)))
  have hDU : U D := h.uF D (.inr (.inl rfl))
  have hSU : U S := h.uF S (.inl rfl)
  have hSl := h.ult S hSU
  have hDl := h.ult D hDU
  have hSF : ¬ FD D va S := fun hf => by
    rcases hf with hf | hf
    · exact h.sd hf
    · exact (h.no va (.inl rfl)).1 hf
  have hblk : ∀ k, k < w.heap.size → ¬ FD D va k → w'.heap[k]? = w.heap[k]? := fun k h1 h2 => hf.block k h1 h2
  have hS := hblk S hSl hSF
  have hR : ∀ x, x ∈ vk :: (us ++ ks) → ∀ k, x.ownBlock = some k → U k ∧ ¬ FSt S D va vw vd k := fun x hx k hk => h.uR x (by simp only [List.mem_cons] at hx ⊢; rcases hx with hx | hx; exact .inr (.inr (.inl hx)); exact .inr (.inr (.inr hx))) k hk
  have hRF : ∀ x, x ∈ vk :: (us ++ ks) → ∀ k, x.ownBlock = some k → w'.heap[k]? = w.heap[k]? := fun x hx k hk => hblk k (h.ult k (hR x hx k hk).1) (fun hf => by
    rcases hf with hf | hf
    · exact (hR x hx k hk).2 (.inr (.inl hf))
    · exact (hR x hx k hk).2 (.inr (.inr (.inl hf))))
  have hrow : ∀ {e s n : Nat} {v : Value} {xs : List Value}, w.ownsRow 0 e s v n xs → e ≠ 77 → v.ownBlock ≠ some D → ∀ k, v.ownBlock = some k → w'.heap[k]? = w.heap[k]? := fun {e s n v xs} hr he hD k hk => hblk k (World.ownsRow.lt hr k hk).2 (fun hf => by
    rcases hf with hf | hf
    · exact hD (by rw [hk, hf])
    · rcases rows_apart hr h.dv.oa he with h1 | h1
      · rw [h1] at hk; cases hk
      · exact h1 (by rw [hk, hf]))
  have hw := hrow h.ow (by decide) (h.no vw (.inr (.inl rfl))).2
  have hd := hrow h.od (by decide) (h.no vd (.inr (.inr rfl))).2
  have hva' : ∀ k, va'.ownBlock = some k → (va.ownBlock = some k) ∨ w.heap.size ≤ k := fun k hk => by
    rcases hva with h1 | ⟨j, h1, h2⟩
    · exact .inl (by rw [← h1]; exact hk)
    · rw [h1] at hk; cases hk; exact .inr h2
  refine ⟨fun k hk => hk.2, ?_, ?_, h.sd, ?_, cell_at hS h.s0, cell_at hS h.s1, cell_at hS h.s2, cell_at hS h.s3, cell_at hS h.s4, cell_at hS h.s5, cell_at hS h.s6, cell_at hS h.s7, cell_at hS h.s8, fun j => (frozen_at hS).trans (h.fz j), hda, ownsRow_of_block h.ow hw, ownsRow_of_block h.od hd, h.ul,
    fun i u d hu hd => ownsRow_of_block (h.ur i u d hu hd) (hRF u (by have := List.mem_of_getElem? hu; simp [this])), ownsRow_of_block h.ok (hRF vk (by simp)), h.kl, fun i u d hu hd => ownsRow_of_block (h.kr i u d hu hd) (hRF u (by have := List.mem_of_getElem? hu; simp [this]))⟩
  · intro k hk
    have hz := hf.size
    rcases hk with rfl | rfl | hk | hk | hk
    · exact ⟨.inl hSU, by omega⟩
    · exact ⟨.inl hDU, by omega⟩
    · refine ⟨?_, (World.ownsRow.lt hda.oa k hk).2⟩
      rcases hva' k hk with h1 | h1
      · exact .inl (hvaU k h1)
      · exact .inr h1
    · have := h.uF k (.inr (.inr (.inr (.inl hk)))); exact ⟨.inl this, by have := h.ult k this; omega⟩
    · have := h.uF k (.inr (.inr (.inr (.inr hk)))); exact ⟨.inl this, by have := h.ult k this; omega⟩
  · intro x hx k hk
    have hz := hf.size
    have hnew : w.heap.size ≤ k → k < w'.heap.size → (∀ j, va'.ownBlock = some j → j ≠ k) → ((U k ∨ w.heap.size ≤ k) ∧ k < w'.heap.size) ∧ ¬ FSt S D va' vw vd k := fun h1 h2 h3 => by
      refine ⟨⟨.inr h1, h2⟩, fun hf => ?_⟩
      rcases hf with hf | hf | hf | hf | hf
      · omega
      · omega
      · exact h3 k hf rfl
      · have := h.ult k (h.uF k (.inr (.inr (.inr (.inl hf))))); omega
      · have := h.ult k (h.uF k (.inr (.inr (.inr (.inr hf))))); omega
    simp only [List.mem_cons] at hx
    rcases hx with rfl | rfl | hx
    · obtain ⟨h1, h2, h3⟩ := hvp k hk
      exact hnew h1 h2 (fun j hj e => h3 (by rw [hj, e]))
    · obtain ⟨h1, h2, h3⟩ := hvq k hk
      exact hnew h1 h2 (fun j hj e => h3 (by rw [hj, e]))
    · have h1 := hR x (by simpa using hx) k hk
      have h2 := h.ult k h1.1
      refine ⟨⟨.inl h1.1, by omega⟩, fun hf => ?_⟩
      rcases hf with hf | hf | hf | hf | hf
      · exact h1.2 (.inl hf)
      · exact h1.2 (.inr (.inl hf))
      · rcases hva' k hf with h3 | h3
        · exact h1.2 (.inr (.inr (.inl h3)))
        · omega
      · exact h1.2 (.inr (.inr (.inr (.inl hf))))
      · exact h1.2 (.inr (.inr (.inr (.inr hf))))
  · rintro x (rfl | rfl | rfl)
    · refine ⟨fun e => ?_, fun e => ?_⟩
      · rcases hva' S e with h1 | h1
        · exact (h.no va (.inl rfl)).1 h1
        · omega
      · exact hda.na e
    · exact h.no x (.inr (.inl rfl))
    · exact h.no x (.inr (.inr rfl))
end Go.Proofs.YtifcgimpgbeocaaGreat
/- Plain: acts on a store's disk, one behind the other; what a commit does, step by step. -/
set_option linter.unusedVariables false
set_option linter.unusedSimpArgs false
namespace Go.Proofs.YtifcgimpgbeocaaGreat
open Go.RowKit
def actSt (st : St) (a : Ac) : St := { st with dk := actDk st.dk a, acts := st.acts ++ [a] }
def actsSt (st : St) (l : List Ac) : St := { st with dk := l.foldl actDk st.dk, acts := st.acts ++ l }
theorem actsSt_nil (st : St) : actsSt st [] = st := by unfold actsSt; simp
theorem actsSt_snoc (st : St) (l : List Ac) (a : Ac) : actsSt st (l ++ [a]) = actSt (actsSt st l) a := by unfold actsSt actSt; simp
theorem actsSt_app (st : St) (l m : List Ac) : actsSt st (l ++ m) = actsSt (actsSt st l) m := by unfold actsSt; simp
def wrA (w : Wt) : Ac := (false, w)
/-- What lay does. -/
def layAcs (n lg fr : Nat) (s : Bs) : List Ac := (layW n lg fr s).map wrA ++ [syncA]
/-- The k-th write of lay. -/
def layAt (n lg fr : Nat) (s : Bs) (p : Nat) : Ac := (false, ((firstPg n lg + p : Nat) : Int), pageOf s p)
theorem layW_take (n lg fr : Nat) (s : Bs) (k : Nat) (hk : k < pgs s.length - fr / 64) : ((layW n lg fr s).take (k + 1)).map wrA = ((layW n lg fr s).take k).map wrA ++ [layAt n lg fr s (fr / 64 + k)] := by
  have h := layW_at (n := n) (lg := lg) (fr := fr) (s := s) hk
  rw [List.take_add_one, h]
  simp [wrA, layAt]
theorem fold_len : ∀ (l : List Ac) (d : Dk), (l.foldl actDk d).1.length = d.1.length
  | [], d => rfl
  | a :: l, d => by
    rw [List.foldl_cons, fold_len l]
    unfold actDk crashDk
    split
    · simp only [crashTo_len]
    · rfl
theorem fold_wait : ∀ (l : List Ac) (d : Dk), (l.foldl actDk d).2.length ≤ d.2.length + l.length
  | [], d => by simp
  | a :: l, d => by
    rw [List.foldl_cons]
    have := fold_wait l (actDk d a)
    have h2 : (actDk d a).2.length ≤ d.2.length + 1 := by
      unfold actDk crashDk
      split
      · simp
      · simp
    simp only [List.length_cons]
    omega
theorem fold_dk : ∀ (l : List Ac) (d : Dk), isDk d = true → (∀ a ∈ l, ∀ e : Dk, e.1.length = d.1.length → isAct e a = true) → isDk (l.foldl actDk d) = true
  | [], d, h, _ => h
  | a :: l, d, h, ha => by
    rw [List.foldl_cons]
    refine fold_dk l _ (act_isDk h (ha a (List.mem_cons_self ..) d rfl)) fun b hb e he => ha b (List.mem_cons_of_mem _ hb) e ?_
    rw [he]
    exact fold_len [a] d
theorem isAct_wr {n lg fr : Nat} {s : Bs} {p : Nat} {e : Dk} (hn : 4 ≤ n) (hlg : lg ≤ 1) (hp : p < pgs s.length) (hs : s.length ≤ 64 * halfN n) (he : e.1.length = n) : isAct e (layAt n lg fr s p) = true := by
  have hpp : p < halfN n := by unfold pgs at hp; omega
  have := first_lt hn hlg hpp
  unfold layAt
  rw [isAct_write]
  rw [he, pageOf_len hp]
  simp
  omega
theorem isAct_syncA (e : Dk) : isAct e syncA = true := by
  show isAct e (true, 0, []) = true
  rw [isAct_sync]; rfl
theorem layAcs_dk {d : Dk} {lg fr : Nat} {s : Bs} (hd : isDk d = true) (hlg : lg ≤ 1) (hs : s.length ≤ 64 * halfN d.1.length) : isDk ((layAcs d.1.length lg fr s).foldl actDk d) = true := by
  have hdl := isDk_len hd
  refine fold_dk _ _ hd fun a ha e he => ?_
  unfold layAcs at ha
  rcases List.mem_append.1 ha with ha | ha
  · obtain ⟨x, hx, rfl⟩ := List.mem_map.1 ha
    obtain ⟨j, hj⟩ := List.getElem?_of_mem hx
    obtain ⟨h1, rfl⟩ := layW_get hj
    exact isAct_wr (fr := fr) hdl.1 hlg (by omega) hs he
  · simp only [List.mem_singleton] at ha
    rw [ha]; exact isAct_syncA e
theorem layAcs_wait (n lg fr : Nat) (s : Bs) (d : Dk) : ((layAcs n lg fr s).foldl actDk d).2 = [] := by
  unfold layAcs
  rw [List.foldl_append]
  rfl
theorem layAcs_len (n lg fr : Nat) (s : Bs) : (layAcs n lg fr s).length ≤ pgs s.length + 1 := by
  unfold layAcs
  rw [List.length_append, List.length_map, layW_len, List.length_singleton]
  omega
theorem commit_eq (st : St) : commitSt st = { actsSt (actsSt (actsSt st (layAcs st.dk.1.length (nLog st) (nFrom st) (nBytes st))) [headA st]) [syncA] with hd := nHd st, log := nBytes st, ops := [], kept := st.now } := by
  have e : (fun w : Wt => ((false, w) : Ac)) = wrA := rfl
  unfold commitSt actsSt nActs layAcs nW
  rw [e]
  simp [List.foldl_append]
end Go.Proofs.YtifcgimpgbeocaaGreat
/- A store since some world: acts of its drive. -/
set_option linter.unusedVariables false
set_option linter.unusedSimpArgs false
namespace Go.Proofs.YtifcgimpgbeocaaGreat
open Go.RowKit
/-- The store since w0: what has turned lay in its own memory (U0), or is newer than w0. -/
def SD (w0 : World) (U0 : Nat → Prop) (S D : Nat) (vw vd vk : Value) (us ks : List Value) (st : St) (w : World) : Prop :=
  ∃ vp vq va U, SA w U S D vp vq va vw vd vk us ks st ∧ Frm U0 w0 w ∧ ∀ k, U k → U0 k ∨ w0.heap.size ≤ k
variable {w0 w w' : World} {U0 : Nat → Prop} {S D : Nat} {vw vd vk : Value} {us ks : List Value} {st : St}
theorem SD.start {vp vq va : Value} (h : SA w0 U0 S D vp vq va vw vd vk us ks st) : SD w0 U0 S D vw vd vk us ks st w0 := ⟨vp, vq, va, U0, h, Frm.refl _ _, fun k hk => .inl hk⟩
theorem SD.below (h : SD w0 U0 S D vw vd vk us ks st w) (hb : Below w.heap.size w w') : SD w0 U0 S D vw vd vk us ks st w' := by
  obtain ⟨vp, vq, va, U, h, hf, hu⟩ := h
  exact ⟨vp, vq, va, U, h.below hb, hf.trans (Frm.of_below (F := U0) hb) (fun i _ h => h), hu⟩
theorem SD.drew (h : SD w0 U0 S D vw vd vk us ks st w) : SD w0 U0 S D vw vd vk us ks st w.drew := h.below (drew_below w)
theorem SD.post (h : SD w0 U0 S D vw vd vk us ks st w) (v : Value) : StPost U0 S v st w0 (.returned v) w := by
  obtain ⟨vp, vq, va, U, h, hf, hu⟩ := h
  exact ⟨rfl, U, ⟨D, vp, vq, va, vw, vd, vk, us, ks, h⟩, hf, hu⟩
theorem SD.cells (h : SD w0 U0 S D vw vd vk us ks st w) : w.cell? ⟨S, 0, none⟩ = some (.pointer (some ⟨D, 0, none⟩)) ∧ ∃ op cp oq cq, w.cell? ⟨D, 0, none⟩ = some (.slice op st.dk.1.length cp) ∧ w.cell? ⟨D, 1, none⟩ = some (.slice oq st.dk.2.length cq) := by
  obtain ⟨vp, vq, va, U, h, hf, hu⟩ := h
  obtain ⟨op, cp, e1, -⟩ := h.dv.rp
  obtain ⟨oq, cq, e2, -⟩ := h.dv.rq
  exact ⟨h.s0, op, cp, oq, cq, by rw [← e1]; exact h.dv.c0, by rw [← e2]; exact h.dv.c1⟩
theorem SD.size (h : SD w0 U0 S D vw vd vk us ks st w) : w0.heap.size ≤ w.heap.size := by obtain ⟨vp, vq, va, U, h, hf, hu⟩ := h; exact hf.size
/-- An act. -/
theorem sput_any (a : Ac) (h : SD w0 U0 S D vw vd vk us ks st w) (hd : isDk st.dk = true) (hl : st.dk.2.length ≤ 1000000) (ha : st.acts.length ≤ 1000000) :
    Calls Tryz.prog 62 #[.pointer (some ⟨D, 0, none⟩), acV a] w (fun e w' => e = .returned (.tuple #[]) ∧ SD w0 U0 S D vw vd vk us ks (actSt st a) w') := by
  obtain ⟨vp, vq, va, U, h, hf, hu⟩ := h
  refine (put_any D vp vq va st.dk st.acts a w h.dv hd hl ha).mono ?_
  rintro e w' ⟨rfl, vp', vq', va', hda, hfr, hvp, hvq, hva⟩
  refine ⟨rfl, vp', vq', va', _, h.put hda hfr hvp hvq hva, hf.trans hfr ?_, ?_⟩
  · rintro i hi (hk | hk)
    · exact (hu i (h.uF i (.inr (.inl hk)))).elim id (fun h => by omega)
    · exact (hu i (h.uF i (.inr (.inr (.inl hk))))).elim id (fun h => by omega)
  · rintro k ⟨hk | hk, -⟩
    · exact hu k hk
    · exact .inr (Nat.le_trans hf.size hk)
end Go.Proofs.YtifcgimpgbeocaaGreat
/- The last step of a commit: head, log, operations and what is kept are set anew. -/
set_option linter.unusedVariables false
set_option linter.unusedSimpArgs false
namespace Go.Proofs.YtifcgimpgbeocaaGreat
open Go.RowKit
/-- The seven stores of a commit's end. -/
def setHead (w : World) (S : Nat) (a b c d : Int) (L v : Value) : World :=
  ((((((w.setCell ⟨S, 1, none⟩ (.int .i64 a)).setCell ⟨S, 2, none⟩ (.int .i64 b)).setCell ⟨S, 3, none⟩ (.int .i64 c)).setCell ⟨S, 4, none⟩ (.int .i64 d)).setCell ⟨S, 5, none⟩ L).setCell ⟨S, 6, none⟩ (.slice none 0 0)).setCell ⟨S, 8, none⟩ v
theorem setHead_frm (w : World) (S : Nat) (a b c d : Int) (L v : Value) : Frm (fun k => k = S) w (setHead w S a b c d L v) := by
  unfold setHead
  exact frm_setCell (frm_setCell (frm_setCell (frm_setCell (frm_setCell (frm_setCell (frm_setCell (Frm.refl _ _) (by rfl) _) (by rfl) _) (by rfl) _) (by rfl) _) (by rfl) _) (by rfl) _) (by rfl) _
theorem setHead_other (w : World) (S : Nat) (a b c d : Int) (L v : Value) (j : Nat) (h : j = 0 ∨ j = 7) : (setHead w S a b c d L v).cell? ⟨S, j, none⟩ = w.cell? ⟨S, j, none⟩ := by
  unfold setHead
  rw [setS _ _ _ _ _ (by omega), setS _ _ _ _ _ (by omega), setS _ _ _ _ _ (by omega), setS _ _ _ _ _ (by omega), setS _ _ _ _ _ (by omega), setS _ _ _ _ _ (by omega), setS _ _ _ _ _ (by omega)]
theorem sameS {w : World} {S i : Nat} {x : Value} (v : Value) (h : w.cell? ⟨S, i, none⟩ = some x) : (w.setCell ⟨S, i, none⟩ v).cell? ⟨S, i, none⟩ = some v := World.cell?_setCell_same _ _ _ h
theorem setHead_cells {w : World} {S : Nat} (a b c d : Int) (L v : Value) (h : ∀ j, j < 9 → ∃ x, w.cell? ⟨S, j, none⟩ = some x) :
    (setHead w S a b c d L v).cell? ⟨S, 1, none⟩ = some (.int .i64 a) ∧ (setHead w S a b c d L v).cell? ⟨S, 2, none⟩ = some (.int .i64 b) ∧ (setHead w S a b c d L v).cell? ⟨S, 3, none⟩ = some (.int .i64 c) ∧ (setHead w S a b c d L v).cell? ⟨S, 4, none⟩ = some (.int .i64 d) ∧
    (setHead w S a b c d L v).cell? ⟨S, 5, none⟩ = some L ∧ (setHead w S a b c d L v).cell? ⟨S, 6, none⟩ = some (.slice none 0 0) ∧ (setHead w S a b c d L v).cell? ⟨S, 8, none⟩ = some v := by
  obtain ⟨x1, h1⟩ := h 1 (by decide)
  obtain ⟨x2, h2⟩ := h 2 (by decide)
  obtain ⟨x3, h3⟩ := h 3 (by decide)
  obtain ⟨x4, h4⟩ := h 4 (by decide)
  obtain ⟨x5, h5⟩ := h 5 (by decide)
  obtain ⟨x6, h6⟩ := h 6 (by decide)
  obtain ⟨x8, h8⟩ := h 8 (by decide)
  unfold setHead
  refine ⟨?_, ?_, ?_, ?_, ?_, ?_, ?_⟩
  · rw [setS _ _ _ _ _ (by decide), setS _ _ _ _ _ (by decide), setS _ _ _ _ _ (by decide), setS _ _ _ _ _ (by decide), setS _ _ _ _ _ (by decide), setS _ _ _ _ _ (by decide)]
    exact sameS _ h1
  · rw [setS _ _ _ _ _ (by decide), setS _ _ _ _ _ (by decide), setS _ _ _ _ _ (by decide), setS _ _ _ _ _ (by decide), setS _ _ _ _ _ (by decide)]
    exact sameS (x := x2) _ (by rw [setS _ _ _ _ _ (by decide)]; exact h2)
  · rw [setS _ _ _ _ _ (by decide), setS _ _ _ _ _ (by decide), setS _ _ _ _ _ (by decide), setS _ _ _ _ _ (by decide)]
    exact sameS (x := x3) _ (by rw [setS _ _ _ _ _ (by decide), setS _ _ _ _ _ (by decide)]; exact h3)
  · rw [setS _ _ _ _ _ (by decide), setS _ _ _ _ _ (by decide), setS _ _ _ _ _ (by decide)]
    exact sameS (x := x4) _ (by rw [setS _ _ _ _ _ (by decide), setS _ _ _ _ _ (by decide), setS _ _ _ _ _ (by decide)]; exact h4)
  · rw [setS _ _ _ _ _ (by decide), setS _ _ _ _ _ (by decide)]
    exact sameS (x := x5) _ (by rw [setS _ _ _ _ _ (by decide), setS _ _ _ _ _ (by decide), setS _ _ _ _ _ (by decide), setS _ _ _ _ _ (by decide)]; exact h5)
  · rw [setS _ _ _ _ _ (by decide)]
    exact sameS (x := x6) _ (by rw [setS _ _ _ _ _ (by decide), setS _ _ _ _ _ (by decide), setS _ _ _ _ _ (by decide), setS _ _ _ _ _ (by decide), setS _ _ _ _ _ (by decide)]; exact h6)
  · exact sameS (x := x8) _ (by rw [setS _ _ _ _ _ (by decide), setS _ _ _ _ _ (by decide), setS _ _ _ _ _ (by decide), setS _ _ _ _ _ (by decide), setS _ _ _ _ _ (by decide), setS _ _ _ _ _ (by decide)]; exact h8)
variable {w : World} {U : Nat → Prop} {S D : Nat} {vp vq va vw vd vk : Value} {us ks : List Value} {st : St}
theorem SA.commit_post {W8 : World} (h : SA w U S D vp vq va vw vd vk us ks st) (hb : Below w.heap.size w W8) {B : Nat} {v : Value} (hd : Hd) (L : Bs) (ho : OD W8 B v st.now) (hB : w.heap.size ≤ B) :
    ∃ U', So (setHead W8 S hd.1 hd.2.1 hd.2.2.1 hd.2.2.2 (strV L) v) U' S { st with hd := hd, log := L, ops := [], kept := st.now } ∧ Frm U w (setHead W8 S hd.1 hd.2.1 hd.2.2.1 hd.2.2.2 (strV L) v) ∧ ∀ k, U' k → U k ∨ w.heap.size ≤ k := by
  obtain ⟨us', hul, hod, hur⟩ := ho
  have h8 := h.below hb
  have hvo : ∀ k, v.ownBlock = some k → B ≤ k ∧ k < W8.heap.size := fun k hk => World.ownsRow.lt hod k hk
  have hSl := h.ult S (h.uF S (.inl rfl))
  have hDl := h.ult D (h.uF D (.inr (.inl rfl)))
  have huo : ∀ u, u ∈ us' → ∀ k, u.ownBlock = some k → B ≤ k ∧ k < W8.heap.size := fun u hu k hk => by
    obtain ⟨i, hi⟩ := List.getElem?_of_mem hu
    obtain ⟨d, hd⟩ : ∃ d, st.now[i]? = some d := ⟨_, List.getElem?_eq_getElem (by have := (List.getElem?_eq_some_iff.1 hi).1; omega)⟩
    exact World.ownsRow.lt (hur i u d hi hd) k hk
  have hf := setHead_frm W8 S hd.1 hd.2.1 hd.2.2.1 hd.2.2.2 (strV L) v
  obtain ⟨c1, c2, c3, c4, c5, c6, c8⟩ := setHead_cells (w := W8) (S := S) hd.1 hd.2.1 hd.2.2.1 hd.2.2.2 (strV L) v (fun j hj => by
    match j, hj with
    | 0, _ => exact ⟨_, h8.s0⟩
    | 1, _ => exact ⟨_, h8.s1⟩
    | 2, _ => exact ⟨_, h8.s2⟩
    | 3, _ => exact ⟨_, h8.s3⟩
    | 4, _ => exact ⟨_, h8.s4⟩
    | 5, _ => exact ⟨_, h8.s5⟩
    | 6, _ => exact ⟨_, h8.s6⟩
    | 7, _ => exact ⟨_, h8.s7⟩
    | 8, _ => exact ⟨_, h8.s8⟩)
  have hfl : ∀ k, k < w.heap.size → FSt S D va vw vd k ∨ True := fun _ _ => .inr trivial
  refine ⟨fun k => U k ∨ v.ownBlock = some k ∨ ∃ u ∈ us', u.ownBlock = some k, ⟨D, vp, vq, va, .slice none 0 0, vd, v, us, us', SA.inS (w := W8) hf h8.dv ?_ ?_ ?_ h.sd ?_ ?_ c1 c2 c3 c4 c5 c6 ?_ c8 ?_ (oO_nil _ _) h8.od h8.ul h8.ur (hod.mono (Nat.zero_le _)) hul (fun i u d hu hd => (hur i u d hu hd).mono (Nat.zero_le _))⟩, ?_, ?_⟩
  · rintro k (hk | hk | ⟨u, hu, hk⟩)
    · exact h8.ult k hk
    · exact (hvo k hk).2
    · exact (huo u hu k hk).2
  · rintro k (hk | hk | hk | hk | hk)
    · exact .inl (h.uF k (.inl hk))
    · exact .inl (h.uF k (.inr (.inl hk)))
    · exact .inl (h.uF k (.inr (.inr (.inl hk))))
    · cases hk
    · exact .inl (h.uF k (.inr (.inr (.inr (.inr hk)))))
  · intro x hx k hk
    have hold : x ∈ vp :: vq :: vk :: (us ++ ks) → (U k ∨ v.ownBlock = some k ∨ ∃ u ∈ us', u.ownBlock = some k) ∧ ¬ FSt S D va (.slice none 0 0) vd k := fun hx' => by
      refine ⟨.inl (h.uR x hx' k hk).1, fun hf => ?_⟩
      rcases hf with hf | hf | hf | hf | hf
      · exact (h.uR x hx' k hk).2 (.inl hf)
      · exact (h.uR x hx' k hk).2 (.inr (.inl hf))
      · exact (h.uR x hx' k hk).2 (.inr (.inr (.inl hf)))
      · cases hf
      · exact (h.uR x hx' k hk).2 (.inr (.inr (.inr (.inr hf))))
    have hnew : B ≤ k → ¬ FSt S D va (.slice none 0 0) vd k := fun h1 hf => by
      rcases hf with hf | hf | hf | hf | hf
      · omega
      · omega
      · have := h.ult k (h.uF k (.inr (.inr (.inl hf)))); omega
      · cases hf
      · have := h.ult k (h.uF k (.inr (.inr (.inr (.inr hf))))); omega
    simp only [List.mem_cons, List.mem_append] at hx
    rcases hx with hx | hx | hx | hx | hx
    · exact hold (by simp [hx])
    · exact hold (by simp [hx])
    · subst hx; exact ⟨.inr (.inl hk), hnew (hvo k hk).1⟩
    · exact hold (by simp [hx])
    · exact ⟨.inr (.inr ⟨x, hx, hk⟩), hnew (huo x hx k hk).1⟩
  · rintro x (rfl | rfl | rfl)
    · exact h.no x (.inl rfl)
    · exact ⟨by simp [Value.ownBlock], by simp [Value.ownBlock]⟩
    · exact h.no x (.inr (.inr rfl))
  · rw [setHead_other _ _ _ _ _ _ _ _ _ (.inl rfl)]; exact h8.s0
  · rw [setHead_other _ _ _ _ _ _ _ _ _ (.inr rfl)]; exact h8.s7
  · intro j
    unfold setHead
    rw [World.frozen?_setCell, World.frozen?_setCell, World.frozen?_setCell, World.frozen?_setCell, World.frozen?_setCell, World.frozen?_setCell, World.frozen?_setCell]
    exact h8.fz j
  · exact (Frm.of_below (F := U) hb).trans hf (fun i hi e => by rw [e]; exact h.uF S (.inl rfl))
  · rintro k (hk | hk | ⟨u, hu, hk⟩)
    · exact .inl hk
    · exact .inr (by have := (hvo k hk).1; omega)
    · exact .inr (by have := (huo u hu k hk).1; omega)
end Go.Proofs.YtifcgimpgbeocaaGreat
/- A store that has just been laid out; its first copies. -/
set_option linter.unusedVariables false
set_option linter.unusedSimpArgs false
namespace Go.Proofs.YtifcgimpgbeocaaGreat
open Go.RowKit
/-! ### A region whose operations each leave a fact that lasts -/
def FamX (F : Nat → Value → World → Prop) (B : Nat) (w0 : World) (L : Nat → Bool) (vals : Nat → Value) (w : World) : Prop := Below B w0 w ∧ B ≤ w.heap.size ∧ ∀ i, L i = true → F i (vals i) w
def Lasts (F : Nat → Value → World → Prop) : Prop := ∀ i v w w', F i v w → Below w.heap.size w w' → F i v w'
theorem FamX.add {F : Nat → Value → World → Prop} {B : Nat} {w0 : World} {L : Nat → Bool} {vals : Nat → Value} {w w' : World} {i : Nat} {v : Value} (hF : Lasts F) (h : FamX F B w0 L vals w) (hb : Below w.heap.size w w') (hv : F i v w') : FamX F B w0 (addTo L i) (upd vals i v) w' := by
  refine ⟨h.1.trans (hb.mono h.2.1), Nat.le_trans h.2.1 hb.size, fun j hj => ?_⟩
  by_cases e : j = i
  · subst e
    rw [upd_self]; exact hv
  · rw [upd_ne _ _ e]
    rw [addTo_ne _ e] at hj
    exact hF _ _ _ _ (h.2.2 j hj) hb
theorem FamX.start {F : Nat → Value → World → Prop} (w : World) (vals : Nat → Value) : FamX F w.heap.size w (fun _ => false) vals w.drew := ⟨drew_below w, Nat.le_refl _, fun i h => by cases h⟩
theorem FamX.same {F : Nat → Value → World → Prop} {B : Nat} {w0 : World} {L : Nat → Bool} {vals : Nat → Value} {w : World} {i : Nat} {v : Value} (hF : Lasts F) (h : FamX F B w0 L vals w) (hv : F i v w) : FamX F B w0 (addTo L i) (upd vals i v) w := h.add hF (Below.refl _ _) hv
/-! ### A row of datasets that are nil -/
theorem run_makeV (w : World) (n : Nat) (hn : n ≤ 1000000) :
    (Instr.makeSlice 35 (.int .i64 (n : Int)) (.int .i64 (n : Int))).run Tryz.prog w = .ok (.slice (some ⟨w.heap.size, 0, none⟩) n n) (w.alloc (.cells (List.replicate n (.slice none 0 0)).toArray 69)) := by
  obtain ⟨i0, hi, hz0, hz1, hz2⟩ := info_parts infoD
  have := run_make (P := Tryz.prog) w 35 69 i0 (.slice none 0 0) underD hi hz0 .i64 .i64 n n (by omega) (Int.le_refl _) (by rw [hz2]; omega) (by omega)
  rw [this]
  have e : madeCells (Value.slice none 0 0).cells (n * 1) = (List.replicate n (.slice none 0 0)).toArray := by
    apply Array.ext'
    rw [Nat.mul_one, show (Value.slice none 0 0).cells = #[.slice none 0 0] from rfl, toList_madeCells_one]
  rw [Int.toNat_natCast, hz1, e]
theorem oV_new (w : World) (n : Nat) (hn : n ≤ 1000000) : OV (w.alloc (.cells (List.replicate n (.slice none 0 0)).toArray 69)) w.heap.size (.slice (some ⟨w.heap.size, 0, none⟩) n n) (List.replicate n (.slice none 0 0)) := by
  unfold OV
  rw [List.length_replicate]
  exact ⟨by simp, .inr ⟨_, n, _, rfl, Nat.le_refl _, heap_alloc_new w _, Nat.le_refl _, by unfold maxLen; omega, by simp, by simp⟩⟩
/-! ### A store just laid out -/
theorem row_off {w : World} {B e s n k e' : Nat} {v : Value} {xs : List Value} {c : Array Value} {fz : Nat × Nat} (h : w.ownsRow B e s v n xs) (hk : w.heap[k]? = some (.cells c e' fz)) (hne : e ≠ e') : v.ownBlock ≠ some k := by
  obtain ⟨-, ⟨rfl, -⟩ | ⟨g, cap, cur, rfl, -, hg, -⟩⟩ := h
  · simp [Value.ownBlock]
  · simp only [Value.ownBlock, ne_eq, Option.some.injEq]
    rintro rfl
    rw [hk] at hg
    simp only [Option.some.injEq, Obj.cells.injEq] at hg
    exact hne hg.2.1.symm
theorem block_cell {w : World} {b j : Nat} {c : Array Value} {t : TypeId} {v : Value} (h : w.heap[b]? = some (.cells c t (0, 0))) (hj : c[j]? = some v) : w.cell? ⟨b, j, none⟩ = some v := by
  unfold World.cell?
  rw [h]
  simpa using hj
theorem block_fz {w : World} {b : Nat} {c : Array Value} {t : TypeId} (h : w.heap[b]? = some (.cells c t (0, 0))) (j : Nat) : w.frozen? ⟨b, j, none⟩ = false := by
  unfold World.frozen?
  rw [h]
  simp
theorem SA.born {w : World} {B S D n : Nat} {a b vd : Value} {d : Dk} {h : Hd} {C : Bs} (hS : w.heap[S]? = some (.cells #[.pointer (some ⟨D, 0, none⟩), .int .i64 h.1, .int .i64 h.2.1, .int .i64 h.2.2.1, .int .i64 h.2.2.2, strV C, .slice none 0 0, vd, .slice none 0 0] 97 (0, 0)))
    (hD : w.heap[D]? = some (.cells #[a, b, .slice none 0 0] 94 (0, 0))) (hBS : B ≤ S) (hBD : B ≤ D) (ha : OS w B a d.1) (hb : OW w B b d.2) (hv : OV w B vd (List.replicate n (.slice none 0 0))) :
    SA w (fun k => B ≤ k ∧ k < w.heap.size) S D a b (.slice none 0 0) (.slice none 0 0) vd (.slice none 0 0) (List.replicate n (.slice none 0 0)) [] ⟨d, h, C, [], empties n, [], []⟩ := by
  have hSl : S < w.heap.size := (Array.getElem?_eq_some_iff.1 hS).1
  have hDl : D < w.heap.size := (Array.getElem?_eq_some_iff.1 hD).1
  have nil : ∀ k, (Value.slice none 0 0).ownBlock = some k → False := fun k hk => by cases hk
  refine ⟨fun k hk => hk.2, ?_, ?_, ?_, ?_, block_cell hS rfl, block_cell hS rfl, block_cell hS rfl, block_cell hS rfl, block_cell hS rfl, block_cell hS rfl, block_cell hS rfl, block_cell hS rfl, block_cell hS rfl, block_fz hS,
    ⟨block_cell hD rfl, block_cell hD rfl, block_cell hD rfl, block_fz hD, ha.rd, hb.rd, ⟨rfl, .inl ⟨rfl, rfl⟩⟩, by simp [Value.ownBlock]⟩, oO_nil _ _, hv.mono (Nat.zero_le _), by simp [empties], ?_, oV_nil _ _, rfl, ?_⟩
  · rintro k (rfl | rfl | hk | hk | hk)
    · exact ⟨hBS, hSl⟩
    · exact ⟨hBD, hDl⟩
    · exact (nil k hk).elim
    · exact (nil k hk).elim
    · exact World.ownsRow.lt hv k hk
  · intro x hx k hk
    have hrow : x = a ∨ x = b := by
      simp only [List.mem_cons, List.mem_append, List.mem_replicate] at hx
      rcases hx with hx | hx | hx | hx | hx
      · exact .inl hx
      · exact .inr hx
      · subst hx; exact (nil k hk).elim
      · rw [hx.2] at hk; exact (nil k hk).elim
      · cases hx
    rcases hrow with rfl | rfl
    · refine ⟨World.ownsRow.lt ha k hk, ?_⟩
      rintro (rfl | rfl | hf | hf | hf)
      · exact row_off ha hS (by decide) hk
      · exact row_off ha hD (by decide) hk
      · exact nil k hf
      · exact nil k hf
      · rcases rows_apart ha hv (by decide) with h1 | h1
        · rw [h1] at hk; cases hk
        · exact h1 (by rw [hk, hf])
    · refine ⟨World.ownsRow.lt hb k hk, ?_⟩
      rintro (rfl | rfl | hf | hf | hf)
      · exact row_off hb hS (by decide) hk
      · exact row_off hb hD (by decide) hk
      · exact nil k hf
      · exact nil k hf
      · rcases rows_apart hb hv (by decide) with h1 | h1
        · rw [h1] at hk; cases hk
        · exact h1 (by rw [hk, hf])
  · rintro rfl
    rw [hS] at hD
    simp only [Option.some.injEq, Obj.cells.injEq] at hD
    exact absurd hD.2.1 (by decide)
  · rintro x (rfl | rfl | rfl)
    · exact ⟨by simp [Value.ownBlock], by simp [Value.ownBlock]⟩
    · exact ⟨by simp [Value.ownBlock], by simp [Value.ownBlock]⟩
    · exact ⟨row_off hv hS (by decide), row_off hv hD (by decide)⟩
  · intro i u x hu hx
    have h1 := (List.mem_replicate.1 (List.mem_of_getElem? hu)).2
    have h2 := (List.mem_replicate.1 (List.mem_of_getElem? hx)).2
    rw [h1, h2]
    exact ⟨rfl, .inl ⟨rfl, rfl⟩⟩
  · intro i u x hu hx
    simp at hu
variable {w : World} {U : Nat → Prop} {S D : Nat} {vp vq va vw vd vk : Value} {us ks : List Value} {st : St}
/-- What is kept is what there is. -/
theorem SA.open_post {W8 : World} (h : SA w U S D vp vq va vw vd vk us ks st) (hb : Below w.heap.size w W8) {B : Nat} {v : Value} (ho : OD W8 B v st.now) (hB : w.heap.size ≤ B) :
    ∃ U', So (W8.setCell ⟨S, 8, none⟩ v) U' S { st with kept := st.now } ∧ Frm U w (W8.setCell ⟨S, 8, none⟩ v) ∧ ∀ k, U' k → U k ∨ w.heap.size ≤ k := by
  obtain ⟨us', hul, hod, hur⟩ := ho
  have h8 := h.below hb
  have hvo : ∀ k, v.ownBlock = some k → B ≤ k ∧ k < W8.heap.size := fun k hk => World.ownsRow.lt hod k hk
  have hSl := h.ult S (h.uF S (.inl rfl))
  have hDl := h.ult D (h.uF D (.inr (.inl rfl)))
  have huo : ∀ u, u ∈ us' → ∀ k, u.ownBlock = some k → B ≤ k ∧ k < W8.heap.size := fun u hu k hk => by
    obtain ⟨i, hi⟩ := List.getElem?_of_mem hu
    obtain ⟨d, hd⟩ : ∃ d, st.now[i]? = some d := ⟨_, List.getElem?_eq_getElem (by have := (List.getElem?_eq_some_iff.1 hi).1; omega)⟩
    exact World.ownsRow.lt (hur i u d hi hd) k hk
  have hf : Frm (fun k => k = S) W8 (W8.setCell ⟨S, 8, none⟩ v) := frm_setCell (Frm.refl _ _) (by rfl) _
  have hcell : ∀ j, j ≠ 8 → (W8.setCell ⟨S, 8, none⟩ v).cell? ⟨S, j, none⟩ = W8.cell? ⟨S, j, none⟩ := fun j h1 => setS _ _ _ _ _ h1
  refine ⟨fun k => U k ∨ v.ownBlock = some k ∨ ∃ u ∈ us', u.ownBlock = some k, ⟨D, vp, vq, va, vw, vd, v, us, us', SA.inS (w := W8) hf h8.dv ?_ ?_ ?_ h.sd h.no ?_ ?_ ?_ ?_ ?_ ?_ ?_ ?_ ?_ ?_ h8.ow h8.od h8.ul h8.ur (hod.mono (Nat.zero_le _)) hul (fun i u d hu hd => (hur i u d hu hd).mono (Nat.zero_le _))⟩, ?_, ?_⟩
  · rintro k (hk | hk | ⟨u, hu, hk⟩)
    · exact h8.ult k hk
    · exact (hvo k hk).2
    · exact (huo u hu k hk).2
  · exact fun k hk => .inl (h.uF k hk)
  · intro x hx k hk
    have hnew : B ≤ k → ¬ FSt S D va vw vd k := fun h1 hf => by have := h.ult k (h.uF k hf); omega
    have hold : x ∈ vp :: vq :: vk :: (us ++ ks) → (U k ∨ v.ownBlock = some k ∨ ∃ u ∈ us', u.ownBlock = some k) ∧ ¬ FSt S D va vw vd k := fun hx' => ⟨.inl (h.uR x hx' k hk).1, (h.uR x hx' k hk).2⟩
    simp only [List.mem_cons, List.mem_append] at hx
    rcases hx with hx | hx | hx | hx | hx
    · exact hold (by simp [hx])
    · exact hold (by simp [hx])
    · subst hx; exact ⟨.inr (.inl hk), hnew (hvo k hk).1⟩
    · exact hold (by simp [hx])
    · exact ⟨.inr (.inr ⟨x, hx, hk⟩), hnew (huo x hx k hk).1⟩
  · rw [hcell _ (by decide)]; exact h8.s0
  · rw [hcell _ (by decide)]; exact h8.s1
  · rw [hcell _ (by decide)]; exact h8.s2
  · rw [hcell _ (by decide)]; exact h8.s3
  · rw [hcell _ (by decide)]; exact h8.s4
  · rw [hcell _ (by decide)]; exact h8.s5
  · rw [hcell _ (by decide)]; exact h8.s6
  · rw [hcell _ (by decide)]; exact h8.s7
  · exact World.cell?_setCell_same _ _ _ h8.s8
  · intro j; rw [World.frozen?_setCell]; exact h8.fz j
  · exact frm_setCell (Frm.of_below hb) (h.uF S (.inl rfl)) _
  · rintro k (hk | hk | ⟨u, hu, hk⟩)
    · exact .inl hk
    · exact .inr (by have := (hvo k hk).1; omega)
    · exact .inr (by have := (huo u hu k hk).1; omega)
end Go.Proofs.YtifcgimpgbeocaaGreat
/- The reference's page of a head. -/
set_option linter.unusedVariables false
set_option linter.unusedSimpArgs false
namespace Go.Proofs.YtifcgimpgbeocaaGreat
open Go.RowKit
attribute [local go_sem] Oper.semAt_some
def HpF (Z a b c e : Nat) (s1 s2 s3 : Bs) (i : Nat) (v : Value) (w : World) : Prop := match i with
  | 0 => v = .pointer (some ⟨Z, 0, none⟩)
  | 1 => v = .int .i64 (a : Int)
  | 2 => v = strV s1
  | 3 => v = .pointer (some ⟨Z, 1, none⟩)
  | 4 => v = .int .i64 (b : Int)
  | 5 => v = .int .u8 ((b : Int) % 256)
  | 6 => v = .pointer (some ⟨Z, 2, none⟩)
  | 7 => v = .int .i64 (c : Int)
  | 8 => v = .int .u8 ((c : Int) % 256)
  | 9 => ∃ g, v = .slice (some ⟨g, 0, none⟩) 4 4 ∧ Bytes w g [UInt8.ofNat b, UInt8.ofNat c, 0, 0]
  | 10 => v = strV [UInt8.ofNat b, UInt8.ofNat c, 0, 0]
  | 11 => v = strV (s1 ++ [UInt8.ofNat b, UInt8.ofNat c, 0, 0])
  | 12 => v = .pointer (some ⟨Z, 3, none⟩)
  | 13 => v = .int .i64 (e : Int)
  | 14 => v = strV s2
  | 15 => v = strV (s1 ++ [UInt8.ofNat b, UInt8.ofNat c, 0, 0] ++ s2)
  | 16 => v = strV s3
  | 17 => v = strV (s1 ++ [UInt8.ofNat b, UInt8.ofNat c, 0, 0] ++ s2 ++ s3)
  | 18 => v = .pointer (some ⟨Z, 0, none⟩)
  | 19 => v = .int .i64 (a : Int)
  | 20 => v = strV s1
  | 21 => v = strV (s1 ++ [UInt8.ofNat b, UInt8.ofNat c, 0, 0] ++ s2 ++ s3 ++ s1)
  | 22 => v = strV (s1 ++ [UInt8.ofNat b, UInt8.ofNat c, 0, 0] ++ s2 ++ s3 ++ s1)
  | _ => True
theorem HpF_lasts {Z a b c e : Nat} {s1 s2 s3 : Bs} : Lasts (HpF Z a b c e s1 s2 s3) := fun i v w w' hf hb => by
  match i, hf with
  | 0, hf | 1, hf | 2, hf | 3, hf | 4, hf | 5, hf | 6, hf | 7, hf | 8, hf | 10, hf | 11, hf | 12, hf | 13, hf | 14, hf | 15, hf | 16, hf | 17, hf | 18, hf | 19, hf | 20, hf | 21, hf | 22, hf => exact hf
  | 9, ⟨g, h1, h2⟩ => exact ⟨g, h1, h2.below hb h2.lt⟩
  | _ + 23, _ => trivial
set_option maxHeartbeats 2000000 in
set_option maxRecDepth 100000 in
theorem rheadpage_any (h : Hd) (w : World) (h1 : h.1 < 4294967296) (h2 : h.2.2.2 < 4294967296) (h3 : h.2.1 < 4294967296) (h4 : h.2.2.1 < 4294967296) :
    Calls Tryz.prog 33 #[.agg #[.int .i64 h.1, .int .i64 h.2.1, .int .i64 h.2.2.1, .int .i64 h.2.2.2]] w (Ret (strV (headPg h)) w) := by
  obtain ⟨a, b, c, e⟩ := h
  simp only at h1 h2 h3 h4
  have HF1 := hid (fun w' => rfour_any a w' h1)
  have HF2 := hid (fun w' => rfour_any e w' h2)
  have HF3 : Hid (∀ w', Calls Tryz.prog 58 #[.int .i64 48] w' (Ret (strV (zs 48)) w')) := fun w' => rzeros_any 48 w' (by decide)
  have HP : Hid (headPg (a, b, c, e) = four a ++ [UInt8.ofNat b, UInt8.ofNat c, 0, 0] ++ four e ++ zs 48 ++ four a) := by unfold Hid headPg; simp only [List.append_assoc]
  have HL1 : (four a).length = 4 := rfl
  have HL2 : (four e).length = 4 := rfl
  have HL3 : (zs 48).length = 48 := rfl
  obtain ⟨s1, hs1⟩ : ∃ s, four a = s := ⟨_, rfl⟩
  obtain ⟨s2, hs2⟩ : ∃ s, four e = s := ⟨_, rfl⟩
  obtain ⟨s3, hs3⟩ : ∃ s, zs 48 = s := ⟨_, rfl⟩
  rw [hs1] at HF1 HP HL1; rw [hs2] at HF2 HP HL2; rw [hs3] at HF3 HP HL3
  clear hs1 hs2 hs3
  have HLL : Hid (s1.length = 4 ∧ s2.length = 4 ∧ s3.length = 48) := ⟨HL1, HL2, HL3⟩
  have u1 : (b : Int) % 256 = (((UInt8.ofNat b).toNat : Nat) : Int) := u8_of _ _ rfl
  have u2 : (c : Int) % 256 = (((UInt8.ofNat c).toNat : Nat) : Int) := u8_of _ _ rfl
  have HU := hid (And.intro u1 u2)
  obtain ⟨W, hW⟩ : ∃ W, W = w.alloc (.cells #[.int .i64 (a : Int), .int .i64 (b : Int), .int .i64 (c : Int), .int .i64 (e : Int)] 34) := ⟨_, rfl⟩
  have HBW : Hid (Below w.heap.size w W) := by rw [hW]; exact balloc (Below.refl _ _) _
  have c0 : W.cell? ⟨w.heap.size, 0, none⟩ = some (.int .i64 (a : Int)) := by rw [hW]; exact cell_new _ _ _ 0 _ rfl
  have c1 : W.cell? ⟨w.heap.size, 1, none⟩ = some (.int .i64 (b : Int)) := by rw [hW]; exact cell_new _ _ _ 1 _ rfl
  have c2 : W.cell? ⟨w.heap.size, 2, none⟩ = some (.int .i64 (c : Int)) := by rw [hW]; exact cell_new _ _ _ 2 _ rfl
  have c3 : W.cell? ⟨w.heap.size, 3, none⟩ = some (.int .i64 (e : Int)) := by rw [hW]; exact cell_new _ _ _ 3 _ rfl
  obtain ⟨Z, hZ⟩ : ∃ Z, w.heap.size = Z := ⟨_, rfl⟩
  rw [hZ] at c0 c1 c2 c3
  have HW := hid hW; have HZ := hid hZ
  clear hW hZ u1 u2 h1 h2 h3 h4 HL1 HL2 HL3
  go_enter Tryz.func33, Tryz.ntmps33
  go_upto_region 1 with fail
  have e0 := HW.out
  try rw [HZ.out]
  simp only [← e0]
  clear e0 HW
  refine wp_region_freeX (by kernel_rfl) (by kernel_rfl) (FamX (HpF Z a b c e s1 s2 s3) W.heap.size W) (fun vals => FamX.start W vals) (fun vals => ?_)
  refine wpX_op rfl ?_ (fun K hK => ?_)
  · intro L w' hC hL hdep hS
    have hb := hS.1
    have HS := hid hS; clear hS hdep hC
    go_simp
    exact HS.out.same HpF_lasts rfl
  go_simp; refine hK _ ?_; clear hK K
  refine wpX_op rfl ?_ (fun K hK => ?_)
  · intro L w' hC hL hdep hS
    have hb := hS.1
    have e0 : vals 0 = .pointer (some ⟨Z, 0, none⟩) := hS.2.2 0 (hdep ⟨0, .data⟩ (by simp) rfl)
    have c0 := keepc hb c0
    have c1 := keepc hb c1
    have c2 := keepc hb c2
    have c3 := keepc hb c3
    have HS := hid hS; clear hS hdep hC
    go_simp
    exact HS.out.same HpF_lasts rfl
  go_simp; refine hK _ ?_; clear hK K
  refine wpX_op rfl ?_ (fun K hK => ?_)
  · intro L w' hC hL hdep hS
    have hb := hS.1
    have e1 : vals 1 = .int .i64 (a : Int) := hS.2.2 1 (hdep ⟨1, .data⟩ (by simp) rfl)
    have HS := hid hS; clear hS hdep hC
    go_simp
    refine (HF1.out w').mono ?_
    rintro e w3 ⟨rfl, hb3⟩
    exact ⟨_, rfl, HS.out.add HpF_lasts hb3 rfl⟩
  go_simp; refine hK _ ?_; clear hK K
  refine wpX_op rfl ?_ (fun K hK => ?_)
  · intro L w' hC hL hdep hS
    have hb := hS.1
    have HS := hid hS; clear hS hdep hC
    go_simp
    exact HS.out.same HpF_lasts rfl
  go_simp; refine hK _ ?_; clear hK K
  refine wpX_op rfl ?_ (fun K hK => ?_)
  · intro L w' hC hL hdep hS
    have hb := hS.1
    have e3 : vals 3 = .pointer (some ⟨Z, 1, none⟩) := hS.2.2 3 (hdep ⟨3, .data⟩ (by simp) rfl)
    have c0 := keepc hb c0
    have c1 := keepc hb c1
    have c2 := keepc hb c2
    have c3 := keepc hb c3
    have HS := hid hS; clear hS hdep hC
    go_simp
    exact HS.out.same HpF_lasts rfl
  go_simp; refine hK _ ?_; clear hK K
  refine wpX_op rfl ?_ (fun K hK => ?_)
  · intro L w' hC hL hdep hS
    have hb := hS.1
    have e4 : vals 4 = .int .i64 (b : Int) := hS.2.2 4 (hdep ⟨4, .data⟩ (by simp) rfl)
    have HS := hid hS; clear hS hdep hC
    go_simp
    exact HS.out.same HpF_lasts rfl
  go_simp; refine hK _ ?_; clear hK K
  refine wpX_op rfl ?_ (fun K hK => ?_)
  · intro L w' hC hL hdep hS
    have hb := hS.1
    have HS := hid hS; clear hS hdep hC
    go_simp
    exact HS.out.same HpF_lasts rfl
  go_simp; refine hK _ ?_; clear hK K
  refine wpX_op rfl ?_ (fun K hK => ?_)
  · intro L w' hC hL hdep hS
    have hb := hS.1
    have e6 : vals 6 = .pointer (some ⟨Z, 2, none⟩) := hS.2.2 6 (hdep ⟨6, .data⟩ (by simp) rfl)
    have c0 := keepc hb c0
    have c1 := keepc hb c1
    have c2 := keepc hb c2
    have c3 := keepc hb c3
    have HS := hid hS; clear hS hdep hC
    go_simp
    exact HS.out.same HpF_lasts rfl
  go_simp; refine hK _ ?_; clear hK K
  refine wpX_op rfl ?_ (fun K hK => ?_)
  · intro L w' hC hL hdep hS
    have hb := hS.1
    have e7 : vals 7 = .int .i64 (c : Int) := hS.2.2 7 (hdep ⟨7, .data⟩ (by simp) rfl)
    have HS := hid hS; clear hS hdep hC
    go_simp
    exact HS.out.same HpF_lasts rfl
  go_simp; refine hK _ ?_; clear hK K
  refine wpX_op rfl ?_ (fun K hK => ?_)
  · intro L w' hC hL hdep hS
    have hb := hS.1
    have e5 : vals 5 = .int .u8 ((b : Int) % 256) := hS.2.2 5 (hdep ⟨5, .data⟩ (by simp) rfl)
    have e8 : vals 8 = .int .u8 ((c : Int) % 256) := hS.2.2 8 (hdep ⟨8, .data⟩ (by simp) rfl)
    have HS := hid hS; clear hS hdep hC
    go_simp
    rw [HU.out.1, HU.out.2]
    exact HS.out.add HpF_lasts (balloc (Below.refl _ _) _) ⟨_, rfl, by simpa [cellsB] using bytes_new w' [UInt8.ofNat b, UInt8.ofNat c, 0, 0]⟩
  go_simp; refine hK _ ?_; clear hK K
  refine wpX_op rfl ?_ (fun K hK => ?_)
  · intro L w' hC hL hdep hS
    have hb := hS.1
    have e9 : ∃ g, (vals 9) = .slice (some ⟨g, 0, none⟩) 4 4 ∧ Bytes w' g [UInt8.ofNat b, UInt8.ofNat c, 0, 0] := hS.2.2 9 (hdep ⟨9, .data⟩ (by simp) rfl)
    obtain ⟨g, e9a, hB9⟩ := e9
    have t10 : (convert 131 9 (.slice (some ⟨g, 0, none⟩) 4 4)).run Tryz.prog w' = .ok (strV [UInt8.ofNat b, UInt8.ofNat c, 0, 0]) w' := run_strB w' g 4 [UInt8.ofNat b, UInt8.ofNat c, 0, 0] hB9
    have HS := hid hS; clear hS hdep hC
    go_simp
    refine HS.out.same HpF_lasts ?_
    simp [HpF, strV]
  go_simp; refine hK _ ?_; clear hK K
  refine wpX_op rfl ?_ (fun K hK => ?_)
  · intro L w' hC hL hdep hS
    have hb := hS.1
    have e2 : vals 2 = strV s1 := hS.2.2 2 (hdep ⟨2, .data⟩ (by simp) rfl)
    have e10 : vals 10 = strV [UInt8.ofNat b, UInt8.ofNat c, 0, 0] := hS.2.2 10 (hdep ⟨10, .data⟩ (by simp) rfl)
    have HS := hid hS; clear hS hdep hC
    go_simp
    have hl := HLL.out
    rw [if_neg (by omega)]
    refine HS.out.same HpF_lasts ?_
    simp [HpF, strV]
  go_simp; refine hK _ ?_; clear hK K
  refine wpX_op rfl ?_ (fun K hK => ?_)
  · intro L w' hC hL hdep hS
    have hb := hS.1
    have HS := hid hS; clear hS hdep hC
    go_simp
    exact HS.out.same HpF_lasts rfl
  go_simp; refine hK _ ?_; clear hK K
  refine wpX_op rfl ?_ (fun K hK => ?_)
  · intro L w' hC hL hdep hS
    have hb := hS.1
    have e12 : vals 12 = .pointer (some ⟨Z, 3, none⟩) := hS.2.2 12 (hdep ⟨12, .data⟩ (by simp) rfl)
    have c0 := keepc hb c0
    have c1 := keepc hb c1
    have c2 := keepc hb c2
    have c3 := keepc hb c3
    have HS := hid hS; clear hS hdep hC
    go_simp
    exact HS.out.same HpF_lasts rfl
  go_simp; refine hK _ ?_; clear hK K
  refine wpX_op rfl ?_ (fun K hK => ?_)
  · intro L w' hC hL hdep hS
    have hb := hS.1
    have e13 : vals 13 = .int .i64 (e : Int) := hS.2.2 13 (hdep ⟨13, .data⟩ (by simp) rfl)
    have HS := hid hS; clear hS hdep hC
    go_simp
    refine (HF2.out w').mono ?_
    rintro e w3 ⟨rfl, hb3⟩
    exact ⟨_, rfl, HS.out.add HpF_lasts hb3 rfl⟩
  go_simp; refine hK _ ?_; clear hK K
  refine wpX_op rfl ?_ (fun K hK => ?_)
  · intro L w' hC hL hdep hS
    have hb := hS.1
    have e11 : vals 11 = strV (s1 ++ [UInt8.ofNat b, UInt8.ofNat c, 0, 0]) := hS.2.2 11 (hdep ⟨11, .data⟩ (by simp) rfl)
    have e14 : vals 14 = strV s2 := hS.2.2 14 (hdep ⟨14, .data⟩ (by simp) rfl)
    have HS := hid hS; clear hS hdep hC
    go_simp
    have hl := HLL.out
    rw [if_neg (by omega)]
    refine HS.out.same HpF_lasts ?_
    simp [HpF, strV]
  go_simp; refine hK _ ?_; clear hK K
  refine wpX_op rfl ?_ (fun K hK => ?_)
  · intro L w' hC hL hdep hS
    have hb := hS.1
    have HS := hid hS; clear hS hdep hC
    go_simp
    refine (HF3.out w').mono ?_
    rintro e w3 ⟨rfl, hb3⟩
    exact ⟨_, rfl, HS.out.add HpF_lasts hb3 rfl⟩
  go_simp; refine hK _ ?_; clear hK K
  refine wpX_op rfl ?_ (fun K hK => ?_)
  · intro L w' hC hL hdep hS
    have hb := hS.1
    have e15 : vals 15 = strV (s1 ++ [UInt8.ofNat b, UInt8.ofNat c, 0, 0] ++ s2) := hS.2.2 15 (hdep ⟨15, .data⟩ (by simp) rfl)
    have e16 : vals 16 = strV s3 := hS.2.2 16 (hdep ⟨16, .data⟩ (by simp) rfl)
    have HS := hid hS; clear hS hdep hC
    go_simp
    have hl := HLL.out
    rw [if_neg (by omega)]
    refine HS.out.same HpF_lasts ?_
    simp [HpF, strV]
  go_simp; refine hK _ ?_; clear hK K
  refine wpX_op rfl ?_ (fun K hK => ?_)
  · intro L w' hC hL hdep hS
    have hb := hS.1
    have HS := hid hS; clear hS hdep hC
    go_simp
    exact HS.out.same HpF_lasts rfl
  go_simp; refine hK _ ?_; clear hK K
  refine wpX_op rfl ?_ (fun K hK => ?_)
  · intro L w' hC hL hdep hS
    have hb := hS.1
    have e18 : vals 18 = .pointer (some ⟨Z, 0, none⟩) := hS.2.2 18 (hdep ⟨18, .data⟩ (by simp) rfl)
    have c0 := keepc hb c0
    have c1 := keepc hb c1
    have c2 := keepc hb c2
    have c3 := keepc hb c3
    have HS := hid hS; clear hS hdep hC
    go_simp
    exact HS.out.same HpF_lasts rfl
  go_simp; refine hK _ ?_; clear hK K
  refine wpX_op rfl ?_ (fun K hK => ?_)
  · intro L w' hC hL hdep hS
    have hb := hS.1
    have e19 : vals 19 = .int .i64 (a : Int) := hS.2.2 19 (hdep ⟨19, .data⟩ (by simp) rfl)
    have HS := hid hS; clear hS hdep hC
    go_simp
    refine (HF1.out w').mono ?_
    rintro e w3 ⟨rfl, hb3⟩
    exact ⟨_, rfl, HS.out.add HpF_lasts hb3 rfl⟩
  go_simp; refine hK _ ?_; clear hK K
  refine wpX_op rfl ?_ (fun K hK => ?_)
  · intro L w' hC hL hdep hS
    have hb := hS.1
    have e17 : vals 17 = strV (s1 ++ [UInt8.ofNat b, UInt8.ofNat c, 0, 0] ++ s2 ++ s3) := hS.2.2 17 (hdep ⟨17, .data⟩ (by simp) rfl)
    have e20 : vals 20 = strV s1 := hS.2.2 20 (hdep ⟨20, .data⟩ (by simp) rfl)
    have HS := hid hS; clear hS hdep hC
    go_simp
    have hl := HLL.out
    rw [if_neg (by omega)]
    refine HS.out.same HpF_lasts ?_
    simp [HpF, strV]
  go_simp; refine hK _ ?_; clear hK K
  refine wpX_op rfl ?_ (fun K hK => ?_)
  · intro L w' hC hL hdep hS
    have hb := hS.1
    have e21 : vals 21 = strV (s1 ++ [UInt8.ofNat b, UInt8.ofNat c, 0, 0] ++ s2 ++ s3 ++ s1) := hS.2.2 21 (hdep ⟨21, .data⟩ (by simp) rfl)
    have HS := hid hS; clear hS hdep hC
    go_simp
    refine HS.out.same HpF_lasts ?_
    simp [HpF, strV]
  go_simp; refine hK _ ?_; clear hK K
  refine wpX_nil (fun L w' hL hS => ?_)
  have hb := hS.1
  have e22 : vals 22 = strV (s1 ++ [UInt8.ofNat b, UInt8.ofNat c, 0, 0] ++ s2 ++ s3 ++ s1) := hS.2.2 22 (hL 22 (by decide))
  have HE := hid e22
  clear hL hS e22
  go_wp2_with fail
  go_ret
  exact ⟨by rw [HP.out, ← HE.out]; rfl, below_step hb HBW.out⟩
end Go.Proofs.YtifcgimpgbeocaaGreat
