/- The reference's SameAll. -/
import Derived.Test.YtifcgimpgbeocaaK26
import Derived.Test.YtifcgimpgbeocaaK11
import Derived.Test.YtifcgimpgbeocaaK25
import Derived.Test.YtifcgimpgbeocaaK32
import Derived.Test.YtifcgimpgbeocaaK9
import Derived.Test.YtifcgimpgbeocaaK6
set_option linter.unusedVariables false
set_option linter.unusedSimpArgs false
namespace Go.Proofs.Ytifcgimpgbeocaa
open Go.RowKit
attribute [local go_sem] Oper.semAt_some
/-- All records ahead of k are the same. -/
def SameToD (a b : List Ds) (k : Nat) : Prop := a.take k = b.take k
theorem sameToD_succ {a b : List Ds} {k : Nat} {x y : Ds} (h : SameToD a b k) (ha : a[k]? = some x) (hb : b[k]? = some y) : SameToD a b (k + 1) ↔ x = y := by
  obtain ⟨h1, rfl⟩ := List.getElem?_eq_some_iff.1 ha
  obtain ⟨h2, rfl⟩ := List.getElem?_eq_some_iff.1 hb
  unfold SameToD at *
  rw [List.take_succ_eq_append_getElem h1, List.take_succ_eq_append_getElem h2, h, List.append_right_inj]
  simp
set_option maxHeartbeats 1000000 in
set_option maxRecDepth 100000 in
theorem rsameall_any (a b : List Ds) (u v : Value) (w : World) (hA : RdD w u a) (hB : RdD w v b) (hl : a.length ≤ maxLen) (hl2 : ∀ d ∈ a, d.length ≤ maxLen) : Calls Try.prog 32 #[u, v] w (Ret (.bool (decide (a = b))) w) := by
  have hl2 := hid hl2
  unfold maxLen at hl
  obtain ⟨oa, ca, rfl, hca, hac⟩ := hA
  obtain ⟨ob, cb, rfl, hcb, hbc⟩ := hB
  by_cases hlen : a.length = b.length
  rotate_left
  · have e : decide (a = b) = false := by simp; rintro rfl; exact hlen rfl
    rw [e]
    have g1 : ((a.length : Int) == (b.length : Int)) = false := by rw [beq_eq_false_iff_ne]; omega
    obtain ⟨N, hN⟩ : ∃ N, a.length = N := ⟨_, rfl⟩
    obtain ⟨M, hM⟩ : ∃ M, b.length = M := ⟨_, rfl⟩
    rw [hN, hM] at g1 ⊢
    clear e hac hbc hN hM hlen hl hca hcb
    go_enter Try.func32, Try.ntmps32
    go_wp2_with fail
    go_ret
    exact ⟨rfl, Below.refl _ _⟩
  have HAC := hid hac; have HBC := hid hbc
  obtain ⟨E, hE⟩ : ∃ E, decide (a = b) = E := ⟨_, rfl⟩
  rw [hE]
  have HE := hid hE
  obtain ⟨N, hN⟩ : ∃ N, a.length = N := ⟨_, rfl⟩
  rw [← hlen] at hcb ⊢
  have hM : b.length = N := by omega
  rw [hN] at hl hca hcb ⊢
  have HN := hid hN; have HM := hid hM
  clear hac hbc hE hN hM hlen
  go_enter Try.func32, Try.ntmps32
  go_wp2_with fail
  go_loopw [5] (fun i wr => ∃ k : Nat, i = .int .i64 k ∧ k ≤ N ∧ Hid (SameToD a b k) ∧ Hid (Below w.heap.size w wr)) (fun i _ => N - (intOf i).toNat)
  case atStart => exact ⟨0, rfl, Nat.zero_le _, rfl, Below.refl _ _⟩
  case round =>
    obtain ⟨k, rfl, hk, HT, HB⟩ := hrel
    by_cases hlt : k < N
    rotate_left
    · have e : E = true := by
        have h1 := HT.out
        unfold SameToD at h1
        rw [List.take_of_length_le (by have := HN.out; omega), List.take_of_length_le (by have := HM.out; omega)] at h1
        rw [← HE.out]; simpa using h1
      subst e
      go_wp2_with fail
      go_ret
      exact ⟨rfl, HB.out⟩
    obtain ⟨x, hx⟩ : ∃ r, a[k]? = some r := ⟨_, List.getElem?_eq_getElem (by have := HN.out; omega)⟩
    obtain ⟨y, hy⟩ : ∃ r, b[k]? = some r := ⟨_, List.getElem?_eq_getElem (by have := HM.out; omega)⟩
    have hAC := HAC.out; have hBC := HBC.out
    rcases hAC with hc | ⟨b1, off1, rfl, hbl1, hac⟩
    · rw [hc] at hx; simp at hx
    rcases hBC with hc | ⟨b2, off2, rfl, hbl2, hbc⟩
    · rw [hc] at hy; simp at hy
    obtain ⟨ux, c0, hux⟩ := hac k x hx
    obtain ⟨uy, d0, huy⟩ := hbc k y hy
    have c0 := HB.out.cell (p := ⟨b1, off1 + k, none⟩) hbl1 |>.trans c0
    have d0 := HB.out.cell (p := ⟨b2, off2 + k, none⟩) hbl2 |>.trans d0
    have HSM := hid (fun w' (hb : Below w.heap.size w w') => rsame_any x y ux uy w' (hux.below hb) (huy.below hb) (hl2.out x (List.mem_of_getElem? hx)))
    have hst := sameToD_succ HT.out hx hy
    by_cases hxy : x = y
    · have HT1 := hid (hst.2 hxy)
      have e1 : decide (x = y) = true := by simpa using hxy
      rw [e1] at HSM
      clear hst hx hy hac hbc hux huy hxy e1
      go_wp2_with fail
      go_region_with (go_at_call 41; refine (HSM.out _ HB.out.drew).mono ?_; rintro e w1 ⟨rfl, hb1⟩; have HB1 := hid (below_step (below_step hb1 ((Below.refl wr.heap.size wr).drew)) HB.out); clear hb1)
      all_goals
        go_wp2_with fail
        go_roundw
        case rel => exact ⟨k + 1, by go_num, by omega, HT1, HB1.out⟩
        case measure => simp [intOf]; omega
    · have e : E = false := by
        rw [← HE.out]
        simp only [decide_eq_false_iff_not]
        rintro rfl
        rw [hx] at hy
        cases hy
        exact hxy rfl
      have e1 : decide (x = y) = false := by simpa using hxy
      rw [e1] at HSM
      subst e
      clear hst hx hy hac hbc hux huy hxy e1
      go_wp2_with fail
      go_region_with (go_at_call 41; refine (HSM.out _ HB.out.drew).mono ?_; rintro e w1 ⟨rfl, hb1⟩; have HB1 := hid (below_step (below_step hb1 ((Below.refl wr.heap.size wr).drew)) HB.out); clear hb1)
      all_goals
        go_wp2_with fail
        go_ret
        exact ⟨rfl, HB1.out⟩
end Go.Proofs.Ytifcgimpgbeocaa
/- What lasts whatever a store turns: facts about memory beside it; a store behind a step. -/
set_option linter.unusedVariables false
set_option linter.unusedSimpArgs false
namespace Go.Proofs.Ytifcgimpgbeocaa
open Go.RowKit
/-- P holds however the blocks U turn. -/
def Keep (U : Nat → Prop) (w : World) (P : World → Prop) : Prop := ∀ w', Frm U w w' → P w'
variable {U U' : Nat → Prop} {w w1 w2 w0 : World} {P : World → Prop} {S : Nat} {st : St}
theorem Keep.now (h : Keep U w P) : P w := h w (Frm.refl _ _)
theorem Keep.step (h : Keep U w P) (hf : Frm U w w1) (hU : ∀ k, U' k → U k ∨ w.heap.size ≤ k) : Keep U' w1 P := fun w' hf' => h w' (hf.trans hf' fun i hi hk => (hU i hk).resolve_right (by omega))
theorem Keep.below (h : Keep U w P) (hb : Below w.heap.size w w1) : Keep U w1 P := h.step (Frm.of_below hb) fun k hk => .inl hk
theorem Keep.nil (h : Keep (fun _ => False) w P) (hU : ∀ k, U k → w.heap.size ≤ k) : Keep U w P := fun w' hf => h w' ⟨hf.os, hf.tape, hf.output, hf.size, fun k hk _ => hf.block k hk (fun hu => by have := hU k hu; omega)⟩
theorem keep_R {v : Value} {d : Ds} {B : Nat} (h : OR w B v d) (hU : ∀ k, v.ownBlock = some k → ¬ U k) : Keep U w (fun w' => RdR w' v d) := fun w' hf =>
  OR.rd (B := B) (hf.row h hU)
theorem keep_O {v : Value} {d : List FOp} {B : Nat} (h : OO w B v d) (hU : ∀ k, v.ownBlock = some k → ¬ U k) : Keep U w (fun w' => RdO w' v d) := fun w' hf =>
  OO.rd (B := B) (hf.row h hU)
theorem keep_S {v : Value} {d : List Bs} {B : Nat} (h : OS w B v d) (hU : ∀ k, v.ownBlock = some k → ¬ U k) : Keep U w (fun w' => RdS w' v d) := fun w' hf =>
  OS.rd (B := B) (hf.row h hU)
theorem keep_W {v : Value} {d : List Wt} {B : Nat} (h : OW w B v d) (hU : ∀ k, v.ownBlock = some k → ¬ U k) : Keep U w (fun w' => RdW w' v d) := fun w' hf =>
  OW.rd (B := B) (hf.row h hU)
theorem keep_A {v : Value} {d : List Ac} {B : Nat} (h : OA w B v d) (hU : ∀ k, v.ownBlock = some k → ¬ U k) : Keep U w (fun w' => RdA w' v d) := fun w' hf =>
  OA.rd (B := B) (hf.row h hU)
theorem keep_D {v : Value} {d : List Ds} {B : Nat} (h : OD w B v d) (hU : ∀ k, U k → k < B) : Keep U w (fun w' => RdD w' v d) := fun w' hf => by
  obtain ⟨us, h1, h2, h3⟩ := h
  refine OD.rd (B := B) ⟨us, h1, hf.row h2 fun k hk hu => ?_, fun i u x hu hx => hf.row (h3 i u x hu hx) fun k hk hu' => ?_⟩
  · have := hU k hu; have := (World.ownsRow.lt h2 k hk).1; omega
  · have := hU k hu'; have := (World.ownsRow.lt (h3 i u x hu hx) k hk).1; omega
theorem own_not {B e s n : Nat} {v : Value} {xs : List Value} (h : w.ownsRow B e s v n xs) (hU : ∀ k, U k → k < B) : ∀ k, v.ownBlock = some k → ¬ U k := fun k hk hu => by have := hU k hu; have := (World.ownsRow.lt h k hk).1; omega
theorem own_not' {B e s n : Nat} {v : Value} {xs : List Value} (h : w.ownsRow B e s v n xs) (hU : ∀ k, U k → w.heap.size ≤ k) : ∀ k, v.ownBlock = some k → ¬ U k := fun k hk hu => by have := hU k hu; have := (World.ownsRow.lt h k hk).2; omega
theorem So.ult (h : So w U S st) : ∀ k, U k → k < w.heap.size := h.lt
/-- A store opened since w0, in the world w: nothing that was there at w0 has turned. -/
structure Hold (w0 : World) (U : Nat → Prop) (S : Nat) (st : St) (w : World) : Prop where
  so : So w U S st
  b : Below w0.heap.size w0 w
  ge : ∀ k, U k → w0.heap.size ≤ k
theorem Hold.below (h : Hold w0 U S st w) (hb : Below w.heap.size w w1) : Hold w0 U S st w1 := ⟨h.so.below hb, below_step hb h.b, h.ge⟩
theorem Hold.step {v : Value} {st' : St} {e : Ending} (h : Hold w0 U S st w) (hp : StPost U S v st' w e w1) : e = .returned v ∧ ∃ U', Hold w0 U' S st' w1 ∧ Frm U w w1 ∧ ∀ k, U' k → U k ∨ w.heap.size ≤ k := by
  obtain ⟨e1, U', h1, h2, h3⟩ := hp
  refine ⟨e1, U', ⟨h1, Frm.below h.b h2 h.ge h.b.size, fun k hk => ?_⟩, h2, h3⟩
  rcases h3 k hk with h4 | h4
  · exact h.ge k h4
  · exact Nat.le_trans h.b.size h4
theorem Hold.cell (h : Hold w0 U S st w) {a : Addr} {v : Value} (k : w0.cell? a = some v) : w.cell? a = some v := keepc h.b k
/-- What stood at w0 stands. -/
theorem Hold.keep0 (h : Hold w0 U S st w) (hP : ∀ w', Below w0.heap.size w0 w' → P w') : Keep U w P := fun w' hf => hP w' (Frm.below h.b hf h.ge h.b.size)
end Go.Proofs.Ytifcgimpgbeocaa
/- Rows of lists of datasets; appends to rows of numbers and of such lists; a struct of two cells set; what lasts. -/
set_option linter.unusedVariables false
set_option linter.unusedSimpArgs false
namespace Go.Proofs.Ytifcgimpgbeocaa
open Go.RowKit
theorem underH : Try.prog.underlying 35 = some (.slice 51) := by kernel_rfl
theorem infoH : (Try.prog.info? 51).map (fun i => (i.zero, i.size, i.bytes)) = some (some (.slice none 0 0), 1, 24) := by kernel_rfl
/-- v is a row of one's own, of the values us. -/
def OH (w : World) (B : Nat) (v : Value) (us : List Value) : Prop := w.ownsRow B 51 1 v us.length us
theorem OH.cells {w : World} {B : Nat} {v : Value} {l : List Value} (h : OH w B v l) (hne : 0 < l.length) :
    ∃ g cap, v = .slice (some ⟨g, 0, none⟩) l.length cap ∧ B ≤ g ∧ g < w.heap.size ∧ l.length ≤ cap ∧ (∀ j, w.frozen? ⟨g, j, none⟩ = false) ∧ ∀ j u, l[j]? = some u → w.cell? ⟨g, j, none⟩ = some u := by
  have h0 := h
  unfold OH at h0
  obtain ⟨hl, ⟨rfl, hn⟩ | ⟨g, cap, cur, rfl, hb, hg, hnc, hcm, hcs, ht⟩⟩ := h
  · omega
  · refine ⟨g, cap, rfl, hb, (Array.getElem?_eq_some_iff.1 hg).1, hnc, fun j => World.ownsRow.frozenAt h0 j, fun j u hj => ?_⟩
    have hlt := (List.getElem?_eq_some_iff.1 hj).1
    rw [← ht, List.getElem?_take_of_lt (by omega)] at hj
    unfold World.cell?
    simp only [hg]
    simpa using hj
theorem OH.below {w w' : World} {B : Nat} {v : Value} {l : List Value} (h : OH w B v l) (hb : Below w.heap.size w w') : OH w' B v l :=
  World.ownsRow.kept (row := none) h (below_grow hb none) (by cases v.ownBlock <;> simp)
/-- v reads as lists of datasets. -/
def RdH (w : World) (v : Value) (l : List (List Ds)) : Prop := ∃ o cap, v = .slice o l.length cap ∧ l.length ≤ cap ∧ (l = [] ∨ ∃ b off, o = some ⟨b, off, none⟩ ∧ b < w.heap.size ∧ ∀ i d, l[i]? = some d → ∃ u, w.cell? ⟨b, off + i, none⟩ = some u ∧ RdD w u d)
theorem RdH.below {w w' : World} {v : Value} {d : List (List Ds)} (h : RdH w v d) (hb : Below w.heap.size w w') : RdH w' v d := by
  obtain ⟨o, cap, e, hc, h⟩ := h
  refine ⟨o, cap, e, hc, ?_⟩
  rcases h with h | ⟨b, off, e1, e2, h⟩
  · exact .inl h
  · exact .inr ⟨b, off, e1, Nat.lt_of_lt_of_le e2 hb.size, fun i r hi => by obtain ⟨u, h1, h2⟩ := h i r hi; exact ⟨u, keepc hb h1, h2.below hb⟩⟩
theorem OH.rd {w : World} {B : Nat} {v : Value} {us : List Value} {l : List (List Ds)} (h : OH w B v us) (hl : us.length = l.length) (hr : ∀ (i : Nat) (u : Value) (x : List Ds), us[i]? = some u → l[i]? = some x → RdD w u x) : RdH w v l := by
  rcases Nat.eq_zero_or_pos us.length with h0 | h0
  · have e : l = [] := List.eq_nil_of_length_eq_zero (by omega)
    subst e
    obtain ⟨-, ⟨rfl, hn⟩ | ⟨g, cap, cur, rfl, hb, hg, hnc, hcm, hcs, ht⟩⟩ := h
    · exact ⟨none, 0, rfl, Nat.le_refl _, .inl rfl⟩
    · exact ⟨_, cap, by rw [hl], by simp, .inl rfl⟩
  · obtain ⟨g, cap, rfl, hb, hg, hnc, -, hc⟩ := h.cells h0
    refine ⟨_, cap, by rw [hl], by omega, .inr ⟨g, 0, rfl, hg, fun i d hi => ?_⟩⟩
    obtain ⟨u, hu⟩ : ∃ u, us[i]? = some u := ⟨_, List.getElem?_eq_getElem (by have := (List.getElem?_eq_some_iff.1 hi).1; omega)⟩
    exact ⟨u, by rw [Nat.zero_add]; exact hc i u hu, hr i u d hu hi⟩
theorem RdD.slice {w : World} {v : Value} {l : List Ds} (h : RdD w v l) : ∃ o c, v = .slice o l.length c := by obtain ⟨o, c, e, -⟩ := h; exact ⟨o, c, e⟩
theorem step_appI {ops : Array Oper} {o : Oper} {a : Act} {w : World} {K : Act → World → Prop} {Q : Exit → Act → World → Prop} {E : Prop} (hgd : o.guard = none) (s x : Operand)
    (ho : o.op = .call { callee := .builtin .append, args := #[s, x], argTypes := #[34, 34] }) (B : Nat) (v : Value) (l : List Int) (y : Int) (g c : Nat)
    (hs : a.eval s = v) (hx : a.eval x = .slice (some ⟨g, 0, none⟩) 1 c) (hP : OI w B v l) (hc : w.cell? ⟨g, 0, none⟩ = some (.int .i64 y)) (hn : l.length ≤ 1000000) (hb : B ≤ w.heap.size)
    (h : ∀ v' w', OI w' B v' (l ++ [y]) → w.grownBy w' v.ownBlock → (v'.ownBlock = v.ownBlock ∨ v'.ownBlock = some w.heap.size) → K (a.put o.dst v') w') : if Region.wanted o (yielded ops a.tmps) = true then Oper.wp Try.prog o a w K Q else E := by
  obtain ⟨i0, hi, hz0, hz1, hz2⟩ := info_parts infoI
  refine step_append_own hgd s x 34 3 ho i0 (.int .i64 0) 1 8 underI hi hz0 hz1 hz2 rfl (by decide) B v l.length (encI l) hs hP ⟨g, 0, none⟩ 1 c (encI [y]) hx rfl ?_ ?_ (by unfold maxLen; omega) (by omega) hb ?_
  · intro j u hj
    rw [addr_add, Nat.zero_add]
    match j, hj with
    | 0, hj => cases hj; exact hc
    | j + 1, hj => simp [encI] at hj
  · intro u hu
    obtain ⟨z, hz, hu⟩ := List.mem_flatMap.1 hu
    simp only [List.mem_cons, List.not_mem_nil, or_false] at hu
    rcases hu with rfl <;> rfl
  · intro v' w' hown hg hat
    refine h v' w' ?_ hg hat
    unfold OI
    rw [encI_append, List.length_append]
    exact hown
theorem step_appH {ops : Array Oper} {o : Oper} {a : Act} {w : World} {K : Act → World → Prop} {Q : Exit → Act → World → Prop} {E : Prop} (hgd : o.guard = none) (s x : Operand)
    (ho : o.op = .call { callee := .builtin .append, args := #[s, x], argTypes := #[35, 35] }) (B : Nat) (v : Value) (l : List Value) (y : Value) (g c : Nat)
    (hs : a.eval s = v) (hx : a.eval x = .slice (some ⟨g, 0, none⟩) 1 c) (hP : OH w B v l) (hc : w.cell? ⟨g, 0, none⟩ = some y) (hy : y.oneCell' = true) (hn : l.length ≤ 1000000) (hb : B ≤ w.heap.size)
    (h : ∀ v' w', OH w' B v' (l ++ [y]) → w.grownBy w' v.ownBlock → (v'.ownBlock = v.ownBlock ∨ v'.ownBlock = some w.heap.size) → K (a.put o.dst v') w') : if Region.wanted o (yielded ops a.tmps) = true then Oper.wp Try.prog o a w K Q else E := by
  obtain ⟨i0, hi, hz0, hz1, hz2⟩ := info_parts infoH
  refine step_append_own hgd s x 35 51 ho i0 (.slice none 0 0) 1 24 underH hi hz0 hz1 hz2 rfl (by decide) B v l.length l hs hP ⟨g, 0, none⟩ 1 c [y] hx rfl ?_ ?_ (by unfold maxLen; omega) (by omega) hb ?_
  · intro j u hj
    rw [addr_add, Nat.zero_add]
    match j, hj with
    | 0, hj => cases hj; exact hc
    | j + 1, hj => simp at hj
  · intro u hu
    simp only [List.mem_cons, List.not_mem_nil, or_false] at hu
    subst hu; exact hy
  · intro v' w' hown hg hat
    refine h v' w' ?_ hg hat
    unfold OH
    rw [List.length_append]
    exact hown
theorem appAtH {ops : Array Oper} {rest : List Oper} {o : Oper} {a : Act} {Q : Exit → Act → World → Prop} {w : World} (hgd : o.guard = none) (s x : Operand)
    (ho : o.op = .call { callee := .builtin .append, args := #[s, x], argTypes := #[35, 35] }) (B : Nat) (v : Value) (l : List Value) (y : Value) (g c : Nat)
    (hs : a.eval s = v) (hx : a.eval x = .slice (some ⟨g, 0, none⟩) 1 c) (hP : OH w B v l) (hc : w.cell? ⟨g, 0, none⟩ = some y) (hy : y.oneCell' = true) (hn : l.length ≤ 1000000) (hb : B ≤ w.heap.size)
    (h : ∀ v' w', OH w' B v' (l ++ [y]) → w.grownBy w' v.ownBlock → (v'.ownBlock = v.ownBlock ∨ v'.ownBlock = some w.heap.size) → wpList Try.prog ops Q rest (a.put o.dst v') w') : wpList Try.prog ops Q (o :: rest) a w := by
  obtain ⟨i0, hi, hz0, hz1, hz2⟩ := info_parts infoH
  refine wpList_append_own_at _ hgd s x 35 ho B 51 i0 (.slice none 0 0) 1 24 underH hi hz0 hz1 hz2 rfl (by decide) v l.length l hs hP ⟨g, 0, none⟩ 1 c [y] hx rfl ?_ ?_ (by unfold maxLen; omega) (by omega) hb ?_
  · intro j u hj
    rw [addr_add, Nat.zero_add]
    match j, hj with
    | 0, hj => cases hj; exact hc
    | j + 1, hj => simp at hj
  · intro u hu
    simp only [List.mem_cons, List.not_mem_nil, or_false] at hu
    subst hu; exact hy
  · intro v' w' hown hg _ hat
    refine h v' w' ?_ hg hat
    unfold OH
    rw [List.length_append]
    exact hown
theorem frm_two (w : World) (R i j : Nat) (x y : Value) : Frm (fun k => k = R) w ((w.setCell ⟨R, i, none⟩ x).setCell ⟨R, j, none⟩ y) := frm_setCell (frm_setCell (Frm.refl _ _) (by rfl) _) (by rfl) _
theorem frm_two' (w : World) (R i j : Nat) (x y : Value) : Frm (fun k => k = R) w (((w.setCell ⟨R, i, none⟩ x).setCell ⟨R, j, none⟩ y).drew) := frm_drew (frm_two w R i j x y)
theorem keep_of_below {F : Nat → Prop} {w w1 : World} {P : World → Prop} (hP : ∀ w', Below w.heap.size w w' → P w') (hb : Below w.heap.size w w1) (hF : ∀ k, F k → w.heap.size ≤ k) : Keep F w1 P := fun w' hf => hP w' (Frm.below hb hf hF hb.size)
end Go.Proofs.Ytifcgimpgbeocaa
/- What stands while a script is played: the store, its history in memory. -/
set_option linter.unusedVariables false
set_option linter.unusedSimpArgs false
namespace Go.Proofs.Ytifcgimpgbeocaa
open Go.RowKit
/-- v reads as steps. -/
def RdSt (w : World) (v : Value) (l : List Stp) : Prop := ∃ o cap, v = .slice o l.length cap ∧ l.length ≤ cap ∧ (l = [] ∨ ∃ b off, o = some ⟨b, off, none⟩ ∧ b < w.heap.size ∧ ∀ i x, l[i]? = some x → w.cell? ⟨b, off + i * 5, none⟩ = some (.int .i64 x.1) ∧ w.cell? ⟨b, off + i * 5 + 1, none⟩ = some (.int .i64 x.2.1) ∧ w.cell? ⟨b, off + i * 5 + 2, none⟩ = some (.int .i64 x.2.2.1) ∧ w.cell? ⟨b, off + i * 5 + 3, none⟩ = some (strV x.2.2.2.1) ∧ w.cell? ⟨b, off + i * 5 + 4, none⟩ = some (strV x.2.2.2.2))
theorem RdSt.below {w w' : World} {v : Value} {d : List Stp} (h : RdSt w v d) (hb : Below w.heap.size w w') : RdSt w' v d := by
  obtain ⟨o, cap, e, hc, h⟩ := h
  refine ⟨o, cap, e, hc, ?_⟩
  rcases h with h | ⟨b, off, e1, e2, h⟩
  · exact .inl h
  · exact .inr ⟨b, off, e1, Nat.lt_of_lt_of_le e2 hb.size, fun i r hi => ⟨keepc hb (h i r hi).1, keepc hb (h i r hi).2.1, keepc hb (h i r hi).2.2.1, keepc hb (h i r hi).2.2.2.1, keepc hb (h i r hi).2.2.2.2⟩⟩
theorem keep_I' {U : Nat → Prop} {w : World} {v : Value} {d : List Int} {B : Nat} (h : OI w B v d) (hU : ∀ k, v.ownBlock = some k → ¬ U k) : Keep U w (fun w' => RdI w' v d) := fun w' hf => OI.rd (B := B) (hf.row h hU)
theorem keep_D' {U : Nat → Prop} {w : World} {v : Value} {d : List Ds} {B : Nat} (h : OD w B v d) (hU : ∀ k, B ≤ k → k < w.heap.size → ¬ U k) : Keep U w (fun w' => RdD w' v d) := fun w' hf => by
  obtain ⟨us, h1, h2, h3⟩ := h
  refine OD.rd (B := B) ⟨us, h1, hf.row h2 fun k hk => hU k (World.ownsRow.lt h2 k hk).1 (World.ownsRow.lt h2 k hk).2, fun i u x hu hx => hf.row (h3 i u x hu hx) fun k hk => hU k (World.ownsRow.lt (h3 i u x hu hx) k hk).1 (World.ownsRow.lt (h3 i u x hu hx) k hk).2⟩
theorem Keep.of_below {U U' : Nat → Prop} {w w1 : World} {P : World → Prop} (h : Keep U w P) (hb : Below w.heap.size w w1) (hU : ∀ k, U' k → U k ∨ w.heap.size ≤ k) : Keep U' w1 P := h.step (Frm.of_below hb) hU
abbrev HA (H : Hist) : List Int := H.map (fun x => (x.1 : Int))
abbrev HDt (H : Hist) : List (List Ds) := H.map (·.2)
/-- The blocks of a history, and of a result. -/
def XB (Z R : Nat) (va vd : Value) (k : Nat) : Prop := va.ownBlock = some k ∨ vd.ownBlock = some k ∨ k = Z ∨ k = R
/-- Since w0 (U0, the store's memory then): the store st in U, the history H in the two cells of Z, the result's cells in R. -/
structure PlayI (w0 : World) (U0 : Nat → Prop) (S Z R : Nat) (v : Value) (l : List Stp) (va vd : Value) (us : List Value) (U : Nat → Prop) (st : St) (LA : List Int) (LD : List (List Ds)) (w : World) : Prop where
  so : So w U S st
  frm : Frm U0 w0 w
  uu : ∀ k, U k → U0 k ∨ w0.heap.size ≤ k
  xx : ∀ k, XB Z R va vd k → ¬ U k ∧ w0.heap.size ≤ k
  z0 : w.cell? ⟨Z, 0, none⟩ = some va
  z1 : w.cell? ⟨Z, 1, none⟩ = some vd
  zf : ∀ j, w.frozen? ⟨Z, j, none⟩ = false
  r0 : OwnC w ⟨R, 0, none⟩
  r1 : OwnC w ⟨R, 1, none⟩
  zr : Z ≠ R
  na : va.ownBlock ≠ some Z ∧ va.ownBlock ≠ some R
  nd : vd.ownBlock ≠ some Z ∧ vd.ownBlock ≠ some R
  oa : OI w 0 va LA
  od : OH w 0 vd us
  ul : us.length = LD.length
  rd : ∀ (i : Nat) (u : Value) (x : List Ds), us[i]? = some u → LD[i]? = some x → Keep (fun k => (U k ∨ XB Z R va vd k) ∨ k < w0.heap.size) w (fun w' => RdD w' u x)
  ks : Keep (fun k => U k ∨ XB Z R va vd k) w (fun w' => RdSt w' v l)
variable {w0 w w1 : World} {U0 U U' : Nat → Prop} {S Z R : Nat} {v va vd : Value} {l : List Stp} {us : List Value} {st st' : St} {LA : List Int} {LD : List (List Ds)}
/-- A step of the store. -/
theorem PlayI.step (h : PlayI w0 U0 S Z R v l va vd us U st LA LD w) (hs : So w1 U' S st') (hf : Frm U w w1) (hu : ∀ k, U' k → U k ∨ w.heap.size ≤ k) : PlayI w0 U0 S Z R v l va vd us U' st' LA LD w1 := by
  have hz := h.z0
  have hZl := World.block_lt_of_cell? _ _ h.z0
  obtain ⟨⟨r, hr⟩, hrf⟩ := h.r0
  have hRl := World.block_lt_of_cell? _ _ hr
  simp only at hZl hRl
  have hxl : ∀ k, XB Z R va vd k → k < w.heap.size := fun k hk => by
    rcases hk with hk | hk | hk | hk
    · exact (World.ownsRow.lt h.oa k hk).2
    · exact (World.ownsRow.lt h.od k hk).2
    · omega
    · omega
  have hxu : ∀ k, XB Z R va vd k → ¬ U k := fun k hk => (h.xx k hk).1
  have hkp : ∀ k, (U' k ∨ XB Z R va vd k) → (U k ∨ XB Z R va vd k) ∨ w.heap.size ≤ k := fun k hk => by
    rcases hk with hk | hk
    · exact (hu k hk).imp .inl id
    · exact .inl (.inr hk)
  have hf' : Frm (fun k => U k ∨ XB Z R va vd k) w w1 := hf.mono fun i _ h => .inl h
  have hkp1 : ∀ k, ((U' k ∨ XB Z R va vd k) ∨ k < w0.heap.size) → ((U k ∨ XB Z R va vd k) ∨ k < w0.heap.size) ∨ w.heap.size ≤ k := fun k hk => by
    rcases hk with hk | hk
    · exact (hkp k hk).imp .inl id
    · exact .inl (.inr hk)
  have hf1 : Frm (fun k => (U k ∨ XB Z R va vd k) ∨ k < w0.heap.size) w w1 := hf.mono fun i _ h => .inl (.inl h)
  refine ⟨hs, h.frm.trans hf fun i hi hk => ?_, fun k hk => ?_, fun k hk => ⟨fun hu' => ?_, (h.xx k hk).2⟩, hf.cell (hxu Z (.inr (.inr (.inl rfl)))) h.z0, hf.cell (hxu Z (.inr (.inr (.inl rfl)))) h.z1,
    fun j => (frozen_at (hf.block Z hZl (hxu Z (.inr (.inr (.inl rfl)))))).trans (h.zf j), hf.ownc (hxu R (.inr (.inr (.inr rfl)))) h.r0, hf.ownc (hxu R (.inr (.inr (.inr rfl)))) h.r1, h.zr, h.na, h.nd,
    hf.row h.oa fun k hk => hxu k (.inl hk), hf.row h.od fun k hk => hxu k (.inr (.inl hk)), h.ul, fun i u x a b => (h.rd i u x a b).step hf1 hkp1, h.ks.step hf' hkp⟩
  · exact (h.uu i hk).resolve_right (by omega)
  · rcases hu k hk with hk | hk
    · exact h.uu k hk
    · exact .inr (Nat.le_trans h.frm.size hk)
  · rcases hu k hu' with h1 | h1
    · exact hxu k hk h1
    · have := hxl k hk; omega
theorem PlayI.below (h : PlayI w0 U0 S Z R v l va vd us U st LA LD w) (hb : Below w.heap.size w w1) : PlayI w0 U0 S Z R v l va vd us U st LA LD w1 := h.step (h.so.below hb) (Frm.of_below hb) fun k hk => .inl hk
/-- What turns beside the store lets it stand. -/
theorem PlayI.turn (h : PlayI w0 U0 S Z R v l va vd us U st LA LD w) {va' vd' : Value} {us' : List Value} {LA' : List Int} {LD' : List (List Ds)} {G : Nat → Prop} (hf : Frm G w w1) (hG : ∀ k, G k → XB Z R va vd k)
    (hx : ∀ k, XB Z R va' vd' k → XB Z R va vd k ∨ w.heap.size ≤ k) (z0 : w1.cell? ⟨Z, 0, none⟩ = some va') (z1 : w1.cell? ⟨Z, 1, none⟩ = some vd') (zf : ∀ j, w1.frozen? ⟨Z, j, none⟩ = false) (r0 : OwnC w1 ⟨R, 0, none⟩) (r1 : OwnC w1 ⟨R, 1, none⟩)
    (na : va'.ownBlock ≠ some Z ∧ va'.ownBlock ≠ some R) (nd : vd'.ownBlock ≠ some Z ∧ vd'.ownBlock ≠ some R) (oa : OI w1 0 va' LA') (od : OH w1 0 vd' us') (ul : us'.length = LD'.length)
    (rd : ∀ (i : Nat) (u : Value) (x : List Ds), us'[i]? = some u → LD'[i]? = some x → Keep (fun k => (U k ∨ XB Z R va vd k) ∨ k < w0.heap.size) w (fun w' => RdD w' u x)) : PlayI w0 U0 S Z R v l va' vd' us' U st LA' LD' w1 := by
  have hult := h.so.ult
  have hkp : ∀ k, (U k ∨ XB Z R va' vd' k) → (U k ∨ XB Z R va vd k) ∨ w.heap.size ≤ k := fun k hk => by
    rcases hk with hk | hk
    · exact .inl (.inl hk)
    · exact (hx k hk).imp .inr id
  have hf' : Frm (fun k => U k ∨ XB Z R va vd k) w w1 := hf.mono fun i _ h => .inr (hG i h)
  have hkp1 : ∀ k, ((U k ∨ XB Z R va' vd' k) ∨ k < w0.heap.size) → ((U k ∨ XB Z R va vd k) ∨ k < w0.heap.size) ∨ w.heap.size ≤ k := fun k hk => by
    rcases hk with hk | hk
    · exact (hkp k hk).imp .inl id
    · exact .inl (.inr hk)
  have hf1 : Frm (fun k => (U k ∨ XB Z R va vd k) ∨ k < w0.heap.size) w w1 := hf.mono fun i _ h => .inl (.inr (hG i h))
  refine ⟨h.so.frm hf fun k hk hg => (h.xx k (hG k hg)).1 hk, h.frm.trans hf fun i hi hg => ?_, h.uu, fun k hk => ⟨fun hu => ?_, ?_⟩, z0, z1, zf, r0, r1, h.zr, na, nd, oa, od, ul, fun i u x a b => (rd i u x a b).step hf1 hkp1, h.ks.step hf' hkp⟩
  · have := (h.xx i (hG i hg)).2; omega
  · rcases hx k hk with h1 | h1
    · exact (h.xx k h1).1 hu
    · have := hult k hu; omega
  · rcases hx k hk with h1 | h1
    · exact (h.xx k h1).2
    · exact Nat.le_trans h.frm.size h1
theorem PlayI.rows (h : PlayI w0 U0 S Z R v l va vd us U st LA LD w) : va.ownBlock = none ∨ va.ownBlock ≠ vd.ownBlock := rows_apart h.oa h.od (by decide)
/-- One number more in the history's first row: w2 is w behind calls that make memory; the row has grown to w3; its cell is set. -/
theorem PlayI.setA (h : PlayI w0 U0 S Z R v l va vd us U st LA LD w) {va' : Value} {n : Int} {L : List Int} (hg : w.grownBy w1 va.ownBlock) (hat : va'.ownBlock = va.ownBlock ∨ va'.ownBlock = some w.heap.size) (ho : OI w1 0 va' L) :
    ∃ G, Frm G w (w1.setCell ⟨Z, 0, none⟩ va') ∧ (∀ k, G k → XB Z R va vd k) ∧ (∀ k, XB Z R va' vd k → XB Z R va vd k ∨ w.heap.size ≤ k) ∧ (w1.setCell ⟨Z, 0, none⟩ va').cell? ⟨Z, 0, none⟩ = some va' ∧ (w1.setCell ⟨Z, 0, none⟩ va').cell? ⟨Z, 1, none⟩ = some vd ∧
      (∀ j, (w1.setCell ⟨Z, 0, none⟩ va').frozen? ⟨Z, j, none⟩ = false) ∧ OwnC (w1.setCell ⟨Z, 0, none⟩ va') ⟨R, 0, none⟩ ∧ OwnC (w1.setCell ⟨Z, 0, none⟩ va') ⟨R, 1, none⟩ ∧ (va'.ownBlock ≠ some Z ∧ va'.ownBlock ≠ some R) ∧ OI (w1.setCell ⟨Z, 0, none⟩ va') 0 va' L ∧ OH (w1.setCell ⟨Z, 0, none⟩ va') 0 vd us := by
  have hZl := World.block_lt_of_cell? _ _ h.z0
  obtain ⟨⟨r, hr⟩, hrf⟩ := h.r0
  have hRl := World.block_lt_of_cell? _ _ hr
  simp only at hZl hRl
  have hgc : ∀ k, k < w.heap.size → va.ownBlock ≠ some k → w1.heap[k]? = w.heap[k]? := fun k hk hn => hg.block k hk hn.symm
  have hZ := hgc Z hZl h.na.1
  have hR := hgc R hRl h.na.2
  have na' : va'.ownBlock ≠ some Z ∧ va'.ownBlock ≠ some R := by
    rcases hat with e | e
    · rw [e]; exact h.na
    · rw [e]; exact ⟨fun e => by simp at e; omega, fun e => by simp at e; omega⟩
  have hfs : Frm (fun k => k = Z) w1 (w1.setCell ⟨Z, 0, none⟩ va') := frm_setCell (Frm.refl _ _) (by rfl) _
  have ownR : ∀ j, OwnC w ⟨R, j, none⟩ → OwnC (w1.setCell ⟨Z, 0, none⟩ va') ⟨R, j, none⟩ := fun j hj => (own_grown' hj hg h.na.2).set _ _
  refine ⟨fun k => va.ownBlock = some k ∨ k = Z, (Frm.of_grown (F := fun k => va.ownBlock = some k ∨ k = Z) hg fun k hk => .inl hk).trans hfs (fun i _ hi => .inr hi), ?_, ?_, ?_, ?_, fun j => by rw [World.frozen?_setCell]; exact (frozen_at hZ).trans (h.zf j), ownR 0 h.r0, ownR 1 h.r1, na', ?_, ?_⟩
  · rintro k (hk | hk)
    · exact .inl hk
    · exact .inr (.inr (.inl hk))
  · rintro k (hk | hk | hk | hk)
    · rcases hat with e | e
      · rw [e] at hk; exact .inl (.inl hk)
      · rw [e] at hk; simp at hk; exact .inr (by omega)
    · exact .inl (.inr (.inl hk))
    · exact .inl (.inr (.inr (.inl hk)))
    · exact .inl (.inr (.inr (.inr hk)))
  · exact World.cell?_setCell_same _ _ _ (cell_at hZ h.z0)
  · rw [World.cell?_setCell_other _ _ _ _ (fun e => by cases e)]; exact cell_at hZ h.z1
  · exact hfs.row ho fun k hk e => na'.1 (by rw [hk, e])
  · refine hfs.row (World.ownsRow.kept h.od hg ?_) fun k hk e => h.nd.1 (by rw [hk, e])
    exact rows_apart h.od h.oa (by decide)
/-- One list more in the history's second row. -/
theorem PlayI.setD (h : PlayI w0 U0 S Z R v l va vd us U st LA LD w) {vd' : Value} {us' : List Value} (hg : w.grownBy w1 vd.ownBlock) (hat : vd'.ownBlock = vd.ownBlock ∨ vd'.ownBlock = some w.heap.size) (ho : OH w1 0 vd' us') :
    ∃ G, Frm G w (w1.setCell ⟨Z, 1, none⟩ vd') ∧ (∀ k, G k → XB Z R va vd k) ∧ (∀ k, XB Z R va vd' k → XB Z R va vd k ∨ w.heap.size ≤ k) ∧ (w1.setCell ⟨Z, 1, none⟩ vd').cell? ⟨Z, 0, none⟩ = some va ∧ (w1.setCell ⟨Z, 1, none⟩ vd').cell? ⟨Z, 1, none⟩ = some vd' ∧
      (∀ j, (w1.setCell ⟨Z, 1, none⟩ vd').frozen? ⟨Z, j, none⟩ = false) ∧ OwnC (w1.setCell ⟨Z, 1, none⟩ vd') ⟨R, 0, none⟩ ∧ OwnC (w1.setCell ⟨Z, 1, none⟩ vd') ⟨R, 1, none⟩ ∧ (vd'.ownBlock ≠ some Z ∧ vd'.ownBlock ≠ some R) ∧ OI (w1.setCell ⟨Z, 1, none⟩ vd') 0 va LA ∧ OH (w1.setCell ⟨Z, 1, none⟩ vd') 0 vd' us' := by
  have hZl := World.block_lt_of_cell? _ _ h.z0
  obtain ⟨⟨r, hr⟩, hrf⟩ := h.r0
  have hRl := World.block_lt_of_cell? _ _ hr
  simp only at hZl hRl
  have hgc : ∀ k, k < w.heap.size → vd.ownBlock ≠ some k → w1.heap[k]? = w.heap[k]? := fun k hk hn => hg.block k hk hn.symm
  have hZ := hgc Z hZl h.nd.1
  have hR := hgc R hRl h.nd.2
  have nd' : vd'.ownBlock ≠ some Z ∧ vd'.ownBlock ≠ some R := by
    rcases hat with e | e
    · rw [e]; exact h.nd
    · rw [e]; exact ⟨fun e => by simp at e; omega, fun e => by simp at e; omega⟩
  have hfs : Frm (fun k => k = Z) w1 (w1.setCell ⟨Z, 1, none⟩ vd') := frm_setCell (Frm.refl _ _) (by rfl) _
  have ownR : ∀ j, OwnC w ⟨R, j, none⟩ → OwnC (w1.setCell ⟨Z, 1, none⟩ vd') ⟨R, j, none⟩ := fun j hj => (own_grown' hj hg h.nd.2).set _ _
  refine ⟨fun k => vd.ownBlock = some k ∨ k = Z, (Frm.of_grown (F := fun k => vd.ownBlock = some k ∨ k = Z) hg fun k hk => .inl hk).trans hfs (fun i _ hi => .inr hi), ?_, ?_, ?_, ?_, fun j => by rw [World.frozen?_setCell]; exact (frozen_at hZ).trans (h.zf j), ownR 0 h.r0, ownR 1 h.r1, nd', ?_, ?_⟩
  · rintro k (hk | hk)
    · exact .inr (.inl hk)
    · exact .inr (.inr (.inl hk))
  · rintro k (hk | hk | hk | hk)
    · exact .inl (.inl hk)
    · rcases hat with e | e
      · rw [e] at hk; exact .inl (.inr (.inl hk))
      · rw [e] at hk; simp at hk; exact .inr (by omega)
    · exact .inl (.inr (.inr (.inl hk)))
    · exact .inl (.inr (.inr (.inr hk)))
  · rw [World.cell?_setCell_other _ _ _ _ (fun e => by cases e)]; exact cell_at hZ h.z0
  · exact World.cell?_setCell_same _ _ _ (cell_at hZ h.z1)
  · refine hfs.row (World.ownsRow.kept h.oa hg ?_) fun k hk e => h.na.1 (by rw [hk, e])
    exact rows_apart h.oa h.od (by decide)
  · exact hfs.row ho fun k hk e => nd'.1 (by rw [hk, e])
/-- What lasted lasts behind a step of the store. -/
theorem PlayI.keep (h : PlayI w0 U0 S Z R v l va vd us U st LA LD w) {P : World → Prop} (hP : Keep (fun k => (U k ∨ XB Z R va vd k) ∨ k < w0.heap.size) w P) (hf : Frm U w w1) (hu : ∀ k, U' k → U k ∨ w.heap.size ≤ k) : Keep (fun k => (U' k ∨ XB Z R va vd k) ∨ k < w0.heap.size) w1 P := by
  refine hP.step (hf.mono fun i _ h => .inl (.inl h)) fun k hk => ?_
  rcases hk with (hk | hk) | hk
  · exact (hu k hk).imp (fun h => .inl (.inl h)) id
  · exact .inl (.inl (.inr hk))
  · exact .inl (.inr hk)
theorem PlayI.xlt (h : PlayI w0 U0 S Z R v l va vd us U st LA LD w) : ∀ k, (U k ∨ XB Z R va vd k) → k < w.heap.size := fun k hk => by
  have hZl := World.block_lt_of_cell? _ _ h.z0
  obtain ⟨⟨r, hr⟩, hrf⟩ := h.r0
  have hRl := World.block_lt_of_cell? _ _ hr
  simp only at hZl hRl
  rcases hk with hk | hk | hk | hk | hk
  · exact h.so.ult k hk
  · exact (World.ownsRow.lt h.oa k hk).2
  · exact (World.ownsRow.lt h.od k hk).2
  · omega
  · omega
end Go.Proofs.Ytifcgimpgbeocaa
/- A call of a Go function as a step of a region that draws its order. -/
set_option linter.unusedVariables false
set_option linter.unusedSimpArgs false
namespace Go.Proofs.Ytifcgimpgbeocaa
open Go.RowKit
theorem step_call1 {ops : Array Oper} {o : Oper} {a : Act} {w : World} {K : Act → World → Prop} {Q : Exit → Act → World → Prop} {E : Prop} (hgd : o.guard = none) (F : Nat) (x : Operand) (t : TypeId) (v : Value)
    (ho : o.op = .call { callee := .value (.func F), args := #[x], argTypes := #[t] }) (hx : a.eval x = v) (hcf : ∀ (u : Value) (w : World), (callFunc F #[u]).run Try.prog w = .ok (.enter F #[u]) w) {R : Ending → World → Prop} (hc : Calls Try.prog F #[v] w R) (h : ∀ e w', R e w' → ∃ u, e = .returned u ∧ K (a.put o.dst u) w') :
    if Region.wanted o (yielded ops a.tmps) = true then Oper.wp Try.prog o a w K Q else E := by
  have hw : Region.wanted o (yielded ops a.tmps) = true := by simp [Region.wanted, hgd]
  rw [if_pos hw]
  unfold Oper.wp
  have e : (execOp a.eval o).run Try.prog w = .ok (.enter F #[v]) w := by
    have hf : a.eval (.func F) = Value.func (Fn.func F) #[] #[] := rfl
    obtain ⟨y, hy⟩ : ∃ y, a.eval x = y := ⟨_, rfl⟩
    have h1 : execOp a.eval o = callFunc F #[a.eval x] := by simp [execOp, ho, resolve, invoke, hf, Deferred.ofValue]
    rw [h1, hx]
    exact hcf v w
  rw [e, Oper.upon_enter]
  refine hc.mono ?_
  intro e1 w1 hR
  obtain ⟨u, rfl, hK⟩ := h e1 w1 hR
  exact hK
theorem enter_acts (u : Value) (w : World) : (callFunc 22 #[u]).run Try.prog w = .ok (.enter 22 #[u]) w := by
  kernel_rfl
end Go.Proofs.Ytifcgimpgbeocaa
