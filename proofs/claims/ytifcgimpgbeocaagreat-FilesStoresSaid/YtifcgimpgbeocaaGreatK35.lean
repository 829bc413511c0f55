/- Act. -/
import Derived.Test.YtifcgimpgbeocaaGreatK11
import Derived.Test.YtifcgimpgbeocaaGreatK2
import Derived.Laws.StructEq
import Derived.Test.YtifcgimpgbeocaaGreatK27
set_option linter.unusedVariables false
set_option linter.unusedSimpArgs false
namespace Go.Proofs.YtifcgimpgbeocaaGreat
open Go.RowKit
attribute [local go_sem] Oper.semAt_some
end Go.Proofs.YtifcgimpgbeocaaGreat
/- The reference's Same. -/
set_option linter.unusedVariables false
set_option linter.unusedSimpArgs false
namespace Go.Proofs.YtifcgimpgbeocaaGreat
open Go.RowKit
attribute [local go_sem] Oper.semAt_some
theorem run_neqR (x y : Rec) (w : World) : (binOp .neq 59 (.agg #[strV x.1, strV x.2]) (.agg #[strV y.1, strV y.2])).run Tryz.prog w = .ok (.bool (!decide (x = y))) w := by
  have e : decide (x = y) = ((x.1 == y.1) && (x.2 == y.2)) := by
    obtain ⟨a, b⟩ := x; obtain ⟨c, d⟩ := y
    by_cases h1 : a = c <;> by_cases h2 : b = d <;> simp [h1, h2]
  rw [run_neq_struct, run_equalIn_agg (ht := by kernel_rfl) (hp := by kernel_rfl)]
  have hf : (Tryz.prog.fieldsOf 59).toList = (match Tryz.prog.underlying 59 with | some (.struct fs) => fs.toList | _ => []) := by kernel_rfl
  rw [hf, Tryz.underlying59]
  simp [go_sem, Op.eqFields, run_equalIn_string (h := Tryz.underlying9), e]
  by_cases h1 : x.1 = y.1 <;> by_cases h2 : x.2 = y.2 <;> simp [h1, h2]
/-- All records ahead of k are the same. -/
def SameTo (a b : Ds) (k : Nat) : Prop := a.take k = b.take k
theorem sameTo_succ {a b : Ds} {k : Nat} {x y : Rec} (h : SameTo a b k) (ha : a[k]? = some x) (hb : b[k]? = some y) : SameTo a b (k + 1) ↔ x = y := by
  obtain ⟨h1, rfl⟩ := List.getElem?_eq_some_iff.1 ha
  obtain ⟨h2, rfl⟩ := List.getElem?_eq_some_iff.1 hb
  unfold SameTo at *
  rw [List.take_succ_eq_append_getElem h1, List.take_succ_eq_append_getElem h2, h, List.append_right_inj]
  simp
set_option maxHeartbeats 1000000 in
set_option maxRecDepth 100000 in
theorem rsame_any (a b : Ds) (u v : Value) (w : World) (hA : RdR w u a) (hB : RdR w v b) (hl : a.length ≤ maxLen) : Calls Tryz.prog 47 #[u, v] w (Ret (.bool (decide (a = b))) w) := by
  unfold maxLen at hl
  obtain ⟨oa, ca, rfl, hca, hac⟩ := hA
  obtain ⟨ob, cb, rfl, hcb, hbc⟩ := hB
  by_cases hlen : a.length = b.length
  rotate_left
  · have e : decide (a = b) = false := by simp; rintro rfl; exact hlen rfl
    rw [e]
    have g1 : ((a.length : Int) == (b.length : Int)) = false := by rw [beq_eq_false_iff_ne]; omega
    obtain ⟨N, hN⟩ : ∃ N, a.length = N := ⟨_, rfl⟩
    obtain ⟨M, hM⟩ : ∃ M, b.length = M := ⟨_, rfl⟩
    rw [hN, hM] at g1 ⊢
    clear e hac hbc hN hM hlen hl hca hcb
    go_enter Tryz.func47, Tryz.ntmps47
    go_wp2_with fail
    go_ret
    exact ⟨rfl, Below.refl _ _⟩
  have HAC := hid hac; have HBC := hid hbc
  obtain ⟨E, hE⟩ : ∃ E, decide (a = b) = E := ⟨_, rfl⟩
  rw [hE]
  have HE := hid hE
  obtain ⟨N, hN⟩ : ∃ N, a.length = N := ⟨_, rfl⟩
  rw [← hlen] at hcb ⊢
  have hM : b.length = N := by omega
  rw [hN] at hl hca hcb ⊢
  have HN := hid hN; have HM := hid hM
  clear hac hbc hE hN hM hlen
  go_enter Tryz.func47, Tryz.ntmps47
  go_wp2_with fail
  go_loopw [5] (fun i wr => ∃ k : Nat, i = .int .i64 k ∧ k ≤ N ∧ Hid (SameTo a b k) ∧ Hid (Below w.heap.size w wr)) (fun i _ => N - (intOf i).toNat)
  case atStart => exact ⟨0, rfl, Nat.zero_le _, rfl, Below.refl _ _⟩
  case round =>
    obtain ⟨k, rfl, hk, HT, HB⟩ := hrel
    by_cases hlt : k < N
    rotate_left
    · have e : E = true := by
        have h1 := HT.out
        unfold SameTo at h1
        rw [List.take_of_length_le (by have := HN.out; omega), List.take_of_length_le (by have := HM.out; omega)] at h1
        rw [← HE.out]; simpa using h1
      subst e
      go_wp2_with fail
      go_ret
      exact ⟨rfl, HB.out⟩
    obtain ⟨x, hx⟩ : ∃ r, a[k]? = some r := ⟨_, List.getElem?_eq_getElem (by have := HN.out; omega)⟩
    obtain ⟨y, hy⟩ : ∃ r, b[k]? = some r := ⟨_, List.getElem?_eq_getElem (by have := HM.out; omega)⟩
    have hAC := HAC.out; have hBC := HBC.out
    rcases hAC with hc | ⟨b1, off1, rfl, hbl1, hac⟩
    · rw [hc] at hx; simp at hx
    rcases hBC with hc | ⟨b2, off2, rfl, hbl2, hbc⟩
    · rw [hc] at hy; simp at hy
    obtain ⟨c0, c1⟩ := hac k x hx
    obtain ⟨d0, d1⟩ := hbc k y hy
    have c0 := HB.out.cell (p := ⟨b1, off1 + k * 2, none⟩) hbl1 |>.trans c0
    have c1 := HB.out.cell (p := ⟨b1, off1 + k * 2 + 1, none⟩) hbl1 |>.trans c1
    have d0 := HB.out.cell (p := ⟨b2, off2 + k * 2, none⟩) hbl2 |>.trans d0
    have d1 := HB.out.cell (p := ⟨b2, off2 + k * 2 + 1, none⟩) hbl2 |>.trans d1
    have hst := sameTo_succ HT.out hx hy
    have hneq := fun w => run_neqR x y w
    have HBD := hid (fun n => below_drewN HB.out n)
    by_cases hxy : x = y
    · have HT1 := hid (hst.2 hxy)
      have e1 : decide (x = y) = true := by simpa using hxy
      rw [e1] at hneq
      clear hst hx hy hac hbc hxy e1
      go_wp2_with fail
      go_quiet (fail)
      go_wp2_with fail
      go_roundw
      case rel => exact ⟨k + 1, by go_num, by omega, HT1, HBD.out _⟩
      case measure => simp [intOf]; omega
    · have e : E = false := by
        rw [← HE.out]
        simp only [decide_eq_false_iff_not]
        rintro rfl
        rw [hx] at hy
        cases hy
        exact hxy rfl
      have e1 : decide (x = y) = false := by simpa using hxy
      rw [e1] at hneq
      subst e
      clear hst hx hy hac hbc hxy e1
      go_wp2_with fail
      go_quiet (fail)
      go_wp2_with fail
      go_ret
      exact ⟨rfl, HBD.out _⟩
end Go.Proofs.YtifcgimpgbeocaaGreat
/- The reference's SameAll. -/
set_option linter.unusedVariables false
set_option linter.unusedSimpArgs false
namespace Go.Proofs.YtifcgimpgbeocaaGreat
open Go.RowKit
attribute [local go_sem] Oper.semAt_some
/-- All records ahead of k are the same. -/
def SameToD (a b : List Ds) (k : Nat) : Prop := a.take k = b.take k
theorem sameToD_succ {a b : List Ds} {k : Nat} {x y : Ds} (h : SameToD a b k) (ha : a[k]? = some x) (hb : b[k]? = some y) : SameToD a b (k + 1) ↔ x = y := by
  obtain ⟨h1, rfl⟩ := List.getElem?_eq_some_iff.1 ha
  obtain ⟨h2, rfl⟩ := List.getElem?_eq_some_iff.1 hb
  unfold SameToD at *
  rw [List.take_succ_eq_append_getElem h1, List.take_succ_eq_append_getElem h2, h, List.append_right_inj]
  simp
set_option maxHeartbeats 1000000 in
set_option maxRecDepth 100000 in
theorem rsameall_any (a b : List Ds) (u v : Value) (w : World) (hA : RdD w u a) (hB : RdD w v b) (hl : a.length ≤ maxLen) (hl2 : ∀ d ∈ a, d.length ≤ maxLen) : Calls Tryz.prog 11 #[u, v] w (Ret (.bool (decide (a = b))) w) := by
  have hl2 := hid hl2
  unfold maxLen at hl
  obtain ⟨oa, ca, rfl, hca, hac⟩ := hA
  obtain ⟨ob, cb, rfl, hcb, hbc⟩ := hB
  by_cases hlen : a.length = b.length
  rotate_left
  · have e : decide (a = b) = false := by simp; rintro rfl; exact hlen rfl
    rw [e]
    have g1 : ((a.length : Int) == (b.length : Int)) = false := by rw [beq_eq_false_iff_ne]; omega
    obtain ⟨N, hN⟩ : ∃ N, a.length = N := ⟨_, rfl⟩
    obtain ⟨M, hM⟩ : ∃ M, b.length = M := ⟨_, rfl⟩
    rw [hN, hM] at g1 ⊢
    clear e hac hbc hN hM hlen hl hca hcb
    go_enter Tryz.func11, Tryz.ntmps11
    go_wp2_with fail
    go_ret
    exact ⟨rfl, Below.refl _ _⟩
  have HAC := hid hac; have HBC := hid hbc
  obtain ⟨E, hE⟩ : ∃ E, decide (a = b) = E := ⟨_, rfl⟩
  rw [hE]
  have HE := hid hE
  obtain ⟨N, hN⟩ : ∃ N, a.length = N := ⟨_, rfl⟩
  rw [← hlen] at hcb ⊢
  have hM : b.length = N := by omega
  rw [hN] at hl hca hcb ⊢
  have HN := hid hN; have HM := hid hM
  clear hac hbc hE hN hM hlen
  go_enter Tryz.func11, Tryz.ntmps11
  go_wp2_with fail
  go_loopw [5] (fun i wr => ∃ k : Nat, i = .int .i64 k ∧ k ≤ N ∧ Hid (SameToD a b k) ∧ Hid (Below w.heap.size w wr)) (fun i _ => N - (intOf i).toNat)
  case atStart => exact ⟨0, rfl, Nat.zero_le _, rfl, Below.refl _ _⟩
  case round =>
    obtain ⟨k, rfl, hk, HT, HB⟩ := hrel
    by_cases hlt : k < N
    rotate_left
    · have e : E = true := by
        have h1 := HT.out
        unfold SameToD at h1
        rw [List.take_of_length_le (by have := HN.out; omega), List.take_of_length_le (by have := HM.out; omega)] at h1
        rw [← HE.out]; simpa using h1
      subst e
      go_wp2_with fail
      go_ret
      exact ⟨rfl, HB.out⟩
    obtain ⟨x, hx⟩ : ∃ r, a[k]? = some r := ⟨_, List.getElem?_eq_getElem (by have := HN.out; omega)⟩
    obtain ⟨y, hy⟩ : ∃ r, b[k]? = some r := ⟨_, List.getElem?_eq_getElem (by have := HM.out; omega)⟩
    have hAC := HAC.out; have hBC := HBC.out
    rcases hAC with hc | ⟨b1, off1, rfl, hbl1, hac⟩
    · rw [hc] at hx; simp at hx
    rcases hBC with hc | ⟨b2, off2, rfl, hbl2, hbc⟩
    · rw [hc] at hy; simp at hy
    obtain ⟨ux, c0, hux⟩ := hac k x hx
    obtain ⟨uy, d0, huy⟩ := hbc k y hy
    have c0 := HB.out.cell (p := ⟨b1, off1 + k, none⟩) hbl1 |>.trans c0
    have d0 := HB.out.cell (p := ⟨b2, off2 + k, none⟩) hbl2 |>.trans d0
    have HSM := hid (fun w' (hb : Below w.heap.size w w') => rsame_any x y ux uy w' (hux.below hb) (huy.below hb) (hl2.out x (List.mem_of_getElem? hx)))
    have hst := sameToD_succ HT.out hx hy
    by_cases hxy : x = y
    · have HT1 := hid (hst.2 hxy)
      have e1 : decide (x = y) = true := by simpa using hxy
      rw [e1] at HSM
      clear hst hx hy hac hbc hux huy hxy e1
      go_wp2_with fail
      go_region_with (go_at_call 47; refine (HSM.out _ HB.out.drew).mono ?_; rintro e w1 ⟨rfl, hb1⟩; have HB1 := hid (below_step (below_step hb1 ((Below.refl wr.heap.size wr).drew)) HB.out); clear hb1)
      all_goals
        go_wp2_with fail
        go_roundw
        case rel => exact ⟨k + 1, by go_num, by omega, HT1, HB1.out⟩
        case measure => simp [intOf]; omega
    · have e : E = false := by
        rw [← HE.out]
        simp only [decide_eq_false_iff_not]
        rintro rfl
        rw [hx] at hy
        cases hy
        exact hxy rfl
      have e1 : decide (x = y) = false := by simpa using hxy
      rw [e1] at HSM
      subst e
      clear hst hx hy hac hbc hux huy hxy e1
      go_wp2_with fail
      go_region_with (go_at_call 47; refine (HSM.out _ HB.out.drew).mono ?_; rintro e w1 ⟨rfl, hb1⟩; have HB1 := hid (below_step (below_step hb1 ((Below.refl wr.heap.size wr).drew)) HB.out); clear hb1)
      all_goals
        go_wp2_with fail
        go_ret
        exact ⟨rfl, HB1.out⟩
end Go.Proofs.YtifcgimpgbeocaaGreat
/- Rows of lists of datasets; appends to rows of numbers and of such lists; a struct of two cells set; what lasts. -/
set_option linter.unusedVariables false
set_option linter.unusedSimpArgs false
namespace Go.Proofs.YtifcgimpgbeocaaGreat
open Go.RowKit
/-- v is a row of one's own, of the values us. -/
def OH (w : World) (B : Nat) (v : Value) (us : List Value) : Prop := w.ownsRow B 35 1 v us.length us
theorem OH.cells {w : World} {B : Nat} {v : Value} {l : List Value} (h : OH w B v l) (hne : 0 < l.length) :
    ∃ g cap, v = .slice (some ⟨g, 0, none⟩) l.length cap ∧ B ≤ g ∧ g < w.heap.size ∧ l.length ≤ cap ∧ (∀ j, w.frozen? ⟨g, j, none⟩ = false) ∧ ∀ j u, l[j]? = some u → w.cell? ⟨g, j, none⟩ = some u := by
  have h0 := h
  unfold OH at h0
  obtain ⟨hl, ⟨rfl, hn⟩ | ⟨g, cap, cur, rfl, hb, hg, hnc, hcm, hcs, ht⟩⟩ := h
  · omega
  · refine ⟨g, cap, rfl, hb, (Array.getElem?_eq_some_iff.1 hg).1, hnc, fun j => World.ownsRow.frozenAt h0 j, fun j u hj => ?_⟩
    have hlt := (List.getElem?_eq_some_iff.1 hj).1
    rw [← ht, List.getElem?_take_of_lt (by omega)] at hj
    unfold World.cell?
    simp only [hg]
    simpa using hj
theorem OH.below {w w' : World} {B : Nat} {v : Value} {l : List Value} (h : OH w B v l) (hb : Below w.heap.size w w') : OH w' B v l :=
  World.ownsRow.kept (row := none) h (below_grow hb none) (by cases v.ownBlock <;> simp)
/-- v reads as lists of datasets. -/
def RdH (w : World) (v : Value) (l : List (List Ds)) : Prop := ∃ o cap, v = .slice o l.length cap ∧ l.length ≤ cap ∧ (l = [] ∨ ∃ b off, o = some ⟨b, off, none⟩ ∧ b < w.heap.size ∧ ∀ i d, l[i]? = some d → ∃ u, w.cell? ⟨b, off + i, none⟩ = some u ∧ RdD w u d)
theorem RdH.below {w w' : World} {v : Value} {d : List (List Ds)} (h : RdH w v d) (hb : Below w.heap.size w w') : RdH w' v d := by
  obtain ⟨o, cap, e, hc, h⟩ := h
  refine ⟨o, cap, e, hc, ?_⟩
  rcases h with h | ⟨b, off, e1, e2, h⟩
  · exact .inl h
  · exact .inr ⟨b, off, e1, Nat.lt_of_lt_of_le e2 hb.size, fun i r hi => by obtain ⟨u, h1, h2⟩ := h i r hi; exact ⟨u, keepc hb h1, h2.below hb⟩⟩
theorem OH.rd {w : World} {B : Nat} {v : Value} {us : List Value} {l : List (List Ds)} (h : OH w B v us) (hl : us.length = l.length) (hr : ∀ (i : Nat) (u : Value) (x : List Ds), us[i]? = some u → l[i]? = some x → RdD w u x) : RdH w v l := by
  rcases Nat.eq_zero_or_pos us.length with h0 | h0
  · have e : l = [] := List.eq_nil_of_length_eq_zero (by omega)
    subst e
    obtain ⟨-, ⟨rfl, hn⟩ | ⟨g, cap, cur, rfl, hb, hg, hnc, hcm, hcs, ht⟩⟩ := h
    · exact ⟨none, 0, rfl, Nat.le_refl _, .inl rfl⟩
    · exact ⟨_, cap, by rw [hl], by simp, .inl rfl⟩
  · obtain ⟨g, cap, rfl, hb, hg, hnc, -, hc⟩ := h.cells h0
    refine ⟨_, cap, by rw [hl], by omega, .inr ⟨g, 0, rfl, hg, fun i d hi => ?_⟩⟩
    obtain ⟨u, hu⟩ : ∃ u, us[i]? = some u := ⟨_, List.getElem?_eq_getElem (by have := (List.getElem?_eq_some_iff.1 hi).1; omega)⟩
    exact ⟨u, by rw [Nat.zero_add]; exact hc i u hu, hr i u d hu hi⟩
theorem RdD.slice {w : World} {v : Value} {l : List Ds} (h : RdD w v l) : ∃ o c, v = .slice o l.length c := by obtain ⟨o, c, e, -⟩ := h; exact ⟨o, c, e⟩
theorem frm_two (w : World) (R i j : Nat) (x y : Value) : Frm (fun k => k = R) w ((w.setCell ⟨R, i, none⟩ x).setCell ⟨R, j, none⟩ y) := frm_setCell (frm_setCell (Frm.refl _ _) (by rfl) _) (by rfl) _
theorem frm_two' (w : World) (R i j : Nat) (x y : Value) : Frm (fun k => k = R) w (((w.setCell ⟨R, i, none⟩ x).setCell ⟨R, j, none⟩ y).drew) := frm_drew (frm_two w R i j x y)
end Go.Proofs.YtifcgimpgbeocaaGreat
