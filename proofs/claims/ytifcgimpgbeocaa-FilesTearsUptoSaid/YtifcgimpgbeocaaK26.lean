/- The reference's Same. -/
import Derived.Test.YtifcgimpgbeocaaK2
import Derived.Laws.StructEq
set_option linter.unusedVariables false
set_option linter.unusedSimpArgs false
namespace Go.Proofs.Ytifcgimpgbeocaa
open Go.RowKit
attribute [local go_sem] Oper.semAt_some
theorem run_neqR (x y : Rec) (w : World) : (binOp .neq 59 (.agg #[strV x.1, strV x.2]) (.agg #[strV y.1, strV y.2])).run Try.prog w = .ok (.bool (!decide (x = y))) w := by
  have e : decide (x = y) = ((x.1 == y.1) && (x.2 == y.2)) := by
    obtain ⟨a, b⟩ := x; obtain ⟨c, d⟩ := y
    by_cases h1 : a = c <;> by_cases h2 : b = d <;> simp [h1, h2]
  rw [run_neq_struct, run_equalIn_agg (ht := by kernel_rfl) (hp := by kernel_rfl)]
  have hf : (Try.prog.fieldsOf 59).toList = (match Try.prog.underlying 59 with | some (.struct fs) => fs.toList | _ => []) := by kernel_rfl
  rw [hf, Try.underlying59]
  simp [go_sem, Op.eqFields, run_equalIn_string (h := Try.underlying9), e]
  by_cases h1 : x.1 = y.1 <;> by_cases h2 : x.2 = y.2 <;> simp [h1, h2]
/-- All records ahead of k are the same. -/
def SameTo (a b : Ds) (k : Nat) : Prop := a.take k = b.take k
theorem sameTo_succ {a b : Ds} {k : Nat} {x y : Rec} (h : SameTo a b k) (ha : a[k]? = some x) (hb : b[k]? = some y) : SameTo a b (k + 1) ↔ x = y := by
  obtain ⟨h1, rfl⟩ := List.getElem?_eq_some_iff.1 ha
  obtain ⟨h2, rfl⟩ := List.getElem?_eq_some_iff.1 hb
  unfold SameTo at *
  rw [List.take_succ_eq_append_getElem h1, List.take_succ_eq_append_getElem h2, h, List.append_right_inj]
  simp
set_option maxHeartbeats 1000000 in
set_option maxRecDepth 100000 in
theorem rsame_any (a b : Ds) (u v : Value) (w : World) (hA : RdR w u a) (hB : RdR w v b) (hl : a.length ≤ maxLen) : Calls Try.prog 41 #[u, v] w (Ret (.bool (decide (a = b))) w) := by
  unfold maxLen at hl
  obtain ⟨oa, ca, rfl, hca, hac⟩ := hA
  obtain ⟨ob, cb, rfl, hcb, hbc⟩ := hB
  by_cases hlen : a.length = b.length
  rotate_left
  · have e : decide (a = b) = false := by simp; rintro rfl; exact hlen rfl
    rw [e]
    have g1 : ((a.length : Int) == (b.length : Int)) = false := by rw [beq_eq_false_iff_ne]; omega
    obtain ⟨N, hN⟩ : ∃ N, a.length = N := ⟨_, rfl⟩
    obtain ⟨M, hM⟩ : ∃ M, b.length = M := ⟨_, rfl⟩
    rw [hN, hM] at g1 ⊢
    clear e hac hbc hN hM hlen hl hca hcb
    go_enter Try.func41, Try.ntmps41
    go_wp2_with fail
    go_ret
    exact ⟨rfl, Below.refl _ _⟩
  have HAC := hid hac; have HBC := hid hbc
  obtain ⟨E, hE⟩ : ∃ E, decide (a = b) = E := ⟨_, rfl⟩
  rw [hE]
  have HE := hid hE
  obtain ⟨N, hN⟩ : ∃ N, a.length = N := ⟨_, rfl⟩
  rw [← hlen] at hcb ⊢
  have hM : b.length = N := by omega
  rw [hN] at hl hca hcb ⊢
  have HN := hid hN; have HM := hid hM
  clear hac hbc hE hN hM hlen
  go_enter Try.func41, Try.ntmps41
  go_wp2_with fail
  go_loopw [5] (fun i wr => ∃ k : Nat, i = .int .i64 k ∧ k ≤ N ∧ Hid (SameTo a b k) ∧ Hid (Below w.heap.size w wr)) (fun i _ => N - (intOf i).toNat)
  case atStart => exact ⟨0, rfl, Nat.zero_le _, rfl, Below.refl _ _⟩
  case round =>
    obtain ⟨k, rfl, hk, HT, HB⟩ := hrel
    by_cases hlt : k < N
    rotate_left
    · have e : E = true := by
        have h1 := HT.out
        unfold SameTo at h1
        rw [List.take_of_length_le (by have := HN.out; omega), List.take_of_length_le (by have := HM.out; omega)] at h1
        rw [← HE.out]; simpa using h1
      subst e
      go_wp2_with fail
      go_ret
      exact ⟨rfl, HB.out⟩
    obtain ⟨x, hx⟩ : ∃ r, a[k]? = some r := ⟨_, List.getElem?_eq_getElem (by have := HN.out; omega)⟩
    obtain ⟨y, hy⟩ : ∃ r, b[k]? = some r := ⟨_, List.getElem?_eq_getElem (by have := HM.out; omega)⟩
    have hAC := HAC.out; have hBC := HBC.out
    rcases hAC with hc | ⟨b1, off1, rfl, hbl1, hac⟩
    · rw [hc] at hx; simp at hx
    rcases hBC with hc | ⟨b2, off2, rfl, hbl2, hbc⟩
    · rw [hc] at hy; simp at hy
    obtain ⟨c0, c1⟩ := hac k x hx
    obtain ⟨d0, d1⟩ := hbc k y hy
    have c0 := HB.out.cell (p := ⟨b1, off1 + k * 2, none⟩) hbl1 |>.trans c0
    have c1 := HB.out.cell (p := ⟨b1, off1 + k * 2 + 1, none⟩) hbl1 |>.trans c1
    have d0 := HB.out.cell (p := ⟨b2, off2 + k * 2, none⟩) hbl2 |>.trans d0
    have d1 := HB.out.cell (p := ⟨b2, off2 + k * 2 + 1, none⟩) hbl2 |>.trans d1
    have hst := sameTo_succ HT.out hx hy
    have hneq := fun w => run_neqR x y w
    have HBD := hid (fun n => below_drewN HB.out n)
    by_cases hxy : x = y
    · have HT1 := hid (hst.2 hxy)
      have e1 : decide (x = y) = true := by simpa using hxy
      rw [e1] at hneq
      clear hst hx hy hac hbc hxy e1
      go_wp2_with fail
      go_quiet (fail)
      go_wp2_with fail
      go_roundw
      case rel => exact ⟨k + 1, by go_num, by omega, HT1, HBD.out _⟩
      case measure => simp [intOf]; omega
    · have e : E = false := by
        rw [← HE.out]
        simp only [decide_eq_false_iff_not]
        rintro rfl
        rw [hx] at hy
        cases hy
        exact hxy rfl
      have e1 : decide (x = y) = false := by simpa using hxy
      rw [e1] at hneq
      subst e
      clear hst hx hy hac hbc hxy e1
      go_wp2_with fail
      go_quiet (fail)
      go_wp2_with fail
      go_ret
      exact ⟨rfl, HBD.out _⟩
end Go.Proofs.Ytifcgimpgbeocaa
