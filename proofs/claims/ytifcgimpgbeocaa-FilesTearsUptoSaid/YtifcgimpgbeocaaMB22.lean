/- The reference's SameDisk, at a disk and itself; acts from some index on. -/
import Derived.Test.YtifcgimpgbeocaaMB21
import Derived.Test.YtifcgimpgbeocaaK6
set_option linter.unusedVariables false
set_option linter.unusedSimpArgs false
namespace Go.Proofs.Ytifcgimpgbeocaa
open Go.RowKit
attribute [local go_sem] Oper.semAt_some
theorem below_drw (w : World) : Below w.heap.size w w.drew := (Below.refl _ _).drew
set_option maxHeartbeats 4000000 in
set_option maxRecDepth 100000 in
theorem rsamedisk_self (d : Dk) (ap aq bp bq : Value) (w : World) (hap : RdS w ap d.1) (haq : RdW w aq d.2) (hbp : RdS w bp d.1) (hbq : RdW w bq d.2) (hl1 : d.1.length ≤ 1000000000) (hl2 : d.2.length ≤ 1000000000) :
    Calls Try.prog 72 #[.agg #[ap, aq], .agg #[bp, bq]] w (Ret (.bool true) w) := by
  obtain ⟨o1, c1, rfl, hc1, h1⟩ := hap
  obtain ⟨o2, c2, rfl, hc2, h2⟩ := haq
  obtain ⟨o3, c3, rfl, hc3, h3⟩ := hbp
  obtain ⟨o4, c4, rfl, hc4, h4⟩ := hbq
  have H1 := hid h1; have H2 := hid h2; have H3 := hid h3; have H4 := hid h4
  obtain ⟨N, hN⟩ : ∃ N, d.1.length = N := ⟨_, rfl⟩
  obtain ⟨M, hM⟩ : ∃ M, d.2.length = M := ⟨_, rfl⟩
  rw [hN] at hl1 hc1 hc3 ⊢
  rw [hM] at hl2 hc2 hc4 ⊢
  have HN := hid hN; have HM := hid hM
  obtain ⟨W, hW⟩ : ∃ W, W = (w.alloc (.cells #[.slice o1 N c1, .slice o2 M c2] 27)).alloc (.cells #[.slice o3 N c3, .slice o4 M c4] 27) := ⟨_, rfl⟩
  have hb1 := balloc (Below.refl w.heap.size w) (.cells #[.slice o1 N c1, .slice o2 M c2] 27)
  have hb2 := balloc (Below.refl (w.alloc (.cells #[.slice o1 N c1, .slice o2 M c2] 27)).heap.size (w.alloc (.cells #[.slice o1 N c1, .slice o2 M c2] 27))) (.cells #[.slice o3 N c3, .slice o4 M c4] 27)
  have HBW : Hid (Below w.heap.size w W) := by rw [hW]; exact below_step hb2 hb1
  have hs : (w.alloc (.cells #[.slice o1 N c1, .slice o2 M c2] 27)).heap.size = w.heap.size + 1 := by simp
  have a0 : W.cell? ⟨w.heap.size, 0, none⟩ = some (.slice o1 N c1) := by rw [hW]; exact keepc hb2 (cell_new _ _ _ 0 _ rfl)
  have a1 : W.cell? ⟨w.heap.size, 1, none⟩ = some (.slice o2 M c2) := by rw [hW]; exact keepc hb2 (cell_new _ _ _ 1 _ rfl)
  have b0 : W.cell? ⟨w.heap.size + 1, 0, none⟩ = some (.slice o3 N c3) := by rw [hW, ← hs]; exact cell_new _ _ _ 0 _ rfl
  have b1 : W.cell? ⟨w.heap.size + 1, 1, none⟩ = some (.slice o4 M c4) := by rw [hW, ← hs]; exact cell_new _ _ _ 1 _ rfl
  have HW := hid hW
  clear hW hb1 hb2 hs h1 h2 h3 h4 hN hM
  go_enter Try.func72, Try.ntmps72
  go_upto_region 1 with fail
  have e := HW.out
  rw [← e]
  clear e HW
  obtain ⟨Z, hZ⟩ : ∃ Z, w.heap.size = Z := ⟨_, rfl⟩
  simp only [hZ] at a0 a1 b0 b1 ⊢
  clear hZ
  have A0 := hid a0; have A1 := hid a1; have B0 := hid b0; have B1 := hid b1
  go_wp2_with fail
  go_loopw [5] (fun i wr => ∃ k : Nat, i = .int .i64 (k : Int) ∧ k ≤ N ∧ Hid (Below W.heap.size W wr)) (fun i _ => N - (intOf i).toNat)
  case atStart => exact ⟨0, rfl, Nat.zero_le _, Below.refl _ _⟩
  case round =>
    obtain ⟨k, rfl, hk, HB⟩ := hrel
    have a0 := keepc HB.out A0.out; have b0 := keepc HB.out B0.out
    by_cases hlt : k < N
    · obtain ⟨x, hx⟩ : ∃ r, d.1[k]? = some r := ⟨_, List.getElem?_eq_getElem (by have := HN.out; omega)⟩
      have hA := H1.out; have hB := H3.out
      rcases hA with hq | ⟨e1, f1, rfl, -, hA⟩
      · rw [hq] at hx; simp at hx
      rcases hB with hq | ⟨e3, f3, rfl, -, hB⟩
      · rw [hq] at hx; simp at hx
      have x0 := keepc (below_step HB.out HBW.out) (hA k x hx)
      have x1 := keepc (below_step HB.out HBW.out) (hB k x hx)
      have HBD := hid (fun n => below_drewN HB.out n)
      have hlti : (k : Int) < (N : Int) := by omega
      clear hA hB hx
      go_wp2_with fail
      go_quiet (fail)
      go_wp2_with fail
      go_roundw
      case rel => exact ⟨k + 1, by go_num, by omega, HBD.out _⟩
      case measure => simp [intOf]; omega
    · have hge : ¬ (k : Int) < (N : Int) := by omega
      have HB1 := HB
      clear HB
      obtain ⟨W1, hW1⟩ : ∃ W1, W1 = wr := ⟨_, rfl⟩
      subst hW1
      go_wp2_with fail
      go_loopw [6] (fun i wr => ∃ k : Nat, i = .int .i64 (k : Int) ∧ k ≤ M ∧ Hid (Below W.heap.size W wr)) (fun i _ => M - (intOf i).toNat)
      case atStart => exact ⟨0, rfl, Nat.zero_le _, HB1⟩
      case round =>
        obtain ⟨k, rfl, hk, HB⟩ := hrel
        have a1 := keepc HB.out A1.out; have b1 := keepc HB.out B1.out
        by_cases hlt : k < M
        · obtain ⟨x, hx⟩ : ∃ r, d.2[k]? = some r := ⟨_, List.getElem?_eq_getElem (by have := HM.out; omega)⟩
          have hA := H2.out; have hB := H4.out
          rcases hA with hq | ⟨e1, f1, rfl, -, hA⟩
          · rw [hq] at hx; simp at hx
          rcases hB with hq | ⟨e3, f3, rfl, -, hB⟩
          · rw [hq] at hx; simp at hx
          obtain ⟨x0, x1⟩ := hA k x hx
          obtain ⟨x2, x3⟩ := hB k x hx
          have x0 := keepc (below_step HB.out HBW.out) x0; have x1 := keepc (below_step HB.out HBW.out) x1
          have x2 := keepc (below_step HB.out HBW.out) x2; have x3 := keepc (below_step HB.out HBW.out) x3
          have HBD := hid (fun n => below_drewN HB.out n)
          have hneq := fun w => run_neqW x x w
          simp only [decide_true, Bool.not_true] at hneq
          have hlti : (k : Int) < (M : Int) := by omega
          clear hA hB hx
          go_wp2_with fail
          go_quiet (fail)
          go_wp2_with fail
          go_roundw
          case rel => exact ⟨k + 1, by go_num, by omega, HBD.out _⟩
          case measure => simp [intOf]; omega
        · have hge : ¬ (k : Int) < (M : Int) := by omega
          go_wp2_with fail
          go_ret
          exact ⟨rfl, below_step HB.out HBW.out⟩
theorem elemAc2 : Try.prog.elem 45 = 104 := by kernel_rfl
theorem sliceAc2 : Try.prog.underlying 45 = some (.slice (Try.prog.elem 45)) := by kernel_rfl
theorem sizeOfAc2 (w : World) : (sizeOf 104).run Try.prog w = .ok 3 w := by kernel_rfl
/-- acts[l:]. -/
theorem run_cutl_ex (o : Option Addr) (len cap l : Nat) (h1 : l ≤ len) (h2 : len ≤ cap) : ∃ o', (∀ w, (Instr.slice 45 (.slice o len cap) (some (.int .i64 (l : Int))) none none).run Try.prog w = .ok (.slice o' (len - l) (cap - l)) w) ∧ ∀ b off, o = some ⟨b, off, none⟩ → l < cap → o' = some ⟨b, off + l * 3, none⟩ := by
  have hr := fun w : World => run_slice_l (P := Try.prog) (t := 45) (ht := sliceAc2) (kl := .i64) (l := (l : Int)) (h0 := by omega) (h1 := by omega) (w := w) (a := o) (len := len) (cap := cap)
  cases o with
  | none =>
    refine ⟨none, fun w => ?_, fun b off e => by cases e⟩
    rw [hr w, elemAc2, sizeOfAc2]
    simp only [Result.andThen, sliced]
    split <;> simp
  | some x =>
    by_cases hlc : l < cap
    · refine ⟨some (x.add (l * 3)), fun w => ?_, fun b off e _ => by cases e; rw [addr_add]⟩
      rw [hr w, elemAc2, sizeOfAc2]
      simp only [Result.andThen, sliced]
      rw [Int.toNat_natCast]
      split
      · rename_i h; exfalso; omega
      · rfl
    · refine ⟨some x, fun w => ?_, fun b off e h => absurd h hlc⟩
      rw [hr w, elemAc2, sizeOfAc2]
      simp only [Result.andThen, sliced]
      rw [Int.toNat_natCast]
      split
      · rfl
      · rename_i h; exfalso; omega
theorem RdA.cut {w : World} {o o' : Option Addr} {n c m : Nat} {L : List Ac} (h : RdA w (.slice o n c) L) (hm : m ≤ L.length) (ho : ∀ b off, o = some ⟨b, off, none⟩ → m < c → o' = some ⟨b, off + m * 3, none⟩) : RdA w (.slice o' (n - m) (c - m)) (L.drop m) := by
  obtain ⟨o2, c2, e, hc, h⟩ := h
  cases e
  refine ⟨o', c - m, by rw [List.length_drop], by rw [List.length_drop]; omega, ?_⟩
  rcases h with h | ⟨b, off, e1, e2, h⟩
  · exact .inl (by rw [h]; simp)
  · rcases Nat.lt_or_ge m L.length with hlt | hge
    · refine .inr ⟨b, off + m * 3, ho b off e1 (by omega), e2, fun i r hi => ?_⟩
      rw [List.getElem?_drop] at hi
      have h3 := h (m + i) r hi
      have e : off + (m + i) * 3 = off + m * 3 + i * 3 := by omega
      rw [e] at h3
      exact h3
    · exact .inl (List.drop_of_length_le hge)
end Go.Proofs.Ytifcgimpgbeocaa
