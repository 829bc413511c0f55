/- there, of the law FilesWalks. -/
import Derived.Test.YtifcgimpgbeocaaK0
import Derived.Test.YtifcgimpgbeocaaMA45
import Derived.Test.YtifcgimpgbeocaaK6
set_option linter.unusedVariables false
set_option linter.unusedSimpArgs false
namespace Go.Proofs.Ytifcgimpgbeocaa
open Go.RowKit
attribute [local go_sem] Oper.semAt_some
set_option maxHeartbeats 4000000 in
set_option maxRecDepth 100000 in
theorem lthere_any (d : Ds) (v : Value) (r : Rec) (w : World) (hR : RdR w v d) (hl : d.length ≤ 64) (hm : r ∈ d) : Calls Try.prog 56 #[v, recV r] w (Ret (.bool true) w) := by
  obtain ⟨o, cap, rfl, hcap, hc⟩ := hR
  have HCC := hid hc
  obtain ⟨n, hn, hge⟩ := List.getElem_of_mem hm
  have hget : d[n]? = some r := by rw [List.getElem?_eq_getElem hn, hge]
  have HG := hid hget
  obtain ⟨N, hN⟩ : ∃ N, d.length = N := ⟨_, rfl⟩
  rw [hN] at hl hcap hn ⊢
  have HN := hid hN
  have hq := run_eqR'
  clear hc hN hm hge hget
  obtain ⟨W, hW⟩ : ∃ W, W = w.alloc (.cells #[strV r.1, strV r.2] 59) := ⟨_, rfl⟩
  have HBW : Hid (Below w.heap.size w W) := by rw [hW]; exact balloc (Below.refl _ _) _
  have b0 : Hid (W.cell? ⟨w.heap.size, 0, none⟩ = some (strV r.1)) := by rw [hW]; exact cell_new _ _ _ 0 _ rfl
  have b1 : Hid (W.cell? ⟨w.heap.size, 1, none⟩ = some (strV r.2)) := by rw [hW]; exact cell_new _ _ _ 1 _ rfl
  have HZ : Hid (w.heap.size < W.heap.size) := by rw [hW, World.size_alloc]; unfold Hid; omega
  have HW := hid hW
  clear hW
  go_enter Try.func56, Try.ntmps56
  go_upto_region 1 with fail
  have e := HW.out
  rw [← e]
  clear e HW
  obtain ⟨Z, hZ⟩ : ∃ Z, w.heap.size = Z := ⟨_, rfl⟩
  have HZZ := hid hZ
  simp only [hZ] at b0 b1 HZ ⊢
  clear hZ
  go_wp2_with fail
  go_loopw [9] (fun i wr => ∃ k : Nat, i = .int .i64 k ∧ k ≤ n ∧ Hid (Below W.heap.size W wr)) (fun i _ => N - (intOf i).toNat)
  case atStart => exact ⟨0, rfl, Nat.zero_le _, Below.refl _ _⟩
  case round =>
    obtain ⟨k, rfl, hk, HB⟩ := hrel
    obtain ⟨x, hx⟩ : ∃ x, d[k]? = some x := ⟨_, List.getElem?_eq_getElem (by have := HN.out; omega)⟩
    have hHC := HCC.out
    rcases hHC with hc | ⟨bb, off, rfl, hbl, hc⟩
    · rw [hc] at hx; simp at hx
    obtain ⟨c0, c1⟩ := hc k x hx
    have HT := hid (below_step HB.out HBW.out)
    have c0 := keepc HT.out c0; have c1 := keepc HT.out c1
    have d0 := keepc HB.out b0.out; have d1 := keepc HB.out b1.out
    have hba := balloc (Below.refl wr.heap.size wr) (.cells #[strV x.1, strV x.2] 59)
    have d0' := keepc hba d0; have d1' := keepc hba d1
    have x0 : (wr.alloc (.cells #[strV x.1, strV x.2] 59)).cell? ⟨wr.heap.size, 0, none⟩ = some (strV x.1) := cell_new _ _ _ 0 _ rfl
    have x1 : (wr.alloc (.cells #[strV x.1, strV x.2] 59)).cell? ⟨wr.heap.size, 1, none⟩ = some (strV x.2) := cell_new _ _ _ 1 _ rfl
    have HB2 := hid (below_step hba HB.out)
    have HT2 := hid (below_step hba HT.out)
    have hlt : (k : Int) < (N : Int) := by omega
    have hkn : x ≠ r → k + 1 ≤ n := fun hne => by
      rcases Nat.lt_or_ge k n with h | h
      · omega
      · have e : k = n := by omega
        rw [e, HG.out] at hx
        exact absurd (Option.some.inj hx).symm hne
    clear hba hc hx
    by_cases hxr : x = r
    · have g := fun w => hq x r w
      simp only [hxr, decide_true] at g
      subst hxr
      clear hq hkn
      go_wp2_with fail
      go_ret
      exact ⟨rfl, HT2.out⟩
    · have hk1 := hkn hxr
      have g := fun w => hq x r w
      simp only [hxr, decide_false] at g
      clear hq hkn hxr
      go_wp2_with fail
      go_roundw
      case rel => exact ⟨k + 1, by go_num, by omega, HB2⟩
      case measure => simp [intOf]; omega
end Go.Proofs.Ytifcgimpgbeocaa
