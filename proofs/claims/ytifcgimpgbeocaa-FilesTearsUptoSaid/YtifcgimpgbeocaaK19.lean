/- content. -/
import Derived.Test.YtifcgimpgbeocaaK14
import Derived.Test.YtifcgimpgbeocaaK15
import Derived.Test.YtifcgimpgbeocaaK9
set_option linter.unusedVariables false
set_option linter.unusedSimpArgs false
namespace Go.Proofs.Ytifcgimpgbeocaa
open Go.RowKit
attribute [local go_sem] Oper.semAt_some
theorem pgs_bd {n len : Nat} (h : len ≤ 64 * halfN n) : pgs len ≤ halfN n := by unfold pgs; omega
theorem logPages_succ (d : Dk) (lg k : Nat) : logPages d lg (k + 1) = logPages d lg k ++ wrt d (firstPg d.1.length lg + k) := by
  unfold logPages
  rw [List.range_succ, List.flatMap_append]
  simp
theorem trans_of' {W w w1 : World} (k : Below W.heap.size W w1) (h : Below w.heap.size w W) : Below w.heap.size w w1 := h.trans (k.mono h.size)
set_option maxHeartbeats 2000000 in
set_option maxRecDepth 100000 in
theorem content_any (d : Dk) (vp vq : Value) (lg len : Nat) (w : World) (hp : RdS w vp d.1) (hq : RdW w vq d.2) (hd : isDk d = true) (hlg : lg ≤ 1) (hlen : len ≤ 64 * halfN d.1.length) (hl : d.2.length ≤ 1000000000) :
    Calls Try.prog 78 #[.agg #[vp, vq], .int .i64 (lg : Int), .int .i64 (len : Int)] w (Ret (strV (content d lg len)) w) := by
  have hdl := isDk_len hd
  have hpg := pgs_bd hlen
  have hhb : halfN d.1.length ≤ 2047 := by unfold halfN; omega
  have HWR : Hid (∀ w' (hb : Below w.heap.size w w') (k : Nat), k < pgs len → Calls Try.prog 112 #[.agg #[vp, vq], .int .i64 ((firstPg d.1.length lg + k : Nat) : Int)] w' (Ret (strV (wrt d (firstPg d.1.length lg + k))) w')) := fun w' hb k hk =>
    written_any d vp vq _ w' (hp.below hb) (hq.below hb) (first_lt hdl.1 hlg (by omega)).2 hdl.2 hl
  have HWL : Hid (∀ k, k < pgs len → (wrt d (firstPg d.1.length lg + k)).length = 64) := fun k hk => wrt_len hd (first_lt hdl.1 hlg (by omega)).2
  have HFL : Hid (firstPg d.1.length lg ≤ 10000) := by
    have : lg = 0 ∨ lg = 1 := by omega
    unfold Hid firstPg
    rcases this with rfl | rfl <;> omega
  have HLL : Hid (∀ k, k ≤ pgs len → (logPages d lg k).length = k * 64) := by
    intro k
    induction k with
    | zero => intro _; rfl
    | succ k ih => intro hk; rw [logPages_succ, List.length_append, ih (by omega), HWL.out k (by omega)]; omega
  have HCT : Hid (content d lg len = (logPages d lg (pgs len)).take len) := rfl
  have HLS := hid (fun k => logPages_succ d lg k)
  obtain ⟨op, cp, rfl, -, -⟩ := hp
  obtain ⟨oq, cq, rfl, -, -⟩ := hq
  obtain ⟨N, hN⟩ : ∃ N, d.1.length = N := ⟨_, rfl⟩
  obtain ⟨M, hM⟩ : ∃ M, d.2.length = M := ⟨_, rfl⟩
  simp only [hN, hM] at HWR HWL HFL HLS hdl hlen hpg hhb ⊢
  have HFI := hid (fun w' => first_any op N cp oq M cq lg w' hdl.1 hdl.2 hlg)
  have HPN : Hid (pgs len = (len + 63) / 64) := rfl
  obtain ⟨m, hm⟩ : ∃ m, pgs len = m := ⟨_, rfl⟩
  obtain ⟨F, hF⟩ : ∃ F, firstPg N lg = F := ⟨_, rfl⟩
  simp only [hm, hF] at HWR HWL HFL HLL HCT HLS hpg HFI HPN
  clear hN hM hd hl hm hF
  have e1 : IntKind.i64.wrap ((len : Int) + 64) = (len : Int) + 64 := IntWalk.i64_in _ ⟨by omega, by omega⟩
  have e2 : IntKind.i64.wrap ((len : Int) + 64 - 1) = (len : Int) + 64 - 1 := IntWalk.i64_in _ ⟨by omega, by omega⟩
  have e3 : IntKind.i64.wrap (((len : Int) + 64 - 1).tdiv 64) = (m : Int) := by have := HPN.out; rw [Int.tdiv_eq_ediv_of_nonneg (by omega), IntWalk.i64_in _ ⟨by omega, by omega⟩]; omega
  obtain ⟨W, hW⟩ : ∃ W, W = w.alloc (.cells #[.slice op N cp, .slice oq M cq] 27) := ⟨_, rfl⟩
  have hzW : W.heap.size = w.heap.size + 1 := by rw [hW]; simp
  have k0 : W.cell? ⟨w.heap.size, 0, none⟩ = some (.slice op N cp) := by rw [hW]; exact cell_new _ _ _ 0 _ rfl
  have k1 : W.cell? ⟨w.heap.size, 1, none⟩ = some (.slice oq M cq) := by rw [hW]; exact cell_new _ _ _ 1 _ rfl
  have HBW : Hid (Below w.heap.size w W) := by rw [hW]; exact balloc (Below.refl _ _) _
  have HI0 := hid (isB_new W)
  have HB0 := hid (balloc (Below.refl W.heap.size W) (.cells #[.pointer none, .slice none 0 0] 169))
  have HW := hid hW
  clear hW
  go_enter Try.func78, Try.ntmps78
  go_wp2_with fail
  have e := HW.out
  simp only [← e, ← hzW]
  clear e HW hzW
  go_loopw [13] (fun i wr => ∃ k : Nat, i = .int .i64 k ∧ k ≤ m ∧ Hid (IsB W.heap.size W.heap.size (logPages d lg k) wr) ∧ Hid (Below W.heap.size W wr)) (fun i _ => m - (intOf i).toNat)
  case atStart => exact ⟨0, rfl, Nat.zero_le _, HI0, HB0⟩
  case round =>
    obtain ⟨k, rfl, hk, HI, HB⟩ := hrel
    by_cases hlt : k < m
    · have hlt64 : (k : Int) < (m : Int) := by omega
      have HWRK := hid (fun w' hb => HWR.out w' hb k hlt)
      have HFLO := HFL.out
      have HS := HLS.out k
      have HLK := HLL.out k (by omega)
      have HWK := HWL.out k hlt
      have HST := hid HS
      have HLN : Hid ((logPages d lg k).length + (wrt d (F + k)).length ≤ 1000000000) := by unfold Hid; omega
      obtain ⟨G, hG⟩ : ∃ G, F + k = G := ⟨_, rfl⟩
      have e5 : IntKind.i64.wrap ((F : Int) + (k : Int)) = (G : Int) := by unfold Hid at HFLO; rw [IntWalk.i64_in _ ⟨by omega, by omega⟩]; omega
      rw [hG] at HWRK HST HLN
      clear HS HLK HWK HFLO hG
      go_wp2_with fail
      go_region_held3 (fun w' => Below W.heap.size W w' ∧ w'.cell? ⟨w.heap.size, 0, none⟩ = some (.slice op N cp) ∧ w'.cell? ⟨w.heap.size, 1, none⟩ = some (.slice oq M cq))
        ((refine (fun hS => ⟨hS, keepc hS k0, keepc hS k1⟩ : Below W.heap.size W _ → _) ?_; first | exact HB.out.drew | exact hb5))
        (first
          | (go_at_call 123; refine (HFI.out _).mono ?_; rintro e w5 ⟨rfl, hb5'⟩; have hb5 : Below W.heap.size W w5 := below_step hb5' (And.left (by assumption)); have HI5 := hid ((HI.out.below (drew_below _)).below hb5'); clear hb5')
          | (go_at_call 112; refine (HWRK.out _ (below_step (And.left (by assumption)) HBW.out)).mono ?_; rintro e w6 ⟨rfl, hb6'⟩; have hb5 : Below W.heap.size W w6 := below_step hb6' (And.left (by assumption)); have HI6 := hid (HI5.out.below hb6'); clear hb6')
          | (go_at_call 122; refine (wstr_any _ _ _ _ _ HI6.out HLN.out (Below.size (And.left (by assumption)))).mono ?_; rintro e w7 ⟨rfl, hi7, hb7⟩; have hb5 : Below W.heap.size W w7 := (And.left (by assumption) : Below W.heap.size W w6).trans hb7; have HI7 := hid hi7; clear hi7 hb7)
          | (fail "x"))
      have HB7 : Hid (Below W.heap.size W w7) := (by assumption)
      have HI7' : Hid (IsB W.heap.size W.heap.size (logPages d lg (k + 1)) w7) := by rw [HST.out]; exact HI7.out
      go_wp2_with fail
      go_roundw
      case rel => exact ⟨k + 1, by go_num, by omega, HI7', HB7⟩
      case measure => simp [intOf]; omega
    · have hkM : k = m := by omega
      subst hkM
      have HB1 := hid (below_step (Below.refl _ _) HB.out)
      have hlen2 : (len : Int) ≤ ((logPages d lg k).length : Int) := by rw [HLL.out k (by omega)]; have := HPN.out; omega
      have HE := ext_take' (logPages d lg k) len
      skip
      go_wp2_with fail
      refine (bstr_any _ _ _ _ HI.out HB.out.size).mono ?_
      rintro e w8 ⟨rfl, hb8⟩
      have HB8 := hid (trans_of' (HB.out.trans hb8) HBW.out)
      clear hb8
      go_wp2_with fail
      go_ret
      exact ⟨by rw [HCT.out]; rfl, HB8.out⟩
end Go.Proofs.Ytifcgimpgbeocaa
