/- held (57): the walk. -/
import Derived.Test.YtcfmimfkaabmkaaR1
import Derived.Deep.RegionWith
set_option linter.unusedVariables false
set_option linter.unusedSimpArgs false
namespace Go.Proofs.Ytcfmimfkaabmkaa
open Go.RowKit
attribute [local go_sem] Oper.semAt_some
attribute [local irreducible] num
set_option maxHeartbeats 4000000 in
set_option maxRecDepth 100000 in
theorem held_any (l : List UInt8) (lay L : Lay) (v1 v2 : Value) (w : World) (hA : Area l lay) (hL : L.Perm lay) (hR : RP w v1 (psOf (itsOf L))) (hT : RS w v2 (bsOf (itsOf L))) :
    Calls Try.prog 57 #[.string ⟨l.toArray⟩, v1, v2] w (SanePost w) := by
  have ho : openS l = true := (openS_iff _).2 ⟨_, hA⟩
  have hD : layD l = lay := layD_area hA
  have hl : l.length ≤ maxLen := by have := hA.2.1; unfold maxLen; omega
  have hml := (area_num4 hA).2
  have hll := hL.length_eq
  have hp1 : (psOf (itsOf L)).length = L.length := by rw [psOf_its, List.length_map]
  have hb1 : (bsOf (itsOf L)).length = L.length := by rw [bsOf_its, List.length_map]
  have hp2 : (psOf (itsOf lay)).length = L.length := by rw [psOf_its, List.length_map, hll]
  have g26 : ∀ w, Calls Try.prog 26 #[.string ⟨l.toArray⟩] w (fun e w' => ∃ v, e = .returned (.tuple #[v, .int .i64 0]) ∧ RP w' v (psOf (itsOf lay)) ∧ Below w.heap.size w w') := fun w => by
    have := blocks_any l w hl
    unfold PiecesPost blocksS at this
    rw [if_pos ho, hD] at this
    exact this.mono fun e w' ⟨v, h1, h2, h3⟩ => ⟨v, h1, h2.rp, h3⟩
  have g25 : ∀ w, Calls Try.prog 25 #[.string ⟨l.toArray⟩] w (fun e w' => e = .returned (.int .i64 0) ∧ Below w.heap.size w w') := fun w => by
    have := check_l l w hl
    unfold IntPost chkS at this
    rw [if_pos ho] at this
    exact this
  have gmem : ∀ (k p : Nat) (s : List UInt8), L[k]? = some (p, s) → ∃ i, lay[i]? = some (p, s) := fun k p s hx => List.getElem?_of_mem (hL.mem_iff.1 (List.mem_of_getElem? hx))
  have g42 : ∀ (k p : Nat) (s : List UInt8), L[k]? = some (p, s) → ∀ w, Calls Try.prog 42 #[.string ⟨l.toArray⟩, .int .i64 (p : Int), .int .i64 (s.length : Int)] w (fun e w' => e = .returned (.tuple #[.string ⟨s.toArray⟩, .int .i64 0]) ∧ Below w.heap.size w w') := fun k p s hx w => by
    obtain ⟨i, hi⟩ := gmem k p s hx
    exact get_at hA hi w
  have g40 : ∀ (k p : Nat) (s : List UInt8), L[k]? = some (p, s) → ∀ w, Calls Try.prog 40 #[.string ⟨l.toArray⟩, .int .i64 (p : Int)] w (fun e w' => e = .returned (.tuple #[.agg #[.int .i64 (p : Int), .int .i64 (s.length : Int)], .int .i64 0]) ∧ Below w.heap.size w w') := fun k p s hx w => by
    obtain ⟨i, hi⟩ := gmem k p s hx
    have := find_any l (p : Int) w hl
    unfold PieceR at this
    rw [findS_at hA hi] at this
    exact this
  have gin : ∀ (k p : Nat) (s : List UInt8), L[k]? = some (p, s) → p + s.length ≤ 8192 := fun k p s hx => by
    obtain ⟨i, hi⟩ := gmem k p s hx
    have h4 := ends_le lay _ _ hA.2.2.1 _ (List.mem_of_getElem? hi)
    have h5 := hA.2.2.2.1
    have h6 := hA.2.1
    have h7 := upN_bd s.length
    simp only at h4
    omega
  obtain ⟨o1, cap1, rfl, hc1⟩ := hR
  obtain ⟨o2, cap2, rfl, hc2⟩ := hT
  have H25 := hid g25; have H26 := hid g26; have H42 := hid g42; have H40 := hid g40; have HIN := hid gin
  have HC1 := hid hc1; have HC2 := hid hc2
  rw [hp1, hb1]
  obtain ⟨m, hm⟩ : ∃ m, L.length = m := ⟨_, rfl⟩
  rw [hm] at hp2 ⊢
  have hmm : m ≤ 8192 := by omega
  have HM := hid hm; have HP2 := hid hp2
  clear g25 g26 g42 g40 gin hc1 hc2 hp1 hp2 hb1 hm hll gmem ho hD hA hL
  unfold maxLen at hl
  go_enter Try.func57, Try.ntmps57
  go_wp2_with fail
  refine (H26.out _).mono ?_
  rintro e w1 ⟨v4, rfl, hr4, hb1⟩
  obtain ⟨o4, cap4, e4, -⟩ := hr4
  rw [HP2.out] at e4
  subst e4
  have HB1 := hid hb1; clear hb1
  go_wp2_with fail
  refine (H25.out _).mono ?_
  rintro e w2 ⟨rfl, hb2⟩
  have HB2 := hid (below_step hb2 HB1.out); clear hb2
  go_wp2_with fail
  go_loopw [35] (fun i wr => ∃ k : Nat, i = .int .i64 k ∧ k ≤ m ∧ Hid (Below w2.heap.size w2 wr)) (fun i _ => m - (intOf i).toNat)
  case atStart => exact ⟨0, rfl, Nat.zero_le _, Below.refl _ _⟩
  case round =>
    obtain ⟨k, rfl, hk, HB⟩ := hrel
    by_cases hlt : k < m
    · obtain ⟨⟨p, s⟩, hx⟩ : ∃ x, L[k]? = some x := ⟨_, List.getElem?_eq_getElem (by have := HM.out; omega)⟩
      have hxp : (psOf (itsOf L))[k]? = some ((p : Int), (s.length : Int)) := by rw [psOf_its, List.getElem?_map, hx]; rfl
      have hxs : (bsOf (itsOf L))[k]? = some s := by rw [bsOf_its, List.getElem?_map, hx]; rfl
      rcases HC1.out with hc | ⟨b1, off1, rfl, hbl1, hc1⟩
      · rw [hc] at hxp; simp at hxp
      rcases HC2.out with hc | ⟨b2, off2, rfl, hbl2, hc2⟩
      · rw [hc] at hxs; simp at hxs
      have HBW := hid (below_step HB.out HB2.out)
      have A0 := keepc HBW.out (hc1 k _ hxp).1
      have A1 := keepc HBW.out (hc1 k _ hxp).2
      have A2 := keepc HBW.out (hc2 k _ hxs)
      unfold strV at A2
      simp only at A0 A1
      have K42 := hid (H42.out k p s hx)
      have K40 := hid (H40.out k p s hx)
      have hin := HIN.out k p s hx
      have i1 : (!s == s) = false := by simp
      clear hx hxp hxs hc1 hc2
      go_upto_region 7 with (fail)
      go_region_with (go_at_call_of 42 (Value.string ⟨l.toArray⟩); refine (K42.out _).mono ?_; rintro e w6 ⟨rfl, hb6⟩; have HB6 := hid (below_step hb6 (HB.out.drew)); have A0 := keepc hb6 A0; have A1 := keepc hb6 A1; have A2 := keepc hb6 A2; clear hb6)
      all_goals go_wp2_with fail
      all_goals
        refine (K40.out _).mono ?_
        rintro e w8 ⟨rfl, hb8⟩
        have HB8 := hid (below_step hb8 HB6.out)
        have hz8 := HB8.out.size
        have A0 : ∀ o, (w8.alloc o).cell? ⟨b1, off1 + k * 2, none⟩ = some (.int .i64 (p : Int)) := fun o => keep_alloc (keepc hb8 A0) o
        have A1 : ∀ o, (w8.alloc o).cell? ⟨b1, off1 + k * 2 + 1, none⟩ = some (.int .i64 (s.length : Int)) := fun o => keep_alloc (keepc hb8 A1) o
        have A2 : ∀ o, (w8.alloc o).cell? ⟨b2, off2 + k, none⟩ = some (.string ⟨s.toArray⟩) := fun o => keep_alloc (keepc hb8 A2) o
        clear hb8
        go_wp2_with fail
        go_quiet (fail)
        go_wp2_with fail
        go_roundw
        case rel => exact ⟨k + 1, by first | rfl | go_num, by omega, below_drewN (HB8.out.alloc hz8 _) _⟩
        case measure => simp [intOf]; omega
    · go_wp2_with fail
      go_ret
      exact ⟨rfl, below_step HB.out HB2.out⟩
end Go.Proofs.Ytcfmimfkaabmkaa
