/- The walk of R.room. -/
import Derived.Test.YtcfmimfkaabmkaaE2
set_option linter.unusedVariables false
set_option linter.unusedSimpArgs false
namespace Go.Proofs.Ytcfmimfkaabmkaa
open Go.RowKit
attribute [local go_sem] Oper.semAt_some
/-- Numbers of pieces that no sum of them leaves the integers. -/
def SmallP (ps : List (Int × Int)) : Prop := ps.length ≤ 100000 ∧ ∀ (i : Nat) (p : Int × Int), ps[i]? = some p → 0 ≤ p.1 ∧ p.1 ≤ 1000000000 ∧ 0 ≤ p.2 ∧ p.2 ≤ 1000000000
def RoomPost (n : Int) (ps : List (Int × Int)) (b : Int × Int) (w : World) (e : Ending) (w' : World) : Prop := e = .returned (.bool (roomS n ps b)) ∧ Below w.heap.size w w'
def clash (b q : Int × Int) : Bool := decide (b.1 - 8 < q.1 + upZ q.2) && decide (q.1 - 8 < b.1 + upZ b.2)
theorem roomS_eq (n : Int) (ps : List (Int × Int)) (b : Int × Int) : roomS n ps b = (!decide (n < b.1 + upZ b.2) && !ps.any (clash b)) := by
  unfold roomS clash
  rw [List.not_any_eq_all_not]
theorem any_snoc {α : Type} (f : α → Bool) (l : List α) (k : Nat) (x : α) (h : l[k]? = some x) (h0 : (l.take k).any f = false) (h1 : f x = false) : (l.take (k + 1)).any f = false := by
  rw [List.take_add_one, h]; simp [h0, h1]
set_option maxHeartbeats 1000000 in
set_option maxRecDepth 100000 in
theorem room_any (n : Int) (v : Value) (ps : List (Int × Int)) (b0 b1 : Int) (w : World) (hR : RP w v ps) (hS : SmallP ps) (h0 : 0 ≤ b0) (h1 : b0 ≤ 1000000000) (h2 : 0 ≤ b1) (h3 : b1 ≤ 1000000000) :
    Calls Try.prog 68 #[.int .i64 n, v, .agg #[.int .i64 b0, .int .i64 b1]] w (RoomPost n ps (b0, b1) w) := by
  obtain ⟨o, cap, rfl, hc⟩ := hR
  obtain ⟨hlen, hS⟩ := hS
  have HS := hid hS; clear hS
  have HC := hid hc; clear hc
  have HE := hid (roomS_eq n ps (b0, b1))
  have hub := upZ_bd b1 h2
  obtain ⟨hub, hub'⟩ := hub
  go_enter Try.func68, Try.ntmps68
  go_wp2_with fail
  go_quiet ((go_at_call 67; exact Calls.quiet_of_same ((rup_any _ _ (by omega) (by omega)).mono (fun _ _ h => ⟨h.1, h.2.symm⟩))))
  by_cases hbig : n < b0 + upZ b1
  · have hd : decide (n < b0 + upZ b1) = true := by simpa using hbig
    go_wp2_with fail
    go_ret
    exact ⟨ret_bool (by rw [HE.out, hd]; rfl), below_drewN ((Below.refl _ _).alloc (Nat.le_refl _) _) _⟩
  have hd : decide (n < b0 + upZ b1) = false := by simpa using hbig
  go_wp2_with fail
  go_loopw [9] (fun i wr => ∃ k : Nat, i = .int .i64 k ∧ k ≤ ps.length ∧ (ps.take k).any (clash (b0, b1)) = false ∧ Below w.heap.size w wr) (fun i _ => ps.length - (intOf i).toNat)
  case atStart => exact ⟨0, rfl, Nat.zero_le _, rfl, below_drewN ((Below.refl _ _).alloc (Nat.le_refl _) _) _⟩
  case round =>
    obtain ⟨k, rfl, hk, hany, hb⟩ := hrel
    have HA := hid hany; clear hany
    have HB := hid hb; clear hb
    have HD := hid hd; clear hd
    by_cases hlt : k < ps.length
    · obtain ⟨q, hq⟩ : ∃ q, ps[k]? = some q := ⟨_, List.getElem?_eq_getElem hlt⟩
      obtain ⟨s0, s1, s2, s3⟩ := HS.out k q hq
      obtain hc := HC.out
      rcases hc with hc | ⟨b, off, rfl, hbl, hc⟩
      · subst hc; simp at hlt
      obtain ⟨c0, c1⟩ := hc k q hq
      have c0 := keepc HB.out c0
      have c1 := keepc HB.out c1
      have HQ := hid hq
      clear hq hc
      obtain ⟨q0, q1⟩ := q
      simp only at s0 s1 s2 s3 c0 c1
      have huq := upZ_bd q1 s2
      obtain ⟨huq, huq'⟩ := huq
      have hsum : IntKind.i64.wrap (q0 + upZ q1) = q0 + upZ q1 := IntWalk.i64_in _ ⟨by omega, by omega⟩
      have HK := fun h => hid (any_snoc (clash (b0, b1)) ps k (q0, q1) HQ.out HA.out h)
      have HY := fun (h : clash (b0, b1) (q0, q1) = true) => hid (show ps.any (clash (b0, b1)) = true from List.any_eq_true.2 ⟨(q0, q1), List.mem_of_getElem? HQ.out, h⟩)
      by_cases hg1 : b0 - 8 < q0 + upZ q1
      · have hd1 : decide (b0 - 8 < q0 + upZ q1) = true := by simpa using hg1
        by_cases hg2 : q0 - 8 < b0 + upZ b1
        · have hd2 : decide (q0 - 8 < b0 + upZ b1) = true := by simpa using hg2
          have HF := HY (by unfold clash; rw [hd1, hd2]; rfl)
          clear HK HY
          go_wp2_with fail
          go_quiet ((go_at_call 67; exact Calls.quiet_of_same ((rup_any _ _ (by omega) (by omega)).mono (fun _ _ h => ⟨h.1, h.2.symm⟩))))
          go_wp2_with fail
          go_ret
          exact ⟨ret_bool (by rw [HE.out, HF.out]; simp), below_drewN HB.out _⟩
        · have hd2 : decide (q0 - 8 < b0 + upZ b1) = false := by simpa using hg2
          have HF := HK (by unfold clash; rw [hd1, hd2]; rfl)
          clear HK HY
          go_wp2_with fail
          go_quiet ((go_at_call 67; exact Calls.quiet_of_same ((rup_any _ _ (by omega) (by omega)).mono (fun _ _ h => ⟨h.1, h.2.symm⟩))))
          go_wp2_with fail
          go_roundw
          case rel => exact ⟨k + 1, rfl, by omega, HF.out, below_drewN HB.out _⟩
          case measure => simp [intOf]; omega
      · have hd1 : decide (b0 - 8 < q0 + upZ q1) = false := by simpa using hg1
        have HF := HK (by unfold clash; rw [hd1]; rfl)
        clear HK HY
        go_wp2_with fail
        go_quiet ((go_at_call 67; exact Calls.quiet_of_same ((rup_any _ _ (by omega) (by omega)).mono (fun _ _ h => ⟨h.1, h.2.symm⟩))))
        go_wp2_with fail
        go_roundw
        case rel => exact ⟨k + 1, rfl, by omega, HF.out, below_drewN HB.out _⟩
        case measure => simp [intOf]; omega
    · have HX : Hid (ps.any (clash (b0, b1)) = false) := by have h := HA.out; rwa [List.take_of_length_le (by omega)] at h
      go_wp2_with fail
      go_ret
      exact ⟨ret_bool (by rw [HE.out, HD.out, HX.out]; rfl), HB.out⟩
end Go.Proofs.Ytcfmimfkaabmkaa
