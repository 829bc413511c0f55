/- The walks of package area's small functions: up, get, zero, (unit).end, (unit).piece, (heap).end, (heap).bytes. -/
import Derived.Test.YtcfmimfkaabmkaaBits
set_option linter.unusedVariables false
set_option linter.unusedSimpArgs false
namespace Go.Proofs.Ytcfmimfkaabmkaa
open Go.RowKit
attribute [local go_sem ↓] Go.wp_at_zero Go.wp_at_succ

set_option maxHeartbeats 400000 in
theorem up_any (n : Int) (w : World) (h0 : 0 ≤ n) (h1 : n ≤ 1000000000) :
    Calls Try.prog 85 #[.int .i64 n] w fun e w' => e = .returned (.int .i64 (upZ n)) ∧ w = w' := by
  go_enter Try.func85, Try.ntmps85
  go_wp2
  go_ret
  exact ⟨ret_int (up_bits n h0 h1), rfl⟩

set_option maxHeartbeats 400000 in
theorem end_any (a s m : Int) (w : World) (h0 : 0 ≤ s) (h1 : s ≤ 100000000) (h2 : 0 ≤ a) (h3 : a ≤ 1000000000) :
    Calls Try.prog 62 #[.agg #[.int .i64 a, .int .i64 s, .int .i64 m]] w fun e w' => e = .returned (.int .i64 (a + 8 + upZ s)) ∧ Below w.heap.size w w' := by
  have hu := upZ_bd s h0
  go_enter Try.func62, Try.ntmps62
  go_wp2
  go_quiet ((go_at_call 85; exact Calls.quiet_of_same ((up_any _ _ (by omega) (by omega)).mono (fun _ _ h => ⟨h.1, h.2.symm⟩))))
  go_wp2
  go_ret
  exact ⟨rfl, below_drewN ((Below.refl _ _).alloc (Nat.le_refl _) _) _⟩

set_option maxHeartbeats 400000 in
theorem piece_any (a s m : Int) (w : World) (h2 : 0 ≤ a) (h3 : a ≤ 1000000000) :
    Calls Try.prog 64 #[.agg #[.int .i64 a, .int .i64 s, .int .i64 m]] w fun e w' => e = .returned (.agg #[.int .i64 (a + 8), .int .i64 s]) ∧ Below w.heap.size w w' := by
  go_enter Try.func64, Try.ntmps64
  go_wp2
  refine bodyPost_ret (v := .agg #[.int .i64 (a + 8), .int .i64 s]) (by simp [results, Try.results64, go_sem]) rfl ⟨rfl, ?_⟩
  exact ((((Below.refl _ _).alloc (Nat.le_refl _) _).alloc (by simp) _))

set_option maxHeartbeats 1000000 in
theorem get_any (b len cap : Nat) (l : List UInt8) (k : Int) (w : World) (hB : Bytes w b l) (hl : l.length = len) (h0 : 0 ≤ k) (h1 : k + 4 ≤ len) (h2 : len ≤ cap) (h3 : cap ≤ 1000000) :
    Calls Try.prog 60 #[.slice (some ⟨b, 0, none⟩) len cap, .int .i64 k] w fun e w' => e = .returned (.int .i64 (num l k.toNat)) ∧ w = w' := by
  obtain ⟨n, rfl⟩ := Int.eq_ofNat_of_zero_le h0
  have c0 := hB.cell (i := n) (by omega)
  have c1 := hB.cell (i := n + 1) (by omega)
  have c2 := hB.cell (i := n + 2) (by omega)
  have c3 := hB.cell (i := n + 3) (by omega)
  have B0 := byt_bd l n
  have B1 := byt_bd l (n + 1)
  have B2 := byt_bd l (n + 2)
  have B3 := byt_bd l (n + 3)
  have HN : Hid (num l (Int.toNat n) = num l n) := by unfold Hid; rw [Int.toNat_natCast]
  have HU : Hid (num l n = byt l n * 16777216 + byt l (n + 1) * 65536 + byt l (n + 2) * 256 + byt l (n + 3)) := rfl
  clear hB hl
  generalize byt l n = b0 at *
  generalize byt l (n + 1) = b1 at *
  generalize byt l (n + 2) = b2 at *
  generalize byt l (n + 3) = b3 at *
  obtain ⟨B0, B0'⟩ := B0
  obtain ⟨B1, B1'⟩ := B1
  obtain ⟨B2, B2'⟩ := B2
  obtain ⟨B3, B3'⟩ := B3
  go_enter Try.func60, Try.ntmps60
  go_wp2
  refine wp_loop_rounds 5 ?_
  rw [rounds_succ]
  go_wp2
  rw [rounds_succ]
  go_wp2
  rw [rounds_succ]
  go_wp2
  rw [rounds_succ]
  go_wp2
  rw [rounds_succ]
  go_wp2
  go_ret
  exact ⟨ret_int (by rw [HN.out, HU.out]; exact num_of_bits b0 b1 b2 b3 ⟨B0, B0'⟩ ⟨B1, B1'⟩ ⟨B2, B2'⟩ ⟨B3, B3'⟩), rfl⟩

set_option maxHeartbeats 400000 in
theorem hend_any (b len cap : Nat) (l : List UInt8) (w : World) (hB : Bytes w b l) (hl : l.length = len) (h1 : 4 ≤ len) (h2 : len ≤ cap) (h3 : cap ≤ 1000000) :
    Calls Try.prog 65 #[.slice (some ⟨b, 0, none⟩) len cap] w fun e w' => e = .returned (.int .i64 (8 + num l 0)) ∧ w = w' := by
  have Hl := hid hl; clear hl
  have HB := hid hB; clear hB
  have hn := num_bd l 0
  go_enter Try.func65, Try.ntmps65
  go_wp2_with (go_at_call 60; refine (get_any b len cap l 0 _ HB.out Hl.out (by omega) (by omega) (by omega) (by omega)).mono ?_; rintro e w' ⟨rfl, rfl⟩)
  go_ret
  exact ⟨rfl, rfl⟩

theorem all_snoc (l : List UInt8) (k : Nat) (hk : k < l.length) (h2 : (l.take k).all (· == 0) = true) (h1 : byt l k = 0) : (l.take (k + 1)).all (· == 0) = true := by
  rw [List.take_succ_eq_append_getElem hk, List.all_append, h2]
  have : l[k] = 0 := by
    unfold byt at h1
    rw [List.getElem?_eq_getElem hk] at h1
    have h4 : (l[k]).toNat = 0 := by simpa using h1
    exact UInt8.toNat_inj.1 h4
  simp [this]
theorem all_false (l : List UInt8) (k : Nat) (hk : k < l.length) (h1 : byt l k ≠ 0) : l.all (· == 0) = false := by
  rw [List.all_eq_false]
  refine ⟨l[k], by simp, ?_⟩
  unfold byt at h1
  rw [List.getElem?_eq_getElem hk] at h1
  intro h
  simp at h
  rw [h] at h1
  simp at h1

set_option maxHeartbeats 400000 in
theorem zero_any (o : Option Addr) (b off len cap : Nat) (l : List UInt8) (w : World) (ho : 0 < len → o = some ⟨b, off, none⟩) (hl : l.length = len) (h1 : len ≤ 1000000)
    (hc : ∀ i, i < len → w.cell? ⟨b, off + i, none⟩ = some (.int .u8 (byt l i))) :
    Calls Try.prog 82 #[.slice o len cap] w fun e w' => e = .returned (.bool (l.all (· == 0))) ∧ w = w' := by
  have Hl := hid hl; clear hl
  have Hc := hid hc; clear hc
  have Ho := hid ho; clear ho
  go_enter Try.func82, Try.ntmps82
  go_wp2
  go_loop [7] (fun i => ∃ k : Nat, k ≤ len ∧ i = .int .i64 k ∧ (l.take k).all (· == 0) = true) (fun i => len - (intOf i).toNat)
  case atStart => exact ⟨0, Nat.zero_le _, rfl, by simp⟩
  case round =>
    obtain ⟨k, hk, rfl, ha⟩ := hrel
    have HA := hid ha; clear ha
    by_cases hlt : k < len
    · obtain rfl := Ho.out (by omega)
      have hc := Hc.out k hlt
      have hbd := byt_bd l k
      generalize hx : byt l k = x at hc hbd
      have Hx := hid hx; clear hx
      by_cases hz : x = 0
      · subst hz
        go_wp2
        go_round
        case rel => exact ⟨k+1, by omega, by go_num, all_snoc l k (by have := Hl.out; omega) HA.out Hx.out⟩
        case measure => simp [intOf]; omega
      · have hne : (x != 0) = true := by simpa using hz
        have hz' : (x == 0) = false := by simpa using hz
        have HZ := hid hz
        clear hz
        go_wp2
        go_ret
        exact ⟨ret_bool (all_false l k (by have := Hl.out; omega) (by rw [Hx.out]; exact HZ.out)).symm, rfl⟩
    · go_wp2
      go_ret
      refine ⟨ret_bool ?_, rfl⟩
      have h2 := HA.out
      rw [List.take_of_length_le (by have := Hl.out; omega)] at h2
      exact h2.symm
end Go.Proofs.Ytcfmimfkaabmkaa
