/- The walks of package pliantref12: Up, zeros, four. -/
import Derived.Test.YtcfmimfkaabmkaaC4
set_option linter.unusedVariables false
set_option linter.unusedSimpArgs false
namespace Go.Proofs.Ytcfmimfkaabmkaa
open Go.RowKit
attribute [local go_sem] Oper.semAt_some
theorem rup_any (n : Int) (w : World) (h0 : 0 ≤ n) (h1 : n ≤ 100000000000) : Calls Try.prog 67 #[.int .i64 n] w fun e w' => e = .returned (.int .i64 (upZ n)) ∧ w = w' := by
  have hw1 : IntKind.i64.wrap (n + 7) = n + 7 := IntWalk.i64_in _ ⟨by omega, by omega⟩
  have hw2 : IntKind.i64.wrap ((n + 7).tdiv 8) = (n + 7) / 8 := by rw [Int.tdiv_eq_ediv_of_nonneg (by omega)]; exact IntWalk.i64_in _ ⟨by omega, by omega⟩
  have hw3 : IntKind.i64.wrap ((n + 7) / 8 * 8) = (n + 7) / 8 * 8 := IntWalk.i64_in _ ⟨by omega, by omega⟩
  have hq : (n + 7).tdiv 8 = (n + 7) / 8 := Int.tdiv_eq_ediv_of_nonneg (by omega)
  go_enter Try.func67, Try.ntmps67
  go_wp2
  go_ret
  exact ⟨by first | rfl | (unfold upZ; rfl), rfl⟩
theorem run_make31 (w : World) (n : Nat) (hn : n ≤ 1000000) :
    (Instr.makeSlice 31 (.int .i64 (n : Int)) (.int .i64 (n : Int))).run Try.prog w = .ok (.slice (some ⟨w.heap.size, 0, none⟩) n n) (w.alloc (.cells (cellsB (List.replicate n 0)).toArray 5)) := by
  obtain ⟨i0, hi, hz0, hz1, hz2⟩ := info_parts info5
  have := run_make (P := Try.prog) w 31 5 i0 (.int .u8 0) under31 hi hz0 .i64 .i64 n n (by omega) (Int.le_refl _) (by rw [hz2]; omega) (by omega)
  rw [this]
  have e : madeCells (Value.int IntKind.u8 0).cells (n * 1) = (cellsB (List.replicate n 0)).toArray := by
    apply Array.ext'
    rw [Nat.mul_one, show (Value.int IntKind.u8 0).cells = #[.int .u8 0] from rfl, toList_madeCells_one, cellsB_replicate]
  rw [Int.toNat_natCast, hz1, e]
theorem run_str31 (w : World) (b cap : Nat) (l : List UInt8) (hB : Bytes w b l) : (convert 31 9 (.slice (some ⟨b, 0, none⟩) l.length cap)).run Try.prog w = .ok (.string ⟨l.toArray⟩) w :=
  run_str_of 31 under31 w b 0 l.length cap l rfl (fun i hi => by rw [Nat.zero_add]; exact hB.cell hi)
theorem rzeros_any (n : Nat) (w : World) (h1 : n ≤ 1000000) : Calls Try.prog 70 #[.int .i64 (n : Int)] w fun e w' => e = .returned (strV (zs n)) ∧ Below w.heap.size w w' := by
  have hm := run_make31 w n h1
  have hs := run_str31 (w.alloc (.cells (cellsB (List.replicate n 0)).toArray 5)) w.heap.size n (List.replicate n 0) (bytes_new w _)
  rw [List.length_replicate] at hs
  go_enter Try.func70, Try.ntmps70
  go_wp2
  go_ret
  exact ⟨rfl, (Below.refl _ _).alloc (Nat.le_refl _) _⟩
set_option maxRecDepth 20000 in
theorem rfour_any (n : Int) (w : World) (h0 : 0 ≤ n) (h1 : n ≤ 1000000000) : Calls Try.prog 77 #[.int .i64 n] w fun e w' => e = .returned (strV (four n.toNat)) ∧ Below w.heap.size w w' := by
  have hs : (convert 31 9 (.slice (some ⟨w.heap.size, 0, none⟩) 4 4)).run Try.prog (w.alloc (.cells #[.int .u8 (n / 16777216), .int .u8 (n / 65536 % 256), .int .u8 (n / 256 % 256), .int .u8 (n % 256)] 5)) =
      .ok (.string ⟨(four n.toNat).toArray⟩) (w.alloc (.cells #[.int .u8 (n / 16777216), .int .u8 (n / 65536 % 256), .int .u8 (n / 256 % 256), .int .u8 (n % 256)] 5)) := by
    obtain ⟨m, rfl⟩ := Int.eq_ofNat_of_zero_le h0
    have e0 : (m : Int) / 16777216 = (((UInt8.ofNat (m / 16777216)).toNat : Nat) : Int) := by have := u8_of ((m : Int) / 16777216) (m / 16777216) (by omega); omega
    have e1 : (m : Int) / 65536 % 256 = (((UInt8.ofNat (m / 65536)).toNat : Nat) : Int) := u8_of _ _ (by omega)
    have e2 : (m : Int) / 256 % 256 = (((UInt8.ofNat (m / 256)).toNat : Nat) : Int) := u8_of _ _ (by omega)
    have e3 : (m : Int) % 256 = (((UInt8.ofNat m).toNat : Nat) : Int) := u8_of _ _ rfl
    rw [e0, e1, e2, e3, Int.toNat_natCast]
    exact run_str31 _ w.heap.size 4 (four m) (bytes_new w (four m))
  go_enter Try.func77, Try.ntmps77
  go_wp2
  go_ret
  exact ⟨rfl, (Below.refl _ _).alloc (Nat.le_refl _) _⟩
end Go.Proofs.Ytcfmimfkaabmkaa
