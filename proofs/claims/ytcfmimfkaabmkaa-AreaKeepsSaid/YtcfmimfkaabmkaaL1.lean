/- What the functions of area answer at a string that is no area. -/
import Derived.Test.YtcfmimfkaabmkaaXH
set_option linter.unusedVariables false
set_option linter.unusedSimpArgs false
namespace Go.Proofs.Ytcfmimfkaabmkaa
open Go.RowKit
attribute [local go_sem] Oper.semAt_some
attribute [local irreducible] num
/-- The function f, called with these arguments, returns this value, and turns nothing. -/
def Rets (f : Nat) (a : Array Value) (v : Value) : Prop := ∀ w, Calls Try.prog f a w (fun e w' => e = .returned v ∧ Below w.heap.size w w')
set_option maxHeartbeats 1000000 in
set_option maxRecDepth 100000 in
theorem refuse_gaps (l : List UInt8) (hl : l.length ≤ maxLen) (h : openS l = false) : Rets 48 #[.string ⟨l.toArray⟩] (.tuple #[.slice none 0 0, .int .i64 120]) := by
  intro w
  have HO := hid (fun w => open_l l w hl)
  have HH := hid h; clear h
  go_enter Try.func48, Try.ntmps48
  go_wp2_with fail
  refine (HO.out _).mono ?_
  rintro e w1 ⟨hb1, hx⟩
  rw [HH.out, if_neg (by simp)] at hx
  obtain ⟨o, k, c, rfl⟩ := hx
  have HB1 := hid hb1; clear hb1
  have hz1 := HB1.out.size
  go_wp2_with fail
  go_ret2
  exact ⟨rfl, HB1.out⟩
set_option maxHeartbeats 1000000 in
set_option maxRecDepth 100000 in
theorem refuse_room (l : List UInt8) (hl : l.length ≤ maxLen) (h : openS l = false) : Rets 51 #[.string ⟨l.toArray⟩] (.tuple #[.int .i64 0, .int .i64 120]) := by
  intro w
  have HO := hid (refuse_gaps l hl h); clear h
  go_enter Try.func51, Try.ntmps51
  go_wp2_with fail
  refine (HO.out _).mono ?_
  rintro e w1 ⟨rfl, hb1⟩
  have HB1 := hid hb1; clear hb1
  have hz1 := HB1.out.size
  go_wp2_with fail
  go_loopw [6, 16] (fun s i wr => s = .int .i64 0 ∧ i = .int .i64 0 ∧ Hid (Below w.heap.size w wr)) (fun _ _ _ => 0)
  case atStart => exact ⟨rfl, rfl, HB1⟩
  case round =>
    obtain ⟨rfl, rfl, HC⟩ := hrel
    go_wp2_with fail
    go_ret2
    exact ⟨rfl, HC.out⟩
set_option maxHeartbeats 1000000 in
set_option maxRecDepth 100000 in
theorem refuse_part (l : List UInt8) (p n : Int) (hl : l.length ≤ maxLen) (h : openS l = false) : Rets 80 #[.string ⟨l.toArray⟩, .int .i64 p, .int .i64 n] (.tuple #[.slice none 0 0, .int .i64 120]) := by
  intro w
  have HO := hid (fun w => open_l l w hl)
  have HH := hid h; clear h
  go_enter Try.func80, Try.ntmps80
  go_wp2_with fail
  refine (HO.out _).mono ?_
  rintro e w1 ⟨hb1, hx⟩
  rw [HH.out, if_neg (by simp)] at hx
  obtain ⟨o, k, c, rfl⟩ := hx
  have HB1 := hid hb1; clear hb1
  have hz1 := HB1.out.size
  go_wp2_with fail
  go_ret2
  exact ⟨rfl, HB1.out⟩
set_option maxHeartbeats 1000000 in
set_option maxRecDepth 100000 in
theorem refuse_get (l : List UInt8) (p n : Int) (hl : l.length ≤ maxLen) (h : openS l = false) : Rets 42 #[.string ⟨l.toArray⟩, .int .i64 p, .int .i64 n] (.tuple #[.string ⟨#[]⟩, .int .i64 120]) := by
  intro w
  have HO := hid (refuse_part l p n hl h); clear h
  go_enter Try.func42, Try.ntmps42
  go_wp2_with fail
  refine (HO.out _).mono ?_
  rintro e w1 ⟨rfl, hb1⟩
  have HB1 := hid hb1; clear hb1
  have hz1 := HB1.out.size
  go_wp2_with fail
  go_ret2
  exact ⟨rfl, HB1.out⟩
set_option maxHeartbeats 1000000 in
set_option maxRecDepth 100000 in
theorem refuse_put (l : List UInt8) (p : Int) (s : List UInt8) (hs : s.length ≤ maxLen) (hl : l.length ≤ maxLen) (h : openS l = false) : Rets 44 #[.string ⟨l.toArray⟩, .int .i64 p, .string ⟨s.toArray⟩] (.tuple #[.string ⟨#[]⟩, .int .i64 120]) := by
  intro w
  have HO := hid (refuse_part l p s.length hl h); clear h
  go_enter Try.func44, Try.ntmps44
  go_wp2_with fail
  refine (HO.out _).mono ?_
  rintro e w1 ⟨rfl, hb1⟩
  have HB1 := hid hb1; clear hb1
  have hz1 := HB1.out.size
  go_wp2_with fail
  go_ret2
  exact ⟨rfl, HB1.out⟩
set_option maxHeartbeats 1000000 in
set_option maxRecDepth 100000 in
theorem refuse_find (l : List UInt8) (p : Int) (hl : l.length ≤ maxLen) (h : openS l = false) : Rets 40 #[.string ⟨l.toArray⟩, .int .i64 p] (.tuple #[.agg #[.int .i64 0, .int .i64 0], .int .i64 120]) := by
  intro w
  have HO := hid (fun w => open_l l w hl)
  have HH := hid h; clear h
  go_enter Try.func40, Try.ntmps40
  go_wp2_with fail
  refine (HO.out _).mono ?_
  rintro e w1 ⟨hb1, hx⟩
  rw [HH.out, if_neg (by simp)] at hx
  obtain ⟨o, k, c, rfl⟩ := hx
  obtain ⟨hc, hf⟩ := bcell hb1
  have hz3 : w.heap.size < w1.heap.size := by have := hb1.size; simp at this; omega
  have HB1 : Hid (Below w.heap.size w w1) := ((Below.refl w.heap.size w).alloc (Nat.le_refl _) _).trans (hb1.mono (by simp))
  clear hb1
  go_wp2_with fail
  have j0 : w1.cell? ⟨w.heap.size, 0, none⟩ = some (.int .i64 0) := by go_simp
  have j1 : w1.cell? ⟨w.heap.size, 1, none⟩ = some (.int .i64 0) := by go_simp
  refine bodyPost_ret (v := .tuple #[.agg #[.int .i64 0, .int .i64 0], .int .i64 120]) (by simp [results, Try.results40, go_sem, j0, j1]) rfl ⟨rfl, (HB1.out.setCell (Nat.le_refl _) _).setCell (Nat.le_refl _) _⟩
set_option maxHeartbeats 1000000 in
set_option maxRecDepth 100000 in
theorem refuse_compact (l : List UInt8) (hl : l.length ≤ maxLen) (h : openS l = false) : Rets 32 #[.string ⟨l.toArray⟩] (.tuple #[.string ⟨#[]⟩, .slice none 0 0, .int .i64 120]) := by
  intro w
  have HO := hid (fun w => open_l l w hl)
  have HH := hid h; clear h
  go_enter Try.func32, Try.ntmps32
  go_wp2_with fail
  refine (HO.out _).mono ?_
  rintro e w1 ⟨hb1, hx⟩
  rw [HH.out, if_neg (by simp)] at hx
  obtain ⟨o, k, c, rfl⟩ := hx
  have HB1 := hid hb1; clear hb1
  have hz1 := HB1.out.size
  go_wp2_with fail
  go_ret3
  exact ⟨rfl, HB1.out.alloc (by omega) _⟩
set_option maxHeartbeats 1000000 in
set_option maxRecDepth 100000 in
theorem refuse_blocks (l : List UInt8) (hl : l.length ≤ maxLen) (h : openS l = false) : Rets 26 #[.string ⟨l.toArray⟩] (.tuple #[.slice none 0 0, .int .i64 120]) := by
  intro w
  have HO := hid (fun w => open_l l w hl)
  have HH := hid h; clear h
  go_enter Try.func26, Try.ntmps26
  go_wp2_with fail
  refine (HO.out _).mono ?_
  rintro e w1 ⟨hb1, hx⟩
  rw [HH.out, if_neg (by simp)] at hx
  obtain ⟨o, k, c, rfl⟩ := hx
  have HB1 := hid hb1; clear hb1
  have hz1 := HB1.out.size
  go_wp2_with fail
  go_ret2
  exact ⟨rfl, HB1.out⟩
end Go.Proofs.Ytcfmimfkaabmkaa
