import Derived.Test.YtcfmimfkaabmkaaXA
set_option linter.unusedVariables false
set_option linter.unusedSimpArgs false
namespace Go.Proofs.Ytcfmimfkaabmkaa
open Go.RowKit
attribute [local go_sem ↓] Go.wp_at_zero Go.wp_at_succ
/-- The answer of (heap).whole at raw bytes: the unit (offset, size, mark), and whether it is one. -/
def wholeS (l : List UInt8) (a en : Int) (gap : Bool) : (Int × Int × Int) × Bool :=
  if en - a < 8 then ((0, 0, 0), false)
  else if num l a.toNat > en - a - 8 ∨ a + 8 + upZ (num l a.toNat) > en then ((0, 0, 0), false)
  else if num l (a.toNat + 4) = 1 then ((a, num l a.toNat, 1), decide (1 ≤ num l a.toNat) && ((l.drop (a + 8 + num l a.toNat).toNat).take (upZ (num l a.toNat) - num l a.toNat).toNat).all (· == 0))
  else if num l (a.toNat + 4) = 2 then ((a, num l a.toNat, 2), decide (num l a.toNat % 8 = 0) && ((l.drop (a + 8).toNat).take (num l a.toNat).toNat).all (· == 0) && !gap && (decide (8 < a) || decide (8 ≤ num l a.toNat)))
  else ((0, 0, 0), false)
def WholePost (l : List UInt8) (a en : Int) (gap : Bool) (w : World) (e : Ending) (w' : World) : Prop :=
  e = .returned (.tuple #[.agg #[.int .i64 (wholeS l a en gap).1.1, .int .i64 (wholeS l a en gap).1.2.1, .int .i64 (wholeS l a en gap).1.2.2], .bool (wholeS l a en gap).2]) ∧ Below w.heap.size w w'
/-- The bytes of a part of a block, in the block's cells. -/
theorem part_cells {w : World} {b : Nat} {l : List UInt8} (h : Bytes w b l) (off n : Nat) (hn : off + n ≤ l.length) : ∀ i, i < n → w.cell? ⟨b, off + i, none⟩ = some (.int .u8 (byt ((l.drop off).take n) i)) := by
  intro i hi
  rw [h.cell (by omega)]
  unfold byt
  rw [List.getElem?_take_of_lt hi, List.getElem?_drop]
set_option maxHeartbeats 1000000 in
theorem whole_short (b len cap : Nat) (l : List UInt8) (a en : Int) (gap : Bool) (w : World) (h2 : 8 ≤ a) (h3 : a ≤ en) (h4 : en ≤ 8192) (h : en - a < 8) :
    Calls Try.prog 83 #[.slice (some ⟨b, 0, none⟩) len cap, .int .i64 a, .int .i64 en, .bool gap] w (WholePost l a en gap w) := by
  have hen : 0 ≤ en := by omega
  clear h2
  go_enter Try.func83, Try.ntmps83
  go_wp2_with fail
  have e : wholeS l a en gap = ((0, 0, 0), false) := by unfold wholeS; rw [if_pos h]
  refine bodyPost_ret (v := .tuple #[.agg #[.int .i64 0, .int .i64 0, .int .i64 0], .bool false]) (by simp [results, Try.results83, go_sem]) rfl ⟨by rw [e], ?_⟩
  exact (Below.refl _ _).alloc (Nat.le_refl _) _
theorem upZ_s0 (s : Int) (h : 0 ≤ s) : upZ s = 0 ∨ 0 < s := by unfold upZ; omega
set_option maxHeartbeats 2000000 in
theorem whole_long2 (b len cap : Nat) (l : List UInt8) (a en s : Int) (gap : Bool) (w : World) (hB : Bytes w b l) (hl : l.length = len) (h2 : 8 ≤ a) (h4 : en ≤ 8192) (h5 : en ≤ len) (h6 : len ≤ cap) (h7 : cap ≤ 1000000)
    (hs : num l a.toNat = s) (h8 : ¬ en - a < 8) (h9 : s ≤ en - a - 8) (h10 : en < a + 8 + upZ s) :
    Calls Try.prog 83 #[.slice (some ⟨b, 0, none⟩) len cap, .int .i64 a, .int .i64 en, .bool gap] w (WholePost l a en gap w) := by
  have Hl := hid hl; clear hl
  have HB := hid hB; clear hB
  have hlt : b < w.heap.size := HB.out.lt
  have hs0 : 0 ≤ s := by rw [← hs]; exact (num_bd l a.toNat).1
  have hs1 : s ≤ 4294967295 := by rw [← hs]; exact (num_bd l a.toNat).2
  have hu := upZ_bd s hs0
  have HE : Hid (wholeS l a en gap = ((0, 0, 0), false)) := by
    unfold wholeS Hid; rw [if_neg h8, hs]; rw [if_pos (Or.inr h10)]
  have HS := hid hs; clear hs
  obtain ⟨q, HM⟩ : ∃ q, Hid (num l (a.toNat + 4) = q) := ⟨_, rfl⟩
  go_enter Try.func83, Try.ntmps83
  go_wp2_with fail
  have HBW : ∀ o, Hid (Below w.heap.size w (w.alloc o)) := fun o => (Below.refl w.heap.size w).alloc (Nat.le_refl _) o
  refine (get_any b len cap l a _ (HB.out.below (HBW _).out hlt) Hl.out (by omega) (by omega) (by omega) (by omega)).mono ?_
  rintro e w' ⟨rfl, rfl⟩
  rw [HS.out]
  go_wp2_with fail
  refine (get_any b len cap l (a+4) _ (HB.out.below (HBW _).out hlt) Hl.out (by omega) (by omega) (by omega) (by omega)).mono ?_
  rintro e w' ⟨rfl, rfl⟩
  rw [show (a + 4).toNat = a.toNat + 4 by omega, HM.out]
  go_wp2_with fail
  refine (end_any _ _ _ _ (by omega) (by omega) (by omega) (by omega)).mono ?_
  rintro e w1 ⟨rfl, hb1⟩
  obtain ⟨hc, hf⟩ := bcell hb1
  have hz : w.heap.size + 1 < w1.heap.size := by have := hb1.size; simp at this; omega
  have hz3 : w.heap.size < w1.heap.size := by omega
  have HB1 : Hid (Below w.heap.size w w1) := (((Below.refl w.heap.size w).alloc (Nat.le_refl _) _).alloc (by simp) _).trans (hb1.mono (by simp; omega))
  go_wp2_with fail
  have j0 : w1.cell? ⟨w.heap.size, 0, none⟩ = some (.int .i64 0) := by go_simp
  have j1 : w1.cell? ⟨w.heap.size, 1, none⟩ = some (.int .i64 0) := by go_simp
  have j2 : w1.cell? ⟨w.heap.size, 2, none⟩ = some (.int .i64 0) := by go_simp
  refine bodyPost_ret (v := .tuple #[.agg #[.int .i64 0, .int .i64 0, .int .i64 0], .bool false]) (by simp [results, Try.results83, go_sem, j0, j1, j2]) rfl ⟨by rw [HE.out], ?_⟩
  exact (((HB1.out.setCell (Nat.le_refl _) _).setCell (Nat.le_refl _) _).setCell (Nat.le_refl _) _)

set_option maxHeartbeats 2000000 in
theorem whole_long1 (b len cap : Nat) (l : List UInt8) (a en s : Int) (gap : Bool) (w : World) (hB : Bytes w b l) (hl : l.length = len) (h2 : 8 ≤ a) (h4 : en ≤ 8192) (h5 : en ≤ len) (h6 : len ≤ cap) (h7 : cap ≤ 1000000)
    (hs : num l a.toNat = s) (h8 : ¬ en - a < 8) (h9 : en - a - 8 < s) :
    Calls Try.prog 83 #[.slice (some ⟨b, 0, none⟩) len cap, .int .i64 a, .int .i64 en, .bool gap] w (WholePost l a en gap w) := by
  have Hl := hid hl; clear hl
  have HB := hid hB; clear hB
  have hlt : b < w.heap.size := HB.out.lt
  have hs0 : 0 ≤ s := by rw [← hs]; exact (num_bd l a.toNat).1
  have hs1 : s ≤ 4294967295 := by rw [← hs]; exact (num_bd l a.toNat).2
  have hu := upZ_bd s hs0
  have HE : Hid (wholeS l a en gap = ((0, 0, 0), false)) := by
    unfold wholeS Hid; rw [if_neg h8, hs]; rw [if_pos (Or.inl h9)]
  have HS := hid hs; clear hs
  obtain ⟨q, HM⟩ : ∃ q, Hid (num l (a.toNat + 4) = q) := ⟨_, rfl⟩
  go_enter Try.func83, Try.ntmps83
  go_wp2_with fail
  have HBW : ∀ o, Hid (Below w.heap.size w (w.alloc o)) := fun o => (Below.refl w.heap.size w).alloc (Nat.le_refl _) o
  refine (get_any b len cap l a _ (HB.out.below (HBW _).out hlt) Hl.out (by omega) (by omega) (by omega) (by omega)).mono ?_
  rintro e w' ⟨rfl, rfl⟩
  rw [HS.out]
  go_wp2_with fail
  refine (get_any b len cap l (a+4) _ (HB.out.below (HBW _).out hlt) Hl.out (by omega) (by omega) (by omega) (by omega)).mono ?_
  rintro e w' ⟨rfl, rfl⟩
  rw [show (a + 4).toNat = a.toNat + 4 by omega, HM.out]
  go_wp2_with fail
  refine bodyPost_ret (v := .tuple #[.agg #[.int .i64 0, .int .i64 0, .int .i64 0], .bool false]) (by simp [results, Try.results83, go_sem]) rfl ⟨by rw [HE.out], ?_⟩
  exact (((Below.refl w.heap.size w).alloc (Nat.le_refl _) _).alloc (by simp) _)

set_option maxHeartbeats 2000000 in
theorem whole_other (b len cap : Nat) (l : List UInt8) (a en s : Int) (gap : Bool) (w : World) (hB : Bytes w b l) (hl : l.length = len) (h2 : 8 ≤ a) (h4 : en ≤ 8192) (h5 : en ≤ len) (h6 : len ≤ cap) (h7 : cap ≤ 1000000)
    (hs : num l a.toNat = s) (q : Int) (hm : num l (a.toNat + 4) = q) (hq1 : ¬ q = 1) (hq2 : ¬ q = 2) (h8 : ¬ en - a < 8) (h9 : s ≤ en - a - 8) (h10 : a + 8 + upZ s ≤ en) :
    Calls Try.prog 83 #[.slice (some ⟨b, 0, none⟩) len cap, .int .i64 a, .int .i64 en, .bool gap] w (WholePost l a en gap w) := by
  have Hl := hid hl; clear hl
  have HB := hid hB; clear hB
  have hlt : b < w.heap.size := HB.out.lt
  have hs0 : 0 ≤ s := by rw [← hs]; exact (num_bd l a.toNat).1
  have hs1 : s ≤ 4294967295 := by rw [← hs]; exact (num_bd l a.toNat).2
  have hu := upZ_bd s hs0
  have HE : Hid (wholeS l a en gap = ((0, 0, 0), false)) := by
    unfold wholeS Hid; rw [if_neg h8, hs]; rw [if_neg (by omega), hm, if_neg hq1, if_neg hq2]
  have HS := hid hs; clear hs
  have HM := hid hm; clear hm
  have hq1 : (q == 1) = false := by simpa using hq1
  have hq2 : (q == 2) = false := by simpa using hq2
  go_enter Try.func83, Try.ntmps83
  go_wp2_with fail
  have HBW : ∀ o, Hid (Below w.heap.size w (w.alloc o)) := fun o => (Below.refl w.heap.size w).alloc (Nat.le_refl _) o
  refine (get_any b len cap l a _ (HB.out.below (HBW _).out hlt) Hl.out (by omega) (by omega) (by omega) (by omega)).mono ?_
  rintro e w' ⟨rfl, rfl⟩
  rw [HS.out]
  go_wp2_with fail
  refine (get_any b len cap l (a+4) _ (HB.out.below (HBW _).out hlt) Hl.out (by omega) (by omega) (by omega) (by omega)).mono ?_
  rintro e w' ⟨rfl, rfl⟩
  rw [show (a + 4).toNat = a.toNat + 4 by omega, HM.out]
  go_wp2_with fail
  refine (end_any _ _ _ _ (by omega) (by omega) (by omega) (by omega)).mono ?_
  rintro e w1 ⟨rfl, hb1⟩
  obtain ⟨hc, hf⟩ := bcell hb1
  have hz : w.heap.size + 1 < w1.heap.size := by have := hb1.size; simp at this; omega
  have hz3 : w.heap.size < w1.heap.size := by omega
  have HB1 : Hid (Below w.heap.size w w1) := (((Below.refl w.heap.size w).alloc (Nat.le_refl _) _).alloc (by simp) _).trans (hb1.mono (by simp; omega))
  go_wp2_with fail
  obtain ⟨n, hn⟩ : ∃ n : Nat, upZ s = n := ⟨(upZ s).toNat, by omega⟩
  have hsn : s ≤ (n : Int) := by omega
  have HN := hid hn; clear hn
  refine (bytes_any n _ _ _ _ _ _ _ HN.out (by omega) (by omega) (by omega) (by omega) (by omega) (by omega)).mono ?_
  rintro e w2 ⟨⟨o, rfl, ho⟩, hb2⟩
  have HO := hid ho; clear ho
  obtain ⟨hc2, hf2⟩ := bcell hb2
  have hz2 : w.heap.size + 1 < w2.heap.size := by have := hb2.size; omega
  have hz4 : w.heap.size < w2.heap.size := by omega
  have HBB : Hid (Below w.heap.size w w2) := HB1.out.trans (hb2.mono (by omega))
  go_wp2_with fail
  have k0 : w2.cell? ⟨w.heap.size + 1, 0, none⟩ = some (.int .i64 a) := by go_simp
  have k1 : w2.cell? ⟨w.heap.size + 1, 1, none⟩ = some (.int .i64 s) := by go_simp
  have k2 : w2.cell? ⟨w.heap.size + 1, 2, none⟩ = some (.int .i64 q) := by go_simp
  have j0 : w2.cell? ⟨w.heap.size, 0, none⟩ = some (.int .i64 0) := by go_simp
  have j1 : w2.cell? ⟨w.heap.size, 1, none⟩ = some (.int .i64 0) := by go_simp
  have j2 : w2.cell? ⟨w.heap.size, 2, none⟩ = some (.int .i64 0) := by go_simp
  have i0 : w2.frozen? ⟨w.heap.size, 0, none⟩ = false := by go_simp
  have i1 : w2.frozen? ⟨w.heap.size, 1, none⟩ = false := by go_simp
  have i2 : w2.frozen? ⟨w.heap.size, 2, none⟩ = false := by go_simp
  clear hc hf hc2 hf2
  refine bodyPost_ret (v := .tuple #[.agg #[.int .i64 0, .int .i64 0, .int .i64 0], .bool false]) (by simp [results, Try.results83, go_sem, j0, j1, j2, i0, i1, i2]) rfl ⟨by rw [HE.out], ?_⟩
  exact (((HBB.out.setCell (Nat.le_refl _) _).setCell (Nat.le_refl _) _).setCell (Nat.le_refl _) _)

set_option maxHeartbeats 2000000 in
theorem whole_used0 (b len cap : Nat) (l : List UInt8) (a en s : Int) (gap : Bool) (w : World) (hB : Bytes w b l) (hl : l.length = len) (h2 : 8 ≤ a) (h4 : en ≤ 8192) (h5 : en ≤ len) (h6 : len ≤ cap) (h7 : cap ≤ 1000000)
    (hs : num l a.toNat = s) (hm : num l (a.toNat + 4) = 1) (h8 : ¬ en - a < 8) (h9 : s ≤ en - a - 8) (h10 : a + 8 + upZ s ≤ en) (h11 : s < 1) :
    Calls Try.prog 83 #[.slice (some ⟨b, 0, none⟩) len cap, .int .i64 a, .int .i64 en, .bool gap] w (WholePost l a en gap w) := by
  have Hl := hid hl; clear hl
  have HB := hid hB; clear hB
  have hlt : b < w.heap.size := HB.out.lt
  have hs0 : 0 ≤ s := by rw [← hs]; exact (num_bd l a.toNat).1
  have hs1 : s ≤ 4294967295 := by rw [← hs]; exact (num_bd l a.toNat).2
  have hu := upZ_bd s hs0
  have HE : Hid (wholeS l a en gap = ((a, s, 1), false)) := by
    unfold wholeS Hid; rw [if_neg h8, hs]; rw [if_neg (by omega), if_pos hm, decide_eq_false (by omega), Bool.false_and]
  have HS := hid hs; clear hs
  have HM := hid hm; clear hm
  go_enter Try.func83, Try.ntmps83
  go_wp2_with fail
  have HBW : ∀ o, Hid (Below w.heap.size w (w.alloc o)) := fun o => (Below.refl w.heap.size w).alloc (Nat.le_refl _) o
  refine (get_any b len cap l a _ (HB.out.below (HBW _).out hlt) Hl.out (by omega) (by omega) (by omega) (by omega)).mono ?_
  rintro e w' ⟨rfl, rfl⟩
  rw [HS.out]
  go_wp2_with fail
  refine (get_any b len cap l (a+4) _ (HB.out.below (HBW _).out hlt) Hl.out (by omega) (by omega) (by omega) (by omega)).mono ?_
  rintro e w' ⟨rfl, rfl⟩
  rw [show (a + 4).toNat = a.toNat + 4 by omega, HM.out]
  go_wp2_with fail
  refine (end_any _ _ _ _ (by omega) (by omega) (by omega) (by omega)).mono ?_
  rintro e w1 ⟨rfl, hb1⟩
  obtain ⟨hc, hf⟩ := bcell hb1
  have hz : w.heap.size + 1 < w1.heap.size := by have := hb1.size; simp at this; omega
  have hz3 : w.heap.size < w1.heap.size := by omega
  have HB1 : Hid (Below w.heap.size w w1) := (((Below.refl w.heap.size w).alloc (Nat.le_refl _) _).alloc (by simp) _).trans (hb1.mono (by simp; omega))
  go_wp2_with fail
  obtain ⟨n, hn⟩ : ∃ n : Nat, upZ s = n := ⟨(upZ s).toNat, by omega⟩
  have hsn : s ≤ (n : Int) := by omega
  have HN := hid hn; clear hn
  refine (bytes_any n _ _ _ _ _ _ _ HN.out (by omega) (by omega) (by omega) (by omega) (by omega) (by omega)).mono ?_
  rintro e w2 ⟨⟨o, rfl, ho⟩, hb2⟩
  have HO := hid ho; clear ho
  obtain ⟨hc2, hf2⟩ := bcell hb2
  have hz2 : w.heap.size + 1 < w2.heap.size := by have := hb2.size; omega
  have hz4 : w.heap.size < w2.heap.size := by omega
  have HBB : Hid (Below w.heap.size w w2) := HB1.out.trans (hb2.mono (by omega))
  go_wp2_with fail
  have k0 : w2.cell? ⟨w.heap.size + 1, 0, none⟩ = some (.int .i64 a) := by go_simp
  have k1 : w2.cell? ⟨w.heap.size + 1, 1, none⟩ = some (.int .i64 s) := by go_simp
  have k2 : w2.cell? ⟨w.heap.size + 1, 2, none⟩ = some (.int .i64 1) := by go_simp
  have j0 : w2.cell? ⟨w.heap.size, 0, none⟩ = some (.int .i64 0) := by go_simp
  have j1 : w2.cell? ⟨w.heap.size, 1, none⟩ = some (.int .i64 0) := by go_simp
  have j2 : w2.cell? ⟨w.heap.size, 2, none⟩ = some (.int .i64 0) := by go_simp
  have i0 : w2.frozen? ⟨w.heap.size, 0, none⟩ = false := by go_simp
  have i1 : w2.frozen? ⟨w.heap.size, 1, none⟩ = false := by go_simp
  have i2 : w2.frozen? ⟨w.heap.size, 2, none⟩ = false := by go_simp
  clear hc hf hc2 hf2
  have s4 : decide (1 ≤ s) = false := by simp; omega
  refine wp_region_free (fun w' => Below w.heap.size w w' ∧ w'.cell? ⟨w.heap.size + 1, 0, none⟩ = some (.int .i64 a) ∧ w'.cell? ⟨w.heap.size + 1, 1, none⟩ = some (.int .i64 s) ∧ w'.cell? ⟨w.heap.size + 1, 2, none⟩ = some (.int .i64 1) ∧ OwnC w' ⟨w.heap.size, 0, none⟩ ∧ OwnC w' ⟨w.heap.size, 1, none⟩ ∧ OwnC w' ⟨w.heap.size, 2, none⟩) (fun i w' => (i = 11 → w'.cell? ⟨w.heap.size, 0, none⟩ = some (.int .i64 a) ∧ w'.cell? ⟨w.heap.size, 1, none⟩ = some (.int .i64 s) ∧ w'.cell? ⟨w.heap.size, 2, none⟩ = some (.int .i64 1))) (by kernel_rfl) (by kernel_rfl) ⟨(HBB.out).drew, k0, k1, k2, ⟨⟨_, j0⟩, i0⟩, ⟨⟨_, j1⟩, i1⟩, ⟨⟨_, j2⟩, i2⟩⟩ ?_
  refine wpFree_val rfl (fun _ _ h => absurd h (by decide)) (fun K hK => ?_); apply Exists.intro; refine ⟨fun w' hS => ?_, ?_⟩; (obtain ⟨hb, g0, g1, g2, o0, o1, o2⟩ := hS; go_simp; rfl); (go_simp; refine hK _ ?_; clear hK K)
  refine wpFree_val rfl (fun _ _ h => absurd h (by decide)) (fun K hK => ?_); apply Exists.intro; refine ⟨fun w' hS => ?_, ?_⟩; (obtain ⟨hb, g0, g1, g2, o0, o1, o2⟩ := hS; go_simp; rfl); (go_simp; refine hK _ ?_; clear hK K)
  refine wpFree_val rfl (fun _ _ h => absurd h (by decide)) (fun K hK => ?_); apply Exists.intro; refine ⟨fun w' hS => ?_, ?_⟩; (obtain ⟨hb, g0, g1, g2, o0, o1, o2⟩ := hS; go_simp; rfl); (go_simp; refine hK _ ?_; clear hK K)
  refine wpFree_val rfl (fun _ _ h => absurd h (by decide)) (fun K hK => ?_); apply Exists.intro; refine ⟨fun w' hS => ?_, ?_⟩; (obtain ⟨hb, g0, g1, g2, o0, o1, o2⟩ := hS; go_simp; rfl); (go_simp; refine hK _ ?_; clear hK K)
  refine wpFree_val rfl (fun _ _ h => absurd h (by decide)) (fun K hK => ?_); apply Exists.intro; refine ⟨fun w' hS => ?_, ?_⟩; (obtain ⟨hb, g0, g1, g2, o0, o1, o2⟩ := hS; go_simp; rfl); (go_simp; refine hK _ ?_; clear hK K)
  refine wpFree_skip rfl (fun _ _ h => absurd h (by decide)) (fun K hK => ?_); go_simp; refine hK _ ?_; clear hK K
  refine wpFree_skip rfl (fun _ _ h => absurd h (by decide)) (fun K hK => ?_); go_simp; refine hK _ ?_; clear hK K
  refine wpFree_skip rfl (fun _ _ h => absurd h (by decide)) (fun K hK => ?_); go_simp; refine hK _ ?_; clear hK K
  refine wpFree_skip rfl (fun _ _ h => absurd h (by decide)) (fun K hK => ?_); go_simp; refine hK _ ?_; clear hK K
  refine wpFree_skip rfl (fun _ _ h => absurd h (by decide)) (fun K hK => ?_); go_simp; refine hK _ ?_; clear hK K
  refine wpFree_val rfl (fun _ _ h => absurd h (by decide)) (fun K hK => ?_); apply Exists.intro; refine ⟨fun w' hS => ?_, ?_⟩; (obtain ⟨hb, g0, g1, g2, o0, o1, o2⟩ := hS; go_simp; rfl); (go_simp; refine hK _ ?_; clear hK K)
  refine wpFree_skipStep rfl (fun K hK => ⟨fun w' hS => ?_, ?_⟩)
  · obtain ⟨hb, g0, g1, g2, o0, o1, o2⟩ := hS
    have o0' := o0; obtain ⟨⟨u0, e0⟩, f0⟩ := o0'
    have o1' := o1; obtain ⟨⟨u1, e1⟩, f1⟩ := o1'
    have o2' := o2; obtain ⟨⟨u2, e2⟩, f2⟩ := o2'
    apply Exists.intro
    refine ⟨?_, ?_, ?_, ?_⟩
    · go_simp; rfl
    · exact ⟨(((hb.setCell (by simp) _).setCell (by simp) _).setCell (by simp) _), by go_simp, by go_simp, by go_simp, (((o0.set _ _).set _ _).set _ _), (((o1.set _ _).set _ _).set _ _), (((o2.set _ _).set _ _).set _ _)⟩
    · exact fun _ => ⟨by go_simp, by go_simp, by go_simp⟩
    · exact (by rintro j - rfl; exact ⟨by go_simp, by go_simp, by go_simp⟩)
  go_simp; refine hK _ ?_; clear hK K
  refine wpFree_val rfl (fun _ _ h => absurd h (by decide)) (fun K hK => ?_); apply Exists.intro; refine ⟨fun w' hS => ?_, ?_⟩; (obtain ⟨hb, g0, g1, g2, o0, o1, o2⟩ := hS; go_simp; rfl); (go_simp; refine hK _ ?_; clear hK K)
  refine wpFree_nil (fun w' hS hF => ?_)
  obtain ⟨hbe, -⟩ := hS
  obtain ⟨r0, r1, r2⟩ := hF 11 (by decide) rfl
  clear hF
  go_wp2
  refine bodyPost_ret (v := .tuple #[.agg #[.int .i64 a, .int .i64 s, .int .i64 1], .bool (false)]) (by simp [results, Try.results83, go_sem, r0, r1, r2]) rfl ⟨by rw [HE.out], hbe⟩

set_option maxHeartbeats 2000000 in
theorem whole_used1 (b len cap : Nat) (l : List UInt8) (a en s : Int) (gap : Bool) (w : World) (hB : Bytes w b l) (hl : l.length = len) (h2 : 8 ≤ a) (h4 : en ≤ 8192) (h5 : en ≤ len) (h6 : len ≤ cap) (h7 : cap ≤ 1000000)
    (hs : num l a.toNat = s) (hm : num l (a.toNat + 4) = 1) (h8 : ¬ en - a < 8) (h9 : s ≤ en - a - 8) (h10 : a + 8 + upZ s ≤ en) (h11 : 1 ≤ s) :
    Calls Try.prog 83 #[.slice (some ⟨b, 0, none⟩) len cap, .int .i64 a, .int .i64 en, .bool gap] w (WholePost l a en gap w) := by
  have Hl := hid hl; clear hl
  have HB := hid hB; clear hB
  have hlt : b < w.heap.size := HB.out.lt
  have hs0 : 0 ≤ s := by rw [← hs]; exact (num_bd l a.toNat).1
  have hs1 : s ≤ 4294967295 := by rw [← hs]; exact (num_bd l a.toNat).2
  have hu := upZ_bd s hs0
  have HE : Hid (wholeS l a en gap = ((a, s, 1), (((l.drop (a + 8 + s).toNat).take (upZ s - s).toNat)).all (· == 0))) := by
    unfold wholeS Hid; rw [if_neg h8, hs]; rw [if_neg (by omega), if_pos hm, decide_eq_true h11, Bool.true_and]
  have HS := hid hs; clear hs
  have HM := hid hm; clear hm
  go_enter Try.func83, Try.ntmps83
  go_wp2_with fail
  have HBW : ∀ o, Hid (Below w.heap.size w (w.alloc o)) := fun o => (Below.refl w.heap.size w).alloc (Nat.le_refl _) o
  refine (get_any b len cap l a _ (HB.out.below (HBW _).out hlt) Hl.out (by omega) (by omega) (by omega) (by omega)).mono ?_
  rintro e w' ⟨rfl, rfl⟩
  rw [HS.out]
  go_wp2_with fail
  refine (get_any b len cap l (a+4) _ (HB.out.below (HBW _).out hlt) Hl.out (by omega) (by omega) (by omega) (by omega)).mono ?_
  rintro e w' ⟨rfl, rfl⟩
  rw [show (a + 4).toNat = a.toNat + 4 by omega, HM.out]
  go_wp2_with fail
  refine (end_any _ _ _ _ (by omega) (by omega) (by omega) (by omega)).mono ?_
  rintro e w1 ⟨rfl, hb1⟩
  obtain ⟨hc, hf⟩ := bcell hb1
  have hz : w.heap.size + 1 < w1.heap.size := by have := hb1.size; simp at this; omega
  have hz3 : w.heap.size < w1.heap.size := by omega
  have HB1 : Hid (Below w.heap.size w w1) := (((Below.refl w.heap.size w).alloc (Nat.le_refl _) _).alloc (by simp) _).trans (hb1.mono (by simp; omega))
  go_wp2_with fail
  obtain ⟨n, hn⟩ : ∃ n : Nat, upZ s = n := ⟨(upZ s).toNat, by omega⟩
  have hsn : s ≤ (n : Int) := by omega
  have HN := hid hn; clear hn
  refine (bytes_any n _ _ _ _ _ _ _ HN.out (by omega) (by omega) (by omega) (by omega) (by omega) (by omega)).mono ?_
  rintro e w2 ⟨⟨o, rfl, ho⟩, hb2⟩
  have HO := hid ho; clear ho
  obtain ⟨hc2, hf2⟩ := bcell hb2
  have hz2 : w.heap.size + 1 < w2.heap.size := by have := hb2.size; omega
  have hz4 : w.heap.size < w2.heap.size := by omega
  have HBB : Hid (Below w.heap.size w w2) := HB1.out.trans (hb2.mono (by omega))
  go_wp2_with fail
  have k0 : w2.cell? ⟨w.heap.size + 1, 0, none⟩ = some (.int .i64 a) := by go_simp
  have k1 : w2.cell? ⟨w.heap.size + 1, 1, none⟩ = some (.int .i64 s) := by go_simp
  have k2 : w2.cell? ⟨w.heap.size + 1, 2, none⟩ = some (.int .i64 1) := by go_simp
  have j0 : w2.cell? ⟨w.heap.size, 0, none⟩ = some (.int .i64 0) := by go_simp
  have j1 : w2.cell? ⟨w.heap.size, 1, none⟩ = some (.int .i64 0) := by go_simp
  have j2 : w2.cell? ⟨w.heap.size, 2, none⟩ = some (.int .i64 0) := by go_simp
  have i0 : w2.frozen? ⟨w.heap.size, 0, none⟩ = false := by go_simp
  have i1 : w2.frozen? ⟨w.heap.size, 1, none⟩ = false := by go_simp
  have i2 : w2.frozen? ⟨w.heap.size, 2, none⟩ = false := by go_simp
  clear hc hf hc2 hf2
  obtain rfl := HO.out (by omega)
  have s4 : decide (1 ≤ s) = true := by simpa using h11
  refine wp_region_free (fun w' => Below w.heap.size w w' ∧ w'.cell? ⟨w.heap.size + 1, 0, none⟩ = some (.int .i64 a) ∧ w'.cell? ⟨w.heap.size + 1, 1, none⟩ = some (.int .i64 s) ∧ w'.cell? ⟨w.heap.size + 1, 2, none⟩ = some (.int .i64 1) ∧ OwnC w' ⟨w.heap.size, 0, none⟩ ∧ OwnC w' ⟨w.heap.size, 1, none⟩ ∧ OwnC w' ⟨w.heap.size, 2, none⟩) (fun i w' => (i = 11 → w'.cell? ⟨w.heap.size, 0, none⟩ = some (.int .i64 a) ∧ w'.cell? ⟨w.heap.size, 1, none⟩ = some (.int .i64 s) ∧ w'.cell? ⟨w.heap.size, 2, none⟩ = some (.int .i64 1))) (by kernel_rfl) (by kernel_rfl) ⟨(HBB.out).drew, k0, k1, k2, ⟨⟨_, j0⟩, i0⟩, ⟨⟨_, j1⟩, i1⟩, ⟨⟨_, j2⟩, i2⟩⟩ ?_
  refine wpFree_val rfl (fun _ _ h => absurd h (by decide)) (fun K hK => ?_); apply Exists.intro; refine ⟨fun w' hS => ?_, ?_⟩; (obtain ⟨hb, g0, g1, g2, o0, o1, o2⟩ := hS; go_simp; rfl); (go_simp; refine hK _ ?_; clear hK K)
  refine wpFree_val rfl (fun _ _ h => absurd h (by decide)) (fun K hK => ?_); apply Exists.intro; refine ⟨fun w' hS => ?_, ?_⟩; (obtain ⟨hb, g0, g1, g2, o0, o1, o2⟩ := hS; go_simp; rfl); (go_simp; refine hK _ ?_; clear hK K)
  refine wpFree_val rfl (fun _ _ h => absurd h (by decide)) (fun K hK => ?_); apply Exists.intro; refine ⟨fun w' hS => ?_, ?_⟩; (obtain ⟨hb, g0, g1, g2, o0, o1, o2⟩ := hS; go_simp; rfl); (go_simp; refine hK _ ?_; clear hK K)
  refine wpFree_val rfl (fun _ _ h => absurd h (by decide)) (fun K hK => ?_); apply Exists.intro; refine ⟨fun w' hS => ?_, ?_⟩; (obtain ⟨hb, g0, g1, g2, o0, o1, o2⟩ := hS; go_simp; rfl); (go_simp; refine hK _ ?_; clear hK K)
  refine wpFree_val rfl (fun _ _ h => absurd h (by decide)) (fun K hK => ?_); apply Exists.intro; refine ⟨fun w' hS => ?_, ?_⟩; (obtain ⟨hb, g0, g1, g2, o0, o1, o2⟩ := hS; go_simp; rfl); (go_simp; refine hK _ ?_; clear hK K)
  refine wpFree_val rfl (fun _ _ h => absurd h (by decide)) (fun K hK => ?_); apply Exists.intro; refine ⟨fun w' hS => ?_, ?_⟩; (obtain ⟨hb, g0, g1, g2, o0, o1, o2⟩ := hS; go_simp; rfl); (go_simp; refine hK _ ?_; clear hK K)
  refine wpFree_val rfl (fun _ _ h => absurd h (by decide)) (fun K hK => ?_); apply Exists.intro; refine ⟨fun w' hS => ?_, ?_⟩; (obtain ⟨hb, g0, g1, g2, o0, o1, o2⟩ := hS; go_simp; rfl); (go_simp; refine hK _ ?_; clear hK K)
  refine wpFree_val rfl (fun _ _ h => absurd h (by decide)) (fun K hK => ?_); apply Exists.intro; refine ⟨fun w' hS => ?_, ?_⟩; (obtain ⟨hb, g0, g1, g2, o0, o1, o2⟩ := hS; go_simp; rfl); (go_simp; refine hK _ ?_; clear hK K)
  refine wpFree_val rfl (fun _ _ h => absurd h (by decide)) (fun K hK => ?_); apply Exists.intro; refine ⟨fun w' hS => ?_, ?_⟩; (obtain ⟨hb, g0, g1, g2, o0, o1, o2⟩ := hS; go_simp; rfl); (go_simp; refine hK _ ?_; clear hK K)
  refine wpFree_call rfl (fun K hK => ?_); apply Exists.intro; apply Exists.intro; refine ⟨fun w' => ?_, ?_⟩; (go_simp; exact ⟨rfl, rfl⟩); apply Exists.intro; refine ⟨fun w' hS => ?_, ?_⟩
  · obtain ⟨hb, g0, g1, g2, o0, o1, o2⟩ := hS; refine (zero_any _ b (a+8+s).toNat _ _ ((l.drop (a + 8 + s).toNat).take (upZ s - s).toNat) _ (fun h => by rw [cutAt_lt (Nat.le_refl n) h, show (a + 8).toNat + s.toNat = (a + 8 + s).toNat by omega]) (by have := HN.out; have := Hl.out; rw [List.length_take, List.length_drop]; omega) (by have := HN.out; omega) (by have := HN.out; have := Hl.out; exact fun i hi => keepc hb (part_cells HB.out _ _ (by omega) i (by omega)))).mono ?_; rintro e w1 ⟨rfl, rfl⟩; exact ⟨rfl, ⟨hb, g0, g1, g2, o0, o1, o2⟩, (fun h => absurd h (by decide)), fun _ h => h⟩
  go_simp; refine hK _ ?_; clear hK K
  refine wpFree_val rfl (fun _ _ h => absurd h (by decide)) (fun K hK => ?_); apply Exists.intro; refine ⟨fun w' hS => ?_, ?_⟩; (obtain ⟨hb, g0, g1, g2, o0, o1, o2⟩ := hS; go_simp; rfl); (go_simp; refine hK _ ?_; clear hK K)
  refine wpFree_skipStep rfl (fun K hK => ⟨fun w' hS => ?_, ?_⟩)
  · obtain ⟨hb, g0, g1, g2, o0, o1, o2⟩ := hS
    have o0' := o0; obtain ⟨⟨u0, e0⟩, f0⟩ := o0'
    have o1' := o1; obtain ⟨⟨u1, e1⟩, f1⟩ := o1'
    have o2' := o2; obtain ⟨⟨u2, e2⟩, f2⟩ := o2'
    apply Exists.intro
    refine ⟨?_, ?_, ?_, ?_⟩
    · go_simp; rfl
    · exact ⟨(((hb.setCell (by simp) _).setCell (by simp) _).setCell (by simp) _), by go_simp, by go_simp, by go_simp, (((o0.set _ _).set _ _).set _ _), (((o1.set _ _).set _ _).set _ _), (((o2.set _ _).set _ _).set _ _)⟩
    · exact fun _ => ⟨by go_simp, by go_simp, by go_simp⟩
    · exact (by rintro j - rfl; exact ⟨by go_simp, by go_simp, by go_simp⟩)
  go_simp; refine hK _ ?_; clear hK K
  refine wpFree_val rfl (fun _ _ h => absurd h (by decide)) (fun K hK => ?_); apply Exists.intro; refine ⟨fun w' hS => ?_, ?_⟩; (obtain ⟨hb, g0, g1, g2, o0, o1, o2⟩ := hS; go_simp; rfl); (go_simp; refine hK _ ?_; clear hK K)
  refine wpFree_nil (fun w' hS hF => ?_)
  obtain ⟨hbe, -⟩ := hS
  obtain ⟨r0, r1, r2⟩ := hF 11 (by decide) rfl
  clear hF
  go_wp2
  refine bodyPost_ret (v := .tuple #[.agg #[.int .i64 a, .int .i64 s, .int .i64 1], .bool ((((l.drop (a + 8 + s).toNat).take (upZ s - s).toNat)).all (· == 0))]) (by simp [results, Try.results83, go_sem, r0, r1, r2]) rfl ⟨by rw [HE.out], hbe⟩

set_option maxHeartbeats 2000000 in
theorem whole_free0 (b len cap : Nat) (l : List UInt8) (a en s : Int) (gap : Bool) (w : World) (hB : Bytes w b l) (hl : l.length = len) (h2 : 8 ≤ a) (h4 : en ≤ 8192) (h5 : en ≤ len) (h6 : len ≤ cap) (h7 : cap ≤ 1000000)
    (hs : num l a.toNat = s) (hm : num l (a.toNat + 4) = 2) (h8 : ¬ en - a < 8) (h9 : s ≤ en - a - 8) (h10 : a + 8 + upZ s ≤ en) (h11 : ¬ s % 8 = 0) :
    Calls Try.prog 83 #[.slice (some ⟨b, 0, none⟩) len cap, .int .i64 a, .int .i64 en, .bool gap] w (WholePost l a en gap w) := by
  have Hl := hid hl; clear hl
  have HB := hid hB; clear hB
  have hlt : b < w.heap.size := HB.out.lt
  have hs0 : 0 ≤ s := by rw [← hs]; exact (num_bd l a.toNat).1
  have hs1 : s ≤ 4294967295 := by rw [← hs]; exact (num_bd l a.toNat).2
  have hu := upZ_bd s hs0
  have HE : Hid (wholeS l a en gap = ((a, s, 2), false)) := by
    unfold wholeS Hid; rw [if_neg h8, hs]; rw [if_neg (by omega), if_neg (by omega), if_pos hm, decide_eq_false h11, Bool.false_and, Bool.false_and, Bool.false_and]
  have HS := hid hs; clear hs
  have HM := hid hm; clear hm
  go_enter Try.func83, Try.ntmps83
  go_wp2_with fail
  have HBW : ∀ o, Hid (Below w.heap.size w (w.alloc o)) := fun o => (Below.refl w.heap.size w).alloc (Nat.le_refl _) o
  refine (get_any b len cap l a _ (HB.out.below (HBW _).out hlt) Hl.out (by omega) (by omega) (by omega) (by omega)).mono ?_
  rintro e w' ⟨rfl, rfl⟩
  rw [HS.out]
  go_wp2_with fail
  refine (get_any b len cap l (a+4) _ (HB.out.below (HBW _).out hlt) Hl.out (by omega) (by omega) (by omega) (by omega)).mono ?_
  rintro e w' ⟨rfl, rfl⟩
  rw [show (a + 4).toNat = a.toNat + 4 by omega, HM.out]
  go_wp2_with fail
  refine (end_any _ _ _ _ (by omega) (by omega) (by omega) (by omega)).mono ?_
  rintro e w1 ⟨rfl, hb1⟩
  obtain ⟨hc, hf⟩ := bcell hb1
  have hz : w.heap.size + 1 < w1.heap.size := by have := hb1.size; simp at this; omega
  have hz3 : w.heap.size < w1.heap.size := by omega
  have HB1 : Hid (Below w.heap.size w w1) := (((Below.refl w.heap.size w).alloc (Nat.le_refl _) _).alloc (by simp) _).trans (hb1.mono (by simp; omega))
  go_wp2_with fail
  obtain ⟨n, hn⟩ : ∃ n : Nat, upZ s = n := ⟨(upZ s).toNat, by omega⟩
  have hsn : s ≤ (n : Int) := by omega
  have HN := hid hn; clear hn
  refine (bytes_any n _ _ _ _ _ _ _ HN.out (by omega) (by omega) (by omega) (by omega) (by omega) (by omega)).mono ?_
  rintro e w2 ⟨⟨o, rfl, ho⟩, hb2⟩
  have HO := hid ho; clear ho
  obtain ⟨hc2, hf2⟩ := bcell hb2
  have hz2 : w.heap.size + 1 < w2.heap.size := by have := hb2.size; omega
  have hz4 : w.heap.size < w2.heap.size := by omega
  have HBB : Hid (Below w.heap.size w w2) := HB1.out.trans (hb2.mono (by omega))
  go_wp2_with fail
  have k0 : w2.cell? ⟨w.heap.size + 1, 0, none⟩ = some (.int .i64 a) := by go_simp
  have k1 : w2.cell? ⟨w.heap.size + 1, 1, none⟩ = some (.int .i64 s) := by go_simp
  have k2 : w2.cell? ⟨w.heap.size + 1, 2, none⟩ = some (.int .i64 2) := by go_simp
  have j0 : w2.cell? ⟨w.heap.size, 0, none⟩ = some (.int .i64 0) := by go_simp
  have j1 : w2.cell? ⟨w.heap.size, 1, none⟩ = some (.int .i64 0) := by go_simp
  have j2 : w2.cell? ⟨w.heap.size, 2, none⟩ = some (.int .i64 0) := by go_simp
  have i0 : w2.frozen? ⟨w.heap.size, 0, none⟩ = false := by go_simp
  have i1 : w2.frozen? ⟨w.heap.size, 1, none⟩ = false := by go_simp
  have i2 : w2.frozen? ⟨w.heap.size, 2, none⟩ = false := by go_simp
  clear hc hf hc2 hf2
  have s4 : (s.tmod 8 == 0) = false := by rw [Int.tmod_eq_emod_of_nonneg hs0]; simpa using h11
  refine wp_region_free (fun w' => Below w.heap.size w w' ∧ w'.cell? ⟨w.heap.size + 1, 0, none⟩ = some (.int .i64 a) ∧ w'.cell? ⟨w.heap.size + 1, 1, none⟩ = some (.int .i64 s) ∧ w'.cell? ⟨w.heap.size + 1, 2, none⟩ = some (.int .i64 2) ∧ OwnC w' ⟨w.heap.size, 0, none⟩ ∧ OwnC w' ⟨w.heap.size, 1, none⟩ ∧ OwnC w' ⟨w.heap.size, 2, none⟩) (fun i w' => (i = 22 → w'.cell? ⟨w.heap.size, 0, none⟩ = some (.int .i64 a) ∧ w'.cell? ⟨w.heap.size, 1, none⟩ = some (.int .i64 s) ∧ w'.cell? ⟨w.heap.size, 2, none⟩ = some (.int .i64 2))) (by kernel_rfl) (by kernel_rfl) ⟨(HBB.out).drew, k0, k1, k2, ⟨⟨_, j0⟩, i0⟩, ⟨⟨_, j1⟩, i1⟩, ⟨⟨_, j2⟩, i2⟩⟩ ?_
  refine wpFree_val rfl (fun _ _ h => absurd h (by decide)) (fun K hK => ?_); apply Exists.intro; refine ⟨fun w' hS => ?_, ?_⟩; (obtain ⟨hb, g0, g1, g2, o0, o1, o2⟩ := hS; go_simp; rfl); (go_simp; refine hK _ ?_; clear hK K)
  refine wpFree_val rfl (fun _ _ h => absurd h (by decide)) (fun K hK => ?_); apply Exists.intro; refine ⟨fun w' hS => ?_, ?_⟩; (obtain ⟨hb, g0, g1, g2, o0, o1, o2⟩ := hS; go_simp; rfl); (go_simp; refine hK _ ?_; clear hK K)
  refine wpFree_val rfl (fun _ _ h => absurd h (by decide)) (fun K hK => ?_); apply Exists.intro; refine ⟨fun w' hS => ?_, ?_⟩; (obtain ⟨hb, g0, g1, g2, o0, o1, o2⟩ := hS; go_simp; rfl); (go_simp; refine hK _ ?_; clear hK K)
  refine wpFree_val rfl (fun _ _ h => absurd h (by decide)) (fun K hK => ?_); apply Exists.intro; refine ⟨fun w' hS => ?_, ?_⟩; (obtain ⟨hb, g0, g1, g2, o0, o1, o2⟩ := hS; go_simp; rfl); (go_simp; refine hK _ ?_; clear hK K)
  refine wpFree_val rfl (fun _ _ h => absurd h (by decide)) (fun K hK => ?_); apply Exists.intro; refine ⟨fun w' hS => ?_, ?_⟩; (obtain ⟨hb, g0, g1, g2, o0, o1, o2⟩ := hS; go_simp; rfl); (go_simp; refine hK _ ?_; clear hK K)
  refine wpFree_val rfl (fun _ _ h => absurd h (by decide)) (fun K hK => ?_); apply Exists.intro; refine ⟨fun w' hS => ?_, ?_⟩; (obtain ⟨hb, g0, g1, g2, o0, o1, o2⟩ := hS; go_simp; rfl); (go_simp; refine hK _ ?_; clear hK K)
  refine wpFree_skip rfl (fun _ _ h => absurd h (by decide)) (fun K hK => ?_); go_simp; refine hK _ ?_; clear hK K
  refine wpFree_skip rfl (fun _ _ h => absurd h (by decide)) (fun K hK => ?_); go_simp; refine hK _ ?_; clear hK K
  refine wpFree_val rfl (fun _ _ h => absurd h (by decide)) (fun K hK => ?_); apply Exists.intro; refine ⟨fun w' hS => ?_, ?_⟩; (obtain ⟨hb, g0, g1, g2, o0, o1, o2⟩ := hS; go_simp; rfl); (go_simp; refine hK _ ?_; clear hK K)
  refine wpFree_val rfl (fun _ _ h => absurd h (by decide)) (fun K hK => ?_); apply Exists.intro; refine ⟨fun w' hS => ?_, ?_⟩; (obtain ⟨hb, g0, g1, g2, o0, o1, o2⟩ := hS; go_simp; rfl); (go_simp; refine hK _ ?_; clear hK K)
  refine wpFree_skip rfl (fun _ _ h => absurd h (by decide)) (fun K hK => ?_); go_simp; refine hK _ ?_; clear hK K
  refine wpFree_skip rfl (fun _ _ h => absurd h (by decide)) (fun K hK => ?_); go_simp; refine hK _ ?_; clear hK K
  refine wpFree_val rfl (fun _ _ h => absurd h (by decide)) (fun K hK => ?_); apply Exists.intro; refine ⟨fun w' hS => ?_, ?_⟩; (obtain ⟨hb, g0, g1, g2, o0, o1, o2⟩ := hS; go_simp; rfl); (go_simp; refine hK _ ?_; clear hK K)
  refine wpFree_val rfl (fun _ _ h => absurd h (by decide)) (fun K hK => ?_); apply Exists.intro; refine ⟨fun w' hS => ?_, ?_⟩; (obtain ⟨hb, g0, g1, g2, o0, o1, o2⟩ := hS; go_simp; rfl); (go_simp; refine hK _ ?_; clear hK K)
  refine wpFree_skip rfl (fun _ _ h => absurd h (by decide)) (fun K hK => ?_); go_simp; refine hK _ ?_; clear hK K
  refine wpFree_skip rfl (fun _ _ h => absurd h (by decide)) (fun K hK => ?_); go_simp; refine hK _ ?_; clear hK K
  refine wpFree_skip rfl (fun _ _ h => absurd h (by decide)) (fun K hK => ?_); go_simp; refine hK _ ?_; clear hK K
  refine wpFree_skip rfl (fun _ _ h => absurd h (by decide)) (fun K hK => ?_); go_simp; refine hK _ ?_; clear hK K
  refine wpFree_skip rfl (fun _ _ h => absurd h (by decide)) (fun K hK => ?_); go_simp; refine hK _ ?_; clear hK K
  refine wpFree_skip rfl (fun _ _ h => absurd h (by decide)) (fun K hK => ?_); go_simp; refine hK _ ?_; clear hK K
  refine wpFree_skip rfl (fun _ _ h => absurd h (by decide)) (fun K hK => ?_); go_simp; refine hK _ ?_; clear hK K
  refine wpFree_val rfl (fun _ _ h => absurd h (by decide)) (fun K hK => ?_); apply Exists.intro; refine ⟨fun w' hS => ?_, ?_⟩; (obtain ⟨hb, g0, g1, g2, o0, o1, o2⟩ := hS; go_simp; rfl); (go_simp; refine hK _ ?_; clear hK K)
  refine wpFree_skipStep rfl (fun K hK => ⟨fun w' hS => ?_, ?_⟩)
  · obtain ⟨hb, g0, g1, g2, o0, o1, o2⟩ := hS
    have o0' := o0; obtain ⟨⟨u0, e0⟩, f0⟩ := o0'
    have o1' := o1; obtain ⟨⟨u1, e1⟩, f1⟩ := o1'
    have o2' := o2; obtain ⟨⟨u2, e2⟩, f2⟩ := o2'
    apply Exists.intro
    refine ⟨?_, ?_, ?_, ?_⟩
    · go_simp; rfl
    · exact ⟨(((hb.setCell (by simp) _).setCell (by simp) _).setCell (by simp) _), by go_simp, by go_simp, by go_simp, (((o0.set _ _).set _ _).set _ _), (((o1.set _ _).set _ _).set _ _), (((o2.set _ _).set _ _).set _ _)⟩
    · exact fun _ => ⟨by go_simp, by go_simp, by go_simp⟩
    · exact (by rintro j - rfl; exact ⟨by go_simp, by go_simp, by go_simp⟩)
  go_simp; refine hK _ ?_; clear hK K
  refine wpFree_val rfl (fun _ _ h => absurd h (by decide)) (fun K hK => ?_); apply Exists.intro; refine ⟨fun w' hS => ?_, ?_⟩; (obtain ⟨hb, g0, g1, g2, o0, o1, o2⟩ := hS; go_simp; rfl); (go_simp; refine hK _ ?_; clear hK K)
  refine wpFree_nil (fun w' hS hF => ?_)
  obtain ⟨hbe, -⟩ := hS
  obtain ⟨r0, r1, r2⟩ := hF 22 (by decide) rfl
  clear hF
  go_wp2
  refine bodyPost_ret (v := .tuple #[.agg #[.int .i64 a, .int .i64 s, .int .i64 2], .bool (false)]) (by simp [results, Try.results83, go_sem, r0, r1, r2]) rfl ⟨by rw [HE.out], hbe⟩

set_option maxHeartbeats 2000000 in
theorem whole_free1 (b len cap : Nat) (l : List UInt8) (a en s : Int) (gap : Bool) (w : World) (hB : Bytes w b l) (hl : l.length = len) (h2 : 8 ≤ a) (h4 : en ≤ 8192) (h5 : en ≤ len) (h6 : len ≤ cap) (h7 : cap ≤ 1000000)
    (hs : num l a.toNat = s) (hm : num l (a.toNat + 4) = 2) (h8 : ¬ en - a < 8) (h9 : s ≤ en - a - 8) (h10 : a + 8 + upZ s ≤ en) (h11 : s % 8 = 0) (hz0 : (((l.drop (a + 8).toNat).take s.toNat)).all (· == 0) = false) :
    Calls Try.prog 83 #[.slice (some ⟨b, 0, none⟩) len cap, .int .i64 a, .int .i64 en, .bool gap] w (WholePost l a en gap w) := by
  have Hl := hid hl; clear hl
  have HB := hid hB; clear hB
  have hlt : b < w.heap.size := HB.out.lt
  have hs0 : 0 ≤ s := by rw [← hs]; exact (num_bd l a.toNat).1
  have hs1 : s ≤ 4294967295 := by rw [← hs]; exact (num_bd l a.toNat).2
  have hu := upZ_bd s hs0
  have HE : Hid (wholeS l a en gap = ((a, s, 2), false)) := by
    unfold wholeS Hid; rw [if_neg h8, hs]; rw [if_neg (by omega), if_neg (by omega), if_pos hm, decide_eq_true h11, hz0]; rfl
  have HS := hid hs; clear hs
  have HM := hid hm; clear hm
  go_enter Try.func83, Try.ntmps83
  go_wp2_with fail
  have HBW : ∀ o, Hid (Below w.heap.size w (w.alloc o)) := fun o => (Below.refl w.heap.size w).alloc (Nat.le_refl _) o
  refine (get_any b len cap l a _ (HB.out.below (HBW _).out hlt) Hl.out (by omega) (by omega) (by omega) (by omega)).mono ?_
  rintro e w' ⟨rfl, rfl⟩
  rw [HS.out]
  go_wp2_with fail
  refine (get_any b len cap l (a+4) _ (HB.out.below (HBW _).out hlt) Hl.out (by omega) (by omega) (by omega) (by omega)).mono ?_
  rintro e w' ⟨rfl, rfl⟩
  rw [show (a + 4).toNat = a.toNat + 4 by omega, HM.out]
  go_wp2_with fail
  refine (end_any _ _ _ _ (by omega) (by omega) (by omega) (by omega)).mono ?_
  rintro e w1 ⟨rfl, hb1⟩
  obtain ⟨hc, hf⟩ := bcell hb1
  have hz : w.heap.size + 1 < w1.heap.size := by have := hb1.size; simp at this; omega
  have hz3 : w.heap.size < w1.heap.size := by omega
  have HB1 : Hid (Below w.heap.size w w1) := (((Below.refl w.heap.size w).alloc (Nat.le_refl _) _).alloc (by simp) _).trans (hb1.mono (by simp; omega))
  go_wp2_with fail
  obtain ⟨n, hn⟩ : ∃ n : Nat, upZ s = n := ⟨(upZ s).toNat, by omega⟩
  have hsn : s ≤ (n : Int) := by omega
  have HN := hid hn; clear hn
  refine (bytes_any n _ _ _ _ _ _ _ HN.out (by omega) (by omega) (by omega) (by omega) (by omega) (by omega)).mono ?_
  rintro e w2 ⟨⟨o, rfl, ho⟩, hb2⟩
  have HO := hid ho; clear ho
  obtain ⟨hc2, hf2⟩ := bcell hb2
  have hz2 : w.heap.size + 1 < w2.heap.size := by have := hb2.size; omega
  have hz4 : w.heap.size < w2.heap.size := by omega
  have HBB : Hid (Below w.heap.size w w2) := HB1.out.trans (hb2.mono (by omega))
  go_wp2_with fail
  have k0 : w2.cell? ⟨w.heap.size + 1, 0, none⟩ = some (.int .i64 a) := by go_simp
  have k1 : w2.cell? ⟨w.heap.size + 1, 1, none⟩ = some (.int .i64 s) := by go_simp
  have k2 : w2.cell? ⟨w.heap.size + 1, 2, none⟩ = some (.int .i64 2) := by go_simp
  have j0 : w2.cell? ⟨w.heap.size, 0, none⟩ = some (.int .i64 0) := by go_simp
  have j1 : w2.cell? ⟨w.heap.size, 1, none⟩ = some (.int .i64 0) := by go_simp
  have j2 : w2.cell? ⟨w.heap.size, 2, none⟩ = some (.int .i64 0) := by go_simp
  have i0 : w2.frozen? ⟨w.heap.size, 0, none⟩ = false := by go_simp
  have i1 : w2.frozen? ⟨w.heap.size, 1, none⟩ = false := by go_simp
  have i2 : w2.frozen? ⟨w.heap.size, 2, none⟩ = false := by go_simp
  clear hc hf hc2 hf2
  have hsu : Hid (upZ s = s) := by unfold upZ Hid; omega
  have hza : Hid ((((l.drop (a + 8).toNat).take s.toNat)).all (· == 0) = false) := hz0
  clear hz0
  have s4 : (s.tmod 8 == 0) = true := by rw [Int.tmod_eq_emod_of_nonneg hs0]; simpa using h11
  clear h11
  refine wp_region_free (fun w' => Below w.heap.size w w' ∧ w'.cell? ⟨w.heap.size + 1, 0, none⟩ = some (.int .i64 a) ∧ w'.cell? ⟨w.heap.size + 1, 1, none⟩ = some (.int .i64 s) ∧ w'.cell? ⟨w.heap.size + 1, 2, none⟩ = some (.int .i64 2) ∧ OwnC w' ⟨w.heap.size, 0, none⟩ ∧ OwnC w' ⟨w.heap.size, 1, none⟩ ∧ OwnC w' ⟨w.heap.size, 2, none⟩) (fun i w' => (i = 22 → w'.cell? ⟨w.heap.size, 0, none⟩ = some (.int .i64 a) ∧ w'.cell? ⟨w.heap.size, 1, none⟩ = some (.int .i64 s) ∧ w'.cell? ⟨w.heap.size, 2, none⟩ = some (.int .i64 2))) (by kernel_rfl) (by kernel_rfl) ⟨(HBB.out).drew, k0, k1, k2, ⟨⟨_, j0⟩, i0⟩, ⟨⟨_, j1⟩, i1⟩, ⟨⟨_, j2⟩, i2⟩⟩ ?_
  refine wpFree_val rfl (fun _ _ h => absurd h (by decide)) (fun K hK => ?_); apply Exists.intro; refine ⟨fun w' hS => ?_, ?_⟩; (obtain ⟨hb, g0, g1, g2, o0, o1, o2⟩ := hS; go_simp; rfl); (go_simp; refine hK _ ?_; clear hK K)
  refine wpFree_val rfl (fun _ _ h => absurd h (by decide)) (fun K hK => ?_); apply Exists.intro; refine ⟨fun w' hS => ?_, ?_⟩; (obtain ⟨hb, g0, g1, g2, o0, o1, o2⟩ := hS; go_simp; rfl); (go_simp; refine hK _ ?_; clear hK K)
  refine wpFree_val rfl (fun _ _ h => absurd h (by decide)) (fun K hK => ?_); apply Exists.intro; refine ⟨fun w' hS => ?_, ?_⟩; (obtain ⟨hb, g0, g1, g2, o0, o1, o2⟩ := hS; go_simp; rfl); (go_simp; refine hK _ ?_; clear hK K)
  refine wpFree_val rfl (fun _ _ h => absurd h (by decide)) (fun K hK => ?_); apply Exists.intro; refine ⟨fun w' hS => ?_, ?_⟩; (obtain ⟨hb, g0, g1, g2, o0, o1, o2⟩ := hS; go_simp; rfl); (go_simp; refine hK _ ?_; clear hK K)
  refine wpFree_val rfl (fun _ _ h => absurd h (by decide)) (fun K hK => ?_); apply Exists.intro; refine ⟨fun w' hS => ?_, ?_⟩; (obtain ⟨hb, g0, g1, g2, o0, o1, o2⟩ := hS; go_simp; rfl); (go_simp; refine hK _ ?_; clear hK K)
  refine wpFree_val rfl (fun _ _ h => absurd h (by decide)) (fun K hK => ?_); apply Exists.intro; refine ⟨fun w' hS => ?_, ?_⟩; (obtain ⟨hb, g0, g1, g2, o0, o1, o2⟩ := hS; go_simp; rfl); (go_simp; refine hK _ ?_; clear hK K)
  refine wpFree_val rfl (fun _ _ h => absurd h (by decide)) (fun K hK => ?_); apply Exists.intro; refine ⟨fun w' hS => ?_, ?_⟩; (obtain ⟨hb, g0, g1, g2, o0, o1, o2⟩ := hS; go_simp; rfl); (go_simp; refine hK _ ?_; clear hK K)
  refine wpFree_call rfl (fun K hK => ?_); apply Exists.intro; apply Exists.intro; refine ⟨fun w' => ?_, ?_⟩; (go_simp; exact ⟨rfl, rfl⟩); apply Exists.intro; refine ⟨fun w' hS => ?_, ?_⟩
  · obtain ⟨hb, g0, g1, g2, o0, o1, o2⟩ := hS; refine (zero_any _ b (a+8).toNat _ _ ((l.drop (a + 8).toNat).take s.toNat) _ (fun h => HO.out (by have := HN.out; have := upZ_s0 s hs0; omega)) (by have := HN.out; have := Hl.out; have := hsu.out; rw [List.length_take, List.length_drop]; omega) (by have := HN.out; omega) (by have := HN.out; have := Hl.out; have := hsu.out; exact fun i hi => keepc hb (part_cells HB.out _ _ (by omega) i (by omega)))).mono ?_; rintro e w1 ⟨rfl, rfl⟩; exact ⟨by rw [hza.out], ⟨hb, g0, g1, g2, o0, o1, o2⟩, (fun h => absurd h (by decide)), fun _ h => h⟩
  go_simp; refine hK _ ?_; clear hK K
  refine wpFree_val rfl (fun _ _ h => absurd h (by decide)) (fun K hK => ?_); apply Exists.intro; refine ⟨fun w' hS => ?_, ?_⟩; (obtain ⟨hb, g0, g1, g2, o0, o1, o2⟩ := hS; go_simp; rfl); (go_simp; refine hK _ ?_; clear hK K)
  refine wpFree_val rfl (fun _ _ h => absurd h (by decide)) (fun K hK => ?_); apply Exists.intro; refine ⟨fun w' hS => ?_, ?_⟩; (obtain ⟨hb, g0, g1, g2, o0, o1, o2⟩ := hS; go_simp; rfl); (go_simp; refine hK _ ?_; clear hK K)
  refine wpFree_skip rfl (fun _ _ h => absurd h (by decide)) (fun K hK => ?_); go_simp; refine hK _ ?_; clear hK K
  refine wpFree_skip rfl (fun _ _ h => absurd h (by decide)) (fun K hK => ?_); go_simp; refine hK _ ?_; clear hK K
  refine wpFree_val rfl (fun _ _ h => absurd h (by decide)) (fun K hK => ?_); apply Exists.intro; refine ⟨fun w' hS => ?_, ?_⟩; (obtain ⟨hb, g0, g1, g2, o0, o1, o2⟩ := hS; go_simp; rfl); (go_simp; refine hK _ ?_; clear hK K)
  refine wpFree_val rfl (fun _ _ h => absurd h (by decide)) (fun K hK => ?_); apply Exists.intro; refine ⟨fun w' hS => ?_, ?_⟩; (obtain ⟨hb, g0, g1, g2, o0, o1, o2⟩ := hS; go_simp; rfl); (go_simp; refine hK _ ?_; clear hK K)
  refine wpFree_skip rfl (fun _ _ h => absurd h (by decide)) (fun K hK => ?_); go_simp; refine hK _ ?_; clear hK K
  refine wpFree_skip rfl (fun _ _ h => absurd h (by decide)) (fun K hK => ?_); go_simp; refine hK _ ?_; clear hK K
  refine wpFree_skip rfl (fun _ _ h => absurd h (by decide)) (fun K hK => ?_); go_simp; refine hK _ ?_; clear hK K
  refine wpFree_skip rfl (fun _ _ h => absurd h (by decide)) (fun K hK => ?_); go_simp; refine hK _ ?_; clear hK K
  refine wpFree_skip rfl (fun _ _ h => absurd h (by decide)) (fun K hK => ?_); go_simp; refine hK _ ?_; clear hK K
  refine wpFree_skip rfl (fun _ _ h => absurd h (by decide)) (fun K hK => ?_); go_simp; refine hK _ ?_; clear hK K
  refine wpFree_skip rfl (fun _ _ h => absurd h (by decide)) (fun K hK => ?_); go_simp; refine hK _ ?_; clear hK K
  refine wpFree_val rfl (fun _ _ h => absurd h (by decide)) (fun K hK => ?_); apply Exists.intro; refine ⟨fun w' hS => ?_, ?_⟩; (obtain ⟨hb, g0, g1, g2, o0, o1, o2⟩ := hS; go_simp; rfl); (go_simp; refine hK _ ?_; clear hK K)
  refine wpFree_skipStep rfl (fun K hK => ⟨fun w' hS => ?_, ?_⟩)
  · obtain ⟨hb, g0, g1, g2, o0, o1, o2⟩ := hS
    have o0' := o0; obtain ⟨⟨u0, e0⟩, f0⟩ := o0'
    have o1' := o1; obtain ⟨⟨u1, e1⟩, f1⟩ := o1'
    have o2' := o2; obtain ⟨⟨u2, e2⟩, f2⟩ := o2'
    apply Exists.intro
    refine ⟨?_, ?_, ?_, ?_⟩
    · go_simp; rfl
    · exact ⟨(((hb.setCell (by simp) _).setCell (by simp) _).setCell (by simp) _), by go_simp, by go_simp, by go_simp, (((o0.set _ _).set _ _).set _ _), (((o1.set _ _).set _ _).set _ _), (((o2.set _ _).set _ _).set _ _)⟩
    · exact fun _ => ⟨by go_simp, by go_simp, by go_simp⟩
    · exact (by rintro j - rfl; exact ⟨by go_simp, by go_simp, by go_simp⟩)
  go_simp; refine hK _ ?_; clear hK K
  refine wpFree_val rfl (fun _ _ h => absurd h (by decide)) (fun K hK => ?_); apply Exists.intro; refine ⟨fun w' hS => ?_, ?_⟩; (obtain ⟨hb, g0, g1, g2, o0, o1, o2⟩ := hS; go_simp; rfl); (go_simp; refine hK _ ?_; clear hK K)
  refine wpFree_nil (fun w' hS hF => ?_)
  obtain ⟨hbe, -⟩ := hS
  obtain ⟨r0, r1, r2⟩ := hF 22 (by decide) rfl
  clear hF
  go_wp2
  refine bodyPost_ret (v := .tuple #[.agg #[.int .i64 a, .int .i64 s, .int .i64 2], .bool (false)]) (by simp [results, Try.results83, go_sem, r0, r1, r2]) rfl ⟨by rw [HE.out], hbe⟩

set_option maxHeartbeats 2000000 in
theorem whole_free2 (b len cap : Nat) (l : List UInt8) (a en s : Int) (w : World) (hB : Bytes w b l) (hl : l.length = len) (h2 : 8 ≤ a) (h4 : en ≤ 8192) (h5 : en ≤ len) (h6 : len ≤ cap) (h7 : cap ≤ 1000000)
    (hs : num l a.toNat = s) (hm : num l (a.toNat + 4) = 2) (h8 : ¬ en - a < 8) (h9 : s ≤ en - a - 8) (h10 : a + 8 + upZ s ≤ en) (h11 : s % 8 = 0) (hz0 : (((l.drop (a + 8).toNat).take s.toNat)).all (· == 0) = true) :
    Calls Try.prog 83 #[.slice (some ⟨b, 0, none⟩) len cap, .int .i64 a, .int .i64 en, .bool true] w (WholePost l a en true w) := by
  have Hl := hid hl; clear hl
  have HB := hid hB; clear hB
  have hlt : b < w.heap.size := HB.out.lt
  have hs0 : 0 ≤ s := by rw [← hs]; exact (num_bd l a.toNat).1
  have hs1 : s ≤ 4294967295 := by rw [← hs]; exact (num_bd l a.toNat).2
  have hu := upZ_bd s hs0
  have HE : Hid (wholeS l a en true = ((a, s, 2), false)) := by
    unfold wholeS Hid; rw [if_neg h8, hs]; rw [if_neg (by omega), if_neg (by omega), if_pos hm, decide_eq_true h11, hz0]; rfl
  have HS := hid hs; clear hs
  have HM := hid hm; clear hm
  go_enter Try.func83, Try.ntmps83
  go_wp2_with fail
  have HBW : ∀ o, Hid (Below w.heap.size w (w.alloc o)) := fun o => (Below.refl w.heap.size w).alloc (Nat.le_refl _) o
  refine (get_any b len cap l a _ (HB.out.below (HBW _).out hlt) Hl.out (by omega) (by omega) (by omega) (by omega)).mono ?_
  rintro e w' ⟨rfl, rfl⟩
  rw [HS.out]
  go_wp2_with fail
  refine (get_any b len cap l (a+4) _ (HB.out.below (HBW _).out hlt) Hl.out (by omega) (by omega) (by omega) (by omega)).mono ?_
  rintro e w' ⟨rfl, rfl⟩
  rw [show (a + 4).toNat = a.toNat + 4 by omega, HM.out]
  go_wp2_with fail
  refine (end_any _ _ _ _ (by omega) (by omega) (by omega) (by omega)).mono ?_
  rintro e w1 ⟨rfl, hb1⟩
  obtain ⟨hc, hf⟩ := bcell hb1
  have hz : w.heap.size + 1 < w1.heap.size := by have := hb1.size; simp at this; omega
  have hz3 : w.heap.size < w1.heap.size := by omega
  have HB1 : Hid (Below w.heap.size w w1) := (((Below.refl w.heap.size w).alloc (Nat.le_refl _) _).alloc (by simp) _).trans (hb1.mono (by simp; omega))
  go_wp2_with fail
  obtain ⟨n, hn⟩ : ∃ n : Nat, upZ s = n := ⟨(upZ s).toNat, by omega⟩
  have hsn : s ≤ (n : Int) := by omega
  have HN := hid hn; clear hn
  refine (bytes_any n _ _ _ _ _ _ _ HN.out (by omega) (by omega) (by omega) (by omega) (by omega) (by omega)).mono ?_
  rintro e w2 ⟨⟨o, rfl, ho⟩, hb2⟩
  have HO := hid ho; clear ho
  obtain ⟨hc2, hf2⟩ := bcell hb2
  have hz2 : w.heap.size + 1 < w2.heap.size := by have := hb2.size; omega
  have hz4 : w.heap.size < w2.heap.size := by omega
  have HBB : Hid (Below w.heap.size w w2) := HB1.out.trans (hb2.mono (by omega))
  go_wp2_with fail
  have k0 : w2.cell? ⟨w.heap.size + 1, 0, none⟩ = some (.int .i64 a) := by go_simp
  have k1 : w2.cell? ⟨w.heap.size + 1, 1, none⟩ = some (.int .i64 s) := by go_simp
  have k2 : w2.cell? ⟨w.heap.size + 1, 2, none⟩ = some (.int .i64 2) := by go_simp
  have j0 : w2.cell? ⟨w.heap.size, 0, none⟩ = some (.int .i64 0) := by go_simp
  have j1 : w2.cell? ⟨w.heap.size, 1, none⟩ = some (.int .i64 0) := by go_simp
  have j2 : w2.cell? ⟨w.heap.size, 2, none⟩ = some (.int .i64 0) := by go_simp
  have i0 : w2.frozen? ⟨w.heap.size, 0, none⟩ = false := by go_simp
  have i1 : w2.frozen? ⟨w.heap.size, 1, none⟩ = false := by go_simp
  have i2 : w2.frozen? ⟨w.heap.size, 2, none⟩ = false := by go_simp
  clear hc hf hc2 hf2
  have hsu : Hid (upZ s = s) := by unfold upZ Hid; omega
  have hza : Hid ((((l.drop (a + 8).toNat).take s.toNat)).all (· == 0) = true) := hz0
  clear hz0
  have s4 : (s.tmod 8 == 0) = true := by rw [Int.tmod_eq_emod_of_nonneg hs0]; simpa using h11
  clear h11
  refine wp_region_free (fun w' => Below w.heap.size w w' ∧ w'.cell? ⟨w.heap.size + 1, 0, none⟩ = some (.int .i64 a) ∧ w'.cell? ⟨w.heap.size + 1, 1, none⟩ = some (.int .i64 s) ∧ w'.cell? ⟨w.heap.size + 1, 2, none⟩ = some (.int .i64 2) ∧ OwnC w' ⟨w.heap.size, 0, none⟩ ∧ OwnC w' ⟨w.heap.size, 1, none⟩ ∧ OwnC w' ⟨w.heap.size, 2, none⟩) (fun i w' => (i = 22 → w'.cell? ⟨w.heap.size, 0, none⟩ = some (.int .i64 a) ∧ w'.cell? ⟨w.heap.size, 1, none⟩ = some (.int .i64 s) ∧ w'.cell? ⟨w.heap.size, 2, none⟩ = some (.int .i64 2))) (by kernel_rfl) (by kernel_rfl) ⟨(HBB.out).drew, k0, k1, k2, ⟨⟨_, j0⟩, i0⟩, ⟨⟨_, j1⟩, i1⟩, ⟨⟨_, j2⟩, i2⟩⟩ ?_
  refine wpFree_val rfl (fun _ _ h => absurd h (by decide)) (fun K hK => ?_); apply Exists.intro; refine ⟨fun w' hS => ?_, ?_⟩; (obtain ⟨hb, g0, g1, g2, o0, o1, o2⟩ := hS; go_simp; rfl); (go_simp; refine hK _ ?_; clear hK K)
  refine wpFree_val rfl (fun _ _ h => absurd h (by decide)) (fun K hK => ?_); apply Exists.intro; refine ⟨fun w' hS => ?_, ?_⟩; (obtain ⟨hb, g0, g1, g2, o0, o1, o2⟩ := hS; go_simp; rfl); (go_simp; refine hK _ ?_; clear hK K)
  refine wpFree_val rfl (fun _ _ h => absurd h (by decide)) (fun K hK => ?_); apply Exists.intro; refine ⟨fun w' hS => ?_, ?_⟩; (obtain ⟨hb, g0, g1, g2, o0, o1, o2⟩ := hS; go_simp; rfl); (go_simp; refine hK _ ?_; clear hK K)
  refine wpFree_val rfl (fun _ _ h => absurd h (by decide)) (fun K hK => ?_); apply Exists.intro; refine ⟨fun w' hS => ?_, ?_⟩; (obtain ⟨hb, g0, g1, g2, o0, o1, o2⟩ := hS; go_simp; rfl); (go_simp; refine hK _ ?_; clear hK K)
  refine wpFree_val rfl (fun _ _ h => absurd h (by decide)) (fun K hK => ?_); apply Exists.intro; refine ⟨fun w' hS => ?_, ?_⟩; (obtain ⟨hb, g0, g1, g2, o0, o1, o2⟩ := hS; go_simp; rfl); (go_simp; refine hK _ ?_; clear hK K)
  refine wpFree_val rfl (fun _ _ h => absurd h (by decide)) (fun K hK => ?_); apply Exists.intro; refine ⟨fun w' hS => ?_, ?_⟩; (obtain ⟨hb, g0, g1, g2, o0, o1, o2⟩ := hS; go_simp; rfl); (go_simp; refine hK _ ?_; clear hK K)
  refine wpFree_val rfl (fun _ _ h => absurd h (by decide)) (fun K hK => ?_); apply Exists.intro; refine ⟨fun w' hS => ?_, ?_⟩; (obtain ⟨hb, g0, g1, g2, o0, o1, o2⟩ := hS; go_simp; rfl); (go_simp; refine hK _ ?_; clear hK K)
  refine wpFree_call rfl (fun K hK => ?_); apply Exists.intro; apply Exists.intro; refine ⟨fun w' => ?_, ?_⟩; (go_simp; exact ⟨rfl, rfl⟩); apply Exists.intro; refine ⟨fun w' hS => ?_, ?_⟩
  · obtain ⟨hb, g0, g1, g2, o0, o1, o2⟩ := hS; refine (zero_any _ b (a+8).toNat _ _ ((l.drop (a + 8).toNat).take s.toNat) _ (fun h => HO.out (by have := HN.out; have := upZ_s0 s hs0; omega)) (by have := HN.out; have := Hl.out; have := hsu.out; rw [List.length_take, List.length_drop]; omega) (by have := HN.out; omega) (by have := HN.out; have := Hl.out; have := hsu.out; exact fun i hi => keepc hb (part_cells HB.out _ _ (by omega) i (by omega)))).mono ?_; rintro e w1 ⟨rfl, rfl⟩; exact ⟨by rw [hza.out], ⟨hb, g0, g1, g2, o0, o1, o2⟩, (fun h => absurd h (by decide)), fun _ h => h⟩
  go_simp; refine hK _ ?_; clear hK K
  refine wpFree_val rfl (fun _ _ h => absurd h (by decide)) (fun K hK => ?_); apply Exists.intro; refine ⟨fun w' hS => ?_, ?_⟩; (obtain ⟨hb, g0, g1, g2, o0, o1, o2⟩ := hS; go_simp; rfl); (go_simp; refine hK _ ?_; clear hK K)
  refine wpFree_val rfl (fun _ _ h => absurd h (by decide)) (fun K hK => ?_); apply Exists.intro; refine ⟨fun w' hS => ?_, ?_⟩; (obtain ⟨hb, g0, g1, g2, o0, o1, o2⟩ := hS; go_simp; rfl); (go_simp; refine hK _ ?_; clear hK K)
  refine wpFree_val rfl (fun _ _ h => absurd h (by decide)) (fun K hK => ?_); apply Exists.intro; refine ⟨fun w' hS => ?_, ?_⟩; (obtain ⟨hb, g0, g1, g2, o0, o1, o2⟩ := hS; go_simp; rfl); (go_simp; refine hK _ ?_; clear hK K)
  refine wpFree_val rfl (fun _ _ h => absurd h (by decide)) (fun K hK => ?_); apply Exists.intro; refine ⟨fun w' hS => ?_, ?_⟩; (obtain ⟨hb, g0, g1, g2, o0, o1, o2⟩ := hS; go_simp; rfl); (go_simp; refine hK _ ?_; clear hK K)
  refine wpFree_val rfl (fun _ _ h => absurd h (by decide)) (fun K hK => ?_); apply Exists.intro; refine ⟨fun w' hS => ?_, ?_⟩; (obtain ⟨hb, g0, g1, g2, o0, o1, o2⟩ := hS; go_simp; rfl); (go_simp; refine hK _ ?_; clear hK K)
  refine wpFree_val rfl (fun _ _ h => absurd h (by decide)) (fun K hK => ?_); apply Exists.intro; refine ⟨fun w' hS => ?_, ?_⟩; (obtain ⟨hb, g0, g1, g2, o0, o1, o2⟩ := hS; go_simp; rfl); (go_simp; refine hK _ ?_; clear hK K)
  refine wpFree_skip rfl (fun _ _ h => absurd h (by decide)) (fun K hK => ?_); go_simp; refine hK _ ?_; clear hK K
  refine wpFree_skip rfl (fun _ _ h => absurd h (by decide)) (fun K hK => ?_); go_simp; refine hK _ ?_; clear hK K
  refine wpFree_skip rfl (fun _ _ h => absurd h (by decide)) (fun K hK => ?_); go_simp; refine hK _ ?_; clear hK K
  refine wpFree_skip rfl (fun _ _ h => absurd h (by decide)) (fun K hK => ?_); go_simp; refine hK _ ?_; clear hK K
  refine wpFree_skip rfl (fun _ _ h => absurd h (by decide)) (fun K hK => ?_); go_simp; refine hK _ ?_; clear hK K
  refine wpFree_skip rfl (fun _ _ h => absurd h (by decide)) (fun K hK => ?_); go_simp; refine hK _ ?_; clear hK K
  refine wpFree_skip rfl (fun _ _ h => absurd h (by decide)) (fun K hK => ?_); go_simp; refine hK _ ?_; clear hK K
  refine wpFree_val rfl (fun _ _ h => absurd h (by decide)) (fun K hK => ?_); apply Exists.intro; refine ⟨fun w' hS => ?_, ?_⟩; (obtain ⟨hb, g0, g1, g2, o0, o1, o2⟩ := hS; go_simp; rfl); (go_simp; refine hK _ ?_; clear hK K)
  refine wpFree_skipStep rfl (fun K hK => ⟨fun w' hS => ?_, ?_⟩)
  · obtain ⟨hb, g0, g1, g2, o0, o1, o2⟩ := hS
    have o0' := o0; obtain ⟨⟨u0, e0⟩, f0⟩ := o0'
    have o1' := o1; obtain ⟨⟨u1, e1⟩, f1⟩ := o1'
    have o2' := o2; obtain ⟨⟨u2, e2⟩, f2⟩ := o2'
    apply Exists.intro
    refine ⟨?_, ?_, ?_, ?_⟩
    · go_simp; rfl
    · exact ⟨(((hb.setCell (by simp) _).setCell (by simp) _).setCell (by simp) _), by go_simp, by go_simp, by go_simp, (((o0.set _ _).set _ _).set _ _), (((o1.set _ _).set _ _).set _ _), (((o2.set _ _).set _ _).set _ _)⟩
    · exact fun _ => ⟨by go_simp, by go_simp, by go_simp⟩
    · exact (by rintro j - rfl; exact ⟨by go_simp, by go_simp, by go_simp⟩)
  go_simp; refine hK _ ?_; clear hK K
  refine wpFree_val rfl (fun _ _ h => absurd h (by decide)) (fun K hK => ?_); apply Exists.intro; refine ⟨fun w' hS => ?_, ?_⟩; (obtain ⟨hb, g0, g1, g2, o0, o1, o2⟩ := hS; go_simp; rfl); (go_simp; refine hK _ ?_; clear hK K)
  refine wpFree_nil (fun w' hS hF => ?_)
  obtain ⟨hbe, -⟩ := hS
  obtain ⟨r0, r1, r2⟩ := hF 22 (by decide) rfl
  clear hF
  go_wp2
  refine bodyPost_ret (v := .tuple #[.agg #[.int .i64 a, .int .i64 s, .int .i64 2], .bool (false)]) (by simp [results, Try.results83, go_sem, r0, r1, r2]) rfl ⟨by rw [HE.out], hbe⟩

set_option maxHeartbeats 2000000 in
theorem whole_free3 (b len cap : Nat) (l : List UInt8) (a en s : Int) (w : World) (hB : Bytes w b l) (hl : l.length = len) (h2 : 8 ≤ a) (h4 : en ≤ 8192) (h5 : en ≤ len) (h6 : len ≤ cap) (h7 : cap ≤ 1000000)
    (hs : num l a.toNat = s) (hm : num l (a.toNat + 4) = 2) (h8 : ¬ en - a < 8) (h9 : s ≤ en - a - 8) (h10 : a + 8 + upZ s ≤ en) (h11 : s % 8 = 0) (h12 : 8 < a) (hz0 : (((l.drop (a + 8).toNat).take s.toNat)).all (· == 0) = true) :
    Calls Try.prog 83 #[.slice (some ⟨b, 0, none⟩) len cap, .int .i64 a, .int .i64 en, .bool false] w (WholePost l a en false w) := by
  have Hl := hid hl; clear hl
  have HB := hid hB; clear hB
  have hlt : b < w.heap.size := HB.out.lt
  have hs0 : 0 ≤ s := by rw [← hs]; exact (num_bd l a.toNat).1
  have hs1 : s ≤ 4294967295 := by rw [← hs]; exact (num_bd l a.toNat).2
  have hu := upZ_bd s hs0
  have HE : Hid (wholeS l a en false = ((a, s, 2), true)) := by
    unfold wholeS Hid; rw [if_neg h8, hs]; rw [if_neg (by omega), if_neg (by omega), if_pos hm, decide_eq_true h11, hz0, decide_eq_true h12]; rfl
  have HS := hid hs; clear hs
  have HM := hid hm; clear hm
  go_enter Try.func83, Try.ntmps83
  go_wp2_with fail
  have HBW : ∀ o, Hid (Below w.heap.size w (w.alloc o)) := fun o => (Below.refl w.heap.size w).alloc (Nat.le_refl _) o
  refine (get_any b len cap l a _ (HB.out.below (HBW _).out hlt) Hl.out (by omega) (by omega) (by omega) (by omega)).mono ?_
  rintro e w' ⟨rfl, rfl⟩
  rw [HS.out]
  go_wp2_with fail
  refine (get_any b len cap l (a+4) _ (HB.out.below (HBW _).out hlt) Hl.out (by omega) (by omega) (by omega) (by omega)).mono ?_
  rintro e w' ⟨rfl, rfl⟩
  rw [show (a + 4).toNat = a.toNat + 4 by omega, HM.out]
  go_wp2_with fail
  refine (end_any _ _ _ _ (by omega) (by omega) (by omega) (by omega)).mono ?_
  rintro e w1 ⟨rfl, hb1⟩
  obtain ⟨hc, hf⟩ := bcell hb1
  have hz : w.heap.size + 1 < w1.heap.size := by have := hb1.size; simp at this; omega
  have hz3 : w.heap.size < w1.heap.size := by omega
  have HB1 : Hid (Below w.heap.size w w1) := (((Below.refl w.heap.size w).alloc (Nat.le_refl _) _).alloc (by simp) _).trans (hb1.mono (by simp; omega))
  go_wp2_with fail
  obtain ⟨n, hn⟩ : ∃ n : Nat, upZ s = n := ⟨(upZ s).toNat, by omega⟩
  have hsn : s ≤ (n : Int) := by omega
  have HN := hid hn; clear hn
  refine (bytes_any n _ _ _ _ _ _ _ HN.out (by omega) (by omega) (by omega) (by omega) (by omega) (by omega)).mono ?_
  rintro e w2 ⟨⟨o, rfl, ho⟩, hb2⟩
  have HO := hid ho; clear ho
  obtain ⟨hc2, hf2⟩ := bcell hb2
  have hz2 : w.heap.size + 1 < w2.heap.size := by have := hb2.size; omega
  have hz4 : w.heap.size < w2.heap.size := by omega
  have HBB : Hid (Below w.heap.size w w2) := HB1.out.trans (hb2.mono (by omega))
  go_wp2_with fail
  have k0 : w2.cell? ⟨w.heap.size + 1, 0, none⟩ = some (.int .i64 a) := by go_simp
  have k1 : w2.cell? ⟨w.heap.size + 1, 1, none⟩ = some (.int .i64 s) := by go_simp
  have k2 : w2.cell? ⟨w.heap.size + 1, 2, none⟩ = some (.int .i64 2) := by go_simp
  have j0 : w2.cell? ⟨w.heap.size, 0, none⟩ = some (.int .i64 0) := by go_simp
  have j1 : w2.cell? ⟨w.heap.size, 1, none⟩ = some (.int .i64 0) := by go_simp
  have j2 : w2.cell? ⟨w.heap.size, 2, none⟩ = some (.int .i64 0) := by go_simp
  have i0 : w2.frozen? ⟨w.heap.size, 0, none⟩ = false := by go_simp
  have i1 : w2.frozen? ⟨w.heap.size, 1, none⟩ = false := by go_simp
  have i2 : w2.frozen? ⟨w.heap.size, 2, none⟩ = false := by go_simp
  clear hc hf hc2 hf2
  have hsu : Hid (upZ s = s) := by unfold upZ Hid; omega
  have hza : Hid ((((l.drop (a + 8).toNat).take s.toNat)).all (· == 0) = true) := hz0
  clear hz0
  have s4 : (s.tmod 8 == 0) = true := by rw [Int.tmod_eq_emod_of_nonneg hs0]; simpa using h11
  clear h11
  have s5 : decide (8 < a) = true := by simpa using h12
  refine wp_region_free (fun w' => Below w.heap.size w w' ∧ w'.cell? ⟨w.heap.size + 1, 0, none⟩ = some (.int .i64 a) ∧ w'.cell? ⟨w.heap.size + 1, 1, none⟩ = some (.int .i64 s) ∧ w'.cell? ⟨w.heap.size + 1, 2, none⟩ = some (.int .i64 2) ∧ OwnC w' ⟨w.heap.size, 0, none⟩ ∧ OwnC w' ⟨w.heap.size, 1, none⟩ ∧ OwnC w' ⟨w.heap.size, 2, none⟩) (fun i w' => (i = 22 → w'.cell? ⟨w.heap.size, 0, none⟩ = some (.int .i64 a) ∧ w'.cell? ⟨w.heap.size, 1, none⟩ = some (.int .i64 s) ∧ w'.cell? ⟨w.heap.size, 2, none⟩ = some (.int .i64 2))) (by kernel_rfl) (by kernel_rfl) ⟨(HBB.out).drew, k0, k1, k2, ⟨⟨_, j0⟩, i0⟩, ⟨⟨_, j1⟩, i1⟩, ⟨⟨_, j2⟩, i2⟩⟩ ?_
  refine wpFree_val rfl (fun _ _ h => absurd h (by decide)) (fun K hK => ?_); apply Exists.intro; refine ⟨fun w' hS => ?_, ?_⟩; (obtain ⟨hb, g0, g1, g2, o0, o1, o2⟩ := hS; go_simp; rfl); (go_simp; refine hK _ ?_; clear hK K)
  refine wpFree_val rfl (fun _ _ h => absurd h (by decide)) (fun K hK => ?_); apply Exists.intro; refine ⟨fun w' hS => ?_, ?_⟩; (obtain ⟨hb, g0, g1, g2, o0, o1, o2⟩ := hS; go_simp; rfl); (go_simp; refine hK _ ?_; clear hK K)
  refine wpFree_val rfl (fun _ _ h => absurd h (by decide)) (fun K hK => ?_); apply Exists.intro; refine ⟨fun w' hS => ?_, ?_⟩; (obtain ⟨hb, g0, g1, g2, o0, o1, o2⟩ := hS; go_simp; rfl); (go_simp; refine hK _ ?_; clear hK K)
  refine wpFree_val rfl (fun _ _ h => absurd h (by decide)) (fun K hK => ?_); apply Exists.intro; refine ⟨fun w' hS => ?_, ?_⟩; (obtain ⟨hb, g0, g1, g2, o0, o1, o2⟩ := hS; go_simp; rfl); (go_simp; refine hK _ ?_; clear hK K)
  refine wpFree_val rfl (fun _ _ h => absurd h (by decide)) (fun K hK => ?_); apply Exists.intro; refine ⟨fun w' hS => ?_, ?_⟩; (obtain ⟨hb, g0, g1, g2, o0, o1, o2⟩ := hS; go_simp; rfl); (go_simp; refine hK _ ?_; clear hK K)
  refine wpFree_val rfl (fun _ _ h => absurd h (by decide)) (fun K hK => ?_); apply Exists.intro; refine ⟨fun w' hS => ?_, ?_⟩; (obtain ⟨hb, g0, g1, g2, o0, o1, o2⟩ := hS; go_simp; rfl); (go_simp; refine hK _ ?_; clear hK K)
  refine wpFree_val rfl (fun _ _ h => absurd h (by decide)) (fun K hK => ?_); apply Exists.intro; refine ⟨fun w' hS => ?_, ?_⟩; (obtain ⟨hb, g0, g1, g2, o0, o1, o2⟩ := hS; go_simp; rfl); (go_simp; refine hK _ ?_; clear hK K)
  refine wpFree_call rfl (fun K hK => ?_); apply Exists.intro; apply Exists.intro; refine ⟨fun w' => ?_, ?_⟩; (go_simp; exact ⟨rfl, rfl⟩); apply Exists.intro; refine ⟨fun w' hS => ?_, ?_⟩
  · obtain ⟨hb, g0, g1, g2, o0, o1, o2⟩ := hS; refine (zero_any _ b (a+8).toNat _ _ ((l.drop (a + 8).toNat).take s.toNat) _ (fun h => HO.out (by have := HN.out; have := upZ_s0 s hs0; omega)) (by have := HN.out; have := Hl.out; have := hsu.out; rw [List.length_take, List.length_drop]; omega) (by have := HN.out; omega) (by have := HN.out; have := Hl.out; have := hsu.out; exact fun i hi => keepc hb (part_cells HB.out _ _ (by omega) i (by omega)))).mono ?_; rintro e w1 ⟨rfl, rfl⟩; exact ⟨by rw [hza.out], ⟨hb, g0, g1, g2, o0, o1, o2⟩, (fun h => absurd h (by decide)), fun _ h => h⟩
  go_simp; refine hK _ ?_; clear hK K
  refine wpFree_val rfl (fun _ _ h => absurd h (by decide)) (fun K hK => ?_); apply Exists.intro; refine ⟨fun w' hS => ?_, ?_⟩; (obtain ⟨hb, g0, g1, g2, o0, o1, o2⟩ := hS; go_simp; rfl); (go_simp; refine hK _ ?_; clear hK K)
  refine wpFree_val rfl (fun _ _ h => absurd h (by decide)) (fun K hK => ?_); apply Exists.intro; refine ⟨fun w' hS => ?_, ?_⟩; (obtain ⟨hb, g0, g1, g2, o0, o1, o2⟩ := hS; go_simp; rfl); (go_simp; refine hK _ ?_; clear hK K)
  refine wpFree_val rfl (fun _ _ h => absurd h (by decide)) (fun K hK => ?_); apply Exists.intro; refine ⟨fun w' hS => ?_, ?_⟩; (obtain ⟨hb, g0, g1, g2, o0, o1, o2⟩ := hS; go_simp; rfl); (go_simp; refine hK _ ?_; clear hK K)
  refine wpFree_val rfl (fun _ _ h => absurd h (by decide)) (fun K hK => ?_); apply Exists.intro; refine ⟨fun w' hS => ?_, ?_⟩; (obtain ⟨hb, g0, g1, g2, o0, o1, o2⟩ := hS; go_simp; rfl); (go_simp; refine hK _ ?_; clear hK K)
  refine wpFree_val rfl (fun _ _ h => absurd h (by decide)) (fun K hK => ?_); apply Exists.intro; refine ⟨fun w' hS => ?_, ?_⟩; (obtain ⟨hb, g0, g1, g2, o0, o1, o2⟩ := hS; go_simp; rfl); (go_simp; refine hK _ ?_; clear hK K)
  refine wpFree_val rfl (fun _ _ h => absurd h (by decide)) (fun K hK => ?_); apply Exists.intro; refine ⟨fun w' hS => ?_, ?_⟩; (obtain ⟨hb, g0, g1, g2, o0, o1, o2⟩ := hS; go_simp; rfl); (go_simp; refine hK _ ?_; clear hK K)
  refine wpFree_val rfl (fun _ _ h => absurd h (by decide)) (fun K hK => ?_); apply Exists.intro; refine ⟨fun w' hS => ?_, ?_⟩; (obtain ⟨hb, g0, g1, g2, o0, o1, o2⟩ := hS; go_simp; rfl); (go_simp; refine hK _ ?_; clear hK K)
  refine wpFree_val rfl (fun _ _ h => absurd h (by decide)) (fun K hK => ?_); apply Exists.intro; refine ⟨fun w' hS => ?_, ?_⟩; (obtain ⟨hb, g0, g1, g2, o0, o1, o2⟩ := hS; go_simp; rfl); (go_simp; refine hK _ ?_; clear hK K)
  refine wpFree_val rfl (fun _ _ h => absurd h (by decide)) (fun K hK => ?_); apply Exists.intro; refine ⟨fun w' hS => ?_, ?_⟩; (obtain ⟨hb, g0, g1, g2, o0, o1, o2⟩ := hS; go_simp; rfl); (go_simp; refine hK _ ?_; clear hK K)
  refine wpFree_skip rfl (fun _ _ h => absurd h (by decide)) (fun K hK => ?_); go_simp; refine hK _ ?_; clear hK K
  refine wpFree_skip rfl (fun _ _ h => absurd h (by decide)) (fun K hK => ?_); go_simp; refine hK _ ?_; clear hK K
  refine wpFree_skip rfl (fun _ _ h => absurd h (by decide)) (fun K hK => ?_); go_simp; refine hK _ ?_; clear hK K
  refine wpFree_val rfl (fun _ _ h => absurd h (by decide)) (fun K hK => ?_); apply Exists.intro; refine ⟨fun w' hS => ?_, ?_⟩; (obtain ⟨hb, g0, g1, g2, o0, o1, o2⟩ := hS; go_simp; rfl); (go_simp; refine hK _ ?_; clear hK K)
  refine wpFree_val rfl (fun _ _ h => absurd h (by decide)) (fun K hK => ?_); apply Exists.intro; refine ⟨fun w' hS => ?_, ?_⟩; (obtain ⟨hb, g0, g1, g2, o0, o1, o2⟩ := hS; go_simp; rfl); (go_simp; refine hK _ ?_; clear hK K)
  refine wpFree_skipStep rfl (fun K hK => ⟨fun w' hS => ?_, ?_⟩)
  · obtain ⟨hb, g0, g1, g2, o0, o1, o2⟩ := hS
    have o0' := o0; obtain ⟨⟨u0, e0⟩, f0⟩ := o0'
    have o1' := o1; obtain ⟨⟨u1, e1⟩, f1⟩ := o1'
    have o2' := o2; obtain ⟨⟨u2, e2⟩, f2⟩ := o2'
    apply Exists.intro
    refine ⟨?_, ?_, ?_, ?_⟩
    · go_simp; rfl
    · exact ⟨(((hb.setCell (by simp) _).setCell (by simp) _).setCell (by simp) _), by go_simp, by go_simp, by go_simp, (((o0.set _ _).set _ _).set _ _), (((o1.set _ _).set _ _).set _ _), (((o2.set _ _).set _ _).set _ _)⟩
    · exact fun _ => ⟨by go_simp, by go_simp, by go_simp⟩
    · exact (by rintro j - rfl; exact ⟨by go_simp, by go_simp, by go_simp⟩)
  go_simp; refine hK _ ?_; clear hK K
  refine wpFree_val rfl (fun _ _ h => absurd h (by decide)) (fun K hK => ?_); apply Exists.intro; refine ⟨fun w' hS => ?_, ?_⟩; (obtain ⟨hb, g0, g1, g2, o0, o1, o2⟩ := hS; go_simp; rfl); (go_simp; refine hK _ ?_; clear hK K)
  refine wpFree_nil (fun w' hS hF => ?_)
  obtain ⟨hbe, -⟩ := hS
  obtain ⟨r0, r1, r2⟩ := hF 22 (by decide) rfl
  clear hF
  go_wp2
  refine bodyPost_ret (v := .tuple #[.agg #[.int .i64 a, .int .i64 s, .int .i64 2], .bool (true)]) (by simp [results, Try.results83, go_sem, r0, r1, r2]) rfl ⟨by rw [HE.out], hbe⟩

set_option maxHeartbeats 2000000 in
theorem whole_free4 (b len cap : Nat) (l : List UInt8) (a en s : Int) (w : World) (hB : Bytes w b l) (hl : l.length = len) (h2 : 8 ≤ a) (h4 : en ≤ 8192) (h5 : en ≤ len) (h6 : len ≤ cap) (h7 : cap ≤ 1000000)
    (hs : num l a.toNat = s) (hm : num l (a.toNat + 4) = 2) (h8 : ¬ en - a < 8) (h9 : s ≤ en - a - 8) (h10 : a + 8 + upZ s ≤ en) (h11 : s % 8 = 0) (h12 : a ≤ 8) (hz0 : (((l.drop (a + 8).toNat).take s.toNat)).all (· == 0) = true) :
    Calls Try.prog 83 #[.slice (some ⟨b, 0, none⟩) len cap, .int .i64 a, .int .i64 en, .bool false] w (WholePost l a en false w) := by
  have Hl := hid hl; clear hl
  have HB := hid hB; clear hB
  have hlt : b < w.heap.size := HB.out.lt
  have hs0 : 0 ≤ s := by rw [← hs]; exact (num_bd l a.toNat).1
  have hs1 : s ≤ 4294967295 := by rw [← hs]; exact (num_bd l a.toNat).2
  have hu := upZ_bd s hs0
  have HE : Hid (wholeS l a en false = ((a, s, 2), decide (8 ≤ s))) := by
    unfold wholeS Hid; rw [if_neg h8, hs]; rw [if_neg (by omega), if_neg (by omega), if_pos hm, decide_eq_true h11, hz0, decide_eq_false (by omega)]; simp
  have HS := hid hs; clear hs
  have HM := hid hm; clear hm
  go_enter Try.func83, Try.ntmps83
  go_wp2_with fail
  have HBW : ∀ o, Hid (Below w.heap.size w (w.alloc o)) := fun o => (Below.refl w.heap.size w).alloc (Nat.le_refl _) o
  refine (get_any b len cap l a _ (HB.out.below (HBW _).out hlt) Hl.out (by omega) (by omega) (by omega) (by omega)).mono ?_
  rintro e w' ⟨rfl, rfl⟩
  rw [HS.out]
  go_wp2_with fail
  refine (get_any b len cap l (a+4) _ (HB.out.below (HBW _).out hlt) Hl.out (by omega) (by omega) (by omega) (by omega)).mono ?_
  rintro e w' ⟨rfl, rfl⟩
  rw [show (a + 4).toNat = a.toNat + 4 by omega, HM.out]
  go_wp2_with fail
  refine (end_any _ _ _ _ (by omega) (by omega) (by omega) (by omega)).mono ?_
  rintro e w1 ⟨rfl, hb1⟩
  obtain ⟨hc, hf⟩ := bcell hb1
  have hz : w.heap.size + 1 < w1.heap.size := by have := hb1.size; simp at this; omega
  have hz3 : w.heap.size < w1.heap.size := by omega
  have HB1 : Hid (Below w.heap.size w w1) := (((Below.refl w.heap.size w).alloc (Nat.le_refl _) _).alloc (by simp) _).trans (hb1.mono (by simp; omega))
  go_wp2_with fail
  obtain ⟨n, hn⟩ : ∃ n : Nat, upZ s = n := ⟨(upZ s).toNat, by omega⟩
  have hsn : s ≤ (n : Int) := by omega
  have HN := hid hn; clear hn
  refine (bytes_any n _ _ _ _ _ _ _ HN.out (by omega) (by omega) (by omega) (by omega) (by omega) (by omega)).mono ?_
  rintro e w2 ⟨⟨o, rfl, ho⟩, hb2⟩
  have HO := hid ho; clear ho
  obtain ⟨hc2, hf2⟩ := bcell hb2
  have hz2 : w.heap.size + 1 < w2.heap.size := by have := hb2.size; omega
  have hz4 : w.heap.size < w2.heap.size := by omega
  have HBB : Hid (Below w.heap.size w w2) := HB1.out.trans (hb2.mono (by omega))
  go_wp2_with fail
  have k0 : w2.cell? ⟨w.heap.size + 1, 0, none⟩ = some (.int .i64 a) := by go_simp
  have k1 : w2.cell? ⟨w.heap.size + 1, 1, none⟩ = some (.int .i64 s) := by go_simp
  have k2 : w2.cell? ⟨w.heap.size + 1, 2, none⟩ = some (.int .i64 2) := by go_simp
  have j0 : w2.cell? ⟨w.heap.size, 0, none⟩ = some (.int .i64 0) := by go_simp
  have j1 : w2.cell? ⟨w.heap.size, 1, none⟩ = some (.int .i64 0) := by go_simp
  have j2 : w2.cell? ⟨w.heap.size, 2, none⟩ = some (.int .i64 0) := by go_simp
  have i0 : w2.frozen? ⟨w.heap.size, 0, none⟩ = false := by go_simp
  have i1 : w2.frozen? ⟨w.heap.size, 1, none⟩ = false := by go_simp
  have i2 : w2.frozen? ⟨w.heap.size, 2, none⟩ = false := by go_simp
  clear hc hf hc2 hf2
  have hsu : Hid (upZ s = s) := by unfold upZ Hid; omega
  have hza : Hid ((((l.drop (a + 8).toNat).take s.toNat)).all (· == 0) = true) := hz0
  clear hz0
  have s4 : (s.tmod 8 == 0) = true := by rw [Int.tmod_eq_emod_of_nonneg hs0]; simpa using h11
  clear h11
  have s5 : decide (8 < a) = false := by simp; omega
  refine wp_region_free (fun w' => Below w.heap.size w w' ∧ w'.cell? ⟨w.heap.size + 1, 0, none⟩ = some (.int .i64 a) ∧ w'.cell? ⟨w.heap.size + 1, 1, none⟩ = some (.int .i64 s) ∧ w'.cell? ⟨w.heap.size + 1, 2, none⟩ = some (.int .i64 2) ∧ OwnC w' ⟨w.heap.size, 0, none⟩ ∧ OwnC w' ⟨w.heap.size, 1, none⟩ ∧ OwnC w' ⟨w.heap.size, 2, none⟩) (fun i w' => (i = 22 → w'.cell? ⟨w.heap.size, 0, none⟩ = some (.int .i64 a) ∧ w'.cell? ⟨w.heap.size, 1, none⟩ = some (.int .i64 s) ∧ w'.cell? ⟨w.heap.size, 2, none⟩ = some (.int .i64 2))) (by kernel_rfl) (by kernel_rfl) ⟨(HBB.out).drew, k0, k1, k2, ⟨⟨_, j0⟩, i0⟩, ⟨⟨_, j1⟩, i1⟩, ⟨⟨_, j2⟩, i2⟩⟩ ?_
  refine wpFree_val rfl (fun _ _ h => absurd h (by decide)) (fun K hK => ?_); apply Exists.intro; refine ⟨fun w' hS => ?_, ?_⟩; (obtain ⟨hb, g0, g1, g2, o0, o1, o2⟩ := hS; go_simp; rfl); (go_simp; refine hK _ ?_; clear hK K)
  refine wpFree_val rfl (fun _ _ h => absurd h (by decide)) (fun K hK => ?_); apply Exists.intro; refine ⟨fun w' hS => ?_, ?_⟩; (obtain ⟨hb, g0, g1, g2, o0, o1, o2⟩ := hS; go_simp; rfl); (go_simp; refine hK _ ?_; clear hK K)
  refine wpFree_val rfl (fun _ _ h => absurd h (by decide)) (fun K hK => ?_); apply Exists.intro; refine ⟨fun w' hS => ?_, ?_⟩; (obtain ⟨hb, g0, g1, g2, o0, o1, o2⟩ := hS; go_simp; rfl); (go_simp; refine hK _ ?_; clear hK K)
  refine wpFree_val rfl (fun _ _ h => absurd h (by decide)) (fun K hK => ?_); apply Exists.intro; refine ⟨fun w' hS => ?_, ?_⟩; (obtain ⟨hb, g0, g1, g2, o0, o1, o2⟩ := hS; go_simp; rfl); (go_simp; refine hK _ ?_; clear hK K)
  refine wpFree_val rfl (fun _ _ h => absurd h (by decide)) (fun K hK => ?_); apply Exists.intro; refine ⟨fun w' hS => ?_, ?_⟩; (obtain ⟨hb, g0, g1, g2, o0, o1, o2⟩ := hS; go_simp; rfl); (go_simp; refine hK _ ?_; clear hK K)
  refine wpFree_val rfl (fun _ _ h => absurd h (by decide)) (fun K hK => ?_); apply Exists.intro; refine ⟨fun w' hS => ?_, ?_⟩; (obtain ⟨hb, g0, g1, g2, o0, o1, o2⟩ := hS; go_simp; rfl); (go_simp; refine hK _ ?_; clear hK K)
  refine wpFree_val rfl (fun _ _ h => absurd h (by decide)) (fun K hK => ?_); apply Exists.intro; refine ⟨fun w' hS => ?_, ?_⟩; (obtain ⟨hb, g0, g1, g2, o0, o1, o2⟩ := hS; go_simp; rfl); (go_simp; refine hK _ ?_; clear hK K)
  refine wpFree_call rfl (fun K hK => ?_); apply Exists.intro; apply Exists.intro; refine ⟨fun w' => ?_, ?_⟩; (go_simp; exact ⟨rfl, rfl⟩); apply Exists.intro; refine ⟨fun w' hS => ?_, ?_⟩
  · obtain ⟨hb, g0, g1, g2, o0, o1, o2⟩ := hS; refine (zero_any _ b (a+8).toNat _ _ ((l.drop (a + 8).toNat).take s.toNat) _ (fun h => HO.out (by have := HN.out; have := upZ_s0 s hs0; omega)) (by have := HN.out; have := Hl.out; have := hsu.out; rw [List.length_take, List.length_drop]; omega) (by have := HN.out; omega) (by have := HN.out; have := Hl.out; have := hsu.out; exact fun i hi => keepc hb (part_cells HB.out _ _ (by omega) i (by omega)))).mono ?_; rintro e w1 ⟨rfl, rfl⟩; exact ⟨by rw [hza.out], ⟨hb, g0, g1, g2, o0, o1, o2⟩, (fun h => absurd h (by decide)), fun _ h => h⟩
  go_simp; refine hK _ ?_; clear hK K
  refine wpFree_val rfl (fun _ _ h => absurd h (by decide)) (fun K hK => ?_); apply Exists.intro; refine ⟨fun w' hS => ?_, ?_⟩; (obtain ⟨hb, g0, g1, g2, o0, o1, o2⟩ := hS; go_simp; rfl); (go_simp; refine hK _ ?_; clear hK K)
  refine wpFree_val rfl (fun _ _ h => absurd h (by decide)) (fun K hK => ?_); apply Exists.intro; refine ⟨fun w' hS => ?_, ?_⟩; (obtain ⟨hb, g0, g1, g2, o0, o1, o2⟩ := hS; go_simp; rfl); (go_simp; refine hK _ ?_; clear hK K)
  refine wpFree_val rfl (fun _ _ h => absurd h (by decide)) (fun K hK => ?_); apply Exists.intro; refine ⟨fun w' hS => ?_, ?_⟩; (obtain ⟨hb, g0, g1, g2, o0, o1, o2⟩ := hS; go_simp; rfl); (go_simp; refine hK _ ?_; clear hK K)
  refine wpFree_val rfl (fun _ _ h => absurd h (by decide)) (fun K hK => ?_); apply Exists.intro; refine ⟨fun w' hS => ?_, ?_⟩; (obtain ⟨hb, g0, g1, g2, o0, o1, o2⟩ := hS; go_simp; rfl); (go_simp; refine hK _ ?_; clear hK K)
  refine wpFree_val rfl (fun _ _ h => absurd h (by decide)) (fun K hK => ?_); apply Exists.intro; refine ⟨fun w' hS => ?_, ?_⟩; (obtain ⟨hb, g0, g1, g2, o0, o1, o2⟩ := hS; go_simp; rfl); (go_simp; refine hK _ ?_; clear hK K)
  refine wpFree_val rfl (fun _ _ h => absurd h (by decide)) (fun K hK => ?_); apply Exists.intro; refine ⟨fun w' hS => ?_, ?_⟩; (obtain ⟨hb, g0, g1, g2, o0, o1, o2⟩ := hS; go_simp; rfl); (go_simp; refine hK _ ?_; clear hK K)
  refine wpFree_val rfl (fun _ _ h => absurd h (by decide)) (fun K hK => ?_); apply Exists.intro; refine ⟨fun w' hS => ?_, ?_⟩; (obtain ⟨hb, g0, g1, g2, o0, o1, o2⟩ := hS; go_simp; rfl); (go_simp; refine hK _ ?_; clear hK K)
  refine wpFree_val rfl (fun _ _ h => absurd h (by decide)) (fun K hK => ?_); apply Exists.intro; refine ⟨fun w' hS => ?_, ?_⟩; (obtain ⟨hb, g0, g1, g2, o0, o1, o2⟩ := hS; go_simp; rfl); (go_simp; refine hK _ ?_; clear hK K)
  refine wpFree_val rfl (fun _ _ h => absurd h (by decide)) (fun K hK => ?_); apply Exists.intro; refine ⟨fun w' hS => ?_, ?_⟩; (obtain ⟨hb, g0, g1, g2, o0, o1, o2⟩ := hS; go_simp; rfl); (go_simp; refine hK _ ?_; clear hK K)
  refine wpFree_val rfl (fun _ _ h => absurd h (by decide)) (fun K hK => ?_); apply Exists.intro; refine ⟨fun w' hS => ?_, ?_⟩; (obtain ⟨hb, g0, g1, g2, o0, o1, o2⟩ := hS; go_simp; rfl); (go_simp; refine hK _ ?_; clear hK K)
  refine wpFree_val rfl (fun _ _ h => absurd h (by decide)) (fun K hK => ?_); apply Exists.intro; refine ⟨fun w' hS => ?_, ?_⟩; (obtain ⟨hb, g0, g1, g2, o0, o1, o2⟩ := hS; go_simp; rfl); (go_simp; refine hK _ ?_; clear hK K)
  refine wpFree_val rfl (fun _ _ h => absurd h (by decide)) (fun K hK => ?_); apply Exists.intro; refine ⟨fun w' hS => ?_, ?_⟩; (obtain ⟨hb, g0, g1, g2, o0, o1, o2⟩ := hS; go_simp; rfl); (go_simp; refine hK _ ?_; clear hK K)
  refine wpFree_val rfl (fun _ _ h => absurd h (by decide)) (fun K hK => ?_); apply Exists.intro; refine ⟨fun w' hS => ?_, ?_⟩; (obtain ⟨hb, g0, g1, g2, o0, o1, o2⟩ := hS; go_simp; rfl); (go_simp; refine hK _ ?_; clear hK K)
  refine wpFree_val rfl (fun _ _ h => absurd h (by decide)) (fun K hK => ?_); apply Exists.intro; refine ⟨fun w' hS => ?_, ?_⟩; (obtain ⟨hb, g0, g1, g2, o0, o1, o2⟩ := hS; go_simp; rfl); (go_simp; refine hK _ ?_; clear hK K)
  refine wpFree_skipStep rfl (fun K hK => ⟨fun w' hS => ?_, ?_⟩)
  · obtain ⟨hb, g0, g1, g2, o0, o1, o2⟩ := hS
    have o0' := o0; obtain ⟨⟨u0, e0⟩, f0⟩ := o0'
    have o1' := o1; obtain ⟨⟨u1, e1⟩, f1⟩ := o1'
    have o2' := o2; obtain ⟨⟨u2, e2⟩, f2⟩ := o2'
    apply Exists.intro
    refine ⟨?_, ?_, ?_, ?_⟩
    · go_simp; rfl
    · exact ⟨(((hb.setCell (by simp) _).setCell (by simp) _).setCell (by simp) _), by go_simp, by go_simp, by go_simp, (((o0.set _ _).set _ _).set _ _), (((o1.set _ _).set _ _).set _ _), (((o2.set _ _).set _ _).set _ _)⟩
    · exact fun _ => ⟨by go_simp, by go_simp, by go_simp⟩
    · exact (by rintro j - rfl; exact ⟨by go_simp, by go_simp, by go_simp⟩)
  go_simp; refine hK _ ?_; clear hK K
  refine wpFree_val rfl (fun _ _ h => absurd h (by decide)) (fun K hK => ?_); apply Exists.intro; refine ⟨fun w' hS => ?_, ?_⟩; (obtain ⟨hb, g0, g1, g2, o0, o1, o2⟩ := hS; go_simp; rfl); (go_simp; refine hK _ ?_; clear hK K)
  refine wpFree_nil (fun w' hS hF => ?_)
  obtain ⟨hbe, -⟩ := hS
  obtain ⟨r0, r1, r2⟩ := hF 22 (by decide) rfl
  clear hF
  go_wp2
  refine bodyPost_ret (v := .tuple #[.agg #[.int .i64 a, .int .i64 s, .int .i64 2], .bool (decide (8 ≤ s))]) (by simp [results, Try.results83, go_sem, r0, r1, r2]) rfl ⟨by rw [HE.out], hbe⟩

/-- **(heap).whole, at every input that open hands it.** -/
theorem whole_any (b len cap : Nat) (l : List UInt8) (a en : Int) (gap : Bool) (w : World) (hB : Bytes w b l) (hl : l.length = len) (h2 : 8 ≤ a) (h3 : a ≤ en) (h4 : en ≤ 8192) (h5 : en ≤ len) (h6 : len ≤ cap) (h7 : cap ≤ 1000000) :
    Calls Try.prog 83 #[.slice (some ⟨b, 0, none⟩) len cap, .int .i64 a, .int .i64 en, .bool gap] w (WholePost l a en gap w) := by
  by_cases h8 : en - a < 8
  · exact whole_short b len cap l a en gap w h2 h3 h4 h8
  by_cases h9 : num l a.toNat ≤ en - a - 8
  · by_cases h10 : a + 8 + upZ (num l a.toNat) ≤ en
    · by_cases hm1 : num l (a.toNat + 4) = 1
      · by_cases h11 : 1 ≤ num l a.toNat
        · exact whole_used1 b len cap l a en _ gap w hB hl h2 h4 h5 h6 h7 rfl hm1 h8 h9 h10 h11
        · exact whole_used0 b len cap l a en _ gap w hB hl h2 h4 h5 h6 h7 rfl hm1 h8 h9 h10 (by omega)
      · by_cases hm2 : num l (a.toNat + 4) = 2
        · by_cases h11 : num l a.toNat % 8 = 0
          · cases hz : ((l.drop (a + 8).toNat).take (num l a.toNat).toNat).all (· == 0) with
            | false => exact whole_free1 b len cap l a en _ gap w hB hl h2 h4 h5 h6 h7 rfl hm2 h8 h9 h10 h11 hz
            | true =>
              cases gap with
              | true => exact whole_free2 b len cap l a en _ w hB hl h2 h4 h5 h6 h7 rfl hm2 h8 h9 h10 h11 hz
              | false =>
                by_cases h12 : 8 < a
                · exact whole_free3 b len cap l a en _ w hB hl h2 h4 h5 h6 h7 rfl hm2 h8 h9 h10 h11 h12 hz
                · exact whole_free4 b len cap l a en _ w hB hl h2 h4 h5 h6 h7 rfl hm2 h8 h9 h10 h11 (by omega) hz
          · exact whole_free0 b len cap l a en _ gap w hB hl h2 h4 h5 h6 h7 rfl hm2 h8 h9 h10 h11
        · exact whole_other b len cap l a en _ gap w hB hl h2 h4 h5 h6 h7 rfl _ rfl hm1 hm2 h8 h9 h10
    · exact whole_long2 b len cap l a en _ gap w hB hl h2 h4 h5 h6 h7 rfl h8 h9 (by omega)
  · exact whole_long1 b len cap l a en _ gap w hB hl h2 h4 h5 h6 h7 rfl h8 (by omega)
end Go.Proofs.Ytcfmimfkaabmkaa
