/- The walks of package area: set, (heap).head, (heap).bytes, (heap).whole. -/
import Derived.Test.YtcfmimfkaabmkaaA1
set_option linter.unusedVariables false
set_option linter.unusedSimpArgs false
namespace Go.Proofs.Ytcfmimfkaabmkaa
open Go.RowKit
attribute [local go_sem ↓] Go.wp_at_zero Go.wp_at_succ
set_option maxHeartbeats 1000000 in
theorem set_any (b len cap : Nat) (l : List UInt8) (k n : Int) (w : World) (hB : Bytes w b l) (hl : l.length = len) (h0 : 0 ≤ k) (h1 : k + 4 ≤ len) (h2 : len ≤ cap) (h3 : cap ≤ 1000000) (hn0 : 0 ≤ n) (hn : n ≤ 1000000000) :
    Calls Try.prog 59 #[.slice (some ⟨b, 0, none⟩) len cap, .int .i64 k, .int .i64 n] w fun e w' => e = .returned (.tuple #[]) ∧ Bytes w' b (setL l k.toNat n.toNat) ∧ w.grownBy w' (some b) ∧ w'.heap.size = w.heap.size := by
  obtain ⟨k, rfl⟩ := Int.eq_ofNat_of_zero_le h0
  have c0 := hB.cell (i := k) (by omega)
  have c1 := hB.cell (i := k + 1) (by omega)
  have c2 := hB.cell (i := k + 2) (by omega)
  have c3 := hB.cell (i := k + 3) (by omega)
  have f0 := hB.frozen k
  have f1 := hB.frozen (k+1)
  have f2 := hB.frozen (k+2)
  have f3 := hB.frozen (k+3)
  have HB := hid hB; clear hB
  clear hl
  go_enter Try.func59, Try.ntmps59
  go_wp2
  refine wp_loop_rounds 5 ?_
  rw [rounds_succ]
  go_wp2
  rw [rounds_succ]
  go_wp2
  rw [rounds_succ]
  go_wp2
  rw [rounds_succ]
  go_wp2
  rw [rounds_succ]
  go_wp2
  go_end0
  refine ⟨rfl, ?_, ?_, by simp [World.setCell]⟩
  · obtain ⟨m, rfl⟩ := Int.eq_ofNat_of_zero_le hn0
    have e0 : (m : Int) / 16777216 = (((UInt8.ofNat (m / 16777216)).toNat : Nat) : Int) := by have := u8_of ((m : Int) / 16777216) (m / 16777216) (by omega); omega
    have e1 : (m : Int) / 65536 % 256 = (((UInt8.ofNat (m / 65536)).toNat : Nat) : Int) := u8_of _ _ (by omega)
    have e2 : (m : Int) / 256 % 256 = (((UInt8.ofNat (m / 256)).toNat : Nat) : Int) := u8_of _ _ (by omega)
    have e3 : (m : Int) % 256 = (((UInt8.ofNat m).toNat : Nat) : Int) := u8_of _ _ rfl
    rw [e0, e1, e2, e3]
    exact (((HB.out.set _).set _).set _).set _
  · exact grown_set (grown_set (grown_set (grown_set (grown_refl _ _) _ _) _ _) _ _) _ _
set_option maxHeartbeats 1000000 in
theorem head_any (b len cap : Nat) (l : List UInt8) (a s m : Int) (w : World) (hB : Bytes w b l) (hl : l.length = len) (h0 : 0 ≤ a) (h1 : a + 8 ≤ len) (h2 : len ≤ cap) (h3 : cap ≤ 1000000) (hs0 : 0 ≤ s) (hs : s ≤ 1000000) (hm0 : 0 ≤ m) (hm : m ≤ 100) :
    Calls Try.prog 63 #[.slice (some ⟨b, 0, none⟩) len cap, .agg #[.int .i64 a, .int .i64 s, .int .i64 m]] w fun e w' => e = .returned (.tuple #[]) ∧ Bytes w' b (setL (setL l a.toNat s.toNat) (a.toNat + 4) m.toNat) ∧ w.grownBy w' (some b) := by
  have Hl := hid hl; clear hl
  have HB := hid hB; clear hB
  have hlt : b < w.heap.size := HB.out.lt
  go_enter Try.func63, Try.ntmps63
  go_wp2_with fail
  refine (set_any b len cap l a s _ ?_ Hl.out h0 (by omega) h2 h3 hs0 (by omega)).mono ?_
  · exact HB.out.below ((Below.refl w.heap.size w).alloc (Nat.le_refl _) _) hlt
  rintro e w1 ⟨rfl, hb1, hg1, hz1⟩
  have HB1 := hid hb1; clear hb1
  have HZ1 := hid hz1; clear hz1
  have g0 : w1.cell? ⟨w.heap.size, 0, none⟩ = some (.int .i64 a) := hg1.cell (by go_simp) (by simp; omega)
  have g2 : w1.cell? ⟨w.heap.size, 2, none⟩ = some (.int .i64 m) := hg1.cell (by go_simp) (by simp; omega)
  have HG1 := hid hg1; clear hg1
  go_wp2_with fail
  refine (set_any b len cap _ (a+4) m _ HB1.out (by rw [setL_length]; exact Hl.out) (by omega) (by omega) h2 h3 hm0 (by omega)).mono ?_
  rintro e w2 ⟨rfl, hb2, hg2, hz2⟩
  have HB2 := hid hb2; clear hb2
  have HG2 := hid hg2; clear hg2
  clear hz2
  go_wp2
  go_end0
  refine ⟨rfl, ?_, grown_trans (below_grow ((Below.refl w.heap.size w).alloc (Nat.le_refl _) _) _) (grown_trans HG1.out HG2.out)⟩
  have := HB2.out
  rwa [show (a + 4).toNat = a.toNat + 4 by omega] at this
end Go.Proofs.Ytcfmimfkaabmkaa
