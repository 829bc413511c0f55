/- The walk of (heap).bytes. -/
import Derived.Test.YtcfmimfkaabmkaaA2
set_option linter.unusedVariables false
set_option linter.unusedSimpArgs false
namespace Go.Proofs.Ytcfmimfkaabmkaa
open Go.RowKit
attribute [local go_sem ↓] Go.wp_at_zero Go.wp_at_succ
set_option maxHeartbeats 1000000 in
theorem bytes_any0 (b len cap : Nat) (a s m : Int) (w : World) (h0 : 0 ≤ a) (h1 : a ≤ 8192) (hs0 : 0 ≤ s) (hs : s ≤ 100000000) (h2 : a + 8 + upZ s ≤ len) (h3 : len ≤ cap) :
    Calls Try.prog 74 #[.slice (some ⟨b, 0, none⟩) len cap, .agg #[.int .i64 a, .int .i64 s, .int .i64 m]] w fun e w' => (∃ o : Option Addr, e = .returned (.slice o (upZ s).toNat (upZ s).toNat) ∧ (0 < s → o = some ⟨b, (a + 8).toNat, none⟩)) ∧ Below w.heap.size w w' := by
  have hu := upZ_bd s hs0
  go_enter Try.func74, Try.ntmps74
  go_wp2_with fail
  obtain ⟨W, hW⟩ : ∃ W, W = w.alloc (.cells #[.int .i64 a, .int .i64 s, .int .i64 m] 88) := ⟨_, rfl⟩
  rw [← hW]
  have HBW : Hid (Below w.heap.size w W) := by rw [hW]; exact (Below.refl w.heap.size w).alloc (Nat.le_refl _) _
  have k0 : W.cell? ⟨w.heap.size, 0, none⟩ = some (.int .i64 a) := by rw [hW]; go_simp
  have k1 : W.cell? ⟨w.heap.size, 1, none⟩ = some (.int .i64 s) := by rw [hW]; go_simp
  have k2 : W.cell? ⟨w.heap.size, 2, none⟩ = some (.int .i64 m) := by rw [hW]; go_simp
  clear hW
  have q1 : 0 ≤ a + 8 := by omega
  have q4 : 0 ≤ a + 8 + upZ s := by omega
  have q5 : a + 8 ≤ a + 8 + upZ s := by omega
  have q2 : 0 ≤ upZ s := by omega
  have q3 : a + 8 + upZ s ≤ (cap : Int) := by omega
  go_region_held3 (fun w' => Below W.heap.size W w' ∧ w'.cell? ⟨w.heap.size, 0, none⟩ = some (.int .i64 a) ∧ w'.cell? ⟨w.heap.size, 1, none⟩ = some (.int .i64 s) ∧ w'.cell? ⟨w.heap.size, 2, none⟩ = some (.int .i64 m))
     ((refine (fun hS => ⟨hS, keepc hS k0, keepc hS k1, keepc hS k2⟩ : Below W.heap.size W _ → _) ?_; first | exact (Below.refl _ _).drew | exact below_step hb1 (And.left (by assumption)) | exact below_step hb1 (by assumption)))
     (first | (go_at_call 62; refine (end_any _ _ _ _ (by omega) (by omega) (by omega) (by omega)).mono ?_; rintro e w1 ⟨rfl, hb1⟩))
  have hS : Below W.heap.size W w1 := And.left (by assumption)
  go_wp2
  refine bodyPost_ret (v := .slice (cutAt b 0 (a + 8).toNat (a + 8 + upZ s).toNat) ((a + 8 + upZ s).toNat - (a + 8).toNat) ((a + 8 + upZ s).toNat - (a + 8).toNat)) (by simp [results, Try.results74, go_sem]) rfl ⟨⟨cutAt b 0 (a + 8).toNat (a + 8 + upZ s).toNat, ?_, ?_⟩, ?_⟩
  · have e : (a + 8 + upZ s).toNat - (a + 8).toNat = (upZ s).toNat := by omega
    rw [e]
  · intro h; rw [cutAt_lt (len := (a + 8 + upZ s).toNat) (Nat.le_refl _) (by omega), Nat.zero_add]
  · exact HBW.out.trans (hS.mono HBW.out.size)

theorem bytes_any (n b len cap : Nat) (a s m : Int) (w : World) (hn : upZ s = n) (h0 : 0 ≤ a) (h1 : a ≤ 8192) (hs0 : 0 ≤ s) (hs : s ≤ 100000000) (h2 : a + 8 + upZ s ≤ len) (h3 : len ≤ cap) :
    Calls Try.prog 74 #[.slice (some ⟨b, 0, none⟩) len cap, .agg #[.int .i64 a, .int .i64 s, .int .i64 m]] w fun e w' => (∃ o : Option Addr, e = .returned (.slice o n n) ∧ (0 < s → o = some ⟨b, (a + 8).toNat, none⟩)) ∧ Below w.heap.size w w' := by
  have := bytes_any0 b len cap a s m w h0 h1 hs0 hs h2 h3
  rwa [show (upZ s).toNat = n by omega] at this
end Go.Proofs.Ytcfmimfkaabmkaa
