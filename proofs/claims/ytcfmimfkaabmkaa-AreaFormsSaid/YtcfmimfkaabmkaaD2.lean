/- The walk of R.number. Printed by gen/rnum.py. -/
import Derived.Test.YtcfmimfkaabmkaaD1
set_option linter.unusedVariables false
set_option linter.unusedSimpArgs false
namespace Go.Proofs.Ytcfmimfkaabmkaa
open Go.RowKit
attribute [local go_sem] Oper.semAt_some
theorem str_at (s : ByteArray) (j : Int) (kd : IntKind) (h0 : 0 ≤ j) (h1 : j < s.size) (w : World) : (Instr.index 9 (.string s) (.int kd j)).run Try.prog w = .ok (.int .u8 (byt s.data.toList j.toNat)) w := by
  rw [run_index_string (t := 9) (h := under9), dif_pos ⟨h0, h1⟩]
  have : byt s.data.toList j.toNat = ((s[j.toNat]'(by omega)).toNat : Int) := by
    unfold byt
    have hlt : j.toNat < s.data.toList.length := by rw [Array.length_toList]; show j.toNat < s.size; omega
    rw [List.getElem?_eq_getElem hlt]
    rfl
  rw [this]
set_option maxRecDepth 20000 in
theorem rnumber_any (s : ByteArray) (i : Int) (w : World) (h0 : 0 ≤ i) (h1 : i + 4 ≤ s.size) (h2 : s.size ≤ 8192) : Calls Try.prog 81 #[.string s, .int .i64 i] w fun e w' => e = .returned (.int .i64 (num s.data.toList i.toNat)) ∧ Below w.heap.size w w' := by
  have hw1 : IntKind.i64.wrap (i + 1) = i + 1 := IntWalk.i64_in _ ⟨by omega, by omega⟩
  have hw2 : IntKind.i64.wrap (i + 2) = i + 2 := IntWalk.i64_in _ ⟨by omega, by omega⟩
  have hw3 : IntKind.i64.wrap (i + 3) = i + 3 := IntWalk.i64_in _ ⟨by omega, by omega⟩
  have x0 := str_at s i .i64 h0 (by omega)
  have x1 := str_at s (i + 1) .i64 (by omega) (by omega)
  have x2 := str_at s (i + 2) .i64 (by omega) (by omega)
  have x3 := str_at s (i + 3) .i64 (by omega) (by omega)
  have HN : Hid (num s.data.toList i.toNat = byt s.data.toList i.toNat * 16777216 + byt s.data.toList (i + 1).toNat * 65536 + byt s.data.toList (i + 2).toNat * 256 + byt s.data.toList (i + 3).toNat) := by
    unfold Hid num; rw [show (i + 1).toNat = i.toNat + 1 by omega, show (i + 2).toNat = i.toNat + 2 by omega, show (i + 3).toNat = i.toNat + 3 by omega]
  have b0 := byt_bd s.data.toList i.toNat
  have b1 := byt_bd s.data.toList (i + 1).toNat
  have b2 := byt_bd s.data.toList (i + 2).toNat
  have b3 := byt_bd s.data.toList (i + 3).toNat
  generalize byt s.data.toList i.toNat = c0 at *
  generalize byt s.data.toList (i + 1).toNat = c1 at *
  generalize byt s.data.toList (i + 2).toNat = c2 at *
  generalize byt s.data.toList (i + 3).toNat = c3 at *
  rw [HN.out]
  clear HN
  go_enter Try.func81, Try.ntmps81
  go_wp2
  have u0 : IntKind.i64.wrap c0 = c0 := IntWalk.i64_in _ ⟨by omega, by omega⟩
  have u1 : IntKind.i64.wrap c1 = c1 := IntWalk.i64_in _ ⟨by omega, by omega⟩
  have u2 : IntKind.i64.wrap c2 = c2 := IntWalk.i64_in _ ⟨by omega, by omega⟩
  have u3 : IntKind.i64.wrap c3 = c3 := IntWalk.i64_in _ ⟨by omega, by omega⟩
  have v0 : IntKind.i64.wrap (c0 * 16777216) = c0 * 16777216 := IntWalk.i64_in _ ⟨by omega, by omega⟩
  have v1 : IntKind.i64.wrap (c1 * 65536) = c1 * 65536 := IntWalk.i64_in _ ⟨by omega, by omega⟩
  have v2 : IntKind.i64.wrap (c2 * 256) = c2 * 256 := IntWalk.i64_in _ ⟨by omega, by omega⟩
  have v3 : IntKind.i64.wrap (c0 * 16777216 + c1 * 65536) = c0 * 16777216 + c1 * 65536 := IntWalk.i64_in _ ⟨by omega, by omega⟩
  have v4 : IntKind.i64.wrap (c0 * 16777216 + c1 * 65536 + c2 * 256) = c0 * 16777216 + c1 * 65536 + c2 * 256 := IntWalk.i64_in _ ⟨by omega, by omega⟩
  have v5 : IntKind.i64.wrap (c0 * 16777216 + c1 * 65536 + c2 * 256 + c3) = c0 * 16777216 + c1 * 65536 + c2 * 256 + c3 := IntWalk.i64_in _ ⟨by omega, by omega⟩
  clear b0 b1 b2 b3
  refine (fun hm hB S hS h => wp_region_freeL S hm hB hS h) (by kernel_rfl) (by kernel_rfl) (fun L w' => Below w.heap.size w w') ((Below.refl w.heap.size w)).drew ?_
  refine wpFreeL_val rfl (fun _ _ _ h => h) (fun K hK => ?_); apply Exists.intro; refine ⟨fun L w' hS => ?_, ?_⟩; (have hb := hS; clear hS; go_simp; rfl); (go_simp; refine hK _ ?_; clear hK K)
  refine wpFreeL_val rfl (fun _ _ _ h => h) (fun K hK => ?_); apply Exists.intro; refine ⟨fun L w' hS => ?_, ?_⟩; (have hb := hS; clear hS; go_simp; rfl); (go_simp; refine hK _ ?_; clear hK K)
  refine wpFreeL_val rfl (fun _ _ _ h => h) (fun K hK => ?_); apply Exists.intro; refine ⟨fun L w' hS => ?_, ?_⟩; (have hb := hS; clear hS; go_simp; rfl); (go_simp; refine hK _ ?_; clear hK K)
  refine wpFreeL_val rfl (fun _ _ _ h => h) (fun K hK => ?_); apply Exists.intro; refine ⟨fun L w' hS => ?_, ?_⟩; (have hb := hS; clear hS; go_simp; rfl); (go_simp; refine hK _ ?_; clear hK K)
  refine wpFreeL_val rfl (fun _ _ _ h => h) (fun K hK => ?_); apply Exists.intro; refine ⟨fun L w' hS => ?_, ?_⟩; (have hb := hS; clear hS; go_simp; rfl); (go_simp; refine hK _ ?_; clear hK K)
  refine wpFreeL_val rfl (fun _ _ _ h => h) (fun K hK => ?_); apply Exists.intro; refine ⟨fun L w' hS => ?_, ?_⟩; (have hb := hS; clear hS; go_simp; rfl); (go_simp; refine hK _ ?_; clear hK K)
  refine wpFreeL_val rfl (fun _ _ _ h => h) (fun K hK => ?_); apply Exists.intro; refine ⟨fun L w' hS => ?_, ?_⟩; (have hb := hS; clear hS; go_simp; rfl); (go_simp; refine hK _ ?_; clear hK K)
  refine wpFreeL_val rfl (fun _ _ _ h => h) (fun K hK => ?_); apply Exists.intro; refine ⟨fun L w' hS => ?_, ?_⟩; (have hb := hS; clear hS; go_simp; rfl); (go_simp; refine hK _ ?_; clear hK K)
  refine wpFreeL_val rfl (fun _ _ _ h => h) (fun K hK => ?_); apply Exists.intro; refine ⟨fun L w' hS => ?_, ?_⟩; (have hb := hS; clear hS; go_simp; rfl); (go_simp; refine hK _ ?_; clear hK K)
  refine wpFreeL_val rfl (fun _ _ _ h => h) (fun K hK => ?_); apply Exists.intro; refine ⟨fun L w' hS => ?_, ?_⟩; (have hb := hS; clear hS; go_simp; rfl); (go_simp; refine hK _ ?_; clear hK K)
  refine wpFreeL_val rfl (fun _ _ _ h => h) (fun K hK => ?_); apply Exists.intro; refine ⟨fun L w' hS => ?_, ?_⟩; (have hb := hS; clear hS; go_simp; rfl); (go_simp; refine hK _ ?_; clear hK K)
  refine wpFreeL_val rfl (fun _ _ _ h => h) (fun K hK => ?_); apply Exists.intro; refine ⟨fun L w' hS => ?_, ?_⟩; (have hb := hS; clear hS; go_simp; rfl); (go_simp; refine hK _ ?_; clear hK K)
  refine wpFreeL_val rfl (fun _ _ _ h => h) (fun K hK => ?_); apply Exists.intro; refine ⟨fun L w' hS => ?_, ?_⟩; (have hb := hS; clear hS; go_simp; rfl); (go_simp; refine hK _ ?_; clear hK K)
  refine wpFreeL_val rfl (fun _ _ _ h => h) (fun K hK => ?_); apply Exists.intro; refine ⟨fun L w' hS => ?_, ?_⟩; (have hb := hS; clear hS; go_simp; rfl); (go_simp; refine hK _ ?_; clear hK K)
  refine wpFreeL_val rfl (fun _ _ _ h => h) (fun K hK => ?_); apply Exists.intro; refine ⟨fun L w' hS => ?_, ?_⟩; (have hb := hS; clear hS; go_simp; rfl); (go_simp; refine hK _ ?_; clear hK K)
  refine wpFreeL_val rfl (fun _ _ _ h => h) (fun K hK => ?_); apply Exists.intro; refine ⟨fun L w' hS => ?_, ?_⟩; (have hb := hS; clear hS; go_simp; rfl); (go_simp; refine hK _ ?_; clear hK K)
  refine wpFreeL_val rfl (fun _ _ _ h => h) (fun K hK => ?_); apply Exists.intro; refine ⟨fun L w' hS => ?_, ?_⟩; (have hb := hS; clear hS; go_simp; rfl); (go_simp; refine hK _ ?_; clear hK K)
  refine wpFreeL_val rfl (fun _ _ _ h => h) (fun K hK => ?_); apply Exists.intro; refine ⟨fun L w' hS => ?_, ?_⟩; (have hb := hS; clear hS; go_simp; rfl); (go_simp; refine hK _ ?_; clear hK K)
  refine wpFreeL_val rfl (fun _ _ _ h => h) (fun K hK => ?_); apply Exists.intro; refine ⟨fun L w' hS => ?_, ?_⟩; (have hb := hS; clear hS; go_simp; rfl); (go_simp; refine hK _ ?_; clear hK K)
  refine wpFreeL_val rfl (fun _ _ _ h => h) (fun K hK => ?_); apply Exists.intro; refine ⟨fun L w' hS => ?_, ?_⟩; (have hb := hS; clear hS; go_simp; rfl); (go_simp; refine hK _ ?_; clear hK K)
  refine wpFreeL_val rfl (fun _ _ _ h => h) (fun K hK => ?_); apply Exists.intro; refine ⟨fun L w' hS => ?_, ?_⟩; (have hb := hS; clear hS; go_simp; rfl); (go_simp; refine hK _ ?_; clear hK K)
  refine wpFreeL_val rfl (fun _ _ _ h => h) (fun K hK => ?_); apply Exists.intro; refine ⟨fun L w' hS => ?_, ?_⟩; (have hb := hS; clear hS; go_simp; rfl); (go_simp; refine hK _ ?_; clear hK K)
  refine wpFreeL_val rfl (fun _ _ _ h => h) (fun K hK => ?_); apply Exists.intro; refine ⟨fun L w' hS => ?_, ?_⟩; (have hb := hS; clear hS; go_simp; rfl); (go_simp; refine hK _ ?_; clear hK K)
  refine wpFreeL_val rfl (fun _ _ _ h => h) (fun K hK => ?_); apply Exists.intro; refine ⟨fun L w' hS => ?_, ?_⟩; (have hb := hS; clear hS; go_simp; rfl); (go_simp; refine hK _ ?_; clear hK K)
  refine wpFreeL_val rfl (fun _ _ _ h => h) (fun K hK => ?_); apply Exists.intro; refine ⟨fun L w' hS => ?_, ?_⟩; (have hb := hS; clear hS; go_simp; rfl); (go_simp; refine hK _ ?_; clear hK K)
  refine wpFreeL_val rfl (fun _ _ _ h => h) (fun K hK => ?_); apply Exists.intro; refine ⟨fun L w' hS => ?_, ?_⟩; (have hb := hS; clear hS; go_simp; rfl); (go_simp; refine hK _ ?_; clear hK K)
  refine wpFreeL_nil (fun L w' hL hS => ?_)
  have hb := hS
  clear hL hS
  go_wp2
  go_ret
  exact ⟨rfl, hb⟩
end Go.Proofs.Ytcfmimfkaabmkaa
