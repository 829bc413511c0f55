/- The walks of R.Check, R.New, R.Extent, R.Blocks, R.Resize, R.Assign. -/
import Derived.Test.YtcfmimfkaabmkaaH0
set_option linter.unusedVariables false
set_option linter.unusedSimpArgs false
namespace Go.Proofs.Ytcfmimfkaabmkaa
open Go.RowKit
attribute [local go_sem] Oper.semAt_some
attribute [local irreducible] num
def IntPost (c : Int) (w : World) (e : Ending) (w' : World) : Prop := e = .returned (.int .i64 c) ∧ Below w.heap.size w w'
def TwoPost (r : Int × Int) (w : World) (e : Ending) (w' : World) : Prop := e = .returned (.tuple #[.int .i64 r.1, .int .i64 r.2]) ∧ Below w.heap.size w w'
def PiecesPost (r : List (Int × Int) × Int) (w : World) (e : Ending) (w' : World) : Prop :=
  ∃ v, e = .returned (.tuple #[v, .int .i64 r.2]) ∧ OP w' w.heap.size v r.1 ∧ Below w.heap.size w w'
set_option maxHeartbeats 1000000 in
set_option maxRecDepth 100000 in
theorem rcheck_any (l : List UInt8) (w : World) (hl : l.length ≤ maxLen) : Calls Try.prog 24 #[.string ⟨l.toArray⟩] w (IntPost (chkS l) w) := by
  cases h : openS l with
  | false =>
    have HC : Hid (chkS l = 120) := by unfold Hid chkS; rw [h]; rfl
    have HP := hid (fun w => rparts_bad l w hl h)
    clear h
    go_enter Try.func24, Try.ntmps24
    go_wp2_with fail
    refine (HP.out _).mono ?_
    rintro e w1 ⟨rfl, hb1⟩
    have HB1 := hid hb1; clear hb1
    go_wp2_with fail
    go_ret
    exact ⟨by rw [HC.out] <;> rfl, HB1.out⟩
  | true =>
    have HC : Hid (chkS l = 0) := by unfold Hid chkS; rw [h]; rfl
    have HP := hid (fun w => rparts_lay l (layD l) w (area_D h))
    clear h
    go_enter Try.func24, Try.ntmps24
    go_wp2_with fail
    refine (HP.out _).mono ?_
    rintro e w1 ⟨v1, v2, rfl, hop, hos, hb1⟩
    have HB1 := hid hb1; clear hb1 hop hos
    go_wp2_with fail
    go_ret
    exact ⟨by rw [HC.out] <;> rfl, HB1.out⟩
theorem buildS_nil (n : Int) : buildS n [] [] = newS n := by
  unfold buildS newS
  by_cases h : n < 16 ∨ 8192 < n
  · rw [if_pos (by omega), if_pos h]
  · rw [if_neg (by simp; omega), if_neg h, if_neg (by decide)]
    obtain ⟨k, rfl⟩ := Int.eq_ofNat_of_zero_le (show 0 ≤ n by omega)
    show buildF k 0 (some []) = _
    simp only [buildF, List.length_nil, List.nil_append]
    rw [if_neg (by omega), show ((k : Int) - 8 - ((0 : Nat) : Int)).toNat = k - 8 by omega, Int.toNat_natCast]
    have : four 0 = zs 4 := rfl
    rw [this, ← zs_add, ← zs_add, show 4 + (4 + (k - 8)) = k by omega]
theorem rp_nil (w : World) : RP w (.slice none 0 0) [] := ⟨none, 0, rfl, .inl rfl⟩
theorem rs_nil (w : World) : RS w (.slice none 0 0) [] := ⟨none, 0, rfl, .inl rfl⟩
set_option maxHeartbeats 1000000 in
set_option maxRecDepth 100000 in
theorem rnew_any (n : Int) (w : World) : Calls Try.prog 46 #[.int .i64 n] w (StrPost (newS n) w) := by
  have hb := fun w => build_any n (.slice none 0 0) (.slice none 0 0) [] [] w (rp_nil w) (rs_nil w) (by decide) (by decide) (fun t ht => by cases ht)
  rw [buildS_nil] at hb
  have HB := hid hb; clear hb
  go_enter Try.func46, Try.ntmps46
  go_wp2_with fail
  refine (HB.out _).mono ?_
  rintro e w1 ⟨rfl, hb1⟩
  have HB1 := hid hb1; clear hb1
  go_wp2_with fail
  go_ret2
  exact ⟨rfl, HB1.out⟩
set_option maxHeartbeats 1000000 in
set_option maxRecDepth 100000 in
theorem rextent_any (l : List UInt8) (w : World) (hl : l.length ≤ maxLen) : Calls Try.prog 50 #[.string ⟨l.toArray⟩] w (TwoPost (extentS l) w) := by
  have HP := hid (fun w => rcheck_any l w hl)
  cases h : openS l with
  | false =>
    have HC : Hid (chkS l = 120) := by unfold Hid chkS; rw [h]; rfl
    have HX : Hid (extentS l = (0, 120)) := by unfold Hid extentS; rw [h]; rfl
    clear h
    go_enter Try.func50, Try.ntmps50
    go_wp2_with fail
    refine (HP.out _).mono ?_
    rintro e w1 ⟨rfl, hb1⟩
    have HB1 := hid hb1; clear hb1
    rw [HC.out]
    go_wp2_with fail
    go_ret2
    exact ⟨by rw [HX.out] <;> rfl, HB1.out⟩
  | true =>
    have HC : Hid (chkS l = 0) := by unfold Hid chkS; rw [h]; rfl
    have HX : Hid (extentS l = ((endOf 8 (layD l) : Int), 0)) := by unfold Hid extentS; rw [h]; rfl
    obtain ⟨h0, h1⟩ := area_num0 (area_D h)
    obtain ⟨hz1, hz2⟩ := area_size h
    have HN := hid (fun w => num_str l 0 w (by omega) (by omega) hz2)
    obtain ⟨x, hx⟩ : ∃ x, num l 0 = x := ⟨_, rfl⟩
    rw [show (0 : Int).toNat = 0 from rfl, hx] at HN
    rw [hx] at h0
    have HE : Hid (8 + x = ((endOf 8 (layD l) : Nat) : Int)) := by unfold Hid; omega
    have hx0 := (num_bd l 0)
    rw [hx] at hx0
    obtain ⟨hx0, hx1⟩ := hx0
    clear h h0 hx
    go_enter Try.func50, Try.ntmps50
    go_wp2_with fail
    refine (HP.out _).mono ?_
    rintro e w1 ⟨rfl, hb1⟩
    have HB1 := hid hb1; clear hb1
    rw [HC.out]
    go_wp2_with fail
    refine (HN.out _).mono ?_
    rintro e w2 ⟨rfl, hb2⟩
    have HB2 := hid hb2; clear hb2
    go_wp2_with fail
    go_ret2
    exact ⟨by rw [HX.out, ← HE.out]; rfl, below_step HB2.out HB1.out⟩
set_option maxHeartbeats 1000000 in
set_option maxRecDepth 100000 in
theorem rblocks_any (l : List UInt8) (w : World) (hl : l.length ≤ maxLen) : Calls Try.prog 47 #[.string ⟨l.toArray⟩] w (PiecesPost (blocksS l) w) := by
  cases h : openS l with
  | false =>
    have HX : Hid (blocksS l = ([], 120)) := by unfold Hid blocksS; rw [h]; rfl
    have HP := hid (fun w => rparts_bad l w hl h)
    clear h
    go_enter Try.func47, Try.ntmps47
    go_wp2_with fail
    refine (HP.out _).mono ?_
    rintro e w1 ⟨rfl, hb1⟩
    have HB1 := hid hb1; clear hb1
    go_wp2_with fail
    go_ret2
    rw [HX.out]
    exact ⟨_, rfl, World.ownsRow_nil _ _ _ _, HB1.out⟩
  | true =>
    have HX : Hid (blocksS l = (psOf (itsOf (layD l)), 0)) := by unfold Hid blocksS; rw [h]; rfl
    have HP := hid (fun w => rparts_lay l (layD l) w (area_D h))
    clear h
    go_enter Try.func47, Try.ntmps47
    go_wp2_with fail
    refine (HP.out _).mono ?_
    rintro e w1 ⟨v1, v2, rfl, hop, hos, hb1⟩
    have HB1 := hid hb1; have HOP := hid hop; clear hb1 hop hos
    go_wp2_with fail
    go_ret2
    rw [HX.out]
    exact ⟨_, rfl, HOP.out, HB1.out⟩
theorem lay_bytes {l : List UInt8} {lay : Lay} (hA : Area l lay) : ∀ t ∈ bsOf (itsOf lay), t.length ≤ 10000000 := fun t ht => by
  obtain ⟨x, hx, rfl⟩ := List.mem_map.1 ht
  have := tiny_bytes (tries_small hA) x hx
  show x.2.length ≤ _; omega
set_option maxHeartbeats 1000000 in
set_option maxRecDepth 100000 in
theorem rresize_any (l : List UInt8) (n : Int) (w : World) (hl : l.length ≤ maxLen) : Calls Try.prog 31 #[.string ⟨l.toArray⟩, .int .i64 n] w (StrPost (resizeS l n) w) := by
  cases h : openS l with
  | false =>
    have HX : Hid (resizeS l n = ([], 120)) := by unfold Hid resizeS; rw [h]; rfl
    have HP := hid (fun w => rparts_bad l w hl h)
    clear h
    go_enter Try.func31, Try.ntmps31
    go_wp2_with fail
    refine (HP.out _).mono ?_
    rintro e w1 ⟨rfl, hb1⟩
    have HB1 := hid hb1; clear hb1
    go_wp2_with fail
    go_ret2
    exact ⟨by rw [HX.out] <;> rfl, HB1.out⟩
  | true =>
    have hA := area_D h
    have HX : Hid (resizeS l n = resizeA (layD l) n) := by unfold Hid resizeS; rw [h]; rfl
    have HP := hid (fun w => rparts_lay l (layD l) w hA)
    have hlen : (itsOf (layD l)).length ≤ 8192 := by have := (area_num4 hA).2; simpa [itsOf] using this
    have hbd := lay_bytes hA
    have hB := fun (v1 v2 : Value) (w : World) (hR : RP w v1 (psOf (itsOf (layD l)))) (hT : RS w v2 (bsOf (itsOf (layD l)))) => build_any n v1 v2 _ _ w hR hT (by rw [psOf_length]; omega) (by rw [bsOf_length]; omega) hbd
    rw [build_resize _ n hA.2.2.1 (by have := hA.2.2.2.1; have := hA.2.1; omega)] at hB
    have HB := hid hB
    clear h hA hB hbd hlen
    go_enter Try.func31, Try.ntmps31
    go_wp2_with fail
    refine (HP.out _).mono ?_
    rintro e w1 ⟨v1, v2, rfl, hop, hos, hb1⟩
    have HB1 := hid hb1; have HOP := hid hop; have HOS := hid hos; clear hb1 hop hos
    go_wp2_with fail
    refine (HB.out _ _ _ HOP.out.rp HOS.out.rs).mono ?_
    rintro e w2 ⟨rfl, hb2⟩
    have HB2 := hid hb2; clear hb2
    go_wp2_with fail
    go_ret2
    exact ⟨by rw [HX.out] <;> rfl, below_step HB2.out HB1.out⟩
set_option maxHeartbeats 1000000 in
set_option maxRecDepth 100000 in
theorem rassign_any (tt fr : List UInt8) (w : World) (ht : tt.length ≤ maxLen) (hf : fr.length ≤ maxLen) : Calls Try.prog 29 #[.string ⟨tt.toArray⟩, .string ⟨fr.toArray⟩] w (StrPost (assignS tt fr) w) := by
  have HP1 := hid (fun w => rcheck_any tt w ht)
  have HP2 := hid (fun w => rcheck_any fr w hf)
  have HR := hid (fun w => rresize_any fr tt.length w hf)
  have hT := ht
  unfold maxLen at ht hf
  cases h1 : openS tt with
  | false =>
    have HC : Hid (chkS tt = 120) := by unfold Hid chkS; rw [h1]; rfl
    have HX : Hid (assignS tt fr = ([], 120)) := by unfold Hid assignS; rw [h1]; rfl
    clear h1
    go_enter Try.func29, Try.ntmps29
    go_wp2_with fail
    refine (HP1.out _).mono ?_
    rintro e w1 ⟨rfl, hb1⟩
    have HB1 := hid hb1; clear hb1
    rw [HC.out]
    go_wp2_with fail
    go_ret2
    exact ⟨by rw [HX.out] <;> rfl, HB1.out⟩
  | true =>
    have HC : Hid (chkS tt = 0) := by unfold Hid chkS; rw [h1]; rfl
    cases h2 : openS fr with
    | false =>
      have HC2 : Hid (chkS fr = 120) := by unfold Hid chkS; rw [h2]; rfl
      have HX : Hid (assignS tt fr = ([], 120)) := by unfold Hid assignS; rw [h1, h2]; rfl
      clear h1 h2
      go_enter Try.func29, Try.ntmps29
      go_wp2_with fail
      refine (HP1.out _).mono ?_
      rintro e w1 ⟨rfl, hb1⟩
      have HB1 := hid hb1; clear hb1
      rw [HC.out]
      go_wp2_with fail
      refine (HP2.out _).mono ?_
      rintro e w2 ⟨rfl, hb2⟩
      have HB2 := hid hb2; clear hb2
      rw [HC2.out]
      go_wp2_with fail
      go_ret2
      exact ⟨by rw [HX.out] <;> rfl, below_step HB2.out HB1.out⟩
    | true =>
      have HC2 : Hid (chkS fr = 0) := by unfold Hid chkS; rw [h2]; rfl
      have HX : Hid (assignS tt fr = resizeS fr tt.length) := by unfold Hid assignS resizeS; rw [h1, h2]; rfl
      clear h1 h2
      go_enter Try.func29, Try.ntmps29
      go_wp2_with fail
      refine (HP1.out _).mono ?_
      rintro e w1 ⟨rfl, hb1⟩
      have HB1 := hid hb1; clear hb1
      rw [HC.out]
      go_wp2_with fail
      refine (HP2.out _).mono ?_
      rintro e w2 ⟨rfl, hb2⟩
      have HB2 := hid hb2; clear hb2
      rw [HC2.out]
      go_wp2_with fail
      refine (HR.out _).mono ?_
      rintro e w3 ⟨rfl, hb3⟩
      have HB3 := hid hb3; clear hb3
      go_wp2_with fail
      go_ret2
      exact ⟨by rw [HX.out] <;> rfl, below_step HB3.out (below_step HB2.out HB1.out)⟩
end Go.Proofs.Ytcfmimfkaabmkaa
