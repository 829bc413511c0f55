/- The walks of (heap).fit, area.Extent, area.Resize, area.Assign. -/
import Derived.Test.YtcfmimfkaabmkaaH1
set_option linter.unusedVariables false
set_option linter.unusedSimpArgs false
namespace Go.Proofs.Ytcfmimfkaabmkaa
open Go.RowKit
attribute [local go_sem] Oper.semAt_some
attribute [local irreducible] num
theorem open_l (l : List UInt8) (w : World) (hl : l.length ≤ maxLen) : Calls Try.prog 58 #[.string ⟨l.toArray⟩] w (OpenPost l w) := open_any ⟨l.toArray⟩ w hl
theorem check_l (l : List UInt8) (w : World) (hl : l.length ≤ maxLen) : Calls Try.prog 25 #[.string ⟨l.toArray⟩] w (IntPost (chkS l) w) := check_any ⟨l.toArray⟩ w hl
theorem part_take {w : World} {b : Nat} {l : List UInt8} (h : Bytes w b l) (n : Nat) (hn : n ≤ l.length) : Part w (some ⟨b, 0, none⟩) (l.take n) := by
  refine .inr ⟨_, rfl, fun j v hj => ?_⟩
  have hjl : j < n := by
    have := (List.getElem?_eq_some_iff.1 hj).1
    rw [cellsB_length, List.length_take] at this; omega
  rw [addr_add, Nat.zero_add, h.cell (by omega)]
  rw [← cellsB_take, List.getElem?_take_of_lt hjl] at hj
  rw [← hj]
  simp [cellsB, byt, List.getElem?_eq_getElem (show j < l.length by omega)]
theorem over_zs (n : Nat) (m : List UInt8) (h : m.length ≤ n) : over (zs n) 0 m = m ++ zs (n - m.length) := by
  unfold over zs
  rw [List.take_zero, List.nil_append, Nat.zero_add, List.drop_replicate]
set_option maxHeartbeats 1000000 in
set_option maxRecDepth 100000 in
theorem fit_any (b : Nat) (l : List UInt8) (lay : Lay) (n : Int) (w : World) (hA : Area l lay) (hB : Bytes w b l) (hn0 : 16 ≤ n) (hn1 : n ≤ 8192) :
    Calls Try.prog 72 #[.slice (some ⟨b, 0, none⟩) l.length l.length, .int .i64 n] w (StrPost (resizeA lay n) w) := by
  obtain ⟨h0, h8⟩ := area_num0 hA
  have hend := hA.2.2.2.1
  have hl1 := hA.1
  have hl2 := hA.2.1
  obtain ⟨k, rfl⟩ := Int.eq_ofNat_of_zero_le (show 0 ≤ n by omega)
  have HN := fun (W : World) (h : Bytes W b l) => hend_any b l.length l.length l W h rfl (by omega) (Nat.le_refl _) (by omega)
  have HTR := take_render hA k
  obtain ⟨en, hen⟩ : ∃ en, endOf 8 lay = en := ⟨_, rfl⟩
  rw [hen] at h0 h8 hend HTR
  rw [h0, show (8 : Int) + ((en - 8 : Nat) : Int) = (en : Int) by omega] at HN
  have HN := hid HN
  have HB := hid hB
  by_cases hfit : (k : Int) < en
  · have g1 : decide ((k : Int) < en) = true := by simpa using hfit
    have HX : Hid (resizeA lay k = ([], 121)) := by unfold Hid resizeA; rw [if_neg (by omega), hen, if_neg (by omega)]
    clear h0 hen hA hB HTR
    go_enter Try.func72, Try.ntmps72
    go_wp2_with fail
    refine (HN.out _ HB.out).mono ?_
    rintro e w1 ⟨rfl, rfl⟩
    go_wp2_with fail
    go_ret2
    exact ⟨by rw [HX.out]; rfl, Below.refl _ _⟩
  · have hfit' : en ≤ k := by omega
    have g1 : decide ((k : Int) < en) = false := by simp; omega
    have g2 : decide (k < en) = false := by simp; omega
    have HX : Hid (resizeA lay k = (render k lay, 0)) := by unfold Hid resizeA; rw [if_neg (by omega), hen, if_pos (by omega), Int.toNat_natCast]
    have HTR := hid (HTR hfit')
    have hmk := run_make79 w k (by omega)
    have hB0 : Bytes (w.alloc (.cells (cellsB (List.replicate k 0)).toArray 5)) w.heap.size (zs k) := bytes_new w (zs k)
    have hBw : Bytes (w.alloc (.cells (cellsB (List.replicate k 0)).toArray 5)) b l := hB.grow1 _
    generalize (cellsB (List.replicate k 0)).toArray = Z at *
    have hml : (l.take en).length = en := by rw [List.length_take]; omega
    obtain ⟨w2, hcp, hB2, hg2⟩ := run_copy_sl 79 79 under79 (w.alloc (.cells Z 5)) w.heap.size 0 k k en l.length (some ⟨b, 0, none⟩) (zs k) (l.take en) hB0 (by rw [hml]; exact (Nat.min_eq_left hfit').symm) (by rw [hml, zs_length]; omega)
      (part_take hBw en hend) (some ⟨w.heap.size, 0, none⟩) (fun _ => rfl) (fun _ => .inr ⟨_, rfl⟩)
    have HBW := hid hBw
    rw [over_zs k _ (by rw [hml]; exact hfit'), hml, HTR.out] at hB2
    have hrl : (render k lay).length = k := by rw [← HTR.out, List.length_append, hml, zs_length]; omega
    have hst := run_str79 w2 w.heap.size k (render k lay) hB2
    rw [hrl] at hst
    have HB2 : Hid (Below w.heap.size w w2) := below_grown ((Below.refl w.heap.size w).alloc (Nat.le_refl _) _) hg2 (Nat.le_refl _)
    rw [hml] at hcp
    clear h0 hen hA hB hB2 hg2 hml hrl hB0 hBw HTR
    go_enter Try.func72, Try.ntmps72
    go_wp2_with fail
    refine (HN.out _ HB.out).mono ?_
    rintro e w1 ⟨rfl, rfl⟩
    go_wp2_with fail
    refine (HN.out _ HBW.out).mono ?_
    rintro e w1 ⟨rfl, rfl⟩
    go_wp2_with fail
    go_ret2
    exact ⟨by rw [HX.out] <;> rfl, HB2.out⟩
set_option maxHeartbeats 1000000 in
set_option maxRecDepth 100000 in
theorem extent_any (l : List UInt8) (w : World) (hl : l.length ≤ maxLen) : Calls Try.prog 39 #[.string ⟨l.toArray⟩] w (TwoPost (extentS l) w) := by
  have HO := hid (fun w => open_l l w hl)
  cases h : openS l with
  | false =>
    have HX : Hid (extentS l = (0, 120)) := by unfold Hid extentS; rw [h]; rfl
    have HH := hid h; clear h
    go_enter Try.func39, Try.ntmps39
    go_wp2_with fail
    refine (HO.out _).mono ?_
    rintro e w1 ⟨hb1, hx⟩
    rw [HH.out, if_neg (by simp)] at hx
    obtain ⟨o, k, c, rfl⟩ := hx
    have HB1 := hid hb1; clear hb1
    go_wp2_with fail
    go_ret2
    exact ⟨by rw [HX.out] <;> rfl, HB1.out⟩
  | true =>
    have HX : Hid (extentS l = ((endOf 8 (layD l) : Int), 0)) := by unfold Hid extentS; rw [h]; rfl
    obtain ⟨h0, h1⟩ := area_num0 (area_D h)
    obtain ⟨hz1, hz2⟩ := area_size h
    have HN := fun (W : World) (B : Nat) (hB : Bytes W B l) => hend_any B l.length l.length l W hB rfl (by omega) (Nat.le_refl _) (by omega)
    rw [h0, show (8 : Int) + ((endOf 8 (layD l) - 8 : Nat) : Int) = ((endOf 8 (layD l) : Nat) : Int) by omega] at HN
    have HN := hid HN
    have HH := hid h; clear h h0
    go_enter Try.func39, Try.ntmps39
    go_wp2_with fail
    refine (HO.out _).mono ?_
    rintro e w1 ⟨hb1, hx⟩
    rw [HH.out, if_pos rfl] at hx
    obtain ⟨B, rfl, hB, hBl⟩ := hx
    have HB1 := hid hb1; have HB := hid hB; clear hb1 hB hBl
    go_wp2_with fail
    refine (HN.out _ _ HB.out).mono ?_
    rintro e w2 ⟨rfl, rfl⟩
    go_wp2_with fail
    go_ret2
    exact ⟨by rw [HX.out] <;> rfl, HB1.out⟩
set_option maxHeartbeats 1000000 in
set_option maxRecDepth 100000 in
theorem resize_any (l : List UInt8) (n : Int) (w : World) (hl : l.length ≤ maxLen) : Calls Try.prog 30 #[.string ⟨l.toArray⟩, .int .i64 n] w (StrPost (resizeS l n) w) := by
  have HO := hid (fun w => open_l l w hl)
  cases h : openS l with
  | false =>
    have HX : Hid (resizeS l n = ([], 120)) := by unfold Hid resizeS; rw [h]; rfl
    have HH := hid h; clear h
    go_enter Try.func30, Try.ntmps30
    go_wp2_with fail
    refine (HO.out _).mono ?_
    rintro e w1 ⟨hb1, hx⟩
    rw [HH.out, if_neg (by simp)] at hx
    obtain ⟨o, k, c, rfl⟩ := hx
    have HB1 := hid hb1; clear hb1
    go_wp2_with fail
    go_ret2
    exact ⟨by rw [HX.out] <;> rfl, HB1.out⟩
  | true =>
    have hA := area_D h
    by_cases hn : n < 16 ∨ 8192 < n
    · have HX : Hid (resizeS l n = ([], 1)) := by unfold Hid resizeS resizeA; rw [h, if_pos rfl, if_pos hn]
      have HH := hid h; clear h hA
      rcases hn with hn | hn
      all_goals
        first | (have hd1 : decide (n < 16) = true := by simpa using hn) | (have hd1 : decide (n < 16) = false := by simp; omega)
        try have hd2 : decide (8192 < n) = true := by simpa using hn
        clear hn
        go_enter Try.func30, Try.ntmps30
        go_wp2_with fail
        refine (HO.out _).mono ?_
        rintro e w1 ⟨hb1, hx⟩
        rw [HH.out, if_pos rfl] at hx
        obtain ⟨B, rfl, hB, hBl⟩ := hx
        have HB1 := hid hb1; clear hb1 hB hBl
        go_wp2_with fail
        go_ret2
        exact ⟨by rw [HX.out] <;> rfl, HB1.out⟩
    · have HX : Hid (resizeS l n = resizeA (layD l) n) := by unfold Hid resizeS; rw [h, if_pos rfl]
      have HF := hid (fun (W : World) (B : Nat) (hB : Bytes W B l) => fit_any B l (layD l) n W hA hB (by omega) (by omega))
      have hd1 : decide (n < 16) = false := by simp; omega
      have hd2 : decide (8192 < n) = false := by simp; omega
      have HH := hid h; clear h hA hn
      go_enter Try.func30, Try.ntmps30
      go_wp2_with fail
      refine (HO.out _).mono ?_
      rintro e w1 ⟨hb1, hx⟩
      rw [HH.out, if_pos rfl] at hx
      obtain ⟨B, rfl, hB, hBl⟩ := hx
      have HB1 := hid hb1; have HB := hid hB; clear hb1 hB hBl
      go_wp2_with fail
      refine (HF.out _ _ HB.out).mono ?_
      rintro e w2 ⟨rfl, hb2⟩
      have HB2 := hid hb2; clear hb2
      go_wp2_with fail
      go_ret2
      exact ⟨by rw [HX.out] <;> rfl, below_step HB2.out HB1.out⟩
set_option maxHeartbeats 1000000 in
set_option maxRecDepth 100000 in
theorem assign_any (tt fr : List UInt8) (w : World) (ht : tt.length ≤ maxLen) (hf : fr.length ≤ maxLen) : Calls Try.prog 28 #[.string ⟨tt.toArray⟩, .string ⟨fr.toArray⟩] w (StrPost (assignS tt fr) w) := by
  have HP := hid (fun w => check_l tt w ht)
  have HO := hid (fun w => open_l fr w hf)
  unfold maxLen at ht hf
  cases h1 : openS tt with
  | false =>
    have HC : Hid (chkS tt = 120) := by unfold Hid chkS; rw [h1]; rfl
    have HX : Hid (assignS tt fr = ([], 120)) := by unfold Hid assignS; rw [h1]; exact if_neg (by simp)
    clear h1
    go_enter Try.func28, Try.ntmps28
    go_wp2_with fail
    refine (HP.out _).mono ?_
    rintro e w1 ⟨rfl, hb1⟩
    have HB1 := hid hb1; clear hb1
    rw [HC.out]
    go_wp2_with fail
    go_ret2
    exact ⟨by rw [HX.out] <;> rfl, HB1.out⟩
  | true =>
    have HC : Hid (chkS tt = 0) := by unfold Hid chkS; rw [h1]; rfl
    cases h : openS fr with
    | false =>
      have HX : Hid (assignS tt fr = ([], 120)) := by unfold Hid assignS; rw [h1, h]; exact if_neg (by simp)
      have HH := hid h; clear h h1
      go_enter Try.func28, Try.ntmps28
      go_wp2_with fail
      refine (HP.out _).mono ?_
      rintro e w1 ⟨rfl, hb1⟩
      have HB1 := hid hb1; clear hb1
      rw [HC.out]
      go_wp2_with fail
      refine (HO.out _).mono ?_
      rintro e w2 ⟨hb2, hx⟩
      rw [HH.out, if_neg (by simp)] at hx
      obtain ⟨o, k, c, rfl⟩ := hx
      have HB2 := hid hb2; clear hb2
      go_wp2_with fail
      go_ret2
      exact ⟨by rw [HX.out] <;> rfl, below_step HB2.out HB1.out⟩
    | true =>
      have HX : Hid (assignS tt fr = resizeA (layD fr) tt.length) := by unfold Hid assignS; rw [h1, h]; exact if_pos rfl
      have hA := area_D h
      obtain ⟨hz1, hz2⟩ := area_size h1
      have HF := hid (fun (W : World) (B : Nat) (hB : Bytes W B fr) => fit_any B fr (layD fr) tt.length W hA hB (by omega) (by omega))
      have HH := hid h; clear h h1 hA
      go_enter Try.func28, Try.ntmps28
      go_wp2_with fail
      refine (HP.out _).mono ?_
      rintro e w1 ⟨rfl, hb1⟩
      have HB1 := hid hb1; clear hb1
      rw [HC.out]
      go_wp2_with fail
      refine (HO.out _).mono ?_
      rintro e w2 ⟨hb2, hx⟩
      rw [HH.out, if_pos rfl] at hx
      obtain ⟨B, rfl, hB, hBl⟩ := hx
      have HB2 := hid hb2; have HB := hid hB; clear hb2 hB hBl
      go_wp2_with fail
      refine (HF.out _ _ HB.out).mono ?_
      rintro e w3 ⟨rfl, hb3⟩
      have HB3 := hid hb3; clear hb3
      go_wp2_with fail
      go_ret2
      exact ⟨by rw [HX.out] <;> rfl, below_step HB3.out (below_step HB2.out HB1.out)⟩
end Go.Proofs.Ytcfmimfkaabmkaa
