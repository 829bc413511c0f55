/- What the functions of both packages answer, by the layout of the bytes. -/
import Derived.Test.YtcfmimfkaabmkaaXG
set_option linter.unusedVariables false
set_option linter.unusedSimpArgs false
namespace Go.Proofs.Ytcfmimfkaabmkaa
open Go.RowKit
attribute [local irreducible] num
/-- The layout that the bytes have, if they are an area. -/
def layD (l : List UInt8) : Lay := layOf (walkS l (8 + num l 0) (l.length + 8193) 8)
theorem layD_area {l : List UInt8} {lay : Lay} (h : Area l lay) : layD l = lay := by
  unfold layD; rw [walkS_area h _ (by omega)]; exact layOf_itsOf lay
theorem area_D {l : List UInt8} (h : openS l = true) : Area l (layD l) := by
  obtain ⟨lay, hA⟩ := (openS_iff l).1 h
  rw [layD_area hA]; exact hA
theorem area_size {l : List UInt8} (h : openS l = true) : 16 ≤ l.length ∧ l.length ≤ 8192 := ⟨(area_D h).1, (area_D h).2.1⟩
theorem area_num0 {l : List UInt8} {lay : Lay} (h : Area l lay) : num l 0 = ((endOf 8 lay - 8 : Nat) : Int) ∧ 8 ≤ endOf 8 lay := by
  have h1 := (area_units h).2
  have h2 := endOf_ge h.2.2.1
  constructor <;> omega
def chkS (l : List UInt8) : Int := if openS l then 0 else 120
def resizeA (lay : Lay) (n : Int) : List UInt8 × Int := if n < 16 ∨ 8192 < n then ([], 1) else if (endOf 8 lay : Int) ≤ n then (render n.toNat lay, 0) else ([], 121)
def resizeS (l : List UInt8) (n : Int) : List UInt8 × Int := if openS l then resizeA (layD l) n else ([], 120)
def assignS (tt fr : List UInt8) : List UInt8 × Int := if openS tt && openS fr then resizeA (layD fr) tt.length else ([], 120)
def extentS (l : List UInt8) : Int × Int := if openS l then ((endOf 8 (layD l) : Int), 0) else (0, 120)
def blocksS (l : List UInt8) : List (Int × Int) × Int := if openS l then (psOf (itsOf (layD l)), 0) else ([], 120)
theorem build_resize (lay : Lay) (n : Int) (hok : ok true 8 lay) (he : endOf 8 lay ≤ 8192) : buildS n (psOf (itsOf lay)) (bsOf (itsOf lay)) = resizeA lay n := by
  unfold resizeA
  by_cases h : n < 16 ∨ 8192 < n
  · rw [if_pos h]; unfold buildS; rw [if_pos (h.elim .inl (fun h => .inr (.inl h)))]
  · obtain ⟨k, rfl⟩ := Int.eq_ofNat_of_zero_le (show 0 ≤ n by omega)
    rw [if_neg h, buildS_lay k (by omega) (by omega) lay hok he, Int.toNat_natCast]
    by_cases hk : endOf 8 lay ≤ k
    · rw [if_pos hk, if_pos (by omega)]
    · rw [if_neg hk, if_neg (by omega)]
/-- The bytes in use, and zeros behind: the area of another length. -/
theorem take_render {l : List UInt8} {lay : Lay} (h : Area l lay) (n : Nat) (hn : endOf 8 lay ≤ n) : l.take (endOf 8 lay) ++ zs (n - endOf 8 lay) = render n lay := by
  obtain ⟨h16, h81, hok, hend, ha⟩ := h
  have hge := endOf_ge hok
  have hl := enc_length (e := 8) rfl hok
  have e1 : l = (four (endOf 8 lay - 8) ++ (four lay.length ++ enc 8 lay)) ++ zs (l.length - endOf 8 lay) := by
    conv => lhs; rw [ha]
    unfold render; simp only [List.append_assoc]
  have e2 : (four (endOf 8 lay - 8) ++ (four lay.length ++ enc 8 lay)).length = endOf 8 lay := by
    simp only [List.length_append, four_length, hl]; omega
  rw [e1, List.take_append_of_le_length (by omega), List.take_of_length_le (by omega)]
  unfold render; simp only [List.append_assoc]
end Go.Proofs.Ytcfmimfkaabmkaa
/- The walks of R.Check, R.New, R.Extent, R.Blocks, R.Resize, R.Assign. -/
set_option linter.unusedVariables false
set_option linter.unusedSimpArgs false
namespace Go.Proofs.Ytcfmimfkaabmkaa
open Go.RowKit
attribute [local go_sem] Oper.semAt_some
attribute [local irreducible] num
def IntPost (c : Int) (w : World) (e : Ending) (w' : World) : Prop := e = .returned (.int .i64 c) ∧ Below w.heap.size w w'
def TwoPost (r : Int × Int) (w : World) (e : Ending) (w' : World) : Prop := e = .returned (.tuple #[.int .i64 r.1, .int .i64 r.2]) ∧ Below w.heap.size w w'
def PiecesPost (r : List (Int × Int) × Int) (w : World) (e : Ending) (w' : World) : Prop :=
  ∃ v, e = .returned (.tuple #[v, .int .i64 r.2]) ∧ OP w' w.heap.size v r.1 ∧ Below w.heap.size w w'
set_option maxHeartbeats 1000000 in
set_option maxRecDepth 100000 in
theorem rcheck_any (l : List UInt8) (w : World) (hl : l.length ≤ maxLen) : Calls Try.prog 24 #[.string ⟨l.toArray⟩] w (IntPost (chkS l) w) := by
  cases h : openS l with
  | false =>
    have HC : Hid (chkS l = 120) := by unfold Hid chkS; rw [h]; rfl
    have HP := hid (fun w => rparts_bad l w hl h)
    clear h
    go_enter Try.func24, Try.ntmps24
    go_wp2_with fail
    refine (HP.out _).mono ?_
    rintro e w1 ⟨rfl, hb1⟩
    have HB1 := hid hb1; clear hb1
    go_wp2_with fail
    go_ret
    exact ⟨by rw [HC.out] <;> rfl, HB1.out⟩
  | true =>
    have HC : Hid (chkS l = 0) := by unfold Hid chkS; rw [h]; rfl
    have HP := hid (fun w => rparts_lay l (layD l) w (area_D h))
    clear h
    go_enter Try.func24, Try.ntmps24
    go_wp2_with fail
    refine (HP.out _).mono ?_
    rintro e w1 ⟨v1, v2, rfl, hop, hos, hb1⟩
    have HB1 := hid hb1; clear hb1 hop hos
    go_wp2_with fail
    go_ret
    exact ⟨by rw [HC.out] <;> rfl, HB1.out⟩
theorem buildS_nil (n : Int) : buildS n [] [] = newS n := by
  unfold buildS newS
  by_cases h : n < 16 ∨ 8192 < n
  · rw [if_pos (by omega), if_pos h]
  · rw [if_neg (by simp; omega), if_neg h, if_neg (by decide)]
    obtain ⟨k, rfl⟩ := Int.eq_ofNat_of_zero_le (show 0 ≤ n by omega)
    show buildF k 0 (some []) = _
    simp only [buildF, List.length_nil, List.nil_append]
    rw [if_neg (by omega), show ((k : Int) - 8 - ((0 : Nat) : Int)).toNat = k - 8 by omega, Int.toNat_natCast]
    have : four 0 = zs 4 := rfl
    rw [this, ← zs_add, ← zs_add, show 4 + (4 + (k - 8)) = k by omega]
theorem rp_nil (w : World) : RP w (.slice none 0 0) [] := ⟨none, 0, rfl, .inl rfl⟩
theorem rs_nil (w : World) : RS w (.slice none 0 0) [] := ⟨none, 0, rfl, .inl rfl⟩
set_option maxHeartbeats 1000000 in
set_option maxRecDepth 100000 in
theorem rnew_any (n : Int) (w : World) : Calls Try.prog 46 #[.int .i64 n] w (StrPost (newS n) w) := by
  have hb := fun w => build_any n (.slice none 0 0) (.slice none 0 0) [] [] w (rp_nil w) (rs_nil w) (by decide) (by decide) (fun t ht => by cases ht)
  rw [buildS_nil] at hb
  have HB := hid hb; clear hb
  go_enter Try.func46, Try.ntmps46
  go_wp2_with fail
  refine (HB.out _).mono ?_
  rintro e w1 ⟨rfl, hb1⟩
  have HB1 := hid hb1; clear hb1
  go_wp2_with fail
  go_ret2
  exact ⟨rfl, HB1.out⟩
set_option maxHeartbeats 1000000 in
set_option maxRecDepth 100000 in
theorem rextent_any (l : List UInt8) (w : World) (hl : l.length ≤ maxLen) : Calls Try.prog 50 #[.string ⟨l.toArray⟩] w (TwoPost (extentS l) w) := by
  have HP := hid (fun w => rcheck_any l w hl)
  cases h : openS l with
  | false =>
    have HC : Hid (chkS l = 120) := by unfold Hid chkS; rw [h]; rfl
    have HX : Hid (extentS l = (0, 120)) := by unfold Hid extentS; rw [h]; rfl
    clear h
    go_enter Try.func50, Try.ntmps50
    go_wp2_with fail
    refine (HP.out _).mono ?_
    rintro e w1 ⟨rfl, hb1⟩
    have HB1 := hid hb1; clear hb1
    rw [HC.out]
    go_wp2_with fail
    go_ret2
    exact ⟨by rw [HX.out] <;> rfl, HB1.out⟩
  | true =>
    have HC : Hid (chkS l = 0) := by unfold Hid chkS; rw [h]; rfl
    have HX : Hid (extentS l = ((endOf 8 (layD l) : Int), 0)) := by unfold Hid extentS; rw [h]; rfl
    obtain ⟨h0, h1⟩ := area_num0 (area_D h)
    obtain ⟨hz1, hz2⟩ := area_size h
    have HN := hid (fun w => num_str l 0 w (by omega) (by omega) hz2)
    obtain ⟨x, hx⟩ : ∃ x, num l 0 = x := ⟨_, rfl⟩
    rw [show (0 : Int).toNat = 0 from rfl, hx] at HN
    rw [hx] at h0
    have HE : Hid (8 + x = ((endOf 8 (layD l) : Nat) : Int)) := by unfold Hid; omega
    have hx0 := (num_bd l 0)
    rw [hx] at hx0
    obtain ⟨hx0, hx1⟩ := hx0
    clear h h0 hx
    go_enter Try.func50, Try.ntmps50
    go_wp2_with fail
    refine (HP.out _).mono ?_
    rintro e w1 ⟨rfl, hb1⟩
    have HB1 := hid hb1; clear hb1
    rw [HC.out]
    go_wp2_with fail
    refine (HN.out _).mono ?_
    rintro e w2 ⟨rfl, hb2⟩
    have HB2 := hid hb2; clear hb2
    go_wp2_with fail
    go_ret2
    exact ⟨by rw [HX.out, ← HE.out]; rfl, below_step HB2.out HB1.out⟩
set_option maxHeartbeats 1000000 in
set_option maxRecDepth 100000 in
theorem rblocks_any (l : List UInt8) (w : World) (hl : l.length ≤ maxLen) : Calls Try.prog 47 #[.string ⟨l.toArray⟩] w (PiecesPost (blocksS l) w) := by
  cases h : openS l with
  | false =>
    have HX : Hid (blocksS l = ([], 120)) := by unfold Hid blocksS; rw [h]; rfl
    have HP := hid (fun w => rparts_bad l w hl h)
    clear h
    go_enter Try.func47, Try.ntmps47
    go_wp2_with fail
    refine (HP.out _).mono ?_
    rintro e w1 ⟨rfl, hb1⟩
    have HB1 := hid hb1; clear hb1
    go_wp2_with fail
    go_ret2
    rw [HX.out]
    exact ⟨_, rfl, World.ownsRow_nil _ _ _ _, HB1.out⟩
  | true =>
    have HX : Hid (blocksS l = (psOf (itsOf (layD l)), 0)) := by unfold Hid blocksS; rw [h]; rfl
    have HP := hid (fun w => rparts_lay l (layD l) w (area_D h))
    clear h
    go_enter Try.func47, Try.ntmps47
    go_wp2_with fail
    refine (HP.out _).mono ?_
    rintro e w1 ⟨v1, v2, rfl, hop, hos, hb1⟩
    have HB1 := hid hb1; have HOP := hid hop; clear hb1 hop hos
    go_wp2_with fail
    go_ret2
    rw [HX.out]
    exact ⟨_, rfl, HOP.out, HB1.out⟩
theorem lay_bytes {l : List UInt8} {lay : Lay} (hA : Area l lay) : ∀ t ∈ bsOf (itsOf lay), t.length ≤ 10000000 := fun t ht => by
  obtain ⟨x, hx, rfl⟩ := List.mem_map.1 ht
  have := tiny_bytes (tries_small hA) x hx
  show x.2.length ≤ _; omega
set_option maxHeartbeats 1000000 in
set_option maxRecDepth 100000 in
theorem rresize_any (l : List UInt8) (n : Int) (w : World) (hl : l.length ≤ maxLen) : Calls Try.prog 31 #[.string ⟨l.toArray⟩, .int .i64 n] w (StrPost (resizeS l n) w) := by
  cases h : openS l with
  | false =>
    have HX : Hid (resizeS l n = ([], 120)) := by unfold Hid resizeS; rw [h]; rfl
    have HP := hid (fun w => rparts_bad l w hl h)
    clear h
    go_enter Try.func31, Try.ntmps31
    go_wp2_with fail
    refine (HP.out _).mono ?_
    rintro e w1 ⟨rfl, hb1⟩
    have HB1 := hid hb1; clear hb1
    go_wp2_with fail
    go_ret2
    exact ⟨by rw [HX.out] <;> rfl, HB1.out⟩
  | true =>
    have hA := area_D h
    have HX : Hid (resizeS l n = resizeA (layD l) n) := by unfold Hid resizeS; rw [h]; rfl
    have HP := hid (fun w => rparts_lay l (layD l) w hA)
    have hlen : (itsOf (layD l)).length ≤ 8192 := by have := (area_num4 hA).2; simpa [itsOf] using this
    have hbd := lay_bytes hA
    have hB := fun (v1 v2 : Value) (w : World) (hR : RP w v1 (psOf (itsOf (layD l)))) (hT : RS w v2 (bsOf (itsOf (layD l)))) => build_any n v1 v2 _ _ w hR hT (by rw [psOf_length]; omega) (by rw [bsOf_length]; omega) hbd
    rw [build_resize _ n hA.2.2.1 (by have := hA.2.2.2.1; have := hA.2.1; omega)] at hB
    have HB := hid hB
    clear h hA hB hbd hlen
    go_enter Try.func31, Try.ntmps31
    go_wp2_with fail
    refine (HP.out _).mono ?_
    rintro e w1 ⟨v1, v2, rfl, hop, hos, hb1⟩
    have HB1 := hid hb1; have HOP := hid hop; have HOS := hid hos; clear hb1 hop hos
    go_wp2_with fail
    refine (HB.out _ _ _ HOP.out.rp HOS.out.rs).mono ?_
    rintro e w2 ⟨rfl, hb2⟩
    have HB2 := hid hb2; clear hb2
    go_wp2_with fail
    go_ret2
    exact ⟨by rw [HX.out] <;> rfl, below_step HB2.out HB1.out⟩
set_option maxHeartbeats 1000000 in
set_option maxRecDepth 100000 in
theorem rassign_any (tt fr : List UInt8) (w : World) (ht : tt.length ≤ maxLen) (hf : fr.length ≤ maxLen) : Calls Try.prog 29 #[.string ⟨tt.toArray⟩, .string ⟨fr.toArray⟩] w (StrPost (assignS tt fr) w) := by
  have HP1 := hid (fun w => rcheck_any tt w ht)
  have HP2 := hid (fun w => rcheck_any fr w hf)
  have HR := hid (fun w => rresize_any fr tt.length w hf)
  have hT := ht
  unfold maxLen at ht hf
  cases h1 : openS tt with
  | false =>
    have HC : Hid (chkS tt = 120) := by unfold Hid chkS; rw [h1]; rfl
    have HX : Hid (assignS tt fr = ([], 120)) := by unfold Hid assignS; rw [h1]; rfl
    clear h1
    go_enter Try.func29, Try.ntmps29
    go_wp2_with fail
    refine (HP1.out _).mono ?_
    rintro e w1 ⟨rfl, hb1⟩
    have HB1 := hid hb1; clear hb1
    rw [HC.out]
    go_wp2_with fail
    go_ret2
    exact ⟨by rw [HX.out] <;> rfl, HB1.out⟩
  | true =>
    have HC : Hid (chkS tt = 0) := by unfold Hid chkS; rw [h1]; rfl
    cases h2 : openS fr with
    | false =>
      have HC2 : Hid (chkS fr = 120) := by unfold Hid chkS; rw [h2]; rfl
      have HX : Hid (assignS tt fr = ([], 120)) := by unfold Hid assignS; rw [h1, h2]; rfl
      clear h1 h2
      go_enter Try.func29, Try.ntmps29
      go_wp2_with fail
      refine (HP1.out _).mono ?_
      rintro e w1 ⟨rfl, hb1⟩
      have HB1 := hid hb1; clear hb1
      rw [HC.out]
      go_wp2_with fail
      refine (HP2.out _).mono ?_
      rintro e w2 ⟨rfl, hb2⟩
      have HB2 := hid hb2; clear hb2
      rw [HC2.out]
      go_wp2_with fail
      go_ret2
      exact ⟨by rw [HX.out] <;> rfl, below_step HB2.out HB1.out⟩
    | true =>
      have HC2 : Hid (chkS fr = 0) := by unfold Hid chkS; rw [h2]; rfl
      have HX : Hid (assignS tt fr = resizeS fr tt.length) := by unfold Hid assignS resizeS; rw [h1, h2]; rfl
      clear h1 h2
      go_enter Try.func29, Try.ntmps29
      go_wp2_with fail
      refine (HP1.out _).mono ?_
      rintro e w1 ⟨rfl, hb1⟩
      have HB1 := hid hb1; clear hb1
      rw [HC.out]
      go_wp2_with fail
      refine (HP2.out _).mono ?_
      rintro e w2 ⟨rfl, hb2⟩
      have HB2 := hid hb2; clear hb2
      rw [HC2.out]
      go_wp2_with fail
      refine (HR.out _).mono ?_
      rintro e w3 ⟨rfl, hb3⟩
      have HB3 := hid hb3; clear hb3
      go_wp2_with fail
      go_ret2
      exact ⟨by rw [HX.out] <;> rfl, below_step HB3.out (below_step HB2.out HB1.out)⟩
end Go.Proofs.Ytcfmimfkaabmkaa
/- The walks of (heap).fit, area.Extent, area.Resize, area.Assign. -/
set_option linter.unusedVariables false
set_option linter.unusedSimpArgs false
namespace Go.Proofs.Ytcfmimfkaabmkaa
open Go.RowKit
attribute [local go_sem] Oper.semAt_some
attribute [local irreducible] num
theorem open_l (l : List UInt8) (w : World) (hl : l.length ≤ maxLen) : Calls Try.prog 58 #[.string ⟨l.toArray⟩] w (OpenPost l w) := open_any ⟨l.toArray⟩ w hl
theorem check_l (l : List UInt8) (w : World) (hl : l.length ≤ maxLen) : Calls Try.prog 25 #[.string ⟨l.toArray⟩] w (IntPost (chkS l) w) := check_any ⟨l.toArray⟩ w hl
theorem part_take {w : World} {b : Nat} {l : List UInt8} (h : Bytes w b l) (n : Nat) (hn : n ≤ l.length) : Part w (some ⟨b, 0, none⟩) (l.take n) := by
  refine .inr ⟨_, rfl, fun j v hj => ?_⟩
  have hjl : j < n := by
    have := (List.getElem?_eq_some_iff.1 hj).1
    rw [cellsB_length, List.length_take] at this; omega
  rw [addr_add, Nat.zero_add, h.cell (by omega)]
  rw [← cellsB_take, List.getElem?_take_of_lt hjl] at hj
  rw [← hj]
  simp [cellsB, byt, List.getElem?_eq_getElem (show j < l.length by omega)]
theorem over_zs (n : Nat) (m : List UInt8) (h : m.length ≤ n) : over (zs n) 0 m = m ++ zs (n - m.length) := by
  unfold over zs
  rw [List.take_zero, List.nil_append, Nat.zero_add, List.drop_replicate]
set_option maxHeartbeats 1000000 in
set_option maxRecDepth 100000 in
theorem fit_any (b : Nat) (l : List UInt8) (lay : Lay) (n : Int) (w : World) (hA : Area l lay) (hB : Bytes w b l) (hn0 : 16 ≤ n) (hn1 : n ≤ 8192) :
    Calls Try.prog 72 #[.slice (some ⟨b, 0, none⟩) l.length l.length, .int .i64 n] w (StrPost (resizeA lay n) w) := by
  obtain ⟨h0, h8⟩ := area_num0 hA
  have hend := hA.2.2.2.1
  have hl1 := hA.1
  have hl2 := hA.2.1
  obtain ⟨k, rfl⟩ := Int.eq_ofNat_of_zero_le (show 0 ≤ n by omega)
  have HN := fun (W : World) (h : Bytes W b l) => hend_any b l.length l.length l W h rfl (by omega) (Nat.le_refl _) (by omega)
  have HTR := take_render hA k
  obtain ⟨en, hen⟩ : ∃ en, endOf 8 lay = en := ⟨_, rfl⟩
  rw [hen] at h0 h8 hend HTR
  rw [h0, show (8 : Int) + ((en - 8 : Nat) : Int) = (en : Int) by omega] at HN
  have HN := hid HN
  have HB := hid hB
  by_cases hfit : (k : Int) < en
  · have g1 : decide ((k : Int) < en) = true := by simpa using hfit
    have HX : Hid (resizeA lay k = ([], 121)) := by unfold Hid resizeA; rw [if_neg (by omega), hen, if_neg (by omega)]
    clear h0 hen hA hB HTR
    go_enter Try.func72, Try.ntmps72
    go_wp2_with fail
    refine (HN.out _ HB.out).mono ?_
    rintro e w1 ⟨rfl, rfl⟩
    go_wp2_with fail
    go_ret2
    exact ⟨by rw [HX.out]; rfl, Below.refl _ _⟩
  · have hfit' : en ≤ k := by omega
    have g1 : decide ((k : Int) < en) = false := by simp; omega
    have g2 : decide (k < en) = false := by simp; omega
    have HX : Hid (resizeA lay k = (render k lay, 0)) := by unfold Hid resizeA; rw [if_neg (by omega), hen, if_pos (by omega), Int.toNat_natCast]
    have HTR := hid (HTR hfit')
    have hmk := run_make79 w k (by omega)
    have hB0 : Bytes (w.alloc (.cells (cellsB (List.replicate k 0)).toArray 5)) w.heap.size (zs k) := bytes_new w (zs k)
    have hBw : Bytes (w.alloc (.cells (cellsB (List.replicate k 0)).toArray 5)) b l := hB.grow1 _
    generalize (cellsB (List.replicate k 0)).toArray = Z at *
    have hml : (l.take en).length = en := by rw [List.length_take]; omega
    obtain ⟨w2, hcp, hB2, hg2⟩ := run_copy_sl 79 79 under79 (w.alloc (.cells Z 5)) w.heap.size 0 k k en l.length (some ⟨b, 0, none⟩) (zs k) (l.take en) hB0 (by rw [hml]; exact (Nat.min_eq_left hfit').symm) (by rw [hml, zs_length]; omega)
      (part_take hBw en hend) (some ⟨w.heap.size, 0, none⟩) (fun _ => rfl) (fun _ => .inr ⟨_, rfl⟩)
    have HBW := hid hBw
    rw [over_zs k _ (by rw [hml]; exact hfit'), hml, HTR.out] at hB2
    have hrl : (render k lay).length = k := by rw [← HTR.out, List.length_append, hml, zs_length]; omega
    have hst := run_str79 w2 w.heap.size k (render k lay) hB2
    rw [hrl] at hst
    have HB2 : Hid (Below w.heap.size w w2) := below_grown ((Below.refl w.heap.size w).alloc (Nat.le_refl _) _) hg2 (Nat.le_refl _)
    rw [hml] at hcp
    clear h0 hen hA hB hB2 hg2 hml hrl hB0 hBw HTR
    go_enter Try.func72, Try.ntmps72
    go_wp2_with fail
    refine (HN.out _ HB.out).mono ?_
    rintro e w1 ⟨rfl, rfl⟩
    go_wp2_with fail
    refine (HN.out _ HBW.out).mono ?_
    rintro e w1 ⟨rfl, rfl⟩
    go_wp2_with fail
    go_ret2
    exact ⟨by rw [HX.out] <;> rfl, HB2.out⟩
set_option maxHeartbeats 1000000 in
set_option maxRecDepth 100000 in
theorem extent_any (l : List UInt8) (w : World) (hl : l.length ≤ maxLen) : Calls Try.prog 39 #[.string ⟨l.toArray⟩] w (TwoPost (extentS l) w) := by
  have HO := hid (fun w => open_l l w hl)
  cases h : openS l with
  | false =>
    have HX : Hid (extentS l = (0, 120)) := by unfold Hid extentS; rw [h]; rfl
    have HH := hid h; clear h
    go_enter Try.func39, Try.ntmps39
    go_wp2_with fail
    refine (HO.out _).mono ?_
    rintro e w1 ⟨hb1, hx⟩
    rw [HH.out, if_neg (by simp)] at hx
    obtain ⟨o, k, c, rfl⟩ := hx
    have HB1 := hid hb1; clear hb1
    go_wp2_with fail
    go_ret2
    exact ⟨by rw [HX.out] <;> rfl, HB1.out⟩
  | true =>
    have HX : Hid (extentS l = ((endOf 8 (layD l) : Int), 0)) := by unfold Hid extentS; rw [h]; rfl
    obtain ⟨h0, h1⟩ := area_num0 (area_D h)
    obtain ⟨hz1, hz2⟩ := area_size h
    have HN := fun (W : World) (B : Nat) (hB : Bytes W B l) => hend_any B l.length l.length l W hB rfl (by omega) (Nat.le_refl _) (by omega)
    rw [h0, show (8 : Int) + ((endOf 8 (layD l) - 8 : Nat) : Int) = ((endOf 8 (layD l) : Nat) : Int) by omega] at HN
    have HN := hid HN
    have HH := hid h; clear h h0
    go_enter Try.func39, Try.ntmps39
    go_wp2_with fail
    refine (HO.out _).mono ?_
    rintro e w1 ⟨hb1, hx⟩
    rw [HH.out, if_pos rfl] at hx
    obtain ⟨B, rfl, hB, hBl⟩ := hx
    have HB1 := hid hb1; have HB := hid hB; clear hb1 hB hBl
    go_wp2_with fail
    refine (HN.out _ _ HB.out).mono ?_
    rintro e w2 ⟨rfl, rfl⟩
    go_wp2_with fail
    go_ret2
    exact ⟨by rw [HX.out] <;> rfl, HB1.out⟩
set_option maxHeartbeats 1000000 in
set_option maxRecDepth 100000 in
theorem resize_any (l : List UInt8) (n : Int) (w : World) (hl : l.length ≤ maxLen) : Calls Try.prog 30 #[.string ⟨l.toArray⟩, .int .i64 n] w (StrPost (resizeS l n) w) := by
  have HO := hid (fun w => open_l l w hl)
  cases h : openS l with
  | false =>
    have HX : Hid (resizeS l n = ([], 120)) := by unfold Hid resizeS; rw [h]; rfl
    have HH := hid h; clear h
    go_enter Try.func30, Try.ntmps30
    go_wp2_with fail
    refine (HO.out _).mono ?_
    rintro e w1 ⟨hb1, hx⟩
    rw [HH.out, if_neg (by simp)] at hx
    obtain ⟨o, k, c, rfl⟩ := hx
    have HB1 := hid hb1; clear hb1
    go_wp2_with fail
    go_ret2
    exact ⟨by rw [HX.out] <;> rfl, HB1.out⟩
  | true =>
    have hA := area_D h
    by_cases hn : n < 16 ∨ 8192 < n
    · have HX : Hid (resizeS l n = ([], 1)) := by unfold Hid resizeS resizeA; rw [h, if_pos rfl, if_pos hn]
      have HH := hid h; clear h hA
      rcases hn with hn | hn
      all_goals
        first | (have hd1 : decide (n < 16) = true := by simpa using hn) | (have hd1 : decide (n < 16) = false := by simp; omega)
        try have hd2 : decide (8192 < n) = true := by simpa using hn
        clear hn
        go_enter Try.func30, Try.ntmps30
        go_wp2_with fail
        refine (HO.out _).mono ?_
        rintro e w1 ⟨hb1, hx⟩
        rw [HH.out, if_pos rfl] at hx
        obtain ⟨B, rfl, hB, hBl⟩ := hx
        have HB1 := hid hb1; clear hb1 hB hBl
        go_wp2_with fail
        go_ret2
        exact ⟨by rw [HX.out] <;> rfl, HB1.out⟩
    · have HX : Hid (resizeS l n = resizeA (layD l) n) := by unfold Hid resizeS; rw [h, if_pos rfl]
      have HF := hid (fun (W : World) (B : Nat) (hB : Bytes W B l) => fit_any B l (layD l) n W hA hB (by omega) (by omega))
      have hd1 : decide (n < 16) = false := by simp; omega
      have hd2 : decide (8192 < n) = false := by simp; omega
      have HH := hid h; clear h hA hn
      go_enter Try.func30, Try.ntmps30
      go_wp2_with fail
      refine (HO.out _).mono ?_
      rintro e w1 ⟨hb1, hx⟩
      rw [HH.out, if_pos rfl] at hx
      obtain ⟨B, rfl, hB, hBl⟩ := hx
      have HB1 := hid hb1; have HB := hid hB; clear hb1 hB hBl
      go_wp2_with fail
      refine (HF.out _ _ HB.out).mono ?_
      rintro e w2 ⟨rfl, hb2⟩
      have HB2 := hid hb2; clear hb2
      go_wp2_with fail
      go_ret2
      exact ⟨by rw [HX.out] <;> rfl, below_step HB2.out HB1.out⟩
set_option maxHeartbeats 1000000 in
set_option maxRecDepth 100000 in
theorem assign_any (tt fr : List UInt8) (w : World) (ht : tt.length ≤ maxLen) (hf : fr.length ≤ maxLen) : Calls Try.prog 28 #[.string ⟨tt.toArray⟩, .string ⟨fr.toArray⟩] w (StrPost (assignS tt fr) w) := by
  have HP := hid (fun w => check_l tt w ht)
  have HO := hid (fun w => open_l fr w hf)
  unfold maxLen at ht hf
  cases h1 : openS tt with
  | false =>
    have HC : Hid (chkS tt = 120) := by unfold Hid chkS; rw [h1]; rfl
    have HX : Hid (assignS tt fr = ([], 120)) := by unfold Hid assignS; rw [h1]; exact if_neg (by simp)
    clear h1
    go_enter Try.func28, Try.ntmps28
    go_wp2_with fail
    refine (HP.out _).mono ?_
    rintro e w1 ⟨rfl, hb1⟩
    have HB1 := hid hb1; clear hb1
    rw [HC.out]
    go_wp2_with fail
    go_ret2
    exact ⟨by rw [HX.out] <;> rfl, HB1.out⟩
  | true =>
    have HC : Hid (chkS tt = 0) := by unfold Hid chkS; rw [h1]; rfl
    cases h : openS fr with
    | false =>
      have HX : Hid (assignS tt fr = ([], 120)) := by unfold Hid assignS; rw [h1, h]; exact if_neg (by simp)
      have HH := hid h; clear h h1
      go_enter Try.func28, Try.ntmps28
      go_wp2_with fail
      refine (HP.out _).mono ?_
      rintro e w1 ⟨rfl, hb1⟩
      have HB1 := hid hb1; clear hb1
      rw [HC.out]
      go_wp2_with fail
      refine (HO.out _).mono ?_
      rintro e w2 ⟨hb2, hx⟩
      rw [HH.out, if_neg (by simp)] at hx
      obtain ⟨o, k, c, rfl⟩ := hx
      have HB2 := hid hb2; clear hb2
      go_wp2_with fail
      go_ret2
      exact ⟨by rw [HX.out] <;> rfl, below_step HB2.out HB1.out⟩
    | true =>
      have HX : Hid (assignS tt fr = resizeA (layD fr) tt.length) := by unfold Hid assignS; rw [h1, h]; exact if_pos rfl
      have hA := area_D h
      obtain ⟨hz1, hz2⟩ := area_size h1
      have HF := hid (fun (W : World) (B : Nat) (hB : Bytes W B fr) => fit_any B fr (layD fr) tt.length W hA hB (by omega) (by omega))
      have HH := hid h; clear h h1 hA
      go_enter Try.func28, Try.ntmps28
      go_wp2_with fail
      refine (HP.out _).mono ?_
      rintro e w1 ⟨rfl, hb1⟩
      have HB1 := hid hb1; clear hb1
      rw [HC.out]
      go_wp2_with fail
      refine (HO.out _).mono ?_
      rintro e w2 ⟨hb2, hx⟩
      rw [HH.out, if_pos rfl] at hx
      obtain ⟨B, rfl, hB, hBl⟩ := hx
      have HB2 := hid hb2; have HB := hid hB; clear hb2 hB hBl
      go_wp2_with fail
      refine (HF.out _ _ HB.out).mono ?_
      rintro e w3 ⟨rfl, hb3⟩
      have HB3 := hid hb3; clear hb3
      go_wp2_with fail
      go_ret2
      exact ⟨by rw [HX.out] <;> rfl, below_step HB3.out (below_step HB2.out HB1.out)⟩
end Go.Proofs.Ytcfmimfkaabmkaa
