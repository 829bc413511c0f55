/- The walk of the law AreaRefuses. -/
import Derived.Test.YtcfmimfkaabmkaaL1
set_option linter.unusedVariables false
set_option linter.unusedSimpArgs false
namespace Go.Proofs.Ytcfmimfkaabmkaa
open Go.RowKit
attribute [local go_sem] Oper.semAt_some
attribute [local irreducible] num
set_option maxHeartbeats 2000000 in
set_option maxRecDepth 100000 in
theorem refuses_area (l s : List UInt8) (n p : Int) (w : World) (hl : l.length ≤ maxLen) (h : openS l = true) : Calls Try.prog 18 #[.agg #[.string ⟨l.toArray⟩, .int .i64 n, .int .i64 p, .string ⟨s.toArray⟩]] w (SanePost w) := by
  have hcn : chkS l = 0 := by unfold chkS; rw [h]; exact if_pos rfl
  have g1 : Rets 24 #[.string ⟨l.toArray⟩] (.int .i64 0) := fun w => by rw [← hcn]; exact rcheck_any l w hl
  have g2 : Rets 25 #[.string ⟨l.toArray⟩] (.int .i64 0) := fun w => by rw [← hcn]; exact check_l l w hl
  have H24 := hid g1; have H25 := hid g2
  clear g1 g2 hcn h
  go_enter Try.func18, Try.ntmps18
  go_wp2_with fail
  refine (sane_any _).mono ?_
  rintro e w1 ⟨rfl, hb1⟩
  have HB1 : Hid (Below w.heap.size w w1) := ((Below.refl w.heap.size w).alloc (Nat.le_refl _) _).trans (hb1.mono (by simp))
  have c0 : w1.cell? ⟨w.heap.size, 0, none⟩ = some (.string ⟨l.toArray⟩) := keepc hb1 (cell_new _ _ _ 0 _ rfl)
  clear hb1
  go_wp2_with fail
  refine (H24.out _).mono ?_
  rintro e w2 ⟨rfl, hb2⟩
  have c0 := keepc hb2 c0
  have HB2 := hid hb2; clear hb2
  go_wp2_with fail
  refine (H25.out _).mono ?_
  rintro e w3 ⟨rfl, hb3⟩
  have c0 := keepc hb3 c0
  have HB3 := hid hb3; clear hb3
  go_wp2_with fail
  go_ret
  exact ⟨rfl, below_step HB3.out (below_step HB2.out HB1.out)⟩
set_option maxHeartbeats 4000000 in
set_option maxRecDepth 100000 in
theorem refuses_none (l s : List UInt8) (n p : Int) (w : World) (hl : l.length ≤ maxLen) (hs : s.length ≤ maxLen) (h : openS l = false) : Calls Try.prog 18 #[.agg #[.string ⟨l.toArray⟩, .int .i64 n, .int .i64 p, .string ⟨s.toArray⟩]] w (SanePost w) := by
  have hcn : chkS l = 120 := by unfold chkS; rw [h]; exact if_neg (by simp)
  have hnw : newS 16 = (zs 16, 0) := rfl
  obtain ⟨z, hz⟩ : ∃ z, zs 16 = z := ⟨_, rfl⟩
  have hzl : z.length ≤ maxLen := by rw [← hz, zs_length]; unfold maxLen; omega
  rw [hz] at hnw
  have ha1 : assignS l z = ([], 120) := by unfold assignS; rw [h]; exact if_neg (by simp)
  have ha2 : assignS z l = ([], 120) := by unfold assignS; rw [h, Bool.and_false]; exact if_neg (by simp)
  have hrs : resizeS l n = ([], 120) := by unfold resizeS; rw [h]; exact if_neg (by simp)
  have hex : extentS l = (0, 120) := by unfold extentS; rw [h]; exact if_neg (by simp)
  have g24 : Rets 24 #[.string ⟨l.toArray⟩] (.int .i64 120) := fun w => by rw [← hcn]; exact rcheck_any l w hl
  have g25 : Rets 25 #[.string ⟨l.toArray⟩] (.int .i64 120) := fun w => by rw [← hcn]; exact check_l l w hl
  have g27 : Rets 27 #[.int .i64 16] (.tuple #[.string ⟨z.toArray⟩, .int .i64 0]) := fun w => by have := new_any 16 w; unfold NewPost at this; rw [hnw] at this; exact this
  have g20 : Rets 20 #[.string ⟨l.toArray⟩, .int .i64 n] (.tuple #[.string ⟨#[]⟩, .int .i64 0, .int .i64 120]) := fun w => alloc_bad ⟨l.toArray⟩ n w hl h
  have g22 : Rets 22 #[.string ⟨l.toArray⟩, .int .i64 p] (.tuple #[.string ⟨#[]⟩, .int .i64 120]) := fun w => free_bad ⟨l.toArray⟩ p w hl h
  have g39 : Rets 39 #[.string ⟨l.toArray⟩] (.tuple #[.int .i64 0, .int .i64 120]) := fun w => by have := extent_any l w hl; rw [hex] at this; exact this
  have g28 : Rets 28 #[.string ⟨l.toArray⟩, .string ⟨z.toArray⟩] (.tuple #[.string ⟨#[]⟩, .int .i64 120]) := fun w => by have := assign_any l z w hl hzl; rw [ha1] at this; exact this
  have g29 : Rets 28 #[.string ⟨z.toArray⟩, .string ⟨l.toArray⟩] (.tuple #[.string ⟨#[]⟩, .int .i64 120]) := fun w => by have := assign_any z l w hzl hl; rw [ha2] at this; exact this
  have g30 : Rets 30 #[.string ⟨l.toArray⟩, .int .i64 n] (.tuple #[.string ⟨#[]⟩, .int .i64 120]) := fun w => by have := resize_any l n w hl; rw [hrs] at this; exact this
  have H24 := hid g24; have H25 := hid g25; have H27 := hid g27; have H20 := hid g20; have H22 := hid g22; have H39 := hid g39; have H28 := hid g28; have H29 := hid g29; have H30 := hid g30
  have H26 := hid (refuse_blocks l hl h); have H48 := hid (refuse_gaps l hl h); have H51 := hid (refuse_room l hl h); have H40 := hid (refuse_find l p hl h); have H42 := hid (refuse_get l p n hl h); have H44 := hid (refuse_put l p s hs hl h); have H32 := hid (refuse_compact l hl h)
  clear g24 g25 g27 g20 g22 g39 g28 g29 g30 hcn hnw hz hzl ha1 ha2 hrs hex h
  unfold maxLen at hl hs
  go_enter Try.func18, Try.ntmps18
  go_wp2_with fail
  refine (sane_any _).mono ?_
  rintro e w1 ⟨rfl, hb1⟩
  have HB1 : Hid (Below w.heap.size w w1) := ((Below.refl w.heap.size w).alloc (Nat.le_refl _) _).trans (hb1.mono (by simp))
  have c0 : w1.cell? ⟨w.heap.size, 0, none⟩ = some (.string ⟨l.toArray⟩) := keepc hb1 (cell_new _ _ _ 0 _ rfl)
  have c1 : w1.cell? ⟨w.heap.size, 1, none⟩ = some (.int .i64 n) := keepc hb1 (cell_new _ _ _ 1 _ rfl)
  have c2 : w1.cell? ⟨w.heap.size, 2, none⟩ = some (.int .i64 p) := keepc hb1 (cell_new _ _ _ 2 _ rfl)
  have c3 : w1.cell? ⟨w.heap.size, 3, none⟩ = some (.string ⟨s.toArray⟩) := keepc hb1 (cell_new _ _ _ 3 _ rfl)
  clear hb1
  go_wp2_with fail
  refine (H24.out _).mono ?_
  rintro e w2 ⟨rfl, hb2⟩
  have c0 := keepc hb2 c0; have c1 := keepc hb2 c1; have c2 := keepc hb2 c2; have c3 := keepc hb2 c3
  have HB2 := hid hb2; clear hb2
  go_wp2_with fail
  refine (H27.out _).mono ?_
  rintro e w3 ⟨rfl, hb3⟩
  have c0 := keepc hb3 c0; have c1 := keepc hb3 c1; have c2 := keepc hb3 c2; have c3 := keepc hb3 c3
  have HB3 := hid hb3; clear hb3
  go_wp2_with fail
  refine (H25.out _).mono ?_
  rintro e w4 ⟨rfl, hb4⟩
  have c0 := keepc hb4 c0; have c1 := keepc hb4 c1; have c2 := keepc hb4 c2; have c3 := keepc hb4 c3
  have HB4 := hid hb4; clear hb4
  go_wp2_with fail
  refine (H20.out _).mono ?_
  rintro e w5 ⟨rfl, hb5⟩
  have c0 := keepc hb5 c0; have c1 := keepc hb5 c1; have c2 := keepc hb5 c2; have c3 := keepc hb5 c3
  have HB5 := hid hb5; clear hb5
  go_wp2_with fail
  refine (H22.out _).mono ?_
  rintro e w6 ⟨rfl, hb6⟩
  have c0 := keepc hb6 c0; have c1 := keepc hb6 c1; have c2 := keepc hb6 c2; have c3 := keepc hb6 c3
  have HB6 := hid hb6; clear hb6
  go_wp2_with fail
  refine (H26.out _).mono ?_
  rintro e w7 ⟨rfl, hb7⟩
  have c0 := keepc hb7 c0; have c1 := keepc hb7 c1; have c2 := keepc hb7 c2; have c3 := keepc hb7 c3
  have HB7 := hid hb7; clear hb7
  go_wp2_with fail
  refine (H48.out _).mono ?_
  rintro e w8 ⟨rfl, hb8⟩
  have c0 := keepc hb8 c0; have c1 := keepc hb8 c1; have c2 := keepc hb8 c2; have c3 := keepc hb8 c3
  have HB8 := hid hb8; clear hb8
  go_wp2_with fail
  refine (H39.out _).mono ?_
  rintro e w9 ⟨rfl, hb9⟩
  have c0 := keepc hb9 c0; have c1 := keepc hb9 c1; have c2 := keepc hb9 c2; have c3 := keepc hb9 c3
  have HB9 := hid hb9; clear hb9
  go_wp2_with fail
  refine (H51.out _).mono ?_
  rintro e w10 ⟨rfl, hb10⟩
  have c0 := keepc hb10 c0; have c1 := keepc hb10 c1; have c2 := keepc hb10 c2; have c3 := keepc hb10 c3
  have HB10 := hid hb10; clear hb10
  go_wp2_with fail
  refine (H40.out _).mono ?_
  rintro e w11 ⟨rfl, hb11⟩
  have c0 := keepc hb11 c0; have c1 := keepc hb11 c1; have c2 := keepc hb11 c2; have c3 := keepc hb11 c3
  have HB11 := hid hb11; clear hb11
  have hlt : w.heap.size < w11.heap.size := World.block_lt_of_cell? _ _ c0
  have hz11 := HB11.out.size
  go_wp2_with fail
  refine (H42.out _).mono ?_
  rintro e w13 ⟨rfl, hb13⟩
  have c0 := keepc hb13 (show World.cell? _ ⟨w.heap.size, 0, none⟩ = some (.string ⟨l.toArray⟩) by go_simp)
  have c1 := keepc hb13 (show World.cell? _ ⟨w.heap.size, 1, none⟩ = some (.int .i64 n) by go_simp)
  have c2 := keepc hb13 (show World.cell? _ ⟨w.heap.size, 2, none⟩ = some (.int .i64 p) by go_simp)
  have c3 := keepc hb13 (show World.cell? _ ⟨w.heap.size, 3, none⟩ = some (.string ⟨s.toArray⟩) by go_simp)
  have j0 := keepc hb13 (show World.cell? _ ⟨w11.heap.size, 0, none⟩ = some (.int .i64 0) by go_simp)
  have j1 := keepc hb13 (show World.cell? _ ⟨w11.heap.size, 1, none⟩ = some (.int .i64 0) by go_simp)
  have HB13 : Hid (Below w11.heap.size w11 w13) := by
    unfold Hid
    first
      | exact ((Below.refl _ _).alloc (Nat.le_refl _) _).trans (hb13.mono (by simp))
      | exact ((((Below.refl _ _).alloc (Nat.le_refl _) _).setCell (Nat.le_refl _) _).setCell (Nat.le_refl _) _).trans (hb13.mono (by simp))
      | exact ((((Below.refl _ _).alloc (Nat.le_refl _) _).setCell (by simp) _).setCell (by simp) _).trans (hb13.mono (by simp))
  clear hb13
  go_wp2_with fail
  refine (H44.out _).mono ?_
  rintro e w14 ⟨rfl, hb14⟩
  have c0 := keepc hb14 c0; have c1 := keepc hb14 c1; have c2 := keepc hb14 c2; have c3 := keepc hb14 c3; have j0 := keepc hb14 j0; have j1 := keepc hb14 j1
  have HB14 := hid hb14; clear hb14
  go_wp2_with fail
  refine (H28.out _).mono ?_
  rintro e w15 ⟨rfl, hb15⟩
  have c0 := keepc hb15 c0; have c1 := keepc hb15 c1; have c2 := keepc hb15 c2; have c3 := keepc hb15 c3; have j0 := keepc hb15 j0; have j1 := keepc hb15 j1
  have HB15 := hid hb15; clear hb15
  go_wp2_with fail
  refine (H29.out _).mono ?_
  rintro e w16 ⟨rfl, hb16⟩
  have c0 := keepc hb16 c0; have c1 := keepc hb16 c1; have c2 := keepc hb16 c2; have c3 := keepc hb16 c3; have j0 := keepc hb16 j0; have j1 := keepc hb16 j1
  have HB16 := hid hb16; clear hb16
  go_wp2_with fail
  refine (H30.out _).mono ?_
  rintro e w17 ⟨rfl, hb17⟩
  have c0 := keepc hb17 c0; have c1 := keepc hb17 c1; have c2 := keepc hb17 c2; have c3 := keepc hb17 c3; have j0 := keepc hb17 j0; have j1 := keepc hb17 j1
  have HB17 := hid hb17; clear hb17
  go_wp2_with fail
  refine (H32.out _).mono ?_
  rintro e w18 ⟨rfl, hb18⟩
  have c0 := keepc hb18 c0; have c1 := keepc hb18 c1; have c2 := keepc hb18 c2; have c3 := keepc hb18 c3; have j0 := keepc hb18 j0; have j1 := keepc hb18 j1
  have HB18 := hid hb18; clear hb18
  go_wp2_with fail
  go_ret
  exact ⟨rfl, (below_step HB18.out (below_step HB17.out (below_step HB16.out (below_step HB15.out (below_step HB14.out (below_step HB13.out (below_step HB11.out (below_step HB10.out (below_step HB9.out (below_step HB8.out (below_step HB7.out (below_step HB6.out (below_step HB5.out (below_step HB4.out (below_step HB3.out (below_step HB2.out HB1.out))))))))))))))))⟩
theorem refuses_law (l s : List UInt8) (n p : Int) (w : World) (hl : l.length ≤ maxLen) (hs : s.length ≤ maxLen) : Calls Try.prog 18 #[.agg #[.string ⟨l.toArray⟩, .int .i64 n, .int .i64 p, .string ⟨s.toArray⟩]] w (SanePost w) := by
  rcases h : openS l with _ | _
  · exact refuses_none l s n p w hl hs h
  · exact refuses_area l s n p w hl h
end Go.Proofs.Ytcfmimfkaabmkaa
