/- area.Find, Get, Put. -/
import Derived.Test.YtcfmimfkaabmkaaM4
set_option linter.unusedVariables false
set_option linter.unusedSimpArgs false
namespace Go.Proofs.Ytcfmimfkaabmkaa
open Go.RowKit
attribute [local go_sem] Oper.semAt_some
attribute [local irreducible] num
/-- heap.find at an area. -/
theorem hfind_lay (l : List UInt8) (lay : Lay) (hA : Area l lay) (at_ : Int) (b : Nat) (w : World) (hB : Bytes w b l) :
    Calls Try.prog 78 #[.slice (some ⟨b, 0, none⟩) l.length l.length, .int .i64 at_] w (fun e w' => e = .returned (.agg #[.int .i64 ((findP (psOf (itsOf lay)) at_).getD (0, 0)).1, .int .i64 ((findP (psOf (itsOf lay)) at_).getD (0, 0)).2]) ∧ Below w.heap.size w w') := by
  have h1 := area_units hA
  have := find_raw b l _ at_ w hB h1.1 hA.1 hA.2.1 (by have := h1.2; have := hA.2.2.2.1; omega)
  unfold FindPost at this
  rw [findU_lay hA.2.2.1] at this
  exact this
set_option maxHeartbeats 2000000 in
set_option maxRecDepth 100000 in
theorem find_area (l : List UInt8) (at_ : Int) (w : World) (hl : l.length ≤ maxLen) (h : openS l = true) : Calls Try.prog 40 #[.string ⟨l.toArray⟩, .int .i64 at_] w (PieceR (findS l at_) w) := by
  have HO := hid (fun w => open_l l w hl)
  have hA := area_D h
  have HF := hid (fun b w hB => hfind_lay l (layD l) hA at_ b w hB)
  rcases hf : findP (psOf (itsOf (layD l))) at_ with _ | ⟨q1, q2⟩
  · have HX : Hid (findS l at_ = ((0, 0), 122)) := by unfold Hid findS; rw [h, if_pos rfl, hf]
    rw [hf] at HF
    have HH := hid h; clear h hf hA
    go_enter Try.func40, Try.ntmps40
    go_wp2_with fail
    refine (HO.out _).mono ?_
    rintro e w1 ⟨hb1, hx⟩
    rw [HH.out, if_pos rfl] at hx
    obtain ⟨B, rfl, hB, hBl⟩ := hx
    obtain ⟨hc, hfz⟩ := bcell hb1
    have hz3 : w.heap.size < w1.heap.size := by have := hb1.size; simp at this; omega
    have HB1 : Hid (Below w.heap.size w w1) := ((Below.refl w.heap.size w).alloc (Nat.le_refl _) _).trans (hb1.mono (by simp))
    have HB := hid hB; clear hB
    go_wp2_with fail
    refine (HF.out B _ HB.out).mono ?_
    rintro e w2 ⟨rfl, hb2⟩
    simp only [Option.getD_none]
    have hb3 := below_step hb2 HB1.out
    have HB2 := hid hb3; clear hb3
    have hz4 : w.heap.size < w2.heap.size := by have := hb2.size; omega
    obtain ⟨hc2, hfz2⟩ := bcell hb2
    have j0 : w2.cell? ⟨w.heap.size, 0, none⟩ = some (.int .i64 0) := keepc hb2 (keepc hb1 (cell_new _ _ _ 0 _ rfl))
    have j1 : w2.cell? ⟨w.heap.size, 1, none⟩ = some (.int .i64 0) := keepc hb2 (keepc hb1 (cell_new _ _ _ 1 _ rfl))
    clear hb2 hb1
    go_wp2_with fail
    have k0 : (((w2.setCell ⟨w.heap.size, 0, none⟩ (.int .i64 0)).setCell ⟨w.heap.size, 1, none⟩ (.int .i64 0)).alloc (.cells #[.int .i64 0, .int .i64 0] 37)).cell? ⟨w.heap.size, 0, none⟩ = some (.int .i64 0) := by go_simp
    have k1 : (((w2.setCell ⟨w.heap.size, 0, none⟩ (.int .i64 0)).setCell ⟨w.heap.size, 1, none⟩ (.int .i64 0)).alloc (.cells #[.int .i64 0, .int .i64 0] 37)).cell? ⟨w.heap.size, 1, none⟩ = some (.int .i64 0) := by go_simp
    refine bodyPost_ret (v := .tuple #[.agg #[.int .i64 0, .int .i64 0], .int .i64 122]) (by simp [results, Try.results40, go_sem, k0, k1]) rfl ⟨by rw [HX.out], ?_⟩
    first
      | exact ((((HB2.out.alloc (by omega) _).setCell (by simp; omega) _).setCell (by simp; omega) _).setCell (Nat.le_refl _) _).setCell (Nat.le_refl _) _
      | exact ((HB2.out.setCell (Nat.le_refl _) _).setCell (Nat.le_refl _) _).alloc (by simp; omega) _
  · have HX : Hid (findS l at_ = ((q1, q2), 0)) := by unfold Hid findS; rw [h, if_pos rfl, hf]
    rw [hf] at HF
    have hin := findP_in hA hf
    have hq0 : q1 ≠ 0 := by have := hin.1; omega
    have hq1 : (q1 == 0) = false := by rw [beq_eq_false_iff_ne]; exact hq0
    have HIN := hid hin; clear hin
    have HH := hid h; clear h hf hA
    go_enter Try.func40, Try.ntmps40
    go_wp2_with fail
    refine (HO.out _).mono ?_
    rintro e w1 ⟨hb1, hx⟩
    rw [HH.out, if_pos rfl] at hx
    obtain ⟨B, rfl, hB, hBl⟩ := hx
    obtain ⟨hc, hfz⟩ := bcell hb1
    have hz3 : w.heap.size < w1.heap.size := by have := hb1.size; simp at this; omega
    have HB1 : Hid (Below w.heap.size w w1) := ((Below.refl w.heap.size w).alloc (Nat.le_refl _) _).trans (hb1.mono (by simp))
    have HB := hid hB; clear hB
    go_wp2_with fail
    refine (HF.out B _ HB.out).mono ?_
    rintro e w2 ⟨rfl, hb2⟩
    simp only [Option.getD_some]
    have hb3 := below_step hb2 HB1.out
    have HB2 := hid hb3; clear hb3
    have hz4 : w.heap.size < w2.heap.size := by have := hb2.size; omega
    obtain ⟨hc2, hfz2⟩ := bcell hb2
    have j0 : w2.cell? ⟨w.heap.size, 0, none⟩ = some (.int .i64 0) := keepc hb2 (keepc hb1 (cell_new _ _ _ 0 _ rfl))
    have j1 : w2.cell? ⟨w.heap.size, 1, none⟩ = some (.int .i64 0) := keepc hb2 (keepc hb1 (cell_new _ _ _ 1 _ rfl))
    clear hb2 hb1
    go_wp2_with fail
    have k0 : (((w2.setCell ⟨w.heap.size, 0, none⟩ (.int .i64 q1)).setCell ⟨w.heap.size, 1, none⟩ (.int .i64 q2)).alloc (.cells #[.int .i64 q1, .int .i64 q2] 37)).cell? ⟨w.heap.size, 0, none⟩ = some (.int .i64 q1) := by go_simp
    have k1 : (((w2.setCell ⟨w.heap.size, 0, none⟩ (.int .i64 q1)).setCell ⟨w.heap.size, 1, none⟩ (.int .i64 q2)).alloc (.cells #[.int .i64 q1, .int .i64 q2] 37)).cell? ⟨w.heap.size, 1, none⟩ = some (.int .i64 q2) := by go_simp
    refine bodyPost_ret (v := .tuple #[.agg #[.int .i64 q1, .int .i64 q2], .int .i64 0]) (by simp [results, Try.results40, go_sem, k0, k1]) rfl ⟨by rw [HX.out], ?_⟩
    first
      | exact ((((HB2.out.alloc (by omega) _).setCell (by simp; omega) _).setCell (by simp; omega) _).setCell (Nat.le_refl _) _).setCell (Nat.le_refl _) _
      | exact ((HB2.out.setCell (Nat.le_refl _) _).setCell (Nat.le_refl _) _).alloc (by simp; omega) _
end Go.Proofs.Ytcfmimfkaabmkaa
