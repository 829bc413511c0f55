/- The walk of R.parts. -/
import Derived.Test.YtcfmimfkaabmkaaE5
import Derived.Test.YtcfmimfkaabmkaaE6
set_option linter.unusedVariables false
set_option linter.unusedSimpArgs false
namespace Go.Proofs.Ytcfmimfkaabmkaa
open Go.RowKit
attribute [local go_sem] Oper.semAt_some
attribute [local irreducible] num
def nilS : Value := .slice none 0 0
def PartsBad (w : World) (e : Ending) (w' : World) : Prop := e = .returned (.tuple #[.slice none 0 0, .slice none 0 0, .int .i64 120]) ∧ Below w.heap.size w w'
def PartsOk (lay : Lay) (w : World) (e : Ending) (w' : World) : Prop :=
  ∃ v1 v2, e = .returned (.tuple #[v1, v2, .int .i64 0]) ∧ OP w' w.heap.size v1 (psOf (itsOf lay)) ∧ OS w' w.heap.size v2 (bsOf (itsOf lay)) ∧ Below w.heap.size w w'
set_option maxHeartbeats 2000000 in
set_option maxRecDepth 100000 in
theorem rparts_size (l : List UInt8) (w : World) (h : l.length < 16 ∨ 8192 < l.length) (hl : l.length ≤ maxLen) : Calls Try.prog 66 #[.string ⟨l.toArray⟩] w (PartsBad w) := by
  unfold maxLen at hl
  rcases h with h | h
  · go_enter Try.func66, Try.ntmps66
    go_wp2_with fail
    go_ret3
    exact ⟨rfl, Below.refl _ _⟩
  · have h' : ¬ l.length < 16 := by omega
    go_enter Try.func66, Try.ntmps66
    go_wp2_with fail
    go_ret3
    exact ⟨rfl, Below.refl _ _⟩
set_option maxHeartbeats 2000000 in
set_option maxRecDepth 100000 in
theorem rparts_lay (l : List UInt8) (lay : Lay) (w : World) (hA : Area l lay) : Calls Try.prog 66 #[.string ⟨l.toArray⟩] w (PartsOk lay w) := by
  have h1 := hA.1
  have h2 := hA.2.1
  obtain ⟨F, hF, hF2⟩ : ∃ F : Nat, 8192 < F ∧ F ≤ 10000 := ⟨9000, by decide, by decide⟩
  have hW := fun w => walk_any l w F hF h1 h2
  rw [walkS_area hA F hF] at hW
  have HW := hid hW; clear hW
  have HP := hid (parts_area hA)
  have hlen : lay.length ≤ 8192 := (area_num4 hA).2
  have hts : ∀ t ∈ bsOf (itsOf lay), t.length ≤ 10000000 := fun t ht => by
    obtain ⟨x, hx, rfl⟩ := List.mem_map.1 ht
    obtain ⟨y, hy, rfl⟩ := List.mem_map.1 hx
    have := ends_le lay _ _ hA.2.2.1 y hy
    have := hA.2.2.2.1
    have := upN_bd y.2.length
    simp only; omega
  have HB := fun (v1 v2 : Value) (w : World) (hR : RP w v1 (psOf (itsOf lay))) (hT : RS w v2 (bsOf (itsOf lay))) => build_any l.length v1 v2 _ _ w hR hT (by rw [psOf_length]; simp [itsOf]; omega) (by rw [bsOf_length]; simp [itsOf]; omega) hts
  have HB := hid HB
  clear hA hts
  go_enter Try.func66, Try.ntmps66
  go_wp2_with fail
  refine (HW.out _).mono ?_
  rintro e w1 ⟨v1, v2, rfl, hop, hos, hb1⟩
  have HOP := hid hop
  have HOS := hid hos
  have HB1 := hid hb1
  clear hop hos hb1
  go_wp2_with fail
  refine (HB.out v1 v2 w1 HOP.out.rp HOS.out.rs).mono ?_
  rintro e w2 ⟨rfl, hb2⟩
  have HB2 := hid hb2; clear hb2
  rw [HP.out]
  unfold strV
  go_wp2_with fail
  go_ret3
  exact ⟨_, _, rfl, HOP.out.below HB2.out, HOS.out.below HB2.out, below_step HB2.out HB1.out⟩
set_option maxHeartbeats 2000000 in
set_option maxRecDepth 100000 in
theorem rparts_no (l : List UInt8) (w : World) (h1 : 16 ≤ l.length) (h2 : l.length ≤ 8192) (hA : openS l = false) : Calls Try.prog 66 #[.string ⟨l.toArray⟩] w (PartsBad w) := by
  obtain ⟨F, hF, hF2⟩ : ∃ F : Nat, 8192 < F ∧ F ≤ 10000 := ⟨9000, by decide, by decide⟩
  have hW := fun w => walk_any l w F hF h1 h2
  have hbd := walkS_bd l (8 + num l 0) F 8
  have hP := fun its => parts_bad hA h1 h2 its
  generalize walkS l (8 + num l 0) F 8 = its at hW hbd
  have HW := hid hW; clear hW
  have hPi := hP its
  clear hP hA
  have hts : ∀ t ∈ bsOf its, t.length ≤ 10000000 := fun t ht => by
    obtain ⟨x, hx, rfl⟩ := List.mem_map.1 ht
    have := hbd.2 x hx
    show x.2.length ≤ _; omega
  have HB := fun (v1 v2 : Value) (w : World) (hR : RP w v1 (psOf its)) (hT : RS w v2 (bsOf its)) => build_any l.length v1 v2 _ _ w hR hT (by rw [psOf_length]; omega) (by rw [bsOf_length]; omega) hts
  have HB := hid HB
  clear hts hbd
  obtain ⟨⟨r, c⟩, hr⟩ : ∃ r, buildS l.length (psOf its) (bsOf its) = r := ⟨_, rfl⟩
  rw [hr] at hPi
  have HR := hid hr; clear hr
  have HPi := hid hPi; clear hPi
  go_enter Try.func66, Try.ntmps66
  go_wp2_with fail
  refine (HW.out _).mono ?_
  rintro e w1 ⟨v1, v2, rfl, hop, hos, hb1⟩
  have HOP := hid hop
  have HOS := hid hos
  have HB1 := hid hb1
  clear hop hos hb1
  go_wp2_with fail
  refine (HB.out v1 v2 w1 HOP.out.rp HOS.out.rs).mono ?_
  rintro e w2 ⟨rfl, hb2⟩
  have HB2 := hid hb2; clear hb2
  rw [HR.out]
  unfold strV
  have HF : Hid (PartsBad w (.returned (.tuple #[.slice none 0 0, .slice none 0 0, .int .i64 120])) w2) := ⟨rfl, below_step HB2.out HB1.out⟩
  by_cases hc : c = 0
  · have hne : ¬ r = l := fun h => HPi.out (by rw [h, hc])
    have hne1 : (r == l) = false := by rw [beq_eq_false_iff_ne]; exact hne
    have HNE := hid hne
    clear hne
    subst hc
    go_wp2_with fail
    go_ret3
    exact HF.out
  · have g1 : (c == 0) = false := by rw [beq_eq_false_iff_ne]; exact hc
    have g2 : (c != 0) = true := by rw [bne_iff_ne]; exact hc
    clear hc
    go_wp2_with fail
    go_ret3
    exact HF.out
/-- R.parts refuses what is no area. -/
theorem rparts_bad (l : List UInt8) (w : World) (hl : l.length ≤ maxLen) (hA : openS l = false) : Calls Try.prog 66 #[.string ⟨l.toArray⟩] w (PartsBad w) := by
  by_cases h : l.length < 16 ∨ 8192 < l.length
  · exact rparts_size l w h hl
  · exact rparts_no l w (by omega) (by omega) hA
end Go.Proofs.Ytcfmimfkaabmkaa
