/- sane: the examples hold. -/
import Derived.Test.YtifcgimpgbeocaaGreatK43
import Derived.Test.YtifcgimpgbeocaaGreatK26
import Derived.Test.YtifcgimpgbeocaaGreatK44
import Derived.Test.YtifcgimpgbeocaaGreatK45
import Derived.Test.YtifcgimpgbeocaaGreatK33
import Derived.Test.YtifcgimpgbeocaaGreatK22
import Derived.Test.YtifcgimpgbeocaaGreatK35
set_option linter.unusedVariables false
set_option linter.unusedSimpArgs false
namespace Go.Proofs.YtifcgimpgbeocaaGreat
open Go.RowKit
attribute [local go_sem] Oper.semAt_some
theorem sD_rd (w : World) : RdR (w.alloc (.cells #[strV [65], strV [111, 110, 101], strV [67], strV [116, 119, 111]] 59)) (.slice (some ⟨w.heap.size, 0, none⟩) 2 2) sD := by
  refine ⟨_, _, rfl, Nat.le_refl _, .inr ⟨_, 0, rfl, by simp, fun i r hi => ?_⟩⟩
  match i, hi with
  | 0, hi => simp [sD] at hi; subst hi; exact ⟨cell_new _ _ _ 0 _ rfl, cell_new _ _ _ 1 _ rfl⟩
  | 1, hi => simp [sD] at hi; subst hi; exact ⟨cell_new _ _ _ 2 _ rfl, cell_new _ _ _ 3 _ rfl⟩
  | i + 2, hi => simp [sD] at hi
theorem balloc' {W w1 : World} (h : Below W.heap.size W w1) (o : Obj) : Below W.heap.size W (w1.alloc o) := h.alloc h.size o
set_option maxHeartbeats 4000000 in
set_option maxRecDepth 100000 in
theorem sane_any (w : World) : Calls Tryz.prog 5 #[] w (Ret (.bool true) w) := by
  obtain ⟨W, hW⟩ : ∃ W, W = w.alloc (.cells #[strV [65], strV [111, 110, 101], strV [67], strV [116, 119, 111]] 59) := ⟨_, rfl⟩
  have HBW : Hid (Below w.heap.size w W) := by rw [hW]; exact balloc (Below.refl _ _) _
  have HRD : Hid (RdR W (.slice (some ⟨w.heap.size, 0, none⟩) 2 2) sD) := by rw [hW]; exact sD_rd w
  have HR := hid (fun w' (hb : Below W.heap.size W w') => read_any sD _ [65] w' (HRD.out.below hb))
  have HC := hid (fun w' (hb : Below W.heap.size W w') => check_any sD _ w' (HRD.out.below hb))
  have HN := hid (fun w' (hb : Below W.heap.size W w') => next_any sD _ [65] w' (HRD.out.below hb))
  have HWR := hid (fun w' (hb : Below W.heap.size W w') => write_any sD _ ([65], [120]) w' (HRD.out.below hb))
  rw [sD_read] at HR
  rw [sD_is] at HC
  rw [sD_next] at HN
  rw [sD_write] at HWR
  have HC2 : Hid (∀ w', Below W.heap.size W w' → Calls Tryz.prog 26 #[.slice (some ⟨w.heap.size, 0, none⟩) 2 2] w' (Ret (.int .i64 0) w')) := HC.out
  have HCR := hid (fun w' => create_any 6 2 w')
  rw [sCreate] at HCR
  have HW := hid hW
  clear HC hW
  go_enter Tryz.func5, Tryz.ntmps5
  go_upto_region 2 with fail
  have e := HW.out
  rw [← e]
  clear e HW
  go_wp2_with fail
  refine (HR.out _ (Below.refl _ _)).mono ?_
  rintro e w1 ⟨rfl, hb1⟩
  have HB1 := hid hb1
  clear hb1
  go_wp2_with fail
  refine (HC2.out _ HB1.out).mono ?_
  rintro e w2 ⟨rfl, hb2⟩
  have HB2 := hid (below_step hb2 HB1.out)
  clear hb2 HB1
  go_wp2_with fail
  refine (HN.out _ HB2.out).mono ?_
  rintro e w3 ⟨rfl, hb3⟩
  have HB3 := hid (below_step hb3 HB2.out)
  clear hb3 HB2
  have hneq := fun w => run_neqR ([67], [116, 119, 111]) ([67], [116, 119, 111]) w
  simp only [decide_true, Bool.not_true] at hneq
  go_wp2_with fail
  have HB4 : Hid (Below W.heap.size W (w3.alloc (.cells #[strV [67], strV [116, 119, 111]] 59))) := balloc' HB3.out _
  refine (HWR.out _ HB4.out).mono ?_
  rintro e w5 ⟨v5, rfl, ho5, hb5⟩
  obtain ⟨o5, c5, rfl, -, -⟩ := ho5.rd
  have HB5 : Hid (Below W.heap.size W w5) := below_step hb5 HB4.out
  clear hb5 ho5 HB3 HB4 HR HC2 HN HWR hneq HRD
  go_wp2_with fail
  refine (HCR.out _).mono ?_
  rintro e w6 ⟨vp, vq, rfl, hp6, hq6, hb6⟩
  have HB6 : Hid (Below w.heap.size w w6) := below_step (below_step hb6 HB5.out) HBW.out
  have HP6 := hid hp6; have HQ6 := hid hq6
  obtain ⟨P, hP1, hP2, hP3⟩ : ∃ P, sDk.1[1]? = some P ∧ P.length = 64 ∧ P.take 8 = [0, 0, 0, 1, 0, 2, 0, 0] := ⟨_, rfl, sPage.1, sPage.2⟩
  have hPL : sDk.1.length = 6 := by decide +kernel
  have hQL : sDk.2.length = 0 := rfl
  obtain ⟨g, cg, hv, -, hgl, -, -, hgc⟩ := OS.cells hp6 (by rw [hPL]; decide)
  rw [hPL] at hv
  obtain ⟨oq, cq, hvq, -, -⟩ := hq6.rd
  rw [hQL] at hvq
  subst hv hvq
  have y1 := hgc 1 _ (encS_at _ 1 P hP1)
  have HEX := ext_take' P 8
  rw [hP3] at HEX
  clear hb6 hp6 hq6 hgc hP1 hP3 HB5 HCR
  obtain ⟨w7, hw7⟩ : ∃ w7, w7 = w6.alloc (.cells #[.slice (some ⟨g, 0, none⟩) 6 cg, .slice oq 0 cq] 25) := ⟨_, rfl⟩
  have HB7 : Hid (Below w6.heap.size w6 w7) := by rw [hw7]; exact balloc (Below.refl _ _) _
  have y1 := keepc HB7.out y1
  have z0 : w7.cell? ⟨w6.heap.size, 0, none⟩ = some (.slice (some ⟨g, 0, none⟩) 6 cg) := by rw [hw7]; exact cell_new _ _ _ 0 _ rfl
  have z1 : w7.cell? ⟨w6.heap.size, 1, none⟩ = some (.slice oq 0 cq) := by rw [hw7]; exact cell_new _ _ _ 1 _ rfl
  have HW7 := hid hw7
  clear hw7
  go_upto_region 12 with fail
  have e := HW7.out
  rw [← e]
  clear e HW7
  have hl8 : (8 : Int) ≤ (P.length : Int) := by omega
  go_wp2_with fail
  have hrp : RdS w7 (.slice (some ⟨g, 0, none⟩) 6 cg) sDk.1 := (HP6.out.below HB7.out).rd
  have hrq : RdW w7 (.slice oq 0 cq) sDk.2 := (HQ6.out.below HB7.out).rd
  have hop := open_any sDk _ _ w7 hrp hrq (by rw [hQL]; decide)
  have HB7' : Hid (Below w.heap.size w w7) := below_step HB7.out HB6.out
  clear hrp hrq HP6 HQ6 y1 z0 z1 HEX hl8 hP2
  refine hop.mono ?_
  rintro e w8 ⟨hb8, ho8, -⟩
  obtain ⟨S, U, rfl, hso, hU⟩ := ho8 sSt0 (by rw [sOpen])
  have HB8 : Hid (Below w.heap.size w w8) := below_step hb8 HB7'.out
  have HU : Hid (∀ k, U k → w.heap.size ≤ k) := fun k hk => Nat.le_trans HB7'.out.size (hU k hk)
  have hdo := do_any U S sSt0 sOp w8 hso (by decide) (by decide)
  rw [sDo] at hdo
  have HDO := hid hdo
  clear hop ho8 hb8 hU hso hdo HB7 HB7' HB6
  go_wp2_with fail
  refine HDO.out.mono ?_
  rintro e w9 ⟨rfl, U1, hso1, hf1, hu1⟩
  have HB9 : Hid (Below w.heap.size w w9) := Frm.below HB8.out hf1 (fun i h => HU.out i h) HB8.out.size
  have HU1 : Hid (∀ k, U1 k → w.heap.size ≤ k) := fun k hk => (hu1 k hk).elim (HU.out k) (fun h => Nat.le_trans HB8.out.size h)
  have HCM := hid (commit_any U1 S sSt1 w9 hso1 sLive (by decide) (by decide))
  clear hso1 hf1 hu1 HDO
  have hcm0 := sCommit
  obtain ⟨CS, hCS⟩ : ∃ CS, commitD sSt1 = CS := ⟨_, rfl⟩
  obtain ⟨q, p1, q1, s2, q2, p3, q3, ha, hq64, hq8⟩ := sActs
  simp only [hCS] at HCM hcm0 ha
  rw [hcm0] at HCM
  clear hCS
  go_wp2_with fail
  refine HCM.out.mono ?_
  rintro e w10 ⟨rfl, U2, hso2, hf2, hu2⟩
  have HB10 : Hid (Below w.heap.size w w10) := Frm.below HB9.out hf2 (fun i h => HU1.out i h) HB9.out.size
  have HAC := hid (acts_any U2 S CS.1 w10 hso2 (by rw [ha]; simp))
  rw [ha] at HAC
  clear hso2 hf2 hu2 HCM
  go_wp2_with fail
  refine HAC.out.mono ?_
  rintro e w11 ⟨va, rfl, hoa, hb11⟩
  have HB11 : Hid (Below w.heap.size w w11) := below_step hb11 HB10.out
  obtain ⟨oa, ca, rfl, -, hca⟩ := hoa.rd
  rcases hca with hca | ⟨b, off, rfl, -, hca⟩
  · cases hca
  obtain ⟨a00, a01, a02⟩ := hca 0 _ rfl
  obtain ⟨a10, a11, a12⟩ := hca 1 _ rfl
  obtain ⟨a20, a21, a22⟩ := hca 2 _ rfl
  obtain ⟨a30, a31, a32⟩ := hca 3 _ rfl
  have HEX := ext_take' q 8
  rw [hq8] at HEX
  have hl8 : (8 : Int) ≤ (q.length : Int) := by omega
  have HDC := hid (fun w' => decode_any [5, 0, 1] w')
  rw [sDecode] at HDC
  clear hoa hb11 hca ha hq8 HAC
  simp only [Nat.zero_mul, Nat.one_mul, Nat.add_zero] at a00 a01 a02 a10 a11 a12 a20 a21 a22 a30 a31 a32
  go_wp2_with fail
  refine (HDC.out _).mono ?_
  rintro e w12 ⟨vd, rfl, hod, hb12⟩
  obtain ⟨od, cd, rfl, -, -⟩ := hod.rd
  have HB12 : Hid (Below w.heap.size w w12) := below_step hb12 HB11.out
  clear hod hb12 HDC HB11
  go_wp2_with fail
  go_ret
  exact ⟨rfl, HB12.out⟩
end Go.Proofs.YtifcgimpgbeocaaGreat
