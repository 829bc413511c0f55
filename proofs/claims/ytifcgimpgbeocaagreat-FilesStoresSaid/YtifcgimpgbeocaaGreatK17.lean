/- The reference's headOf. -/
import Derived.Test.YtifcgimpgbeocaaGreatK14
import Derived.Test.YtifcgimpgbeocaaGreatK16
set_option linter.unusedVariables false
set_option linter.unusedSimpArgs false
namespace Go.Proofs.YtifcgimpgbeocaaGreat
open Go.RowKit
attribute [local go_sem] Oper.semAt_some
set_option maxHeartbeats 8000000 in
set_option maxRecDepth 100000 in
theorem rheadof_any (s : Bs) (p N : Nat) (w : World) (hsl : s.length = 64) (hp : p ≤ 1) (h1 : 4 ≤ N) (h2 : N ≤ 4096) :
    Calls Tryz.prog 42 #[strV s, .int .i64 (p : Int), .int .i64 (N : Int)] w (Ret (.tuple #[hdV (headOf s), .bool (headOk s p (halfN N))]) w) := by
  have HPO := hid (fun w' => rpagesof_any N w' (by omega) (by omega))
  have hhb : halfN N ≤ 2047 := by unfold halfN; omega
  have HNN : Hid (∀ (i : Int) w' (hi : i = 0 ∨ i = 8), Calls Tryz.prog 87 #[strV s, .int .i64 i] w' (fun e w'' => e = .returned (.int .i64 (if i = 0 then (num4 s 0 : Nat) else (num4 s 8 : Nat))) ∧ ∃ m, w'' = w'.drewN m)) := fun i w' hi => by
    rcases hi with rfl | rfl
    · exact rnumber_q s 0 w' hsl (by omega)
    · exact rnumber_q s 8 w' hsl (by omega)
  have x4 : ∀ w : World, (Instr.index 9 (strV s) (.int .i64 4)).run Tryz.prog w = .ok (.int .u8 (byteAt s 4)) w := fun w => strv_at s 4 .i64 (by omega) w
  have x5 : ∀ w : World, (Instr.index 9 (strV s) (.int .i64 5)).run Tryz.prog w = .ok (.int .u8 (byteAt s 5)) w := fun w => strv_at s 5 .i64 (by omega) w
  have z4 := byteAt_lt s 4
  have z5 := byteAt_lt s 5
  have z0 := num4_lt s 0
  have z8 := num4_lt s 8
  have HHD : Hid (headOf s = (num4 s 0, byteAt s 4, byteAt s 5, num4 s 8)) := rfl
  have HOK : Hid (headOk s p (halfN N) = (hdOk (headOf s) p (halfN N) && (headPg (headOf s) == s))) := rfl
  rw [HHD.out] at HOK ⊢
  rw [HOK.out]
  clear HOK HHD hsl
  generalize num4 s 0 = a at *
  generalize byteAt s 4 = b at *
  generalize byteAt s 5 = c at *
  generalize num4 s 8 = e at *
  have HPG := hid (fun w' => rheadpage_any (a, b, c, e) w' (by simp only; omega) (by simp only; omega) (by simp only; omega) (by simp only; omega))
  have u4 : IntKind.i64.wrap (b : Int) = (b : Int) := IntWalk.i64_in _ ⟨by omega, by omega⟩
  have u5 : IntKind.i64.wrap (c : Int) = (c : Int) := IntWalk.i64_in _ ⟨by omega, by omega⟩
  obtain ⟨Z0, hZ0⟩ : ∃ Z, headPg (a, b, c, e) = Z := ⟨_, rfl⟩
  rw [hZ0] at HPG ⊢
  have HDK : Hid (hdOk (a, b, c, e) p (halfN N) = decide (1 ≤ a ∧ a % 2 = p ∧ b ≤ 1 ∧ 1 ≤ c ∧ c ≤ 8 ∧ e ≤ 64 * halfN N)) := rfl
  obtain ⟨R, hR⟩ : ∃ R, hdOk (a, b, c, e) p (halfN N) = R := ⟨_, rfl⟩
  rw [hR] at HDK ⊢
  have H0 := hid z0; have H4 := hid z4; have H5 := hid z5; have H8 := hid z8; have HHB := hid hhb
  clear hZ0 hR z0 z4 z5 z8 hhb
  obtain ⟨W1, hW1⟩ : ∃ W1, W1 = w.alloc (.cells #[.int .i64 0, .int .i64 0, .int .i64 0, .int .i64 0] 34) := ⟨_, rfl⟩
  have HBW : Hid (Below w.heap.size w W1) := by rw [hW1]; exact balloc (Below.refl _ _) _
  have HO0 : Hid (∀ k, k < 4 → OwnC W1 ⟨w.heap.size, k, none⟩) := by rw [hW1]; exact own_new4 w 34 (.int .i64 0) (.int .i64 0) (.int .i64 0) (.int .i64 0)
  have HZ1 : Hid (W1.heap.size = w.heap.size + 1) := by rw [hW1]; unfold Hid; simp
  have HW1 := hid hW1
  obtain ⟨Y, hY⟩ : ∃ Y, w.heap.size = Y := ⟨_, rfl⟩
  have HY := hid hY
  rw [hY] at HO0 HZ1
  clear hW1 hY
  go_enter Tryz.func42, Tryz.ntmps42
  go_upto_region 1 with fail
  have e0 := HW1.out
  try rw [HY.out]
  simp only [← e0]
  clear e0 HW1
  go_cut [8] (fun v8 wx => ∃ Z : Nat, v8 = .pointer (some ⟨Z, 0, none⟩) ∧ Hid (Z = W1.heap.size) ∧ Hid (Below W1.heap.size W1 wx) ∧ wx.cell? ⟨Z, 0, none⟩ = some (.int .i64 (a : Int)) ∧ wx.cell? ⟨Z, 1, none⟩ = some (.int .i64 (b : Int)) ∧ wx.cell? ⟨Z, 2, none⟩ = some (.int .i64 (c : Int)) ∧ wx.cell? ⟨Z, 3, none⟩ = some (.int .i64 (e : Int)))
  case first =>
    refine (fun hm hB S hS h => wp_region_freeL S hm hB hS h) (by kernel_rfl) (by kernel_rfl) (fun L w' => Below W1.heap.size W1 w' ∧ w'.heap.size = W1.heap.size + (if L 11 = true then 1 else 0) ∧ (L 11 = true → OwnC w' ⟨W1.heap.size, 0, none⟩ ∧ OwnC w' ⟨W1.heap.size, 1, none⟩ ∧ OwnC w' ⟨W1.heap.size, 2, none⟩ ∧ OwnC w' ⟨W1.heap.size, 3, none⟩) ∧ (L 12 = true → w'.cell? ⟨W1.heap.size, 0, none⟩ = some (.int .i64 (a : Int)) ∧ w'.cell? ⟨W1.heap.size, 1, none⟩ = some (.int .i64 (b : Int)) ∧ w'.cell? ⟨W1.heap.size, 2, none⟩ = some (.int .i64 (c : Int)) ∧ w'.cell? ⟨W1.heap.size, 3, none⟩ = some (.int .i64 (e : Int)))) ⟨((Below.refl W1.heap.size W1)).drew, rfl, fun h => absurd h (by decide), fun h => absurd h (by decide)⟩ ?_
    refine wpFreeL_val rfl (fun _ _ _ h => h) (fun K hK => ?_); apply Exists.intro; refine ⟨fun L w' hS => ?_, ?_⟩; (have hb := hS.1; clear hS; go_simp; rfl); (go_simp; refine hK _ ?_; clear hK K)
    refine wpFreeL_gen rfl (fun K hK => ?_); apply Exists.intro; refine ⟨fun L w' hcl hL hdep hS => ?_, ?_⟩
    · have hb := hS.1; have hz := hS.2.1; have ho := hS.2.2.1; have hs := hS.2.2.2; clear hS; go_simp; refine (HNN.out _ _ (by decide)).mono ?_; rintro e1 w1 ⟨rfl, m, rfl⟩; exact ⟨rfl, below_drewN hb m, hz, ho, hs⟩
    go_simp; refine hK _ ?_; clear hK K
    iterate 7 (refine wpFreeL_val rfl (fun _ _ _ h => h) (fun K hK => ?_); apply Exists.intro; refine ⟨fun L w' hS => ?_, ?_⟩; (have hb := hS.1; clear hS; go_simp; rfl); (go_simp; refine hK _ ?_; clear hK K))
    refine wpFreeL_gen rfl (fun K hK => ?_); apply Exists.intro; refine ⟨fun L w' hcl hL hdep hS => ?_, ?_⟩
    · have hb := hS.1; have hz := hS.2.1; have ho := hS.2.2.1; have hs := hS.2.2.2; clear hS; go_simp; refine (HNN.out _ _ (by decide)).mono ?_; rintro e1 w1 ⟨rfl, m, rfl⟩; exact ⟨rfl, below_drewN hb m, hz, ho, hs⟩
    go_simp; refine hK _ ?_; clear hK K
    refine wpFreeL_val rfl (fun _ _ _ h => h) (fun K hK => ?_); apply Exists.intro; refine ⟨fun L w' hS => ?_, ?_⟩; (have hb := hS.1; clear hS; go_simp; rfl); (go_simp; refine hK _ ?_; clear hK K)
    refine wpFreeL_gen rfl (fun K hK => ?_); refine ⟨.pointer (some ⟨W1.heap.size, 0, none⟩), fun L w' _ hL _ hS => ?_, ?_⟩
    · have hb := hS.1; have hz := hS.2.1; have hs := hS.2.2.2; clear hS
      rw [hL] at hz; rw [if_neg (by simp), Nat.add_zero] at hz
      have hno : L 12 = true → False := fun h => by have h1 := (hs h).1; have := World.block_lt_of_cell? _ _ h1; simp only at this; omega
      clear hs
      go_simp
      refine ⟨rfl, ⟨hb.alloc (by omega) _, ?_, ?_, ?_⟩⟩
      · simp [hz, addTo]
      · intro _; rw [← hz]; refine ⟨ownc_new _ _ _ 0 (by decide), ownc_new _ _ _ 1 (by decide), ownc_new _ _ _ 2 (by decide), ownc_new _ _ _ 3 (by decide)⟩
      · intro h; exact (hno h).elim
    go_simp; refine hK _ ?_; clear hK K
    refine wpFreeL_gen rfl (fun K hK => ?_); refine ⟨undef, fun L w' _ hL hdep hS => ?_, ?_⟩
    · have hb := hS.1; have hz := hS.2.1; have ho := hS.2.2.1; clear hS
      have hal : L 11 = true := (hdep ⟨11, .data⟩ (by simp) rfl)
      have hoo := ho hal; have n0 := hoo.1; have n1 := hoo.2.1; have n2 := hoo.2.2.1; have n3 := hoo.2.2.2
      have n0' := n0; obtain ⟨⟨u0, e0⟩, f0⟩ := n0'
      have n1' := n1; obtain ⟨⟨u1, e1⟩, f1⟩ := n1'
      have n2' := n2; obtain ⟨⟨u2, e2⟩, f2⟩ := n2'
      have n3' := n3; obtain ⟨⟨u3, e3⟩, f3⟩ := n3'
      rw [hal, if_pos rfl] at hz
      go_simp
      refine ⟨rfl, ⟨(Below.setCell (p := ⟨W1.heap.size, _, none⟩) (Below.setCell (p := ⟨W1.heap.size, _, none⟩) (Below.setCell (p := ⟨W1.heap.size, _, none⟩) (Below.setCell (p := ⟨W1.heap.size, _, none⟩) hb (by show W1.heap.size ≤ W1.heap.size; omega) _) (by show W1.heap.size ≤ W1.heap.size; omega) _) (by show W1.heap.size ≤ W1.heap.size; omega) _) (by show W1.heap.size ≤ W1.heap.size; omega) _), ?_, ?_, ?_⟩⟩
      · simp [World.setCell, addTo, hz, hal]
      · intro _; exact ⟨((((n0.set _ _).set _ _).set _ _).set _ _), ((((n1.set _ _).set _ _).set _ _).set _ _), ((((n2.set _ _).set _ _).set _ _).set _ _), ((((n3.set _ _).set _ _).set _ _).set _ _)⟩
      · intro _; exact ⟨by go_simp, by go_simp, by go_simp, by go_simp⟩
    go_simp; refine hK _ ?_; clear hK K
    refine wpFreeL_nil (fun L w' hL hS => ?_)
    have hb := hS.1
    have hz := hS.2.1; rw [hL 11 (by decide), if_pos rfl] at hz; have hss := hS.2.2.2 (hL 12 (by decide)); have hoo := hS.2.2.1 (hL 11 (by decide)); have r0 := hss.1; have r1 := hss.2.1; have r2 := hss.2.2.1; have r3 := hss.2.2.2; have n0 := hoo.1; have n1 := hoo.2.1; have n2 := hoo.2.2.1; have n3 := hoo.2.2.2; clear hss hoo
    clear hL hS
    go_wp2_with fail
    go_meet
    case rel => exact ⟨_, rfl, rfl, hb, r0, r1, r2, r3⟩
  case rest =>
  obtain ⟨Z, rfl, HZE, HBC, e0, e1, e2, e3⟩ := hcut
  have HOC : Hid (∀ k, k < 4 → OwnC wc ⟨Y, k, none⟩) := fun k hk => keepOwn HBC.out (HO0.out k hk)
  have HBC2 : Hid (Below w.heap.size w wc) := below_step HBC.out HBW.out
  have HYZ : Hid (Y < Z) := by unfold Hid; have := HZE.out; have := HZ1.out; omega
  clear HBC HBW HO0 HZ1 HZE HNN x4 x5 u4 u5
  have m2 : (a : Int).tmod 2 = ((a % 2 : Nat) : Int) := by rw [Int.tmod_eq_emod_of_nonneg (by omega)]; omega
  have w2 : IntKind.i64.wrap ((a % 2 : Nat) : Int) = ((a % 2 : Nat) : Int) := IntWalk.i64_in _ ⟨by omega, by omega⟩
  have w6 : IntKind.i64.wrap (64 * ((halfN N : Nat) : Int)) = 64 * ((halfN N : Nat) : Int) := by have := HHB.out; exact IntWalk.i64_in _ ⟨by omega, by omega⟩
  obtain ⟨wb, hwb⟩ : ∃ wb, wb = wc := ⟨_, rfl⟩
  subst hwb
  go_upto_region 2 with fail
  go_cut [9] (fun v9 wx => v9 = .bool R ∧ Hid (Below wb.heap.size wb wx))
  case first =>
    by_cases t1 : 1 ≤ a
    rotate_left
    · have g1 : decide ((1 : Int) ≤ (a : Int)) = false := by simp; omega
      have HR : Hid (R = false) := by unfold Hid; rw [HDK.out]; simp [t1]
      clear t1
      refine (fun hm hB S hS h => wp_region_freeL S hm hB hS h) (by kernel_rfl) (by kernel_rfl) (fun L w' => Below wb.heap.size wb w' ∧ w'.cell? ⟨Z, 0, none⟩ = some (.int .i64 (a : Int)) ∧ w'.cell? ⟨Z, 1, none⟩ = some (.int .i64 (b : Int)) ∧ w'.cell? ⟨Z, 2, none⟩ = some (.int .i64 (c : Int)) ∧ w'.cell? ⟨Z, 3, none⟩ = some (.int .i64 (e : Int))) ⟨((Below.refl wb.heap.size wb)).drew, e0, e1, e2, e3⟩ ?_
      iterate 4 (refine wpFreeL_val rfl (fun _ _ _ h => h) (fun K hK => ?_); apply Exists.intro; refine ⟨fun L w' hS => ?_, ?_⟩; (have hb := hS.1; have g0 := hS.2.1; have g1 := hS.2.2.1; have g2 := hS.2.2.2.1; have g3 := hS.2.2.2.2; clear hS; go_simp; rfl); (go_simp; refine hK _ ?_; clear hK K))
      iterate 5 (refine wpFreeL_skip rfl (fun _ _ _ h => h) (fun K hK => ?_); go_simp; refine hK _ ?_; clear hK K)
      iterate 2 (refine wpFreeL_val rfl (fun _ _ _ h => h) (fun K hK => ?_); apply Exists.intro; refine ⟨fun L w' hS => ?_, ?_⟩; (have hb := hS.1; have g0 := hS.2.1; have g1 := hS.2.2.1; have g2 := hS.2.2.2.1; have g3 := hS.2.2.2.2; clear hS; go_simp; rfl); (go_simp; refine hK _ ?_; clear hK K))
      iterate 3 (refine wpFreeL_skip rfl (fun _ _ _ h => h) (fun K hK => ?_); go_simp; refine hK _ ?_; clear hK K)
      iterate 2 (refine wpFreeL_val rfl (fun _ _ _ h => h) (fun K hK => ?_); apply Exists.intro; refine ⟨fun L w' hS => ?_, ?_⟩; (have hb := hS.1; have g0 := hS.2.1; have g1 := hS.2.2.1; have g2 := hS.2.2.2.1; have g3 := hS.2.2.2.2; clear hS; go_simp; rfl); (go_simp; refine hK _ ?_; clear hK K))
      iterate 3 (refine wpFreeL_skip rfl (fun _ _ _ h => h) (fun K hK => ?_); go_simp; refine hK _ ?_; clear hK K)
      iterate 2 (refine wpFreeL_val rfl (fun _ _ _ h => h) (fun K hK => ?_); apply Exists.intro; refine ⟨fun L w' hS => ?_, ?_⟩; (have hb := hS.1; have g0 := hS.2.1; have g1 := hS.2.2.1; have g2 := hS.2.2.2.1; have g3 := hS.2.2.2.2; clear hS; go_simp; rfl); (go_simp; refine hK _ ?_; clear hK K))
      iterate 3 (refine wpFreeL_skip rfl (fun _ _ _ h => h) (fun K hK => ?_); go_simp; refine hK _ ?_; clear hK K)
      iterate 2 (refine wpFreeL_val rfl (fun _ _ _ h => h) (fun K hK => ?_); apply Exists.intro; refine ⟨fun L w' hS => ?_, ?_⟩; (have hb := hS.1; have g0 := hS.2.1; have g1 := hS.2.2.1; have g2 := hS.2.2.2.1; have g3 := hS.2.2.2.2; clear hS; go_simp; rfl); (go_simp; refine hK _ ?_; clear hK K))
      iterate 6 (refine wpFreeL_skip rfl (fun _ _ _ h => h) (fun K hK => ?_); go_simp; refine hK _ ?_; clear hK K)
      iterate 2 (refine wpFreeL_val rfl (fun _ _ _ h => h) (fun K hK => ?_); apply Exists.intro; refine ⟨fun L w' hS => ?_, ?_⟩; (have hb := hS.1; have g0 := hS.2.1; have g1 := hS.2.2.1; have g2 := hS.2.2.2.1; have g3 := hS.2.2.2.2; clear hS; go_simp; rfl); (go_simp; refine hK _ ?_; clear hK K))
      refine wpFreeL_nil (fun L w' hL hS => ?_)
      have hb := hS.1; have g0 := hS.2.1; have g1 := hS.2.2.1; have g2 := hS.2.2.2.1; have g3 := hS.2.2.2.2
      clear hL hS
      go_wp2_with fail
      go_meet
      case rel => exact ⟨by rw [HR.out], hid hb⟩
    have g1 : decide ((1 : Int) ≤ (a : Int)) = true := by simp; omega
    by_cases t2 : a % 2 = p
    rotate_left
    · have g2 : ((a : Int) % 2 == (p : Int)) = false := by rw [beq_eq_false_iff_ne]; omega
      have HR : Hid (R = false) := by unfold Hid; rw [HDK.out]; simp [t2]
      clear t1 t2
      refine (fun hm hB S hS h => wp_region_freeL S hm hB hS h) (by kernel_rfl) (by kernel_rfl) (fun L w' => Below wb.heap.size wb w' ∧ w'.cell? ⟨Z, 0, none⟩ = some (.int .i64 (a : Int)) ∧ w'.cell? ⟨Z, 1, none⟩ = some (.int .i64 (b : Int)) ∧ w'.cell? ⟨Z, 2, none⟩ = some (.int .i64 (c : Int)) ∧ w'.cell? ⟨Z, 3, none⟩ = some (.int .i64 (e : Int))) ⟨((Below.refl wb.heap.size wb)).drew, e0, e1, e2, e3⟩ ?_
      iterate 11 (refine wpFreeL_val rfl (fun _ _ _ h => h) (fun K hK => ?_); apply Exists.intro; refine ⟨fun L w' hS => ?_, ?_⟩; (have hb := hS.1; have g0 := hS.2.1; have g1 := hS.2.2.1; have g2 := hS.2.2.2.1; have g3 := hS.2.2.2.2; clear hS; go_simp; rfl); (go_simp; refine hK _ ?_; clear hK K))
      iterate 3 (refine wpFreeL_skip rfl (fun _ _ _ h => h) (fun K hK => ?_); go_simp; refine hK _ ?_; clear hK K)
      iterate 2 (refine wpFreeL_val rfl (fun _ _ _ h => h) (fun K hK => ?_); apply Exists.intro; refine ⟨fun L w' hS => ?_, ?_⟩; (have hb := hS.1; have g0 := hS.2.1; have g1 := hS.2.2.1; have g2 := hS.2.2.2.1; have g3 := hS.2.2.2.2; clear hS; go_simp; rfl); (go_simp; refine hK _ ?_; clear hK K))
      iterate 3 (refine wpFreeL_skip rfl (fun _ _ _ h => h) (fun K hK => ?_); go_simp; refine hK _ ?_; clear hK K)
      iterate 2 (refine wpFreeL_val rfl (fun _ _ _ h => h) (fun K hK => ?_); apply Exists.intro; refine ⟨fun L w' hS => ?_, ?_⟩; (have hb := hS.1; have g0 := hS.2.1; have g1 := hS.2.2.1; have g2 := hS.2.2.2.1; have g3 := hS.2.2.2.2; clear hS; go_simp; rfl); (go_simp; refine hK _ ?_; clear hK K))
      iterate 3 (refine wpFreeL_skip rfl (fun _ _ _ h => h) (fun K hK => ?_); go_simp; refine hK _ ?_; clear hK K)
      iterate 2 (refine wpFreeL_val rfl (fun _ _ _ h => h) (fun K hK => ?_); apply Exists.intro; refine ⟨fun L w' hS => ?_, ?_⟩; (have hb := hS.1; have g0 := hS.2.1; have g1 := hS.2.2.1; have g2 := hS.2.2.2.1; have g3 := hS.2.2.2.2; clear hS; go_simp; rfl); (go_simp; refine hK _ ?_; clear hK K))
      iterate 6 (refine wpFreeL_skip rfl (fun _ _ _ h => h) (fun K hK => ?_); go_simp; refine hK _ ?_; clear hK K)
      iterate 2 (refine wpFreeL_val rfl (fun _ _ _ h => h) (fun K hK => ?_); apply Exists.intro; refine ⟨fun L w' hS => ?_, ?_⟩; (have hb := hS.1; have g0 := hS.2.1; have g1 := hS.2.2.1; have g2 := hS.2.2.2.1; have g3 := hS.2.2.2.2; clear hS; go_simp; rfl); (go_simp; refine hK _ ?_; clear hK K))
      refine wpFreeL_nil (fun L w' hL hS => ?_)
      have hb := hS.1; have g0 := hS.2.1; have g1 := hS.2.2.1; have g2 := hS.2.2.2.1; have g3 := hS.2.2.2.2
      clear hL hS
      go_wp2_with fail
      go_meet
      case rel => exact ⟨by rw [HR.out], hid hb⟩
    have g2 : ((a : Int) % 2 == (p : Int)) = true := by rw [beq_iff_eq]; omega
    by_cases t3 : b ≤ 1
    rotate_left
    · have g3 : decide ((b : Int) ≤ 1) = false := by simp; omega
      have HR : Hid (R = false) := by unfold Hid; rw [HDK.out]; simp [t3]
      clear t1 t2 t3
      refine (fun hm hB S hS h => wp_region_freeL S hm hB hS h) (by kernel_rfl) (by kernel_rfl) (fun L w' => Below wb.heap.size wb w' ∧ w'.cell? ⟨Z, 0, none⟩ = some (.int .i64 (a : Int)) ∧ w'.cell? ⟨Z, 1, none⟩ = some (.int .i64 (b : Int)) ∧ w'.cell? ⟨Z, 2, none⟩ = some (.int .i64 (c : Int)) ∧ w'.cell? ⟨Z, 3, none⟩ = some (.int .i64 (e : Int))) ⟨((Below.refl wb.heap.size wb)).drew, e0, e1, e2, e3⟩ ?_
      iterate 16 (refine wpFreeL_val rfl (fun _ _ _ h => h) (fun K hK => ?_); apply Exists.intro; refine ⟨fun L w' hS => ?_, ?_⟩; (have hb := hS.1; have g0 := hS.2.1; have g1 := hS.2.2.1; have g2 := hS.2.2.2.1; have g3 := hS.2.2.2.2; clear hS; go_simp; rfl); (go_simp; refine hK _ ?_; clear hK K))
      iterate 3 (refine wpFreeL_skip rfl (fun _ _ _ h => h) (fun K hK => ?_); go_simp; refine hK _ ?_; clear hK K)
      iterate 2 (refine wpFreeL_val rfl (fun _ _ _ h => h) (fun K hK => ?_); apply Exists.intro; refine ⟨fun L w' hS => ?_, ?_⟩; (have hb := hS.1; have g0 := hS.2.1; have g1 := hS.2.2.1; have g2 := hS.2.2.2.1; have g3 := hS.2.2.2.2; clear hS; go_simp; rfl); (go_simp; refine hK _ ?_; clear hK K))
      iterate 3 (refine wpFreeL_skip rfl (fun _ _ _ h => h) (fun K hK => ?_); go_simp; refine hK _ ?_; clear hK K)
      iterate 2 (refine wpFreeL_val rfl (fun _ _ _ h => h) (fun K hK => ?_); apply Exists.intro; refine ⟨fun L w' hS => ?_, ?_⟩; (have hb := hS.1; have g0 := hS.2.1; have g1 := hS.2.2.1; have g2 := hS.2.2.2.1; have g3 := hS.2.2.2.2; clear hS; go_simp; rfl); (go_simp; refine hK _ ?_; clear hK K))
      iterate 6 (refine wpFreeL_skip rfl (fun _ _ _ h => h) (fun K hK => ?_); go_simp; refine hK _ ?_; clear hK K)
      iterate 2 (refine wpFreeL_val rfl (fun _ _ _ h => h) (fun K hK => ?_); apply Exists.intro; refine ⟨fun L w' hS => ?_, ?_⟩; (have hb := hS.1; have g0 := hS.2.1; have g1 := hS.2.2.1; have g2 := hS.2.2.2.1; have g3 := hS.2.2.2.2; clear hS; go_simp; rfl); (go_simp; refine hK _ ?_; clear hK K))
      refine wpFreeL_nil (fun L w' hL hS => ?_)
      have hb := hS.1; have g0 := hS.2.1; have g1 := hS.2.2.1; have g2 := hS.2.2.2.1; have g3 := hS.2.2.2.2
      clear hL hS
      go_wp2_with fail
      go_meet
      case rel => exact ⟨by rw [HR.out], hid hb⟩
    have g3 : decide ((b : Int) ≤ 1) = true := by simp; omega
    by_cases t4 : 1 ≤ c
    rotate_left
    · have g4 : decide ((1 : Int) ≤ (c : Int)) = false := by simp; omega
      have HR : Hid (R = false) := by unfold Hid; rw [HDK.out]; simp [t4]
      clear t1 t2 t3 t4
      refine (fun hm hB S hS h => wp_region_freeL S hm hB hS h) (by kernel_rfl) (by kernel_rfl) (fun L w' => Below wb.heap.size wb w' ∧ w'.cell? ⟨Z, 0, none⟩ = some (.int .i64 (a : Int)) ∧ w'.cell? ⟨Z, 1, none⟩ = some (.int .i64 (b : Int)) ∧ w'.cell? ⟨Z, 2, none⟩ = some (.int .i64 (c : Int)) ∧ w'.cell? ⟨Z, 3, none⟩ = some (.int .i64 (e : Int))) ⟨((Below.refl wb.heap.size wb)).drew, e0, e1, e2, e3⟩ ?_
      iterate 21 (refine wpFreeL_val rfl (fun _ _ _ h => h) (fun K hK => ?_); apply Exists.intro; refine ⟨fun L w' hS => ?_, ?_⟩; (have hb := hS.1; have g0 := hS.2.1; have g1 := hS.2.2.1; have g2 := hS.2.2.2.1; have g3 := hS.2.2.2.2; clear hS; go_simp; rfl); (go_simp; refine hK _ ?_; clear hK K))
      iterate 3 (refine wpFreeL_skip rfl (fun _ _ _ h => h) (fun K hK => ?_); go_simp; refine hK _ ?_; clear hK K)
      iterate 2 (refine wpFreeL_val rfl (fun _ _ _ h => h) (fun K hK => ?_); apply Exists.intro; refine ⟨fun L w' hS => ?_, ?_⟩; (have hb := hS.1; have g0 := hS.2.1; have g1 := hS.2.2.1; have g2 := hS.2.2.2.1; have g3 := hS.2.2.2.2; clear hS; go_simp; rfl); (go_simp; refine hK _ ?_; clear hK K))
      iterate 6 (refine wpFreeL_skip rfl (fun _ _ _ h => h) (fun K hK => ?_); go_simp; refine hK _ ?_; clear hK K)
      iterate 2 (refine wpFreeL_val rfl (fun _ _ _ h => h) (fun K hK => ?_); apply Exists.intro; refine ⟨fun L w' hS => ?_, ?_⟩; (have hb := hS.1; have g0 := hS.2.1; have g1 := hS.2.2.1; have g2 := hS.2.2.2.1; have g3 := hS.2.2.2.2; clear hS; go_simp; rfl); (go_simp; refine hK _ ?_; clear hK K))
      refine wpFreeL_nil (fun L w' hL hS => ?_)
      have hb := hS.1; have g0 := hS.2.1; have g1 := hS.2.2.1; have g2 := hS.2.2.2.1; have g3 := hS.2.2.2.2
      clear hL hS
      go_wp2_with fail
      go_meet
      case rel => exact ⟨by rw [HR.out], hid hb⟩
    have g4 : decide ((1 : Int) ≤ (c : Int)) = true := by simp; omega
    by_cases t5 : c ≤ 8
    rotate_left
    · have g5 : decide ((c : Int) ≤ 8) = false := by simp; omega
      have HR : Hid (R = false) := by unfold Hid; rw [HDK.out]; simp [t5]
      clear t1 t2 t3 t4 t5
      refine (fun hm hB S hS h => wp_region_freeL S hm hB hS h) (by kernel_rfl) (by kernel_rfl) (fun L w' => Below wb.heap.size wb w' ∧ w'.cell? ⟨Z, 0, none⟩ = some (.int .i64 (a : Int)) ∧ w'.cell? ⟨Z, 1, none⟩ = some (.int .i64 (b : Int)) ∧ w'.cell? ⟨Z, 2, none⟩ = some (.int .i64 (c : Int)) ∧ w'.cell? ⟨Z, 3, none⟩ = some (.int .i64 (e : Int))) ⟨((Below.refl wb.heap.size wb)).drew, e0, e1, e2, e3⟩ ?_
      iterate 26 (refine wpFreeL_val rfl (fun _ _ _ h => h) (fun K hK => ?_); apply Exists.intro; refine ⟨fun L w' hS => ?_, ?_⟩; (have hb := hS.1; have g0 := hS.2.1; have g1 := hS.2.2.1; have g2 := hS.2.2.2.1; have g3 := hS.2.2.2.2; clear hS; go_simp; rfl); (go_simp; refine hK _ ?_; clear hK K))
      iterate 6 (refine wpFreeL_skip rfl (fun _ _ _ h => h) (fun K hK => ?_); go_simp; refine hK _ ?_; clear hK K)
      iterate 2 (refine wpFreeL_val rfl (fun _ _ _ h => h) (fun K hK => ?_); apply Exists.intro; refine ⟨fun L w' hS => ?_, ?_⟩; (have hb := hS.1; have g0 := hS.2.1; have g1 := hS.2.2.1; have g2 := hS.2.2.2.1; have g3 := hS.2.2.2.2; clear hS; go_simp; rfl); (go_simp; refine hK _ ?_; clear hK K))
      refine wpFreeL_nil (fun L w' hL hS => ?_)
      have hb := hS.1; have g0 := hS.2.1; have g1 := hS.2.2.1; have g2 := hS.2.2.2.1; have g3 := hS.2.2.2.2
      clear hL hS
      go_wp2_with fail
      go_meet
      case rel => exact ⟨by rw [HR.out], hid hb⟩
    have g5 : decide ((c : Int) ≤ 8) = true := by simp; omega
    by_cases t6 : e ≤ 64 * halfN N
    rotate_left
    · have g6 : decide ((e : Int) ≤ 64 * ((halfN N : Nat) : Int)) = false := by simp; omega
      have HR : Hid (R = false) := by unfold Hid; rw [HDK.out]; simp [t6]
      clear t1 t2 t3 t4 t5 t6
      refine (fun hm hB S hS h => wp_region_freeL S hm hB hS h) (by kernel_rfl) (by kernel_rfl) (fun L w' => Below wb.heap.size wb w' ∧ w'.cell? ⟨Z, 0, none⟩ = some (.int .i64 (a : Int)) ∧ w'.cell? ⟨Z, 1, none⟩ = some (.int .i64 (b : Int)) ∧ w'.cell? ⟨Z, 2, none⟩ = some (.int .i64 (c : Int)) ∧ w'.cell? ⟨Z, 3, none⟩ = some (.int .i64 (e : Int))) ⟨((Below.refl wb.heap.size wb)).drew, e0, e1, e2, e3⟩ ?_
      iterate 29 (refine wpFreeL_val rfl (fun _ _ _ h => h) (fun K hK => ?_); apply Exists.intro; refine ⟨fun L w' hS => ?_, ?_⟩; (have hb := hS.1; have g0 := hS.2.1; have g1 := hS.2.2.1; have g2 := hS.2.2.2.1; have g3 := hS.2.2.2.2; clear hS; go_simp; rfl); (go_simp; refine hK _ ?_; clear hK K))
      refine wpFreeL_gen rfl (fun K hK => ?_); apply Exists.intro; refine ⟨fun L w' hcl hL hdep hS => ?_, ?_⟩
      · have hb := hS.1; have g0 := hS.2.1; have g1 := hS.2.2.1; have g2 := hS.2.2.2.1; have g3 := hS.2.2.2.2; go_simp; refine (HPO.out _).mono ?_; rintro e w1 ⟨rfl, hb1⟩; exact ⟨rfl, ⟨hb.trans (hb1.mono (by have := hb.size; omega)), keepc hb1 g0, keepc hb1 g1, keepc hb1 g2, keepc hb1 g3⟩⟩
      go_simp; refine hK _ ?_; clear hK K
      iterate 4 (refine wpFreeL_val rfl (fun _ _ _ h => h) (fun K hK => ?_); apply Exists.intro; refine ⟨fun L w' hS => ?_, ?_⟩; (have hb := hS.1; have g0 := hS.2.1; have g1 := hS.2.2.1; have g2 := hS.2.2.2.1; have g3 := hS.2.2.2.2; clear hS; go_simp; rfl); (go_simp; refine hK _ ?_; clear hK K))
      refine wpFreeL_nil (fun L w' hL hS => ?_)
      have hb := hS.1; have g0 := hS.2.1; have g1 := hS.2.2.1; have g2 := hS.2.2.2.1; have g3 := hS.2.2.2.2
      clear hL hS
      go_wp2_with fail
      go_meet
      case rel => exact ⟨by rw [HR.out], hid hb⟩
    have g6 : decide ((e : Int) ≤ 64 * ((halfN N : Nat) : Int)) = true := by simp; omega
    have HR : Hid (R = true) := by unfold Hid; rw [HDK.out]; rw [decide_eq_true (And.intro t1 (And.intro t2 (And.intro t3 (And.intro t4 (And.intro t5 t6)))))]
    clear t1 t2 t3 t4 t5 t6
    refine (fun hm hB S hS h => wp_region_freeL S hm hB hS h) (by kernel_rfl) (by kernel_rfl) (fun L w' => Below wb.heap.size wb w' ∧ w'.cell? ⟨Z, 0, none⟩ = some (.int .i64 (a : Int)) ∧ w'.cell? ⟨Z, 1, none⟩ = some (.int .i64 (b : Int)) ∧ w'.cell? ⟨Z, 2, none⟩ = some (.int .i64 (c : Int)) ∧ w'.cell? ⟨Z, 3, none⟩ = some (.int .i64 (e : Int))) ⟨((Below.refl wb.heap.size wb)).drew, e0, e1, e2, e3⟩ ?_
    iterate 29 (refine wpFreeL_val rfl (fun _ _ _ h => h) (fun K hK => ?_); apply Exists.intro; refine ⟨fun L w' hS => ?_, ?_⟩; (have hb := hS.1; have g0 := hS.2.1; have g1 := hS.2.2.1; have g2 := hS.2.2.2.1; have g3 := hS.2.2.2.2; clear hS; go_simp; rfl); (go_simp; refine hK _ ?_; clear hK K))
    refine wpFreeL_gen rfl (fun K hK => ?_); apply Exists.intro; refine ⟨fun L w' hcl hL hdep hS => ?_, ?_⟩
    · have hb := hS.1; have g0 := hS.2.1; have g1 := hS.2.2.1; have g2 := hS.2.2.2.1; have g3 := hS.2.2.2.2; go_simp; refine (HPO.out _).mono ?_; rintro e w1 ⟨rfl, hb1⟩; exact ⟨rfl, ⟨hb.trans (hb1.mono (by have := hb.size; omega)), keepc hb1 g0, keepc hb1 g1, keepc hb1 g2, keepc hb1 g3⟩⟩
    go_simp; refine hK _ ?_; clear hK K
    iterate 4 (refine wpFreeL_val rfl (fun _ _ _ h => h) (fun K hK => ?_); apply Exists.intro; refine ⟨fun L w' hS => ?_, ?_⟩; (have hb := hS.1; have g0 := hS.2.1; have g1 := hS.2.2.1; have g2 := hS.2.2.2.1; have g3 := hS.2.2.2.2; clear hS; go_simp; rfl); (go_simp; refine hK _ ?_; clear hK K))
    refine wpFreeL_nil (fun L w' hL hS => ?_)
    have hb := hS.1; have g0 := hS.2.1; have g1 := hS.2.2.1; have g2 := hS.2.2.2.1; have g3 := hS.2.2.2.2
    clear hL hS
    go_wp2_with fail
    go_meet
    case rel => exact ⟨by rw [HR.out], hid hb⟩
  case rest =>
  obtain ⟨wd, hwd⟩ : ∃ wd, wd = wc := ⟨_, rfl⟩
  subst hwd
  obtain ⟨rfl, HBD⟩ := hcut
  have e0 := keepc HBD.out e0; have e1 := keepc HBD.out e1; have e2 := keepc HBD.out e2; have e3 := keepc HBD.out e3
  have HOD : ∀ k, k < 4 → OwnC wd ⟨Y, k, none⟩ := fun k hk => keepOwn HBD.out (HOC.out k hk)
  have o0 := HOD 0 (by decide); have o1 := HOD 1 (by decide); have o2 := HOD 2 (by decide); have o3 := HOD 3 (by decide)
  have HBE : Hid (Below w.heap.size w wd) := below_step HBD.out HBC2.out
  have hne1 : ¬ Y = Z := by have := HYZ.out; omega
  have hne2 : ¬ Z = Y := by have := HYZ.out; omega
  have hyw : w.heap.size ≤ Y := by have := HY.out; omega
  clear HOC HBC2 HOD HPO HHB m2 w2 w6
  cases R with
  | false =>
    have HQ : Hid ((false && Z0 == s) = false) := rfl
    go_upto_region 3 with fail
    refine (fun hm hB S hS h => wp_region_freeL S hm hB hS h) (by kernel_rfl) (by kernel_rfl) (fun L w' => Below w.heap.size w w' ∧ w'.cell? ⟨Z, 0, none⟩ = some (.int .i64 (a : Int)) ∧ w'.cell? ⟨Z, 1, none⟩ = some (.int .i64 (b : Int)) ∧ w'.cell? ⟨Z, 2, none⟩ = some (.int .i64 (c : Int)) ∧ w'.cell? ⟨Z, 3, none⟩ = some (.int .i64 (e : Int)) ∧ OwnC w' ⟨Y, 0, none⟩ ∧ OwnC w' ⟨Y, 1, none⟩ ∧ OwnC w' ⟨Y, 2, none⟩ ∧ OwnC w' ⟨Y, 3, none⟩ ∧ (L 8 = true → w'.cell? ⟨Y, 0, none⟩ = some (.int .i64 (a : Int))) ∧ (L 8 = true → w'.cell? ⟨Y, 1, none⟩ = some (.int .i64 (b : Int))) ∧ (L 8 = true → w'.cell? ⟨Y, 2, none⟩ = some (.int .i64 (c : Int))) ∧ (L 8 = true → w'.cell? ⟨Y, 3, none⟩ = some (.int .i64 (e : Int)))) ⟨(HBE.out).drew, e0, e1, e2, e3, o0, o1, o2, o3, fun h => absurd h (by decide), fun h => absurd h (by decide), fun h => absurd h (by decide), fun h => absurd h (by decide)⟩ ?_
    iterate 3 (refine wpFreeL_val rfl (fun _ _ _ h => h) (fun K hK => ?_); apply Exists.intro; refine ⟨fun L w' hS => ?_, ?_⟩; (have hb := hS.1; have g0 := hS.2.1; have g1 := hS.2.2.1; have g2 := hS.2.2.2.1; have g3 := hS.2.2.2.2.1; have o0 := hS.2.2.2.2.2.1; have o1 := hS.2.2.2.2.2.2.1; have o2 := hS.2.2.2.2.2.2.2.1; have o3 := hS.2.2.2.2.2.2.2.2.1; clear hS; go_simp; rfl); (go_simp; refine hK _ ?_; clear hK K))
    iterate 4 (refine wpFreeL_skip rfl (fun _ _ _ h => h) (fun K hK => ?_); go_simp; refine hK _ ?_; clear hK K)
    refine wpFreeL_val rfl (fun _ _ _ h => h) (fun K hK => ?_); apply Exists.intro; refine ⟨fun L w' hS => ?_, ?_⟩; (have hb := hS.1; have g0 := hS.2.1; have g1 := hS.2.2.1; have g2 := hS.2.2.2.1; have g3 := hS.2.2.2.2.1; have o0 := hS.2.2.2.2.2.1; have o1 := hS.2.2.2.2.2.2.1; have o2 := hS.2.2.2.2.2.2.2.1; have o3 := hS.2.2.2.2.2.2.2.2.1; clear hS; go_simp; rfl); (go_simp; refine hK _ ?_; clear hK K)
    refine wpFreeL_gen rfl (fun K hK => ?_); refine ⟨undef, fun L w' _ hL hdep hS => ?_, ?_⟩
    · have hb := hS.1; have g0 := hS.2.1; have g1 := hS.2.2.1; have g2 := hS.2.2.2.1; have g3 := hS.2.2.2.2.1; have o0 := hS.2.2.2.2.2.1; have o1 := hS.2.2.2.2.2.2.1; have o2 := hS.2.2.2.2.2.2.2.1; have o3 := hS.2.2.2.2.2.2.2.2.1; have s0 := hS.2.2.2.2.2.2.2.2.2.1; have s1 := hS.2.2.2.2.2.2.2.2.2.2.1; have s2 := hS.2.2.2.2.2.2.2.2.2.2.2.1; have s3 := hS.2.2.2.2.2.2.2.2.2.2.2.2; clear hS
      have o0' := o0; obtain ⟨⟨u0, e0⟩, f0⟩ := o0'
      have o1' := o1; obtain ⟨⟨u1, e1⟩, f1⟩ := o1'
      have o2' := o2; obtain ⟨⟨u2, e2⟩, f2⟩ := o2'
      have o3' := o3; obtain ⟨⟨u3, e3⟩, f3⟩ := o3'
      go_simp
      refine ⟨rfl, ⟨(Below.setCell (p := ⟨Y, 3, none⟩) (Below.setCell (p := ⟨Y, 2, none⟩) (Below.setCell (p := ⟨Y, 1, none⟩) (Below.setCell (p := ⟨Y, 0, none⟩) hb (by dsimp only; omega) _) (by dsimp only; omega) _) (by dsimp only; omega) _) (by dsimp only; omega) _), by go_simp, by go_simp, by go_simp, by go_simp, ((((o0.set _ _).set _ _).set _ _).set _ _), ((((o1.set _ _).set _ _).set _ _).set _ _), ((((o2.set _ _).set _ _).set _ _).set _ _), ((((o3.set _ _).set _ _).set _ _).set _ _), fun _ => by go_simp, fun _ => by go_simp, fun _ => by go_simp, fun _ => by go_simp⟩⟩
    go_simp; refine hK _ ?_; clear hK K
    refine wpFreeL_val rfl (fun _ _ _ h => h) (fun K hK => ?_); apply Exists.intro; refine ⟨fun L w' hS => ?_, ?_⟩; (have hb := hS.1; have g0 := hS.2.1; have g1 := hS.2.2.1; have g2 := hS.2.2.2.1; have g3 := hS.2.2.2.2.1; have o0 := hS.2.2.2.2.2.1; have o1 := hS.2.2.2.2.2.2.1; have o2 := hS.2.2.2.2.2.2.2.1; have o3 := hS.2.2.2.2.2.2.2.2.1; clear hS; go_simp; rfl); (go_simp; refine hK _ ?_; clear hK K)
    refine wpFreeL_nil (fun L w' hL hS => ?_)
    have hb := hS.1; have g0 := hS.2.1; have g1 := hS.2.2.1; have g2 := hS.2.2.2.1; have g3 := hS.2.2.2.2.1; have o0 := hS.2.2.2.2.2.1; have o1 := hS.2.2.2.2.2.2.1; have o2 := hS.2.2.2.2.2.2.2.1; have o3 := hS.2.2.2.2.2.2.2.2.1; have s0 := hS.2.2.2.2.2.2.2.2.2.1 (hL 8 (by decide)); have s1 := hS.2.2.2.2.2.2.2.2.2.2.1 (hL 8 (by decide)); have s2 := hS.2.2.2.2.2.2.2.2.2.2.2.1 (hL 8 (by decide)); have s3 := hS.2.2.2.2.2.2.2.2.2.2.2.2 (hL 8 (by decide))
    clear hL hS
    go_wp2_with fail
    try rw [HQ.out]
    exact bodyPost_ret (v := .tuple #[hdV (a, b, c, e), .bool false]) (by simp [results, Tryz.results42, go_sem, s0, s1, s2, s3, hdV]) rfl ⟨rfl, hb⟩
  | true =>
    by_cases t7 : s = Z0
    rotate_left
    · have t8 : (Z0 == s) = false := by rw [beq_eq_false_iff_ne]; exact fun h => t7 h.symm
      have HQ : Hid ((Z0 == s) = false) := t8
      have t9 : ¬ Z0 = s := fun h => t7 h.symm
      clear t8
      go_upto_region 3 with fail
      refine (fun hm hB S hS h => wp_region_freeL S hm hB hS h) (by kernel_rfl) (by kernel_rfl) (fun L w' => Below w.heap.size w w' ∧ w'.cell? ⟨Z, 0, none⟩ = some (.int .i64 (a : Int)) ∧ w'.cell? ⟨Z, 1, none⟩ = some (.int .i64 (b : Int)) ∧ w'.cell? ⟨Z, 2, none⟩ = some (.int .i64 (c : Int)) ∧ w'.cell? ⟨Z, 3, none⟩ = some (.int .i64 (e : Int)) ∧ OwnC w' ⟨Y, 0, none⟩ ∧ OwnC w' ⟨Y, 1, none⟩ ∧ OwnC w' ⟨Y, 2, none⟩ ∧ OwnC w' ⟨Y, 3, none⟩ ∧ (L 8 = true → w'.cell? ⟨Y, 0, none⟩ = some (.int .i64 (a : Int))) ∧ (L 8 = true → w'.cell? ⟨Y, 1, none⟩ = some (.int .i64 (b : Int))) ∧ (L 8 = true → w'.cell? ⟨Y, 2, none⟩ = some (.int .i64 (c : Int))) ∧ (L 8 = true → w'.cell? ⟨Y, 3, none⟩ = some (.int .i64 (e : Int)))) ⟨(HBE.out).drew, e0, e1, e2, e3, o0, o1, o2, o3, fun h => absurd h (by decide), fun h => absurd h (by decide), fun h => absurd h (by decide), fun h => absurd h (by decide)⟩ ?_
      iterate 4 (refine wpFreeL_val rfl (fun _ _ _ h => h) (fun K hK => ?_); apply Exists.intro; refine ⟨fun L w' hS => ?_, ?_⟩; (have hb := hS.1; have g0 := hS.2.1; have g1 := hS.2.2.1; have g2 := hS.2.2.2.1; have g3 := hS.2.2.2.2.1; have o0 := hS.2.2.2.2.2.1; have o1 := hS.2.2.2.2.2.2.1; have o2 := hS.2.2.2.2.2.2.2.1; have o3 := hS.2.2.2.2.2.2.2.2.1; clear hS; go_simp; rfl); (go_simp; refine hK _ ?_; clear hK K))
      refine wpFreeL_gen rfl (fun K hK => ?_); apply Exists.intro; refine ⟨fun L w' hcl hL hdep hS => ?_, ?_⟩
      · have hb := hS.1; have g0 := hS.2.1; have g1 := hS.2.2.1; have g2 := hS.2.2.2.1; have g3 := hS.2.2.2.2.1; have o0 := hS.2.2.2.2.2.1; have o1 := hS.2.2.2.2.2.2.1; have o2 := hS.2.2.2.2.2.2.2.1; have o3 := hS.2.2.2.2.2.2.2.2.1; have s0 := hS.2.2.2.2.2.2.2.2.2.1; have s1 := hS.2.2.2.2.2.2.2.2.2.2.1; have s2 := hS.2.2.2.2.2.2.2.2.2.2.2.1; have s3 := hS.2.2.2.2.2.2.2.2.2.2.2.2; go_simp; refine (HPG.out _).mono ?_; rintro e w1 ⟨rfl, hb1⟩; exact ⟨rfl, ⟨hb.trans (hb1.mono (by have := hb.size; omega)), keepc hb1 g0, keepc hb1 g1, keepc hb1 g2, keepc hb1 g3, keepOwn hb1 o0, keepOwn hb1 o1, keepOwn hb1 o2, keepOwn hb1 o3, fun h => keepc hb1 (s0 h), fun h => keepc hb1 (s1 h), fun h => keepc hb1 (s2 h), fun h => keepc hb1 (s3 h)⟩⟩
      go_simp; refine hK _ ?_; clear hK K
      iterate 3 (refine wpFreeL_val rfl (fun _ _ _ h => h) (fun K hK => ?_); apply Exists.intro; refine ⟨fun L w' hS => ?_, ?_⟩; (have hb := hS.1; have g0 := hS.2.1; have g1 := hS.2.2.1; have g2 := hS.2.2.2.1; have g3 := hS.2.2.2.2.1; have o0 := hS.2.2.2.2.2.1; have o1 := hS.2.2.2.2.2.2.1; have o2 := hS.2.2.2.2.2.2.2.1; have o3 := hS.2.2.2.2.2.2.2.2.1; clear hS; go_simp; rfl); (go_simp; refine hK _ ?_; clear hK K))
      refine wpFreeL_gen rfl (fun K hK => ?_); refine ⟨undef, fun L w' _ hL hdep hS => ?_, ?_⟩
      · have hb := hS.1; have g0 := hS.2.1; have g1 := hS.2.2.1; have g2 := hS.2.2.2.1; have g3 := hS.2.2.2.2.1; have o0 := hS.2.2.2.2.2.1; have o1 := hS.2.2.2.2.2.2.1; have o2 := hS.2.2.2.2.2.2.2.1; have o3 := hS.2.2.2.2.2.2.2.2.1; have s0 := hS.2.2.2.2.2.2.2.2.2.1; have s1 := hS.2.2.2.2.2.2.2.2.2.2.1; have s2 := hS.2.2.2.2.2.2.2.2.2.2.2.1; have s3 := hS.2.2.2.2.2.2.2.2.2.2.2.2; clear hS
        have o0' := o0; obtain ⟨⟨u0, e0⟩, f0⟩ := o0'
        have o1' := o1; obtain ⟨⟨u1, e1⟩, f1⟩ := o1'
        have o2' := o2; obtain ⟨⟨u2, e2⟩, f2⟩ := o2'
        have o3' := o3; obtain ⟨⟨u3, e3⟩, f3⟩ := o3'
        go_simp
        refine ⟨rfl, ⟨(Below.setCell (p := ⟨Y, 3, none⟩) (Below.setCell (p := ⟨Y, 2, none⟩) (Below.setCell (p := ⟨Y, 1, none⟩) (Below.setCell (p := ⟨Y, 0, none⟩) hb (by dsimp only; omega) _) (by dsimp only; omega) _) (by dsimp only; omega) _) (by dsimp only; omega) _), by go_simp, by go_simp, by go_simp, by go_simp, ((((o0.set _ _).set _ _).set _ _).set _ _), ((((o1.set _ _).set _ _).set _ _).set _ _), ((((o2.set _ _).set _ _).set _ _).set _ _), ((((o3.set _ _).set _ _).set _ _).set _ _), fun _ => by go_simp, fun _ => by go_simp, fun _ => by go_simp, fun _ => by go_simp⟩⟩
      go_simp; refine hK _ ?_; clear hK K
      refine wpFreeL_val rfl (fun _ _ _ h => h) (fun K hK => ?_); apply Exists.intro; refine ⟨fun L w' hS => ?_, ?_⟩; (have hb := hS.1; have g0 := hS.2.1; have g1 := hS.2.2.1; have g2 := hS.2.2.2.1; have g3 := hS.2.2.2.2.1; have o0 := hS.2.2.2.2.2.1; have o1 := hS.2.2.2.2.2.2.1; have o2 := hS.2.2.2.2.2.2.2.1; have o3 := hS.2.2.2.2.2.2.2.2.1; clear hS; go_simp; rfl); (go_simp; refine hK _ ?_; clear hK K)
      refine wpFreeL_nil (fun L w' hL hS => ?_)
      have hb := hS.1; have g0 := hS.2.1; have g1 := hS.2.2.1; have g2 := hS.2.2.2.1; have g3 := hS.2.2.2.2.1; have o0 := hS.2.2.2.2.2.1; have o1 := hS.2.2.2.2.2.2.1; have o2 := hS.2.2.2.2.2.2.2.1; have o3 := hS.2.2.2.2.2.2.2.2.1; have s0 := hS.2.2.2.2.2.2.2.2.2.1 (hL 8 (by decide)); have s1 := hS.2.2.2.2.2.2.2.2.2.2.1 (hL 8 (by decide)); have s2 := hS.2.2.2.2.2.2.2.2.2.2.2.1 (hL 8 (by decide)); have s3 := hS.2.2.2.2.2.2.2.2.2.2.2.2 (hL 8 (by decide))
      clear hL hS
      go_wp2_with fail
      try rw [HQ.out]
      exact bodyPost_ret (v := .tuple #[hdV (a, b, c, e), .bool false]) (by simp [results, Tryz.results42, go_sem, s0, s1, s2, s3, hdV, t9]) rfl ⟨rfl, hb⟩
    subst t7
    have HQ : Hid ((true && s == s) = true) := by unfold Hid; simp
    go_upto_region 3 with fail
    refine (fun hm hB S hS h => wp_region_freeL S hm hB hS h) (by kernel_rfl) (by kernel_rfl) (fun L w' => Below w.heap.size w w' ∧ w'.cell? ⟨Z, 0, none⟩ = some (.int .i64 (a : Int)) ∧ w'.cell? ⟨Z, 1, none⟩ = some (.int .i64 (b : Int)) ∧ w'.cell? ⟨Z, 2, none⟩ = some (.int .i64 (c : Int)) ∧ w'.cell? ⟨Z, 3, none⟩ = some (.int .i64 (e : Int)) ∧ OwnC w' ⟨Y, 0, none⟩ ∧ OwnC w' ⟨Y, 1, none⟩ ∧ OwnC w' ⟨Y, 2, none⟩ ∧ OwnC w' ⟨Y, 3, none⟩ ∧ (L 8 = true → w'.cell? ⟨Y, 0, none⟩ = some (.int .i64 (a : Int))) ∧ (L 8 = true → w'.cell? ⟨Y, 1, none⟩ = some (.int .i64 (b : Int))) ∧ (L 8 = true → w'.cell? ⟨Y, 2, none⟩ = some (.int .i64 (c : Int))) ∧ (L 8 = true → w'.cell? ⟨Y, 3, none⟩ = some (.int .i64 (e : Int)))) ⟨(HBE.out).drew, e0, e1, e2, e3, o0, o1, o2, o3, fun h => absurd h (by decide), fun h => absurd h (by decide), fun h => absurd h (by decide), fun h => absurd h (by decide)⟩ ?_
    iterate 4 (refine wpFreeL_val rfl (fun _ _ _ h => h) (fun K hK => ?_); apply Exists.intro; refine ⟨fun L w' hS => ?_, ?_⟩; (have hb := hS.1; have g0 := hS.2.1; have g1 := hS.2.2.1; have g2 := hS.2.2.2.1; have g3 := hS.2.2.2.2.1; have o0 := hS.2.2.2.2.2.1; have o1 := hS.2.2.2.2.2.2.1; have o2 := hS.2.2.2.2.2.2.2.1; have o3 := hS.2.2.2.2.2.2.2.2.1; clear hS; go_simp; rfl); (go_simp; refine hK _ ?_; clear hK K))
    refine wpFreeL_gen rfl (fun K hK => ?_); apply Exists.intro; refine ⟨fun L w' hcl hL hdep hS => ?_, ?_⟩
    · have hb := hS.1; have g0 := hS.2.1; have g1 := hS.2.2.1; have g2 := hS.2.2.2.1; have g3 := hS.2.2.2.2.1; have o0 := hS.2.2.2.2.2.1; have o1 := hS.2.2.2.2.2.2.1; have o2 := hS.2.2.2.2.2.2.2.1; have o3 := hS.2.2.2.2.2.2.2.2.1; have s0 := hS.2.2.2.2.2.2.2.2.2.1; have s1 := hS.2.2.2.2.2.2.2.2.2.2.1; have s2 := hS.2.2.2.2.2.2.2.2.2.2.2.1; have s3 := hS.2.2.2.2.2.2.2.2.2.2.2.2; go_simp; refine (HPG.out _).mono ?_; rintro e w1 ⟨rfl, hb1⟩; exact ⟨rfl, ⟨hb.trans (hb1.mono (by have := hb.size; omega)), keepc hb1 g0, keepc hb1 g1, keepc hb1 g2, keepc hb1 g3, keepOwn hb1 o0, keepOwn hb1 o1, keepOwn hb1 o2, keepOwn hb1 o3, fun h => keepc hb1 (s0 h), fun h => keepc hb1 (s1 h), fun h => keepc hb1 (s2 h), fun h => keepc hb1 (s3 h)⟩⟩
    go_simp; refine hK _ ?_; clear hK K
    iterate 3 (refine wpFreeL_val rfl (fun _ _ _ h => h) (fun K hK => ?_); apply Exists.intro; refine ⟨fun L w' hS => ?_, ?_⟩; (have hb := hS.1; have g0 := hS.2.1; have g1 := hS.2.2.1; have g2 := hS.2.2.2.1; have g3 := hS.2.2.2.2.1; have o0 := hS.2.2.2.2.2.1; have o1 := hS.2.2.2.2.2.2.1; have o2 := hS.2.2.2.2.2.2.2.1; have o3 := hS.2.2.2.2.2.2.2.2.1; clear hS; go_simp; rfl); (go_simp; refine hK _ ?_; clear hK K))
    refine wpFreeL_gen rfl (fun K hK => ?_); refine ⟨undef, fun L w' _ hL hdep hS => ?_, ?_⟩
    · have hb := hS.1; have g0 := hS.2.1; have g1 := hS.2.2.1; have g2 := hS.2.2.2.1; have g3 := hS.2.2.2.2.1; have o0 := hS.2.2.2.2.2.1; have o1 := hS.2.2.2.2.2.2.1; have o2 := hS.2.2.2.2.2.2.2.1; have o3 := hS.2.2.2.2.2.2.2.2.1; have s0 := hS.2.2.2.2.2.2.2.2.2.1; have s1 := hS.2.2.2.2.2.2.2.2.2.2.1; have s2 := hS.2.2.2.2.2.2.2.2.2.2.2.1; have s3 := hS.2.2.2.2.2.2.2.2.2.2.2.2; clear hS
      have o0' := o0; obtain ⟨⟨u0, e0⟩, f0⟩ := o0'
      have o1' := o1; obtain ⟨⟨u1, e1⟩, f1⟩ := o1'
      have o2' := o2; obtain ⟨⟨u2, e2⟩, f2⟩ := o2'
      have o3' := o3; obtain ⟨⟨u3, e3⟩, f3⟩ := o3'
      go_simp
      refine ⟨rfl, ⟨(Below.setCell (p := ⟨Y, 3, none⟩) (Below.setCell (p := ⟨Y, 2, none⟩) (Below.setCell (p := ⟨Y, 1, none⟩) (Below.setCell (p := ⟨Y, 0, none⟩) hb (by dsimp only; omega) _) (by dsimp only; omega) _) (by dsimp only; omega) _) (by dsimp only; omega) _), by go_simp, by go_simp, by go_simp, by go_simp, ((((o0.set _ _).set _ _).set _ _).set _ _), ((((o1.set _ _).set _ _).set _ _).set _ _), ((((o2.set _ _).set _ _).set _ _).set _ _), ((((o3.set _ _).set _ _).set _ _).set _ _), fun _ => by go_simp, fun _ => by go_simp, fun _ => by go_simp, fun _ => by go_simp⟩⟩
    go_simp; refine hK _ ?_; clear hK K
    refine wpFreeL_val rfl (fun _ _ _ h => h) (fun K hK => ?_); apply Exists.intro; refine ⟨fun L w' hS => ?_, ?_⟩; (have hb := hS.1; have g0 := hS.2.1; have g1 := hS.2.2.1; have g2 := hS.2.2.2.1; have g3 := hS.2.2.2.2.1; have o0 := hS.2.2.2.2.2.1; have o1 := hS.2.2.2.2.2.2.1; have o2 := hS.2.2.2.2.2.2.2.1; have o3 := hS.2.2.2.2.2.2.2.2.1; clear hS; go_simp; rfl); (go_simp; refine hK _ ?_; clear hK K)
    refine wpFreeL_nil (fun L w' hL hS => ?_)
    have hb := hS.1; have g0 := hS.2.1; have g1 := hS.2.2.1; have g2 := hS.2.2.2.1; have g3 := hS.2.2.2.2.1; have o0 := hS.2.2.2.2.2.1; have o1 := hS.2.2.2.2.2.2.1; have o2 := hS.2.2.2.2.2.2.2.1; have o3 := hS.2.2.2.2.2.2.2.2.1; have s0 := hS.2.2.2.2.2.2.2.2.2.1 (hL 8 (by decide)); have s1 := hS.2.2.2.2.2.2.2.2.2.2.1 (hL 8 (by decide)); have s2 := hS.2.2.2.2.2.2.2.2.2.2.2.1 (hL 8 (by decide)); have s3 := hS.2.2.2.2.2.2.2.2.2.2.2.2 (hL 8 (by decide))
    clear hL hS
    go_wp2_with fail
    try rw [HQ.out]
    exact bodyPost_ret (v := .tuple #[hdV (a, b, c, e), .bool true]) (by simp [results, Tryz.results42, go_sem, s0, s1, s2, s3, hdV]) rfl ⟨rfl, hb⟩
end Go.Proofs.YtifcgimpgbeocaaGreat
