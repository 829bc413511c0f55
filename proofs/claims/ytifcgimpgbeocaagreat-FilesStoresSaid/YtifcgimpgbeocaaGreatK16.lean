/- read: the head that a page is. -/
import Derived.Test.YtifcgimpgbeocaaGreatK15
import Derived.Test.YtifcgimpgbeocaaGreatK9
set_option linter.unusedVariables false
set_option linter.unusedSimpArgs false
namespace Go.Proofs.YtifcgimpgbeocaaGreat
open Go.RowKit
attribute [local go_sem] Oper.semAt_some
theorem keep_alloc {w : World} {a : Addr} {v : Value} (h : w.cell? a = some v) (o : Obj) : (w.alloc o).cell? a = some v := Lib.cell?_alloc_some o h
theorem own_new4 (W : World) (t : TypeId) (a b c d : Value) (k : Nat) (h : k < 4) : OwnC (W.alloc (.cells #[a, b, c, d] t)) ⟨W.heap.size, k, none⟩ := ownc_new W #[a, b, c, d] t k (by simpa using h)
theorem qset4 {B b : Nat} {W w : World} (h : Below B W w) (hb : B ≤ b) (v0 v1 v2 v3 : Value) : Below B W ((((w.setCell ⟨b, 0, none⟩ v0).setCell ⟨b, 1, none⟩ v1).setCell ⟨b, 2, none⟩ v2).setCell ⟨b, 3, none⟩ v3) :=
  (((h.setCell (by exact hb) _).setCell (by exact hb) _).setCell (by exact hb) _).setCell (by exact hb) _
set_option maxHeartbeats 4000000 in
set_option maxRecDepth 100000 in
theorem dread_any (d : Dk) (vp vq : Value) (p : Nat) (w : World) (hp : RdS w vp d.1) (hq : RdW w vq d.2) (hd : isDk d = true) (hp1 : p ≤ 1) (hl : d.2.length ≤ 1000000000) :
    Calls Tryz.prog 35 #[.agg #[vp, vq], .int .i64 (p : Int)] w (Ret (.tuple #[hdV (headOf (wrt d p)), .bool (headOk (wrt d p) p (halfN d.1.length))]) w) := by
  have hlen := isDk_len hd
  have HWR := hid (fun w' (hb : Below w.heap.size w w') => written_any d vp vq p w' (hp.below hb) (hq.below hb) (by omega) hlen.2 hl)
  have hsl : (wrt d p).length = 64 := wrt_len hd (by omega)
  obtain ⟨op, cp, rfl, -, -⟩ := hp
  obtain ⟨oq, cq, rfl, -, -⟩ := hq
  obtain ⟨N, hN⟩ : ∃ N, d.1.length = N := ⟨_, rfl⟩
  obtain ⟨M, hM⟩ : ∃ M, d.2.length = M := ⟨_, rfl⟩
  obtain ⟨s, hs⟩ : ∃ s, wrt d p = s := ⟨_, rfl⟩
  rw [hs] at hsl ⊢
  simp only [hN, hM, hs] at HWR hlen ⊢
  clear hd hl hN hM hs
  have HHF := hid (fun w' => half_any op N cp (.slice oq M cq) w' hlen.1 hlen.2)
  have hhb : halfN N ≤ 2047 := by unfold halfN; omega
  have HNN : Hid (∀ (i : Int) X w' (hi : i = 0 ∨ i = 8) (hX : World.cell? w' ⟨X, 0, none⟩ = some (strV s)), Calls Tryz.prog 81 #[.int .i64 i, .pointer (some ⟨X, 0, none⟩)] w' (fun e w'' => e = .returned (.int .i64 (if i = 0 then (num4 s 0 : Nat) else (num4 s 8 : Nat))) ∧ ∃ m, w'' = w'.drewN m)) := fun i X w' hi hX => by
    rcases hi with rfl | rfl
    · exact readnum_q s 0 X w' hX hsl (by omega)
    · exact readnum_q s 8 X w' hX hsl (by omega)
  have x4 : ∀ w : World, (Instr.index 9 (strV s) (.int .i64 4)).run Tryz.prog w = .ok (.int .u8 (byteAt s 4)) w := fun w => strv_at s 4 .i64 (by omega) w
  have x5 : ∀ w : World, (Instr.index 9 (strV s) (.int .i64 5)).run Tryz.prog w = .ok (.int .u8 (byteAt s 5)) w := fun w => strv_at s 5 .i64 (by omega) w
  have z4 := byteAt_lt s 4
  have z5 := byteAt_lt s 5
  have z0 := num4_lt s 0
  have z8 := num4_lt s 8
  have HHD : Hid (headOf s = (num4 s 0, byteAt s 4, byteAt s 5, num4 s 8)) := rfl
  have HOK : Hid (headOk s p (halfN N) = (hdOk (headOf s) p (halfN N) && (headPg (headOf s) == s))) := rfl
  rw [HHD.out] at HOK ⊢
  obtain ⟨R, hR⟩ : ∃ R, headOk s p (halfN N) = R := ⟨_, rfl⟩
  rw [hR] at HOK ⊢
  clear hR HHD
  generalize num4 s 0 = a at *
  generalize byteAt s 4 = b at *
  generalize byteAt s 5 = c at *
  generalize num4 s 8 = e at *
  clear hsl
  have HPG := hid (fun w' => page_any (a, b, c, e) w' (by simp only; omega) (by simp only; omega) (by simp only; omega) (by simp only; omega))
  have u4 : IntKind.i64.wrap (b : Int) = (b : Int) := IntWalk.i64_in _ ⟨by omega, by omega⟩
  have u5 : IntKind.i64.wrap (c : Int) = (c : Int) := IntWalk.i64_in _ ⟨by omega, by omega⟩
  have Z0 := hid z0; have Z4 := hid z4; have Z5 := hid z5; have Z8 := hid z8
  clear z0 z4 z5 z8
  obtain ⟨Z, hZ⟩ : ∃ Z, headPg (a, b, c, e) = Z := ⟨_, rfl⟩
  rw [hZ] at HPG HOK
  clear hZ
  go_enter Tryz.func35, Tryz.ntmps35
  go_wp2_with fail
  obtain ⟨W, hW⟩ : ∃ W, W = w.alloc (.cells #[.slice op N cp, .slice oq M cq] 25) := ⟨_, rfl⟩
  have hzz : w.heap.size + 1 = W.heap.size := by rw [hW]; simp
  have HBW0 : Hid (Below w.heap.size w W) := by rw [hW]; exact balloc (Below.refl _ _) _
  have k0 : W.cell? ⟨w.heap.size, 0, none⟩ = some (.slice op N cp) := by rw [hW]; exact cell_new _ _ _ 0 _ rfl
  have k1 : W.cell? ⟨w.heap.size, 1, none⟩ = some (.slice oq M cq) := by rw [hW]; exact cell_new _ _ _ 1 _ rfl
  simp only [← hW, hzz]
  clear hW
  have K0 := hid k0; have K1 := hid k1
  have HO0 := hid (own_new4 W 82 (.int .i64 0) (.int .i64 0) (.int .i64 0) (.int .i64 0))
  refine (HWR.out _ (below_step ((Below.refl _ _).alloc (Nat.le_refl _) _) HBW0.out)).mono ?_
  rintro e1 w1 ⟨rfl, hb1⟩
  have HB1 : Hid (Below W.heap.size W w1) := below_step hb1 ((Below.refl _ _).alloc (Nat.le_refl _) _)
  have HO1 : Hid (∀ k, k < 4 → OwnC w1 ⟨W.heap.size, k, none⟩) := fun k hk => keepOwn hb1 (HO0.out k hk)
  have hz1 : W.heap.size + 1 ≤ w1.heap.size := by have := hb1.size; simpa using this
  clear hb1 HO0 HWR k0 k1
  obtain ⟨W1, hW1⟩ : ∃ W1, W1 = w1.alloc (.cells #[.string ⟨s.toArray⟩] 9) := ⟨_, rfl⟩
  obtain ⟨X, hX⟩ : ∃ X, w1.heap.size = X := ⟨_, rfl⟩
  have hXW : W1.heap.size = X + 1 := by rw [hW1, ← hX]; simp
  have kx : W1.cell? ⟨X, 0, none⟩ = some (strV s) := by rw [hW1, ← hX]; exact cell_new _ _ _ 0 _ rfl
  have HBW1 : Hid (Below W.heap.size W W1) := by rw [hW1]; exact balloc HB1.out _
  have HOW1 : Hid (∀ k, k < 4 → OwnC W1 ⟨W.heap.size, k, none⟩) := fun k hk => by rw [hW1]; exact keepOwn ((Below.refl _ _).alloc (Nat.le_refl _) _) (HO1.out k hk)
  have hzx : W.heap.size < X := by omega
  have HXW := hid hXW
  have hne1 : ¬ X = W1.heap.size := by omega
  have hne2 : ¬ W1.heap.size = X := by omega
  clear hXW
  go_upto_region 3 with fail
  simp only [← hW1, hX]
  clear hW1 hX HO1 HB1 hz1
  go_cut [8] (fun v8 wx => v8 = .pointer (some ⟨W1.heap.size, 0, none⟩) ∧ Hid (Below W1.heap.size W1 wx) ∧ wx.cell? ⟨W1.heap.size, 0, none⟩ = some (.int .i64 (a : Int)) ∧ wx.cell? ⟨W1.heap.size, 1, none⟩ = some (.int .i64 (b : Int)) ∧ wx.cell? ⟨W1.heap.size, 2, none⟩ = some (.int .i64 (c : Int)) ∧ wx.cell? ⟨W1.heap.size, 3, none⟩ = some (.int .i64 (e : Int)))
  case first =>
    refine (fun hm hB S hS h => wp_region_freeL S hm hB hS h) (by kernel_rfl) (by kernel_rfl) (fun L w' => Below W1.heap.size W1 w' ∧ w'.cell? ⟨X, 0, none⟩ = some (strV s) ∧ w'.heap.size = W1.heap.size + (if L 11 = true then 1 else 0) ∧ (L 11 = true → OwnC w' ⟨W1.heap.size, 0, none⟩ ∧ OwnC w' ⟨W1.heap.size, 1, none⟩ ∧ OwnC w' ⟨W1.heap.size, 2, none⟩ ∧ OwnC w' ⟨W1.heap.size, 3, none⟩) ∧ (L 12 = true → w'.cell? ⟨W1.heap.size, 0, none⟩ = some (.int .i64 (a : Int)) ∧ w'.cell? ⟨W1.heap.size, 1, none⟩ = some (.int .i64 (b : Int)) ∧ w'.cell? ⟨W1.heap.size, 2, none⟩ = some (.int .i64 (c : Int)) ∧ w'.cell? ⟨W1.heap.size, 3, none⟩ = some (.int .i64 (e : Int)))) ⟨((Below.refl W1.heap.size W1)).drew, kx, rfl, fun h => absurd h (by decide), fun h => absurd h (by decide)⟩ ?_
    refine wpFreeL_val rfl (fun _ _ _ h => h) (fun K hK => ?_); apply Exists.intro; refine ⟨fun L w' hS => ?_, ?_⟩; (have hb := hS.1; have g0 := hS.2.1; clear hS; go_simp; rfl); (go_simp; refine hK _ ?_; clear hK K)
    refine wpFreeL_gen rfl (fun K hK => ?_); apply Exists.intro; refine ⟨fun L w' hcl hL hdep hS => ?_, ?_⟩
    · have hb := hS.1; have g0 := hS.2.1; have hz := hS.2.2.1; have ho := hS.2.2.2.1; have hs := hS.2.2.2.2; clear hS; go_simp; refine (HNN.out _ _ _ (by decide) g0).mono ?_; rintro e1 w1 ⟨rfl, m, rfl⟩; exact ⟨rfl, below_drewN hb m, g0, hz, ho, hs⟩
    go_simp; refine hK _ ?_; clear hK K
    iterate 7 (refine wpFreeL_val rfl (fun _ _ _ h => h) (fun K hK => ?_); apply Exists.intro; refine ⟨fun L w' hS => ?_, ?_⟩; (have hb := hS.1; have g0 := hS.2.1; clear hS; go_simp; rfl); (go_simp; refine hK _ ?_; clear hK K))
    refine wpFreeL_gen rfl (fun K hK => ?_); apply Exists.intro; refine ⟨fun L w' hcl hL hdep hS => ?_, ?_⟩
    · have hb := hS.1; have g0 := hS.2.1; have hz := hS.2.2.1; have ho := hS.2.2.2.1; have hs := hS.2.2.2.2; clear hS; go_simp; refine (HNN.out _ _ _ (by decide) g0).mono ?_; rintro e1 w1 ⟨rfl, m, rfl⟩; exact ⟨rfl, below_drewN hb m, g0, hz, ho, hs⟩
    go_simp; refine hK _ ?_; clear hK K
    refine wpFreeL_val rfl (fun _ _ _ h => h) (fun K hK => ?_); apply Exists.intro; refine ⟨fun L w' hS => ?_, ?_⟩; (have hb := hS.1; have g0 := hS.2.1; clear hS; go_simp; rfl); (go_simp; refine hK _ ?_; clear hK K)
    refine wpFreeL_gen rfl (fun K hK => ?_); refine ⟨.pointer (some ⟨W1.heap.size, 0, none⟩), fun L w' _ hL _ hS => ?_, ?_⟩
    · have hb := hS.1; have g0 := hS.2.1; have hz := hS.2.2.1; have hs := hS.2.2.2.2; clear hS
      rw [hL] at hz; rw [if_neg (by simp), Nat.add_zero] at hz
      have hno : L 12 = true → False := fun h => by have h1 := (hs h).1; have := World.block_lt_of_cell? _ _ h1; simp only at this; omega
      clear hs
      go_simp
      refine ⟨rfl, ⟨hb.alloc (by omega) _, keep_alloc g0 _, ?_, ?_, ?_⟩⟩
      · simp [hz, addTo]
      · intro _; rw [← hz]; refine ⟨ownc_new _ _ _ 0 (by decide), ownc_new _ _ _ 1 (by decide), ownc_new _ _ _ 2 (by decide), ownc_new _ _ _ 3 (by decide)⟩
      · intro h; exact (hno h).elim
    go_simp; refine hK _ ?_; clear hK K
    refine wpFreeL_gen rfl (fun K hK => ?_); refine ⟨undef, fun L w' _ hL hdep hS => ?_, ?_⟩
    · have hb := hS.1; have g0 := hS.2.1; have hz := hS.2.2.1; have ho := hS.2.2.2.1; clear hS
      have hal : L 11 = true := (hdep ⟨11, .data⟩ (by simp) rfl)
      have hoo := ho hal; have n0 := hoo.1; have n1 := hoo.2.1; have n2 := hoo.2.2.1; have n3 := hoo.2.2.2
      have n0' := n0; obtain ⟨⟨u0, e0⟩, f0⟩ := n0'
      have n1' := n1; obtain ⟨⟨u1, e1⟩, f1⟩ := n1'
      have n2' := n2; obtain ⟨⟨u2, e2⟩, f2⟩ := n2'
      have n3' := n3; obtain ⟨⟨u3, e3⟩, f3⟩ := n3'
      rw [hal, if_pos rfl] at hz
      go_simp
      refine ⟨rfl, ⟨(Below.setCell (p := ⟨W1.heap.size, _, none⟩) (Below.setCell (p := ⟨W1.heap.size, _, none⟩) (Below.setCell (p := ⟨W1.heap.size, _, none⟩) (Below.setCell (p := ⟨W1.heap.size, _, none⟩) hb (by show W1.heap.size ≤ W1.heap.size; omega) _) (by show W1.heap.size ≤ W1.heap.size; omega) _) (by show W1.heap.size ≤ W1.heap.size; omega) _) (by show W1.heap.size ≤ W1.heap.size; omega) _), by go_simp, ?_, ?_, ?_⟩⟩
      · simp [World.setCell, addTo, hz, hal]
      · intro _; exact ⟨((((n0.set _ _).set _ _).set _ _).set _ _), ((((n1.set _ _).set _ _).set _ _).set _ _), ((((n2.set _ _).set _ _).set _ _).set _ _), ((((n3.set _ _).set _ _).set _ _).set _ _)⟩
      · intro _; exact ⟨by go_simp, by go_simp, by go_simp, by go_simp⟩
    go_simp; refine hK _ ?_; clear hK K
    refine wpFreeL_nil (fun L w' hL hS => ?_)
    have hb := hS.1; have g0 := hS.2.1
    have hz := hS.2.2.1; rw [hL 11 (by decide), if_pos rfl] at hz; have hss := hS.2.2.2.2 (hL 12 (by decide)); have hoo := hS.2.2.2.1 (hL 11 (by decide)); have r0 := hss.1; have r1 := hss.2.1; have r2 := hss.2.2.1; have r3 := hss.2.2.2; have n0 := hoo.1; have n1 := hoo.2.1; have n2 := hoo.2.2.1; have n3 := hoo.2.2.2; clear hss hoo
    clear hL hS
    go_wp2_with fail
    go_meet
    trace_state
    case rel => exact ⟨rfl, hb, r0, r1, r2, r3⟩
  case rest =>
    obtain ⟨rfl, HBC, e0, e1, e2, e3⟩ := hcut
    have hneW : ¬ W.heap.size = w.heap.size := by omega
    have hneW' : ¬ w.heap.size = W.heap.size := by omega
    have hneX : ¬ W.heap.size = X := by omega
    have hneX' : ¬ X = W.heap.size := by omega
    have hne3 : ¬ W.heap.size = W1.heap.size := by have := HXW.out; omega
    have hne4 : ¬ W1.heap.size = W.heap.size := by have := HXW.out; omega
    have c0 := keepc HBC.out (keepc HBW1.out K0.out)
    have c1 := keepc HBC.out (keepc HBW1.out K1.out)
    have cx := keepc HBC.out kx
    have HOC : ∀ k, k < 4 → OwnC wc ⟨W.heap.size, k, none⟩ := fun k hk => keepOwn HBC.out (HOW1.out k hk)
    have o0 := HOC 0 (by decide)
    have o1 := HOC 1 (by decide)
    have o2 := HOC 2 (by decide)
    have o3 := HOC 3 (by decide)
    have hbW : Below W.heap.size W wc := HBW1.out.trans (HBC.out.mono HBW1.out.size)
    clear HOC hzx kx HBW1 HOW1 HBC HXW hne1 hne2 HNN x4 x5 u4 u5
    have m2 : (a : Int).tmod 2 = ((a % 2 : Nat) : Int) := by rw [Int.tmod_eq_emod_of_nonneg (by omega)]; omega
    have w2 : IntKind.i64.wrap ((a % 2 : Nat) : Int) = ((a % 2 : Nat) : Int) := IntWalk.i64_in _ ⟨by omega, by omega⟩
    have w6 : IntKind.i64.wrap (64 * ((halfN N : Nat) : Int)) = 64 * ((halfN N : Nat) : Int) := IntWalk.i64_in _ ⟨by omega, by omega⟩
    have HDK : Hid (hdOk (a, b, c, e) p (halfN N) = decide (1 ≤ a ∧ a % 2 = p ∧ b ≤ 1 ∧ 1 ≤ c ∧ c ≤ 8 ∧ e ≤ 64 * halfN N)) := rfl
    by_cases t1 : 1 ≤ a
    rotate_left
    · have g1 : decide ((1 : Int) ≤ (a : Int)) = false := by simp; omega
      have HR : Hid (R = false) := by unfold Hid; rw [HOK.out, HDK.out]; simp [t1]
      clear t1
      go_wp2_with fail
      refine (fun hm hB S hS h => wp_region_freeL S hm hB hS h) (by kernel_rfl) (by kernel_rfl) (fun L w' => Below W.heap.size W w' ∧ w'.cell? ⟨w.heap.size, 0, none⟩ = some (.slice op N cp) ∧ w'.cell? ⟨w.heap.size, 1, none⟩ = some (.slice oq M cq) ∧ w'.cell? ⟨X, 0, none⟩ = some (strV s) ∧ w'.cell? ⟨W1.heap.size, 0, none⟩ = some (.int .i64 (a : Int)) ∧ w'.cell? ⟨W1.heap.size, 1, none⟩ = some (.int .i64 (b : Int)) ∧ w'.cell? ⟨W1.heap.size, 2, none⟩ = some (.int .i64 (c : Int)) ∧ w'.cell? ⟨W1.heap.size, 3, none⟩ = some (.int .i64 (e : Int)) ∧ OwnC w' ⟨W.heap.size, 0, none⟩ ∧ OwnC w' ⟨W.heap.size, 1, none⟩ ∧ OwnC w' ⟨W.heap.size, 2, none⟩ ∧ OwnC w' ⟨W.heap.size, 3, none⟩ ∧ (L 40 = true → w'.cell? ⟨W.heap.size, 0, none⟩ = some (.int .i64 (a : Int))) ∧ (L 40 = true → w'.cell? ⟨W.heap.size, 1, none⟩ = some (.int .i64 (b : Int))) ∧ (L 40 = true → w'.cell? ⟨W.heap.size, 2, none⟩ = some (.int .i64 (c : Int))) ∧ (L 40 = true → w'.cell? ⟨W.heap.size, 3, none⟩ = some (.int .i64 (e : Int)))) ⟨(hbW).drew, c0, c1, cx, e0, e1, e2, e3, o0, o1, o2, o3, fun h => absurd h (by decide), fun h => absurd h (by decide), fun h => absurd h (by decide), fun h => absurd h (by decide)⟩ ?_
      iterate 5 (refine wpFreeL_val rfl (fun _ _ _ h => h) (fun K hK => ?_); apply Exists.intro; refine ⟨fun L w' hS => ?_, ?_⟩; (have hb := hS.1; have g0 := hS.2.1; have g1 := hS.2.2.1; have g2 := hS.2.2.2.1; have g3 := hS.2.2.2.2.1; have g4 := hS.2.2.2.2.2.1; have g5 := hS.2.2.2.2.2.2.1; have g6 := hS.2.2.2.2.2.2.2.1; have o0 := hS.2.2.2.2.2.2.2.2.1; have o1 := hS.2.2.2.2.2.2.2.2.2.1; have o2 := hS.2.2.2.2.2.2.2.2.2.2.1; have o3 := hS.2.2.2.2.2.2.2.2.2.2.2.1; clear hS; go_simp; rfl); (go_simp; refine hK _ ?_; clear hK K))
      iterate 5 (refine wpFreeL_skip rfl (fun _ _ _ h => h) (fun K hK => ?_); go_simp; refine hK _ ?_; clear hK K)
      iterate 2 (refine wpFreeL_val rfl (fun _ _ _ h => h) (fun K hK => ?_); apply Exists.intro; refine ⟨fun L w' hS => ?_, ?_⟩; (have hb := hS.1; have g0 := hS.2.1; have g1 := hS.2.2.1; have g2 := hS.2.2.2.1; have g3 := hS.2.2.2.2.1; have g4 := hS.2.2.2.2.2.1; have g5 := hS.2.2.2.2.2.2.1; have g6 := hS.2.2.2.2.2.2.2.1; have o0 := hS.2.2.2.2.2.2.2.2.1; have o1 := hS.2.2.2.2.2.2.2.2.2.1; have o2 := hS.2.2.2.2.2.2.2.2.2.2.1; have o3 := hS.2.2.2.2.2.2.2.2.2.2.2.1; clear hS; go_simp; rfl); (go_simp; refine hK _ ?_; clear hK K))
      iterate 3 (refine wpFreeL_skip rfl (fun _ _ _ h => h) (fun K hK => ?_); go_simp; refine hK _ ?_; clear hK K)
      iterate 2 (refine wpFreeL_val rfl (fun _ _ _ h => h) (fun K hK => ?_); apply Exists.intro; refine ⟨fun L w' hS => ?_, ?_⟩; (have hb := hS.1; have g0 := hS.2.1; have g1 := hS.2.2.1; have g2 := hS.2.2.2.1; have g3 := hS.2.2.2.2.1; have g4 := hS.2.2.2.2.2.1; have g5 := hS.2.2.2.2.2.2.1; have g6 := hS.2.2.2.2.2.2.2.1; have o0 := hS.2.2.2.2.2.2.2.2.1; have o1 := hS.2.2.2.2.2.2.2.2.2.1; have o2 := hS.2.2.2.2.2.2.2.2.2.2.1; have o3 := hS.2.2.2.2.2.2.2.2.2.2.2.1; clear hS; go_simp; rfl); (go_simp; refine hK _ ?_; clear hK K))
      iterate 3 (refine wpFreeL_skip rfl (fun _ _ _ h => h) (fun K hK => ?_); go_simp; refine hK _ ?_; clear hK K)
      iterate 2 (refine wpFreeL_val rfl (fun _ _ _ h => h) (fun K hK => ?_); apply Exists.intro; refine ⟨fun L w' hS => ?_, ?_⟩; (have hb := hS.1; have g0 := hS.2.1; have g1 := hS.2.2.1; have g2 := hS.2.2.2.1; have g3 := hS.2.2.2.2.1; have g4 := hS.2.2.2.2.2.1; have g5 := hS.2.2.2.2.2.2.1; have g6 := hS.2.2.2.2.2.2.2.1; have o0 := hS.2.2.2.2.2.2.2.2.1; have o1 := hS.2.2.2.2.2.2.2.2.2.1; have o2 := hS.2.2.2.2.2.2.2.2.2.2.1; have o3 := hS.2.2.2.2.2.2.2.2.2.2.2.1; clear hS; go_simp; rfl); (go_simp; refine hK _ ?_; clear hK K))
      iterate 3 (refine wpFreeL_skip rfl (fun _ _ _ h => h) (fun K hK => ?_); go_simp; refine hK _ ?_; clear hK K)
      iterate 2 (refine wpFreeL_val rfl (fun _ _ _ h => h) (fun K hK => ?_); apply Exists.intro; refine ⟨fun L w' hS => ?_, ?_⟩; (have hb := hS.1; have g0 := hS.2.1; have g1 := hS.2.2.1; have g2 := hS.2.2.2.1; have g3 := hS.2.2.2.2.1; have g4 := hS.2.2.2.2.2.1; have g5 := hS.2.2.2.2.2.2.1; have g6 := hS.2.2.2.2.2.2.2.1; have o0 := hS.2.2.2.2.2.2.2.2.1; have o1 := hS.2.2.2.2.2.2.2.2.2.1; have o2 := hS.2.2.2.2.2.2.2.2.2.2.1; have o3 := hS.2.2.2.2.2.2.2.2.2.2.2.1; clear hS; go_simp; rfl); (go_simp; refine hK _ ?_; clear hK K))
      iterate 6 (refine wpFreeL_skip rfl (fun _ _ _ h => h) (fun K hK => ?_); go_simp; refine hK _ ?_; clear hK K)
      iterate 2 (refine wpFreeL_val rfl (fun _ _ _ h => h) (fun K hK => ?_); apply Exists.intro; refine ⟨fun L w' hS => ?_, ?_⟩; (have hb := hS.1; have g0 := hS.2.1; have g1 := hS.2.2.1; have g2 := hS.2.2.2.1; have g3 := hS.2.2.2.2.1; have g4 := hS.2.2.2.2.2.1; have g5 := hS.2.2.2.2.2.2.1; have g6 := hS.2.2.2.2.2.2.2.1; have o0 := hS.2.2.2.2.2.2.2.2.1; have o1 := hS.2.2.2.2.2.2.2.2.2.1; have o2 := hS.2.2.2.2.2.2.2.2.2.2.1; have o3 := hS.2.2.2.2.2.2.2.2.2.2.2.1; clear hS; go_simp; rfl); (go_simp; refine hK _ ?_; clear hK K))
      iterate 4 (refine wpFreeL_skip rfl (fun _ _ _ h => h) (fun K hK => ?_); go_simp; refine hK _ ?_; clear hK K)
      refine wpFreeL_val rfl (fun _ _ _ h => h) (fun K hK => ?_); apply Exists.intro; refine ⟨fun L w' hS => ?_, ?_⟩; (have hb := hS.1; have g0 := hS.2.1; have g1 := hS.2.2.1; have g2 := hS.2.2.2.1; have g3 := hS.2.2.2.2.1; have g4 := hS.2.2.2.2.2.1; have g5 := hS.2.2.2.2.2.2.1; have g6 := hS.2.2.2.2.2.2.2.1; have o0 := hS.2.2.2.2.2.2.2.2.1; have o1 := hS.2.2.2.2.2.2.2.2.2.1; have o2 := hS.2.2.2.2.2.2.2.2.2.2.1; have o3 := hS.2.2.2.2.2.2.2.2.2.2.2.1; clear hS; go_simp; rfl); (go_simp; refine hK _ ?_; clear hK K)
      refine wpFreeL_gen rfl (fun K hK => ?_); refine ⟨undef, fun L w' _ hL hdep hS => ?_, ?_⟩
      · have hb := hS.1; have g0 := hS.2.1; have g1 := hS.2.2.1; have g2 := hS.2.2.2.1; have g3 := hS.2.2.2.2.1; have g4 := hS.2.2.2.2.2.1; have g5 := hS.2.2.2.2.2.2.1; have g6 := hS.2.2.2.2.2.2.2.1; have o0 := hS.2.2.2.2.2.2.2.2.1; have o1 := hS.2.2.2.2.2.2.2.2.2.1; have o2 := hS.2.2.2.2.2.2.2.2.2.2.1; have o3 := hS.2.2.2.2.2.2.2.2.2.2.2.1; have s0 := hS.2.2.2.2.2.2.2.2.2.2.2.2.1; have s1 := hS.2.2.2.2.2.2.2.2.2.2.2.2.2.1; have s2 := hS.2.2.2.2.2.2.2.2.2.2.2.2.2.2.1; have s3 := hS.2.2.2.2.2.2.2.2.2.2.2.2.2.2.2; clear hS
        have o0' := o0; obtain ⟨⟨u0, e0⟩, f0⟩ := o0'
        have o1' := o1; obtain ⟨⟨u1, e1⟩, f1⟩ := o1'
        have o2' := o2; obtain ⟨⟨u2, e2⟩, f2⟩ := o2'
        have o3' := o3; obtain ⟨⟨u3, e3⟩, f3⟩ := o3'
        go_simp
        refine ⟨rfl, ⟨(Below.setCell (p := ⟨W.heap.size, 3, none⟩) (Below.setCell (p := ⟨W.heap.size, 2, none⟩) (Below.setCell (p := ⟨W.heap.size, 1, none⟩) (Below.setCell (p := ⟨W.heap.size, 0, none⟩) hb (by dsimp only; omega) _) (by dsimp only; omega) _) (by dsimp only; omega) _) (by dsimp only; omega) _), by go_simp, by go_simp, by go_simp, by go_simp, by go_simp, by go_simp, by go_simp, ((((o0.set _ _).set _ _).set _ _).set _ _), ((((o1.set _ _).set _ _).set _ _).set _ _), ((((o2.set _ _).set _ _).set _ _).set _ _), ((((o3.set _ _).set _ _).set _ _).set _ _), fun _ => by go_simp, fun _ => by go_simp, fun _ => by go_simp, fun _ => by go_simp⟩⟩
      go_simp; refine hK _ ?_; clear hK K
      refine wpFreeL_val rfl (fun _ _ _ h => h) (fun K hK => ?_); apply Exists.intro; refine ⟨fun L w' hS => ?_, ?_⟩; (have hb := hS.1; have g0 := hS.2.1; have g1 := hS.2.2.1; have g2 := hS.2.2.2.1; have g3 := hS.2.2.2.2.1; have g4 := hS.2.2.2.2.2.1; have g5 := hS.2.2.2.2.2.2.1; have g6 := hS.2.2.2.2.2.2.2.1; have o0 := hS.2.2.2.2.2.2.2.2.1; have o1 := hS.2.2.2.2.2.2.2.2.2.1; have o2 := hS.2.2.2.2.2.2.2.2.2.2.1; have o3 := hS.2.2.2.2.2.2.2.2.2.2.2.1; clear hS; go_simp; rfl); (go_simp; refine hK _ ?_; clear hK K)
      refine wpFreeL_nil (fun L w' hL hS => ?_)
      have hb := hS.1; have g0 := hS.2.1; have g1 := hS.2.2.1; have g2 := hS.2.2.2.1; have g3 := hS.2.2.2.2.1; have g4 := hS.2.2.2.2.2.1; have g5 := hS.2.2.2.2.2.2.1; have g6 := hS.2.2.2.2.2.2.2.1; have o0 := hS.2.2.2.2.2.2.2.2.1; have o1 := hS.2.2.2.2.2.2.2.2.2.1; have o2 := hS.2.2.2.2.2.2.2.2.2.2.1; have o3 := hS.2.2.2.2.2.2.2.2.2.2.2.1; have s0 := hS.2.2.2.2.2.2.2.2.2.2.2.2.1 (hL 40 (by decide)); have s1 := hS.2.2.2.2.2.2.2.2.2.2.2.2.2.1 (hL 40 (by decide)); have s2 := hS.2.2.2.2.2.2.2.2.2.2.2.2.2.2.1 (hL 40 (by decide)); have s3 := hS.2.2.2.2.2.2.2.2.2.2.2.2.2.2.2 (hL 40 (by decide))
      clear hL hS
      go_wp2_with fail
      rw [HR.out]
      exact bodyPost_ret (v := .tuple #[hdV (a, b, c, e), .bool false]) (by simp [results, Tryz.results35, go_sem, s0, s1, s2, s3, hdV]) rfl ⟨rfl, below_step hb HBW0.out⟩
    have g1 : decide ((1 : Int) ≤ (a : Int)) = true := by simp; omega
    by_cases t2 : a % 2 = p
    rotate_left
    · have g2 : ((a : Int) % 2 == (p : Int)) = false := by rw [beq_eq_false_iff_ne]; omega
      have HR : Hid (R = false) := by unfold Hid; rw [HOK.out, HDK.out]; simp [t2]
      clear t1 t2
      go_wp2_with fail
      refine (fun hm hB S hS h => wp_region_freeL S hm hB hS h) (by kernel_rfl) (by kernel_rfl) (fun L w' => Below W.heap.size W w' ∧ w'.cell? ⟨w.heap.size, 0, none⟩ = some (.slice op N cp) ∧ w'.cell? ⟨w.heap.size, 1, none⟩ = some (.slice oq M cq) ∧ w'.cell? ⟨X, 0, none⟩ = some (strV s) ∧ w'.cell? ⟨W1.heap.size, 0, none⟩ = some (.int .i64 (a : Int)) ∧ w'.cell? ⟨W1.heap.size, 1, none⟩ = some (.int .i64 (b : Int)) ∧ w'.cell? ⟨W1.heap.size, 2, none⟩ = some (.int .i64 (c : Int)) ∧ w'.cell? ⟨W1.heap.size, 3, none⟩ = some (.int .i64 (e : Int)) ∧ OwnC w' ⟨W.heap.size, 0, none⟩ ∧ OwnC w' ⟨W.heap.size, 1, none⟩ ∧ OwnC w' ⟨W.heap.size, 2, none⟩ ∧ OwnC w' ⟨W.heap.size, 3, none⟩ ∧ (L 40 = true → w'.cell? ⟨W.heap.size, 0, none⟩ = some (.int .i64 (a : Int))) ∧ (L 40 = true → w'.cell? ⟨W.heap.size, 1, none⟩ = some (.int .i64 (b : Int))) ∧ (L 40 = true → w'.cell? ⟨W.heap.size, 2, none⟩ = some (.int .i64 (c : Int))) ∧ (L 40 = true → w'.cell? ⟨W.heap.size, 3, none⟩ = some (.int .i64 (e : Int)))) ⟨(hbW).drew, c0, c1, cx, e0, e1, e2, e3, o0, o1, o2, o3, fun h => absurd h (by decide), fun h => absurd h (by decide), fun h => absurd h (by decide), fun h => absurd h (by decide)⟩ ?_
      iterate 12 (refine wpFreeL_val rfl (fun _ _ _ h => h) (fun K hK => ?_); apply Exists.intro; refine ⟨fun L w' hS => ?_, ?_⟩; (have hb := hS.1; have g0 := hS.2.1; have g1 := hS.2.2.1; have g2 := hS.2.2.2.1; have g3 := hS.2.2.2.2.1; have g4 := hS.2.2.2.2.2.1; have g5 := hS.2.2.2.2.2.2.1; have g6 := hS.2.2.2.2.2.2.2.1; have o0 := hS.2.2.2.2.2.2.2.2.1; have o1 := hS.2.2.2.2.2.2.2.2.2.1; have o2 := hS.2.2.2.2.2.2.2.2.2.2.1; have o3 := hS.2.2.2.2.2.2.2.2.2.2.2.1; clear hS; go_simp; rfl); (go_simp; refine hK _ ?_; clear hK K))
      iterate 3 (refine wpFreeL_skip rfl (fun _ _ _ h => h) (fun K hK => ?_); go_simp; refine hK _ ?_; clear hK K)
      iterate 2 (refine wpFreeL_val rfl (fun _ _ _ h => h) (fun K hK => ?_); apply Exists.intro; refine ⟨fun L w' hS => ?_, ?_⟩; (have hb := hS.1; have g0 := hS.2.1; have g1 := hS.2.2.1; have g2 := hS.2.2.2.1; have g3 := hS.2.2.2.2.1; have g4 := hS.2.2.2.2.2.1; have g5 := hS.2.2.2.2.2.2.1; have g6 := hS.2.2.2.2.2.2.2.1; have o0 := hS.2.2.2.2.2.2.2.2.1; have o1 := hS.2.2.2.2.2.2.2.2.2.1; have o2 := hS.2.2.2.2.2.2.2.2.2.2.1; have o3 := hS.2.2.2.2.2.2.2.2.2.2.2.1; clear hS; go_simp; rfl); (go_simp; refine hK _ ?_; clear hK K))
      iterate 3 (refine wpFreeL_skip rfl (fun _ _ _ h => h) (fun K hK => ?_); go_simp; refine hK _ ?_; clear hK K)
      iterate 2 (refine wpFreeL_val rfl (fun _ _ _ h => h) (fun K hK => ?_); apply Exists.intro; refine ⟨fun L w' hS => ?_, ?_⟩; (have hb := hS.1; have g0 := hS.2.1; have g1 := hS.2.2.1; have g2 := hS.2.2.2.1; have g3 := hS.2.2.2.2.1; have g4 := hS.2.2.2.2.2.1; have g5 := hS.2.2.2.2.2.2.1; have g6 := hS.2.2.2.2.2.2.2.1; have o0 := hS.2.2.2.2.2.2.2.2.1; have o1 := hS.2.2.2.2.2.2.2.2.2.1; have o2 := hS.2.2.2.2.2.2.2.2.2.2.1; have o3 := hS.2.2.2.2.2.2.2.2.2.2.2.1; clear hS; go_simp; rfl); (go_simp; refine hK _ ?_; clear hK K))
      iterate 3 (refine wpFreeL_skip rfl (fun _ _ _ h => h) (fun K hK => ?_); go_simp; refine hK _ ?_; clear hK K)
      iterate 2 (refine wpFreeL_val rfl (fun _ _ _ h => h) (fun K hK => ?_); apply Exists.intro; refine ⟨fun L w' hS => ?_, ?_⟩; (have hb := hS.1; have g0 := hS.2.1; have g1 := hS.2.2.1; have g2 := hS.2.2.2.1; have g3 := hS.2.2.2.2.1; have g4 := hS.2.2.2.2.2.1; have g5 := hS.2.2.2.2.2.2.1; have g6 := hS.2.2.2.2.2.2.2.1; have o0 := hS.2.2.2.2.2.2.2.2.1; have o1 := hS.2.2.2.2.2.2.2.2.2.1; have o2 := hS.2.2.2.2.2.2.2.2.2.2.1; have o3 := hS.2.2.2.2.2.2.2.2.2.2.2.1; clear hS; go_simp; rfl); (go_simp; refine hK _ ?_; clear hK K))
      iterate 6 (refine wpFreeL_skip rfl (fun _ _ _ h => h) (fun K hK => ?_); go_simp; refine hK _ ?_; clear hK K)
      iterate 2 (refine wpFreeL_val rfl (fun _ _ _ h => h) (fun K hK => ?_); apply Exists.intro; refine ⟨fun L w' hS => ?_, ?_⟩; (have hb := hS.1; have g0 := hS.2.1; have g1 := hS.2.2.1; have g2 := hS.2.2.2.1; have g3 := hS.2.2.2.2.1; have g4 := hS.2.2.2.2.2.1; have g5 := hS.2.2.2.2.2.2.1; have g6 := hS.2.2.2.2.2.2.2.1; have o0 := hS.2.2.2.2.2.2.2.2.1; have o1 := hS.2.2.2.2.2.2.2.2.2.1; have o2 := hS.2.2.2.2.2.2.2.2.2.2.1; have o3 := hS.2.2.2.2.2.2.2.2.2.2.2.1; clear hS; go_simp; rfl); (go_simp; refine hK _ ?_; clear hK K))
      iterate 4 (refine wpFreeL_skip rfl (fun _ _ _ h => h) (fun K hK => ?_); go_simp; refine hK _ ?_; clear hK K)
      refine wpFreeL_val rfl (fun _ _ _ h => h) (fun K hK => ?_); apply Exists.intro; refine ⟨fun L w' hS => ?_, ?_⟩; (have hb := hS.1; have g0 := hS.2.1; have g1 := hS.2.2.1; have g2 := hS.2.2.2.1; have g3 := hS.2.2.2.2.1; have g4 := hS.2.2.2.2.2.1; have g5 := hS.2.2.2.2.2.2.1; have g6 := hS.2.2.2.2.2.2.2.1; have o0 := hS.2.2.2.2.2.2.2.2.1; have o1 := hS.2.2.2.2.2.2.2.2.2.1; have o2 := hS.2.2.2.2.2.2.2.2.2.2.1; have o3 := hS.2.2.2.2.2.2.2.2.2.2.2.1; clear hS; go_simp; rfl); (go_simp; refine hK _ ?_; clear hK K)
      refine wpFreeL_gen rfl (fun K hK => ?_); refine ⟨undef, fun L w' _ hL hdep hS => ?_, ?_⟩
      · have hb := hS.1; have g0 := hS.2.1; have g1 := hS.2.2.1; have g2 := hS.2.2.2.1; have g3 := hS.2.2.2.2.1; have g4 := hS.2.2.2.2.2.1; have g5 := hS.2.2.2.2.2.2.1; have g6 := hS.2.2.2.2.2.2.2.1; have o0 := hS.2.2.2.2.2.2.2.2.1; have o1 := hS.2.2.2.2.2.2.2.2.2.1; have o2 := hS.2.2.2.2.2.2.2.2.2.2.1; have o3 := hS.2.2.2.2.2.2.2.2.2.2.2.1; have s0 := hS.2.2.2.2.2.2.2.2.2.2.2.2.1; have s1 := hS.2.2.2.2.2.2.2.2.2.2.2.2.2.1; have s2 := hS.2.2.2.2.2.2.2.2.2.2.2.2.2.2.1; have s3 := hS.2.2.2.2.2.2.2.2.2.2.2.2.2.2.2; clear hS
        have o0' := o0; obtain ⟨⟨u0, e0⟩, f0⟩ := o0'
        have o1' := o1; obtain ⟨⟨u1, e1⟩, f1⟩ := o1'
        have o2' := o2; obtain ⟨⟨u2, e2⟩, f2⟩ := o2'
        have o3' := o3; obtain ⟨⟨u3, e3⟩, f3⟩ := o3'
        go_simp
        refine ⟨rfl, ⟨(Below.setCell (p := ⟨W.heap.size, 3, none⟩) (Below.setCell (p := ⟨W.heap.size, 2, none⟩) (Below.setCell (p := ⟨W.heap.size, 1, none⟩) (Below.setCell (p := ⟨W.heap.size, 0, none⟩) hb (by dsimp only; omega) _) (by dsimp only; omega) _) (by dsimp only; omega) _) (by dsimp only; omega) _), by go_simp, by go_simp, by go_simp, by go_simp, by go_simp, by go_simp, by go_simp, ((((o0.set _ _).set _ _).set _ _).set _ _), ((((o1.set _ _).set _ _).set _ _).set _ _), ((((o2.set _ _).set _ _).set _ _).set _ _), ((((o3.set _ _).set _ _).set _ _).set _ _), fun _ => by go_simp, fun _ => by go_simp, fun _ => by go_simp, fun _ => by go_simp⟩⟩
      go_simp; refine hK _ ?_; clear hK K
      refine wpFreeL_val rfl (fun _ _ _ h => h) (fun K hK => ?_); apply Exists.intro; refine ⟨fun L w' hS => ?_, ?_⟩; (have hb := hS.1; have g0 := hS.2.1; have g1 := hS.2.2.1; have g2 := hS.2.2.2.1; have g3 := hS.2.2.2.2.1; have g4 := hS.2.2.2.2.2.1; have g5 := hS.2.2.2.2.2.2.1; have g6 := hS.2.2.2.2.2.2.2.1; have o0 := hS.2.2.2.2.2.2.2.2.1; have o1 := hS.2.2.2.2.2.2.2.2.2.1; have o2 := hS.2.2.2.2.2.2.2.2.2.2.1; have o3 := hS.2.2.2.2.2.2.2.2.2.2.2.1; clear hS; go_simp; rfl); (go_simp; refine hK _ ?_; clear hK K)
      refine wpFreeL_nil (fun L w' hL hS => ?_)
      have hb := hS.1; have g0 := hS.2.1; have g1 := hS.2.2.1; have g2 := hS.2.2.2.1; have g3 := hS.2.2.2.2.1; have g4 := hS.2.2.2.2.2.1; have g5 := hS.2.2.2.2.2.2.1; have g6 := hS.2.2.2.2.2.2.2.1; have o0 := hS.2.2.2.2.2.2.2.2.1; have o1 := hS.2.2.2.2.2.2.2.2.2.1; have o2 := hS.2.2.2.2.2.2.2.2.2.2.1; have o3 := hS.2.2.2.2.2.2.2.2.2.2.2.1; have s0 := hS.2.2.2.2.2.2.2.2.2.2.2.2.1 (hL 40 (by decide)); have s1 := hS.2.2.2.2.2.2.2.2.2.2.2.2.2.1 (hL 40 (by decide)); have s2 := hS.2.2.2.2.2.2.2.2.2.2.2.2.2.2.1 (hL 40 (by decide)); have s3 := hS.2.2.2.2.2.2.2.2.2.2.2.2.2.2.2 (hL 40 (by decide))
      clear hL hS
      go_wp2_with fail
      rw [HR.out]
      exact bodyPost_ret (v := .tuple #[hdV (a, b, c, e), .bool false]) (by simp [results, Tryz.results35, go_sem, s0, s1, s2, s3, hdV]) rfl ⟨rfl, below_step hb HBW0.out⟩
    have g2 : ((a : Int) % 2 == (p : Int)) = true := by rw [beq_iff_eq]; omega
    by_cases t3 : b ≤ 1
    rotate_left
    · have g3 : decide ((b : Int) ≤ 1) = false := by simp; omega
      have HR : Hid (R = false) := by unfold Hid; rw [HOK.out, HDK.out]; simp [t3]
      clear t1 t2 t3
      go_wp2_with fail
      refine (fun hm hB S hS h => wp_region_freeL S hm hB hS h) (by kernel_rfl) (by kernel_rfl) (fun L w' => Below W.heap.size W w' ∧ w'.cell? ⟨w.heap.size, 0, none⟩ = some (.slice op N cp) ∧ w'.cell? ⟨w.heap.size, 1, none⟩ = some (.slice oq M cq) ∧ w'.cell? ⟨X, 0, none⟩ = some (strV s) ∧ w'.cell? ⟨W1.heap.size, 0, none⟩ = some (.int .i64 (a : Int)) ∧ w'.cell? ⟨W1.heap.size, 1, none⟩ = some (.int .i64 (b : Int)) ∧ w'.cell? ⟨W1.heap.size, 2, none⟩ = some (.int .i64 (c : Int)) ∧ w'.cell? ⟨W1.heap.size, 3, none⟩ = some (.int .i64 (e : Int)) ∧ OwnC w' ⟨W.heap.size, 0, none⟩ ∧ OwnC w' ⟨W.heap.size, 1, none⟩ ∧ OwnC w' ⟨W.heap.size, 2, none⟩ ∧ OwnC w' ⟨W.heap.size, 3, none⟩ ∧ (L 40 = true → w'.cell? ⟨W.heap.size, 0, none⟩ = some (.int .i64 (a : Int))) ∧ (L 40 = true → w'.cell? ⟨W.heap.size, 1, none⟩ = some (.int .i64 (b : Int))) ∧ (L 40 = true → w'.cell? ⟨W.heap.size, 2, none⟩ = some (.int .i64 (c : Int))) ∧ (L 40 = true → w'.cell? ⟨W.heap.size, 3, none⟩ = some (.int .i64 (e : Int)))) ⟨(hbW).drew, c0, c1, cx, e0, e1, e2, e3, o0, o1, o2, o3, fun h => absurd h (by decide), fun h => absurd h (by decide), fun h => absurd h (by decide), fun h => absurd h (by decide)⟩ ?_
      iterate 17 (refine wpFreeL_val rfl (fun _ _ _ h => h) (fun K hK => ?_); apply Exists.intro; refine ⟨fun L w' hS => ?_, ?_⟩; (have hb := hS.1; have g0 := hS.2.1; have g1 := hS.2.2.1; have g2 := hS.2.2.2.1; have g3 := hS.2.2.2.2.1; have g4 := hS.2.2.2.2.2.1; have g5 := hS.2.2.2.2.2.2.1; have g6 := hS.2.2.2.2.2.2.2.1; have o0 := hS.2.2.2.2.2.2.2.2.1; have o1 := hS.2.2.2.2.2.2.2.2.2.1; have o2 := hS.2.2.2.2.2.2.2.2.2.2.1; have o3 := hS.2.2.2.2.2.2.2.2.2.2.2.1; clear hS; go_simp; rfl); (go_simp; refine hK _ ?_; clear hK K))
      iterate 3 (refine wpFreeL_skip rfl (fun _ _ _ h => h) (fun K hK => ?_); go_simp; refine hK _ ?_; clear hK K)
      iterate 2 (refine wpFreeL_val rfl (fun _ _ _ h => h) (fun K hK => ?_); apply Exists.intro; refine ⟨fun L w' hS => ?_, ?_⟩; (have hb := hS.1; have g0 := hS.2.1; have g1 := hS.2.2.1; have g2 := hS.2.2.2.1; have g3 := hS.2.2.2.2.1; have g4 := hS.2.2.2.2.2.1; have g5 := hS.2.2.2.2.2.2.1; have g6 := hS.2.2.2.2.2.2.2.1; have o0 := hS.2.2.2.2.2.2.2.2.1; have o1 := hS.2.2.2.2.2.2.2.2.2.1; have o2 := hS.2.2.2.2.2.2.2.2.2.2.1; have o3 := hS.2.2.2.2.2.2.2.2.2.2.2.1; clear hS; go_simp; rfl); (go_simp; refine hK _ ?_; clear hK K))
      iterate 3 (refine wpFreeL_skip rfl (fun _ _ _ h => h) (fun K hK => ?_); go_simp; refine hK _ ?_; clear hK K)
      iterate 2 (refine wpFreeL_val rfl (fun _ _ _ h => h) (fun K hK => ?_); apply Exists.intro; refine ⟨fun L w' hS => ?_, ?_⟩; (have hb := hS.1; have g0 := hS.2.1; have g1 := hS.2.2.1; have g2 := hS.2.2.2.1; have g3 := hS.2.2.2.2.1; have g4 := hS.2.2.2.2.2.1; have g5 := hS.2.2.2.2.2.2.1; have g6 := hS.2.2.2.2.2.2.2.1; have o0 := hS.2.2.2.2.2.2.2.2.1; have o1 := hS.2.2.2.2.2.2.2.2.2.1; have o2 := hS.2.2.2.2.2.2.2.2.2.2.1; have o3 := hS.2.2.2.2.2.2.2.2.2.2.2.1; clear hS; go_simp; rfl); (go_simp; refine hK _ ?_; clear hK K))
      iterate 6 (refine wpFreeL_skip rfl (fun _ _ _ h => h) (fun K hK => ?_); go_simp; refine hK _ ?_; clear hK K)
      iterate 2 (refine wpFreeL_val rfl (fun _ _ _ h => h) (fun K hK => ?_); apply Exists.intro; refine ⟨fun L w' hS => ?_, ?_⟩; (have hb := hS.1; have g0 := hS.2.1; have g1 := hS.2.2.1; have g2 := hS.2.2.2.1; have g3 := hS.2.2.2.2.1; have g4 := hS.2.2.2.2.2.1; have g5 := hS.2.2.2.2.2.2.1; have g6 := hS.2.2.2.2.2.2.2.1; have o0 := hS.2.2.2.2.2.2.2.2.1; have o1 := hS.2.2.2.2.2.2.2.2.2.1; have o2 := hS.2.2.2.2.2.2.2.2.2.2.1; have o3 := hS.2.2.2.2.2.2.2.2.2.2.2.1; clear hS; go_simp; rfl); (go_simp; refine hK _ ?_; clear hK K))
      iterate 4 (refine wpFreeL_skip rfl (fun _ _ _ h => h) (fun K hK => ?_); go_simp; refine hK _ ?_; clear hK K)
      refine wpFreeL_val rfl (fun _ _ _ h => h) (fun K hK => ?_); apply Exists.intro; refine ⟨fun L w' hS => ?_, ?_⟩; (have hb := hS.1; have g0 := hS.2.1; have g1 := hS.2.2.1; have g2 := hS.2.2.2.1; have g3 := hS.2.2.2.2.1; have g4 := hS.2.2.2.2.2.1; have g5 := hS.2.2.2.2.2.2.1; have g6 := hS.2.2.2.2.2.2.2.1; have o0 := hS.2.2.2.2.2.2.2.2.1; have o1 := hS.2.2.2.2.2.2.2.2.2.1; have o2 := hS.2.2.2.2.2.2.2.2.2.2.1; have o3 := hS.2.2.2.2.2.2.2.2.2.2.2.1; clear hS; go_simp; rfl); (go_simp; refine hK _ ?_; clear hK K)
      refine wpFreeL_gen rfl (fun K hK => ?_); refine ⟨undef, fun L w' _ hL hdep hS => ?_, ?_⟩
      · have hb := hS.1; have g0 := hS.2.1; have g1 := hS.2.2.1; have g2 := hS.2.2.2.1; have g3 := hS.2.2.2.2.1; have g4 := hS.2.2.2.2.2.1; have g5 := hS.2.2.2.2.2.2.1; have g6 := hS.2.2.2.2.2.2.2.1; have o0 := hS.2.2.2.2.2.2.2.2.1; have o1 := hS.2.2.2.2.2.2.2.2.2.1; have o2 := hS.2.2.2.2.2.2.2.2.2.2.1; have o3 := hS.2.2.2.2.2.2.2.2.2.2.2.1; have s0 := hS.2.2.2.2.2.2.2.2.2.2.2.2.1; have s1 := hS.2.2.2.2.2.2.2.2.2.2.2.2.2.1; have s2 := hS.2.2.2.2.2.2.2.2.2.2.2.2.2.2.1; have s3 := hS.2.2.2.2.2.2.2.2.2.2.2.2.2.2.2; clear hS
        have o0' := o0; obtain ⟨⟨u0, e0⟩, f0⟩ := o0'
        have o1' := o1; obtain ⟨⟨u1, e1⟩, f1⟩ := o1'
        have o2' := o2; obtain ⟨⟨u2, e2⟩, f2⟩ := o2'
        have o3' := o3; obtain ⟨⟨u3, e3⟩, f3⟩ := o3'
        go_simp
        refine ⟨rfl, ⟨(Below.setCell (p := ⟨W.heap.size, 3, none⟩) (Below.setCell (p := ⟨W.heap.size, 2, none⟩) (Below.setCell (p := ⟨W.heap.size, 1, none⟩) (Below.setCell (p := ⟨W.heap.size, 0, none⟩) hb (by dsimp only; omega) _) (by dsimp only; omega) _) (by dsimp only; omega) _) (by dsimp only; omega) _), by go_simp, by go_simp, by go_simp, by go_simp, by go_simp, by go_simp, by go_simp, ((((o0.set _ _).set _ _).set _ _).set _ _), ((((o1.set _ _).set _ _).set _ _).set _ _), ((((o2.set _ _).set _ _).set _ _).set _ _), ((((o3.set _ _).set _ _).set _ _).set _ _), fun _ => by go_simp, fun _ => by go_simp, fun _ => by go_simp, fun _ => by go_simp⟩⟩
      go_simp; refine hK _ ?_; clear hK K
      refine wpFreeL_val rfl (fun _ _ _ h => h) (fun K hK => ?_); apply Exists.intro; refine ⟨fun L w' hS => ?_, ?_⟩; (have hb := hS.1; have g0 := hS.2.1; have g1 := hS.2.2.1; have g2 := hS.2.2.2.1; have g3 := hS.2.2.2.2.1; have g4 := hS.2.2.2.2.2.1; have g5 := hS.2.2.2.2.2.2.1; have g6 := hS.2.2.2.2.2.2.2.1; have o0 := hS.2.2.2.2.2.2.2.2.1; have o1 := hS.2.2.2.2.2.2.2.2.2.1; have o2 := hS.2.2.2.2.2.2.2.2.2.2.1; have o3 := hS.2.2.2.2.2.2.2.2.2.2.2.1; clear hS; go_simp; rfl); (go_simp; refine hK _ ?_; clear hK K)
      refine wpFreeL_nil (fun L w' hL hS => ?_)
      have hb := hS.1; have g0 := hS.2.1; have g1 := hS.2.2.1; have g2 := hS.2.2.2.1; have g3 := hS.2.2.2.2.1; have g4 := hS.2.2.2.2.2.1; have g5 := hS.2.2.2.2.2.2.1; have g6 := hS.2.2.2.2.2.2.2.1; have o0 := hS.2.2.2.2.2.2.2.2.1; have o1 := hS.2.2.2.2.2.2.2.2.2.1; have o2 := hS.2.2.2.2.2.2.2.2.2.2.1; have o3 := hS.2.2.2.2.2.2.2.2.2.2.2.1; have s0 := hS.2.2.2.2.2.2.2.2.2.2.2.2.1 (hL 40 (by decide)); have s1 := hS.2.2.2.2.2.2.2.2.2.2.2.2.2.1 (hL 40 (by decide)); have s2 := hS.2.2.2.2.2.2.2.2.2.2.2.2.2.2.1 (hL 40 (by decide)); have s3 := hS.2.2.2.2.2.2.2.2.2.2.2.2.2.2.2 (hL 40 (by decide))
      clear hL hS
      go_wp2_with fail
      rw [HR.out]
      exact bodyPost_ret (v := .tuple #[hdV (a, b, c, e), .bool false]) (by simp [results, Tryz.results35, go_sem, s0, s1, s2, s3, hdV]) rfl ⟨rfl, below_step hb HBW0.out⟩
    have g3 : decide ((b : Int) ≤ 1) = true := by simp; omega
    by_cases t4 : 1 ≤ c
    rotate_left
    · have g4 : decide ((1 : Int) ≤ (c : Int)) = false := by simp; omega
      have HR : Hid (R = false) := by unfold Hid; rw [HOK.out, HDK.out]; simp [t4]
      clear t1 t2 t3 t4
      go_wp2_with fail
      refine (fun hm hB S hS h => wp_region_freeL S hm hB hS h) (by kernel_rfl) (by kernel_rfl) (fun L w' => Below W.heap.size W w' ∧ w'.cell? ⟨w.heap.size, 0, none⟩ = some (.slice op N cp) ∧ w'.cell? ⟨w.heap.size, 1, none⟩ = some (.slice oq M cq) ∧ w'.cell? ⟨X, 0, none⟩ = some (strV s) ∧ w'.cell? ⟨W1.heap.size, 0, none⟩ = some (.int .i64 (a : Int)) ∧ w'.cell? ⟨W1.heap.size, 1, none⟩ = some (.int .i64 (b : Int)) ∧ w'.cell? ⟨W1.heap.size, 2, none⟩ = some (.int .i64 (c : Int)) ∧ w'.cell? ⟨W1.heap.size, 3, none⟩ = some (.int .i64 (e : Int)) ∧ OwnC w' ⟨W.heap.size, 0, none⟩ ∧ OwnC w' ⟨W.heap.size, 1, none⟩ ∧ OwnC w' ⟨W.heap.size, 2, none⟩ ∧ OwnC w' ⟨W.heap.size, 3, none⟩ ∧ (L 40 = true → w'.cell? ⟨W.heap.size, 0, none⟩ = some (.int .i64 (a : Int))) ∧ (L 40 = true → w'.cell? ⟨W.heap.size, 1, none⟩ = some (.int .i64 (b : Int))) ∧ (L 40 = true → w'.cell? ⟨W.heap.size, 2, none⟩ = some (.int .i64 (c : Int))) ∧ (L 40 = true → w'.cell? ⟨W.heap.size, 3, none⟩ = some (.int .i64 (e : Int)))) ⟨(hbW).drew, c0, c1, cx, e0, e1, e2, e3, o0, o1, o2, o3, fun h => absurd h (by decide), fun h => absurd h (by decide), fun h => absurd h (by decide), fun h => absurd h (by decide)⟩ ?_
      iterate 22 (refine wpFreeL_val rfl (fun _ _ _ h => h) (fun K hK => ?_); apply Exists.intro; refine ⟨fun L w' hS => ?_, ?_⟩; (have hb := hS.1; have g0 := hS.2.1; have g1 := hS.2.2.1; have g2 := hS.2.2.2.1; have g3 := hS.2.2.2.2.1; have g4 := hS.2.2.2.2.2.1; have g5 := hS.2.2.2.2.2.2.1; have g6 := hS.2.2.2.2.2.2.2.1; have o0 := hS.2.2.2.2.2.2.2.2.1; have o1 := hS.2.2.2.2.2.2.2.2.2.1; have o2 := hS.2.2.2.2.2.2.2.2.2.2.1; have o3 := hS.2.2.2.2.2.2.2.2.2.2.2.1; clear hS; go_simp; rfl); (go_simp; refine hK _ ?_; clear hK K))
      iterate 3 (refine wpFreeL_skip rfl (fun _ _ _ h => h) (fun K hK => ?_); go_simp; refine hK _ ?_; clear hK K)
      iterate 2 (refine wpFreeL_val rfl (fun _ _ _ h => h) (fun K hK => ?_); apply Exists.intro; refine ⟨fun L w' hS => ?_, ?_⟩; (have hb := hS.1; have g0 := hS.2.1; have g1 := hS.2.2.1; have g2 := hS.2.2.2.1; have g3 := hS.2.2.2.2.1; have g4 := hS.2.2.2.2.2.1; have g5 := hS.2.2.2.2.2.2.1; have g6 := hS.2.2.2.2.2.2.2.1; have o0 := hS.2.2.2.2.2.2.2.2.1; have o1 := hS.2.2.2.2.2.2.2.2.2.1; have o2 := hS.2.2.2.2.2.2.2.2.2.2.1; have o3 := hS.2.2.2.2.2.2.2.2.2.2.2.1; clear hS; go_simp; rfl); (go_simp; refine hK _ ?_; clear hK K))
      iterate 6 (refine wpFreeL_skip rfl (fun _ _ _ h => h) (fun K hK => ?_); go_simp; refine hK _ ?_; clear hK K)
      iterate 2 (refine wpFreeL_val rfl (fun _ _ _ h => h) (fun K hK => ?_); apply Exists.intro; refine ⟨fun L w' hS => ?_, ?_⟩; (have hb := hS.1; have g0 := hS.2.1; have g1 := hS.2.2.1; have g2 := hS.2.2.2.1; have g3 := hS.2.2.2.2.1; have g4 := hS.2.2.2.2.2.1; have g5 := hS.2.2.2.2.2.2.1; have g6 := hS.2.2.2.2.2.2.2.1; have o0 := hS.2.2.2.2.2.2.2.2.1; have o1 := hS.2.2.2.2.2.2.2.2.2.1; have o2 := hS.2.2.2.2.2.2.2.2.2.2.1; have o3 := hS.2.2.2.2.2.2.2.2.2.2.2.1; clear hS; go_simp; rfl); (go_simp; refine hK _ ?_; clear hK K))
      iterate 4 (refine wpFreeL_skip rfl (fun _ _ _ h => h) (fun K hK => ?_); go_simp; refine hK _ ?_; clear hK K)
      refine wpFreeL_val rfl (fun _ _ _ h => h) (fun K hK => ?_); apply Exists.intro; refine ⟨fun L w' hS => ?_, ?_⟩; (have hb := hS.1; have g0 := hS.2.1; have g1 := hS.2.2.1; have g2 := hS.2.2.2.1; have g3 := hS.2.2.2.2.1; have g4 := hS.2.2.2.2.2.1; have g5 := hS.2.2.2.2.2.2.1; have g6 := hS.2.2.2.2.2.2.2.1; have o0 := hS.2.2.2.2.2.2.2.2.1; have o1 := hS.2.2.2.2.2.2.2.2.2.1; have o2 := hS.2.2.2.2.2.2.2.2.2.2.1; have o3 := hS.2.2.2.2.2.2.2.2.2.2.2.1; clear hS; go_simp; rfl); (go_simp; refine hK _ ?_; clear hK K)
      refine wpFreeL_gen rfl (fun K hK => ?_); refine ⟨undef, fun L w' _ hL hdep hS => ?_, ?_⟩
      · have hb := hS.1; have g0 := hS.2.1; have g1 := hS.2.2.1; have g2 := hS.2.2.2.1; have g3 := hS.2.2.2.2.1; have g4 := hS.2.2.2.2.2.1; have g5 := hS.2.2.2.2.2.2.1; have g6 := hS.2.2.2.2.2.2.2.1; have o0 := hS.2.2.2.2.2.2.2.2.1; have o1 := hS.2.2.2.2.2.2.2.2.2.1; have o2 := hS.2.2.2.2.2.2.2.2.2.2.1; have o3 := hS.2.2.2.2.2.2.2.2.2.2.2.1; have s0 := hS.2.2.2.2.2.2.2.2.2.2.2.2.1; have s1 := hS.2.2.2.2.2.2.2.2.2.2.2.2.2.1; have s2 := hS.2.2.2.2.2.2.2.2.2.2.2.2.2.2.1; have s3 := hS.2.2.2.2.2.2.2.2.2.2.2.2.2.2.2; clear hS
        have o0' := o0; obtain ⟨⟨u0, e0⟩, f0⟩ := o0'
        have o1' := o1; obtain ⟨⟨u1, e1⟩, f1⟩ := o1'
        have o2' := o2; obtain ⟨⟨u2, e2⟩, f2⟩ := o2'
        have o3' := o3; obtain ⟨⟨u3, e3⟩, f3⟩ := o3'
        go_simp
        refine ⟨rfl, ⟨(Below.setCell (p := ⟨W.heap.size, 3, none⟩) (Below.setCell (p := ⟨W.heap.size, 2, none⟩) (Below.setCell (p := ⟨W.heap.size, 1, none⟩) (Below.setCell (p := ⟨W.heap.size, 0, none⟩) hb (by dsimp only; omega) _) (by dsimp only; omega) _) (by dsimp only; omega) _) (by dsimp only; omega) _), by go_simp, by go_simp, by go_simp, by go_simp, by go_simp, by go_simp, by go_simp, ((((o0.set _ _).set _ _).set _ _).set _ _), ((((o1.set _ _).set _ _).set _ _).set _ _), ((((o2.set _ _).set _ _).set _ _).set _ _), ((((o3.set _ _).set _ _).set _ _).set _ _), fun _ => by go_simp, fun _ => by go_simp, fun _ => by go_simp, fun _ => by go_simp⟩⟩
      go_simp; refine hK _ ?_; clear hK K
      refine wpFreeL_val rfl (fun _ _ _ h => h) (fun K hK => ?_); apply Exists.intro; refine ⟨fun L w' hS => ?_, ?_⟩; (have hb := hS.1; have g0 := hS.2.1; have g1 := hS.2.2.1; have g2 := hS.2.2.2.1; have g3 := hS.2.2.2.2.1; have g4 := hS.2.2.2.2.2.1; have g5 := hS.2.2.2.2.2.2.1; have g6 := hS.2.2.2.2.2.2.2.1; have o0 := hS.2.2.2.2.2.2.2.2.1; have o1 := hS.2.2.2.2.2.2.2.2.2.1; have o2 := hS.2.2.2.2.2.2.2.2.2.2.1; have o3 := hS.2.2.2.2.2.2.2.2.2.2.2.1; clear hS; go_simp; rfl); (go_simp; refine hK _ ?_; clear hK K)
      refine wpFreeL_nil (fun L w' hL hS => ?_)
      have hb := hS.1; have g0 := hS.2.1; have g1 := hS.2.2.1; have g2 := hS.2.2.2.1; have g3 := hS.2.2.2.2.1; have g4 := hS.2.2.2.2.2.1; have g5 := hS.2.2.2.2.2.2.1; have g6 := hS.2.2.2.2.2.2.2.1; have o0 := hS.2.2.2.2.2.2.2.2.1; have o1 := hS.2.2.2.2.2.2.2.2.2.1; have o2 := hS.2.2.2.2.2.2.2.2.2.2.1; have o3 := hS.2.2.2.2.2.2.2.2.2.2.2.1; have s0 := hS.2.2.2.2.2.2.2.2.2.2.2.2.1 (hL 40 (by decide)); have s1 := hS.2.2.2.2.2.2.2.2.2.2.2.2.2.1 (hL 40 (by decide)); have s2 := hS.2.2.2.2.2.2.2.2.2.2.2.2.2.2.1 (hL 40 (by decide)); have s3 := hS.2.2.2.2.2.2.2.2.2.2.2.2.2.2.2 (hL 40 (by decide))
      clear hL hS
      go_wp2_with fail
      rw [HR.out]
      exact bodyPost_ret (v := .tuple #[hdV (a, b, c, e), .bool false]) (by simp [results, Tryz.results35, go_sem, s0, s1, s2, s3, hdV]) rfl ⟨rfl, below_step hb HBW0.out⟩
    have g4 : decide ((1 : Int) ≤ (c : Int)) = true := by simp; omega
    by_cases t5 : c ≤ 8
    rotate_left
    · have g5 : decide ((c : Int) ≤ 8) = false := by simp; omega
      have HR : Hid (R = false) := by unfold Hid; rw [HOK.out, HDK.out]; simp [t5]
      clear t1 t2 t3 t4 t5
      go_wp2_with fail
      refine (fun hm hB S hS h => wp_region_freeL S hm hB hS h) (by kernel_rfl) (by kernel_rfl) (fun L w' => Below W.heap.size W w' ∧ w'.cell? ⟨w.heap.size, 0, none⟩ = some (.slice op N cp) ∧ w'.cell? ⟨w.heap.size, 1, none⟩ = some (.slice oq M cq) ∧ w'.cell? ⟨X, 0, none⟩ = some (strV s) ∧ w'.cell? ⟨W1.heap.size, 0, none⟩ = some (.int .i64 (a : Int)) ∧ w'.cell? ⟨W1.heap.size, 1, none⟩ = some (.int .i64 (b : Int)) ∧ w'.cell? ⟨W1.heap.size, 2, none⟩ = some (.int .i64 (c : Int)) ∧ w'.cell? ⟨W1.heap.size, 3, none⟩ = some (.int .i64 (e : Int)) ∧ OwnC w' ⟨W.heap.size, 0, none⟩ ∧ OwnC w' ⟨W.heap.size, 1, none⟩ ∧ OwnC w' ⟨W.heap.size, 2, none⟩ ∧ OwnC w' ⟨W.heap.size, 3, none⟩ ∧ (L 40 = true → w'.cell? ⟨W.heap.size, 0, none⟩ = some (.int .i64 (a : Int))) ∧ (L 40 = true → w'.cell? ⟨W.heap.size, 1, none⟩ = some (.int .i64 (b : Int))) ∧ (L 40 = true → w'.cell? ⟨W.heap.size, 2, none⟩ = some (.int .i64 (c : Int))) ∧ (L 40 = true → w'.cell? ⟨W.heap.size, 3, none⟩ = some (.int .i64 (e : Int)))) ⟨(hbW).drew, c0, c1, cx, e0, e1, e2, e3, o0, o1, o2, o3, fun h => absurd h (by decide), fun h => absurd h (by decide), fun h => absurd h (by decide), fun h => absurd h (by decide)⟩ ?_
      iterate 27 (refine wpFreeL_val rfl (fun _ _ _ h => h) (fun K hK => ?_); apply Exists.intro; refine ⟨fun L w' hS => ?_, ?_⟩; (have hb := hS.1; have g0 := hS.2.1; have g1 := hS.2.2.1; have g2 := hS.2.2.2.1; have g3 := hS.2.2.2.2.1; have g4 := hS.2.2.2.2.2.1; have g5 := hS.2.2.2.2.2.2.1; have g6 := hS.2.2.2.2.2.2.2.1; have o0 := hS.2.2.2.2.2.2.2.2.1; have o1 := hS.2.2.2.2.2.2.2.2.2.1; have o2 := hS.2.2.2.2.2.2.2.2.2.2.1; have o3 := hS.2.2.2.2.2.2.2.2.2.2.2.1; clear hS; go_simp; rfl); (go_simp; refine hK _ ?_; clear hK K))
      iterate 6 (refine wpFreeL_skip rfl (fun _ _ _ h => h) (fun K hK => ?_); go_simp; refine hK _ ?_; clear hK K)
      iterate 2 (refine wpFreeL_val rfl (fun _ _ _ h => h) (fun K hK => ?_); apply Exists.intro; refine ⟨fun L w' hS => ?_, ?_⟩; (have hb := hS.1; have g0 := hS.2.1; have g1 := hS.2.2.1; have g2 := hS.2.2.2.1; have g3 := hS.2.2.2.2.1; have g4 := hS.2.2.2.2.2.1; have g5 := hS.2.2.2.2.2.2.1; have g6 := hS.2.2.2.2.2.2.2.1; have o0 := hS.2.2.2.2.2.2.2.2.1; have o1 := hS.2.2.2.2.2.2.2.2.2.1; have o2 := hS.2.2.2.2.2.2.2.2.2.2.1; have o3 := hS.2.2.2.2.2.2.2.2.2.2.2.1; clear hS; go_simp; rfl); (go_simp; refine hK _ ?_; clear hK K))
      iterate 4 (refine wpFreeL_skip rfl (fun _ _ _ h => h) (fun K hK => ?_); go_simp; refine hK _ ?_; clear hK K)
      refine wpFreeL_val rfl (fun _ _ _ h => h) (fun K hK => ?_); apply Exists.intro; refine ⟨fun L w' hS => ?_, ?_⟩; (have hb := hS.1; have g0 := hS.2.1; have g1 := hS.2.2.1; have g2 := hS.2.2.2.1; have g3 := hS.2.2.2.2.1; have g4 := hS.2.2.2.2.2.1; have g5 := hS.2.2.2.2.2.2.1; have g6 := hS.2.2.2.2.2.2.2.1; have o0 := hS.2.2.2.2.2.2.2.2.1; have o1 := hS.2.2.2.2.2.2.2.2.2.1; have o2 := hS.2.2.2.2.2.2.2.2.2.2.1; have o3 := hS.2.2.2.2.2.2.2.2.2.2.2.1; clear hS; go_simp; rfl); (go_simp; refine hK _ ?_; clear hK K)
      refine wpFreeL_gen rfl (fun K hK => ?_); refine ⟨undef, fun L w' _ hL hdep hS => ?_, ?_⟩
      · have hb := hS.1; have g0 := hS.2.1; have g1 := hS.2.2.1; have g2 := hS.2.2.2.1; have g3 := hS.2.2.2.2.1; have g4 := hS.2.2.2.2.2.1; have g5 := hS.2.2.2.2.2.2.1; have g6 := hS.2.2.2.2.2.2.2.1; have o0 := hS.2.2.2.2.2.2.2.2.1; have o1 := hS.2.2.2.2.2.2.2.2.2.1; have o2 := hS.2.2.2.2.2.2.2.2.2.2.1; have o3 := hS.2.2.2.2.2.2.2.2.2.2.2.1; have s0 := hS.2.2.2.2.2.2.2.2.2.2.2.2.1; have s1 := hS.2.2.2.2.2.2.2.2.2.2.2.2.2.1; have s2 := hS.2.2.2.2.2.2.2.2.2.2.2.2.2.2.1; have s3 := hS.2.2.2.2.2.2.2.2.2.2.2.2.2.2.2; clear hS
        have o0' := o0; obtain ⟨⟨u0, e0⟩, f0⟩ := o0'
        have o1' := o1; obtain ⟨⟨u1, e1⟩, f1⟩ := o1'
        have o2' := o2; obtain ⟨⟨u2, e2⟩, f2⟩ := o2'
        have o3' := o3; obtain ⟨⟨u3, e3⟩, f3⟩ := o3'
        go_simp
        refine ⟨rfl, ⟨(Below.setCell (p := ⟨W.heap.size, 3, none⟩) (Below.setCell (p := ⟨W.heap.size, 2, none⟩) (Below.setCell (p := ⟨W.heap.size, 1, none⟩) (Below.setCell (p := ⟨W.heap.size, 0, none⟩) hb (by dsimp only; omega) _) (by dsimp only; omega) _) (by dsimp only; omega) _) (by dsimp only; omega) _), by go_simp, by go_simp, by go_simp, by go_simp, by go_simp, by go_simp, by go_simp, ((((o0.set _ _).set _ _).set _ _).set _ _), ((((o1.set _ _).set _ _).set _ _).set _ _), ((((o2.set _ _).set _ _).set _ _).set _ _), ((((o3.set _ _).set _ _).set _ _).set _ _), fun _ => by go_simp, fun _ => by go_simp, fun _ => by go_simp, fun _ => by go_simp⟩⟩
      go_simp; refine hK _ ?_; clear hK K
      refine wpFreeL_val rfl (fun _ _ _ h => h) (fun K hK => ?_); apply Exists.intro; refine ⟨fun L w' hS => ?_, ?_⟩; (have hb := hS.1; have g0 := hS.2.1; have g1 := hS.2.2.1; have g2 := hS.2.2.2.1; have g3 := hS.2.2.2.2.1; have g4 := hS.2.2.2.2.2.1; have g5 := hS.2.2.2.2.2.2.1; have g6 := hS.2.2.2.2.2.2.2.1; have o0 := hS.2.2.2.2.2.2.2.2.1; have o1 := hS.2.2.2.2.2.2.2.2.2.1; have o2 := hS.2.2.2.2.2.2.2.2.2.2.1; have o3 := hS.2.2.2.2.2.2.2.2.2.2.2.1; clear hS; go_simp; rfl); (go_simp; refine hK _ ?_; clear hK K)
      refine wpFreeL_nil (fun L w' hL hS => ?_)
      have hb := hS.1; have g0 := hS.2.1; have g1 := hS.2.2.1; have g2 := hS.2.2.2.1; have g3 := hS.2.2.2.2.1; have g4 := hS.2.2.2.2.2.1; have g5 := hS.2.2.2.2.2.2.1; have g6 := hS.2.2.2.2.2.2.2.1; have o0 := hS.2.2.2.2.2.2.2.2.1; have o1 := hS.2.2.2.2.2.2.2.2.2.1; have o2 := hS.2.2.2.2.2.2.2.2.2.2.1; have o3 := hS.2.2.2.2.2.2.2.2.2.2.2.1; have s0 := hS.2.2.2.2.2.2.2.2.2.2.2.2.1 (hL 40 (by decide)); have s1 := hS.2.2.2.2.2.2.2.2.2.2.2.2.2.1 (hL 40 (by decide)); have s2 := hS.2.2.2.2.2.2.2.2.2.2.2.2.2.2.1 (hL 40 (by decide)); have s3 := hS.2.2.2.2.2.2.2.2.2.2.2.2.2.2.2 (hL 40 (by decide))
      clear hL hS
      go_wp2_with fail
      rw [HR.out]
      exact bodyPost_ret (v := .tuple #[hdV (a, b, c, e), .bool false]) (by simp [results, Tryz.results35, go_sem, s0, s1, s2, s3, hdV]) rfl ⟨rfl, below_step hb HBW0.out⟩
    have g5 : decide ((c : Int) ≤ 8) = true := by simp; omega
    by_cases t6 : e ≤ 64 * halfN N
    rotate_left
    · have g6 : decide ((e : Int) ≤ 64 * ((halfN N : Nat) : Int)) = false := by simp; omega
      have HR : Hid (R = false) := by unfold Hid; rw [HOK.out, HDK.out]; simp [t6]
      clear t1 t2 t3 t4 t5 t6
      go_wp2_with fail
      refine (fun hm hB S hS h => wp_region_freeL S hm hB hS h) (by kernel_rfl) (by kernel_rfl) (fun L w' => Below W.heap.size W w' ∧ w'.cell? ⟨w.heap.size, 0, none⟩ = some (.slice op N cp) ∧ w'.cell? ⟨w.heap.size, 1, none⟩ = some (.slice oq M cq) ∧ w'.cell? ⟨X, 0, none⟩ = some (strV s) ∧ w'.cell? ⟨W1.heap.size, 0, none⟩ = some (.int .i64 (a : Int)) ∧ w'.cell? ⟨W1.heap.size, 1, none⟩ = some (.int .i64 (b : Int)) ∧ w'.cell? ⟨W1.heap.size, 2, none⟩ = some (.int .i64 (c : Int)) ∧ w'.cell? ⟨W1.heap.size, 3, none⟩ = some (.int .i64 (e : Int)) ∧ OwnC w' ⟨W.heap.size, 0, none⟩ ∧ OwnC w' ⟨W.heap.size, 1, none⟩ ∧ OwnC w' ⟨W.heap.size, 2, none⟩ ∧ OwnC w' ⟨W.heap.size, 3, none⟩ ∧ (L 40 = true → w'.cell? ⟨W.heap.size, 0, none⟩ = some (.int .i64 (a : Int))) ∧ (L 40 = true → w'.cell? ⟨W.heap.size, 1, none⟩ = some (.int .i64 (b : Int))) ∧ (L 40 = true → w'.cell? ⟨W.heap.size, 2, none⟩ = some (.int .i64 (c : Int))) ∧ (L 40 = true → w'.cell? ⟨W.heap.size, 3, none⟩ = some (.int .i64 (e : Int)))) ⟨(hbW).drew, c0, c1, cx, e0, e1, e2, e3, o0, o1, o2, o3, fun h => absurd h (by decide), fun h => absurd h (by decide), fun h => absurd h (by decide), fun h => absurd h (by decide)⟩ ?_
      iterate 30 (refine wpFreeL_val rfl (fun _ _ _ h => h) (fun K hK => ?_); apply Exists.intro; refine ⟨fun L w' hS => ?_, ?_⟩; (have hb := hS.1; have g0 := hS.2.1; have g1 := hS.2.2.1; have g2 := hS.2.2.2.1; have g3 := hS.2.2.2.2.1; have g4 := hS.2.2.2.2.2.1; have g5 := hS.2.2.2.2.2.2.1; have g6 := hS.2.2.2.2.2.2.2.1; have o0 := hS.2.2.2.2.2.2.2.2.1; have o1 := hS.2.2.2.2.2.2.2.2.2.1; have o2 := hS.2.2.2.2.2.2.2.2.2.2.1; have o3 := hS.2.2.2.2.2.2.2.2.2.2.2.1; clear hS; go_simp; rfl); (go_simp; refine hK _ ?_; clear hK K))
      refine wpFreeL_gen rfl (fun K hK => ?_); apply Exists.intro; refine ⟨fun L w' hcl hL hdep hS => ?_, ?_⟩
      · have hb := hS.1; have g0 := hS.2.1; have g1 := hS.2.2.1; have g2 := hS.2.2.2.1; have g3 := hS.2.2.2.2.1; have g4 := hS.2.2.2.2.2.1; have g5 := hS.2.2.2.2.2.2.1; have g6 := hS.2.2.2.2.2.2.2.1; have o0 := hS.2.2.2.2.2.2.2.2.1; have o1 := hS.2.2.2.2.2.2.2.2.2.1; have o2 := hS.2.2.2.2.2.2.2.2.2.2.1; have o3 := hS.2.2.2.2.2.2.2.2.2.2.2.1; have s0 := hS.2.2.2.2.2.2.2.2.2.2.2.2.1; have s1 := hS.2.2.2.2.2.2.2.2.2.2.2.2.2.1; have s2 := hS.2.2.2.2.2.2.2.2.2.2.2.2.2.2.1; have s3 := hS.2.2.2.2.2.2.2.2.2.2.2.2.2.2.2; go_simp; refine (HHF.out _).mono ?_; rintro e w1 ⟨rfl, hb1⟩; exact ⟨rfl, ⟨hb.trans (hb1.mono (by have := hb.size; omega)), keepc hb1 g0, keepc hb1 g1, keepc hb1 g2, keepc hb1 g3, keepc hb1 g4, keepc hb1 g5, keepc hb1 g6, keepOwn hb1 o0, keepOwn hb1 o1, keepOwn hb1 o2, keepOwn hb1 o3, fun h => keepc hb1 (s0 h), fun h => keepc hb1 (s1 h), fun h => keepc hb1 (s2 h), fun h => keepc hb1 (s3 h)⟩⟩
      go_simp; refine hK _ ?_; clear hK K
      iterate 4 (refine wpFreeL_val rfl (fun _ _ _ h => h) (fun K hK => ?_); apply Exists.intro; refine ⟨fun L w' hS => ?_, ?_⟩; (have hb := hS.1; have g0 := hS.2.1; have g1 := hS.2.2.1; have g2 := hS.2.2.2.1; have g3 := hS.2.2.2.2.1; have g4 := hS.2.2.2.2.2.1; have g5 := hS.2.2.2.2.2.2.1; have g6 := hS.2.2.2.2.2.2.2.1; have o0 := hS.2.2.2.2.2.2.2.2.1; have o1 := hS.2.2.2.2.2.2.2.2.2.1; have o2 := hS.2.2.2.2.2.2.2.2.2.2.1; have o3 := hS.2.2.2.2.2.2.2.2.2.2.2.1; clear hS; go_simp; rfl); (go_simp; refine hK _ ?_; clear hK K))
      iterate 4 (refine wpFreeL_skip rfl (fun _ _ _ h => h) (fun K hK => ?_); go_simp; refine hK _ ?_; clear hK K)
      refine wpFreeL_val rfl (fun _ _ _ h => h) (fun K hK => ?_); apply Exists.intro; refine ⟨fun L w' hS => ?_, ?_⟩; (have hb := hS.1; have g0 := hS.2.1; have g1 := hS.2.2.1; have g2 := hS.2.2.2.1; have g3 := hS.2.2.2.2.1; have g4 := hS.2.2.2.2.2.1; have g5 := hS.2.2.2.2.2.2.1; have g6 := hS.2.2.2.2.2.2.2.1; have o0 := hS.2.2.2.2.2.2.2.2.1; have o1 := hS.2.2.2.2.2.2.2.2.2.1; have o2 := hS.2.2.2.2.2.2.2.2.2.2.1; have o3 := hS.2.2.2.2.2.2.2.2.2.2.2.1; clear hS; go_simp; rfl); (go_simp; refine hK _ ?_; clear hK K)
      refine wpFreeL_gen rfl (fun K hK => ?_); refine ⟨undef, fun L w' _ hL hdep hS => ?_, ?_⟩
      · have hb := hS.1; have g0 := hS.2.1; have g1 := hS.2.2.1; have g2 := hS.2.2.2.1; have g3 := hS.2.2.2.2.1; have g4 := hS.2.2.2.2.2.1; have g5 := hS.2.2.2.2.2.2.1; have g6 := hS.2.2.2.2.2.2.2.1; have o0 := hS.2.2.2.2.2.2.2.2.1; have o1 := hS.2.2.2.2.2.2.2.2.2.1; have o2 := hS.2.2.2.2.2.2.2.2.2.2.1; have o3 := hS.2.2.2.2.2.2.2.2.2.2.2.1; have s0 := hS.2.2.2.2.2.2.2.2.2.2.2.2.1; have s1 := hS.2.2.2.2.2.2.2.2.2.2.2.2.2.1; have s2 := hS.2.2.2.2.2.2.2.2.2.2.2.2.2.2.1; have s3 := hS.2.2.2.2.2.2.2.2.2.2.2.2.2.2.2; clear hS
        have o0' := o0; obtain ⟨⟨u0, e0⟩, f0⟩ := o0'
        have o1' := o1; obtain ⟨⟨u1, e1⟩, f1⟩ := o1'
        have o2' := o2; obtain ⟨⟨u2, e2⟩, f2⟩ := o2'
        have o3' := o3; obtain ⟨⟨u3, e3⟩, f3⟩ := o3'
        go_simp
        refine ⟨rfl, ⟨(Below.setCell (p := ⟨W.heap.size, 3, none⟩) (Below.setCell (p := ⟨W.heap.size, 2, none⟩) (Below.setCell (p := ⟨W.heap.size, 1, none⟩) (Below.setCell (p := ⟨W.heap.size, 0, none⟩) hb (by dsimp only; omega) _) (by dsimp only; omega) _) (by dsimp only; omega) _) (by dsimp only; omega) _), by go_simp, by go_simp, by go_simp, by go_simp, by go_simp, by go_simp, by go_simp, ((((o0.set _ _).set _ _).set _ _).set _ _), ((((o1.set _ _).set _ _).set _ _).set _ _), ((((o2.set _ _).set _ _).set _ _).set _ _), ((((o3.set _ _).set _ _).set _ _).set _ _), fun _ => by go_simp, fun _ => by go_simp, fun _ => by go_simp, fun _ => by go_simp⟩⟩
      go_simp; refine hK _ ?_; clear hK K
      refine wpFreeL_val rfl (fun _ _ _ h => h) (fun K hK => ?_); apply Exists.intro; refine ⟨fun L w' hS => ?_, ?_⟩; (have hb := hS.1; have g0 := hS.2.1; have g1 := hS.2.2.1; have g2 := hS.2.2.2.1; have g3 := hS.2.2.2.2.1; have g4 := hS.2.2.2.2.2.1; have g5 := hS.2.2.2.2.2.2.1; have g6 := hS.2.2.2.2.2.2.2.1; have o0 := hS.2.2.2.2.2.2.2.2.1; have o1 := hS.2.2.2.2.2.2.2.2.2.1; have o2 := hS.2.2.2.2.2.2.2.2.2.2.1; have o3 := hS.2.2.2.2.2.2.2.2.2.2.2.1; clear hS; go_simp; rfl); (go_simp; refine hK _ ?_; clear hK K)
      refine wpFreeL_nil (fun L w' hL hS => ?_)
      have hb := hS.1; have g0 := hS.2.1; have g1 := hS.2.2.1; have g2 := hS.2.2.2.1; have g3 := hS.2.2.2.2.1; have g4 := hS.2.2.2.2.2.1; have g5 := hS.2.2.2.2.2.2.1; have g6 := hS.2.2.2.2.2.2.2.1; have o0 := hS.2.2.2.2.2.2.2.2.1; have o1 := hS.2.2.2.2.2.2.2.2.2.1; have o2 := hS.2.2.2.2.2.2.2.2.2.2.1; have o3 := hS.2.2.2.2.2.2.2.2.2.2.2.1; have s0 := hS.2.2.2.2.2.2.2.2.2.2.2.2.1 (hL 40 (by decide)); have s1 := hS.2.2.2.2.2.2.2.2.2.2.2.2.2.1 (hL 40 (by decide)); have s2 := hS.2.2.2.2.2.2.2.2.2.2.2.2.2.2.1 (hL 40 (by decide)); have s3 := hS.2.2.2.2.2.2.2.2.2.2.2.2.2.2.2 (hL 40 (by decide))
      clear hL hS
      go_wp2_with fail
      rw [HR.out]
      exact bodyPost_ret (v := .tuple #[hdV (a, b, c, e), .bool false]) (by simp [results, Tryz.results35, go_sem, s0, s1, s2, s3, hdV]) rfl ⟨rfl, below_step hb HBW0.out⟩
    have g6 : decide ((e : Int) ≤ 64 * ((halfN N : Nat) : Int)) = true := by simp; omega
    by_cases t7 : s = Z
    rotate_left
    · skip
      have t8 : (Z == s) = false := by rw [beq_eq_false_iff_ne]; exact fun h => t7 h.symm
      have HR : Hid (R = false) := by unfold Hid; rw [HOK.out, t8, Bool.and_false]
      have t9 : ¬ Z = s := fun h => t7 h.symm
      clear t8
      clear t1 t2 t3 t4 t5 t6
      go_wp2_with fail
      refine (fun hm hB S hS h => wp_region_freeL S hm hB hS h) (by kernel_rfl) (by kernel_rfl) (fun L w' => Below W.heap.size W w' ∧ w'.cell? ⟨w.heap.size, 0, none⟩ = some (.slice op N cp) ∧ w'.cell? ⟨w.heap.size, 1, none⟩ = some (.slice oq M cq) ∧ w'.cell? ⟨X, 0, none⟩ = some (strV s) ∧ w'.cell? ⟨W1.heap.size, 0, none⟩ = some (.int .i64 (a : Int)) ∧ w'.cell? ⟨W1.heap.size, 1, none⟩ = some (.int .i64 (b : Int)) ∧ w'.cell? ⟨W1.heap.size, 2, none⟩ = some (.int .i64 (c : Int)) ∧ w'.cell? ⟨W1.heap.size, 3, none⟩ = some (.int .i64 (e : Int)) ∧ OwnC w' ⟨W.heap.size, 0, none⟩ ∧ OwnC w' ⟨W.heap.size, 1, none⟩ ∧ OwnC w' ⟨W.heap.size, 2, none⟩ ∧ OwnC w' ⟨W.heap.size, 3, none⟩ ∧ (L 40 = true → w'.cell? ⟨W.heap.size, 0, none⟩ = some (.int .i64 (a : Int))) ∧ (L 40 = true → w'.cell? ⟨W.heap.size, 1, none⟩ = some (.int .i64 (b : Int))) ∧ (L 40 = true → w'.cell? ⟨W.heap.size, 2, none⟩ = some (.int .i64 (c : Int))) ∧ (L 40 = true → w'.cell? ⟨W.heap.size, 3, none⟩ = some (.int .i64 (e : Int)))) ⟨(hbW).drew, c0, c1, cx, e0, e1, e2, e3, o0, o1, o2, o3, fun h => absurd h (by decide), fun h => absurd h (by decide), fun h => absurd h (by decide), fun h => absurd h (by decide)⟩ ?_
      iterate 30 (refine wpFreeL_val rfl (fun _ _ _ h => h) (fun K hK => ?_); apply Exists.intro; refine ⟨fun L w' hS => ?_, ?_⟩; (have hb := hS.1; have g0 := hS.2.1; have g1 := hS.2.2.1; have g2 := hS.2.2.2.1; have g3 := hS.2.2.2.2.1; have g4 := hS.2.2.2.2.2.1; have g5 := hS.2.2.2.2.2.2.1; have g6 := hS.2.2.2.2.2.2.2.1; have o0 := hS.2.2.2.2.2.2.2.2.1; have o1 := hS.2.2.2.2.2.2.2.2.2.1; have o2 := hS.2.2.2.2.2.2.2.2.2.2.1; have o3 := hS.2.2.2.2.2.2.2.2.2.2.2.1; clear hS; go_simp; rfl); (go_simp; refine hK _ ?_; clear hK K))
      refine wpFreeL_gen rfl (fun K hK => ?_); apply Exists.intro; refine ⟨fun L w' hcl hL hdep hS => ?_, ?_⟩
      · have hb := hS.1; have g0 := hS.2.1; have g1 := hS.2.2.1; have g2 := hS.2.2.2.1; have g3 := hS.2.2.2.2.1; have g4 := hS.2.2.2.2.2.1; have g5 := hS.2.2.2.2.2.2.1; have g6 := hS.2.2.2.2.2.2.2.1; have o0 := hS.2.2.2.2.2.2.2.2.1; have o1 := hS.2.2.2.2.2.2.2.2.2.1; have o2 := hS.2.2.2.2.2.2.2.2.2.2.1; have o3 := hS.2.2.2.2.2.2.2.2.2.2.2.1; have s0 := hS.2.2.2.2.2.2.2.2.2.2.2.2.1; have s1 := hS.2.2.2.2.2.2.2.2.2.2.2.2.2.1; have s2 := hS.2.2.2.2.2.2.2.2.2.2.2.2.2.2.1; have s3 := hS.2.2.2.2.2.2.2.2.2.2.2.2.2.2.2; go_simp; refine (HHF.out _).mono ?_; rintro e w1 ⟨rfl, hb1⟩; exact ⟨rfl, ⟨hb.trans (hb1.mono (by have := hb.size; omega)), keepc hb1 g0, keepc hb1 g1, keepc hb1 g2, keepc hb1 g3, keepc hb1 g4, keepc hb1 g5, keepc hb1 g6, keepOwn hb1 o0, keepOwn hb1 o1, keepOwn hb1 o2, keepOwn hb1 o3, fun h => keepc hb1 (s0 h), fun h => keepc hb1 (s1 h), fun h => keepc hb1 (s2 h), fun h => keepc hb1 (s3 h)⟩⟩
      go_simp; refine hK _ ?_; clear hK K
      iterate 5 (refine wpFreeL_val rfl (fun _ _ _ h => h) (fun K hK => ?_); apply Exists.intro; refine ⟨fun L w' hS => ?_, ?_⟩; (have hb := hS.1; have g0 := hS.2.1; have g1 := hS.2.2.1; have g2 := hS.2.2.2.1; have g3 := hS.2.2.2.2.1; have g4 := hS.2.2.2.2.2.1; have g5 := hS.2.2.2.2.2.2.1; have g6 := hS.2.2.2.2.2.2.2.1; have o0 := hS.2.2.2.2.2.2.2.2.1; have o1 := hS.2.2.2.2.2.2.2.2.2.1; have o2 := hS.2.2.2.2.2.2.2.2.2.2.1; have o3 := hS.2.2.2.2.2.2.2.2.2.2.2.1; clear hS; go_simp; rfl); (go_simp; refine hK _ ?_; clear hK K))
      refine wpFreeL_gen rfl (fun K hK => ?_); apply Exists.intro; refine ⟨fun L w' hcl hL hdep hS => ?_, ?_⟩
      · have hb := hS.1; have g0 := hS.2.1; have g1 := hS.2.2.1; have g2 := hS.2.2.2.1; have g3 := hS.2.2.2.2.1; have g4 := hS.2.2.2.2.2.1; have g5 := hS.2.2.2.2.2.2.1; have g6 := hS.2.2.2.2.2.2.2.1; have o0 := hS.2.2.2.2.2.2.2.2.1; have o1 := hS.2.2.2.2.2.2.2.2.2.1; have o2 := hS.2.2.2.2.2.2.2.2.2.2.1; have o3 := hS.2.2.2.2.2.2.2.2.2.2.2.1; have s0 := hS.2.2.2.2.2.2.2.2.2.2.2.2.1; have s1 := hS.2.2.2.2.2.2.2.2.2.2.2.2.2.1; have s2 := hS.2.2.2.2.2.2.2.2.2.2.2.2.2.2.1; have s3 := hS.2.2.2.2.2.2.2.2.2.2.2.2.2.2.2; go_simp; refine (HPG.out _).mono ?_; rintro e w1 ⟨rfl, hb1⟩; exact ⟨rfl, ⟨hb.trans (hb1.mono (by have := hb.size; omega)), keepc hb1 g0, keepc hb1 g1, keepc hb1 g2, keepc hb1 g3, keepc hb1 g4, keepc hb1 g5, keepc hb1 g6, keepOwn hb1 o0, keepOwn hb1 o1, keepOwn hb1 o2, keepOwn hb1 o3, fun h => keepc hb1 (s0 h), fun h => keepc hb1 (s1 h), fun h => keepc hb1 (s2 h), fun h => keepc hb1 (s3 h)⟩⟩
      go_simp; refine hK _ ?_; clear hK K
      iterate 3 (refine wpFreeL_val rfl (fun _ _ _ h => h) (fun K hK => ?_); apply Exists.intro; refine ⟨fun L w' hS => ?_, ?_⟩; (have hb := hS.1; have g0 := hS.2.1; have g1 := hS.2.2.1; have g2 := hS.2.2.2.1; have g3 := hS.2.2.2.2.1; have g4 := hS.2.2.2.2.2.1; have g5 := hS.2.2.2.2.2.2.1; have g6 := hS.2.2.2.2.2.2.2.1; have o0 := hS.2.2.2.2.2.2.2.2.1; have o1 := hS.2.2.2.2.2.2.2.2.2.1; have o2 := hS.2.2.2.2.2.2.2.2.2.2.1; have o3 := hS.2.2.2.2.2.2.2.2.2.2.2.1; clear hS; go_simp; rfl); (go_simp; refine hK _ ?_; clear hK K))
      refine wpFreeL_gen rfl (fun K hK => ?_); refine ⟨undef, fun L w' _ hL hdep hS => ?_, ?_⟩
      · have hb := hS.1; have g0 := hS.2.1; have g1 := hS.2.2.1; have g2 := hS.2.2.2.1; have g3 := hS.2.2.2.2.1; have g4 := hS.2.2.2.2.2.1; have g5 := hS.2.2.2.2.2.2.1; have g6 := hS.2.2.2.2.2.2.2.1; have o0 := hS.2.2.2.2.2.2.2.2.1; have o1 := hS.2.2.2.2.2.2.2.2.2.1; have o2 := hS.2.2.2.2.2.2.2.2.2.2.1; have o3 := hS.2.2.2.2.2.2.2.2.2.2.2.1; have s0 := hS.2.2.2.2.2.2.2.2.2.2.2.2.1; have s1 := hS.2.2.2.2.2.2.2.2.2.2.2.2.2.1; have s2 := hS.2.2.2.2.2.2.2.2.2.2.2.2.2.2.1; have s3 := hS.2.2.2.2.2.2.2.2.2.2.2.2.2.2.2; clear hS
        have o0' := o0; obtain ⟨⟨u0, e0⟩, f0⟩ := o0'
        have o1' := o1; obtain ⟨⟨u1, e1⟩, f1⟩ := o1'
        have o2' := o2; obtain ⟨⟨u2, e2⟩, f2⟩ := o2'
        have o3' := o3; obtain ⟨⟨u3, e3⟩, f3⟩ := o3'
        go_simp
        refine ⟨rfl, ⟨(Below.setCell (p := ⟨W.heap.size, 3, none⟩) (Below.setCell (p := ⟨W.heap.size, 2, none⟩) (Below.setCell (p := ⟨W.heap.size, 1, none⟩) (Below.setCell (p := ⟨W.heap.size, 0, none⟩) hb (by dsimp only; omega) _) (by dsimp only; omega) _) (by dsimp only; omega) _) (by dsimp only; omega) _), by go_simp, by go_simp, by go_simp, by go_simp, by go_simp, by go_simp, by go_simp, ((((o0.set _ _).set _ _).set _ _).set _ _), ((((o1.set _ _).set _ _).set _ _).set _ _), ((((o2.set _ _).set _ _).set _ _).set _ _), ((((o3.set _ _).set _ _).set _ _).set _ _), fun _ => by go_simp, fun _ => by go_simp, fun _ => by go_simp, fun _ => by go_simp⟩⟩
      go_simp; refine hK _ ?_; clear hK K
      refine wpFreeL_val rfl (fun _ _ _ h => h) (fun K hK => ?_); apply Exists.intro; refine ⟨fun L w' hS => ?_, ?_⟩; (have hb := hS.1; have g0 := hS.2.1; have g1 := hS.2.2.1; have g2 := hS.2.2.2.1; have g3 := hS.2.2.2.2.1; have g4 := hS.2.2.2.2.2.1; have g5 := hS.2.2.2.2.2.2.1; have g6 := hS.2.2.2.2.2.2.2.1; have o0 := hS.2.2.2.2.2.2.2.2.1; have o1 := hS.2.2.2.2.2.2.2.2.2.1; have o2 := hS.2.2.2.2.2.2.2.2.2.2.1; have o3 := hS.2.2.2.2.2.2.2.2.2.2.2.1; clear hS; go_simp; rfl); (go_simp; refine hK _ ?_; clear hK K)
      refine wpFreeL_nil (fun L w' hL hS => ?_)
      have hb := hS.1; have g0 := hS.2.1; have g1 := hS.2.2.1; have g2 := hS.2.2.2.1; have g3 := hS.2.2.2.2.1; have g4 := hS.2.2.2.2.2.1; have g5 := hS.2.2.2.2.2.2.1; have g6 := hS.2.2.2.2.2.2.2.1; have o0 := hS.2.2.2.2.2.2.2.2.1; have o1 := hS.2.2.2.2.2.2.2.2.2.1; have o2 := hS.2.2.2.2.2.2.2.2.2.2.1; have o3 := hS.2.2.2.2.2.2.2.2.2.2.2.1; have s0 := hS.2.2.2.2.2.2.2.2.2.2.2.2.1 (hL 40 (by decide)); have s1 := hS.2.2.2.2.2.2.2.2.2.2.2.2.2.1 (hL 40 (by decide)); have s2 := hS.2.2.2.2.2.2.2.2.2.2.2.2.2.2.1 (hL 40 (by decide)); have s3 := hS.2.2.2.2.2.2.2.2.2.2.2.2.2.2.2 (hL 40 (by decide))
      clear hL hS
      go_wp2_with fail
      rw [HR.out]
      exact bodyPost_ret (v := .tuple #[hdV (a, b, c, e), .bool false]) (by simp [results, Tryz.results35, go_sem, s0, s1, s2, s3, hdV, t9]) rfl ⟨rfl, below_step hb HBW0.out⟩
    subst t7
    have HR : Hid (R = true) := by unfold Hid; rw [HOK.out, HDK.out]; rw [decide_eq_true (And.intro t1 (And.intro t2 (And.intro t3 (And.intro t4 (And.intro t5 t6)))))]; simp
    clear t1 t2 t3 t4 t5 t6
    go_wp2_with fail
    refine (fun hm hB S hS h => wp_region_freeL S hm hB hS h) (by kernel_rfl) (by kernel_rfl) (fun L w' => Below W.heap.size W w' ∧ w'.cell? ⟨w.heap.size, 0, none⟩ = some (.slice op N cp) ∧ w'.cell? ⟨w.heap.size, 1, none⟩ = some (.slice oq M cq) ∧ w'.cell? ⟨X, 0, none⟩ = some (strV s) ∧ w'.cell? ⟨W1.heap.size, 0, none⟩ = some (.int .i64 (a : Int)) ∧ w'.cell? ⟨W1.heap.size, 1, none⟩ = some (.int .i64 (b : Int)) ∧ w'.cell? ⟨W1.heap.size, 2, none⟩ = some (.int .i64 (c : Int)) ∧ w'.cell? ⟨W1.heap.size, 3, none⟩ = some (.int .i64 (e : Int)) ∧ OwnC w' ⟨W.heap.size, 0, none⟩ ∧ OwnC w' ⟨W.heap.size, 1, none⟩ ∧ OwnC w' ⟨W.heap.size, 2, none⟩ ∧ OwnC w' ⟨W.heap.size, 3, none⟩ ∧ (L 40 = true → w'.cell? ⟨W.heap.size, 0, none⟩ = some (.int .i64 (a : Int))) ∧ (L 40 = true → w'.cell? ⟨W.heap.size, 1, none⟩ = some (.int .i64 (b : Int))) ∧ (L 40 = true → w'.cell? ⟨W.heap.size, 2, none⟩ = some (.int .i64 (c : Int))) ∧ (L 40 = true → w'.cell? ⟨W.heap.size, 3, none⟩ = some (.int .i64 (e : Int)))) ⟨(hbW).drew, c0, c1, cx, e0, e1, e2, e3, o0, o1, o2, o3, fun h => absurd h (by decide), fun h => absurd h (by decide), fun h => absurd h (by decide), fun h => absurd h (by decide)⟩ ?_
    iterate 30 (refine wpFreeL_val rfl (fun _ _ _ h => h) (fun K hK => ?_); apply Exists.intro; refine ⟨fun L w' hS => ?_, ?_⟩; (have hb := hS.1; have g0 := hS.2.1; have g1 := hS.2.2.1; have g2 := hS.2.2.2.1; have g3 := hS.2.2.2.2.1; have g4 := hS.2.2.2.2.2.1; have g5 := hS.2.2.2.2.2.2.1; have g6 := hS.2.2.2.2.2.2.2.1; have o0 := hS.2.2.2.2.2.2.2.2.1; have o1 := hS.2.2.2.2.2.2.2.2.2.1; have o2 := hS.2.2.2.2.2.2.2.2.2.2.1; have o3 := hS.2.2.2.2.2.2.2.2.2.2.2.1; clear hS; go_simp; rfl); (go_simp; refine hK _ ?_; clear hK K))
    refine wpFreeL_gen rfl (fun K hK => ?_); apply Exists.intro; refine ⟨fun L w' hcl hL hdep hS => ?_, ?_⟩
    · have hb := hS.1; have g0 := hS.2.1; have g1 := hS.2.2.1; have g2 := hS.2.2.2.1; have g3 := hS.2.2.2.2.1; have g4 := hS.2.2.2.2.2.1; have g5 := hS.2.2.2.2.2.2.1; have g6 := hS.2.2.2.2.2.2.2.1; have o0 := hS.2.2.2.2.2.2.2.2.1; have o1 := hS.2.2.2.2.2.2.2.2.2.1; have o2 := hS.2.2.2.2.2.2.2.2.2.2.1; have o3 := hS.2.2.2.2.2.2.2.2.2.2.2.1; have s0 := hS.2.2.2.2.2.2.2.2.2.2.2.2.1; have s1 := hS.2.2.2.2.2.2.2.2.2.2.2.2.2.1; have s2 := hS.2.2.2.2.2.2.2.2.2.2.2.2.2.2.1; have s3 := hS.2.2.2.2.2.2.2.2.2.2.2.2.2.2.2; go_simp; refine (HHF.out _).mono ?_; rintro e w1 ⟨rfl, hb1⟩; exact ⟨rfl, ⟨hb.trans (hb1.mono (by have := hb.size; omega)), keepc hb1 g0, keepc hb1 g1, keepc hb1 g2, keepc hb1 g3, keepc hb1 g4, keepc hb1 g5, keepc hb1 g6, keepOwn hb1 o0, keepOwn hb1 o1, keepOwn hb1 o2, keepOwn hb1 o3, fun h => keepc hb1 (s0 h), fun h => keepc hb1 (s1 h), fun h => keepc hb1 (s2 h), fun h => keepc hb1 (s3 h)⟩⟩
    go_simp; refine hK _ ?_; clear hK K
    iterate 5 (refine wpFreeL_val rfl (fun _ _ _ h => h) (fun K hK => ?_); apply Exists.intro; refine ⟨fun L w' hS => ?_, ?_⟩; (have hb := hS.1; have g0 := hS.2.1; have g1 := hS.2.2.1; have g2 := hS.2.2.2.1; have g3 := hS.2.2.2.2.1; have g4 := hS.2.2.2.2.2.1; have g5 := hS.2.2.2.2.2.2.1; have g6 := hS.2.2.2.2.2.2.2.1; have o0 := hS.2.2.2.2.2.2.2.2.1; have o1 := hS.2.2.2.2.2.2.2.2.2.1; have o2 := hS.2.2.2.2.2.2.2.2.2.2.1; have o3 := hS.2.2.2.2.2.2.2.2.2.2.2.1; clear hS; go_simp; rfl); (go_simp; refine hK _ ?_; clear hK K))
    refine wpFreeL_gen rfl (fun K hK => ?_); apply Exists.intro; refine ⟨fun L w' hcl hL hdep hS => ?_, ?_⟩
    · have hb := hS.1; have g0 := hS.2.1; have g1 := hS.2.2.1; have g2 := hS.2.2.2.1; have g3 := hS.2.2.2.2.1; have g4 := hS.2.2.2.2.2.1; have g5 := hS.2.2.2.2.2.2.1; have g6 := hS.2.2.2.2.2.2.2.1; have o0 := hS.2.2.2.2.2.2.2.2.1; have o1 := hS.2.2.2.2.2.2.2.2.2.1; have o2 := hS.2.2.2.2.2.2.2.2.2.2.1; have o3 := hS.2.2.2.2.2.2.2.2.2.2.2.1; have s0 := hS.2.2.2.2.2.2.2.2.2.2.2.2.1; have s1 := hS.2.2.2.2.2.2.2.2.2.2.2.2.2.1; have s2 := hS.2.2.2.2.2.2.2.2.2.2.2.2.2.2.1; have s3 := hS.2.2.2.2.2.2.2.2.2.2.2.2.2.2.2; go_simp; refine (HPG.out _).mono ?_; rintro e w1 ⟨rfl, hb1⟩; exact ⟨rfl, ⟨hb.trans (hb1.mono (by have := hb.size; omega)), keepc hb1 g0, keepc hb1 g1, keepc hb1 g2, keepc hb1 g3, keepc hb1 g4, keepc hb1 g5, keepc hb1 g6, keepOwn hb1 o0, keepOwn hb1 o1, keepOwn hb1 o2, keepOwn hb1 o3, fun h => keepc hb1 (s0 h), fun h => keepc hb1 (s1 h), fun h => keepc hb1 (s2 h), fun h => keepc hb1 (s3 h)⟩⟩
    go_simp; refine hK _ ?_; clear hK K
    iterate 3 (refine wpFreeL_val rfl (fun _ _ _ h => h) (fun K hK => ?_); apply Exists.intro; refine ⟨fun L w' hS => ?_, ?_⟩; (have hb := hS.1; have g0 := hS.2.1; have g1 := hS.2.2.1; have g2 := hS.2.2.2.1; have g3 := hS.2.2.2.2.1; have g4 := hS.2.2.2.2.2.1; have g5 := hS.2.2.2.2.2.2.1; have g6 := hS.2.2.2.2.2.2.2.1; have o0 := hS.2.2.2.2.2.2.2.2.1; have o1 := hS.2.2.2.2.2.2.2.2.2.1; have o2 := hS.2.2.2.2.2.2.2.2.2.2.1; have o3 := hS.2.2.2.2.2.2.2.2.2.2.2.1; clear hS; go_simp; rfl); (go_simp; refine hK _ ?_; clear hK K))
    refine wpFreeL_gen rfl (fun K hK => ?_); refine ⟨undef, fun L w' _ hL hdep hS => ?_, ?_⟩
    · have hb := hS.1; have g0 := hS.2.1; have g1 := hS.2.2.1; have g2 := hS.2.2.2.1; have g3 := hS.2.2.2.2.1; have g4 := hS.2.2.2.2.2.1; have g5 := hS.2.2.2.2.2.2.1; have g6 := hS.2.2.2.2.2.2.2.1; have o0 := hS.2.2.2.2.2.2.2.2.1; have o1 := hS.2.2.2.2.2.2.2.2.2.1; have o2 := hS.2.2.2.2.2.2.2.2.2.2.1; have o3 := hS.2.2.2.2.2.2.2.2.2.2.2.1; have s0 := hS.2.2.2.2.2.2.2.2.2.2.2.2.1; have s1 := hS.2.2.2.2.2.2.2.2.2.2.2.2.2.1; have s2 := hS.2.2.2.2.2.2.2.2.2.2.2.2.2.2.1; have s3 := hS.2.2.2.2.2.2.2.2.2.2.2.2.2.2.2; clear hS
      have o0' := o0; obtain ⟨⟨u0, e0⟩, f0⟩ := o0'
      have o1' := o1; obtain ⟨⟨u1, e1⟩, f1⟩ := o1'
      have o2' := o2; obtain ⟨⟨u2, e2⟩, f2⟩ := o2'
      have o3' := o3; obtain ⟨⟨u3, e3⟩, f3⟩ := o3'
      go_simp
      refine ⟨rfl, ⟨(Below.setCell (p := ⟨W.heap.size, 3, none⟩) (Below.setCell (p := ⟨W.heap.size, 2, none⟩) (Below.setCell (p := ⟨W.heap.size, 1, none⟩) (Below.setCell (p := ⟨W.heap.size, 0, none⟩) hb (by dsimp only; omega) _) (by dsimp only; omega) _) (by dsimp only; omega) _) (by dsimp only; omega) _), by go_simp, by go_simp, by go_simp, by go_simp, by go_simp, by go_simp, by go_simp, ((((o0.set _ _).set _ _).set _ _).set _ _), ((((o1.set _ _).set _ _).set _ _).set _ _), ((((o2.set _ _).set _ _).set _ _).set _ _), ((((o3.set _ _).set _ _).set _ _).set _ _), fun _ => by go_simp, fun _ => by go_simp, fun _ => by go_simp, fun _ => by go_simp⟩⟩
    go_simp; refine hK _ ?_; clear hK K
    refine wpFreeL_val rfl (fun _ _ _ h => h) (fun K hK => ?_); apply Exists.intro; refine ⟨fun L w' hS => ?_, ?_⟩; (have hb := hS.1; have g0 := hS.2.1; have g1 := hS.2.2.1; have g2 := hS.2.2.2.1; have g3 := hS.2.2.2.2.1; have g4 := hS.2.2.2.2.2.1; have g5 := hS.2.2.2.2.2.2.1; have g6 := hS.2.2.2.2.2.2.2.1; have o0 := hS.2.2.2.2.2.2.2.2.1; have o1 := hS.2.2.2.2.2.2.2.2.2.1; have o2 := hS.2.2.2.2.2.2.2.2.2.2.1; have o3 := hS.2.2.2.2.2.2.2.2.2.2.2.1; clear hS; go_simp; rfl); (go_simp; refine hK _ ?_; clear hK K)
    refine wpFreeL_nil (fun L w' hL hS => ?_)
    have hb := hS.1; have g0 := hS.2.1; have g1 := hS.2.2.1; have g2 := hS.2.2.2.1; have g3 := hS.2.2.2.2.1; have g4 := hS.2.2.2.2.2.1; have g5 := hS.2.2.2.2.2.2.1; have g6 := hS.2.2.2.2.2.2.2.1; have o0 := hS.2.2.2.2.2.2.2.2.1; have o1 := hS.2.2.2.2.2.2.2.2.2.1; have o2 := hS.2.2.2.2.2.2.2.2.2.2.1; have o3 := hS.2.2.2.2.2.2.2.2.2.2.2.1; have s0 := hS.2.2.2.2.2.2.2.2.2.2.2.2.1 (hL 40 (by decide)); have s1 := hS.2.2.2.2.2.2.2.2.2.2.2.2.2.1 (hL 40 (by decide)); have s2 := hS.2.2.2.2.2.2.2.2.2.2.2.2.2.2.1 (hL 40 (by decide)); have s3 := hS.2.2.2.2.2.2.2.2.2.2.2.2.2.2.2 (hL 40 (by decide))
    clear hL hS
    go_wp2_with fail
    rw [HR.out]
    exact bodyPost_ret (v := .tuple #[hdV (a, b, c, e), .bool true]) (by simp [results, Tryz.results35, go_sem, s0, s1, s2, s3, hdV]) rfl ⟨rfl, below_step hb HBW0.out⟩
end Go.Proofs.YtifcgimpgbeocaaGreat
