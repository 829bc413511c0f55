/- The reference's Write, Rewrite, Delete. -/
import Derived.Test.YtifcgimpgbeocaaGreatK27
set_option linter.unusedVariables false
set_option linter.unusedSimpArgs false
namespace Go.Proofs.YtifcgimpgbeocaaGreat
open Go.RowKit
attribute [local go_sem] Oper.semAt_some
set_option maxHeartbeats 2000000 in
set_option maxRecDepth 100000 in
theorem rwrite_any (d : Ds) (v : Value) (r : Rec) (w : World) (hR : RdR w v d) : Calls Tryz.prog 91 #[v, recV r] w (RetR (writeD d r).1 (writeD d r).2 w) := by
  have HX0 := hid (cell_new w #[strV r.1, strV r.2] 59 0 (strV r.1) rfl)
  have HX1 := hid (cell_new w #[strV r.1, strV r.2] 59 1 (strV r.2) rfl)
  have HB0 := hid ((Below.refl w.heap.size w).alloc (Nat.le_refl _) (.cells #[strV r.1, strV r.2] 59))
  have HC := hid (fun w' (hb : Below w.heap.size w w') => rcheck_any d v w' (hR.below hb))
  have HK := hid (fun w => rkey_any r.1 w)
  cases hd : isDs d with
  | false =>
    rw [hd] at HC
    have hr : writeD d r = ([], 140) := by unfold writeD; rw [hd]; rfl
    rw [hr]
    have HC2 : Hid (∀ w', Below w.heap.size w w' → Calls Tryz.prog 90 #[v] w' (Ret (.int .i64 140) w')) := HC.out
    clear HC hd hr hR
    go_enter Tryz.func91, Tryz.ntmps91
    have x0 := HX0.out; have x1 := HX1.out
    go_wp2_with fail
    refine (HC2.out _ HB0.out).mono ?_
    rintro e w1 ⟨rfl, hb1⟩
    have HB1 := hid (below_step hb1 HB0.out)
    have x0 := keepc hb1 HX0.out
    have x1 := keepc hb1 HX1.out
    clear hb1
    go_wp2_with fail
    go_ret2
    exact ⟨_, rfl, oR_nil _ _, HB1.out⟩
  | true =>
    rw [hd] at HC
    have HC2 : Hid (∀ w', Below w.heap.size w w' → Calls Tryz.prog 90 #[v] w' (Ret (.int .i64 0) w')) := HC.out
    have hrec : isRec r = (isKey r.1 && decide (r.2.length ≤ 255)) := rfl
    cases hk : isKey r.1 with
    | false =>
      rw [hk] at HK
      have hr : writeD d r = ([], 1) := by unfold writeD; rw [hrec, hd, hk]; rfl
      rw [hr]
      clear HC hd hr hR hk hrec
      go_enter Tryz.func91, Tryz.ntmps91
      have x0 := HX0.out; have x1 := HX1.out
      go_wp2_with fail
      refine (HC2.out _ HB0.out).mono ?_
      rintro e w1 ⟨rfl, hb1⟩
      have HB1 := hid (below_step hb1 HB0.out)
      have x0 := keepc hb1 HX0.out
      have x1 := keepc hb1 HX1.out
      clear hb1
      go_wp2_with fail
      refine (HK.out _).mono ?_
      rintro e w2 ⟨rfl, hb2⟩
      have HB2 := hid (below_step hb2 HB1.out)
      have x0 := keepc hb2 x0
      have x1 := keepc hb2 x1
      clear hb2
      go_wp2_with fail
      go_ret2
      exact ⟨_, rfl, oR_nil _ _, HB2.out⟩
    | true =>
      rw [hk] at HK
      by_cases hdl : r.2.length ≤ 255
      rotate_left
      · have e1 : decide (r.2.length ≤ 255) = false := by simpa using hdl
        have hr : writeD d r = ([], 1) := by unfold writeD; rw [hrec, hd, hk, e1]; rfl
        rw [hr]
        have z1 : decide ((255 : Int) < (r.2.length : Int)) = true := by simp; omega
        clear HC hd hr hR hk hrec e1 hdl
        go_enter Tryz.func91, Tryz.ntmps91
        have x0 := HX0.out; have x1 := HX1.out
        go_wp2_with fail
        refine (HC2.out _ HB0.out).mono ?_
        rintro e w1 ⟨rfl, hb1⟩
        have HB1 := hid (below_step hb1 HB0.out)
        have x0 := keepc hb1 HX0.out
        have x1 := keepc hb1 HX1.out
        clear hb1
        go_wp2_with fail
        refine (HK.out _).mono ?_
        rintro e w2 ⟨rfl, hb2⟩
        have HB2 := hid (below_step hb2 HB1.out)
        have x0 := keepc hb2 x0
        have x1 := keepc hb2 x1
        clear hb2
        go_wp2_with fail
        go_ret2
        exact ⟨_, rfl, oR_nil _ _, HB2.out⟩
      have e1 : decide (r.2.length ≤ 255) = true := by simpa using hdl
      have er : isRec r = true := by rw [hrec, hk, e1]; rfl
      have z1 : decide ((255 : Int) < (r.2.length : Int)) = false := by simp; omega
      have HTH := hid (fun w' (hb : Below w.heap.size w w') => rthere_any d v r.1 w' (hR.below hb) hd)
      have hl := isDs_len hd
      have hs := isDs_sorted hd
      clear e1 hrec hk hdl HC
      cases hh : hasD d r.1 with
      | true =>
        rw [hh] at HTH
        have hr : writeD d r = ([], 141) := by unfold writeD; rw [if_pos hd, if_pos er, hh]; rfl
        rw [hr]
        clear hr hh er hR hl hs hd
        go_enter Tryz.func91, Tryz.ntmps91
        have x0 := HX0.out; have x1 := HX1.out
        go_wp2_with fail
        refine (HC2.out _ HB0.out).mono ?_
        rintro e w1 ⟨rfl, hb1⟩
        have HB1 := hid (below_step hb1 HB0.out)
        have x0 := keepc hb1 HX0.out
        have x1 := keepc hb1 HX1.out
        clear hb1
        go_wp2_with fail
        refine (HK.out _).mono ?_
        rintro e w2 ⟨rfl, hb2⟩
        have HB2 := hid (below_step hb2 HB1.out)
        have x0 := keepc hb2 x0
        have x1 := keepc hb2 x1
        clear hb2
        go_wp2_with fail
        refine (HTH.out _ HB2.out).mono ?_
        rintro e w3 ⟨rfl, hb3⟩
        have HB3 := hid (below_step hb3 HB2.out)
        have x0 := keepc hb3 x0
        have x1 := keepc hb3 x1
        clear hb3
        go_wp2_with fail
        go_ret2
        exact ⟨_, rfl, oR_nil _ _, HB3.out⟩
      | false =>
        rw [hh] at HTH
        by_cases h64 : d.length = 64
        · have hr : writeD d r = ([], 2) := by unfold writeD; rw [if_pos hd, if_pos er, hh, if_pos h64]; rfl
          rw [hr]
          obtain ⟨o, cap, hv, -, -⟩ := hR
          rw [h64] at hv
          subst hv
          clear hr hh er hl hs hd h64
          go_enter Tryz.func91, Tryz.ntmps91
          have x0 := HX0.out; have x1 := HX1.out
          go_wp2_with fail
          refine (HC2.out _ HB0.out).mono ?_
          rintro e w1 ⟨rfl, hb1⟩
          have HB1 := hid (below_step hb1 HB0.out)
          have x0 := keepc hb1 HX0.out
          have x1 := keepc hb1 HX1.out
          clear hb1
          go_wp2_with fail
          refine (HK.out _).mono ?_
          rintro e w2 ⟨rfl, hb2⟩
          have HB2 := hid (below_step hb2 HB1.out)
          have x0 := keepc hb2 x0
          have x1 := keepc hb2 x1
          clear hb2
          go_wp2_with fail
          refine (HTH.out _ HB2.out).mono ?_
          rintro e w3 ⟨rfl, hb3⟩
          have HB3 := hid (below_step hb3 HB2.out)
          have x0 := keepc hb3 x0
          have x1 := keepc hb3 x1
          clear hb3
          go_wp2_with fail
          go_ret2
          exact ⟨_, rfl, oR_nil _ _, HB3.out⟩
        · have hr : writeD d r = (withR d r, 0) := by unfold writeD; rw [if_pos hd, if_pos er, hh, if_neg h64, with_no hs hh]; rfl
          rw [hr]
          have HW := hid (fun w' (hb : Below w.heap.size w w') => rwith_any d v r w' (hR.below hb) hl)
          obtain ⟨A, hA⟩ : ∃ A, withR d r = A := ⟨_, rfl⟩
          rw [hA] at HW ⊢
          obtain ⟨o, cap, hv, -, -⟩ := id hR
          have g1 : ((d.length : Int) == 64) = false := by rw [beq_eq_false_iff_ne]; omega
          obtain ⟨N, hN⟩ : ∃ N, d.length = N := ⟨_, rfl⟩
          rw [hN] at hv g1
          subst hv
          clear hr hh er hl hs hd h64 hR hA hN
          go_enter Tryz.func91, Tryz.ntmps91
          have x0 := HX0.out; have x1 := HX1.out
          go_wp2_with fail
          refine (HC2.out _ HB0.out).mono ?_
          rintro e w1 ⟨rfl, hb1⟩
          have HB1 := hid (below_step hb1 HB0.out)
          have x0 := keepc hb1 HX0.out
          have x1 := keepc hb1 HX1.out
          clear hb1
          go_wp2_with fail
          refine (HK.out _).mono ?_
          rintro e w2 ⟨rfl, hb2⟩
          have HB2 := hid (below_step hb2 HB1.out)
          have x0 := keepc hb2 x0
          have x1 := keepc hb2 x1
          clear hb2
          go_wp2_with fail
          refine (HTH.out _ HB2.out).mono ?_
          rintro e w3 ⟨rfl, hb3⟩
          have HB3 := hid (below_step hb3 HB2.out)
          have x0 := keepc hb3 x0
          have x1 := keepc hb3 x1
          clear hb3
          go_wp2_with fail
          refine (HW.out _ HB3.out).mono ?_
          rintro e w4 ⟨u4, rfl, ho4, hb4⟩
          have HB4 := hid (below_step hb4 HB3.out)
          have HO4 := hid (ho4.mono (B' := w.heap.size) HB3.out.size)
          clear hb4 ho4
          go_wp2_with fail
          go_ret2
          exact ⟨_, rfl, HO4.out, HB4.out⟩
set_option maxHeartbeats 2000000 in
set_option maxRecDepth 100000 in
theorem rrewrite_any (d : Ds) (v : Value) (r : Rec) (w : World) (hR : RdR w v d) : Calls Tryz.prog 92 #[v, recV r] w (RetR (rewriteD d r).1 (rewriteD d r).2 w) := by
  have HX0 := hid (cell_new w #[strV r.1, strV r.2] 59 0 (strV r.1) rfl)
  have HX1 := hid (cell_new w #[strV r.1, strV r.2] 59 1 (strV r.2) rfl)
  have HB0 := hid ((Below.refl w.heap.size w).alloc (Nat.le_refl _) (.cells #[strV r.1, strV r.2] 59))
  have HC := hid (fun w' (hb : Below w.heap.size w w') => rcheck_any d v w' (hR.below hb))
  have HK := hid (fun w => rkey_any r.1 w)
  cases hd : isDs d with
  | false =>
    rw [hd] at HC
    have hr : rewriteD d r = ([], 140) := by unfold rewriteD; rw [hd]; rfl
    rw [hr]
    have HC2 : Hid (∀ w', Below w.heap.size w w' → Calls Tryz.prog 90 #[v] w' (Ret (.int .i64 140) w')) := HC.out
    clear HC hd hr hR
    go_enter Tryz.func92, Tryz.ntmps92
    have x0 := HX0.out; have x1 := HX1.out
    go_wp2_with fail
    refine (HC2.out _ HB0.out).mono ?_
    rintro e w1 ⟨rfl, hb1⟩
    have HB1 := hid (below_step hb1 HB0.out)
    have x0 := keepc hb1 HX0.out
    have x1 := keepc hb1 HX1.out
    clear hb1
    go_wp2_with fail
    go_ret2
    exact ⟨_, rfl, oR_nil _ _, HB1.out⟩
  | true =>
    rw [hd] at HC
    have HC2 : Hid (∀ w', Below w.heap.size w w' → Calls Tryz.prog 90 #[v] w' (Ret (.int .i64 0) w')) := HC.out
    have hrec : isRec r = (isKey r.1 && decide (r.2.length ≤ 255)) := rfl
    cases hk : isKey r.1 with
    | false =>
      rw [hk] at HK
      have hr : rewriteD d r = ([], 1) := by unfold rewriteD; rw [hrec, hd, hk]; rfl
      rw [hr]
      clear HC hd hr hR hk hrec
      go_enter Tryz.func92, Tryz.ntmps92
      have x0 := HX0.out; have x1 := HX1.out
      go_wp2_with fail
      refine (HC2.out _ HB0.out).mono ?_
      rintro e w1 ⟨rfl, hb1⟩
      have HB1 := hid (below_step hb1 HB0.out)
      have x0 := keepc hb1 HX0.out
      have x1 := keepc hb1 HX1.out
      clear hb1
      go_wp2_with fail
      refine (HK.out _).mono ?_
      rintro e w2 ⟨rfl, hb2⟩
      have HB2 := hid (below_step hb2 HB1.out)
      have x0 := keepc hb2 x0
      have x1 := keepc hb2 x1
      clear hb2
      go_wp2_with fail
      go_ret2
      exact ⟨_, rfl, oR_nil _ _, HB2.out⟩
    | true =>
      rw [hk] at HK
      by_cases hdl : r.2.length ≤ 255
      rotate_left
      · have e1 : decide (r.2.length ≤ 255) = false := by simpa using hdl
        have hr : rewriteD d r = ([], 1) := by unfold rewriteD; rw [hrec, hd, hk, e1]; rfl
        rw [hr]
        have z1 : decide ((255 : Int) < (r.2.length : Int)) = true := by simp; omega
        clear HC hd hr hR hk hrec e1 hdl
        go_enter Tryz.func92, Tryz.ntmps92
        have x0 := HX0.out; have x1 := HX1.out
        go_wp2_with fail
        refine (HC2.out _ HB0.out).mono ?_
        rintro e w1 ⟨rfl, hb1⟩
        have HB1 := hid (below_step hb1 HB0.out)
        have x0 := keepc hb1 HX0.out
        have x1 := keepc hb1 HX1.out
        clear hb1
        go_wp2_with fail
        refine (HK.out _).mono ?_
        rintro e w2 ⟨rfl, hb2⟩
        have HB2 := hid (below_step hb2 HB1.out)
        have x0 := keepc hb2 x0
        have x1 := keepc hb2 x1
        clear hb2
        go_wp2_with fail
        go_ret2
        exact ⟨_, rfl, oR_nil _ _, HB2.out⟩
      have e1 : decide (r.2.length ≤ 255) = true := by simpa using hdl
      have er : isRec r = true := by rw [hrec, hk, e1]; rfl
      have z1 : decide ((255 : Int) < (r.2.length : Int)) = false := by simp; omega
      have HTH := hid (fun w' (hb : Below w.heap.size w w') => rthere_any d v r.1 w' (hR.below hb) hd)
      have hl := isDs_len hd
      have hs := isDs_sorted hd
      clear e1 hrec hk hdl HC
      cases hh : hasD d r.1 with
      | false =>
        rw [hh] at HTH
        have hr : rewriteD d r = ([], 4) := by unfold rewriteD; rw [if_pos hd, if_pos er, hh]; rfl
        rw [hr]
        clear hr hh er hR hl hs hd
        go_enter Tryz.func92, Tryz.ntmps92
        have x0 := HX0.out; have x1 := HX1.out
        go_wp2_with fail
        refine (HC2.out _ HB0.out).mono ?_
        rintro e w1 ⟨rfl, hb1⟩
        have HB1 := hid (below_step hb1 HB0.out)
        have x0 := keepc hb1 HX0.out
        have x1 := keepc hb1 HX1.out
        clear hb1
        go_wp2_with fail
        refine (HK.out _).mono ?_
        rintro e w2 ⟨rfl, hb2⟩
        have HB2 := hid (below_step hb2 HB1.out)
        have x0 := keepc hb2 x0
        have x1 := keepc hb2 x1
        clear hb2
        go_wp2_with fail
        refine (HTH.out _ HB2.out).mono ?_
        rintro e w3 ⟨rfl, hb3⟩
        have HB3 := hid (below_step hb3 HB2.out)
        have x0 := keepc hb3 x0
        have x1 := keepc hb3 x1
        clear hb3
        go_wp2_with fail
        go_ret2
        exact ⟨_, rfl, oR_nil _ _, HB3.out⟩
      | true =>
        rw [hh] at HTH
        have hr : rewriteD d r = (withR (withoutR d r.1) r, 0) := by unfold rewriteD; rw [if_pos hd, if_pos er, hh, with_set hs hh]; rfl
        rw [hr]
        have HWO := hid (fun w' (hb : Below w.heap.size w w') => rwithout_any d v r.1 w' (hR.below hb) hl)
        have hl2 : (withoutR d r.1).length ≤ 64 := Nat.le_trans (List.length_filter_le _ _) hl
        have HW := hid (fun (u : Value) (w' : World) (h : RdR w' u (withoutR d r.1)) => rwith_any _ u r w' h hl2)
        obtain ⟨A, hA⟩ : ∃ A, withR (withoutR d r.1) r = A := ⟨_, rfl⟩
        rw [hA] at HW ⊢
        obtain ⟨A2, hA2⟩ : ∃ A, withoutR d r.1 = A := ⟨_, rfl⟩
        rw [hA2] at HW HWO
        clear hr hh er hl hs hd hR hA hA2 hl2
        go_enter Tryz.func92, Tryz.ntmps92
        have x0 := HX0.out; have x1 := HX1.out
        go_wp2_with fail
        refine (HC2.out _ HB0.out).mono ?_
        rintro e w1 ⟨rfl, hb1⟩
        have HB1 := hid (below_step hb1 HB0.out)
        have x0 := keepc hb1 HX0.out
        have x1 := keepc hb1 HX1.out
        clear hb1
        go_wp2_with fail
        refine (HK.out _).mono ?_
        rintro e w2 ⟨rfl, hb2⟩
        have HB2 := hid (below_step hb2 HB1.out)
        have x0 := keepc hb2 x0
        have x1 := keepc hb2 x1
        clear hb2
        go_wp2_with fail
        refine (HTH.out _ HB2.out).mono ?_
        rintro e w3 ⟨rfl, hb3⟩
        have HB3 := hid (below_step hb3 HB2.out)
        have x0 := keepc hb3 x0
        have x1 := keepc hb3 x1
        clear hb3
        go_wp2_with fail
        have HD := hid HB3.out.drew
        go_region_with (first
          | (go_at_call 95; refine (HWO.out _ HD.out).mono ?_; rintro e w4 ⟨u4, rfl, ho4, hb4⟩; have x0 : w4.cell? ⟨w.heap.size, 0, none⟩ = some (strV r.1) := keepc hb4 x0; have x1 : w4.cell? ⟨w.heap.size, 1, none⟩ = some (strV r.2) := keepc hb4 x1; have HB4 := hid (below_step hb4 HD.out); have HC4 := hid (HW.out u4 w4 ho4.rd); clear hb4 ho4)
          | (go_at_call 117; refine (HC4.out).mono ?_; rintro e w5 ⟨u5, rfl, ho5, hb5⟩; have HB5 := hid (below_step hb5 HB4.out); have HO5 := hid (ho5.mono (B' := w.heap.size) HB4.out.size); clear hb5 ho5))
        all_goals
          go_wp2_with fail
          go_ret2
          exact ⟨_, rfl, HO5.out, HB5.out⟩
set_option maxHeartbeats 2000000 in
set_option maxRecDepth 100000 in
theorem rdelete_any (d : Ds) (v : Value) (k : Bs) (w : World) (hR : RdR w v d) : Calls Tryz.prog 93 #[v, strV k] w (RetR (deleteD d k).1 (deleteD d k).2 w) := by
  have HC := hid (fun w' (hb : Below w.heap.size w w') => rcheck_any d v w' (hR.below hb))
  have HK := hid (fun w => rkey_any k w)
  cases hd : isDs d with
  | false =>
    rw [hd] at HC
    have hr : deleteD d k = ([], 140) := by unfold deleteD; rw [hd]; rfl
    rw [hr]
    have HC2 : Hid (∀ w', Below w.heap.size w w' → Calls Tryz.prog 90 #[v] w' (Ret (.int .i64 140) w')) := HC.out
    clear HC hd hr hR
    go_enter Tryz.func93, Tryz.ntmps93
    go_wp2_with fail
    refine (HC2.out _ (Below.refl _ _)).mono ?_
    rintro e w1 ⟨rfl, hb1⟩
    have HB1 := hid hb1
    clear hb1
    go_wp2_with fail
    go_ret2
    exact ⟨_, rfl, oR_nil _ _, HB1.out⟩
  | true =>
    rw [hd] at HC
    have HC2 : Hid (∀ w', Below w.heap.size w w' → Calls Tryz.prog 90 #[v] w' (Ret (.int .i64 0) w')) := HC.out
    have HTH := hid (fun w' (hb : Below w.heap.size w w') => rthere_any d v k w' (hR.below hb) hd)
    have hs := isDs_sorted hd
    have hl := isDs_len hd
    cases hk : isKey k with
    | false =>
      rw [hk] at HK
      have hr : deleteD d k = ([], 1) := by unfold deleteD; rw [hd, hk]; rfl
      rw [hr]
      clear HC hd hr hR hk hs hl
      go_enter Tryz.func93, Tryz.ntmps93
      go_wp2_with fail
      refine (HC2.out _ (Below.refl _ _)).mono ?_
      rintro e w1 ⟨rfl, hb1⟩
      have HB1 := hid hb1
      clear hb1
      go_wp2_with fail
      refine (HK.out _).mono ?_
      rintro e w2 ⟨rfl, hb2⟩
      have HB2 := hid (below_step hb2 HB1.out)
      clear hb2
      go_wp2_with fail
      go_ret2
      exact ⟨_, rfl, oR_nil _ _, HB2.out⟩
    | true =>
      rw [hk] at HK
      cases hh : hasD d k with
      | false =>
        rw [hh] at HTH
        have hr : deleteD d k = ([], 4) := by unfold deleteD; rw [if_pos hd, if_pos hk, hh]; rfl
        rw [hr]
        clear HC hd hr hR hk hs hl hh
        go_enter Tryz.func93, Tryz.ntmps93
        go_wp2_with fail
        refine (HC2.out _ (Below.refl _ _)).mono ?_
        rintro e w1 ⟨rfl, hb1⟩
        have HB1 := hid hb1
        clear hb1
        go_wp2_with fail
        refine (HK.out _).mono ?_
        rintro e w2 ⟨rfl, hb2⟩
        have HB2 := hid (below_step hb2 HB1.out)
        clear hb2
        go_wp2_with fail
        refine (HTH.out _ HB2.out).mono ?_
        rintro e w3 ⟨rfl, hb3⟩
        have HB3 := hid (below_step hb3 HB2.out)
        clear hb3
        go_wp2_with fail
        go_ret2
        exact ⟨_, rfl, oR_nil _ _, HB3.out⟩
      | true =>
        rw [hh] at HTH
        have hr : deleteD d k = (withoutR d k, 0) := by unfold deleteD; rw [if_pos hd, if_pos hk, hh, without_has hs hh]; rfl
        rw [hr]
        have HWO := hid (fun w' (hb : Below w.heap.size w w') => rwithout_any d v k w' (hR.below hb) hl)
        obtain ⟨A2, hA2⟩ : ∃ A, withoutR d k = A := ⟨_, rfl⟩
        rw [hA2] at HWO ⊢
        clear HC hd hr hR hk hs hl hh hA2
        go_enter Tryz.func93, Tryz.ntmps93
        go_wp2_with fail
        refine (HC2.out _ (Below.refl _ _)).mono ?_
        rintro e w1 ⟨rfl, hb1⟩
        have HB1 := hid hb1
        clear hb1
        go_wp2_with fail
        refine (HK.out _).mono ?_
        rintro e w2 ⟨rfl, hb2⟩
        have HB2 := hid (below_step hb2 HB1.out)
        clear hb2
        go_wp2_with fail
        refine (HTH.out _ HB2.out).mono ?_
        rintro e w3 ⟨rfl, hb3⟩
        have HB3 := hid (below_step hb3 HB2.out)
        clear hb3
        go_wp2_with fail
        refine (HWO.out _ HB3.out).mono ?_
        rintro e w4 ⟨u4, rfl, ho4, hb4⟩
        have HB4 := hid (below_step hb4 HB3.out)
        have HO4 := hid (ho4.mono (B' := w.heap.size) HB3.out.size)
        clear hb4 ho4
        go_wp2_with fail
        go_ret2
        exact ⟨_, rfl, HO4.out, HB4.out⟩
end Go.Proofs.YtifcgimpgbeocaaGreat
