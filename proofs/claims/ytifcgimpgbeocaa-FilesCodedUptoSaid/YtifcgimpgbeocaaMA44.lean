/- Encode; the reference's Encode. -/
import Derived.Test.YtifcgimpgbeocaaMB12
import Derived.Test.YtifcgimpgbeocaaK30
set_option linter.unusedVariables false
set_option linter.unusedSimpArgs false
namespace Go.Proofs.Ytifcgimpgbeocaa
open Go.RowKit
attribute [local go_sem] Oper.semAt_some
theorem encodeD_bad {l : List FOp} (h : l.all chg = false) : encodeD l = ([], 1) := by unfold encodeD; rw [h]; rfl
theorem encodeD_big {l : List FOp} (h : l.all chg = true) (h2 : 131072 < (encL l).length) : encodeD l = ([], 2) := by unfold encodeD; rw [if_pos h, if_neg (by omega)]
theorem encodeD_ok {l : List FOp} (h : l.all chg = true) (h2 : (encL l).length ≤ 131072) : encodeD l = (encL l, 0) := by unfold encodeD; rw [if_pos h, if_pos h2]
theorem all_bd {l : List FOp} (h : l.all chg = true) : ∀ o ∈ l, o.2.2.1.length ≤ 255 ∧ o.2.2.2.length ≤ 255 := fun o ho => by
  obtain ⟨-, -, ⟨-, h1⟩, h2⟩ := chg_parts (List.all_eq_true.1 h o ho)
  exact ⟨by omega, by omega⟩
theorem any_not (l : List FOp) : l.any (fun x => !chg x) = !(l.all chg) := by
  induction l with
  | nil => rfl
  | cons x r ih => simp only [List.any_cons, List.all_cons, ih, Bool.not_and]
set_option maxHeartbeats 1000000 in
set_option maxRecDepth 100000 in
theorem encode2_any (l : List FOp) (v : Value) (w : World) (hR : RdO w v l) (hl : l.length ≤ 1000000) : Calls Try.prog 45 #[v] w (Ret (.tuple #[strV (encodeD l).1, .int .i64 (encodeD l).2]) w) := by
  have HC := hid (hasO_any l v w hR (by omega))
  rw [any_not] at HC
  have HE := hid (fun (h : l.all chg = true) w' (hb : Below w.heap.size w w') => encode_any l v w' (hR.below hb) hl (all_bd h))
  obtain ⟨o, cap, rfl, -, -⟩ := hR
  generalize l.length = N at *
  cases ha : l.all chg with
  | false =>
    rw [ha] at HC
    have HD := hid (encodeD_bad ha)
    clear ha HE
    go_enter Try.func45, Try.ntmps45
    go_wp2_with fail
    refine HC.out.mono ?_
    rintro e w1 ⟨rfl, hb1⟩
    have HB1 := hid hb1
    clear hb1
    go_wp2_with fail
    go_ret2
    exact ⟨by rw [HD.out]; rfl, HB1.out⟩
  | true =>
    rw [ha] at HC
    have HE := hid (HE.out ha)
    have HBG := hid (encodeD_big ha)
    have HOK := hid (encodeD_ok ha)
    generalize encL l = E at *
    clear ha
    by_cases hbig : 131072 < E.length
    · have g1 : (131072 : Int) < (E.length : Int) := by omega
      have HD := hid (HBG.out hbig)
      clear HBG HOK hbig
      go_enter Try.func45, Try.ntmps45
      go_wp2_with fail
      refine HC.out.mono ?_
      rintro e w1 ⟨rfl, hb1⟩
      have HB1 := hid hb1
      clear hb1
      go_wp2_with fail
      refine (HE.out _ HB1.out).mono ?_
      rintro e w2 ⟨rfl, hb2⟩
      have HB2 := hid (below_step hb2 HB1.out)
      clear hb2
      go_wp2_with fail
      go_ret2
      exact ⟨by rw [HD.out]; rfl, HB2.out⟩
    · have g1 : ¬ (131072 : Int) < (E.length : Int) := by omega
      have HD := hid (HOK.out (by omega))
      clear HBG HOK hbig
      go_enter Try.func45, Try.ntmps45
      go_wp2_with fail
      refine HC.out.mono ?_
      rintro e w1 ⟨rfl, hb1⟩
      have HB1 := hid hb1
      clear hb1
      go_wp2_with fail
      refine (HE.out _ HB1.out).mono ?_
      rintro e w2 ⟨rfl, hb2⟩
      have HB2 := hid (below_step hb2 HB1.out)
      clear hb2
      go_wp2_with fail
      go_ret2
      exact ⟨by rw [HD.out]; rfl, HB2.out⟩
set_option maxHeartbeats 1000000 in
set_option maxRecDepth 100000 in
theorem rencode_any (l : List FOp) (v : Value) (w : World) (hR : RdO w v l) (hl : l.length ≤ 1000000) : Calls Try.prog 46 #[v] w (Ret (.tuple #[strV (encodeD l).1, .int .i64 (encodeD l).2]) w) := by
  have HE := hid (fun (h : l.all chg = true) w' (hb : Below w.heap.size w w') => rbytes_any l v w' (hR.below hb) hl (all_bd h))
  have HV := hid (fun o w' => rvalid_any o w')
  have HCH := hid (fun k w' => rchanges_any k w')
  have HBD := hid (fun h : l.all chg = false => encodeD_bad h)
  obtain ⟨op, cap, rfl, hcap, hc⟩ := hR
  have HC := hid hc
  obtain ⟨M, hM⟩ : ∃ M, l.length = M := ⟨_, rfl⟩
  have HM := hid hM
  rw [hM] at hl hcap HE ⊢
  clear hc hM
  go_enter Try.func46, Try.ntmps46
  go_wp2_with fail
  go_loopw [4] (fun i wr => ∃ k : Nat, i = .int .i64 k ∧ k ≤ M ∧ Hid ((l.take k).all chg = true) ∧ Hid (Below w.heap.size w wr)) (fun i _ => M - (intOf i).toNat)
  case atStart => exact ⟨0, rfl, Nat.zero_le _, rfl, Below.refl _ _⟩
  case round =>
    obtain ⟨k, rfl, hk, HT, HB⟩ := hrel
    by_cases hlt : k < M
    · obtain ⟨x, hx⟩ : ∃ x, l[k]? = some x := ⟨_, List.getElem?_eq_getElem (by have := HM.out; omega)⟩
      have hHC := HC.out
      rcases hHC with hq | ⟨b, off, rfl, hbq, hq⟩
      · rw [hq] at hx; simp at hx
      obtain ⟨c0, c1, c2, c3⟩ := hq k x hx
      have c0 := keepc HB.out c0; have c1 := keepc HB.out c1; have c2 := keepc HB.out c2; have c3 := keepc HB.out c3
      have HST : Hid ((l.take (k + 1)).all chg = ((l.take k).all chg && chg x)) := by unfold Hid; rw [List.take_add_one, hx]; simp
      have HXM := hid (List.mem_of_getElem? hx)
      have HCG : Hid (chg x = (decide (3 ≤ x.1 ∧ x.1 ≤ 5) && isOp x)) := rfl
      obtain ⟨V, hV⟩ : ∃ V, isOp x = V := ⟨_, rfl⟩
      obtain ⟨C, hC⟩ : ∃ C, decide (3 ≤ x.1 ∧ x.1 ≤ 5) = C := ⟨_, rfl⟩
      have HVX := hid (fun w' => HV.out x w')
      have HCX := hid (fun w' => HCH.out x.1 w')
      rw [hV, hC] at HCG
      rw [hV] at HVX
      rw [hC] at HCX
      have HNO : Hid (chg x = false → encodeD l = ([], 1)) := fun h => HBD.out (by
        rw [List.all_eq_false]
        exact ⟨x, HXM.out, by rw [h]; simp⟩)
      obtain ⟨x0, x1, x2, x3⟩ := x
      have hlt64 : (k : Int) < (M : Int) := by omega
      clear hq hx hV hC
      go_wp2_with fail
      refine (HVX.out _).mono ?_
      rintro e w1 ⟨rfl, hb1⟩
      have HB1 := hid (below_step hb1 HB.out)
      have c0 := keepc hb1 c0
      clear hb1
      cases V with
      | false =>
        have HD := hid (HNO.out (by rw [HCG.out]; simp))
        go_wp2_with fail
        go_ret2
        exact ⟨by rw [HD.out]; rfl, HB1.out⟩
      | true =>
        go_wp2_with fail
        refine (HCX.out _).mono ?_
        rintro e w2 ⟨rfl, hb2⟩
        have HB2 := hid (below_step hb2 HB1.out)
        clear hb2
        cases C with
        | false =>
          have HD := hid (HNO.out (by rw [HCG.out]; simp))
          go_wp2_with fail
          go_ret2
          exact ⟨by rw [HD.out]; rfl, HB2.out⟩
        | true =>
          have HT2 : Hid ((l.take (k + 1)).all chg = true) := by unfold Hid; rw [HST.out, HT.out, HCG.out]; rfl
          go_wp2_with fail
          go_roundw
          case rel => exact ⟨k + 1, by go_num, by omega, HT2, HB2⟩
          case measure => simp [intOf]; omega
    · have ha : l.all chg = true := by have h1 := HT.out; rw [List.take_of_length_le (by have := HM.out; omega)] at h1; exact h1
      have HE := hid (HE.out ha wr HB.out)
      have HBG := hid (encodeD_big ha)
      have HOK := hid (encodeD_ok ha)
      generalize encL l = E at *
      have hge : ¬ (k : Int) < (M : Int) := by omega
      clear ha
      go_wp2_with fail
      refine HE.out.mono ?_
      rintro e w2 ⟨rfl, hb2⟩
      have HB2 := hid (below_step hb2 HB.out)
      clear hb2
      by_cases hbig : 131072 < E.length
      · have g1 : (131072 : Int) < (E.length : Int) := by omega
        have HD := hid (HBG.out hbig)
        clear HBG HOK hbig
        go_wp2_with fail
        go_ret2
        exact ⟨by rw [HD.out]; rfl, HB2.out⟩
      · have g1 : ¬ (131072 : Int) < (E.length : Int) := by omega
        have HD := hid (HOK.out (by omega))
        clear HBG HOK hbig
        go_wp2_with fail
        go_ret2
        exact ⟨by rw [HD.out]; rfl, HB2.out⟩
end Go.Proofs.Ytifcgimpgbeocaa
