/- The walk of the law AreaMoved. -/
import Derived.Test.YtcfmimfkaabmkaaQ3
import Derived.Test.YtcfmimfkaabmkaaR1
import Derived.Test.YtcfmimfkaabmkaaO6
import Derived.Deep.RegionWith
set_option linter.unusedVariables false
set_option linter.unusedSimpArgs false
namespace Go.Proofs.Ytcfmimfkaabmkaa
open Go.RowKit
attribute [local go_sem] Oper.semAt_some
attribute [local irreducible] num
set_option maxHeartbeats 4000000 in
set_option maxRecDepth 100000 in
theorem moved_no (l : List UInt8) (w : World) (hl : l.length ≤ maxLen) (h : openS l = false) : Calls Try.prog 17 #[.string ⟨l.toArray⟩] w (SanePost w) := by
  have HC := hid (fun w => rcheck_any l w hl)
  have HD := hid (fun w => check_l l w hl)
  have HK : Hid (chkS l = 120) := by unfold Hid chkS; rw [h]; exact if_neg (by simp)
  clear h
  go_enter Try.func17, Try.ntmps17
  go_wp2_with fail
  refine (sane_any _).mono ?_
  rintro e w1 ⟨rfl, hb1⟩
  have HB1 := hid hb1; clear hb1
  go_wp2_with fail
  refine (HC.out _).mono ?_
  rintro e w2 ⟨rfl, hb2⟩
  have HB2 := hid hb2; clear hb2
  rw [HK.out]
  go_wp2_with fail
  refine (HD.out _).mono ?_
  rintro e w3 ⟨rfl, hb3⟩
  have HB3 := hid hb3; clear hb3
  rw [HK.out]
  go_wp2_with fail
  go_ret
  exact ⟨rfl, below_step HB3.out (below_step HB2.out HB1.out)⟩
theorem psOf_len (lay : Lay) : (psOf (itsOf lay)).length = lay.length := by rw [psOf_its, List.length_map]
theorem psOf_at {lay : Lay} {i p : Nat} {s : List UInt8} (h : lay[i]? = some (p, s)) : (psOf (itsOf lay))[i]? = some ((p : Int), (s.length : Int)) := by rw [psOf_its, List.getElem?_map, h]; rfl
set_option maxHeartbeats 8000000 in
set_option maxRecDepth 100000 in
theorem moved_yes (l : List UInt8) (w : World) (hl : l.length ≤ maxLen) (h : openS l = true) : Calls Try.prog 17 #[.string ⟨l.toArray⟩] w (SanePost w) := by
  obtain ⟨lay, hA⟩ := (openS_iff l).1 h
  have hD : layD l = lay := layD_area hA
  obtain ⟨hAc, hce⟩ := comp_area hA
  have hcl : (render l.length (compL 8 lay)).length = l.length := render_length hAc.2.2.1 (Nat.le_trans hce hA.2.2.2.1)
  have hcs : compactS l = (render l.length (compL 8 lay), movesL 8 lay, 0) := by unfold compactS; rw [if_pos h, hD]
  have hoc : openS (render l.length (compL 8 lay)) = true := (openS_iff _).2 ⟨_, hAc⟩
  have hDc : layD (render l.length (compL 8 lay)) = compL 8 lay := layD_area hAc
  have hcc : compactS (render l.length (compL 8 lay)) = (render l.length (compL 8 lay), movesL 8 (compL 8 lay), 0) := by unfold compactS; rw [if_pos hoc, hDc, hcl, compL_idem]
  have hlc : (render l.length (compL 8 lay)).length ≤ maxLen := by rw [hcl]; exact hl
  have hm1 := movesL_len lay 8
  have hm2 := movesL_len (compL 8 lay) 8
  have hm3 := compL_len lay 8
  rw [hm3] at hm2
  have hp1 := psOf_len lay
  have hp2 := psOf_len (compL 8 lay)
  rw [hm3] at hp2
  have hml := (area_num4 hA).2
  have g24 : ∀ w, Calls Try.prog 24 #[.string ⟨l.toArray⟩] w (fun e w' => e = .returned (.int .i64 0) ∧ Below w.heap.size w w') := fun w => by
    have := rcheck_any l w hl
    unfold IntPost chkS at this
    rw [if_pos h] at this
    exact this
  have bl : ∀ (a : List UInt8) (la : Lay), Area a la → ∀ w, Calls Try.prog 26 #[.string ⟨a.toArray⟩] w (fun e w' => ∃ v, e = .returned (.tuple #[v, .int .i64 0]) ∧ RP w' v (psOf (itsOf la)) ∧ Below w.heap.size w w') := fun a la ha w => by
    have := blocks_any a w (by have := ha.2.1; unfold maxLen; omega)
    unfold PiecesPost blocksS at this
    rw [if_pos ((openS_iff _).2 ⟨_, ha⟩), layD_area ha] at this
    exact this.mono fun e w' ⟨v, h1, h2, h3⟩ => ⟨v, h1, h2.rp, h3⟩
  have g26a := bl l lay hA
  have g26c := bl _ _ hAc
  have g32a : ∀ w, Calls Try.prog 32 #[.string ⟨l.toArray⟩] w (fun e w' => ∃ v, e = .returned (.tuple #[.string ⟨(render l.length (compL 8 lay)).toArray⟩, v, .int .i64 0]) ∧ RM w' v (movesL 8 lay) ∧ Below w.heap.size w w') := fun w => by
    have := compact_any l w hl
    rw [hcs] at this
    exact this.mono fun e w' ⟨v, h1, h2, h3⟩ => ⟨v, h1, h2.rm, h3⟩
  have g32c : ∀ w, Calls Try.prog 32 #[.string ⟨(render l.length (compL 8 lay)).toArray⟩] w (fun e w' => ∃ v, e = .returned (.tuple #[.string ⟨(render l.length (compL 8 lay)).toArray⟩, v, .int .i64 0]) ∧ RM w' v (movesL 8 (compL 8 lay)) ∧ Below w.heap.size w w') := fun w => by
    have := compact_any _ w hlc
    rw [hcc] at this
    exact this.mono fun e w' ⟨v, h1, h2, h3⟩ => ⟨v, h1, h2.rm, h3⟩
  have g39 : ∀ w, Calls Try.prog 39 #[.string ⟨(render l.length (compL 8 lay)).toArray⟩] w (fun e w' => e = .returned (.tuple #[.int .i64 (endOf 8 (compL 8 lay) : Nat), .int .i64 0]) ∧ Below w.heap.size w w') := fun w => by
    have := extent_any _ w hlc
    unfold TwoPost extentS at this
    rw [if_pos hoc, hDc] at this
    exact this
  have g34 := fun (v : Value) (i p q k : Nat) (s : List UInt8) (hi : lay[i]? = some (p, s)) (hq : (compL 8 lay)[i]? = some (q, s)) (hk : k < s.length) (w : World) (hR : RM w v (movesL 8 lay)) => by
    have := reloc_any v (movesL 8 lay) ((p : Int) + (k : Int)) w hR (by rw [hm1]; unfold maxLen; omega)
    rw [reloc_moves hA hi hq hk] at this
    exact this
  have H42 := hid (fun i p s h W => get_at hA (i := i) (p := p) (s := s) h W)
  have H42C := hid (fun i p s h W => get_at hAc (i := i) (p := p) (s := s) h W)
  have HIN := hid (fun i p s h => area_in hA (i := i) (p := p) (s := s) h)
  have HINC := hid (fun i p s h => area_in hAc (i := i) (p := p) (s := s) h)
  have HBY := hid (fun i p s h k hk => byte_at hA (i := i) (p := p) (s := s) h (k := k) hk)
  have HBYC := hid (fun i p s h k hk => byte_at hAc (i := i) (p := p) (s := s) h (k := k) hk)
  have H24 := hid g24; have H26A := hid g26a; have H26C := hid g26c; have H32A := hid g32a; have H32C := hid g32c; have H39 := hid g39; have H34 := hid g34
  have hend : endOf 8 (compL 8 lay) ≤ l.length := Nat.le_trans hce hA.2.2.2.1
  have HEND : Hid (∀ k, endOf 8 (compL 8 (lay.take k)) ≤ 8192) := fun k => by
    have h1 : compL 8 lay = compL 8 (lay.take k) ++ (compL 8 lay).drop k := by rw [compL_take, List.take_append_drop]
    have h2 := hAc.2.2.1
    have h3 := hAc.2.2.2.1
    rw [h1] at h2
    have h4 := endOf_ge ((ok_append _ _ _ _).1 h2).2
    rw [← endOf_append, ← h1] at h4
    have := hA.2.1
    omega
  have hl1 := hA.1
  have hl2 := hA.2.1
  clear g24 g26a g26c g32a g32c g39 g34 bl hcs hoc hDc hcc hlc hD hA hAc h hend hce
  obtain ⟨c, hc⟩ : ∃ c, render l.length (compL 8 lay) = c := ⟨_, rfl⟩
  rw [hc] at hcl H32A H32C H39 H26C H42C HINC HBYC
  obtain ⟨m, hm⟩ : ∃ m, lay.length = m := ⟨_, rfl⟩
  have HM := hid hm
  have HM3 := hid (hm3.trans hm)
  rw [hm] at hm1 hm2 hp1 hp2 hml
  have HM1 := hid hm1; have HM2 := hid hm2; have HP1 := hid hp1; have HP2 := hid hp2
  clear hc hm hm1 hm2 hm3 hp1 hp2
  unfold maxLen at hl
  go_enter Try.func17, Try.ntmps17
  go_wp2_with fail
  refine (sane_any _).mono ?_
  rintro e w1 ⟨rfl, hb1⟩
  have HB1 := hid hb1; clear hb1
  go_wp2_with fail
  refine (H24.out _).mono ?_
  rintro e w2 ⟨rfl, hb2⟩
  have HB2 := hid (below_step hb2 HB1.out); clear hb2
  go_wp2_with fail
  refine (H32A.out _).mono ?_
  rintro e w3 ⟨v3, rfl, hr3, hb3⟩
  have HR3 := hid hr3
  have HB3 := hid (below_step hb3 HB2.out); clear hb3 hr3
  go_wp2_with fail
  refine (H26A.out _).mono ?_
  rintro e w4 ⟨v4, rfl, hr4, hb4⟩
  have HR4 := hid hr4; have HR3 := hid (HR3.out.below hb4)
  have HB4 := hid (below_step hb4 HB3.out); clear hb4 hr4
  go_wp2_with fail
  refine (H26C.out _).mono ?_
  rintro e w5 ⟨v5, rfl, hr5, hb5⟩
  have HR5 := hid hr5; have HR3 := hid (HR3.out.below hb5); have HR4 := hid (HR4.out.below hb5)
  have HB5 := hid (below_step hb5 HB4.out); clear hb5 hr5
  go_wp2_with fail
  refine (H39.out _).mono ?_
  rintro e w6 ⟨rfl, hb6⟩
  have HR5 := hid (HR5.out.below hb6); have HR3 := hid (HR3.out.below hb6); have HR4 := hid (HR4.out.below hb6)
  have HB6 := hid (below_step hb6 HB5.out); clear hb6
  go_wp2_with fail
  refine (H32C.out _).mono ?_
  rintro e w7 ⟨v7, rfl, hr7, hb7⟩
  have HR7 := hid hr7; have HR5 := hid (HR5.out.below hb7); have HR3 := hid (HR3.out.below hb7); have HR4 := hid (HR4.out.below hb7)
  have HB7 := hid (below_step hb7 HB6.out); clear hb7 hr7
  obtain ⟨o3, cap3, e3, hc3⟩ := HR3.out
  obtain ⟨o4, cap4, e4, hc4⟩ := HR4.out
  obtain ⟨o5, cap5, e5, hc5⟩ := HR5.out
  obtain ⟨o7, cap7, e7, hc7⟩ := HR7.out
  rw [HM1.out] at e3
  rw [HP1.out] at e4
  rw [HP2.out] at e5
  rw [HM2.out] at e7
  subst e3 e4 e5 e7
  have HC3 := hid hc3; have HC4 := hid hc4; have HC5 := hid hc5; have HC7 := hid hc7
  clear hc3 hc4 hc5 hc7
  have i1 : (!c == c) = false := by simp
  go_wp2_with fail
  obtain ⟨en, hen⟩ : ∃ en : Nat → Nat, ∀ k, endOf 8 (compL 8 (lay.take k)) = en k := ⟨_, fun _ => rfl⟩
  have hen0 : endOf 8 (compL 8 lay) = en m := by rw [← hen, List.take_of_length_le (by have := HM.out; omega)]
  have HES : Hid (∀ k p s, lay[k]? = some (p, s) → en (k + 1) = en k + 8 + upN s.length) := fun k p s hx => by rw [← hen, ← hen]; exact comp_step lay k p s hx 8
  have HEB : Hid (∀ k, en k ≤ 8192) := fun k => by rw [← hen]; exact HEND.out k
  have HE0 : Hid (en 0 = 8) := by unfold Hid; rw [← hen]; rfl
  rw [hen0]
  clear hen hen0 HEND
  go_loopw [15, 113] (fun v15 i wr => ∃ k : Nat, v15 = .int .i64 ((en k : Nat) : Int) ∧ i = .int .i64 k ∧ k ≤ m ∧ Hid (Below w7.heap.size w7 wr)) (fun _ i _ => m - (intOf i).toNat)
  case atStart => exact ⟨0, by rw [HE0.out]; rfl, rfl, Nat.zero_le _, Below.refl _ _⟩
  case round =>
    obtain ⟨k, rfl, rfl, hk, HB⟩ := hrel
    by_cases hlt : k < m
    · obtain ⟨⟨p, s⟩, hx⟩ : ∃ x, lay[k]? = some x := ⟨_, List.getElem?_eq_getElem (by have := HM.out; omega)⟩
      obtain ⟨q, hx2, hx3, -⟩ := compL_at lay 8 k p s hx
      obtain ⟨q', hy2, hy3, -⟩ := compL_at (compL 8 lay) 8 k q s hx2
      rw [compL_idem, hx2] at hy2
      obtain rfl : q = q' := by cases hy2; rfl
      have hxp := psOf_at hx
      have hxq := psOf_at hx2
      rcases HC3.out with hc | ⟨b3, off3, rfl, hbl3, hc3⟩
      · rw [hc] at hx3; simp at hx3
      rcases HC4.out with hc | ⟨b4, off4, rfl, hbl4, hc4⟩
      · rw [hc] at hxp; simp at hxp
      rcases HC5.out with hc | ⟨b5, off5, rfl, hbl5, hc5⟩
      · rw [hc] at hxq; simp at hxq
      rcases HC7.out with hc | ⟨b7, off7, rfl, hbl7, hc7⟩
      · rw [hc] at hy3; simp at hy3
      have HB3C := hid (hc3 k _ hx3); have HB4C := hid (hc4 k _ hxp); have HB5C := hid (hc5 k _ hxq); have HB7C := hid (hc7 k _ hy3)
      have HX := hid hx; have HX2 := hid hx2
      have hin := HIN.out k p s hx
      have hinc := HINC.out k q s hx2
      have hes := HES.out k p s hx
      have heb := HEB.out (k + 1)
      have heb0 := HEB.out k
      obtain ⟨i11, i12, i13⟩ := hin
      obtain ⟨i21, i22, i23⟩ := hinc
      have HES1 := hid hes
      clear hx hx2 hx3 hy2 hy3 hxp hxq hc3 hc4 hc5 hc7 hes
      obtain ⟨A0, A1, A2⟩ := HB3C.out
      obtain ⟨B0, B1⟩ := HB4C.out
      obtain ⟨C0, C1⟩ := HB5C.out
      obtain ⟨D0, D1, D2⟩ := HB7C.out
      have A0 := keep_alloc (keepc HB.out A0); have A1 := keep_alloc (keepc HB.out A1); have A2 := keep_alloc (keepc HB.out A2)
      have B0 := keepc HB.out B0; have B1 := keepc HB.out B1
      have C0 := keep_alloc (keepc HB.out C0); have C1 := keep_alloc (keepc HB.out C1)
      have D0 := keep_alloc (keepc HB.out D0); have D1 := keep_alloc (keepc HB.out D1); have D2 := keep_alloc (keepc HB.out D2)
      simp only at A0 A1 A2 B0 B1 C0 C1 D0 D1 D2
      have hq8 : ((s.length : Int) + 7).tdiv 8 = ((s.length : Int) + 7) / 8 := Int.tdiv_eq_ediv_of_nonneg (by omega)
      have hup : ((s.length : Int) + 7) / 8 * 8 = ((upN s.length : Nat) : Int) := by unfold upN; omega
      have hub := upN_bd s.length
      have hmin : min (s.length : Int) 9000 = (s.length : Int) := by omega
      have hsum : (en k : Int) + (8 + ((upN s.length : Nat) : Int)) = ((en (k + 1) : Nat) : Int) := by have := HES1.out; omega
      have hz := HB.out.size
      go_wp2_with fail
      go_quiet (fail)
      go_wp2_with fail
      have T0 : ((wr.alloc (.cells #[.int .i64 (p : Int), .int .i64 (s.length : Int)] 37)).drewN nq).cell? ⟨wr.heap.size, 0, none⟩ = some (.int .i64 (p : Int)) := cell_new _ _ _ 0 _ rfl
      have T1 : ((wr.alloc (.cells #[.int .i64 (p : Int), .int .i64 (s.length : Int)] 37)).drewN nq).cell? ⟨wr.heap.size, 1, none⟩ = some (.int .i64 (s.length : Int)) := cell_new _ _ _ 1 _ rfl
      have hb2 : Below w7.heap.size w7 ((wr.alloc (.cells #[.int .i64 (p : Int), .int .i64 (s.length : Int)] 37)).drewN nq) := below_drewN (HB.out.alloc hz _) _
      obtain ⟨W2, hW2⟩ : ∃ W2, (wr.alloc (.cells #[.int .i64 (p : Int), .int .i64 (s.length : Int)] 37)).drewN nq = W2 := ⟨_, rfl⟩
      obtain ⟨X, hX⟩ : ∃ X, wr.heap.size = X := ⟨_, rfl⟩
      rw [hW2, hX] at T0 T1
      rw [hW2] at hb2
      rw [hW2, hX]
      have HBW := hid hb2
      clear hW2 hX hb2 A0 A1 A2 B0 B1 C0 C1 D0 D1 D2 hz hq8 hup hmin hsum HB
      go_loopw [167] (fun i wr => ∃ j : Nat, i = .int .i64 j ∧ j ≤ s.length ∧ Hid (Below W2.heap.size W2 wr)) (fun i _ => s.length - (intOf i).toNat)
      case atStart => exact ⟨0, rfl, Nat.zero_le _, Below.refl _ _⟩
      case round =>
        obtain ⟨j, rfl, hj, HBJ⟩ := hrel
        have t0 := keepc HBJ.out T0
        have t1 := keepc HBJ.out T1
        have HBJ7 := hid (below_step HBJ.out HBW.out)
        by_cases hlt2 : j < s.length
        · have x1 := str_at ⟨c.toArray⟩ ((q : Int) + (j : Int)) .i64 (by omega) (by show _ < ((c.toArray.size : Nat) : Int); rw [List.size_toArray]; omega)
          have x2 := str_at ⟨l.toArray⟩ ((p : Int) + (j : Int)) .i64 (by omega) (by show _ < ((l.toArray.size : Nat) : Int); rw [List.size_toArray]; omega)
          have y1 : byt c ((q : Int) + (j : Int)).toNat = byt s j := by unfold byt; rw [show ((q : Int) + (j : Int)).toNat = q + j by omega, HBYC.out k q s HX2.out j hlt2]
          have y2 : byt l ((p : Int) + (j : Int)).toNat = byt s j := by unfold byt; rw [show ((p : Int) + (j : Int)).toNat = p + j by omega, HBY.out k p s HX.out j hlt2]
          simp only at x1 x2
          rw [y1] at x1
          rw [y2] at x2
          obtain ⟨bb, hbb⟩ : ∃ bb, byt s j = bb := ⟨_, rfl⟩
          rw [hbb] at x1 x2
          have d4 : decide ((p : Int) < 0) = false := by simp; try omega
          have d1 : decide ((q : Int) + (j : Int) < 0) = false := by simp; omega
          have d2 : decide ((l.length : Int) ≤ (q : Int) + (j : Int)) = false := by simp; omega
          have d3 : decide ((l.length : Int) ≤ (p : Int) + (j : Int)) = false := by simp; omega
          have HREL := hid (fun W hR => H34.out (.slice (some ⟨b3, off3, none⟩) m cap3) k p q j s HX.out HX2.out hlt2 W hR)
          clear y1 y2 hbb
          go_wp2_with fail
          refine (HREL.out _ (HR3.out.below HBJ7.out)).mono ?_
          rintro e w8 ⟨rfl, hb8⟩
          have t0 := keepc hb8 t0; have t1 := keepc hb8 t1
          have HBJ8 := hid (below_step hb8 HBJ.out); clear hb8
          go_wp2_with fail
          go_quiet (fail)
          go_wp2_with fail
          go_roundw
          case rel => exact ⟨j + 1, by first | rfl | go_num, by omega, below_drewN HBJ8.out _⟩
          case measure => simp [intOf]; omega
        · have HG1 := hid (fun W => H42.out k p s HX.out W)
          have HG2 := hid (fun W => H42C.out k q s HX2.out W)
          have C0 := keepc HBJ7.out HB5C.out.1; have C1 := keepc HBJ7.out HB5C.out.2
          have i5 : (!s == s) = false := by simp
          go_wp2_with fail
          refine (HG1.out _).mono ?_
          rintro e w8 ⟨rfl, hb8⟩
          have t0 := keepc hb8 t0; have t1 := keepc hb8 t1; have C0 := keepc hb8 C0; have C1 := keepc hb8 C1
          have HBJ8 := hid (below_step hb8 HBJ7.out); clear hb8
          go_upto_region 27 with (fail)
          go_region_with (go_at_call_of 42 (Value.string ⟨c.toArray⟩); refine (HG2.out _).mono ?_; rintro e w9 ⟨rfl, hb9⟩; have HB9 := hid (below_step hb9 (HBJ8.out.drew)); clear hb9)
          all_goals go_wp2_with fail
          all_goals go_roundw
          all_goals first | exact ⟨k + 1, rfl, by first | rfl | go_num, by omega, HB9.out⟩ | (simp [intOf]; omega)
    · have hkm : k = m := by omega
      have HKM := hid hkm
      have i6 : (((en m : Nat) : Int) == ((en k : Nat) : Int)) = true := by rw [hkm]; simp
      clear hkm
      go_wp2_with fail
      go_ret
      exact ⟨by first | rfl | simp, below_step HB.out HB7.out⟩
theorem moved_law (l : List UInt8) (w : World) (hl : l.length ≤ maxLen) : Calls Try.prog 17 #[.string ⟨l.toArray⟩] w (SanePost w) := by
  rcases h : openS l with _ | _
  · exact moved_no l w hl h
  · exact moved_yes l w hl h
end Go.Proofs.Ytcfmimfkaabmkaa
