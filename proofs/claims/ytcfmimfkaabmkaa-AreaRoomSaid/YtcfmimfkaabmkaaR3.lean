/- The walk of the law AreaRoom. -/
import Derived.Test.YtcfmimfkaabmkaaQ2
import Derived.Test.YtcfmimfkaabmkaaO6
set_option linter.unusedVariables false
set_option linter.unusedSimpArgs false
namespace Go.Proofs.Ytcfmimfkaabmkaa
open Go.RowKit
attribute [local go_sem] Oper.semAt_some
attribute [local irreducible] num
set_option maxHeartbeats 4000000 in
set_option maxRecDepth 100000 in
theorem roomlaw_no (l : List UInt8) (n : Int) (w : World) (hl : l.length ≤ maxLen) (h : openS l = false) : Calls Try.prog 13 #[.string ⟨l.toArray⟩, .int .i64 n] w (SanePost w) := by
  have HC := hid (fun w => rcheck_any l w hl)
  have HD := hid (fun w => check_l l w hl)
  have HK : Hid (chkS l = 120) := by unfold Hid chkS; rw [h]; exact if_neg (by simp)
  clear h
  go_enter Try.func13, Try.ntmps13
  go_wp2_with fail
  refine (sane_any _).mono ?_
  rintro e w1 ⟨rfl, hb1⟩
  have HB1 := hid hb1; clear hb1
  go_wp2_with fail
  refine (HC.out _).mono ?_
  rintro e w2 ⟨rfl, hb2⟩
  have HB2 := hid hb2; clear hb2
  rw [HK.out]
  go_wp2_with fail
  refine (HD.out _).mono ?_
  rintro e w3 ⟨rfl, hb3⟩
  have HB3 := hid hb3; clear hb3
  rw [HK.out]
  go_wp2_with fail
  go_ret
  exact ⟨rfl, below_step HB3.out (below_step HB2.out HB1.out)⟩
theorem room_area {l : List UInt8} {lay : Lay} (h : Area l lay) : roomSz l = (mostP (gapsL l.length lay), 0) ∧ gapsS l = (gapsL l.length lay, 0) ∧ extentS l = ((endOf 8 lay : Int), 0) ∧ chkS l = 0 := by
  have ho : openS l = true := (openS_iff _).2 ⟨_, h⟩
  have hD : layD l = lay := layD_area h
  have hg : gapsS l = (gapsL l.length lay, 0) := by unfold gapsS; rw [if_pos ho, hD]
  refine ⟨by unfold roomSz; rw [hg], hg, by unfold extentS; rw [if_pos ho, hD], by unfold chkS; rw [ho]; exact if_pos rfl⟩
set_option maxHeartbeats 8000000 in
set_option maxRecDepth 100000 in
theorem roomlaw_yes (l : List UInt8) (n : Int) (w : World) (hl : l.length ≤ maxLen) (h : openS l = true) : Calls Try.prog 13 #[.string ⟨l.toArray⟩, .int .i64 n] w (SanePost w) := by
  have hA := area_D h
  obtain ⟨lay, hlayd⟩ : ∃ lay, layD l = lay := ⟨_, rfl⟩
  have hcs : compactS l = (render l.length (compL 8 lay), movesL 8 lay, 0) := by unfold compactS; rw [if_pos h, hlayd]
  rw [hlayd] at hA
  obtain ⟨hAc, hce⟩ := comp_area hA
  have hcl : (render l.length (compL 8 lay)).length = l.length := render_length hAc.2.2.1 (Nat.le_trans hce hA.2.2.2.1)
  obtain ⟨r1, r2, r3, r4⟩ := room_area hA
  obtain ⟨s1, -, -, -⟩ := room_area hAc
  rw [hcl] at s1
  have hmore := comp_room hA.2.2.1 hA.2.2.2.1
  have hex := endOf_ge hA.2.2.1
  have hel := hA.2.2.2.1
  have hl1 := hA.1
  have hl2 := hA.2.1
  have hlast := fun hh => gaps_last (lay := lay) (n0 := l.length) hh
  have herr := fun k h1 h2 => alloc_err (k := k) hA.2.2.1 h1 h2 hA.2.2.2.1
  have h0 := most_nonneg (gapsL l.length lay)
  obtain ⟨ps, hps⟩ : ∃ ps, gapsL l.length lay = ps := ⟨_, rfl⟩
  have hpl : ps.length ≤ 10000 := by have := gapsS_length l hl; rw [r2, hps] at this; exact this
  rw [hps] at r1 r2 hmore hlast herr h0
  obtain ⟨c, hc⟩ : ∃ c, render l.length (compL 8 lay) = c := ⟨_, rfl⟩
  rw [hc] at hcs s1 hcl
  obtain ⟨more, hmr⟩ : ∃ more, mostP (gapsL l.length (compL 8 lay)) = more := ⟨_, rfl⟩
  rw [hmr] at s1 hmore
  obtain ⟨room, hrm⟩ : ∃ room, mostP ps = room := ⟨_, rfl⟩
  have HRM := hid hrm
  rw [hrm] at r1 hmore herr h0
  obtain ⟨en, hen⟩ : ∃ en, endOf 8 lay = en := ⟨_, rfl⟩
  rw [hen] at r3 hex hel hlast
  have hroom2 : room ≤ 8192 := by
    rcases Int.lt_or_le 8192 room with hh | hh
    · exfalso
      have k1 := alloc_room (lay := lay) hA.2.2.1 (n0 := l.length) (n := 8192) (by decide) hA.2.2.2.1
      rw [hps, hrm] at k1
      have k2 := k1.2 (by omega)
      have k3 := ends_le (allocL 8192 8 lay).1 true 8 (allocL_ok (by decide) hA.2.2.1) _ (alloc_rm 8192 lay true 8 hA.2.2.1).2
      have k4 := allocL_ge 8192 lay true 8 hA.2.2.1
      simp only [zs_length] at k3
      have k5 := upN_bd 8192
      omega
    · exact hh
  have g24 : ∀ w, Calls Try.prog 24 #[.string ⟨l.toArray⟩] w (fun e w' => e = .returned (.int .i64 0) ∧ Below w.heap.size w w') := fun w => by have := rcheck_any l w hl; unfold IntPost at this; rw [r4] at this; exact this
  have g51 : ∀ w, Calls Try.prog 51 #[.string ⟨l.toArray⟩] w (fun e w' => e = .returned (.tuple #[.int .i64 room, .int .i64 0]) ∧ Below w.heap.size w w') := fun w => by have := aroom_any l w hl; unfold TwoPost at this; rw [r1] at this; exact this
  have g48 : ∀ w, Calls Try.prog 48 #[.string ⟨l.toArray⟩] w (PiecesPost (ps, 0) w) := fun w => by have := gaps_any l w hl; rw [r2] at this; exact this
  have g39 : ∀ w, Calls Try.prog 39 #[.string ⟨l.toArray⟩] w (fun e w' => e = .returned (.tuple #[.int .i64 (en : Int), .int .i64 0]) ∧ Below w.heap.size w w') := fun w => by have := extent_any l w hl; unfold TwoPost at this; rw [r3] at this; exact this
  have g32 : ∀ w, Calls Try.prog 32 #[.string ⟨l.toArray⟩] w (MovesPost (c, movesL 8 lay, 0) w) := fun w => by have := compact_any l w hl; rw [hcs] at this; exact this
  have g51c : ∀ w, Calls Try.prog 51 #[.string ⟨c.toArray⟩] w (fun e w' => e = .returned (.tuple #[.int .i64 more, .int .i64 0]) ∧ Below w.heap.size w w') := fun w => by have := aroom_any c w (by rw [hcl]; exact hl); unfold TwoPost at this; rw [s1] at this; exact this
  have g20 : ∀ k : Int, 1 ≤ k → k ≤ 8192 → ∃ (b1 : List UInt8) (b2 : Int), ∀ w, Calls Try.prog 20 #[.string ⟨l.toArray⟩, .int .i64 k] w (fun e w' => e = .returned (.tuple #[.string ⟨b1.toArray⟩, .int .i64 b2, .int .i64 (if k ≤ room then 0 else 121)]) ∧ Below w.heap.size w w') := fun k h1 h2 => by
    refine ⟨(allocA l.length lay k).1, (allocA l.length lay k).2.1, fun w => ?_⟩
    have := alloc_any l k lay w hA
    rw [← herr k h1 h2]
    exact this
  have H24 := hid g24; have H51 := hid g51; have H48 := hid g48; have H39 := hid g39; have H32 := hid g32; have H51C := hid g51c; have H20 := hid g20; have HLAST := hid hlast
  clear g24 g51 g48 g39 g32 g51c g20 hlast herr hcs hAc hcl hc s1 r1 r2 r3 r4 hmr hrm hps hen hA hlayd h hce
  have q1 : decide (more < room) = false := by simp; omega
  have q2 : decide (room < 0) = false := by simp; omega
  have q3 : decide ((en : Int) < 8) = false := by simp; omega
  have q4 : decide ((l.length : Int) < (en : Int)) = false := by simp; omega
  go_enter Try.func13, Try.ntmps13
  go_wp2_with fail
  refine (sane_any _).mono ?_
  rintro e w1 ⟨rfl, hb1⟩
  have HB1 := hid hb1; clear hb1
  go_wp2_with fail
  refine (H24.out _).mono ?_
  rintro e w2 ⟨rfl, hb2⟩
  have HB2 := hid (below_step hb2 HB1.out); clear hb2
  go_wp2_with fail
  refine (H51.out _).mono ?_
  rintro e w3 ⟨rfl, hb3⟩
  have HB3 := hid (below_step hb3 HB2.out); clear hb3
  go_wp2_with fail
  refine (H48.out _).mono ?_
  rintro e w4 ⟨v4, rfl, hop4, hb4⟩
  have HB4 := hid (below_step hb4 HB3.out); clear hb4
  have HRP := hid hop4.rp; clear hop4
  go_wp2_with fail
  refine (H39.out _).mono ?_
  rintro e w5 ⟨rfl, hb5⟩
  have HB5 := hid (below_step hb5 HB4.out)
  have HRP := hid (HRP.out.below hb5); clear hb5
  go_wp2_with fail
  refine (H32.out _).mono ?_
  rintro e w6 ⟨v6, rfl, hom6, hb6⟩
  have HB6 := hid (below_step hb6 HB5.out)
  have HRP := hid (HRP.out.below hb6); clear hb6 hom6
  go_wp2_with fail
  refine (H51C.out _).mono ?_
  rintro e w7 ⟨rfl, hb7⟩
  have HB7 := hid (below_step hb7 HB6.out)
  have HRP := hid (HRP.out.below hb7); clear hb7
  obtain ⟨o, cap, rfl, hcs⟩ := HRP.out
  have HCS := hid hcs; clear hcs
  go_wp2_with fail
  go_loopw [16, 87] (fun s i wr => ∃ k : Nat, s = .int .i64 (mostP (ps.take k)) ∧ i = .int .i64 k ∧ k ≤ ps.length ∧ Hid (Below w7.heap.size w7 wr)) (fun _ i _ => ps.length - (intOf i).toNat)
  case atStart => exact ⟨0, rfl, rfl, Nat.zero_le _, Below.refl _ _⟩
  case round =>
    obtain ⟨k, rfl, rfl, hk, HB⟩ := hrel
    by_cases hlt : k < ps.length
    · obtain ⟨q, hq⟩ : ∃ q, ps[k]? = some q := ⟨_, List.getElem?_eq_getElem hlt⟩
      obtain hc := HCS.out
      rcases hc with hc | ⟨b, off, rfl, hbl, hc⟩
      · subst hc; simp at hlt
      obtain ⟨c0, c1⟩ := hc k q hq
      have c0 := keepc HB.out c0
      have c1 := keepc HB.out c1
      have HMS := hid (mostP_snoc hq)
      clear hq hc
      obtain ⟨q0, q1⟩ := q
      simp only at c0 c1 HMS
      obtain ⟨mk, hmk⟩ : ∃ mk, mostP (ps.take k) = mk := ⟨_, rfl⟩
      rw [hmk] at HMS ⊢
      clear hmk
      have hzr := HB.out.size
      go_wp2_with fail
      go_roundw
      case rel => exact ⟨k + 1, by rw [HMS.out], by go_num, by omega, by first | exact HB.out | exact HB.out.alloc (by omega) _⟩
      case measure => simp [intOf]; omega
    · have HT : Hid (mostP (ps.take k) = room) := by unfold Hid; rw [List.take_of_length_le (by omega)]; exact HRM.out
      rw [HT.out]
      have hkl : k = ps.length := by omega
      clear HT
      have HBR := hid (below_step HB.out HB7.out)
      have hCS : Hid ((ps = []) ∨ ∃ b off, o = some ⟨b, off, none⟩ ∧ b < wr.heap.size ∧ ∀ i p, ps[i]? = some p → wr.cell? ⟨b, off + i * 2, none⟩ = some (.int .i64 p.1) ∧ wr.cell? ⟨b, off + i * 2 + 1, none⟩ = some (.int .i64 p.2)) := by
        rcases HCS.out with hc | ⟨b, off, rfl, hbl, hc⟩
        · exact .inl hc
        · exact .inr ⟨b, off, rfl, by have := HB.out.size; omega, fun i p hp => ⟨keepc HB.out (hc i p hp).1, keepc HB.out (hc i p hp).2⟩⟩
      clear hkl
      go_upto_if 113 with (fail)
      go_cut [113] (fun s wx => Hid (Below w.heap.size w wx))
      case first =>
        by_cases h16 : en + 16 ≤ l.length
        · obtain ⟨j, q, hj1, hj2⟩ := HLAST.out h16
          have g1 : decide (16 ≤ (l.length : Int) - (en : Int)) = true := by simp; omega
          rcases hCS.out with hc | ⟨b, off, rfl, hbl, hc⟩
          · rw [hc] at hj1; cases hj1
          have e0 := (hc j _ hj2).1
          simp only at e0
          have g2 : ((ps.length : Int) == 0) = false := by rw [beq_eq_false_iff_ne]; omega
          have g3 : (ps.length : Int) - 1 = (j : Int) := by omega
          have g5 : j < ps.length := by omega
          have g4 : (((en + 8 : Nat) : Int) == (en : Int) + 8) = true := by rw [beq_iff_eq]; omega
          clear hc hj1 hj2
          go_wp2_with fail
          go_meet
          case rel => exact HBR.out
        · have g1 : decide (16 ≤ (l.length : Int) - (en : Int)) = false := by simp; omega
          go_wp2_with fail
          go_meet
          case rel => exact HBR.out
      case rest =>
        have HBC := hcut; clear hcut
        have hzc := HBC.out.size
        go_wp2_with fail
        obtain ⟨W1, hW1⟩ : ∃ W1, wc.alloc (.cells #[.int .i64 n, .int .i64 room, .int .i64 (room + 1)] 3) = W1 := ⟨_, rfl⟩
        have k0 : W1.cell? ⟨wc.heap.size, 0, none⟩ = some (.int .i64 n) := by rw [← hW1]; exact cell_new _ _ _ 0 _ rfl
        have k1 : W1.cell? ⟨wc.heap.size, 1, none⟩ = some (.int .i64 room) := by rw [← hW1]; exact cell_new _ _ _ 1 _ rfl
        have k2 : W1.cell? ⟨wc.heap.size, 2, none⟩ = some (.int .i64 (room + 1)) := by rw [← hW1]; exact cell_new _ _ _ 2 _ rfl
        have HW1 : Hid (Below w.heap.size w W1) := by rw [← hW1]; exact HBC.out.alloc hzc _
        rw [hW1]
        have HK : Hid (∀ k : Nat, k < 3 → ∃ x : Int, W1.cell? ⟨wc.heap.size, k, none⟩ = some (.int .i64 x)) := fun k hk => by
          match k, hk with
          | 0, _ => exact ⟨_, k0⟩
          | 1, _ => exact ⟨_, k1⟩
          | 2, _ => exact ⟨_, k2⟩
        clear hW1 k0 k1 k2
        go_loopw [135] (fun i wr => ∃ k : Nat, i = .int .i64 k ∧ k ≤ 3 ∧ Hid (Below W1.heap.size W1 wr)) (fun i _ => 3 - (intOf i).toNat)
        case atStart => exact ⟨0, rfl, by omega, Below.refl _ _⟩
        case round =>
          obtain ⟨k, rfl, hk, HB⟩ := hrel
          by_cases hlt : k < 3
          · have g0 : decide ((k : Int) < 3) = true := by simp; omega
            obtain ⟨x, hx⟩ := HK.out k hlt
            have hx := keepc HB.out hx
            by_cases x1 : x < 1
            · have d1 : decide (x < 1) = true := by simpa using x1
              go_wp2_with fail
              go_roundw
              case rel => exact ⟨k + 1, by first | rfl | go_num, by omega, HB.out⟩
              case measure => simp [intOf]; omega
            have d1 : decide (x < 1) = false := by simpa using x1
            by_cases x2 : 8192 < x
            · have d2 : decide (8192 < x) = true := by simpa using x2
              go_wp2_with fail
              go_roundw
              case rel => exact ⟨k + 1, by first | rfl | go_num, by omega, HB.out⟩
              case measure => simp [intOf]; omega
            have d2 : decide (8192 < x) = false := by simpa using x2
            obtain ⟨b1, b2, hal⟩ := H20.out x (by omega) (by omega)
            by_cases x3 : x ≤ room
            · rw [if_pos x3] at hal
              have d3 : decide (room < x) = false := by simpa using x3
              have d4 : decide (x ≤ room) = true := by simpa using x3
              have HAL := hid hal; clear hal
              go_wp2_with fail
              refine (HAL.out _).mono ?_
              rintro e w9 ⟨rfl, hb9⟩
              have HB9 := hid (below_step hb9 HB.out); clear hb9
              go_wp2_with fail
              go_roundw
              case rel => exact ⟨k + 1, by first | rfl | go_num, by omega, HB9.out⟩
              case measure => simp [intOf]; omega
            · rw [if_neg x3] at hal
              have d3 : decide (room < x) = true := by simpa using x3
              have d4 : decide (x ≤ room) = false := by simpa using x3
              have HAL := hid hal; clear hal
              go_wp2_with fail
              refine (HAL.out _).mono ?_
              rintro e w9 ⟨rfl, hb9⟩
              have HB9 := hid (below_step hb9 HB.out); clear hb9
              go_wp2_with fail
              go_roundw
              case rel => exact ⟨k + 1, by first | rfl | go_num, by omega, HB9.out⟩
              case measure => simp [intOf]; omega
          · have hk3 : k = 3 := by omega
            subst hk3
            go_wp2_with fail
            go_ret
            exact ⟨rfl, below_step HB.out HW1.out⟩
theorem roomlaw (l : List UInt8) (n : Int) (w : World) (hl : l.length ≤ maxLen) : Calls Try.prog 13 #[.string ⟨l.toArray⟩, .int .i64 n] w (SanePost w) := by
  rcases h : openS l with _ | _
  · exact roomlaw_no l n w hl h
  · exact roomlaw_yes l n w hl h
end Go.Proofs.Ytcfmimfkaabmkaa
