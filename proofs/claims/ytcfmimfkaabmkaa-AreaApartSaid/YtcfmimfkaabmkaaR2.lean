/- The walk of the law AreaApart. -/
import Derived.Test.YtcfmimfkaabmkaaR1
import Derived.Test.YtcfmimfkaabmkaaJ2
set_option linter.unusedVariables false
set_option linter.unusedSimpArgs false
namespace Go.Proofs.Ytcfmimfkaabmkaa
open Go.RowKit
attribute [local go_sem] Oper.semAt_some
attribute [local irreducible] num
theorem offs_step : ∀ (lay : Lay) (b : Bool) (e i j p : Nat) (s : List UInt8) (x : Nat × List UInt8), ok b e lay → lay[i]? = some (p, s) → lay[j]? = some x → i < j → p + upN s.length + 8 ≤ x.1
  | [], _, _, i, j, p, s, x, _, h, _, _ => by simp at h
  | (q, t) :: r, b, e, 0, 0, p, s, x, _, _, _, hlt => by omega
  | (q, t) :: r, b, e, 0, j + 1, p, s, x, ⟨o1, o2, o3, o4, o5⟩, h, h', _ => by
    simp only [List.getElem?_cons_zero, Option.some.injEq, Prod.mk.injEq] at h
    simp only [List.getElem?_cons_succ] at h'
    obtain ⟨rfl, rfl⟩ := h
    exact offs_ge r _ _ o5 x (List.mem_of_getElem? h')
  | (q, t) :: r, b, e, i + 1, 0, p, s, x, _, _, _, hlt => by omega
  | (q, t) :: r, b, e, i + 1, j + 1, p, s, x, ⟨o1, o2, o3, o4, o5⟩, h, h', hlt => by
    simp only [List.getElem?_cons_succ] at h h'
    exact offs_step r _ _ i j p s x o5 h h' (by omega)
theorem offs_8 : ∀ (lay : Lay) (b : Bool) (e : Nat), ok b e lay → ∀ x ∈ lay, x.1 % 8 = 0
  | [], _, _, _, x, hx => by cases hx
  | (q, t) :: r, b, e, ⟨o1, o2, o3, o4, o5⟩, x, hx => by
    rcases List.mem_cons.1 hx with rfl | hx
    · exact o1
    · exact offs_8 r _ _ o5 x hx
set_option maxHeartbeats 4000000 in
set_option maxRecDepth 100000 in
theorem apart_no (l s : List UInt8) (n at_ : Int) (w : World) (hl : l.length ≤ maxLen) (h : openS l = false) : Calls Try.prog 11 #[.agg #[.string ⟨l.toArray⟩, .int .i64 n, .int .i64 at_, .string ⟨s.toArray⟩]] w (SanePost w) := by
  have HC := hid (fun w => rcheck_any l w hl)
  have HD := hid (fun w => check_l l w hl)
  have HK : Hid (chkS l = 120) := by unfold Hid chkS; rw [h]; exact if_neg (by simp)
  clear h
  go_enter Try.func11, Try.ntmps11
  go_wp2_with fail
  refine (sane_any _).mono ?_
  rintro e w1 ⟨rfl, hb1⟩
  have HB1 : Hid (Below w.heap.size w w1) := ((Below.refl w.heap.size w).alloc (Nat.le_refl _) _).trans (hb1.mono (by simp))
  have c0 : w1.cell? ⟨w.heap.size, 0, none⟩ = some (.string ⟨l.toArray⟩) := keepc hb1 (cell_new _ _ _ 0 _ rfl)
  clear hb1
  go_wp2_with fail
  refine (HC.out _).mono ?_
  rintro e w2 ⟨rfl, hb2⟩
  have c0 := keepc hb2 c0
  have HB2 := hid hb2; clear hb2
  rw [HK.out]
  go_wp2_with fail
  refine (HD.out _).mono ?_
  rintro e w3 ⟨rfl, hb3⟩
  have HB3 := hid hb3; clear hb3
  rw [HK.out]
  go_wp2_with fail
  go_ret
  exact ⟨rfl, below_step HB3.out (below_step HB2.out HB1.out)⟩
/-- What the law asks of the blocks, and of a Put. -/
structure ApartF (l s : List UInt8) (at_ : Int) (lay : Lay) : Prop where
  fit : ∀ (i p : Nat) (t : List UInt8), lay[i]? = some (p, t) → p % 8 = 0 ∧ 1 ≤ t.length ∧ 16 ≤ p ∧ p + t.length ≤ l.length
  next : ∀ (i j p : Nat) (t : List UInt8) (x : Nat × List UInt8), lay[i]? = some (p, t) → lay[j]? = some x → i < j → p + t.length + 8 ≤ x.1
  put : (putS l at_ s).2 = 0 → ∃ (a : List UInt8) (i p k : Nat) (t : List UInt8), (putS l at_ s).1 = a ∧ a.length = l.length ∧ lay[i]? = some (p, t) ∧ at_ = (p : Int) + (k : Int) ∧ 1 ≤ s.length ∧ k + s.length ≤ t.length ∧ Area a (putAt lay i p (over t k s))
theorem apartF {l : List UInt8} {lay : Lay} (h : Area l lay) (s : List UInt8) (at_ : Int) : ApartF l s at_ lay := by
  refine ⟨fun i p t hi => ?_, fun i j p t x hi hj hlt => ?_, fun h0 => ?_⟩
  · have hm := List.mem_of_getElem? hi
    have h1 := offs_8 lay _ _ h.2.2.1 _ hm
    have h2 := ok_pos lay _ _ h.2.2.1 _ hm
    have h3 := offs_ge lay _ _ h.2.2.1 _ hm
    have h4 := ends_le lay _ _ h.2.2.1 _ hm
    have h5 := h.2.2.2.1
    have h6 := upN_bd t.length
    simp only at h1 h2 h3 h4
    omega
  · have h1 := offs_step lay _ _ i j p t x h.2.2.1 hi hj hlt
    have h6 := upN_bd t.length
    omega
  · obtain ⟨i, p, k, t, hi, rfl, h1, h2⟩ := putS_ok h h0
    obtain ⟨r1, r2⟩ := area_put (s := s) h hi h2
    exact ⟨_, i, p, k, t, by rw [putS_at h hi h1 h2], r2, hi, rfl, h1, h2, r1⟩
set_option maxHeartbeats 8000000 in
set_option maxRecDepth 100000 in
theorem apart_yes (l s : List UInt8) (n at_ : Int) (w : World) (hl : l.length ≤ maxLen) (hs : s.length ≤ maxLen) (h : openS l = true) : Calls Try.prog 11 #[.agg #[.string ⟨l.toArray⟩, .int .i64 n, .int .i64 at_, .string ⟨s.toArray⟩]] w (SanePost w) := by
  have HC := hid (fun w => rcheck_any l w hl)
  have HK : Hid (chkS l = 0) := by unfold Hid chkS; rw [h]; exact if_pos rfl
  have HBL := hid (fun w => blocks_any l w hl)
  have HBK : Hid (blocksS l = (psOf (itsOf (layD l)), 0)) := by unfold Hid blocksS; rw [h]; exact if_pos rfl
  have hA := area_D h
  have HA := hid hA
  have hl1 := hA.1
  have hl2 := hA.2.1
  have hlay : (layD l).length ≤ 8192 := (area_num4 hA).2
  obtain ⟨lay, hlayd⟩ : ∃ lay, layD l = lay := ⟨_, rfl⟩
  rw [hlayd] at HA HBK hlay
  have HF := hid (apartF HA.out s at_)
  have HPT := hid (fun w => put_any l at_ s w hl hs)
  have HG := hid (fun i p s h W => get_at HA.out (i := i) (p := p) (s := s) h W)
  have hpl : (psOf (itsOf lay)).length = lay.length := by rw [psOf_its, List.length_map]
  obtain ⟨m, hm⟩ : ∃ m, lay.length = m := ⟨_, rfl⟩
  rw [hm] at hpl hlay
  have HPL := hid hpl; have HM := hid hm
  clear hA h hlayd hpl hm
  unfold maxLen at hs
  go_enter Try.func11, Try.ntmps11
  go_wp2_with fail
  refine (sane_any _).mono ?_
  rintro e w1 ⟨rfl, hb1⟩
  have HB1 : Hid (Below w.heap.size w w1) := ((Below.refl w.heap.size w).alloc (Nat.le_refl _) _).trans (hb1.mono (by simp))
  have c0 : w1.cell? ⟨w.heap.size, 0, none⟩ = some (.string ⟨l.toArray⟩) := keepc hb1 (cell_new _ _ _ 0 _ rfl)
  have c2 : w1.cell? ⟨w.heap.size, 2, none⟩ = some (.int .i64 at_) := keepc hb1 (cell_new _ _ _ 2 _ rfl)
  have c3 : w1.cell? ⟨w.heap.size, 3, none⟩ = some (.string ⟨s.toArray⟩) := keepc hb1 (cell_new _ _ _ 3 _ rfl)
  obtain ⟨X, hX⟩ : ∃ X, w.heap.size = X := ⟨_, rfl⟩
  rw [hX] at c0 c2 c3 ⊢
  clear hb1
  go_wp2_with fail
  refine (HC.out _).mono ?_
  rintro e w2 ⟨rfl, hb2⟩
  have c0 := keepc hb2 c0; have c2 := keepc hb2 c2; have c3 := keepc hb2 c3
  have HB2 := hid (below_step hb2 HB1.out); clear hb2
  rw [HK.out]
  go_wp2_with fail
  refine (HBL.out _).mono ?_
  rintro e w4 ⟨v4, rfl, hop4, hb4⟩
  rw [HBK.out] at hop4 ⊢
  have c0 := keepc hb4 c0; have c2 := keepc hb4 c2; have c3 := keepc hb4 c3
  have HB4 := hid (below_step hb4 HB2.out)
  obtain ⟨o, cap, rfl, hcs⟩ := hop4.rp
  have HCS := hid hcs
  clear hb4 hop4 hcs
  rw [HPL.out]
  go_wp2_with fail
  go_loopw [5, 36] (fun v5 v36 wr => ∃ (k : Nat) (la : Int), v5 = .int .i64 la ∧ v36 = .int .i64 k ∧ k ≤ m ∧ 0 ≤ la ∧ la ≤ 20000 ∧ Hid (∀ j x, k ≤ j → lay[j]? = some x → la + 8 ≤ (x.1 : Int)) ∧ Hid (Below w4.heap.size w4 wr)) (fun _ p _ => m - (intOf p).toNat)
  case atStart => exact ⟨0, 8, rfl, rfl, Nat.zero_le _, by omega, by omega, fun j x _ hx => by have := (HF.out.fit j x.1 x.2 hx).2.2.1; omega, Below.refl _ _⟩
  case round =>
    obtain ⟨k, la, rfl, rfl, hk, hla0, hla1, HLA, HBR⟩ := hrel
    by_cases hlt : k < m
    · obtain ⟨⟨p, t⟩, hx⟩ : ∃ x, lay[k]? = some x := ⟨_, List.getElem?_eq_getElem (by have := HM.out; omega)⟩
      have hxp : (psOf (itsOf lay))[k]? = some ((p : Int), (t.length : Int)) := by rw [psOf_its, List.getElem?_map, hx]; rfl
      have hm0 := HPL.out
      rcases HCS.out with hc | ⟨b, off, rfl, hbl, hc⟩
      · rw [hc] at hxp; simp at hxp
      obtain ⟨e0, e1⟩ := hc k _ hxp
      have e0 := keepc HBR.out e0
      have e1 := keepc HBR.out e1
      have d0 := keepc HBR.out c0
      have f0 : ∀ o, (wr.alloc o).cell? ⟨X, 0, none⟩ = some (.string ⟨l.toArray⟩) := fun o => keep_alloc d0 o
      simp only at e0 e1
      obtain ⟨g1, g2, g3, g4⟩ := HF.out.fit k p t hx
      have g5 := HLA.out k _ (Nat.le_refl _) hx
      simp only at g5
      have hnx : ∀ j x, k + 1 ≤ j → lay[j]? = some x → ((p : Int) + (t.length : Int)) + 8 ≤ (x.1 : Int) := fun j x hj hx' => by have := HF.out.next k j p t x hx hx' (by omega); omega
      have HNX := hid hnx
      have hz := HBR.out.size
      clear hx hxp hc hnx d0
      have i1 : decide ((p : Int) < la + 8) = false := by simp; omega
      have i2 : (p : Int).tmod 8 = 0 := by rw [Int.tmod_eq_emod_of_nonneg (by omega)]; omega
      have i3 : decide ((t.length : Int) < 1) = false := by simp; omega
      have i4 : decide ((l.length : Int) - p < (t.length : Int)) = false := by simp; omega
      go_wp2_with fail
      go_roundw
      case rel => exact ⟨k + 1, (p : Int) + t.length, rfl, by first | rfl | go_num, by omega, by omega, by omega, HNX, HBR.out.alloc (by omega) _⟩
      case measure => simp [intOf]; omega
    · have hkm : k = m := by omega
      have hps := fun w => HPT.out w
      obtain ⟨⟨r1, r2⟩, hr⟩ : ∃ r, putS l at_ s = r := ⟨_, rfl⟩
      have HFP := hid HF.out.put
      rw [hr] at HPT HFP
      have HPR : Hid (∀ w, Calls Try.prog 44 #[.string ⟨l.toArray⟩, .int .i64 at_, .string ⟨s.toArray⟩] w (fun e w' => e = .returned (.tuple #[.string ⟨r1.toArray⟩, .int .i64 r2]) ∧ Below w.heap.size w w')) := HPT.out
      clear hps hr HPT hk hkm HLA hla0 hla1
      have d0 := keepc HBR.out c0; have d2 := keepc HBR.out c2; have d3 := keepc HBR.out c3
      have HB5 := hid (below_step HBR.out HB4.out)
      have HCS5 : Hid ((psOf (itsOf lay) = []) ∨ ∃ b off, o = some ⟨b, off, none⟩ ∧ b < wr.heap.size ∧ ∀ i p, (psOf (itsOf lay))[i]? = some p → wr.cell? ⟨b, off + i * 2, none⟩ = some (.int .i64 p.1) ∧ wr.cell? ⟨b, off + i * 2 + 1, none⟩ = some (.int .i64 p.2)) := by
        rcases HCS.out with hc | ⟨b, off, rfl, hbl, hc⟩
        · exact .inl hc
        · exact .inr ⟨b, off, rfl, by have := HBR.out.size; omega, fun i p hp => ⟨keepc HBR.out (hc i p hp).1, keepc HBR.out (hc i p hp).2⟩⟩
      by_cases h0 : r2 = 0
      · obtain ⟨a, pi, pp, kk, tt, ha, hal, hpi, hat, hs1, hs2, hAr⟩ := HFP.out h0
        obtain rfl : r1 = a := ha
        subst h0
        have hfit := HF.out.fit pi pp tt hpi
        have HAR := hid hAr; have HPI := hid hpi
        have HAT := hid hat; have HAL := hid hal
        clear hAr hpi HFP hat hal
        go_wp2_with fail
        refine (HPR.out _).mono ?_
        rintro e w5 ⟨rfl, hb5⟩
        have c0 := keepc hb5 d0; have c2 := keepc hb5 d2; have c3 := keepc hb5 d3
        have HB6 := hid (below_step hb5 HB5.out)
        have HB56 := hid hb5
        clear hb5 d0 d2 d3 hlt
        have hal := HAL.out
        go_wp2_with fail
        go_loopw [93] (fun v93 wr => ∃ k : Nat, v93 = .int .i64 k ∧ k ≤ m ∧ Hid (Below w5.heap.size w5 wr)) (fun p _ => m - (intOf p).toNat)
        case atStart => exact ⟨0, rfl, Nat.zero_le _, Below.refl _ _⟩
        case round =>
          obtain ⟨k, rfl, hk, HBQ⟩ := hrel
          by_cases hlt : k < m
          · obtain ⟨⟨p, t⟩, hx⟩ : ∃ x, lay[k]? = some x := ⟨_, List.getElem?_eq_getElem (by have := HM.out; omega)⟩
            have hxp : (psOf (itsOf lay))[k]? = some ((p : Int), (t.length : Int)) := by rw [psOf_its, List.getElem?_map, hx]; rfl
            rcases HCS5.out with hc | ⟨b, off, rfl, hbl, hc⟩
            · rw [hc] at hxp; simp at hxp
            obtain ⟨e0, e1⟩ := hc k _ hxp
            have e0 := keepc HBQ.out (keepc HB56.out e0)
            have e1 := keepc HBQ.out (keepc HB56.out e1)
            have d0 := keepc HBQ.out c0; have d2 := keepc HBQ.out c2; have d3 := keepc HBQ.out c3
            simp only at e0 e1
            have hft := HF.out.fit k p t hx
            have HG2 := hid (fun W => HG.out k p t hx W)
            have hpa := putAt_get (s := over tt kk s) HPI.out k
            obtain ⟨q1, q2, q3, q4⟩ := hfit
            obtain ⟨t1, t2, t3, t4⟩ := hft
            have hsum : IntKind.i64.wrap ((p : Int) + (t.length : Int)) = (p : Int) + (t.length : Int) := IntWalk.i64_in _ ⟨by omega, by omega⟩
            have HSUM := hid hsum
            clear hxp hc hsum
            by_cases hki : k = pi
            · rw [if_pos hki] at hpa
              obtain ⟨rfl, rfl⟩ : p = pp ∧ t = tt := by rw [hki, HPI.out] at hx; cases hx; exact ⟨rfl, rfl⟩
              have hol := over_length t kk s hs2
              have hg1 := fun W => get_at HAR.out hpa W
              rw [hol] at hg1
              obtain ⟨Y, hY⟩ : ∃ Y, over t kk s = Y := ⟨_, rfl⟩
              rw [hY] at hg1
              have HG1 := hid hg1; have HY := hid hY
              have i1 : decide ((p : Int) ≤ at_) = true := by have := HAT.out; simp; omega
              have i2 : decide (at_ < (p : Int) + (t.length : Int)) = true := by have := HAT.out; simp; omega
              have i3 : at_ - (p : Int) = (kk : Int) := by have := HAT.out; omega
              have i4 : decide ((t.length : Int) < (kk : Int) + (s.length : Int)) = false := by simp; omega
              have i5 : IntKind.i64.wrap ((kk : Int) + (s.length : Int)) = (kk : Int) + (s.length : Int) := IntWalk.i64_in _ ⟨by omega, by omega⟩
              have HE1 := ext_sl t 0 kk
              have HE2 := ext_sl t (kk + s.length) t.length
              have e1' : sl t 0 kk = t.take kk := by unfold sl; rw [List.drop_zero, Nat.sub_zero]
              have e2' : sl t (kk + s.length) t.length = t.drop (kk + s.length) := by unfold sl; rw [List.take_of_length_le (by rw [List.length_drop]; omega)]
              rw [e1'] at HE1
              rw [e2'] at HE2
              have HE1 := hid HE1; have HE2 := hid HE2; have I3 := hid i3; have I5 := hid i5
              clear hx hpa hki hg1 hY hol e1' e2' i3 i5
              go_wp2_with fail
              refine (HG1.out _).mono ?_
              rintro e w6 ⟨rfl, hb6⟩
              have hb6' : Below wr.heap.size wr w6 := ((Below.refl wr.heap.size wr).alloc (Nat.le_refl _) _).trans (hb6.mono (by simp))
              have d0 := keepc hb6' d0; have d2 := keepc hb6' d2; have d3 := keepc hb6' d3
              have j0 : w6.cell? ⟨wr.heap.size, 0, none⟩ = some (.int .i64 (p : Int)) := keepc hb6 (cell_new _ _ _ 0 _ rfl)
              have j1 : w6.cell? ⟨wr.heap.size, 1, none⟩ = some (.int .i64 (t.length : Int)) := keepc hb6 (cell_new _ _ _ 1 _ rfl)
              have HBQ6 := hid (below_step hb6' HBQ.out)
              clear hb6 hb6'
              go_wp2_with fail
              refine (HG2.out _).mono ?_
              rintro e w7 ⟨rfl, hb7⟩
              have d0 := keepc hb7 d0; have d2 := keepc hb7 d2; have d3 := keepc hb7 d3; have j0 := keepc hb7 j0; have j1 := keepc hb7 j1
              have HBQ7 := hid (below_step hb7 HBQ6.out)
              clear hb7
              have hsum := HSUM.out; have i3 := I3.out; have i5 := I5.out
              go_wp2_with fail
              go_quiet (fail)
              have i6 : (!Y == List.take kk t ++ (s ++ List.drop (kk + s.length) t)) = false := by rw [← HY.out]; simp [over]
              go_wp2_with fail
              go_roundw
              case rel => exact ⟨k + 1, by first | rfl | go_num, by omega, below_drewN HBQ7.out _⟩
              case measure => simp [intOf]; omega
            · rw [if_neg hki, hx] at hpa
              have HG1 := hid (fun W => get_at HAR.out hpa W)
              have hcase : at_ < (p : Int) ∨ ((p : Int) ≤ at_ ∧ ¬ at_ < (p : Int) + (t.length : Int)) := by
                have := HAT.out
                rcases Nat.lt_or_ge k pi with h1 | h1
                · have := HF.out.next k pi p t _ hx HPI.out h1
                  simp only at this
                  exact .inr ⟨by omega, by omega⟩
                · have := HF.out.next pi k pp tt _ HPI.out hx (by omega)
                  simp only at this
                  exact .inl (by omega)
              have i8 : (!t == t) = false := by simp
              clear hx hpa hki
              rcases hcase with h1 | ⟨h1, h2⟩
              · have i1 : decide ((p : Int) ≤ at_) = false := by simp; omega
                go_wp2_with fail
                refine (HG1.out _).mono ?_
                rintro e w6 ⟨rfl, hb6⟩
                have hb6' : Below wr.heap.size wr w6 := ((Below.refl wr.heap.size wr).alloc (Nat.le_refl _) _).trans (hb6.mono (by simp))
                have d0 := keepc hb6' d0; have d2 := keepc hb6' d2; have d3 := keepc hb6' d3
                have j0 : w6.cell? ⟨wr.heap.size, 0, none⟩ = some (.int .i64 (p : Int)) := keepc hb6 (cell_new _ _ _ 0 _ rfl)
                have j1 : w6.cell? ⟨wr.heap.size, 1, none⟩ = some (.int .i64 (t.length : Int)) := keepc hb6 (cell_new _ _ _ 1 _ rfl)
                have HBQ6 := hid (below_step hb6' HBQ.out)
                clear hb6 hb6'
                go_wp2_with fail
                refine (HG2.out _).mono ?_
                rintro e w7 ⟨rfl, hb7⟩
                have d0 := keepc hb7 d0; have d2 := keepc hb7 d2; have d3 := keepc hb7 d3; have j0 := keepc hb7 j0; have j1 := keepc hb7 j1
                have HBQ7 := hid (below_step hb7 HBQ6.out)
                clear hb7
                go_wp2_with fail
                go_roundw
                case rel => exact ⟨k + 1, by first | rfl | go_num, by omega, HBQ7.out⟩
                case measure => simp [intOf]; omega
              · have i1 : decide ((p : Int) ≤ at_) = true := by simp; omega
                have i2 : decide (at_ < (p : Int) + (t.length : Int)) = false := by simp; omega
                go_wp2_with fail
                refine (HG1.out _).mono ?_
                rintro e w6 ⟨rfl, hb6⟩
                have hb6' : Below wr.heap.size wr w6 := ((Below.refl wr.heap.size wr).alloc (Nat.le_refl _) _).trans (hb6.mono (by simp))
                have d0 := keepc hb6' d0; have d2 := keepc hb6' d2; have d3 := keepc hb6' d3
                have j0 : w6.cell? ⟨wr.heap.size, 0, none⟩ = some (.int .i64 (p : Int)) := keepc hb6 (cell_new _ _ _ 0 _ rfl)
                have j1 : w6.cell? ⟨wr.heap.size, 1, none⟩ = some (.int .i64 (t.length : Int)) := keepc hb6 (cell_new _ _ _ 1 _ rfl)
                have HBQ6 := hid (below_step hb6' HBQ.out)
                clear hb6 hb6'
                go_wp2_with fail
                refine (HG2.out _).mono ?_
                rintro e w7 ⟨rfl, hb7⟩
                have d0 := keepc hb7 d0; have d2 := keepc hb7 d2; have d3 := keepc hb7 d3; have j0 := keepc hb7 j0; have j1 := keepc hb7 j1
                have HBQ7 := hid (below_step hb7 HBQ6.out)
                clear hb7
                have hsum := HSUM.out
                go_wp2_with fail
                go_roundw
                case rel => exact ⟨k + 1, by first | rfl | go_num, by omega, HBQ7.out⟩
                case measure => simp [intOf]; omega
          · go_wp2_with fail
            go_ret
            exact ⟨rfl, below_step HBQ.out HB6.out⟩
      · have g1 : (r2 == 0) = false := by rw [beq_eq_false_iff_ne]; exact h0
        clear h0 HFP
        go_wp2_with fail
        refine (HPR.out _).mono ?_
        rintro e w5 ⟨rfl, hb5⟩
        have HB6 := hid (below_step hb5 HB5.out); clear hb5
        go_wp2_with fail
        go_ret
        exact ⟨rfl, HB6.out⟩
theorem apart_law (l s : List UInt8) (n at_ : Int) (w : World) (hl : l.length ≤ maxLen) (hs : s.length ≤ maxLen) : Calls Try.prog 11 #[.agg #[.string ⟨l.toArray⟩, .int .i64 n, .int .i64 at_, .string ⟨s.toArray⟩]] w (SanePost w) := by
  rcases h : openS l with _ | _
  · exact apart_no l s n at_ w hl h
  · exact apart_yes l s n at_ w hl hs h
end Go.Proofs.Ytcfmimfkaabmkaa
