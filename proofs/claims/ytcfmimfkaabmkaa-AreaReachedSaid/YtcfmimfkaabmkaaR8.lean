/- The walk of the law AreaReached. -/
import Derived.Test.YtcfmimfkaabmkaaR7
import Derived.Test.YtcfmimfkaabmkaaR1
import Derived.Deep.RegionWith
set_option linter.unusedVariables false
set_option linter.unusedSimpArgs false
namespace Go.Proofs.Ytcfmimfkaabmkaa
open Go.RowKit
attribute [local go_sem] Oper.semAt_some
attribute [local irreducible] num
def RI (w : World) (v : Value) (xs : List Nat) : Prop :=
  ∃ o cap, v = .slice o xs.length cap ∧ (xs = [] ∨ ∃ g, o = some ⟨g, 0, none⟩ ∧ g < w.heap.size ∧ ∀ (i x : Nat), xs[i]? = some x → w.cell? ⟨g, i, none⟩ = some (.int .i64 (x : Int)))
theorem OI.ri {w : World} {B : Nat} {v : Value} {xs : List Nat} (h : OI w B v xs) : RI w v xs := by
  obtain ⟨hl, ⟨rfl, hn⟩ | ⟨g, cap, cur, rfl, hb, hg, hnc, hcm, hcs, ht⟩⟩ := h
  · exact ⟨none, 0, by rw [hn], .inl (List.eq_nil_of_length_eq_zero hn)⟩
  · refine ⟨_, cap, rfl, .inr ⟨g, rfl, (Array.getElem?_eq_some_iff.1 hg).1, fun i x hx => ?_⟩⟩
    have hlt : i < xs.length := (List.getElem?_eq_some_iff.1 hx).1
    have h1 : (encI xs)[i]? = some (.int .i64 (x : Int)) := by unfold encI; rw [List.getElem?_map, hx]; rfl
    rw [← ht, List.getElem?_take_of_lt (by omega)] at h1
    unfold World.cell?
    simp only [hg]
    simpa using h1
theorem RI.below {w w' : World} {v : Value} {xs : List Nat} (h : RI w v xs) (hb : Below w.heap.size w w') : RI w' v xs := by
  obtain ⟨o, cap, rfl, h⟩ := h
  refine ⟨o, cap, rfl, h.imp id ?_⟩
  rintro ⟨g, rfl, hlt, hc⟩
  exact ⟨g, rfl, by have := hb.size; omega, fun i x hx => keepc hb (hc i x hx)⟩
set_option maxHeartbeats 4000000 in
set_option maxRecDepth 100000 in
theorem reached_no (l : List UInt8) (w : World) (hl : l.length ≤ maxLen) (h : openS l = false) : Calls Try.prog 12 #[.string ⟨l.toArray⟩] w (SanePost w) := by
  have HC := hid (fun w => rcheck_any l w hl)
  have HD := hid (fun w => check_l l w hl)
  have HK : Hid (chkS l = 120) := by unfold Hid chkS; rw [h]; exact if_neg (by simp)
  clear h
  go_enter Try.func12, Try.ntmps12
  go_wp2_with fail
  refine (sane_any _).mono ?_
  rintro e w1 ⟨rfl, hb1⟩
  have HB1 := hid hb1; clear hb1
  go_wp2_with fail
  refine (HC.out _).mono ?_
  rintro e w2 ⟨rfl, hb2⟩
  have HB2 := hid hb2; clear hb2
  rw [HK.out]
  go_wp2_with fail
  refine (HD.out _).mono ?_
  rintro e w3 ⟨rfl, hb3⟩
  have HB3 := hid hb3; clear hb3
  rw [HK.out]
  go_wp2_with fail
  go_ret
  exact ⟨rfl, below_step HB3.out (below_step HB2.out HB1.out)⟩
theorem mix_rl {l : List UInt8} {lay : Lay} (h : Area l lay) {i p : Nat} {s : List UInt8} (hx : lay[i]? = some (p, s)) : (render l.length (mixL (i + 1) 8 lay)).length = l.length := render_length (mix_area h hx).2.2.1 (mix_len h hx)
set_option maxHeartbeats 8000000 in
set_option maxRecDepth 100000 in
theorem reached_yes (l : List UInt8) (w : World) (hl : l.length ≤ maxLen) (h : openS l = true) : Calls Try.prog 12 #[.string ⟨l.toArray⟩] w (SanePost w) := by
  obtain ⟨lay, hA⟩ := (openS_iff l).1 h
  have hD : layD l = lay := layD_area hA
  have hml := (area_num4 hA).2
  have hl1 := hA.1
  have hl2 := hA.2.1
  have hen := hA.2.2.2.1
  have g24 : ∀ w, Calls Try.prog 24 #[.string ⟨l.toArray⟩] w (fun e w' => e = .returned (.int .i64 0) ∧ Below w.heap.size w w') := fun w => by
    have := rcheck_any l w hl
    unfold IntPost chkS at this
    rw [if_pos h] at this
    exact this
  have g26 : ∀ w, Calls Try.prog 26 #[.string ⟨l.toArray⟩] w (fun e w' => ∃ v, e = .returned (.tuple #[v, .int .i64 0]) ∧ RP w' v (psOf (itsOf lay)) ∧ Below w.heap.size w w') := fun w => by
    have := blocks_any l w hl
    unfold PiecesPost blocksS at this
    rw [if_pos h, hD] at this
    exact this.mono fun e w' ⟨v, h1, h2, h3⟩ => ⟨v, h1, h2.rp, h3⟩
  have g54 := fun (v : Value) (w : World) (hR : RP w v (psOf (itsOf lay))) => (texts_any l lay v w hA hR).mono (R' := fun e w' => ∃ v, e = .returned (.tuple #[v, .bool true]) ∧ RS w' v (bsOf (itsOf lay)) ∧ Below w.heap.size w w') fun e w' ⟨v, h1, h2, h3⟩ => ⟨v, h1, h2.rs, h3⟩
  have g55 := fun (v : Value) (w : World) (hR : RP w v (psOf (itsOf lay))) => (fill_any l lay v w hA hR).mono (R' := fun e w' => ∃ v, e = .returned (.tuple #[.string ⟨(render l.length (preL lay.length 8 lay)).toArray⟩, v, .bool true]) ∧ RI w' v (exO 8 lay) ∧ Below w.heap.size w w') fun e w' ⟨v, h1, h2, h3⟩ => ⟨v, h1, h2.ri, h3⟩
  have hm0 : preL lay.length 8 lay = mixL (lay.length - 1) 8 lay := by
    rw [pre_mix lay 8 lay.length (Nat.le_refl _)]
    rcases Nat.eq_zero_or_pos lay.length with h0 | h0
    · rw [h0]
    · obtain ⟨⟨p, s⟩, hx⟩ : ∃ x, lay[lay.length - 1]? = some x := ⟨_, List.getElem?_eq_getElem (by omega)⟩
      have := mix_zero (p' := 0) hx (fun p' s' hy => by rw [List.getElem?_eq_none (by omega)] at hy; cases hy) 8
      rw [show lay.length - 1 + 1 = lay.length by omega] at this
      exact this
  rw [hm0] at g55
  have gdn : ∀ (i p p' : Nat) (s s' : List UInt8), lay[i]? = some (p, s) → lay[i + 1]? = some (p', s') → p' = p + upN s.length + 16 → ∃ c : List UInt8, (∀ w, Calls Try.prog 22 #[.string ⟨(render l.length (mixL (i + 1) 8 lay)).toArray⟩, .int .i64 (p : Int)] w (fun e w' => e = .returned (.tuple #[.string ⟨c.toArray⟩, .int .i64 0]) ∧ Below w.heap.size w w')) ∧
      (∀ w, Calls Try.prog 20 #[.string ⟨c.toArray⟩, .int .i64 (s.length : Int)] w (fun e w' => e = .returned (.tuple #[.string ⟨(render l.length (mixL i 8 lay)).toArray⟩, .int .i64 (p : Int), .int .i64 0]) ∧ Below w.heap.size w w')) := fun i p p' s s' hx hy hg => by
    obtain ⟨L, a1, a2, a3, a4⟩ := mix_down hA hx hy hg
    have f1 := fun w => free_any (render l.length (mixL (i + 1) 8 lay)) (p : Int) (mixL (i + 1) 8 lay) w (mix_area hA hx)
    rw [mix_rl hA hx, a1] at f1
    have f2 := fun w => alloc_any (render l.length L) (s.length : Int) L w a2
    rw [a3, a4] at f2
    exact ⟨render l.length L, f1, f2⟩
  have gzero := fun (i p : Nat) (s : List UInt8) (hx : lay[i]? = some (p, s)) (hy : ∀ p' s', lay[i + 1]? = some (p', s') → p' ≠ p + upN s.length + 16) => mix_zero (p' := 0) hx hy 8
  have gfr : ∀ (j x : Nat), (exO 8 lay)[j]? = some x → ∀ w, Calls Try.prog 22 #[.string ⟨(render l.length (remL j 8 lay)).toArray⟩, .int .i64 (x : Int)] w (fun e w' => e = .returned (.tuple #[.string ⟨(render l.length (remL (j + 1) 8 lay)).toArray⟩, .int .i64 0]) ∧ Below w.heap.size w w') := fun j x hx w => by
    have := free_any _ (x : Int) _ w (rem_area hA j).1
    rw [free_filler hA hx] at this
    exact this
  have gpt : ∀ (k p : Nat) (s : List UInt8), lay[k]? = some (p, s) → ∀ w, Calls Try.prog 44 #[.string ⟨(render l.length (putK k lay)).toArray⟩, .int .i64 (p : Int), .string ⟨s.toArray⟩] w (fun e w' => e = .returned (.tuple #[.string ⟨(render l.length (putK (k + 1) lay)).toArray⟩, .int .i64 0]) ∧ Below w.heap.size w w') := fun k p s hx w => by
    have h4 := lay_end hA.2.2.1 hx
    have hub := upN_bd s.length
    have := put_any (render l.length (putK k lay)) (p : Int) s w (by rw [(putK_area hA k).2]; exact hl) (by unfold maxLen; omega)
    rw [put_block hA hx] at this
    exact this
  have gsm : ∀ (k p : Nat) (s : List UInt8), lay[k]? = some (p, s) → p + upN s.length ≤ 8192 := fun k p s hx => by
    have h4 := lay_end hA.2.2.1 hx
    omega
  have hrem0 : render l.length (mixL 0 8 lay) = render l.length (remL 0 8 lay) := by rw [rem_mix]
  have hrall : remL (exO 8 lay).length 8 lay = putK 0 lay := by rw [rem_all lay 8 _ (Nat.le_refl _)]; rfl
  have hpall : render l.length (putK lay.length lay) = l := by rw [putK_all lay (Nat.le_refl _)]; exact hA.2.2.2.2.symm
  have hxl := exO_len lay 8
  have hpsl : (psOf (itsOf lay)).length = lay.length := by rw [psOf_its, List.length_map]
  have hbsl : (bsOf (itsOf lay)).length = lay.length := by rw [bsOf_its, List.length_map]
  obtain ⟨xs, hxs⟩ : ∃ xs, exO 8 lay = xs := ⟨_, rfl⟩
  rw [hxs] at g55 gfr hrall hxl
  obtain ⟨m, hm⟩ : ∃ m, lay.length = m := ⟨_, rfl⟩
  rw [hm] at g55 hml hpall hxl hpsl hbsl
  have HM := hid hm
  have H24 := hid g24; have H26 := hid g26; have H54 := hid g54; have H55 := hid g55; have HDN := hid gdn; have HZE := hid gzero; have HFR := hid gfr; have HPT := hid gpt; have HSM := hid gsm
  have HR0 := hid hrem0; have HRA := hid hrall; have HPA := hid hpall; have HPL := hid hpsl; have HBL := hid hbsl
  clear g24 g26 g54 g55 gdn gzero gfr gpt gsm hrem0 hrall hpall hpsl hbsl hxs hm hm0 hD hA h hen
  unfold maxLen at hl
  go_enter Try.func12, Try.ntmps12
  go_wp2_with fail
  refine (sane_any _).mono ?_
  rintro e w1 ⟨rfl, hb1⟩
  have HB1 := hid hb1; clear hb1
  go_wp2_with fail
  refine (H24.out _).mono ?_
  rintro e w2 ⟨rfl, hb2⟩
  have HB2 := hid (below_step hb2 HB1.out); clear hb2
  go_wp2_with fail
  refine (H26.out _).mono ?_
  rintro e w3 ⟨v3, rfl, hr3, hb3⟩
  have HR3 := hid hr3
  have HB3 := hid (below_step hb3 HB2.out); clear hb3 hr3
  go_wp2_with fail
  refine (H54.out v3 _ HR3.out).mono ?_
  rintro e w4 ⟨v4, rfl, hr4, hb4⟩
  have HR4 := hid hr4; have HR3 := hid (HR3.out.below hb4)
  have HB4 := hid (below_step hb4 HB3.out); clear hb4 hr4
  go_wp2_with fail
  refine (H55.out v3 _ HR3.out).mono ?_
  rintro e w5 ⟨v5, rfl, hr5, hb5⟩
  have HR5 := hid hr5; have HR3 := hid (HR3.out.below hb5); have HR4 := hid (HR4.out.below hb5)
  have HB5 := hid (below_step hb5 HB4.out); clear hb5 hr5
  obtain ⟨o3, cap3, e3, hc3⟩ := HR3.out
  obtain ⟨o4, cap4, e4, hc4⟩ := HR4.out
  obtain ⟨o5, cap5, e5, hc5⟩ := HR5.out
  rw [HPL.out] at e3
  rw [HBL.out] at e4
  subst e3 e4 e5
  have HC3 := hid hc3; have HC4 := hid hc4; have HC5 := hid hc5
  clear hc3 hc4 hc5
  go_wp2_with fail
  go_loopw [7, 9] (fun b i wr => ∃ (J : Nat) (z : Int), b = .string ⟨(render l.length (mixL J 8 lay)).toArray⟩ ∧ i = .int .i64 z ∧ (z = (J : Int) - 1 ∨ J = 0 ∧ z = -2) ∧ (J + 1 ≤ m ∨ J = 0) ∧ Hid (Below w5.heap.size w5 wr)) (fun _ i _ => (intOf i + 3).toNat)
  case atStart => exact ⟨m - 1, (m : Int) - 2, rfl, rfl, by omega, by omega, Below.refl _ _⟩
  case round =>
    obtain ⟨J, z, rfl, rfl, hz, hJ, HB⟩ := hrel
    by_cases hJ0 : 1 ≤ J
    · obtain ⟨q, rfl⟩ : ∃ q, J = q + 1 := ⟨J - 1, by omega⟩
      obtain rfl : z = (q : Int) := by omega
      clear hz
      obtain ⟨⟨p, s⟩, hx⟩ : ∃ x, lay[q]? = some x := ⟨_, List.getElem?_eq_getElem (by have := HM.out; omega)⟩
      obtain ⟨⟨p', s'⟩, hy⟩ : ∃ x, lay[q + 1]? = some x := ⟨_, List.getElem?_eq_getElem (by have := HM.out; omega)⟩
      have hxp : (psOf (itsOf lay))[q]? = some ((p : Int), (s.length : Int)) := by rw [psOf_its, List.getElem?_map, hx]; rfl
      have hyp : (psOf (itsOf lay))[q + 1]? = some ((p' : Int), (s'.length : Int)) := by rw [psOf_its, List.getElem?_map, hy]; rfl
      rcases HC3.out with hc | ⟨b3, off3, rfl, hbl3, hc3⟩
      · rw [hc] at hxp; simp at hxp
      obtain ⟨A0, A1⟩ := hc3 q _ hxp
      obtain ⟨C0, -⟩ := hc3 (q + 1) _ hyp
      have A0 := keepc HB.out A0; have A1 := keepc HB.out A1; have C0 := keepc HB.out C0
      simp only at A0 A1 C0
      have hs1 := HSM.out q p s hx
      have hs2 := HSM.out (q + 1) p' s' hy
      have hub := upN_bd s.length
      obtain ⟨U, hU⟩ : ∃ U, upN s.length = U := ⟨_, rfl⟩
      rw [hU] at hs1 hub
      have hq8 : ((s.length : Int) + 7).tdiv 8 = ((s.length : Int) + 7) / 8 := Int.tdiv_eq_ediv_of_nonneg (by omega)
      have hup : ((s.length : Int) + 7) / 8 * 8 = (U : Int) := by rw [← hU]; unfold upN; omega
      have HU := hid hU
      have HX := hid hx; have HY := hid hy
      have hqm : q + 1 < m := by omega
      have g0 : decide (0 ≤ (q : Int)) = true := by simp
      clear hxp hyp hc3 hx hy hU hJ hJ0
      by_cases he8 : p' = p + U + 16
      · have d2 : ((p' : Int) - 8 - ((p : Int) + (U : Int)) == 8) = true := by rw [beq_iff_eq]; omega
        obtain ⟨c, k1, k2⟩ := HDN.out q p p' s s' HX.out HY.out (by rw [HU.out]; exact he8)
        have K1 := hid k1; have K2 := hid k2
        clear k1 k2 he8
        go_wp2_with fail
        go_quiet (fail)
        go_wp2_with fail
        refine (K1.out _).mono ?_
        rintro e w6 ⟨rfl, hb6⟩
        have A0 := keepc hb6 A0; have A1 := keepc hb6 A1
        have HB6 := hid (below_step hb6 (below_drewN HB.out nq)); clear hb6
        go_wp2_with fail
        refine (K2.out _).mono ?_
        rintro e w7 ⟨rfl, hb7⟩
        have A0 := keepc hb7 A0
        have HB7 := hid (below_step hb7 HB6.out); clear hb7
        go_wp2_with fail
        go_roundw
        case rel => exact ⟨q, (q : Int) - 1, rfl, by first | rfl | go_num, .inl rfl, by omega, HB7.out⟩
        case measure => simp [intOf]; omega
      · have d2 : ((p' : Int) - 8 - ((p : Int) + (U : Int)) == 8) = false := by rw [beq_eq_false_iff_ne]; omega
        have hzq := HZE.out q p s HX.out (fun p2 s2 h2 => by rw [HY.out] at h2; cases h2; rw [HU.out]; exact he8)
        rw [hzq]
        clear hzq he8
        go_wp2_with fail
        go_quiet (fail)
        go_wp2_with fail
        go_roundw
        case rel => exact ⟨q, (q : Int) - 1, rfl, by first | rfl | go_num, .inl rfl, by omega, below_drewN HB.out _⟩
        case measure => simp [intOf]; omega
    · obtain rfl : J = 0 := by omega
      have g0 : decide (0 ≤ z) = false := by simp; omega
      rw [HR0.out]
      have HBQ := hid (below_step HB.out HB5.out)
      clear hz hJ hJ0
      go_wp2_with fail
      obtain ⟨n5, hn5⟩ : ∃ n5, xs.length = n5 := ⟨_, rfl⟩
      have HN5 := hid hn5
      rw [hn5] at hxl ⊢
      clear hn5
      go_loopw [7, 128] (fun b i wr => ∃ j : Nat, b = .string ⟨(render l.length (remL j 8 lay)).toArray⟩ ∧ i = .int .i64 j ∧ j ≤ n5 ∧ Hid (Below w5.heap.size w5 wr)) (fun _ i _ => n5 - (intOf i).toNat)
      case atStart => exact ⟨0, rfl, rfl, Nat.zero_le _, HB⟩
      case round =>
        clear HB HBQ
        obtain ⟨j, rfl, rfl, hj, HB⟩ := hrel
        by_cases hlt : j < n5
        · obtain ⟨x, hx⟩ : ∃ x, xs[j]? = some x := ⟨_, List.getElem?_eq_getElem (by have := HN5.out; omega)⟩
          rcases HC5.out with hc | ⟨g5, rfl, hg5, hc5⟩
          · rw [hc] at hx; simp at hx
          have A0 := keepc HB.out (hc5 j x hx)
          have K1 := hid (HFR.out j x hx)
          clear hx hc5
          go_wp2_with fail
          refine (K1.out _).mono ?_
          rintro e w6 ⟨rfl, hb6⟩
          have HB6 := hid (below_step hb6 HB.out); clear hb6
          go_wp2_with fail
          go_roundw
          case rel => exact ⟨j + 1, rfl, by first | rfl | go_num, by omega, HB6.out⟩
          case measure => simp [intOf]; omega
        · have hjn : remL j 8 lay = putK 0 lay := by rw [show j = xs.length by rw [HN5.out]; omega]; exact HRA.out
          rw [hjn]
          clear hjn
          go_wp2_with fail
          go_loopw [7, 144] (fun b i wr => ∃ k : Nat, b = .string ⟨(render l.length (putK k lay)).toArray⟩ ∧ i = .int .i64 k ∧ k ≤ m ∧ Hid (Below w5.heap.size w5 wr)) (fun _ i _ => m - (intOf i).toNat)
          case atStart => exact ⟨0, rfl, rfl, Nat.zero_le _, HB⟩
          case round =>
            clear HB hlt hj
            obtain ⟨k, rfl, rfl, hk, HB⟩ := hrel
            by_cases hlt : k < m
            · obtain ⟨⟨p, s⟩, hx⟩ : ∃ x, lay[k]? = some x := ⟨_, List.getElem?_eq_getElem (by have := HM.out; omega)⟩
              have hxp : (psOf (itsOf lay))[k]? = some ((p : Int), (s.length : Int)) := by rw [psOf_its, List.getElem?_map, hx]; rfl
              have hxs : (bsOf (itsOf lay))[k]? = some s := by rw [bsOf_its, List.getElem?_map, hx]; rfl
              rcases HC3.out with hc | ⟨b3, off3, rfl, hbl3, hc3⟩
              · rw [hc] at hxp; simp at hxp
              rcases HC4.out with hc | ⟨b4, off4, rfl, hbl4, hc4⟩
              · rw [hc] at hxs; simp at hxs
              have A0 := keepc HB.out (hc3 k _ hxp).1
              have A1 := keepc HB.out (hc4 k _ hxs)
              unfold strV at A1
              simp only at A0
              have K1 := hid (HPT.out k p s hx)
              clear hx hxp hxs hc3 hc4
              go_upto_region 33 with (fail)
              go_region_with (go_at_call_of 44 (Value.string ⟨s.toArray⟩); refine (K1.out _).mono ?_; rintro e w6 ⟨rfl, hb6⟩; have HB6 := hid (below_step hb6 (HB.out.drew)); clear hb6)
              all_goals go_wp2_with fail
              all_goals go_roundw
              all_goals first | exact ⟨k + 1, rfl, by first | rfl | go_num, by omega, HB6.out⟩ | (simp [intOf]; omega)
            · have hkm : render l.length (putK k lay) = l := by rw [show k = m by omega]; exact HPA.out
              rw [hkm]
              have i0 : (l == l) = true := by simp
              clear hkm
              go_wp2_with fail
              go_ret
              exact ⟨by first | rfl | simp, below_step HB.out HB5.out⟩
theorem reached_law (l : List UInt8) (w : World) (hl : l.length ≤ maxLen) : Calls Try.prog 12 #[.string ⟨l.toArray⟩] w (SanePost w) := by
  rcases h : openS l with _ | _
  · exact reached_no l w hl h
  · exact reached_yes l w hl h
end Go.Proofs.Ytcfmimfkaabmkaa
