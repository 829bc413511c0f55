/- The walk of the law AreaOneForm. -/
import Derived.Test.YtcfmimfkaabmkaaR1
import Derived.Test.YtcfmimfkaabmkaaN4
import Derived.Test.YtcfmimfkaabmkaaP1
set_option linter.unusedVariables false
set_option linter.unusedSimpArgs false
namespace Go.Proofs.Ytcfmimfkaabmkaa
open Go.RowKit
attribute [local go_sem] Oper.semAt_some
attribute [local irreducible] num
set_option maxHeartbeats 4000000 in
set_option maxRecDepth 100000 in
theorem oneform_no (l m : List UInt8) (w : World) (hl : l.length ≤ maxLen) (h : openS l = false) : Calls Try.prog 14 #[.string ⟨l.toArray⟩, .string ⟨m.toArray⟩] w (SanePost w) := by
  have HC := hid (fun w => rcheck_any l w hl)
  have HD := hid (fun w => check_l l w hl)
  have HK : Hid (chkS l = 120) := by unfold Hid chkS; rw [h]; exact if_neg (by simp)
  clear h
  go_enter Try.func14, Try.ntmps14
  go_wp2_with fail
  refine (sane_any _).mono ?_
  rintro e w1 ⟨rfl, hb1⟩
  have HB1 := hid hb1; clear hb1
  go_wp2_with fail
  refine (HC.out _).mono ?_
  rintro e w2 ⟨rfl, hb2⟩
  have HB2 := hid hb2; clear hb2
  rw [HK.out]
  go_wp2_with fail
  refine (HD.out _).mono ?_
  rintro e w3 ⟨rfl, hb3⟩
  have HB3 := hid hb3; clear hb3
  rw [HK.out]
  go_wp2_with fail
  go_ret
  exact ⟨rfl, below_step HB3.out (below_step HB2.out HB1.out)⟩
theorem lay_same : ∀ (A B : Lay), A.map (fun x => ((x.1 : Int), (x.2.length : Int))) = B.map (fun x => ((x.1 : Int), (x.2.length : Int))) → A.map (fun x => x.2) = B.map (fun x => x.2) → A = B
  | [], [], _, _ => rfl
  | [], y :: r, h, _ => by simp at h
  | x :: r, [], h, _ => by simp at h
  | x :: r, y :: r', h, h' => by
    simp only [List.map_cons, List.cons.injEq, Prod.mk.injEq, Int.natCast_inj] at h h'
    rw [lay_same r r' h.2 h'.2]
    congr 1
    exact Prod.ext h.1.1 h'.1
/-- What Build makes of an area's own blocks. -/
theorem build_area {l : List UInt8} {lay : Lay} (h : Area l lay) : buildS l.length (psOf (itsOf lay)) (bsOf (itsOf lay)) = (l, 0) := by
  have h3 := h.2.2.2.1
  have h4 := h.2.1
  rw [buildS_lay l.length h.1 h4 _ h.2.2.1 (by omega), if_pos (by omega), ← h.2.2.2.2]
theorem bs_small {l : List UInt8} {lay : Lay} (h : Area l lay) : ∀ t ∈ bsOf (itsOf lay), t.length ≤ 10000000 := fun t ht => by
  rw [bsOf_its, List.mem_map] at ht
  obtain ⟨x, hx, rfl⟩ := ht
  have h1 := ends_le lay _ _ h.2.2.1 x hx
  have h2 := h.2.2.2.1
  have h3 := h.2.1
  have h4 := upN_bd x.2.length
  omega
/-- What Blocks and texts give at an area. -/
structure AreaC (l : List UInt8) (ps : List (Int × Int)) (bs : List (List UInt8)) : Prop where
  len : ps.length ≤ 8192 ∧ bs.length = ps.length ∧ 16 ≤ l.length ∧ l.length ≤ 8192
  small : ∀ t ∈ bs, t.length ≤ 10000000
  chk : ∀ w, Calls Try.prog 24 #[.string ⟨l.toArray⟩] w (fun e w' => e = .returned (.int .i64 0) ∧ Below w.heap.size w w')
  blocks : ∀ w, Calls Try.prog 26 #[.string ⟨l.toArray⟩] w (fun e w' => ∃ v, e = .returned (.tuple #[v, .int .i64 0]) ∧ RP w' v ps ∧ Below w.heap.size w w')
  texts : ∀ v w, RP w v ps → Calls Try.prog 54 #[.string ⟨l.toArray⟩, v] w (fun e w' => ∃ v', e = .returned (.tuple #[v', .bool true]) ∧ RS w' v' bs ∧ Below w.heap.size w w')
theorem areaC {l : List UInt8} {lay : Lay} (h : Area l lay) : AreaC l (psOf (itsOf lay)) (bsOf (itsOf lay)) := by
  have ho : openS l = true := (openS_iff _).2 ⟨_, h⟩
  have hD : layD l = lay := layD_area h
  have hl : l.length ≤ maxLen := by have := h.2.1; unfold maxLen; omega
  have hn := (area_num4 h).2
  refine ⟨⟨by rw [psOf_its, List.length_map]; exact hn, by rw [psOf_its, bsOf_its, List.length_map, List.length_map], h.1, h.2.1⟩, bs_small h, fun w => ?_, fun w => ?_, fun v w hR => ?_⟩
  · have := rcheck_any l w hl
    unfold IntPost chkS at this
    rw [if_pos ho] at this
    exact this
  · have := blocks_any l w hl
    unfold PiecesPost blocksS at this
    rw [if_pos ho, hD] at this
    exact this.mono fun e w' ⟨v, h1, h2, h3⟩ => ⟨v, h1, h2.rp, h3⟩
  · exact (texts_any l lay v w h hR).mono fun e w' ⟨v, h1, h2, h3⟩ => ⟨v, h1, h2.rs, h3⟩
set_option maxHeartbeats 8000000 in
set_option maxRecDepth 100000 in
theorem oneform_yes (l m : List UInt8) (w : World) (hl : l.length ≤ maxLen) (hm : m.length ≤ maxLen) (h : openS l = true) : Calls Try.prog 14 #[.string ⟨l.toArray⟩, .string ⟨m.toArray⟩] w (SanePost w) := by
  obtain ⟨lay, hA⟩ := (openS_iff l).1 h
  have HA := hid hA
  have HQ := hid (areaC hA)
  have hbd := build_area hA
  have HBA := hid (fun v1 v2 w h1 h2 => abuild_any (l.length : Int) v1 v2 (psOf (itsOf lay)) (bsOf (itsOf lay)) w h1 h2 (by have := HQ.out.len; omega) (by have := HQ.out.len; omega) HQ.out.small)
  rw [hbd] at HBA
  have HBB : Hid (∀ v1 v2 w, RP w v1 (psOf (itsOf lay)) → RS w v2 (bsOf (itsOf lay)) → Calls Try.prog 37 #[.int .i64 (l.length : Int), v1, v2] w (fun e w' => e = .returned (.tuple #[.string ⟨l.toArray⟩, .int .i64 0]) ∧ Below w.heap.size w w')) := HBA.out
  have HBM := hid (fun w => blocks_any m w hm)
  clear hA hbd h HBA
  unfold maxLen at hm hl
  go_enter Try.func14, Try.ntmps14
  go_wp2_with fail
  refine (sane_any _).mono ?_
  rintro e w1 ⟨rfl, hb1⟩
  have HB1 := hid hb1; clear hb1
  go_wp2_with fail
  refine (HQ.out.chk _).mono ?_
  rintro e w2 ⟨rfl, hb2⟩
  have HB2 := hid (below_step hb2 HB1.out); clear hb2
  go_wp2_with fail
  refine (HQ.out.blocks _).mono ?_
  rintro e w3 ⟨v3, rfl, hrp, hb3⟩
  have HRP := hid hrp
  have HB3 := hid (below_step hb3 HB2.out); clear hb3 hrp
  go_wp2_with fail
  refine (HQ.out.texts v3 _ HRP.out).mono ?_
  rintro e w4 ⟨v4, rfl, hrs, hb4⟩
  have HRS := hid hrs
  have HRP := hid (HRP.out.below hb4)
  have HB4 := hid (below_step hb4 HB3.out); clear hb4 hrs
  go_wp2_with fail
  refine (HBB.out v3 v4 _ HRP.out HRS.out).mono ?_
  rintro e w5 ⟨rfl, hb5⟩
  have HRP := hid (HRP.out.below hb5)
  have HRS := hid (HRS.out.below hb5)
  have HB5 := hid (below_step hb5 HB4.out); clear hb5
  have i0 : (l == l) = true := by simp
  have i1 : (!l == l) = false := by simp
  go_wp2_with fail
  refine (HBM.out _).mono ?_
  rintro e w6 ⟨v6, rfl, hop, hb6⟩
  have HRP := hid (HRP.out.below hb6)
  have HRS := hid (HRS.out.below hb6)
  have HB6 := hid (below_step hb6 HB5.out); clear hb6
  have HR6 := hid hop.rp; clear hop
  rcases hom : openS m with _ | _
  · have hbm : blocksS m = ([], 120) := by unfold blocksS; rw [hom]; rfl
    rw [hbm] at HR6 ⊢
    clear hbm hom
    go_wp2_with fail
    go_ret
    exact ⟨rfl, HB6.out⟩
  obtain ⟨layb, hAb⟩ := (openS_iff m).1 hom
  have hbm : blocksS m = (psOf (itsOf layb), 0) := by unfold blocksS; rw [if_pos hom, layD_area hAb]
  rw [hbm] at HR6 ⊢
  have HAB := hid hAb
  have HQB := hid (areaC hAb)
  clear hbm hom hAb
  by_cases hlm : l.length = m.length
  rotate_left
  · have j1 : ((l.length : Int) == (m.length : Int)) = false := by rw [beq_eq_false_iff_ne]; omega
    have j2 : ((l.length : Int) != (m.length : Int)) = true := by rw [bne_iff_ne]; omega
    go_wp2_with fail
    go_ret
    exact ⟨rfl, HB6.out⟩
  have HLM := hid hlm
  have j1 : ((l.length : Int) == (m.length : Int)) = true := by rw [beq_iff_eq]; omega
  have j2 : ((l.length : Int) != (m.length : Int)) = false := by rw [bne_eq_false_iff_eq]; omega
  clear hlm
  go_wp2_with fail
  refine (same_any v3 v6 _ _ _ HRP.out HR6.out (by have := HQ.out.len; omega) (by have := HQB.out.len; omega)).mono ?_
  rintro e w7 ⟨rfl, hb7⟩
  have HRP := hid (HRP.out.below hb7)
  have HRS := hid (HRS.out.below hb7)
  have HR6 := hid (HR6.out.below hb7)
  have HB7 := hid (below_step hb7 HB6.out); clear hb7
  by_cases hpe : psOf (itsOf lay) = psOf (itsOf layb)
  rotate_left
  · have j3 : decide (psOf (itsOf lay) = psOf (itsOf layb)) = false := by simpa using hpe
    rw [j3]
    clear hpe j3
    go_wp2_with fail
    go_ret
    exact ⟨rfl, HB7.out⟩
  have j3 : decide (psOf (itsOf lay) = psOf (itsOf layb)) = true := by simpa using hpe
  rw [j3]
  have HPE := hid hpe
  clear hpe j3
  go_wp2_with fail
  refine (HQB.out.texts v6 _ HR6.out).mono ?_
  rintro e w8 ⟨v8, rfl, hrs8, hb8⟩
  have HRS := hid (HRS.out.below hb8)
  have HB8 := hid (below_step hb8 HB7.out)
  have HS8 := hid hrs8
  clear hb8 hrs8
  have hbl : (bsOf (itsOf layb)).length = (bsOf (itsOf lay)).length := by have h1 := HQ.out.len; have h2 := HQB.out.len; rw [h1.2.1, h2.2.1, HPE.out]
  have hb10 : (bsOf (itsOf lay)).length ≤ 8192 := by have h1 := HQ.out.len; omega
  have HFIN : Hid (bsOf (itsOf lay) = bsOf (itsOf layb) → l = m) := fun hb => by
    have e1 : lay = layb := by
      have := HPE.out
      rw [psOf_its, psOf_its] at this
      rw [bsOf_its, bsOf_its] at hb
      exact lay_same lay layb this hb
    have h1 := HA.out.2.2.2.2
    have h2 := HAB.out.2.2.2.2
    rw [h1, h2, e1, HLM.out]
  obtain ⟨bs, hbs⟩ : ∃ bs, bsOf (itsOf lay) = bs := ⟨_, rfl⟩
  obtain ⟨bt, hbt⟩ : ∃ bt, bsOf (itsOf layb) = bt := ⟨_, rfl⟩
  rw [hbs] at HRS HFIN hbl hb10
  rw [hbt] at HS8 HFIN hbl
  clear hbs hbt HBB HBM HQ HQB
  obtain ⟨o1, cap1, rfl, hc1⟩ := HRS.out
  obtain ⟨o2, cap2, rfl, hc2⟩ := HS8.out
  rw [hbl]
  have HBL := hid hbl
  have HC1 := hid hc1; have HC2 := hid hc2
  clear hbl hc1 hc2
  obtain ⟨n, hn⟩ : ∃ n, bs.length = n := ⟨_, rfl⟩
  have HN := hid hn
  rw [hn] at hb10 ⊢
  clear hn
  go_wp2_with fail
  go_loopw [90] (fun i wr => ∃ k : Nat, i = .int .i64 k ∧ k ≤ n ∧ Hid (bs.take k = bt.take k) ∧ Hid (Below w8.heap.size w8 wr)) (fun i _ => n - (intOf i).toNat)
  case atStart => exact ⟨0, rfl, Nat.zero_le _, rfl, Below.refl _ _⟩
  case round =>
    obtain ⟨k, rfl, hk, HT, HB⟩ := hrel
    by_cases hlt : k < n
    · obtain ⟨s, hs⟩ : ∃ s, bs[k]? = some s := ⟨_, List.getElem?_eq_getElem (by have := HN.out; omega)⟩
      obtain ⟨t, ht⟩ : ∃ t, bt[k]? = some t := ⟨_, List.getElem?_eq_getElem (by have := HN.out; have := HBL.out; omega)⟩
      rcases HC1.out with hc | ⟨b, off, rfl, hbl, hc⟩
      · rw [hc] at hs; simp at hs
      rcases HC2.out with hc2 | ⟨b2, off2, rfl, hbl2, hc2⟩
      · rw [hc2] at ht; simp at ht
      have e1 := keepc HB.out (hc k s hs)
      have e2 := keepc HB.out (hc2 k t ht)
      unfold strV at e1 e2
      have HST : Hid (s = t → bs.take (k + 1) = bt.take (k + 1)) := fun he => by rw [take_snoc hs, take_snoc ht, HT.out, he]
      clear hc hc2 hs ht
      by_cases he : s = t
      · have HX := hid (HST.out he)
        subst he
        have k1 : (!s == s) = false := by simp
        clear HST
        go_wp2_with fail
        go_quiet (fail)
        go_wp2_with fail
        go_roundw
        case rel => exact ⟨k + 1, by first | rfl | go_num, by omega, HX.out, below_drewN HB.out _⟩
        case measure => simp [intOf]; omega
      · have k1 : (!s == t) = true := by simpa using he
        clear he HST
        go_wp2_with fail
        go_quiet (fail)
        go_wp2_with fail
        go_ret
        exact ⟨rfl, below_drewN (below_step HB.out HB8.out) _⟩
    · have hkn : bs = bt := by
        have := HT.out
        rw [List.take_of_length_le (by have := HN.out; omega), List.take_of_length_le (by have := HN.out; have := HBL.out; omega)] at this
        exact this
      obtain rfl := HFIN.out hkn
      clear hkn
      go_wp2_with fail
      go_ret
      exact ⟨by first | rfl | simp, below_step HB.out HB8.out⟩
theorem oneform_law (l m : List UInt8) (w : World) (hl : l.length ≤ maxLen) (hm : m.length ≤ maxLen) : Calls Try.prog 14 #[.string ⟨l.toArray⟩, .string ⟨m.toArray⟩] w (SanePost w) := by
  rcases h : openS l with _ | _
  · exact oneform_no l m w hl h
  · exact oneform_yes l m w hl hm h
end Go.Proofs.Ytcfmimfkaabmkaa
