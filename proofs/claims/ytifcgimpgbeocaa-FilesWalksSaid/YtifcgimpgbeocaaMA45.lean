/- Diff. -/
import Derived.Test.YtifcgimpgbeocaaMP20
import Derived.Test.YtifcgimpgbeocaaK18
import Derived.Test.YtifcgimpgbeocaaK26
import Derived.Test.YtifcgimpgbeocaaK12
set_option linter.unusedVariables false
set_option linter.unusedSimpArgs false
namespace Go.Proofs.Ytifcgimpgbeocaa
open Go.RowKit
attribute [local go_sem] Oper.semAt_some
theorem run_eqR' (x y : Rec) (w : World) : (binOp .eql 59 (.agg #[strV x.1, strV x.2]) (.agg #[strV y.1, strV y.2])).run Try.prog w = .ok (.bool (decide (x = y))) w := by
  have e : decide (x = y) = ((x.1 == y.1) && (x.2 == y.2)) := by
    obtain ⟨a, b⟩ := x; obtain ⟨c, d⟩ := y
    by_cases h1 : a = c <;> by_cases h2 : b = d <;> simp [h1, h2]
  rw [run_eql_struct, run_equalIn_agg (ht := by kernel_rfl) (hp := by kernel_rfl)]
  have hf : (Try.prog.fieldsOf 59).toList = (match Try.prog.underlying 59 with | some (.struct fs) => fs.toList | _ => []) := by kernel_rfl
  rw [hf, Try.underlying59]
  simp [go_sem, Op.eqFields, run_equalIn_string (h := Try.underlying9), e]
  by_cases h1 : x.1 = y.1 <;> by_cases h2 : x.2 = y.2 <;> simp [h1, h2]
theorem sameS' {w : World} {S i : Nat} {x : Value} (v : Value) (h : w.cell? ⟨S, i, none⟩ = some x) : (w.setCell ⟨S, i, none⟩ v).cell? ⟨S, i, none⟩ = some v := World.cell?_setCell_same _ _ _ h
theorem otherS' (w : World) (S i : Nat) (v : Value) (j : Nat) (h : j ≠ i) : (w.setCell ⟨S, i, none⟩ v).cell? ⟨S, j, none⟩ = w.cell? ⟨S, j, none⟩ := World.cell?_setCell_other _ _ _ _ (fun e => h (by cases e; rfl))
set_option maxHeartbeats 4000000 in
set_option maxRecDepth 100000 in
theorem diff_any (a b : Ds) (va vb : Value) (w : World) (hA : RdR w va a) (hB : RdR w vb b) : Calls Try.prog 60 #[va, vb] w (RetO (diffD a b).1 (diffD a b).2 w) := by
  have HCA := hid (fun w' (hb : Below w.heap.size w w') => check_any a va w' (hA.below hb))
  have HCB := hid (fun w' (hb : Below w.heap.size w w') => check_any b vb w' (hB.below hb))
  have HATB := hid (fun (hl : b.length ≤ 64) k w' (hb : Below w.heap.size w w') => at_any b vb k w' (hB.below hb) hl)
  have HATA := hid (fun (hl : a.length ≤ 64) k w' (hb : Below w.heap.size w w') => at_any a va k w' (hA.below hb) hl)
  obtain ⟨oa, ca, rfl, hca, hac⟩ := hA
  obtain ⟨ob, cb, rfl, hcb, hbc⟩ := hB
  have HAC := hid hac; have HBC := hid hbc
  obtain ⟨N, hN⟩ : ∃ N, a.length = N := ⟨_, rfl⟩
  obtain ⟨M, hM⟩ : ∃ M, b.length = M := ⟨_, rfl⟩
  simp only [hN, hM] at HCA HCB HATA HATB hca hcb ⊢
  have HN := hid hN; have HM := hid hM
  clear hac hbc
  cases hda : isDs a with
  | false =>
    rw [hda] at HCA
    have HC2 : Hid (∀ w', Below w.heap.size w w' → Calls Try.prog 43 #[.slice oa N ca] w' (Ret (.int .i64 140) w')) := HCA.out
    have HD := hid (diffD_bad (a := a) (b := b) (by rw [hda]; rfl))
    clear HCA HCB HATA HATB hda hN hM
    go_enter Try.func60, Try.ntmps60
    go_wp2_with fail
    refine (HC2.out _ (Below.refl _ _)).mono ?_
    rintro e w1 ⟨rfl, hb1⟩
    have HB1 := hid hb1
    clear hb1
    go_wp2_with fail
    go_ret2
    rw [HD.out]
    exact ⟨_, rfl, oO_nil _ _, HB1.out⟩
  | true =>
  rw [hda] at HCA
  have HC2 : Hid (∀ w', Below w.heap.size w w' → Calls Try.prog 43 #[.slice oa N ca] w' (Ret (.int .i64 0) w')) := HCA.out
  have hal := isDs_len hda
  cases hdb : isDs b with
  | false =>
    rw [hdb] at HCB
    have HC3 : Hid (∀ w', Below w.heap.size w w' → Calls Try.prog 43 #[.slice ob M cb] w' (Ret (.int .i64 140) w')) := HCB.out
    have HD := hid (diffD_bad (a := a) (b := b) (by rw [hdb]; simp))
    clear HCA HCB HATA HATB hda hdb hN hM hal
    go_enter Try.func60, Try.ntmps60
    go_wp2_with fail
    refine (HC2.out _ (Below.refl _ _)).mono ?_
    rintro e w1 ⟨rfl, hb1⟩
    have HB1 := hid hb1
    clear hb1
    go_wp2_with fail
    refine (HC3.out _ HB1.out).mono ?_
    rintro e w2 ⟨rfl, hb2⟩
    have HB2 := hid (below_step hb2 HB1.out)
    clear hb2
    go_wp2_with fail
    go_ret2
    rw [HD.out]
    exact ⟨_, rfl, oO_nil _ _, HB2.out⟩
  | true =>
  rw [hdb] at HCB
  have HC3 : Hid (∀ w', Below w.heap.size w w' → Calls Try.prog 43 #[.slice ob M cb] w' (Ret (.int .i64 0) w')) := HCB.out
  have hbl := isDs_len hdb
  have HD := hid (diffD_ok (a := a) (b := b) (by rw [hda, hdb]; rfl))
  have HATA := hid (HATA.out (by omega))
  have HATB := hid (HATB.out (by omega))
  have hN64 : N ≤ 64 := by omega
  have hM64 : M ≤ 64 := by omega
  have HDL := hid (fun k => dels_len (a.take k) b)
  have HUL := hid (fun k => ups_len1 a (b.take k))
  have HDA := hid hda; have HDB := hid hdb
  clear HCA HCB hda hdb hN hM hal hbl
  go_enter Try.func60, Try.ntmps60
  go_wp2_with fail
  refine (HC2.out _ (Below.refl _ _)).mono ?_
  rintro e w1 ⟨rfl, hb1⟩
  have HB1 := hid hb1
  clear hb1
  go_wp2_with fail
  refine (HC3.out _ HB1.out).mono ?_
  rintro e w2 ⟨rfl, hb2⟩
  have HB2 := hid (below_step hb2 HB1.out)
  have HO0 : Hid (OO w2 w.heap.size (.slice none 0 0) (delsD (a.take 0) b)) := oO_nil _ _
  clear hb2
  go_wp2_with fail
  go_loopw [6, 26] (fun u i wr => ∃ k : Nat, i = .int .i64 k ∧ k ≤ N ∧ Hid (OO wr w.heap.size u (delsD (a.take k) b)) ∧ Hid (Below w.heap.size w wr)) (fun _ i _ => N - (intOf i).toNat)
  case atStart => exact ⟨0, rfl, Nat.zero_le _, HO0, HB2⟩
  case round =>
    obtain ⟨k, rfl, hk, HO, HB⟩ := hrel
    by_cases hlt : k < N
    · obtain ⟨r, hr⟩ : ∃ r, a[k]? = some r := ⟨_, List.getElem?_eq_getElem (by have := HN.out; omega)⟩
      have hHC := HAC.out
      rcases hHC with hq | ⟨b1, off, rfl, hbq, hq⟩
      · rw [hq] at hr; simp at hr
      obtain ⟨c0, c1⟩ := hq k r hr
      have c0 := keepc HB.out c0; have c1 := keepc HB.out c1
      have HSC := hid (dels_succ (b := b) hr)
      obtain ⟨w3, hw3⟩ : ∃ w3, w3 = wr.alloc (.cells #[strV r.1, strV r.2] 59) := ⟨_, rfl⟩
      have hba : Below wr.heap.size wr w3 := by rw [hw3]; exact balloc (Below.refl _ _) _
      have HB3 := hid (below_step hba HB.out)
      have HO3 := hid (HO.out.below hba)
      have y0 : w3.cell? ⟨wr.heap.size, 0, none⟩ = some (strV r.1) := by rw [hw3]; exact cell_new _ _ _ 0 _ rfl
      have HW3 := hid hw3
      have HAT := hid (HATB.out r.1 w3 HB3.out)
      have hlt64 : (k : Int) < (N : Int) := by omega
      obtain ⟨H, hH⟩ : ∃ H, hasD b r.1 = H := ⟨_, rfl⟩
      rw [hH] at HSC HAT
      clear hw3 hba hq hr hH
      go_upto_region 7 with fail
      have e := HW3.out
      rw [← e]
      clear e HW3 c0 c1
      go_wp2_with fail
      refine HAT.out.mono ?_
      rintro e w4 ⟨rfl, hb4⟩
      have HB4 := hid (below_step hb4 HB3.out)
      have HO4 := hid (HO3.out.below hb4)
      have y0 := keepc hb4 y0
      clear hb4
      cases H with
      | true =>
        have HO5 : Hid (OO w4 w.heap.size u6 (delsD (a.take (k + 1)) b)) := by rw [HSC.out]; simp only [if_true, List.append_nil]; exact HO4.out
        go_wp2_with fail
        go_roundw
        case rel => exact ⟨k + 1, by go_num, by omega, HO5, HB4⟩
        case measure => simp [intOf]; omega
      | false =>
        have HST : Hid (delsD (a.take (k + 1)) b = delsD (a.take k) b ++ [((5 : Int), (0 : Int), r.1, ([] : Bs))]) := by rw [HSC.out]; rfl
        have HCE := hid (cellsO _ _ (((5 : Int), (0 : Int), r.1, ([] : Bs)) : FOp) (cell_new w4 #[.int .i64 5, .int .i64 0, strV r.1, strV []] 63 0 _ rfl) (cell_new w4 #[.int .i64 5, .int .i64 0, strV r.1, strV []] 63 1 _ rfl) (cell_new w4 #[.int .i64 5, .int .i64 0, strV r.1, strV []] 63 2 _ rfl) (cell_new w4 #[.int .i64 5, .int .i64 0, strV r.1, strV []] 63 3 _ rfl))
        have hbx := balloc (Below.refl w4.heap.size w4) (.cells #[.int .i64 5, .int .i64 0, strV r.1, strV []] 63)
        have HO8 := hid (HO4.out.below hbx)
        have HB8 := hid (below_step hbx HB4.out)
        have HZ8 := hid HB8.out.size
        have HLL : Hid ((delsD (a.take k) b).length ≤ 1000000) := by have h1 := HDL.out k; unfold Hid; rw [List.length_take] at h1; have := HN.out; omega
        clear hbx
        go_wp2_with (at_builtin; refine appO rfl _ _ rfl w.heap.size _ (delsD (a.take k) b) (((5 : Int), (0 : Int), r.1, ([] : Bs)) : FOp) _ _ rfl rfl HO8.out HCE.out HLL.out HZ8.out ?_)
        intro v9 w9 hop9 hg9
        have HB9 := hid (HO8.out.grown HB8.out hg9 HZ8.out)
        have HO9 : Hid (OO w9 w.heap.size v9 (delsD (a.take (k + 1)) b)) := by rw [HST.out]; exact hop9
        clear hop9 hg9
        go_wp2_with fail
        go_roundw
        case rel => exact ⟨k + 1, by go_num, by omega, HO9, HB9⟩
        case measure => simp [intOf]; omega
    · have hk2 : k = N := by omega
      have HO1 : Hid (OO wr w.heap.size u6 (delsD a b ++ upsD a (b.take 0))) := by
        have h1 := HO.out
        rw [hk2, List.take_of_length_le (by have := HN.out; omega)] at h1
        rw [List.take_zero]
        show OO _ _ _ (delsD a b ++ [])
        rw [List.append_nil]
        exact h1
      have HBS := hid HB.out
      have hge : ¬ (k : Int) < (N : Int) := by omega
      clear hlt hk
      go_wp2_with fail
      go_loopw [6, 48] (fun u i wr => ∃ j : Nat, i = .int .i64 j ∧ j ≤ M ∧ Hid (OO wr w.heap.size u (delsD a b ++ upsD a (b.take j))) ∧ Hid (Below w.heap.size w wr)) (fun _ i _ => M - (intOf i).toNat)
      case atStart => exact ⟨0, rfl, Nat.zero_le _, HO1, HB⟩
      case round =>
        clear HO1 HO HB HBS
        obtain ⟨j, rfl, hj, HO, HB⟩ := hrel
        by_cases hlt2 : j < M
        · obtain ⟨r, hr⟩ : ∃ r, b[j]? = some r := ⟨_, List.getElem?_eq_getElem (by have := HM.out; omega)⟩
          have hHC := HBC.out
          rcases hHC with hq | ⟨b1, off, rfl, hbq, hq⟩
          · rw [hq] at hr; simp at hr
          obtain ⟨c0, c1⟩ := hq j r hr
          have c0 := keepc HB.out c0; have c1 := keepc HB.out c1
          have HSC := hid (ups_succ (a := a) hr)
          have HU1 := hid (fun h => upOf_new (a := a) (r := r) h)
          have HU2 := hid (fun h h2 => upOf_same (a := a) (r := r) h h2)
          have HU3 := hid (fun h h2 => upOf_other (a := a) (r := r) h h2)
          have HLT := hid (fun h => at_lt (d := a) (k := r.1) h)
          have HLL : Hid ((delsD a b ++ upsD a (b.take j)).length ≤ 1000000) := by
            have h1 := HDL.out N
            have h2 := HUL.out j
            rw [List.take_of_length_le (by have := HN.out; omega)] at h1
            rw [List.length_take] at h2
            unfold Hid
            rw [List.length_append]
            have := HN.out; have := HM.out
            omega
          obtain ⟨LL, hLL⟩ : ∃ LL, delsD a b ++ upsD a (b.take j) = LL := ⟨_, rfl⟩
          have HLE := hid hLL
          rw [hLL] at HLL HO
          clear hLL
          obtain ⟨w3, hw3⟩ : ∃ w3, w3 = (wr.alloc (.cells #[strV r.1, strV r.2] 59)).alloc (.cells #[.int .i64 3, .int .i64 0, strV r.1, strV r.2] 63) := ⟨_, rfl⟩
          have hba : Below wr.heap.size wr w3 := by rw [hw3]; exact balloc (balloc (Below.refl _ _) _) _
          have HB3 := hid (below_step hba HB.out)
          have HO3 := hid (HO.out.below hba)
          have Y : Hid (∀ i u, #[strV r.1, strV r.2][i]? = some u → w3.cell? ⟨wr.heap.size, i, none⟩ = some u) := fun i u hi => by rw [hw3]; exact keepc (balloc (Below.refl _ _) _) (cell_new _ _ _ i _ hi)
          have Z : Hid (∀ i u, #[Value.int .i64 3, .int .i64 0, strV r.1, strV r.2][i]? = some u → w3.cell? ⟨wr.heap.size + 1, i, none⟩ = some u) := fun i u hi => by
            rw [hw3]
            have h := cell_new (wr.alloc (.cells #[strV r.1, strV r.2] 59)) #[Value.int .i64 3, .int .i64 0, strV r.1, strV r.2] 63 i u hi
            rw [World.size_alloc] at h
            exact h
          have ZF : Hid (w3.frozen? ⟨wr.heap.size + 1, 0, none⟩ = false) := by
            rw [hw3]
            have h := (ownc_new (wr.alloc (.cells #[strV r.1, strV r.2] 59)) #[Value.int .i64 3, .int .i64 0, strV r.1, strV r.2] 63 0 (by simp)).2
            rw [World.size_alloc] at h
            exact h
          have HNR : Hid (u6.ownBlock ≠ some (wr.heap.size + 1)) := fun e => by have := (World.ownsRow.lt HO.out _ e).2; omega
          have HW3 := hid hw3
          have HAT := hid (HATA.out r.1 w3 HB3.out)
          have hlt64 : (j : Int) < (M : Int) := by omega
          have HZW : Hid (w.heap.size ≤ wr.heap.size) := HB.out.size
          obtain ⟨H, hH⟩ : ∃ H, hasD a r.1 = H := ⟨_, rfl⟩
          obtain ⟨P, hP⟩ : ∃ P, atD a r.1 = P := ⟨_, rfl⟩
          simp only [hH, hP] at HU1 HU2 HU3 HAT HLT
          clear hw3 hba hq hr hH hP
          go_upto_region 15 with fail
          have e := HW3.out
          rw [← e]
          clear e HW3 c0 c1
          obtain ⟨Z0, hZ0⟩ : ∃ Z0, wr.heap.size = Z0 := ⟨_, rfl⟩
          simp only [hZ0] at Y Z ZF HNR HZW ⊢
          clear hZ0
          have y0 := Y.out 0 _ rfl; have y1 := Y.out 1 _ rfl
          go_wp2_with fail
          refine HAT.out.mono ?_
          rintro e w4 ⟨rfl, hb4⟩
          have HB4 := hid (below_step hb4 HB3.out)
          have HO4 := hid (HO3.out.below hb4)
          have y0 := keepc hb4 y0; have y1 := keepc hb4 y1
          have z0 := keepc hb4 (Z.out 0 _ rfl); have z1 := keepc hb4 (Z.out 1 _ rfl); have z2 := keepc hb4 (Z.out 2 _ rfl); have z3 := keepc hb4 (Z.out 3 _ rfl)
          have zf := keepf hb4 (Z.out 0 _ rfl) ZF.out
          clear hb4 HAT
          cases H with
          | false =>
            have HST : Hid (delsD a b ++ upsD a (b.take (j + 1)) = LL ++ [((3 : Int), (0 : Int), r.1, r.2)]) := by rw [HSC.out, HU1.out rfl, ← List.append_assoc, HLE.out]; unfold Hid; rfl
            have HCE := hid (cellsO _ _ (((3 : Int), (0 : Int), r.1, r.2) : FOp) (cell_new w4 #[.int .i64 3, .int .i64 0, strV r.1, strV r.2] 63 0 _ rfl) (cell_new w4 #[.int .i64 3, .int .i64 0, strV r.1, strV r.2] 63 1 _ rfl) (cell_new w4 #[.int .i64 3, .int .i64 0, strV r.1, strV r.2] 63 2 _ rfl) (cell_new w4 #[.int .i64 3, .int .i64 0, strV r.1, strV r.2] 63 3 _ rfl))
            have hbx := balloc (Below.refl w4.heap.size w4) (.cells #[.int .i64 3, .int .i64 0, strV r.1, strV r.2] 63)
            have HO8 := hid (HO4.out.below hbx)
            have HB8 := hid (below_step hbx HB4.out)
            have HZ8 := hid HB8.out.size
            clear hbx
            go_wp2_with (at_builtin; refine appO rfl _ _ rfl w.heap.size _ LL (((3 : Int), (0 : Int), r.1, r.2) : FOp) _ _ rfl rfl HO8.out HCE.out HLL.out HZ8.out ?_)
            intro v9 w9 hop9 hg9
            have HB9 := hid (HO8.out.grown HB8.out hg9 HZ8.out)
            have HO9 : Hid (OO w9 w.heap.size v9 (delsD a b ++ upsD a (b.take (j + 1)))) := by rw [HST.out]; exact hop9
            clear hop9 hg9
            go_wp2_with fail
            go_roundw
            case rel => exact ⟨j + 1, by go_num, by omega, HO9, HB9⟩
            case measure => simp [intOf]; omega
          | true =>
            obtain ⟨x, hx⟩ : ∃ x, a[P]? = some x := ⟨_, List.getElem?_eq_getElem (HLT.out rfl)⟩
            have hPN : (P : Int) < (N : Int) := by have := HLT.out rfl; have := HN.out; omega
            have hAC := HAC.out
            rcases hAC with hq | ⟨b2, off2, rfl, hbq2, hq⟩
            · rw [hq] at hx; simp at hx
            obtain ⟨e0, e1⟩ := hq P x hx
            have e0 := keepc HB4.out e0; have e1 := keepc HB4.out e1
            have hcmp := fun w => run_eqR' x r w
            have HU2 := hid (fun h => HU2.out rfl h)
            have HU3 := hid (fun h => HU3.out rfl h)
            have HXX := hid hx
            clear hq hx
            by_cases hxr : x = r
            · have hd : decide (x = r) = true := by simpa using hxr
              rw [hd] at hcmp
              have HE2 := hid (HU2.out (by rw [HXX.out, hxr]))
              have HSE : Hid (delsD a b ++ upsD a (b.take (j + 1)) = LL) := by rw [HSC.out, HE2.out, List.append_nil, HLE.out]; unfold Hid; rfl
              clear hxr hd HU1 HU2 HU3
              go_wp2_with fail
              go_region
              all_goals
                have HO9 : Hid (OO w4.drew w.heap.size u6 (delsD a b ++ upsD a (b.take (j + 1)))) := by rw [HSE.out]; exact HO4.out.below (drew_below _)
                have HB9 : Hid (Below w.heap.size w w4.drew) := HB4.out.drew
                go_wp2_with fail
                go_roundw
                case rel => exact ⟨j + 1, by go_num, by omega, HO9, HB9⟩
                case measure => simp [intOf]; omega
            · have hd : decide (x = r) = false := by simpa using hxr
              rw [hd] at hcmp
              have HE2 := hid (HU3.out (by rw [HXX.out]; simpa using hxr))
              clear hxr hd HU1 HU2 HU3
              go_wp2_with fail
              go_region
              all_goals
                obtain ⟨w5, hw5⟩ : ∃ w5, w5 = (w4.setCell ⟨Z0 + 1, 0, none⟩ (.int .i64 4)).drew := ⟨_, rfl⟩
                have HO5 : Hid (OO w5 w.heap.size u6 LL) := by rw [hw5]; exact OO.below (ownsRow_setCell_other HO4.out HNR.out _) (drew_below _)
                have HB5 : Hid (Below w.heap.size w w5) := by rw [hw5]; exact (HB4.out.setCell (p := ⟨Z0 + 1, 0, none⟩) (by have := HZW.out; simp only; omega) _).drew
                have z0 : w5.cell? ⟨Z0 + 1, 0, none⟩ = some (.int .i64 4) := by rw [hw5]; exact sameS' (w := w4) _ z0
                have z1 : w5.cell? ⟨Z0 + 1, 1, none⟩ = some (.int .i64 0) := by rw [hw5]; exact (otherS' w4 _ _ _ _ (by decide)).trans z1
                have z2 : w5.cell? ⟨Z0 + 1, 2, none⟩ = some (strV r.1) := by rw [hw5]; exact (otherS' w4 _ _ _ _ (by decide)).trans z2
                have z3 : w5.cell? ⟨Z0 + 1, 3, none⟩ = some (strV r.2) := by rw [hw5]; exact (otherS' w4 _ _ _ _ (by decide)).trans z3
                have HW5 := hid hw5
                clear hw5
                go_upto_region 19 with fail
                have e := HW5.out
                rw [← e]
                clear e HW5
                have HST : Hid (delsD a b ++ upsD a (b.take (j + 1)) = LL ++ [((4 : Int), (0 : Int), r.1, r.2)]) := by rw [HSC.out, HE2.out, ← List.append_assoc, HLE.out]; unfold Hid; rfl
                have HCE := hid (cellsO _ _ (((4 : Int), (0 : Int), r.1, r.2) : FOp) (cell_new w5 #[.int .i64 4, .int .i64 0, strV r.1, strV r.2] 63 0 _ rfl) (cell_new w5 #[.int .i64 4, .int .i64 0, strV r.1, strV r.2] 63 1 _ rfl) (cell_new w5 #[.int .i64 4, .int .i64 0, strV r.1, strV r.2] 63 2 _ rfl) (cell_new w5 #[.int .i64 4, .int .i64 0, strV r.1, strV r.2] 63 3 _ rfl))
                have hbx := balloc (Below.refl w5.heap.size w5) (.cells #[.int .i64 4, .int .i64 0, strV r.1, strV r.2] 63)
                have HO8 := hid (HO5.out.below hbx)
                have HB8 := hid (below_step hbx HB5.out)
                have HZ8 := hid HB8.out.size
                clear hbx
                go_wp2_with (at_builtin; refine appO rfl _ _ rfl w.heap.size _ LL (((4 : Int), (0 : Int), r.1, r.2) : FOp) _ _ rfl rfl HO8.out HCE.out HLL.out HZ8.out ?_)
                intro v9 w9 hop9 hg9
                have HB9 := hid (HO8.out.grown HB8.out hg9 HZ8.out)
                have HO9 : Hid (OO w9 w.heap.size v9 (delsD a b ++ upsD a (b.take (j + 1)))) := by rw [HST.out]; exact hop9
                clear hop9 hg9
                go_wp2_with fail
                go_roundw
                case rel => exact ⟨j + 1, by go_num, by omega, HO9, HB9⟩
                case measure => simp [intOf]; omega
        · have hj2 : j = M := by omega
          have HOF : Hid (OO wr w.heap.size u6 (delsD a b ++ upsD a b)) := by
            have h1 := HO.out
            rw [hj2, List.take_of_length_le (by have := HM.out; omega)] at h1
            exact h1
          go_wp2_with fail
          go_ret2
          rw [HD.out]
          exact ⟨_, rfl, HOF.out, HB.out⟩
end Go.Proofs.Ytifcgimpgbeocaa
