/- The reference's Diff. -/
import Derived.Test.YtifcgimpgbeocaaMA45
import Derived.Test.YtifcgimpgbeocaaK28
import Derived.Test.YtifcgimpgbeocaaK6
set_option linter.unusedVariables false
set_option linter.unusedSimpArgs false
namespace Go.Proofs.Ytifcgimpgbeocaa
open Go.RowKit
attribute [local go_sem] Oper.semAt_some
set_option maxHeartbeats 4000000 in
set_option maxRecDepth 100000 in
theorem rdiff_any (a b : Ds) (va vb : Value) (w : World) (hA : RdR w va a) (hB : RdR w vb b) : Calls Try.prog 61 #[va, vb] w (RetO (diffD a b).1 (diffD a b).2 w) := by
  have HCA := hid (fun w' (hb : Below w.heap.size w w') => rcheck_any a va w' (hA.below hb))
  have HCB := hid (fun w' (hb : Below w.heap.size w w') => rcheck_any b vb w' (hB.below hb))
  have HTH := hid (fun (hd : isDs b = true) k w' (hb : Below w.heap.size w w') => rthere_any b vb k w' (hB.below hb) hd)
  have HRE := hid (fun k w' (hb : Below w.heap.size w w') => rread_any a va k w' (hA.below hb))
  obtain ⟨oa, ca, rfl, hca, hac⟩ := hA
  obtain ⟨ob, cb, rfl, hcb, hbc⟩ := hB
  have HAC := hid hac; have HBC := hid hbc
  obtain ⟨N, hN⟩ : ∃ N, a.length = N := ⟨_, rfl⟩
  obtain ⟨M, hM⟩ : ∃ M, b.length = M := ⟨_, rfl⟩
  simp only [hN, hM] at HCA HCB HTH HRE hca hcb ⊢
  have HN := hid hN; have HM := hid hM
  clear hac hbc
  cases hda : isDs a with
  | false =>
    rw [hda] at HCA
    have HC2 : Hid (∀ w', Below w.heap.size w w' → Calls Try.prog 42 #[.slice oa N ca] w' (Ret (.int .i64 140) w')) := HCA.out
    have HD := hid (diffD_bad (a := a) (b := b) (by rw [hda]; rfl))
    clear HCA HCB HTH HRE hda hN hM
    go_enter Try.func61, Try.ntmps61
    go_wp2_with fail
    refine (HC2.out _ (Below.refl _ _)).mono ?_
    rintro e w1 ⟨rfl, hb1⟩
    have HB1 := hid hb1
    clear hb1
    go_wp2_with fail
    go_ret2
    rw [HD.out]
    exact ⟨_, rfl, oO_nil _ _, HB1.out⟩
  | true =>
  rw [hda] at HCA
  have HC2 : Hid (∀ w', Below w.heap.size w w' → Calls Try.prog 42 #[.slice oa N ca] w' (Ret (.int .i64 0) w')) := HCA.out
  have hal := isDs_len hda
  cases hdb : isDs b with
  | false =>
    rw [hdb] at HCB
    have HC3 : Hid (∀ w', Below w.heap.size w w' → Calls Try.prog 42 #[.slice ob M cb] w' (Ret (.int .i64 140) w')) := HCB.out
    have HD := hid (diffD_bad (a := a) (b := b) (by rw [hdb]; simp))
    clear HCA HCB HTH HRE hda hdb hN hM hal
    go_enter Try.func61, Try.ntmps61
    go_wp2_with fail
    refine (HC2.out _ (Below.refl _ _)).mono ?_
    rintro e w1 ⟨rfl, hb1⟩
    have HB1 := hid hb1
    clear hb1
    go_wp2_with fail
    refine (HC3.out _ HB1.out).mono ?_
    rintro e w2 ⟨rfl, hb2⟩
    have HB2 := hid (below_step hb2 HB1.out)
    clear hb2
    go_wp2_with fail
    go_ret2
    rw [HD.out]
    exact ⟨_, rfl, oO_nil _ _, HB2.out⟩
  | true =>
  rw [hdb] at HCB
  have HC3 : Hid (∀ w', Below w.heap.size w w' → Calls Try.prog 42 #[.slice ob M cb] w' (Ret (.int .i64 0) w')) := HCB.out
  have hbl := isDs_len hdb
  have HD := hid (diffD_ok (a := a) (b := b) (by rw [hda, hdb]; rfl))
  have HTH := hid (HTH.out hdb)
  have hN64 : N ≤ 64 := by omega
  have hM64 : M ≤ 64 := by omega
  have HDL := hid (fun k => dels_len (a.take k) b)
  have HUL := hid (fun k => ups_len1 a (b.take k))
  have HDA := hid hda; have HDB := hid hdb
  clear HCA HCB hda hdb hN hM hal hbl
  go_enter Try.func61, Try.ntmps61
  go_wp2_with fail
  refine (HC2.out _ (Below.refl _ _)).mono ?_
  rintro e w1 ⟨rfl, hb1⟩
  have HB1 := hid hb1
  clear hb1
  go_wp2_with fail
  refine (HC3.out _ HB1.out).mono ?_
  rintro e w2 ⟨rfl, hb2⟩
  have HB2 := hid (below_step hb2 HB1.out)
  have HO0 : Hid (OO (w2.alloc (.cells #[] 63)) w.heap.size (.slice (some ⟨w2.heap.size, 0, none⟩) 0 0) (delsD (a.take 0) b)) := (oO_new w2 w.heap.size HB2.out.size)
  have HB2' : Hid (Below w.heap.size w (w2.alloc (.cells #[] 63))) := balloc HB2.out _
  clear hb2
  go_wp2_with fail
  go_loopw [6, 7] (fun u i wr => ∃ k : Nat, i = .int .i64 k ∧ k ≤ N ∧ Hid (OO wr w.heap.size u (delsD (a.take k) b)) ∧ Hid (Below w.heap.size w wr)) (fun _ i _ => N - (intOf i).toNat)
  case atStart => exact ⟨0, rfl, Nat.zero_le _, HO0, HB2'⟩
  case round =>
    obtain ⟨k, rfl, hk, HO, HB⟩ := hrel
    by_cases hlt : k < N
    · obtain ⟨r, hr⟩ : ∃ r, a[k]? = some r := ⟨_, List.getElem?_eq_getElem (by have := HN.out; omega)⟩
      have hHC := HAC.out
      rcases hHC with hq | ⟨b1, off, rfl, hbq, hq⟩
      · rw [hq] at hr; simp at hr
      obtain ⟨c0, c1⟩ := hq k r hr
      have c0 := keepc HB.out c0; have c1 := keepc HB.out c1
      have HSC := hid (dels_succ (b := b) hr)
      have HAT := hid (HTH.out r.1 wr HB.out)
      have hlt64 : (k : Int) < (N : Int) := by omega
      obtain ⟨H, hH⟩ : ∃ H, hasD b r.1 = H := ⟨_, rfl⟩
      rw [hH] at HSC HAT
      clear hq hr hH
      go_wp2_with fail
      refine HAT.out.mono ?_
      rintro e w4 ⟨rfl, hb4⟩
      have HB4 := hid (below_step hb4 HB.out)
      have HO4 := hid (HO.out.below hb4)
      have c0 := keepc hb4 c0
      clear hb4 c1
      cases H with
      | true =>
        have HO5 : Hid (OO w4 w.heap.size u6 (delsD (a.take (k + 1)) b)) := by rw [HSC.out]; simp only [if_true, List.append_nil]; exact HO4.out
        go_wp2_with fail
        go_roundw
        case rel => exact ⟨k + 1, by go_num, by omega, HO5, HB4⟩
        case measure => simp [intOf]; omega
      | false =>
        have HST : Hid (delsD (a.take (k + 1)) b = delsD (a.take k) b ++ [((5 : Int), (0 : Int), r.1, ([] : Bs))]) := by rw [HSC.out]; rfl
        have HCE := hid (cellsO _ _ (((5 : Int), (0 : Int), r.1, ([] : Bs)) : FOp) (cell_new w4 #[.int .i64 5, .int .i64 0, strV r.1, strV []] 63 0 _ rfl) (cell_new w4 #[.int .i64 5, .int .i64 0, strV r.1, strV []] 63 1 _ rfl) (cell_new w4 #[.int .i64 5, .int .i64 0, strV r.1, strV []] 63 2 _ rfl) (cell_new w4 #[.int .i64 5, .int .i64 0, strV r.1, strV []] 63 3 _ rfl))
        have hbx := balloc (Below.refl w4.heap.size w4) (.cells #[.int .i64 5, .int .i64 0, strV r.1, strV []] 63)
        have HO8 := hid (HO4.out.below hbx)
        have HB8 := hid (below_step hbx HB4.out)
        have HZ8 := hid HB8.out.size
        have HLL : Hid ((delsD (a.take k) b).length ≤ 1000000) := by have h1 := HDL.out k; unfold Hid; rw [List.length_take] at h1; have := HN.out; omega
        clear hbx
        go_wp2_with (at_builtin; refine appO rfl _ _ rfl w.heap.size _ (delsD (a.take k) b) (((5 : Int), (0 : Int), r.1, ([] : Bs)) : FOp) _ _ rfl rfl HO8.out HCE.out HLL.out HZ8.out ?_)
        intro v9 w9 hop9 hg9
        have HB9 := hid (HO8.out.grown HB8.out hg9 HZ8.out)
        have HO9 : Hid (OO w9 w.heap.size v9 (delsD (a.take (k + 1)) b)) := by rw [HST.out]; exact hop9
        clear hop9 hg9
        go_wp2_with fail
        go_roundw
        case rel => exact ⟨k + 1, by go_num, by omega, HO9, HB9⟩
        case measure => simp [intOf]; omega
    · have hk2 : k = N := by omega
      have HO1 : Hid (OO wr w.heap.size u6 (delsD a b ++ upsD a (b.take 0))) := by
        have h1 := HO.out
        rw [hk2, List.take_of_length_le (by have := HN.out; omega)] at h1
        rw [List.take_zero]
        show OO _ _ _ (delsD a b ++ [])
        rw [List.append_nil]
        exact h1
      have hge : ¬ (k : Int) < (N : Int) := by omega
      clear hlt hk
      go_wp2_with fail
      go_loopw [6, 8] (fun u i wr => ∃ j : Nat, i = .int .i64 j ∧ j ≤ M ∧ Hid (OO wr w.heap.size u (delsD a b ++ upsD a (b.take j))) ∧ Hid (Below w.heap.size w wr)) (fun _ i _ => M - (intOf i).toNat)
      case atStart => exact ⟨0, rfl, Nat.zero_le _, HO1, HB⟩
      case round =>
        clear HO1 HO HB
        obtain ⟨j, rfl, hj, HO, HB⟩ := hrel
        by_cases hlt2 : j < M
        · obtain ⟨r, hr⟩ : ∃ r, b[j]? = some r := ⟨_, List.getElem?_eq_getElem (by have := HM.out; omega)⟩
          have hHC := HBC.out
          rcases hHC with hq | ⟨b1, off, rfl, hbq, hq⟩
          · rw [hq] at hr; simp at hr
          obtain ⟨c0, c1⟩ := hq j r hr
          have c0 := keepc HB.out c0; have c1 := keepc HB.out c1
          have HSC := hid (ups_succ (a := a) hr)
          have hkey : isKey r.1 = true := rec_key (isDs_rec HDB.out (List.mem_of_getElem? hr))
          have HLL : Hid ((delsD a b ++ upsD a (b.take j)).length ≤ 1000000) := by
            have h1 := HDL.out N
            have h2 := HUL.out j
            rw [List.take_of_length_le (by have := HN.out; omega)] at h1
            rw [List.length_take] at h2
            unfold Hid
            rw [List.length_append]
            have := HN.out; have := HM.out
            omega
          obtain ⟨LL, hLL⟩ : ∃ LL, delsD a b ++ upsD a (b.take j) = LL := ⟨_, rfl⟩
          have HLE := hid hLL
          rw [hLL] at HLL HO
          have HRX := hid (HRE.out r.1 wr HB.out)
          have hlt64 : (j : Int) < (M : Int) := by omega
          have HR0 := hid (fun h => read_none HDA.out hkey h)
          have HR1 := hid (fun s h => read_some (s := s) HDA.out hkey h)
          have HU1 := hid (fun h => up_none (r := r) HDA.out h)
          have HU2 := hid (fun h => up_same (r := r) HDA.out h)
          have HU3 := hid (fun s h h2 => up_other (r := r) (s := s) HDA.out h h2)
          obtain ⟨K, hK⟩ : ∃ K, look a r.1 = K := ⟨_, rfl⟩
          simp only [hK] at HR0 HR1 HU1 HU2 HU3
          clear hLL hq hr hkey hK
          cases K with
          | none =>
            have hrd := HR0.out rfl
            rw [hrd] at HRX
            have HE2 := hid (HU1.out rfl)
            clear hrd HR0 HR1 HU1 HU2 HU3
            go_wp2_with fail
            refine HRX.out.mono ?_
            rintro e w4 ⟨rfl, hb4⟩
            have HB4 := hid (below_step hb4 HB.out)
            have HO4 := hid (HO.out.below hb4)
            have c0 := keepc hb4 c0; have c1 := keepc hb4 c1
            clear hb4
            go_wp2_with fail
            have HST : Hid (delsD a b ++ upsD a (b.take (j + 1)) = LL ++ [((3 : Int), (0 : Int), r.1, r.2)]) := by rw [HSC.out, HE2.out, ← List.append_assoc, HLE.out]; exact hid rfl
            have HCE := hid (cellsO _ _ (((3 : Int), (0 : Int), r.1, r.2) : FOp) (cell_new w4.drew #[.int .i64 3, .int .i64 0, strV r.1, strV r.2] 63 0 _ rfl) (cell_new w4.drew #[.int .i64 3, .int .i64 0, strV r.1, strV r.2] 63 1 _ rfl) (cell_new w4.drew #[.int .i64 3, .int .i64 0, strV r.1, strV r.2] 63 2 _ rfl) (cell_new w4.drew #[.int .i64 3, .int .i64 0, strV r.1, strV r.2] 63 3 _ rfl))
            have hbx : Below w4.heap.size w4 (w4.drew.alloc (.cells #[.int .i64 3, .int .i64 0, strV r.1, strV r.2] 63)) := balloc (drew_below w4) _
            have HO8 := hid (HO4.out.below hbx)
            have HB8 := hid (below_step hbx HB4.out)
            have HZ8 := hid HB8.out.size
            clear hbx
            go_region_law (refine step_appO (by rfl) (.tmp 61) (.tmp 73) (by rfl) w.heap.size u6 LL (((3 : Int), (0 : Int), r.1, r.2) : FOp) w4.heap.size 1 (by simp [Act.eval, Act.put]) (by simp [Act.eval, Act.put]) HO8.out HCE.out HLL.out HZ8.out ?_; intro v9 w9 hop9 hg9 hat9)
            all_goals
              have HB9 := hid (HO8.out.grown HB8.out hg9 HZ8.out)
              have HO9 : Hid (OO w9 w.heap.size v9 (delsD a b ++ upsD a (b.take (j + 1)))) := by rw [HST.out]; exact hop9
              clear hop9 hg9
              go_wp2_with fail
              go_roundw
              case rel => exact ⟨j + 1, by go_num, by omega, HO9, HB9⟩
              case measure => simp [intOf]; omega
          | some s =>
            have hrd := HR1.out s rfl
            rw [hrd] at HRX
            have HU3 := hid (fun h2 => HU3.out s rfl h2)
            have HU2 := hid (fun h2 => HU2.out h2)
            clear hrd HR0 HR1 HU1
            go_wp2_with fail
            refine HRX.out.mono ?_
            rintro e w4 ⟨rfl, hb4⟩
            have HB4 := hid (below_step hb4 HB.out)
            have HO4 := hid (HO.out.below hb4)
            have c0 := keepc hb4 c0; have c1 := keepc hb4 c1
            clear hb4
            by_cases hs : s = r.2
            · have gs : (s == r.2) = true := by simpa using hs
              have gs2 : (s != r.2) = false := by simpa using hs
              have HE2 := hid (HU2.out (by rw [hs]))
              have HO9 : Hid (OO w4 w.heap.size u6 (delsD a b ++ upsD a (b.take (j + 1)))) := by rw [HSC.out, HE2.out, List.append_nil, HLE.out]; exact HO4.out
              clear hs
              go_wp2_with fail
              go_roundw
              case rel => exact ⟨j + 1, by go_num, by omega, HO9, HB4⟩
              case measure => simp [intOf]; omega
            · have gs : (s == r.2) = false := by simpa using hs
              have gs2 : (s != r.2) = true := by simpa using hs
              have HE2 := hid (HU3.out hs)
              clear hs
              go_wp2_with fail
              have HST : Hid (delsD a b ++ upsD a (b.take (j + 1)) = LL ++ [((4 : Int), (0 : Int), r.1, r.2)]) := by rw [HSC.out, HE2.out, ← List.append_assoc, HLE.out]; exact hid rfl
              have HCE := hid (cellsO _ _ (((4 : Int), (0 : Int), r.1, r.2) : FOp) (cell_new w4.drew #[.int .i64 4, .int .i64 0, strV r.1, strV r.2] 63 0 _ rfl) (cell_new w4.drew #[.int .i64 4, .int .i64 0, strV r.1, strV r.2] 63 1 _ rfl) (cell_new w4.drew #[.int .i64 4, .int .i64 0, strV r.1, strV r.2] 63 2 _ rfl) (cell_new w4.drew #[.int .i64 4, .int .i64 0, strV r.1, strV r.2] 63 3 _ rfl))
              have hbx : Below w4.heap.size w4 (w4.drew.alloc (.cells #[.int .i64 4, .int .i64 0, strV r.1, strV r.2] 63)) := balloc (drew_below w4) _
              have HO8 := hid (HO4.out.below hbx)
              have HB8 := hid (below_step hbx HB4.out)
              have HZ8 := hid HB8.out.size
              clear hbx
              go_region_law (refine step_appO (by rfl) (.tmp 82) (.tmp 94) (by rfl) w.heap.size u6 LL (((4 : Int), (0 : Int), r.1, r.2) : FOp) w4.heap.size 1 (by simp [Act.eval, Act.put]) (by simp [Act.eval, Act.put]) HO8.out HCE.out HLL.out HZ8.out ?_; intro v9 w9 hop9 hg9 hat9)
              all_goals
                have HB9 := hid (HO8.out.grown HB8.out hg9 HZ8.out)
                have HO9 : Hid (OO w9 w.heap.size v9 (delsD a b ++ upsD a (b.take (j + 1)))) := by rw [HST.out]; exact hop9
                clear hop9 hg9
                go_wp2_with fail
                go_roundw
                case rel => exact ⟨j + 1, by go_num, by omega, HO9, HB9⟩
                case measure => simp [intOf]; omega
        · have hj2 : j = M := by omega
          have HOF : Hid (OO wr w.heap.size u6 (delsD a b ++ upsD a b)) := by
            have h1 := HO.out
            rw [hj2, List.take_of_length_le (by have := HM.out; omega)] at h1
            exact h1
          go_wp2_with fail
          go_ret2
          rw [HD.out]
          exact ⟨_, rfl, HOF.out, HB.out⟩
end Go.Proofs.Ytifcgimpgbeocaa
