/- The law FilesDiffers, walked. -/
import Derived.Test.YtifcgimpgbeocaaK27
import Derived.Test.YtifcgimpgbeocaaMA45
import Derived.Test.YtifcgimpgbeocaaK26
import Derived.Test.YtifcgimpgbeocaaMB17
import Derived.Test.YtifcgimpgbeocaaMC7
set_option linter.unusedVariables false
set_option linter.unusedSimpArgs false
namespace Go.Proofs.Ytifcgimpgbeocaa
open Go.RowKit
attribute [local go_sem] Oper.semAt_some
theorem runD_step {d b : Ds} {ops : List FOp} {k : Nat} {o : FOp} (h : runD d (ops.drop k) = some b) (ho : ops[k]? = some o) : (applyD d o).2.2 = 0 ∧ runD (applyD d o).1 (ops.drop (k + 1)) = some b := by
  obtain ⟨hk, rfl⟩ := List.getElem?_eq_some_iff.1 ho
  rw [List.drop_eq_getElem_cons hk] at h
  simp only [runD] at h
  split at h
  · rename_i h0
    exact ⟨h0, h⟩
  · simp at h
set_option maxHeartbeats 4000000 in
set_option maxRecDepth 100000 in
theorem differs_law (a b : Ds) (va vb : Value) (w : World) (hA : RdR w va a) (hB : RdR w vb b) : Calls Try.prog 13 #[va, vb] w (Ret (.bool true) w) := by
  have HS := hid (fun w' => sane_any w')
  have HCA := hid (fun w' (hb : Below w.heap.size w w') => rcheck_any a va w' (hA.below hb))
  have HCB := hid (fun w' (hb : Below w.heap.size w w') => rcheck_any b vb w' (hB.below hb))
  have H1 := hid (fun w' (hb : Below w.heap.size w w') => diff_any a b va vb w' (hA.below hb) (hB.below hb))
  have H2 := hid (fun w' (hb : Below w.heap.size w w') => differ_any a b va vb w' (hA.below hb) (hB.below hb))
  have HSM := hid (fun (hl : b.length ≤ maxLen) u w' (h : RdR w' u b) (hb : Below w.heap.size w w') => rsame_any b b u vb w' h (hB.below hb) hl)
  have HA0 := hid hA
  obtain ⟨oa, ca, rfl, -, -⟩ := hA
  obtain ⟨ob, cb, rfl, -, -⟩ := hB
  cases hda : isDs a with
  | false =>
    rw [hda] at HCA
    have HC2 : Hid (∀ w', Below w.heap.size w w' → Calls Try.prog 42 #[.slice oa a.length ca] w' (Ret (.int .i64 140) w')) := HCA.out
    have HD := hid (diffD_bad (a := a) (b := b) (by rw [hda]; rfl))
    rw [HD.out] at H1
    generalize a.length = N at *
    generalize b.length = M at *
    clear HCA HCB H2 HSM HA0 HD hda
    go_enter Try.func13, Try.ntmps13
    go_wp2_with fail
    refine (HS.out _).mono ?_
    rintro e w1 ⟨rfl, hb⟩
    have HB1 := hid (below_step hb (Below.refl _ _))
    clear hb
    go_wp2_with fail
    refine (HC2.out _ HB1.out).mono ?_
    rintro e w2 ⟨rfl, hb⟩
    have HB2 := hid (below_step hb HB1.out)
    clear hb
    go_wp2_with fail
    refine (H1.out _ HB2.out).mono ?_
    rintro e w3 ⟨v3, rfl, ho, hb⟩
    obtain ⟨o3, c3, rfl, -, -⟩ := ho.rd
    have HB3 := hid (below_step hb HB2.out)
    clear hb ho
    go_wp2_with fail
    go_ret
    exact ⟨rfl, HB3.out⟩
  | true =>
  rw [hda] at HCA
  have HC2 : Hid (∀ w', Below w.heap.size w w' → Calls Try.prog 42 #[.slice oa a.length ca] w' (Ret (.int .i64 0) w')) := HCA.out
  cases hdb : isDs b with
  | false =>
    rw [hdb] at HCB
    have HC3 : Hid (∀ w', Below w.heap.size w w' → Calls Try.prog 42 #[.slice ob b.length cb] w' (Ret (.int .i64 140) w')) := HCB.out
    have HD := hid (diffD_bad (a := a) (b := b) (by rw [hdb]; simp))
    rw [HD.out] at H1
    generalize a.length = N at *
    generalize b.length = M at *
    clear HCA HCB H2 HSM HA0 HD hda hdb
    go_enter Try.func13, Try.ntmps13
    go_wp2_with fail
    refine (HS.out _).mono ?_
    rintro e w1 ⟨rfl, hb⟩
    have HB1 := hid (below_step hb (Below.refl _ _))
    clear hb
    go_wp2_with fail
    refine (HC2.out _ HB1.out).mono ?_
    rintro e w2 ⟨rfl, hb⟩
    have HB2 := hid (below_step hb HB1.out)
    clear hb
    go_wp2_with fail
    refine (HC3.out _ HB2.out).mono ?_
    rintro e w2b ⟨rfl, hb⟩
    have HB2 := hid (below_step hb HB2.out)
    clear hb
    go_wp2_with fail
    refine (H1.out _ HB2.out).mono ?_
    rintro e w3 ⟨v3, rfl, ho, hb⟩
    obtain ⟨o3, c3, rfl, -, -⟩ := ho.rd
    have HB3 := hid (below_step hb HB2.out)
    clear hb ho
    go_wp2_with fail
    go_ret
    exact ⟨rfl, HB3.out⟩
  | true =>
  rw [hdb] at HCB
  have HC3 : Hid (∀ w', Below w.heap.size w w' → Calls Try.prog 42 #[.slice ob b.length cb] w' (Ret (.int .i64 0) w')) := HCB.out
  have HD := hid (diffD_ok (a := a) (b := b) (by rw [hda, hdb]; rfl))
  rw [HD.out] at H1
  have HL := hid (diff_len hda hdb)
  have H3 := hid (H2.out · · hda hdb)
  have HLE : (delsD a b ++ upsD a b).length ≤ 128 := by have h := diffD_len a b; rw [HD.out] at h; exact h
  have HRU := hid (run_diff hda hdb)
  have HSM2 := hid (HSM.out (by have := isDs_len hdb; unfold maxLen; omega))
  rw [← HL.out] at H3
  generalize delsD a b ++ upsD a b = ops at *
  obtain ⟨n, hn⟩ : ∃ n, ops.length = n := ⟨_, rfl⟩
  have HN := hid hn
  simp only [hn] at H3 HLE
  obtain ⟨N, hNa⟩ : ∃ N, a.length = N := ⟨_, rfl⟩
  obtain ⟨M, hMb⟩ : ∃ M, b.length = M := ⟨_, rfl⟩
  simp only [hNa, hMb] at H1 H3 HC2 HC3 HSM2 HA0 ⊢
  have HNa := hid hNa
  clear HCA HCB H2 HSM hda hdb HD HL hn hNa hMb
  go_enter Try.func13, Try.ntmps13
  go_wp2_with fail
  refine (HS.out _).mono ?_
  rintro e w1 ⟨rfl, hb⟩
  have HB1 := hid (below_step hb (Below.refl _ _))
  clear hb
  go_wp2_with fail
  refine (HC2.out _ HB1.out).mono ?_
  rintro e w2 ⟨rfl, hb⟩
  have HB2 := hid (below_step hb HB1.out)
  clear hb
  go_wp2_with fail
  refine (HC3.out _ HB2.out).mono ?_
  rintro e w2b ⟨rfl, hb⟩
  have HB2 := hid (below_step hb HB2.out)
  clear hb
  go_wp2_with fail
  refine (H1.out _ HB2.out).mono ?_
  rintro e w3 ⟨v3, rfl, ho, hb⟩
  obtain ⟨o3, c3, rfl, hc3, HO3⟩ := ho.rd
  rw [HN.out] at hc3 ⊢
  have HO3 := hid HO3
  have HB3 := hid (below_step hb HB2.out)
  clear hb ho
  go_wp2_with fail
  refine (H3.out _ HB3.out).mono ?_
  rintro e w4 ⟨rfl, hb4⟩
  have HB4 := hid (below_step hb4 HB3.out)
  have HK4 := hid hb4
  clear hb4
  go_wp2_with fail
  go_loopw [9, 52] (fun u i wr => ∃ k D c o, i = .int .i64 (k : Nat) ∧ k ≤ n ∧ u = .slice o (List.length D) c ∧ Hid (RdR wr u D) ∧ Hid (runD D (ops.drop k) = some b) ∧ Hid (Below w3.heap.size w3 wr)) (fun _ i _ => n - (intOf i).toNat)
  case atStart => exact ⟨0, a, ca, oa, rfl, Nat.zero_le _, by rw [HNa.out], HA0.out.below HB4.out, HRU, HK4⟩
  case round =>
    obtain ⟨k, D, cD, oD, rfl, hk, rfl, HR, HRN, HB⟩ := hrel
    clear HA0 HRU
    have HBW := hid (below_step HB.out HB3.out)
    by_cases hlt : k < n
    · obtain ⟨⟨o1, o2, o3', o4⟩, hr⟩ : ∃ r, ops[k]? = some r := ⟨_, List.getElem?_eq_getElem (by have := HN.out; omega)⟩
      have hHC := HO3.out
      rcases hHC with hq | ⟨b1, off, rfl, hbq, hq⟩
      · rw [hq] at hr; simp at hr
      obtain ⟨c0, c1, c2, c3⟩ := hq k _ hr
      have c0 := keepc HB.out c0; have c1 := keepc HB.out c1; have c2 := keepc HB.out c2; have c3 := keepc HB.out c3
      have HZR := hid (runD_step HRN.out hr)
      have HAP := hid (fun w' (hb : Below wr.heap.size wr w') => apply_any D _ (o1, o2, o3', o4) w' (HR.out.below hb))
      obtain ⟨w5, hw5⟩ : ∃ w5, w5 = wr.alloc (.cells #[.int .i64 o1, .int .i64 o2, strV o3', strV o4] 63) := ⟨_, rfl⟩
      have hb5 : Below wr.heap.size wr w5 := by rw [hw5]; exact balloc (Below.refl _ _) _
      have HB5 := hid hb5
      have HT5 := hid (below_step hb5 HBW.out)
      have x0 : w5.cell? ⟨wr.heap.size, 0, none⟩ = some (.int .i64 o1) := by rw [hw5]; exact cell_new _ _ _ 0 _ rfl
      have x1 : w5.cell? ⟨wr.heap.size, 1, none⟩ = some (.int .i64 o2) := by rw [hw5]; exact cell_new _ _ _ 1 _ rfl
      have x2 : w5.cell? ⟨wr.heap.size, 2, none⟩ = some (strV o3') := by rw [hw5]; exact cell_new _ _ _ 2 _ rfl
      have x3 : w5.cell? ⟨wr.heap.size, 3, none⟩ = some (strV o4) := by rw [hw5]; exact cell_new _ _ _ 3 _ rfl
      have HW5 := hid hw5
      have hlt64 : (k : Int) < (n : Int) := by omega
      clear hw5 hb5 hq hr hbq
      go_upto_region 13 with fail
      have e := HW5.out
      rw [← e]
      clear e HW5 c0 c1 c2 c3
      generalize hDl : D.length = ND at *
      go_wp2_with fail
      refine (HAP.out _ HB5.out).mono ?_
      rintro e w6 ⟨v6, rfl, ho6, hb6⟩
      obtain ⟨R6, hR6⟩ : ∃ R6, applyD D (o1, o2, o3', o4) = R6 := ⟨_, rfl⟩
      rw [hR6] at ho6 HZR
      simp only [hR6]
      obtain ⟨D6, r6, e6⟩ := R6
      have HRN6 := hid HZR.out.2
      obtain ⟨rfl, -⟩ := HZR.out
      simp only at ho6 HRN6
      have HO6 := hid ho6
      obtain ⟨o6, c6, rfl, -, -⟩ := ho6.rd
      have HT6 := hid (below_step hb6 HT5.out)
      obtain ⟨w7, hw7⟩ : ∃ w7, w7 = w6.alloc (.cells #[strV r6.1, strV r6.2] 59) := ⟨_, rfl⟩
      have hba : Below w6.heap.size w6 w7 := by rw [hw7]; exact balloc (Below.refl _ _) _
      have HT7 := hid (below_step hba HT6.out)
      have HR7 := hid (HO6.out.below hba).rd
      have HK7 := hid (below_step hba (below_step hb6 (below_step HB5.out HB.out)))
      have HW7 := hid hw7
      clear hw7 hba hb6 ho6 HO6 x0 x1 x2 x3 hR6 HZR
      go_upto_region 14 with fail
      have e := HW7.out
      rw [← e]
      clear e HW7
      go_wp2_with fail
      go_roundw
      case rel => exact ⟨k + 1, D6, c6, o6, by go_num, by omega, rfl, HR7, HRN6, HK7⟩
      case measure => simp [intOf]; omega
    · have hk2 : k = n := by omega
      have hge : ¬ (k : Int) < (n : Int) := by omega
      have hrun := HRN.out
      rw [hk2, List.drop_of_length_le (by rw [HN.out]; exact Nat.le_refl _)] at hrun
      simp only [runD, Option.some.injEq] at hrun
      subst hrun
      have HSM3 := hid (HSM2.out _ _ HR.out HBW.out)
      clear hk2 HRN
      generalize hDl : D.length = ND at *
      go_wp2_with fail
      refine HSM3.out.mono ?_
      rintro e w7 ⟨rfl, hb7⟩
      have HT7 := hid (below_step hb7 HBW.out)
      clear hb7
      simp only [decide_true]
      go_wp2_with fail
      go_ret
      exact ⟨rfl, HT7.out⟩
end Go.Proofs.Ytifcgimpgbeocaa
