/- The law FilesCoded, walked. -/
import Derived.Test.YtifcgimpgbeocaaMC5
set_option linter.unusedVariables false
set_option linter.unusedSimpArgs false
namespace Go.Proofs.Ytifcgimpgbeocaa
open Go.RowKit
attribute [local go_sem] Oper.semAt_some
theorem encodeD_zero {l : List FOp} (h : (encodeD l).2 = 0) : (encodeD l).1 = encL l ∧ l.all chg = true ∧ (encL l).length ≤ 131072 := by
  unfold encodeD at *
  split at h
  · rename_i ha
    rw [if_pos ha]
    split at h
    · rename_i hb
      rw [if_pos hb]
      exact ⟨rfl, ha, hb⟩
    · simp at h
  · simp at h
theorem decodeD_zero {s : Bs} (h : (decodeD s).2 = 0) : s.length ≤ 131072 ∧ decL s = some (decodeD s).1 := by
  unfold decodeD at *
  split at h
  · rename_i ha
    rw [if_pos ha]
    cases hd : decL s with
    | none => rw [hd] at h; simp at h
    | some l => exact ⟨ha, rfl⟩
  · simp at h
theorem decodeD_err {s : Bs} (h : (decodeD s).2 ≠ 0) : (decodeD s).1 = [] := by
  unfold decodeD at *
  split at h
  · rename_i ha
    rw [if_pos ha]
    cases hd : decL s with
    | none => rfl
    | some l => rw [hd] at h; simp at h
  · rename_i ha
    rw [if_neg ha]
theorem all_chg {l : List FOp} (h : l.all chg = true) : ∀ o ∈ l, chg o = true := List.all_eq_true.1 h
/-- Decode of Encode. -/
theorem code_back {l : List FOp} (h : (encodeD l).2 = 0) : decodeD (encodeD l).1 = (l, 0) := by
  obtain ⟨h1, h2, h3⟩ := encodeD_zero h
  rw [h1]
  exact decodeD_yes h3 (decL_enc (all_chg h2))
/-- Encode of Decode. -/
theorem back_code {s : Bs} (h : (decodeD s).2 = 0) : encodeD (decodeD s).1 = (s, 0) := by
  obtain ⟨h1, h2⟩ := decodeD_zero h
  obtain ⟨h3, h4⟩ := enc_decL _ s _ (Nat.le_refl _) h2
  have := encodeD_ok (l := (decodeD s).1) (List.all_eq_true.2 h4) (by rw [h3]; exact h1)
  rw [this, h3]
theorem code_front {l : List FOp} {k : Nat} (h : (encodeD l).2 = 0) (h2 : (decodeD ((encodeD l).1.take k)).2 = 0) : (decodeD ((encodeD l).1.take k)).1 = l.take (decodeD ((encodeD l).1.take k)).1.length := by
  obtain ⟨h1, h3, h4⟩ := encodeD_zero h
  obtain ⟨h5, h6⟩ := decodeD_zero h2
  obtain ⟨h7, h8⟩ := enc_decL _ _ _ (Nat.le_refl _) h6
  refine dec_front _ l ((encodeD l).1.drop k) h8 (all_chg h3) ?_
  rw [h7, List.take_append_drop, h1]
theorem RdO.take {w : World} {o : Option Addr} {n cap : Nat} {l : List FOp} (h : RdO w (.slice o n cap) l) (k : Nat) (hk : k ≤ l.length) : RdO w (.slice o k cap) (l.take k) := by
  obtain ⟨o', cap', e, hc, h⟩ := h
  simp only [Value.slice.injEq] at e
  obtain ⟨rfl, rfl, rfl⟩ := e
  have hlen : (l.take k).length = k := by rw [List.length_take]; omega
  refine ⟨o, cap, by rw [hlen], by rw [hlen]; omega, ?_⟩
  rcases h with h | ⟨b, off, e1, e2, h⟩
  · exact .inl (by rw [h]; exact List.take_nil)
  · refine .inr ⟨b, off, e1, e2, fun i x hi => h i x ?_⟩
    rw [List.getElem?_take] at hi
    split at hi
    · exact hi
    · cases hi
/-- int(uint(n) % uint(L+1)). -/
theorem uidx (n : Int) (L : Nat) (hL : L ≤ 1000000000) : ∃ K : Nat, K ≤ L ∧ IntKind.i64.wrap ((L : Int) + 1) = (L : Int) + 1 ∧ IntKind.u64.wrap ((L : Int) + 1) = (L : Int) + 1 ∧ IntKind.i64.wrap ((IntKind.u64.wrap n).tmod ((L : Int) + 1)) = (K : Int) := by
  have h1 : 0 ≤ IntKind.u64.wrap n := by rw [IntKind.wrap_u64]; omega
  have h2 := Int.tmod_eq_emod_of_nonneg (b := (L : Int) + 1) h1
  have h3 := Int.emod_nonneg (IntKind.u64.wrap n) (b := (L : Int) + 1) (by omega)
  have h4 := Int.emod_lt_of_pos (IntKind.u64.wrap n) (b := (L : Int) + 1) (by omega)
  refine ⟨(IntKind.u64.wrap n % ((L : Int) + 1)).toNat, by omega, IntWalk.i64_in _ ⟨by omega, by omega⟩, by rw [IntKind.wrap_u64]; omega, ?_⟩
  rw [h2, IntWalk.i64_in _ ⟨by omega, by omega⟩]
  omega
set_option maxHeartbeats 4000000 in
set_option maxRecDepth 100000 in
theorem coded_law (l : List FOp) (v : Value) (s : Bs) (n : Int) (w : World) (hR : RdO w v l) (hl : l.length ≤ 1000000) (hs : s.length ≤ maxLen) : Calls Try.prog 8 #[v, strV s, .int .i64 n] w (Ret (.bool true) w) := by
  have HS := hid (fun w' => sane_any w')
  have H1 := hid (fun w' (hb : Below w.heap.size w w') => encode2_any l v w' (hR.below hb) hl)
  have HRD := hid hR
  have HLL := hid hl
  have HDC := hid (fun (q : Bs) w' => decode_any q w')
  have HEN := hid (fun (c : List FOp) u w' (h : RdO w' u c) (hc : c.length ≤ 1000000) => encode2_any c u w' h hc)
  have HBK := hid (fun h => code_back (l := l) h)
  have HFR := hid (fun k h h2 => code_front (l := l) (k := k) h h2)
  have HEZ := hid (fun h => encodeD_zero (l := l) h)
  obtain ⟨o, cap, hv, -, -⟩ := id hR
  obtain ⟨N, hN⟩ : ∃ N, l.length = N := ⟨_, rfl⟩
  rw [hN] at hv
  have HN := hid hN
  subst hv
  clear hR hl hN
  obtain ⟨E, hE⟩ : ∃ E, encodeD l = E := ⟨_, rfl⟩
  simp only [hE] at H1 HBK HFR HEZ
  obtain ⟨A, ea⟩ := E
  simp only at H1 HBK HFR HEZ
  clear hE
  go_enter Try.func8, Try.ntmps8
  go_wp2_with fail
  refine (HS.out _).mono ?_
  rintro e w1 ⟨rfl, hb⟩
  have HB1 := hid (below_step hb (Below.refl _ _))
  clear hb
  go_wp2_with fail
  refine (H1.out _ HB1.out).mono ?_
  rintro e w2 ⟨rfl, hb⟩
  have HB2 := hid (below_step hb HB1.out)
  clear hb H1 HS
  go_upto_if 26 with (fail)
  go_cut [8] (fun x8 wx => Hid (Below w.heap.size w wx))
  case first =>
    by_cases hea : ea = 0
    rotate_left
    · have ge : (ea == 0) = false := by simpa using hea
      go_wp2_with fail
      go_meet
      case rel => exact HB2
    have ge : (ea == 0) = true := by simpa using hea
    have HBK := hid (HBK.out hea)
    have HEZ := hid (HEZ.out hea)
    have HFR := hid (fun k => HFR.out k hea)
    have HD1 := hid (fun w' => HDC.out A w')
    rw [HBK.out] at HD1
    clear hea
    go_wp2_with fail
    refine (HD1.out _).mono ?_
    rintro e w3 ⟨v3, rfl, ho3, hb⟩
    have HB3 := hid (below_step hb HB2.out)
    have HSM := hid (rsameops_any l l _ _ w3 ho3.rd (HRD.out.below HB3.out) (by have := HLL.out; unfold maxLen; omega))
    obtain ⟨o3, c3, rfl, -, -⟩ := ho3.rd
    rw [HN.out] at HSM
    simp only [HN.out]
    clear hb ho3
    go_wp2_with fail
    refine HSM.out.mono ?_
    rintro e w4 ⟨rfl, hb⟩
    have HB4 := hid (below_step hb HB3.out)
    clear hb HSM HD1
    have hAl : A.length ≤ 131072 := by rw [HEZ.out.1]; exact HEZ.out.2.2
    obtain ⟨K, hK, a1, a2, a3⟩ := uidx n A.length (by omega)
    have hne : ¬ ((A.length : Int) + 1 = 0) := by omega
    have hneb : ((A.length : Int) + 1 == 0) = false := by rw [beq_eq_false_iff_ne]; exact hne
    have hKA : (K : Int) ≤ (A.length : Int) := by omega
    have HEX := ext_take' A K
    have HAL := hid hAl
    have HD2 := hid (fun w' => HDC.out (A.take K) w')
    have HFK := hid (HFR.out K)
    have HBC := hid (fun h => back_code (s := A.take K) h)
    have HTL := hid (show (A.take K).length ≤ 131072 by rw [List.length_take]; omega)
    obtain ⟨Fr, hFr⟩ : ∃ Fr, A.take K = Fr := ⟨_, rfl⟩
    rw [hFr] at HEX HD2 HFK HBC HTL
    have HDZ := hid (fun h => decodeD_zero (s := Fr) h)
    obtain ⟨D, hD⟩ : ∃ D, decodeD Fr = D := ⟨_, rfl⟩
    simp only [hD] at HD2 HFK HBC HDZ
    obtain ⟨c, ec⟩ := D
    simp only at HD2 HFK HBC HDZ
    clear hFr hD hAl hK
    go_wp2_with fail
    refine (HD2.out _).mono ?_
    rintro e w5 ⟨v5, rfl, ho5, hb⟩
    have HB5 := hid (below_step hb HB4.out)
    have HR5 := hid ho5.rd
    obtain ⟨o5, c5, rfl, -, -⟩ := ho5.rd
    clear hb ho5 HD2 a1 a2 a3 hne hneb hKA HEX
    go_upto_if 56 with (fail)
    by_cases hec : ec = 0
    rotate_left
    · have gc : (ec == 0) = false := by simpa using hec
      go_wp2_with fail
      go_meet
      case rel => exact HB5
    have gc : (ec == 0) = true := by simpa using hec
    have HFK := hid (HFK.out hec)
    have HBC := hid (HBC.out hec)
    have hcl : c.length ≤ 131072 := by have := decL_count (HDZ.out hec).2; have := HTL.out; omega
    have HEC := hid (fun w' (hb : Below w5.heap.size w5 w') => HEN.out c _ w' (HR5.out.below hb) (by omega))
    rw [HBC.out] at HEC
    have hcN : c.length ≤ N := by
      have h1 := congrArg List.length HFK.out
      rw [List.length_take, HN.out] at h1
      omega
    have HTK := hid (fun w' (hb : Below w5.heap.size w5 w') => (HRD.out.below HB5.out).below hb)
    have HSM := hid (fun w' (hb : Below w5.heap.size w5 w') => rsameops_any c (l.take c.length) _ _ w' (HR5.out.below hb) (RdO.take (HTK.out w' hb) c.length (by rw [HN.out]; exact hcN)) (by unfold maxLen; omega))
    have hsame : decide (c = l.take c.length) = true := by rw [← HFK.out]; simp
    rw [hsame] at HSM
    obtain ⟨CL, hCL⟩ : ∃ CL, c.length = CL := ⟨_, rfl⟩
    rw [hCL] at hcN hcl
    simp only [hCL] at HSM HEC ⊢
    have hcN64 : (CL : Int) ≤ (N : Int) := by omega
    have hcN65 : ¬ (N : Int) < (CL : Int) := by omega
    have hcap : (N : Int) ≤ (cap : Int) := by obtain ⟨o', cap', e, hc, -⟩ := HRD.out; simp only [Value.slice.injEq] at e; obtain ⟨rfl, -, rfl⟩ := e; have := HN.out; omega
    clear hec hsame HFK HDZ hCL HFR HEZ
    go_wp2_with fail
    refine (HEC.out _ (Below.refl _ _)).mono ?_
    rintro e w6 ⟨rfl, hb⟩
    have HB6 := hid (below_step hb HB5.out)
    have HBL6 : Hid (Below w5.heap.size w5 w6) := below_step hb (Below.refl _ _)
    clear hb
    go_wp2_with fail
    refine (HSM.out _ HBL6.out).mono ?_
    rintro e w7 ⟨rfl, hb⟩
    have HB7 := hid (below_step hb HB6.out)
    clear hb
    go_wp2_with fail
    go_meet
    case rel => exact HB7
  case rest =>
    have HBc := hcut
    clear hcut HBK HFR HEZ
    have HD9 := hid (fun w' => HDC.out s w')
    have HBS := hid (fun h => back_code (s := s) h)
    have HER := hid (fun h => decodeD_err (s := s) h)
    have HDZ := hid (fun h => decodeD_zero (s := s) h)
    obtain ⟨D, hD⟩ : ∃ D, decodeD s = D := ⟨_, rfl⟩
    simp only [hD] at HD9 HBS HER HDZ
    obtain ⟨c, ec⟩ := D
    simp only at HD9 HBS HER HDZ
    clear hD
    go_wp2_with fail
    refine (HD9.out _).mono ?_
    rintro e w5 ⟨v5, rfl, ho5, hb⟩
    have HB5 := hid (below_step hb HBc.out)
    have HR5 := hid ho5.rd
    obtain ⟨o5, c5, rfl, -, -⟩ := ho5.rd
    clear hb ho5
    by_cases hec : ec = 0
    · have gc : (ec != 0) = false := by simpa using hec
      have HBS := hid (HBS.out hec)
      have hcl : c.length ≤ 1000000 := by have h1 := HDZ.out hec; have := decL_count h1.2; omega
      have HEC := hid (HEN.out c _ w5 HR5.out hcl)
      rw [HBS.out] at HEC
      clear hec
      go_wp2_with fail
      refine HEC.out.mono ?_
      rintro e w6 ⟨rfl, hb⟩
      have HB6 := hid (below_step hb HB5.out)
      clear hb
      go_wp2_with fail
      go_ret
      exact ⟨rfl, HB6.out⟩
    · have gc : (ec != 0) = true := by simpa using hec
      have hc0 : c = [] := HER.out hec
      subst hc0
      go_wp2_with fail
      go_ret
      exact ⟨rfl, HB5.out⟩
end Go.Proofs.Ytifcgimpgbeocaa
