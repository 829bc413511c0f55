/- Store.lay. -/
import Derived.Test.YtifcgimpgbeocaaGreatK14
import Derived.Test.YtifcgimpgbeocaaGreatK9
import Derived.Test.YtifcgimpgbeocaaGreatK11
set_option linter.unusedVariables false
set_option linter.unusedSimpArgs false
namespace Go.Proofs.YtifcgimpgbeocaaGreat
open Go.RowKit
attribute [local go_sem] Oper.semAt_some
theorem ext_mid (s : Bs) (a b : Nat) (h : b ≤ s.length) : (⟨s.toArray⟩ : ByteArray).extract a b = ⟨((s.drop a).take (b - a)).toArray⟩ := by
  apply ByteArray.ext
  rw [ByteArray.data_extract]
  simp
set_option maxHeartbeats 2000000 in
set_option maxRecDepth 100000 in
theorem slay_any (w0 : World) (U0 : Nat → Prop) (S D : Nat) (vw vd vk : Value) (us ks : List Value) (st : St) (lg fr : Nat) (s : Bs) (w : World) (h : SD w0 U0 S D vw vd vk us ks st w) (hd : isDk st.dk = true) (hlg : lg ≤ 1) (hfr : fr ≤ s.length) (hs : s.length ≤ 64 * halfN st.dk.1.length)
    (hl : st.dk.2.length ≤ 900000) (ha : st.acts.length ≤ 900000) :
    Calls Tryz.prog 61 #[.pointer (some ⟨S, 0, none⟩), .int .i64 (lg : Int), .int .i64 (fr : Int), strV s] w (fun e w' => e = .returned (.tuple #[]) ∧ SD w0 U0 S D vw vd vk us ks (actsSt st (layAcs st.dk.1.length lg fr s)) w') := by
  have hdl := isDk_len hd
  have hhb : halfN st.dk.1.length ≤ 2047 := by unfold halfN; omega
  have HNN := hid hdl
  obtain ⟨N, hN⟩ : ∃ N, st.dk.1.length = N := ⟨_, rfl⟩
  obtain ⟨m, hm⟩ : ∃ m, pgs s.length = m := ⟨_, rfl⟩
  obtain ⟨q, hq⟩ : ∃ q, fr / 64 = q := ⟨_, rfl⟩
  have hmv : m = (s.length + 63) / 64 := hm.symm
  have hqm : q ≤ m := by omega
  have hm2 : m ≤ 2047 := by rw [hN] at hs hhb; omega
  obtain ⟨K, hK⟩ : ∃ K, m - q = K := ⟨_, rfl⟩
  let stK : Nat → St := fun k => actsSt st (((layW N lg fr s).take k).map wrA)
  have HST : Hid (∀ k, k < K → stK (k + 1) = actSt (stK k) (layAt N lg fr s (q + k))) := fun k hk => by
    show actsSt st _ = _
    rw [layW_take _ _ _ _ _ (by rw [hm, hq]; omega), actsSt_snoc, hq]
  have HAL : Hid (∀ k a, a ∈ ((layW N lg fr s).take k).map wrA → ∀ e : Dk, e.1.length = st.dk.1.length → isAct e a = true) := fun k a haa e he => by
    obtain ⟨x, hx, rfl⟩ := List.mem_map.1 haa
    obtain ⟨j, hj⟩ := List.getElem?_of_mem (List.mem_of_mem_take hx)
    obtain ⟨h1, rfl⟩ := layW_get hj
    rw [hm, hq] at h1
    exact isAct_wr (fr := fr) (by omega) hlg (by rw [hm, hq]; omega) (by rw [← hN]; exact hs) (by rw [he, hN])
  have HDK : Hid (∀ k, isDk (stK k).dk = true) := fun k => fold_dk _ _ hd (HAL.out k)
  have HLE : Hid (∀ k, k ≤ K → (stK k).dk.1.length = N ∧ (stK k).dk.2.length ≤ 1000000 ∧ (stK k).acts.length ≤ 1000000) := fun k hk => by
    have h1 := fold_wait (((layW N lg fr s).take k).map wrA) st.dk
    have h2 : (((layW N lg fr s).take k).map wrA).length ≤ k := by simp; omega
    refine ⟨by show (List.foldl actDk st.dk _).1.length = N; rw [fold_len, hN], ?_, ?_⟩
    · show (List.foldl actDk st.dk _).2.length ≤ _; omega
    · show (st.acts ++ _).length ≤ _; rw [List.length_append]; omega
  have HEN : Hid (actsSt st (layAcs N lg fr s) = actSt (stK K) syncA) := by
    have : (layW N lg fr s).take K = layW N lg fr s := List.take_of_length_le (by rw [layW_len, hm, hq]; omega)
    show _ = actSt (actsSt st _) _
    rw [← actsSt_snoc, this]; rfl
  have HS0 : Hid (SD w0 U0 S D vw vd vk us ks (stK 0) w) := by show SD _ _ _ _ _ _ _ _ _ (actsSt st _) _; rw [List.take_zero, List.map_nil, actsSt_nil]; exact h
  have HF : Hid (∀ op cp oq Q cq w', Calls Tryz.prog 83 #[.agg #[.slice op N cp, .slice oq Q cq], .int .i64 (lg : Int)] w' (Ret (.int .i64 (firstPg N lg)) w')) := fun op cp oq Q cq w' => first_any op N cp oq Q cq lg w' (by omega) (by omega) hlg
  have HPG : Hid (∀ k, k < K → layAt N lg fr s (q + k) = (false, ((firstPg N lg + (q + k) : Nat) : Int), ((pad s).drop ((q + k) * 64)).take 64)) := fun k hk => rfl
  have HFL : Hid (firstPg N lg ≤ 10000) := by
    have : lg = 0 ∨ lg = 1 := by omega
    unfold Hid firstPg
    rw [hN] at hhb
    rcases this with rfl | rfl <;> omega
  have HPL : Hid ((pad s).length = m * 64) := by rw [← hm]; exact pad_len s
  have HPE : Hid (pad s = s ++ zs (m * 64 - s.length)) := by rw [← hm]; rfl
  have HZ := hid (fun w' => srep_any (m * 64 - s.length) w' (by omega))
  rw [hN] at hs ⊢
  rw [HEN.out]
  clear HEN
  have HSP := hid (fun k hk a w' (hw' : SD w0 U0 S D vw vd vk us ks (stK k) w') => sput_any a hw' (HDK.out k) (HLE.out k hk).2.1 (HLE.out k hk).2.2)
  have HL1 := hid (fun k hk => (HLE.out k hk).1)
  obtain ⟨F, hF⟩ : ∃ F, firstPg N lg = F := ⟨_, rfl⟩
  obtain ⟨PD, hPD⟩ : ∃ PD, pad s = PD := ⟨_, rfl⟩
  obtain ⟨ZZ, hZZ⟩ : ∃ ZZ, zs (m * 64 - s.length) = ZZ := ⟨_, rfl⟩
  simp only [hF, hPD, hZZ] at HF HPG HFL HPL HPE HZ
  have HZL : Hid (ZZ.length = m * 64 - s.length) := by rw [← hZZ]; exact zs_len _
  clear_value stK
  clear hF hPD hZZ HAL HDK HLE h hd hdl
  have e1 : IntKind.i64.wrap ((s.length : Int) + 64) = (s.length : Int) + 64 := IntWalk.i64_in _ ⟨by omega, by omega⟩
  have e2 : IntKind.i64.wrap ((s.length : Int) + 64 - 1) = (s.length : Int) + 64 - 1 := IntWalk.i64_in _ ⟨by omega, by omega⟩
  have e3 : IntKind.i64.wrap (((s.length : Int) + 64 - 1).tdiv 64) = (m : Int) := by rw [Int.tdiv_eq_ediv_of_nonneg (by omega), IntWalk.i64_in _ ⟨by omega, by omega⟩]; omega
  have e4 : IntKind.i64.wrap ((m : Int) * 64) = (m : Int) * 64 := IntWalk.i64_in _ ⟨by omega, by omega⟩
  have e5 : IntKind.i64.wrap ((m : Int) * 64 - (s.length : Int)) = ((m * 64 - s.length : Nat) : Int) := by rw [IntWalk.i64_in _ ⟨by omega, by omega⟩]; omega
  have e6 : IntKind.i64.wrap ((fr : Int) / 64) = (q : Int) := by rw [IntWalk.i64_in _ ⟨by omega, by omega⟩]; omega
  have HBS : Hid (s.length + ZZ.length ≤ 9223372036854775807) := by unfold Hid; have := HZL.out; omega
  have hbs := HBS.out
  have HMV := hid hmv; have HQM := hid hqm; have HM2 := hid hm2; have HKV := hid hK; have HSB := hid hs; have HHB := hid hhb; have HFR := hid hfr
  clear hmv hqm hm2 hK hs hhb hfr hl ha hlg
  go_enter Tryz.func61, Tryz.ntmps61
  go_wp2_with fail
  refine (HZ.out _).mono ?_
  rintro e w1 ⟨rfl, hb1⟩
  have HS1 : Hid (SD w0 U0 S D vw vd vk us ks (stK 0) w1) := HS0.out.below hb1
  have HPE' := HPE.out
  clear hb1 e1 e2 e3 e4 e5
  go_wp2_with fail
  rw [← HPE']
  clear HPE'
  go_loopw [10] (fun i wr => ∃ k p : Nat, i = .int .i64 (p : Int) ∧ Hid (p = q + k) ∧ k ≤ K ∧ Hid (SD w0 U0 S D vw vd vk us ks (stK k) wr)) (fun i _ => m - (intOf i).toNat)
  case atStart => exact ⟨0, q, rfl, by unfold Hid; omega, Nat.zero_le _, HS1⟩
  case round =>
    obtain ⟨k, p, rfl, hp, hk, HI⟩ := hrel
    clear e6
    by_cases hlt : k < K
    · have HB1 := HM2.out; have HB2 := hp.out; have HB3 := HKV.out
      have hlt64 : (p : Int) < (m : Int) := by omega
      obtain ⟨A, hA⟩ : ∃ A, p * 64 = A := ⟨_, rfl⟩
      obtain ⟨E, hE⟩ : ∃ E, (p + 1) * 64 = E := ⟨_, rfl⟩
      have f1 : IntKind.i64.wrap ((p : Int) * 64) = (A : Int) := by rw [IntWalk.i64_in _ ⟨by omega, by omega⟩]; omega
      have f2 : IntKind.i64.wrap ((p : Int) + 1) = (p : Int) + 1 := IntWalk.i64_in _ ⟨by omega, by omega⟩
      have f3 : IntKind.i64.wrap (((p : Int) + 1) * 64) = (E : Int) := by rw [IntWalk.i64_in _ ⟨by omega, by omega⟩]; omega
      have hAE : (A : Int) ≤ (E : Int) := by omega
      have hEP : (E : Int) ≤ (PD.length : Int) := by have := HPL.out; omega
      have f4 : IntKind.i64.wrap ((F : Int) + (p : Int)) = (F : Int) + (p : Int) := by have := HFL.out; exact IntWalk.i64_in _ ⟨by omega, by omega⟩
      have HPK := HPG.out k hlt
      have HSK := HST.out k hlt
      rw [← HB2] at HPK HSK
      rw [HPK, hA] at HSK
      have HSE := hid HSK
      have HL := HL1.out k hk
      obtain ⟨c0, op, cp, oq, cq, c1, c2⟩ := HI.out.cells
      rw [HL] at c1
      have HSPK := hid (HSP.out k hk)
      have HEX := ext_mid PD A E (by omega)
      have HAE : E - A = 64 := by omega
      rw [HAE] at HEX
      clear HPK HSK HL HB1 HB2 HB3 hA hE HAE
      have HI2 : Hid (SD w0 U0 S D vw vd vk us ks (stK k) wr.drew) := HI.out.drew
      go_upto_region 5 with fail
      go_region_with (first
        | (go_at_call 83; refine (HF.out _ _ _ _ _ _).mono ?_; rintro e w5 ⟨rfl, hb5⟩; have HI5 := hid (HI2.out.below hb5); have hb5 := below_step hb5 (drew_below wr); have c0 := keepc hb5 c0; have c1 := keepc hb5 c1; have c2 := keepc hb5 c2; clear hb5)
        | (go_at_call 62; refine (HSPK.out (false, (F : Int) + (p : Int), List.take 64 (List.drop A PD)) _ HI5.out).mono ?_; rintro e w6 ⟨rfl, hs6⟩; have HI6 := hid hs6; clear hs6))
      all_goals
        have HS7 : Hid (SD w0 U0 S D vw vd vk us ks (stK (k + 1)) w6) := by rw [HSE.out]; exact HI6.out
        clear HSPK HI2 HI5 HI6 f1 f2 f3 f4 HEX hAE hEP c0 c1 c2
        have hp2 : Hid (p + 1 = q + (k + 1)) := by have := hp.out; unfold Hid; omega
        have f2 : IntKind.i64.wrap ((p : Int) + 1) = ((p + 1 : Nat) : Int) := by have := hp.out; have := HM2.out; have := HKV.out; rw [IntWalk.i64_in _ ⟨by omega, by omega⟩]; omega
        have hmm : p < m := by omega
        go_wp2_with fail
        go_roundw
        case rel => exact ⟨k + 1, p + 1, by go_num, hp2, by omega, HS7⟩
        case measure => simp [intOf]; omega
    · have hk2 : k = K := by omega
      subst hk2
      have hge : ¬ ((p : Int) < (m : Int)) := by have := hp.out; have := HKV.out; have := HQM.out; omega
      obtain ⟨c0, op, cp, oq, cq, c1, c2⟩ := HI.out.cells
      have HSPK := hid (HSP.out k hk)
      clear hlt hk
      go_wp2_with fail
      refine (HSPK.out syncA _ HI.out).mono ?_
      rintro e w6 ⟨rfl, hs6⟩
      have HI6 := hid hs6
      clear hs6
      go_wp2_with fail
      go_end0
      exact ⟨rfl, HI6.out⟩
end Go.Proofs.YtifcgimpgbeocaaGreat
