/- play. -/
import Derived.Test.YtifcgimpgbeocaaK21
import Derived.Test.YtifcgimpgbeocaaK22
import Derived.Test.YtifcgimpgbeocaaK24
import Derived.Test.YtifcgimpgbeocaaK33
set_option linter.unusedVariables false
set_option linter.unusedSimpArgs false
namespace Go.Proofs.Ytifcgimpgbeocaa
open Go.RowKit
attribute [local go_sem] Oper.semAt_some
def PlayPost (U : Nat → Prop) (S : Nat) (s : St × Hist) (w : World) (e : Ending) (w' : World) : Prop :=
  ∃ va vd U', e = .returned (.tuple #[.agg #[va, vd], .bool true]) ∧ So w' U' S s.1 ∧ Frm U w w' ∧ (∀ k, U' k → U k ∨ w.heap.size ≤ k) ∧ Keep (fun k => U' k ∨ k < w.heap.size) w' (fun x => RdI x va (HA s.2)) ∧ Keep (fun k => U' k ∨ k < w.heap.size) w' (fun x => RdH x vd (HDt s.2))
theorem oI_one (w : World) (n : Int) : OI (w.alloc (.cells #[.int .i64 n] 3)) 0 (.slice (some ⟨w.heap.size, 0, none⟩) 1 1) [n] := World.ownsRow_lit w #[.int .i64 n] 1 (Nat.zero_le _) (by decide) rfl
theorem oH_one (w : World) (u : Value) : OH (w.alloc (.cells #[u] 51)) 0 (.slice (some ⟨w.heap.size, 0, none⟩) 1 1) [u] := World.ownsRow_lit w #[u] 1 (Nat.zero_le _) (by decide) rfl
theorem stepP_do {s : St × Hist} {o : FOp} : stepP s (0, o) = ((doSt s.1 o).1, s.2) := rfl
theorem stepP_ok {s : St × Hist} {o : FOp} (h : (commitD s.1).2 = 0) : stepP s (1, o) = ((commitD s.1).1, s.2 ++ [((commitD s.1).1.acts.length, s.1.now)]) := by
  unfold stepP
  rw [if_neg (show ¬ (1 : Int) = 0 by decide), if_pos rfl, if_pos h]
theorem stepP_full {s : St × Hist} {o : FOp} (h : (commitD s.1).2 ≠ 0) : stepP s (1, o) = s := by
  unfold stepP
  rw [if_neg (show ¬ (1 : Int) = 0 by decide), if_pos rfl, if_neg h]
theorem stepP_undo {s : St × Hist} {k : Int} {o : FOp} (h0 : k ≠ 0) (h1 : k ≠ 1) : stepP s (k, o) = (undoD s.1, s.2) := by
  unfold stepP
  rw [if_neg h0, if_neg h1]
theorem com_kept {st : St} (h : Live st) (h0 : (commitD st).2 = 0) : (commitD st).1.kept = st.now := by
  unfold commitD at h0 ⊢
  by_cases ho : st.ops = []
  · rw [if_pos ho]
    have := h.run
    rw [ho] at this
    simpa [runAll] using this
  · rw [if_neg ho] at h0 ⊢
    by_cases h1 : st.hd.1 = 4294967295
    · rw [if_pos h1] at h0; cases h0
    rw [if_neg h1] at h0 ⊢
    by_cases h2 : room st < (nBytes st).length
    · rw [if_pos h2] at h0; cases h0
    rw [if_neg h2]
    rfl
/-- The history's reading at the end. -/
theorem PlayI.end {w0 w : World} {U0 U : Nat → Prop} {S Z R : Nat} {v va vd : Value} {l : List Stp} {us : List Value} {st : St} {LA : List Int} {LD : List (List Ds)} (h : PlayI w0 U0 S Z R v l va vd us U st LA LD w) (x y : Value) :
    So ((w.setCell ⟨R, 0, none⟩ x).setCell ⟨R, 1, none⟩ y) U S st ∧ Frm U0 w0 ((w.setCell ⟨R, 0, none⟩ x).setCell ⟨R, 1, none⟩ y) ∧ (∀ k, U k → U0 k ∨ w0.heap.size ≤ k) ∧ Keep (fun k => U k ∨ k < w0.heap.size) ((w.setCell ⟨R, 0, none⟩ x).setCell ⟨R, 1, none⟩ y) (fun x => RdI x va LA) ∧ Keep (fun k => U k ∨ k < w0.heap.size) ((w.setCell ⟨R, 0, none⟩ x).setCell ⟨R, 1, none⟩ y) (fun x => RdH x vd LD) := by
  have hf := frm_two w R 0 1 x y
  have hR := h.xx R (.inr (.inr (.inr rfl)))
  refine ⟨h.so.frm hf fun k hk e => hR.1 (by rw [← e]; exact hk), h.frm.trans hf fun i hi e => by omega, h.uu, ?_, ?_⟩
  · exact keep_I' (hf.row h.oa fun k hk e => h.na.2 (by rw [hk, e])) fun k hk => by have hh := h.xx k (.inl hk); rintro (hu | hu); exact hh.1 hu; omega
  · intro w' hf'
    have hrow := hf'.row (hf.row h.od fun k hk e => h.nd.2 (by rw [hk, e])) fun k hk => by have hh := h.xx k (.inr (.inl hk)); rintro (hu | hu); exact hh.1 hu; omega
    refine OH.rd (B := 0) hrow h.ul fun i u x hu hx => ?_
    exact h.rd i u x hu hx w' (Frm.trans (hf.mono fun i _ e => .inl (.inr (.inr (.inr (.inr e))))) hf' fun i _ hi => hi.imp .inl id)
set_option maxHeartbeats 8000000 in
set_option maxRecDepth 100000 in
theorem play_any (U : Nat → Prop) (S : Nat) (st : St) (l : List Stp) (v : Value) (T n a : Nat) (w : World) (hG : Gone T n a st) (hT : T ≤ 10000) (hn : n ≤ 100) (ha : a ≤ 100000) (h : So w U S st) (hl : Keep U w (fun x => RdSt x v l)) :
    Calls Try.prog 21 #[.pointer (some ⟨S, 0, none⟩), v] w (PlayPost U S (playP st (l.take 100)) w) := by
  have hrl := hl.now
  obtain ⟨ol, cl, rfl, hcl, -⟩ := hrl
  have HG := hid (fun k (h1 : T + k ≤ 100000) (h2 : k ≤ l.length) => gone_play hG l k h1 h2)
  have HH := hid (fun k => hist_len st l k)
  have HSU := hid (fun k x hx => playP_succ st l k x hx)
  have HP0 : Hid (playP st (l.take 0) = (st, [(st.acts.length, st.kept)])) := rfl
  have HAC := hid (fun w' (hb : Below w.heap.size w w') => acts_any U S st w' (h.below hb) (by have := hG.acts; omega))
  have HKE := hid (fun w' (hb : Below w.heap.size w w') => kept_any U S st w' (h.below hb) hG.now8.2.2.1 hG.now8.2.2.2)
  have HSO := hid h
  have HKL := hid hl
  have hult := h.ult
  have HUL := hid hult
  obtain ⟨N, hN⟩ : ∃ N, l.length = N := ⟨_, rfl⟩
  rw [hN] at hcl hl HKL ⊢
  have HN := hid hN
  obtain ⟨A0, hA0⟩ : ∃ A0, st.acts.length = A0 := ⟨_, rfl⟩
  have hA0b : A0 ≤ 100000 := by rw [← hA0]; have := hG.acts; omega
  rw [hA0] at HP0
  obtain ⟨K0, hK0⟩ : ∃ K0, st.kept.length = K0 := ⟨_, rfl⟩
  obtain ⟨W0, hW0⟩ : ∃ W0, W0 = w.alloc (.cells #[.slice none 0 0, .slice none 0 0] 37) := ⟨_, rfl⟩
  have hB2 : B2 w w.heap.size W0 := by rw [hW0]; exact B2.new w 37 (.slice none 0 0) (.slice none 0 0)
  have HB2 := hid hB2
  have HW0 := hid hW0
  clear hW0 hN hG h hl hB2 hult
  go_enter Try.func21, Try.ntmps21
  go_upto_region 1 with fail
  have e := HW0.out
  rw [← e]
  clear e HW0
  go_wp2_with fail
  refine (HAC.out _ HB2.out.1).mono ?_
  rintro e w1 ⟨u1, rfl, ho1, hb1⟩
  obtain ⟨o1, c1, rfl, -, -⟩ := ho1.rd
  have HB1 := hid (HB2.out.below hb1)
  simp only [hA0]
  obtain ⟨w2, hw2⟩ : ∃ w2, w2 = w1.alloc (.cells #[.int .i64 (A0 : Int)] 3) := ⟨_, rfl⟩
  have hba : Below w1.heap.size w1 w2 := by rw [hw2]; exact balloc (Below.refl _ _) _
  have HB2' := hid (HB1.out.below hba)
  have HOA := hid (show OI w2 0 (.slice (some ⟨w1.heap.size, 0, none⟩) 1 1) [(A0 : Int)] from by rw [hw2]; exact oI_one _ _)
  have HZ2 : Hid (w2.heap.size = w1.heap.size + 1) := by rw [hw2]; unfold Hid; simp
  have HW2 := hid hw2
  have HZ1 := hid HB1.out.lt
  clear hw2 hba hb1 ho1 HAC
  go_wp2_with fail
  have e := HW2.out
  rw [← e]
  clear e HW2
  refine (HKE.out _ HB2'.out.1).mono ?_
  rintro e w3 ⟨u3, rfl, ho3, hb3⟩
  have HB3 := hid (HB2'.out.below hb3)
  have HOA3 := hid (HOA.out.below hb3)
  have HOD3 := hid ho3
  have HZ3 := hid hb3.size
  obtain ⟨o3, c3, rfl⟩ := ho3.rd.slice
  simp only [hK0]
  rw [hK0] at HOD3
  obtain ⟨w4, hw4⟩ : ∃ w4, w4 = w3.alloc (.cells #[.slice o3 K0 c3] 51) := ⟨_, rfl⟩
  have hba : Below w3.heap.size w3 w4 := by rw [hw4]; exact balloc (Below.refl _ _) _
  have HB4 := hid (HB3.out.below hba)
  have HOA4 := hid (HOA3.out.below hba)
  have HOH4 := hid (show OH w4 0 (.slice (some ⟨w3.heap.size, 0, none⟩) 1 1) [.slice o3 K0 c3] from by rw [hw4]; exact oH_one _ _)
  have HOD4 := hid (HOD3.out.below hba)
  have HZ4 : Hid (w4.heap.size = w3.heap.size + 1) := by rw [hw4]; unfold Hid; simp
  obtain ⟨w5, hw5⟩ : ∃ w5, w5 = w4.alloc (.cells #[.slice (some ⟨w1.heap.size, 0, none⟩) 1 1, .slice (some ⟨w3.heap.size, 0, none⟩) 1 1] 37) := ⟨_, rfl⟩
  have hbb : Below w4.heap.size w4 w5 := by rw [hw5]; exact balloc (Below.refl _ _) _
  have z0 : w5.cell? ⟨w4.heap.size, 0, none⟩ = some (.slice (some ⟨w1.heap.size, 0, none⟩) 1 1) := by rw [hw5]; exact cell_new _ _ _ 0 _ rfl
  have z1 : w5.cell? ⟨w4.heap.size, 1, none⟩ = some (.slice (some ⟨w3.heap.size, 0, none⟩) 1 1) := by rw [hw5]; exact cell_new _ _ _ 1 _ rfl
  have zf : ∀ j, w5.frozen? ⟨w4.heap.size, j, none⟩ = false := fun j => by rw [hw5]; unfold World.frozen?; rw [heap_alloc_new]; simp
  have HB5 := hid (HB4.out.below hbb)
  have HK3 : Hid (Keep (fun k => (U k ∨ XB w4.heap.size w.heap.size (.slice (some ⟨w1.heap.size, 0, none⟩) 1 1) (.slice (some ⟨w3.heap.size, 0, none⟩) 1 1) k) ∨ k < w.heap.size) w3 (fun x => RdD x (.slice o3 K0 c3) st.kept)) := by
    have z1' := HZ1.out; have z2' := HZ2.out; have z3' := HZ3.out; have z4' := HZ4.out
    refine keep_D' HOD3.out fun k hk1 hk2 hk => ?_
    rcases hk with (hk | hk | hk | hk | hk) | hk
    · have := HUL.out k hk; omega
    · simp [Value.ownBlock] at hk; omega
    · simp [Value.ownBlock] at hk; omega
    · omega
    · omega
    · omega
  have HB35 := hid (below_step hbb (below_step hba (Below.refl w3.heap.size w3)))
  have HPI : Hid (PlayI w U S w4.heap.size w.heap.size (.slice ol N cl) l (.slice (some ⟨w1.heap.size, 0, none⟩) 1 1) (.slice (some ⟨w3.heap.size, 0, none⟩) 1 1) [.slice o3 K0 c3] U st [(A0 : Int)] [st.kept] w5) := by
    have z1' := HZ1.out; have z2' := HZ2.out; have z3' := HZ3.out; have z4' := HZ4.out
    have hX : ∀ k, XB w4.heap.size w.heap.size (.slice (some ⟨w1.heap.size, 0, none⟩) 1 1) (.slice (some ⟨w3.heap.size, 0, none⟩) 1 1) k → w.heap.size ≤ k ∧ (k = w.heap.size ∨ k = w1.heap.size ∨ k = w3.heap.size ∨ k = w4.heap.size) := fun k hk => by
      rcases hk with hk | hk | hk | hk
      · simp [Value.ownBlock] at hk; omega
      · simp [Value.ownBlock] at hk; omega
      · omega
      · omega
    have hlt : ∀ k, U k → k < w.heap.size := HUL.out
    refine ⟨HSO.out.below HB5.out.1, Frm.of_below HB5.out.1, fun k hk => .inl hk, fun k hk => ⟨fun hu => by have := hlt k hu; have := hX k hk; omega, (hX k hk).1⟩, z0, z1, zf, HB5.out.2.1, HB5.out.2.2, by omega,
      ⟨by simp [Value.ownBlock]; omega, by simp [Value.ownBlock]; omega⟩, ⟨by simp [Value.ownBlock]; omega, by simp [Value.ownBlock]; omega⟩, HOA4.out.below hbb, HOH4.out.below hbb, rfl, fun i u x hu hx => ?_, ?_⟩
    · match i, hu, hx with
      | 0, hu, hx =>
        simp only [List.getElem?_cons_zero, Option.some.injEq] at hu hx
        subst hu hx
        exact HK3.out.below HB35.out
      | i + 1, hu, hx => simp at hu
    · refine HKL.out.of_below HB5.out.1 fun k hk => ?_
      rcases hk with hk | hk
      · exact .inl hk
      · exact .inr (hX k hk).1
  have HW4 := hid hw4; have HW5 := hid hw5
  clear hw4 hw5 hba hbb hb3 ho3 z0 z1 zf HK3 HB35 HB4 HOA4 HOH4 HOD4 HB3 HOA3 HOD3 HZ3 HZ2 HB1 HB2 HB2' HOA HKE HSO HKL HUL HZ1
  go_upto_region 2 with fail
  have e := HW4.out
  simp only [← e]
  try simp only [← HZ4.out]
  have e2 := HW5.out
  simp only [← e2]
  clear e e2 HW4 HW5 HZ4
  obtain ⟨Z, hZ⟩ : ∃ Z, w4.heap.size = Z := ⟨_, rfl⟩
  obtain ⟨R, hR⟩ : ∃ R, w.heap.size = R := ⟨_, rfl⟩
  simp only [hZ, hR] at HPI ⊢
  have HR := hid hR
  clear hZ hR
  go_wp2_with fail
  go_loopw [7] (fun i wr => ∃ (k : Nat) (va vd : Value) (us : List Value) (U' : Nat → Prop) (st' : St) (H : Hist), i = .int .i64 k ∧ k ≤ N ∧ k ≤ 100 ∧ Hid (playP st (l.take k) = (st', H)) ∧ Hid (PlayI w U S Z R (.slice ol N cl) l va vd us U' st' (HA H) (HDt H) wr)) (fun i _ => 100 - (intOf i).toNat)
  case atStart => exact ⟨0, _, _, _, U, st, [(A0, st.kept)], rfl, Nat.zero_le _, Nat.zero_le _, HP0, HPI⟩
  case round =>
    clear HPI HB5
    obtain ⟨k, va, vd, us, U', st', H, rfl, hk, hk2, HP, HI⟩ := hrel
    have hg := HG.out k (by omega) (by rw [HN.out]; exact hk)
    rw [HP.out] at hg
    have HGK : Hid (Gone (T + k) (n + k) (a + 3000 * k) st') := hg
    have hh := HH.out k
    rw [HP.out] at hh
    have HHL := hid hh
    clear hg hh
    obtain ⟨oA, qA, cA, eA⟩ : ∃ o n c, va = .slice o n c := by obtain ⟨o, c, e, -⟩ := HI.out.oa.rd; exact ⟨o, _, c, e⟩
    obtain ⟨oD, qD, cD, eD⟩ : ∃ o n c, vd = .slice o n c := by
      obtain ⟨o, c, e, -⟩ := HI.out.od.rd (l := HDt H) (by exact HI.out.ul) (fun i u x a b => (HI.out.rd i u x a b).now)
      exact ⟨o, _, c, e⟩
    subst eA eD
    by_cases hlt : k < N ∧ k < 100
    rotate_left
    · have HE : Hid (playP st (l.take 100) = (st', H)) := by
        unfold Hid
        rw [← HP.out]
        congr 1
        by_cases h1 : k < N
        · rw [show k = 100 by omega]
        · rw [List.take_of_length_le (by have := HN.out; omega), List.take_of_length_le (by have := HN.out; omega)]
      have z0 := HI.out.z0; have z1 := HI.out.z1
      obtain ⟨⟨v0, y0⟩, f0⟩ := HI.out.r0
      obtain ⟨⟨v1, y1⟩, f1⟩ := HI.out.r1
      have hz := World.block_lt_of_cell? _ _ y0
      simp only at hz
      by_cases h1 : k < N
      · have h100 : ¬ (k : Int) < 100 := by omega
        go_wp2_with fail
        rw [HE.out]
        exact bodyPost_ret (v := .tuple #[.agg #[.slice oA qA cA, .slice oD qD cD], .bool true]) (by simp [results, Try.results21, go_sem, y0, y1, f0, f1, hz]) rfl ⟨_, _, U', rfl, HI.out.end _ _⟩
      · have hN : ¬ (k : Int) < (N : Int) := by omega
        go_wp2_with fail
        rw [HE.out]
        exact bodyPost_ret (v := .tuple #[.agg #[.slice oA qA cA, .slice oD qD cD], .bool true]) (by simp [results, Try.results21, go_sem, y0, y1, f0, f1, hz]) rfl ⟨_, _, U', rfl, HI.out.end _ _⟩
    obtain ⟨hkN, hk100⟩ := hlt
    obtain ⟨⟨kd, o1, o2, o3, o4⟩, hx⟩ : ∃ r, l[k]? = some r := ⟨_, List.getElem?_eq_getElem (by have := HN.out; omega)⟩
    have hRS := HI.out.ks.now
    obtain ⟨o', c', e, -, hRS⟩ := hRS
    rcases hRS with hq | ⟨b1, off, rfl, hbq, hq⟩
    · rw [hq] at hx; simp at hx
    rw [HN.out] at e
    cases e
    obtain ⟨c0, c1, c2, c3, c4⟩ := hq k _ hx
    have hps := HSU.out k _ hx
    rw [HP.out] at hps
    have HPS := hid hps
    clear hps hx hq hbq HP
    by_cases hk0 : kd = 0
    · subst hk0
      have HDO := hid (do_any U' S st' (o1, o2, o3, o4) wr HI.out.so HGK.out.now8.1 (by have := HGK.out.ops; omega))
      have HPD : Hid (playP st (l.take (k + 1)) = ((doSt st' (o1, o2, o3, o4)).1, H)) := HPS.out
      clear HPS
      go_wp2_with fail
      refine HDO.out.mono ?_
      rintro e w6 ⟨rfl, U6, hs6, hf6, hu6⟩
      have HI6 := hid (HI.out.step hs6 hf6 hu6)
      clear hs6 hf6 hu6
      go_wp2_with fail
      go_roundw
      case rel => exact ⟨k + 1, _, _, us, U6, _, H, by go_num, by omega, by omega, HPD, HI6⟩
      case measure => simp [intOf]; omega
    by_cases hk1 : kd = 1
    · subst hk1
      have HDA := hid (data_any U' S st' wr HI.out.so HGK.out.now8.1 HGK.out.now8.2.1)
      have hlv := HGK.out.live
      have HCM := hid (fun w' (hb : Below wr.heap.size wr w') => commit_any U' S st' w' (HI.out.so.below hb) hlv (by have := HGK.out.ops; omega) (by have := HGK.out.acts; omega))
      have hce := com_err hlv
      obtain ⟨nn, hnn⟩ : ∃ nn, st'.now.length = nn := ⟨_, rfl⟩
      go_wp2_with fail
      refine HDA.out.mono ?_
      rintro e w5 ⟨v5, rfl, ho5, hb5⟩
      obtain ⟨o5, c5, rfl⟩ := ho5.rd.slice
      have HK5 := hid (keep_D' (U := fun k => (U' k ∨ XB Z R (.slice oA qA cA) (.slice oD qD cD) k) ∨ k < w.heap.size) ho5 (fun k h1 h2 hk => by rcases hk with hk | hk; (have := HI.out.xlt k hk; omega); (have := HI.out.frm.size; omega)))
      have HI5 := hid (HI.out.below hb5)
      have HB5 := hid hb5
      simp only [hnn] at HK5 ⊢
      clear ho5 hb5
      go_wp2_with fail
      refine (HCM.out _ HB5.out).mono ?_
      rintro e w6 ⟨rfl, U6, hs6, hf6, hu6⟩
      have HI6 := hid (HI5.out.step hs6 hf6 hu6)
      have HK6 := hid (HI5.out.keep HK5.out hf6 hu6)
      clear hs6 hf6 hu6 HCM HDA HI5 HK5 HB5
      rcases hce with hce | hce
      rotate_left
      · have HPD : Hid (playP st (l.take (k + 1)) = ((commitD st').1, H)) := by
          unfold Hid
          rw [HPS.out, stepP_full (by show (commitD st').2 ≠ 0; rw [hce]; decide)]
          show (st', H) = _
          rw [com_fail (by rw [hce]; decide)]
        rw [hce]
        clear HPS hce
        go_wp2_with fail
        go_roundw
        case rel => exact ⟨k + 1, _, _, us, U6, _, H, by go_num, by omega, by omega, HPD, HI6⟩
        case measure => simp [intOf]; omega
      have HPD : Hid (playP st (l.take (k + 1)) = ((commitD st').1, H ++ [((commitD st').1.acts.length, st'.now)])) := by
        unfold Hid
        rw [HPS.out, stepP_ok (by exact hce)]
      rw [hce]
      have hg6 := gone_commit HGK.out (by omega)
      have hkp := com_kept hlv hce
      have hnw := com_now st'
      generalize (commitD st').1 = st6 at *
      have HG6 := hid hg6
      have HKE6 := hid (kept_any U6 S st6 w6 HI6.out.so hg6.now8.2.2.1 hg6.now8.2.2.2)
      rw [hkp] at HKE6
      have hsm : ∀ d ∈ st'.now, d.length ≤ maxLen := fun d hd => by have := isDs_len (HGK.out.now8.2.1 d hd); unfold maxLen; omega
      have HSM := hid (fun u x w' (h1 : RdD w' u st'.now) (h2 : RdD w' x st'.now) => rsameall_any st'.now st'.now u x w' h1 h2 (by have := HGK.out.now8.1; unfold maxLen; omega) hsm)
      simp only [decide_true] at HSM
      have HDA6 := hid (fun w' (hb : Below w6.heap.size w6 w') => data_any U6 S st6 w' (HI6.out.so.below hb) hg6.now8.1 hg6.now8.2.1)
      rw [hnw] at HDA6
      have HAC6 := hid (fun w' (hb : Below w6.heap.size w6 w') => acts_any U6 S st6 w' (HI6.out.so.below hb) (by have := hg6.acts; omega))
      obtain ⟨A6, hA6⟩ : ∃ A6, st6.acts.length = A6 := ⟨_, rfl⟩
      have hA6b : A6 ≤ 1000000 := by rw [← hA6]; have := hg6.acts; omega
      rw [hA6] at HPD
      clear HPS hce hg6 hkp hnw hsm hlv
      go_wp2_with fail
      refine HKE6.out.mono ?_
      rintro e w7 ⟨v7, rfl, ho7, hb7⟩
      have HB7 := hid hb7
      have HR7 := hid ho7.rd
      obtain ⟨o7, c7, rfl⟩ := ho7.rd.slice
      simp only [hnn] at HR7 ⊢
      have HK7 := hid (HK6.out.below hb7)
      clear ho7 hb7
      go_wp2_with fail
      refine (HSM.out _ _ _ HR7.out HK7.out.now).mono ?_
      rintro e w8 ⟨rfl, hb8⟩
      have HB8 := hid (below_step hb8 HB7.out)
      have HK8 := hid (HK7.out.below hb8)
      clear hb8
      go_wp2_with fail
      refine (HDA6.out _ HB8.out).mono ?_
      rintro e w9 ⟨v9, rfl, ho9, hb9⟩
      have HR9 := hid ho9.rd
      obtain ⟨o9, c9, rfl⟩ := ho9.rd.slice
      simp only [hnn] at HR9 ⊢
      have HB9 := hid (below_step hb9 HB8.out)
      have HK9 := hid (HK8.out.below hb9)
      clear ho9 hb9
      go_wp2_with fail
      refine (HSM.out _ _ _ HR9.out HK9.out.now).mono ?_
      rintro e w10 ⟨rfl, hb10⟩
      have HB10 := hid (below_step hb10 HB9.out)
      have HK10 := hid (HK9.out.below hb10)
      have HI10 := hid (HI6.out.below HB10.out)
      have z0 := HI10.out.z0
      have zf := HI10.out.zf 0
      have hAL : (HA H).length ≤ 1000000 := by rw [List.length_map]; have := HHL.out; omega
      clear hb10 HB9 HB8 HB7 HR9 HR7 HK9 HK8 HK7 HSM HDA6 HKE6
      go_wp2_with fail
      go_region_law (first
        | (refine step_call1 (by rfl) 22 (.tmp 68) 31 (.pointer (some ⟨S, 0, none⟩)) (by rfl) (by simp [Act.eval, Act.put]) enter_acts (HAC6.out _ (below_step (drew_below w10) HB10.out)) ?_; rintro e w11 ⟨u11, rfl, ho11, hb11⟩; refine ⟨_, rfl, ?_⟩; have hb11 := below_step hb11 (drew_below w10); obtain ⟨o11, c11, rfl, -, -⟩ := ho11.rd; have HI11 := hid (HI10.out.below hb11); have HK11 := hid (HK10.out.below hb11); have z0 := HI11.out.z0; have zf := HI11.out.zf 0; have hba := balloc (Below.refl w11.heap.size w11) (.cells #[.int .i64 (A6 : Int)] 3); have HI12 := hid (HI11.out.below hba); have HK12 := hid (HK11.out.below hba); have z0a := HI12.out.z0; simp only [hA6]; clear hb11 ho11 hba)
        | (refine step_appI (by rfl) (.tmp 67) (.tmp 71) (by rfl) 0 (.slice oA qA cA) (HA H) (A6 : Int) w11.heap.size 1 (by simp [Act.eval, Act.put]) (by simp [Act.eval, Act.put]) HI12.out.oa (cell_new w11 #[.int .i64 (A6 : Int)] 3 0 _ rfl) hAL (Nat.zero_le _) ?_; intro v13 w13 ho13 hg13 hat13; obtain ⟨o13, c13, hv13⟩ : ∃ o c, v13 = .slice o (HA H ++ [(A6 : Int)]).length c := (by obtain ⟨o, c, e, -⟩ := ho13.rd; exact ⟨o, c, e⟩); obtain ⟨n13, hn13⟩ : ∃ n, (HA H ++ [(A6 : Int)]).length = n := ⟨_, rfl⟩; rw [hn13] at hv13; subst hv13; obtain ⟨⟨x13, zz0⟩, zzf⟩ := own_grown' ⟨⟨_, HI12.out.z0⟩, HI12.out.zf 0⟩ hg13 HI12.out.na.1)
        | (fail "x"))
      all_goals
        obtain ⟨G, g1, g2, g3, g4, g5, g6, g7, g8, g9, g10, g11⟩ := HI12.out.setA (n := 0) hg13 hat13 ho13
        obtain ⟨w14, hw14⟩ : ∃ w14, w14 = w13.setCell ⟨Z, 0, none⟩ (.slice o13 n13 c13) := ⟨_, rfl⟩
        rw [← hw14] at g1 g4 g5 g6 g7 g8 g10 g11
        have HI14 := hid (HI12.out.turn g1 g2 g3 g4 g5 g6 g7 g8 g9 HI12.out.nd g10 g11 HI12.out.ul HI12.out.rd)
        have HK14 : Hid (Keep (fun k => (U6 k ∨ XB Z R (.slice o13 n13 c13) (.slice oD qD cD) k) ∨ k < w.heap.size) w14 (fun x => RdD x (.slice o5 nn c5) st'.now)) := HK12.out.step (g1.mono fun i _ h => .inl (.inr (g2 i h))) fun k hk => by
          rcases hk with (hk | hk) | hk
          · exact .inl (.inl (.inl hk))
          · exact (g3 k hk).imp (fun h => .inl (.inr h)) id
          · exact .inl (.inr hk)
        rw [← hw14]
        have hba := balloc (Below.refl w14.heap.size w14) (.cells #[.slice o5 nn c5] 51)
        have HI15 := hid (HI14.out.below hba)
        have HK15 := hid (HK14.out.below hba)
        have z1 := HI14.out.z1
        have z1f := HI14.out.zf 1
        have hUL : us.length ≤ 1000000 := by rw [HI14.out.ul, List.length_map]; have := HHL.out; omega
        clear hw14 g1 g2 g3 g4 g5 g6 g7 g8 g9 g10 g11 hba hg13 hat13 ho13 zz0 zzf z0 zf
        go_wp2_with (at_builtin; refine appAtH rfl _ _ rfl 0 _ us (.slice o5 nn c5) _ _ rfl rfl HI15.out.od (cell_new w14 #[.slice o5 nn c5] 51 0 _ rfl) rfl hUL (Nat.zero_le _) ?_)
        intro v16 w16 ho16 hg16 hat16
        obtain ⟨o16, n16, c16, e16⟩ : ∃ o n c, v16 = .slice o n c := by
          obtain ⟨-, ⟨e, -⟩ | ⟨g, cp, cur, e, -⟩⟩ := ho16
          · exact ⟨_, _, _, e⟩
          · exact ⟨_, _, _, e⟩
        subst e16
        obtain ⟨⟨x16, zz0⟩, zzf⟩ := own_grown' ⟨⟨_, HI15.out.z1⟩, HI15.out.zf 1⟩ hg16 HI15.out.nd.1
        obtain ⟨G, g1, g2, g3, g4, g5, g6, g7, g8, g9, g10, g11⟩ := HI15.out.setD hg16 (by first | exact hat16 | (simp only [World.size_alloc]; exact hat16)) ho16
        obtain ⟨w17, hw17⟩ : ∃ w17, w17 = w16.setCell ⟨Z, 1, none⟩ (.slice o16 n16 c16) := ⟨_, rfl⟩
        rw [← hw17] at g1 g4 g5 g6 g7 g8 g10 g11
        have hln : (us ++ [Value.slice o5 nn c5]).length = (HDt H ++ [st'.now]).length := by rw [List.length_append, List.length_append, HI15.out.ul]; rfl
        have HI17 : Hid (PlayI w U S Z R (.slice (some ⟨b1, off, none⟩) N cl) l (.slice o13 n13 c13) (.slice o16 n16 c16) (us ++ [.slice o5 nn c5]) U6 st6 (HA (H ++ [(A6, st'.now)])) (HDt (H ++ [(A6, st'.now)])) w17) := by
          have e1 : HA (H ++ [(A6, st'.now)]) = HA H ++ [(A6 : Int)] := by simp
          have e2 : HDt (H ++ [(A6, st'.now)]) = HDt H ++ [st'.now] := by simp
          unfold Hid
          rw [e1, e2]
          refine HI15.out.turn g1 g2 g3 g4 g5 g6 g7 g8 HI15.out.na g9 g10 g11 hln fun i u x hu hx => ?_
          have hul := HI15.out.ul
          by_cases hi : i < us.length
          · rw [List.getElem?_append_left hi] at hu
            rw [List.getElem?_append_left (by omega)] at hx
            exact HI15.out.rd i u x hu hx
          · rw [List.getElem?_append_right (by omega)] at hu hx
            rw [← hul] at hx
            match hii : i - us.length with
            | 0 => rw [hii] at hu hx; simp only [List.getElem?_cons_zero, Option.some.injEq] at hu hx; subst hu hx; exact HK15.out
            | j + 1 => rw [hii] at hu; simp at hu
        have HW17 := hid hw17
        clear g1 g2 g3 g4 g5 g6 g7 g8 g9 g10 g11 hg16 hat16 ho16 hw17 hln
        go_wp2_with fail
        have e17 := HW17.out
        rw [← e17]
        clear e17
        go_roundw
        case rel => exact ⟨k + 1, _, _, _, U6, _, _, by go_num, by omega, by omega, HPD, HI17⟩
        case measure => simp [intOf]; omega
    · have hb0 : (kd == 0) = false := by simpa using hk0
      have hb1 : (kd == 1) = false := by simpa using hk1
      have HUN := hid (undo_any U' S st' wr HI.out.so HGK.out.now8.2.2.1 HGK.out.now8.2.2.2)
      have HPD : Hid (playP st (l.take (k + 1)) = (undoD st', H)) := by unfold Hid; rw [HPS.out]; exact stepP_undo hk0 hk1
      clear HPS
      go_wp2_with fail
      refine HUN.out.mono ?_
      rintro e w6 ⟨rfl, U6, hs6, hf6, hu6⟩
      have HI6 := hid (HI.out.step hs6 hf6 hu6)
      clear hs6 hf6 hu6
      go_wp2_with fail
      go_roundw
      case rel => exact ⟨k + 1, _, _, us, U6, _, H, by go_num, by omega, by omega, HPD, HI6⟩
      case measure => simp [intOf]; omega
end Go.Proofs.Ytifcgimpgbeocaa
