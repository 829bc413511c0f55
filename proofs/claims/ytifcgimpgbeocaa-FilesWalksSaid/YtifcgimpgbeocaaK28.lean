/- The reference's Key, Check. -/
import Derived.Test.YtifcgimpgbeocaaK11
import Derived.Test.YtifcgimpgbeocaaK12
import Derived.Test.YtifcgimpgbeocaaK6
set_option linter.unusedVariables false
set_option linter.unusedSimpArgs false
namespace Go.Proofs.Ytifcgimpgbeocaa
open Go.RowKit
attribute [local go_sem] Oper.semAt_some
theorem rkey_same (s : Bs) (w : World) : Calls Try.prog 90 #[strV s] w (fun e w' => e = .returned (.bool (isKey s)) ∧ w' = w) := by
  have ek : isKey s = (decide (1 ≤ s.length) && decide (s.length ≤ 16)) := rfl
  rw [ek]
  clear ek
  by_cases h1 : 1 ≤ s.length
  · have d1 : decide (1 ≤ s.length) = true := by simpa using h1
    rw [d1, Bool.true_and, ← dec_le16]
    go_enter Try.func90, Try.ntmps90
    go_wp2
    go_ret
    exact ⟨rfl, rfl⟩
  · have d1 : decide (1 ≤ s.length) = false := by simpa using h1
    rw [d1, Bool.false_and]
    go_enter Try.func90, Try.ntmps90
    go_wp2
    go_ret
    exact ⟨rfl, rfl⟩
set_option maxHeartbeats 2000000 in
set_option maxRecDepth 100000 in
theorem rcheck_any (d : Ds) (v : Value) (w : World) (hR : RdR w v d) : Calls Try.prog 42 #[v] w (Ret (.int .i64 (chkE (isDs d))) w) := by
  obtain ⟨o, cap, rfl, hcap, hc⟩ := hR
  by_cases hl : d.length ≤ 64
  rotate_left
  · have e : isDs d = false := by
      unfold isDs
      have : decide (d.length ≤ 64) = false := by simpa using hl
      rw [this]; rfl
    rw [e]
    have d1 : decide ((64 : Int) < (d.length : Int)) = true := by simp; omega
    clear e hc
    go_enter Try.func42, Try.ntmps42
    go_wp2_with fail
    go_ret
    exact ⟨rfl, Below.refl _ _⟩
  have HC := hid hc
  have HFULL := hid (chkTo_full hl)
  obtain ⟨N, hN⟩ : ∃ N, d.length = N := ⟨_, rfl⟩
  rw [hN] at hl hcap HFULL ⊢
  have HN := hid hN
  obtain ⟨E, hE⟩ : ∃ E, chkE (isDs d) = E := ⟨_, rfl⟩
  rw [hE]
  have HE := hid hE
  clear hN hc hE
  have d1 : decide ((64 : Int) < (N : Int)) = false := by simp; omega
  go_enter Try.func42, Try.ntmps42
  go_wp2_with fail
  go_loopw [3] (fun i wr => ∃ k : Nat, i = .int .i64 k ∧ k ≤ N ∧ Hid (chkTo d k = true) ∧ Hid (Below w.heap.size w wr)) (fun i _ => N - (intOf i).toNat)
  case atStart => exact ⟨0, rfl, Nat.zero_le _, rfl, Below.refl _ _⟩
  case round =>
    obtain ⟨k, rfl, hk, HT, HB⟩ := hrel
    by_cases hlt : k < N
    rotate_left
    · have e : isDs d = true := by rw [HFULL.out]; have : k = N := by omega
                                   rw [← this]; exact HT.out
      have HEE : Hid (E = 0) := by unfold Hid; rw [← HE.out, e]; rfl
      clear e
      go_wp2_with fail
      go_ret
      exact ⟨ret_int HEE.out.symm, HB.out⟩
    obtain ⟨r, hr⟩ : ∃ r, d[k]? = some r := ⟨_, List.getElem?_eq_getElem (by have := HN.out; omega)⟩
    have hHC := HC.out
    rcases hHC with hc | ⟨b, off, rfl, hbl, hc⟩
    · rw [hc] at hr; simp at hr
    obtain ⟨c0, c1⟩ := hc k r hr
    have c0 := HB.out.cell (p := ⟨b, off + k * 2, none⟩) hbl |>.trans c0
    have c1 := HB.out.cell (p := ⟨b, off + k * 2 + 1, none⟩) hbl |>.trans c1
    have HST := hid (chkTo_succ hr)
    have HKEY := hid (fun w => rkey_same r.1 w)
    have prev : 0 < k → ∃ p, d[k - 1]? = some p ∧ wr.cell? ⟨b, off + (k - 1) * 2, none⟩ = some (strV p.1) := fun hm => by
      obtain ⟨p, hp⟩ : ∃ p, d[k - 1]? = some p := ⟨_, List.getElem?_eq_getElem (by have := HN.out; omega)⟩
      exact ⟨p, hp, (HB.out.cell (p := ⟨b, off + (k - 1) * 2, none⟩) hbl).trans (hc (k - 1) p hp).1⟩
    have HPREV := hid prev
    have HBD := hid (fun n => below_drewN HB.out n)
    clear hc hr prev
    have kk : isRec r = (isKey r.1 && decide (r.2.length ≤ 255)) := rfl
    cases ek : isKey r.1 with
    | false =>
      rw [ek] at HKEY
      have e : isDs d = false := chkTo_bad (k := k + 1) (by rw [HST.out, kk, ek]; simp)
      have HEE : Hid (E = 140) := by unfold Hid; rw [← HE.out, e]; rfl
      clear e ek kk
      go_wp2_with fail
      go_quiet ((go_at_call 90; exact Calls.quiet_of_same (HKEY.out _)))
      go_wp2_with fail
      go_ret
      exact ⟨ret_int HEE.out.symm, HBD.out _⟩
    | true =>
      rw [ek] at HKEY
      by_cases hdl : r.2.length ≤ 255
      rotate_left
      · have e : isDs d = false := chkTo_bad (k := k + 1) (by rw [HST.out, kk, ek]; simp; omega)
        have HEE : Hid (E = 140) := by unfold Hid; rw [← HE.out, e]; rfl
        have z1 : decide ((255 : Int) < (r.2.length : Int)) = true := by simp; omega
        clear e ek kk
        go_wp2_with fail
        go_quiet ((go_at_call 90; exact Calls.quiet_of_same (HKEY.out _)))
        go_wp2_with fail
        go_ret
        exact ⟨ret_int HEE.out.symm, HBD.out _⟩
      have er : isRec r = true := by rw [kk, ek]; simpa using hdl
      have z1 : decide ((255 : Int) < (r.2.length : Int)) = false := by simp; omega
      by_cases hk0 : k = 0
      · subst hk0
        have HT1 : Hid (chkTo d (0 + 1) = true) := by unfold Hid; rw [HST.out, HT.out, er]; rfl
        clear HST er HPREV HT ek kk
        have z0 : decide ((0 : Int) < ((0 : Nat) : Int)) = false := rfl
        have c0z : wr.cell? ⟨b, off, none⟩ = some (strV r.1) := by simpa using c0
        have c1z : wr.cell? ⟨b, off + 1, none⟩ = some (strV r.2) := by simpa using c1
        go_wp2_with fail
        go_quiet ((go_at_call 90; exact Calls.quiet_of_same (HKEY.out _)))
        go_wp2_with fail
        go_roundw
        case rel => exact ⟨0 + 1, rfl, by omega, HT1, HBD.out _⟩
        case measure => simp [intOf]; omega
      · have hkp : 0 < k := by omega
        obtain ⟨p, hp, P0⟩ := HPREV.out hkp
        have ep : prevOk d r k = ltB p.1 r.1 := prevOk_pos hkp hp
        have HST2 : Hid (chkTo d (k + 1) = ltB p.1 r.1) := by unfold Hid; rw [HST.out, HT.out, er, ep]; simp
        clear ep er HST hk0 hp HPREV ek kk
        have w0 : IntKind.i64.wrap ((k : Int) - 1) = (k : Int) - 1 := IntWalk.i64_in _ ⟨by omega, by omega⟩
        have w1 : (0 : Int) ≤ (k : Int) - 1 := by omega
        have w1' : (1 : Int) ≤ (k : Int) := by omega
        have w2 : (k : Int) - 1 < (N : Int) := by omega
        have w3 : ((k : Int) - 1).toNat = k - 1 := by omega
        have z0 : decide ((0 : Int) < (k : Int)) = true := by simp; omega
        cases el : ltB p.1 r.1 with
        | true =>
          have HT1 : Hid (chkTo d (k + 1) = true) := HST2.out.trans el
          have el' : Op.bytesLess p.1 r.1 = true := el
          clear HST2 el HT
          go_wp2_with fail
          go_quiet ((go_at_call 90; exact Calls.quiet_of_same (HKEY.out _)))
          go_wp2_with fail
          go_roundw
          case rel => exact ⟨k + 1, by go_num, by omega, HT1, HBD.out _⟩
          case measure => simp [intOf]; omega
        | false =>
          have e : isDs d = false := chkTo_bad (k := k + 1) (HST2.out.trans el)
          have HEE : Hid (E = 140) := by unfold Hid; rw [← HE.out, e]; rfl
          have el' : Op.bytesLess p.1 r.1 = false := el
          clear HST2 el HT e
          go_wp2_with fail
          go_quiet ((go_at_call 90; exact Calls.quiet_of_same (HKEY.out _)))
          go_wp2_with fail
          go_ret
          exact ⟨ret_int HEE.out.symm, HBD.out _⟩
end Go.Proofs.Ytifcgimpgbeocaa
/- The reference's Read, without, there. -/
set_option linter.unusedVariables false
set_option linter.unusedSimpArgs false
namespace Go.Proofs.Ytifcgimpgbeocaa
open Go.RowKit
attribute [local go_sem] Oper.semAt_some
theorem rkey_any (s : Bs) (w : World) : Calls Try.prog 90 #[strV s] w (Ret (.bool (isKey s)) w) :=
  (rkey_same s w).mono fun e w' ⟨h1, h2⟩ => ⟨h1, by rw [h2]; exact Below.refl _ _⟩
/-- No record ahead of k has the key. -/
def NoKey (d : Ds) (key : Bs) (k : Nat) : Prop := ∀ (j : Nat) (x : Rec), j < k → d[j]? = some x → x.1 ≠ key
theorem noKey_succ {d : Ds} {key : Bs} {k : Nat} {r : Rec} (h : NoKey d key k) (hr : d[k]? = some r) (hne : r.1 ≠ key) : NoKey d key (k + 1) := fun j x hj hx => by
  by_cases e : j = k
  · subst e; rw [hr] at hx; cases hx; exact hne
  · exact h j x (by omega) hx
theorem noKey_all {d : Ds} {key : Bs} (h : NoKey d key d.length) : look d key = none := look_none.2 fun x hx => by
  obtain ⟨j, hj⟩ := List.getElem?_of_mem hx
  exact h j x (List.getElem?_eq_some_iff.1 hj).1 hj
set_option maxHeartbeats 1000000 in
set_option maxRecDepth 100000 in
theorem rread_any (d : Ds) (v : Value) (key : Bs) (w : World) (hR : RdR w v d) : Calls Try.prog 51 #[v, strV key] w (Ret (.tuple #[strV (readD d key).1, .int .i64 (readD d key).2]) w) := by
  have HC := hid (fun w' (hb : Below w.heap.size w w') => rcheck_any d v w' (hR.below hb))
  have HK := hid (fun w => rkey_any key w)
  cases hd : isDs d with
  | false =>
    rw [hd] at HC
    have hr : readD d key = ([], 140) := by unfold readD; rw [hd]; rfl
    rw [hr]
    have HC2 : Hid (∀ w', Below w.heap.size w w' → Calls Try.prog 42 #[v] w' (Ret (.int .i64 140) w')) := HC.out
    clear HC hd hr hR
    go_enter Try.func51, Try.ntmps51
    go_wp2_with fail
    refine (HC2.out _ (Below.refl _ _)).mono ?_
    rintro e w1 ⟨rfl, hb1⟩
    have HB1 := hid hb1
    clear hb1
    go_wp2_with fail
    go_ret2
    exact ⟨rfl, HB1.out⟩
  | true =>
    rw [hd] at HC
    have HC2 : Hid (∀ w', Below w.heap.size w w' → Calls Try.prog 42 #[v] w' (Ret (.int .i64 0) w')) := HC.out
    cases hk : isKey key with
    | false =>
      rw [hk] at HK
      have hr : readD d key = ([], 1) := by unfold readD; rw [hd, hk]; rfl
      rw [hr]
      clear HC hd hr hR hk
      go_enter Try.func51, Try.ntmps51
      go_wp2_with fail
      refine (HC2.out _ (Below.refl _ _)).mono ?_
      rintro e w1 ⟨rfl, hb1⟩
      have HB1 := hid hb1
      clear hb1
      go_wp2_with fail
      refine (HK.out _).mono ?_
      rintro e w2 ⟨rfl, hb2⟩
      have HB2 := hid (below_step hb2 HB1.out)
      clear hb2
      go_wp2_with fail
      go_ret2
      exact ⟨rfl, HB2.out⟩
    | true =>
      rw [hk] at HK
      have hl := isDs_len hd
      have HRL := hid (readD_look hd hk)
      have HS := hid (isDs_sorted hd)
      obtain ⟨A, hA⟩ : ∃ A, readD d key = A := ⟨_, rfl⟩
      rw [hA] at HRL ⊢
      obtain ⟨o, cap, rfl, hcap, hc⟩ := hR
      have HCC := hid hc
      obtain ⟨N, hN⟩ : ∃ N, d.length = N := ⟨_, rfl⟩
      rw [hN] at HC2 hl hcap ⊢
      have HN := hid hN
      clear HC hd hk hA hc hN
      go_enter Try.func51, Try.ntmps51
      go_wp2_with fail
      refine (HC2.out _ (Below.refl _ _)).mono ?_
      rintro e w1 ⟨rfl, hb1⟩
      have HB1 := hid hb1
      clear hb1
      go_wp2_with fail
      refine (HK.out _).mono ?_
      rintro e w2 ⟨rfl, hb2⟩
      have HB2 := hid (below_step hb2 HB1.out)
      clear hb2
      go_wp2_with fail
      go_loopw [6] (fun i wr => ∃ k : Nat, i = .int .i64 k ∧ k ≤ N ∧ Hid (NoKey d key k) ∧ Hid (Below w.heap.size w wr)) (fun i _ => N - (intOf i).toNat)
      case atStart => exact ⟨0, rfl, Nat.zero_le _, (fun j x hj => by omega), HB2⟩
      case round =>
        obtain ⟨k, rfl, hk, HT, HB⟩ := hrel
        by_cases hlt : k < N
        rotate_left
        · have e : A = ([], 4) := by
            have h1 := HT.out
            have h2 : k = d.length := by have := HN.out; omega
            rw [h2] at h1
            rw [HRL.out, noKey_all h1]
          subst e
          go_wp2_with fail
          go_ret2
          exact ⟨rfl, HB.out⟩
        obtain ⟨r, hr⟩ : ∃ r, d[k]? = some r := ⟨_, List.getElem?_eq_getElem (by have := HN.out; omega)⟩
        have hHC := HCC.out
        rcases hHC with hc | ⟨b, off, rfl, hbl, hc⟩
        · rw [hc] at hr; simp at hr
        obtain ⟨c0, c1⟩ := hc k r hr
        have c0 := HB.out.cell (p := ⟨b, off + k * 2, none⟩) hbl |>.trans c0
        have c1 := HB.out.cell (p := ⟨b, off + k * 2 + 1, none⟩) hbl |>.trans c1
        by_cases hq : r.1 = key
        · have e : A = (r.2, 0) := by
            rw [HRL.out, look_mem HS.out (k := key) (s := r.2) (by rw [← hq]; exact List.mem_of_getElem? hr)]
          have g1 : (r.1 == key) = true := by rw [beq_iff_eq]; exact hq
          subst e
          clear hc hr hq
          go_wp2_with fail
          go_ret2
          exact ⟨rfl, HB.out⟩
        · have HT1 := hid (noKey_succ HT.out hr hq)
          have g1 : (r.1 == key) = false := by rw [beq_eq_false_iff_ne]; exact hq
          clear hc hr hq
          go_wp2_with fail
          go_roundw
          case rel => exact ⟨k + 1, by go_num, by omega, HT1, HB⟩
          case measure => simp [intOf]; omega
end Go.Proofs.Ytifcgimpgbeocaa
/- The reference's Next. -/
set_option linter.unusedVariables false
set_option linter.unusedSimpArgs false
namespace Go.Proofs.Ytifcgimpgbeocaa
open Go.RowKit
attribute [local go_sem] Oper.semAt_some
theorem nextD_find {d : Ds} {k : Bs} (hd : isDs d = true) (hk : k.length ≤ 16) : nextD d k = match d.find? (fun r => ltB k r.1) with | some r => (r, 0) | none => (([], []), 4) := by
  rw [find_next (isDs_sorted hd)]
  unfold nextD
  rw [if_pos hd, if_pos hk]
  by_cases h : nextI d k < d.length
  · rw [if_pos h, List.getElem?_eq_getElem h]; rfl
  · rw [if_neg h, List.getElem?_eq_none (by omega)]
/-- No record ahead of k has a greater key. -/
def NoGt (d : Ds) (key : Bs) (k : Nat) : Prop := (d.take k).find? (fun r => ltB key r.1) = none
theorem noGt_succ {d : Ds} {key : Bs} {k : Nat} {r : Rec} (h : NoGt d key k) (hr : d[k]? = some r) (hne : ltB key r.1 = false) : NoGt d key (k + 1) := by
  obtain ⟨hk, rfl⟩ := List.getElem?_eq_some_iff.1 hr
  unfold NoGt at *
  rw [List.take_succ_eq_append_getElem hk, List.find?_append, h, Option.none_or, List.find?_cons, hne]
  rfl
theorem noGt_found {d : Ds} {key : Bs} {k : Nat} {r : Rec} (h : NoGt d key k) (hr : d[k]? = some r) (hne : ltB key r.1 = true) : d.find? (fun r => ltB key r.1) = some r := by
  obtain ⟨hk, rfl⟩ := List.getElem?_eq_some_iff.1 hr
  unfold NoGt at h
  conv => lhs; rw [← List.take_append_drop k d]
  rw [List.find?_append, h, Option.none_or, List.drop_eq_getElem_cons hk, List.find?_cons, hne]
set_option maxHeartbeats 1000000 in
set_option maxRecDepth 100000 in
theorem rnext_any (d : Ds) (v : Value) (key : Bs) (w : World) (hR : RdR w v d) : Calls Try.prog 53 #[v, strV key] w (Ret (.tuple #[recV (nextD d key).1, .int .i64 (nextD d key).2]) w) := by
  have HC := hid (fun w' (hb : Below w.heap.size w w') => rcheck_any d v w' (hR.below hb))
  have HB0 := hid ((Below.refl w.heap.size w).alloc (Nat.le_refl _) (.cells #[strV [], strV []] 59))
  have HX := hid (ownc_new w #[strV [], strV []] 59 0 (by decide))
  have HY := hid (ownc_new w #[strV [], strV []] 59 1 (by decide))
  cases hd : isDs d with
  | false =>
    rw [hd] at HC
    have hr : nextD d key = (([], []), 140) := by unfold nextD; rw [hd]; rfl
    rw [hr]
    have HC2 : Hid (∀ w', Below w.heap.size w w' → Calls Try.prog 42 #[v] w' (Ret (.int .i64 140) w')) := HC.out
    clear HC hd hr hR
    go_enter Try.func53, Try.ntmps53
    go_wp2_with fail
    refine (HC2.out _ HB0.out).mono ?_
    rintro e w1 ⟨rfl, hb1⟩
    have HB1 := hid (below_step hb1 HB0.out)
    obtain ⟨⟨u0, x0⟩, f0⟩ := keepOwn hb1 HX.out
    obtain ⟨⟨u1, x1⟩, f1⟩ := keepOwn hb1 HY.out
    have hz := HB1.out.size
    clear hb1
    go_wp2_with fail
    exact bodyPost_ret (v := .tuple #[.agg #[strV [], strV []], .int .i64 140]) (by simp [results, Try.results53, go_sem, x0, x1, hz]) rfl ⟨rfl, (HB1.out.setCell (Nat.le_refl _) _).setCell (Nat.le_refl _) _⟩
  | true =>
    rw [hd] at HC
    have HC2 : Hid (∀ w', Below w.heap.size w w' → Calls Try.prog 42 #[v] w' (Ret (.int .i64 0) w')) := HC.out
    by_cases hk : key.length ≤ 16
    rotate_left
    · have hr : nextD d key = (([], []), 1) := by unfold nextD; rw [if_pos hd, if_neg hk]
      rw [hr]
      have z1 : decide ((16 : Int) < (key.length : Int)) = true := by simp; omega
      clear HC hd hr hR hk
      go_enter Try.func53, Try.ntmps53
      go_wp2_with fail
      refine (HC2.out _ HB0.out).mono ?_
      rintro e w1 ⟨rfl, hb1⟩
      have HB1 := hid (below_step hb1 HB0.out)
      obtain ⟨⟨u0, x0⟩, f0⟩ := keepOwn hb1 HX.out
      obtain ⟨⟨u1, x1⟩, f1⟩ := keepOwn hb1 HY.out
      have hz := HB1.out.size
      clear hb1
      go_wp2_with fail
      exact bodyPost_ret (v := .tuple #[.agg #[strV [], strV []], .int .i64 1]) (by simp [results, Try.results53, go_sem, x0, x1, hz]) rfl ⟨rfl, (HB1.out.setCell (Nat.le_refl _) _).setCell (Nat.le_refl _) _⟩
    have hl := isDs_len hd
    have HRL := hid (nextD_find hd hk)
    obtain ⟨A, hA⟩ : ∃ A, nextD d key = A := ⟨_, rfl⟩
    rw [hA] at HRL ⊢
    have z1 : decide ((16 : Int) < (key.length : Int)) = false := by simp; omega
    obtain ⟨o, cap, rfl, hcap, hc⟩ := hR
    have HCC := hid hc
    obtain ⟨N, hN⟩ : ∃ N, d.length = N := ⟨_, rfl⟩
    rw [hN] at HC2 hl hcap ⊢
    have HN := hid hN
    clear HC hd hk hA hc hN
    go_enter Try.func53, Try.ntmps53
    go_wp2_with fail
    refine (HC2.out _ HB0.out).mono ?_
    rintro e w1 ⟨rfl, hb1⟩
    have HB1 := hid (below_step hb1 HB0.out)
    have HX1 := hid (keepOwn hb1 HX.out)
    have HY1 := hid (keepOwn hb1 HY.out)
    clear hb1
    go_wp2_with fail
    go_loopw [6] (fun i wr => ∃ k : Nat, i = .int .i64 k ∧ k ≤ N ∧ Hid (NoGt d key k) ∧ wr = w1) (fun i _ => N - (intOf i).toNat)
    case atStart => exact ⟨0, rfl, Nat.zero_le _, rfl, rfl⟩
    case round =>
      obtain ⟨k, rfl, hk, HT, hw⟩ := hrel
      subst hw
      obtain ⟨⟨u0', x0⟩, f0⟩ := HX1.out
      obtain ⟨⟨u1', x1⟩, f1⟩ := HY1.out
      have hz := HB1.out.size
      by_cases hlt : k < N
      rotate_left
      · have e : A = (([], []), 4) := by
          have h1 := HT.out
          unfold NoGt at h1
          have h2 : k = d.length := by have := HN.out; omega
          rw [h2, List.take_length] at h1
          rw [HRL.out, h1]
        subst e
        go_wp2_with fail
        exact bodyPost_ret (v := .tuple #[.agg #[strV [], strV []], .int .i64 4]) (by simp [results, Try.results53, go_sem, x0, x1, hz]) rfl ⟨rfl, (HB1.out.setCell (Nat.le_refl _) _).setCell (Nat.le_refl _) _⟩
      obtain ⟨r, hr⟩ : ∃ r, d[k]? = some r := ⟨_, List.getElem?_eq_getElem (by have := HN.out; omega)⟩
      have hHC := HCC.out
      rcases hHC with hc | ⟨b, off, rfl, hbl, hc⟩
      · rw [hc] at hr; simp at hr
      obtain ⟨c0, c1⟩ := hc k r hr
      have c0 := HB1.out.cell (p := ⟨b, off + k * 2, none⟩) hbl |>.trans c0
      have c1 := HB1.out.cell (p := ⟨b, off + k * 2 + 1, none⟩) hbl |>.trans c1
      have hgt : (!(Op.bytesLess r.1 key || r.1 == key)) = ltB key r.1 := by rw [leq_eq]; simp
      cases hq : ltB key r.1 with
      | true =>
        have e : A = (r, 0) := by rw [HRL.out, noGt_found HT.out hr hq]
        have g1 : Op.bytesLess r.1 key = false := ltB_asymm hq
        have g2 : (r.1 == key) = false := by rw [beq_eq_false_iff_ne]; exact (ne_of_ltB hq).symm
        subst e
        clear hc hr hq hgt
        go_wp2_with fail
        exact bodyPost_ret (v := .tuple #[.agg #[strV r.1, strV r.2], .int .i64 0]) (by simp [results, Try.results53, go_sem, x0, x1, hz]) rfl ⟨rfl, (HB1.out.setCell (Nat.le_refl _) _).setCell (Nat.le_refl _) _⟩
      | false =>
        have HT1 := hid (noGt_succ HT.out hr hq)
        rw [hq] at hgt
        have g1 : (Op.bytesLess r.1 key || r.1 == key) = true := by
          cases e : (Op.bytesLess r.1 key || r.1 == key) with
          | true => rfl
          | false => rw [e] at hgt; cases hgt
        have g1' : ¬ Op.bytesLess r.1 key = true → r.1 = key := by
          intro h
          have : Op.bytesLess r.1 key = false := by simpa using h
          rw [this] at g1
          simpa using g1
        by_cases h1 : Op.bytesLess r.1 key = true
        · clear hc hr hq hgt g1 g1'
          go_wp2_with fail
          go_roundw
          case rel => exact ⟨k + 1, by go_num, by omega, HT1, trivial⟩
          case measure => simp [intOf]; omega
        · have h2 := g1' h1
          have h1' : Op.bytesLess r.1 key = false := by simpa using h1
          have g2 : (r.1 == key) = true := by rw [beq_iff_eq]; exact h2
          clear hc hr hq hgt g1 g1' h1 h2
          go_wp2_with fail
          go_roundw
          case rel => exact ⟨k + 1, by go_num, by omega, HT1, trivial⟩
          case measure => simp [intOf]; omega
end Go.Proofs.Ytifcgimpgbeocaa
/- The reference's without, there. -/
set_option linter.unusedVariables false
set_option linter.unusedSimpArgs false
namespace Go.Proofs.Ytifcgimpgbeocaa
open Go.RowKit
attribute [local go_sem] Oper.semAt_some
/-- A record laid in a block of its own reads as a row of one. -/
theorem laid_one (w : World) (r : Rec) : ∀ j u, (encR [r])[j]? = some u → (w.alloc (.cells #[strV r.1, strV r.2] 59)).cell? ⟨w.heap.size, j, none⟩ = some u := fun j u hj => by
  match j, hj with
  | 0, hj => simp only [encR_cons, List.cons_append, List.getElem?_cons_zero, Option.some.injEq] at hj; rw [← hj]; exact cell_new _ _ _ 0 _ rfl
  | 1, hj => simp only [encR_cons, List.cons_append, List.getElem?_cons_zero, List.getElem?_cons_succ, Option.some.injEq] at hj; rw [← hj]; exact cell_new _ _ _ 1 _ rfl
  | j + 2, hj => simp [encR_cons, encR_nil] at hj
set_option maxHeartbeats 1000000 in
set_option maxRecDepth 100000 in
theorem rwithout_any (d : Ds) (v : Value) (key : Bs) (w : World) (hR : RdR w v d) (hl : d.length ≤ 64) : Calls Try.prog 93 #[v, strV key] w (OwnR (withoutR d key) w) := by
  have hwo : withoutR d key = d.filter (fun r => r.1 != key) := rfl
  rw [hwo]
  obtain ⟨o, cap, rfl, hcap, hc⟩ := hR
  have HCC := hid hc
  obtain ⟨N, hN⟩ : ∃ N, d.length = N := ⟨_, rfl⟩
  rw [hN] at hl hcap ⊢
  have HN := hid hN
  clear hc hN hwo
  obtain ⟨B, hBB⟩ : ∃ B, w.heap.size = B := ⟨_, rfl⟩
  have HBB := hid hBB
  have HO0 := hid (oR_new w B (by omega))
  have HB0 := hid ((Below.refl w.heap.size w).alloc (Nat.le_refl _) (.cells #[] 59))
  clear hBB
  go_enter Try.func93, Try.ntmps93
  go_wp2_with fail
  go_loopw [5, 6] (fun u i wr => ∃ k : Nat, i = .int .i64 k ∧ k ≤ N ∧ Hid (OR wr B u ((d.take k).filter (fun r => r.1 != key))) ∧ Hid (Below B w wr) ∧ B ≤ wr.heap.size) (fun _ i _ => N - (intOf i).toNat)
  case atStart => exact ⟨0, rfl, Nat.zero_le _, HO0, by have := HB0.out; rw [HBB.out] at this; exact this, by have := HBB.out; simp; omega⟩
  case round =>
    obtain ⟨k, rfl, hk, HO, HB, hz⟩ := hrel
    by_cases hlt : k < N
    rotate_left
    · have e : d.take k = d := List.take_of_length_le (by have := HN.out; omega)
      have hO := HO.out
      rw [e] at hO
      have HO2 := hid hO
      clear e hO
      go_wp2_with fail
      go_ret
      exact ⟨_, rfl, by rw [HBB.out]; exact HO2.out, by rw [HBB.out]; exact HB.out⟩
    obtain ⟨r, hr⟩ : ∃ r, d[k]? = some r := ⟨_, List.getElem?_eq_getElem (by have := HN.out; omega)⟩
    have hHC := HCC.out
    rcases hHC with hc | ⟨b1, off, rfl, hbl, hc⟩
    · rw [hc] at hr; simp at hr
    obtain ⟨c0, c1⟩ := hc k r hr
    have hbB : b1 < B := by have := HBB.out; omega
    have c0 := keepB HB.out (a := ⟨b1, off + k * 2, none⟩) hbB c0
    have c1 := keepB HB.out (a := ⟨b1, off + k * 2 + 1, none⟩) hbB c1
    have HF := hid (filter_succ hr (fun r => r.1 != key))
    by_cases hq : r.1 = key
    · have g1 : (r.1 == key) = true := by rw [beq_iff_eq]; exact hq
      have g2 : (r.1 != key) = false := by simp [hq]
      have HO2 : Hid (OR wr B u5 ((d.take (k + 1)).filter (fun r => r.1 != key))) := by unfold Hid; rw [HF.out, g2, if_neg (by simp), List.append_nil]; exact HO.out
      clear hc hr HF hq
      go_wp2_with fail
      go_roundw
      case rel => exact ⟨k + 1, by go_num, by omega, HO2, HB, hz⟩
      case measure => simp [intOf]; omega
    · have g1 : (r.1 == key) = false := by rw [beq_eq_false_iff_ne]; exact hq
      have g2 : (r.1 != key) = true := by simpa using hq
      have HF2 : Hid ((d.take (k + 1)).filter (fun r => r.1 != key) = (d.take k).filter (fun r => r.1 != key) ++ [r]) := by unfold Hid; rw [HF.out, g2, if_pos rfl]
      have HLF := hid (show ((d.take k).filter (fun r => r.1 != key)).length ≤ 1000000 by
        have := List.length_filter_le (fun r : Rec => r.1 != key) (d.take k)
        have := List.length_take_le k d
        omega)
      have HY1 := hid (laid_one wr r)
      have HO3 := hid (HO.out.below ((Below.refl _ _).alloc (Nat.le_refl _) (.cells #[strV r.1, strV r.2] 59)))
      have HB3 := hid (HB.out.alloc hz (.cells #[strV r.1, strV r.2] 59))
      have HZ3 := hid (show B ≤ (wr.alloc (.cells #[strV r.1, strV r.2] 59)).heap.size by simp; omega)
      clear hc hr HF hq
      go_wp2_with (at_builtin; refine appR rfl _ _ rfl B _ ((d.take k).filter (fun r => r.1 != key)) r _ _ rfl rfl HO3.out HY1.out HLF.out HZ3.out ?_)
      intro v7 w7 hop7 hg7
      have HB7 := hid (HO3.out.grown HB3.out hg7 HZ3.out)
      have hz7 : B ≤ w7.heap.size := by have := hg7.size; simp at this; omega
      have HO7 : Hid (OR w7 B v7 ((d.take (k + 1)).filter (fun r => r.1 != key))) := by unfold Hid; rw [HF2.out]; exact hop7
      clear hop7 hg7
      go_wp2_with fail
      go_roundw
      case rel => exact ⟨k + 1, by go_num, by omega, HO7, HB7, hz7⟩
      case measure => simp [intOf]; omega
theorem rthere_any (d : Ds) (v : Value) (key : Bs) (w : World) (hR : RdR w v d) (hd : isDs d = true) : Calls Try.prog 91 #[v, strV key] w (Ret (.bool (hasD d key)) w) := by
  have HW := hid (rwithout_any d v key w hR (isDs_len hd))
  have ht := there_iff (k := key) (isDs_sorted hd)
  rw [← ht]
  obtain ⟨o, cap, rfl, -, -⟩ := hR
  obtain ⟨N, hN⟩ : ∃ N, d.length = N := ⟨_, rfl⟩
  obtain ⟨M, hM⟩ : ∃ M, withoutR d key = M := ⟨_, rfl⟩
  rw [hN, hM] at HW ⊢
  clear ht hN hM hd
  go_enter Try.func91, Try.ntmps91
  go_wp2_with fail
  refine (HW.out).mono ?_
  rintro e w1 ⟨u1, rfl, ho1, hb1⟩
  obtain ⟨o1, cap1, rfl, -, -⟩ := ho1.rd
  have HB1 := hid hb1
  clear hb1 ho1
  go_wp2_with fail
  go_ret
  exact ⟨ret_bool (decide_eq_decide.2 (by omega)), HB1.out⟩
end Go.Proofs.Ytifcgimpgbeocaa
/- The reference's with. -/
set_option linter.unusedVariables false
set_option linter.unusedSimpArgs false
namespace Go.Proofs.Ytifcgimpgbeocaa
open Go.RowKit
attribute [local go_sem] Oper.semAt_some
theorem gtr_eq (a b : Bs) : (!(Op.bytesLess a b || a == b)) = ltB b a := by rw [leq_eq]; simp
theorem gtr_yes {a b : Bs} (h : ltB b a = true) : Op.bytesLess a b = false ∧ (a == b) = false := ⟨ltB_asymm h, by rw [beq_eq_false_iff_ne]; exact (ne_of_ltB h).symm⟩
theorem le_cases {a b : Bs} (h : ltB b a = false) : (Op.bytesLess a b = true ∧ True) ∨ (Op.bytesLess a b = false ∧ (a == b) = true) := by
  cases e : ltB a b with
  | true => exact .inl ⟨e, trivial⟩
  | false => exact .inr ⟨e, by rw [beq_iff_eq]; exact ltB_tri e h⟩
set_option maxHeartbeats 2000000 in
set_option maxRecDepth 100000 in
theorem rwith_any (d : Ds) (v : Value) (x : Rec) (w : World) (hR : RdR w v d) (hl : d.length ≤ 64) : Calls Try.prog 92 #[v, recV x] w (OwnR (withR d x) w) := by
  have hwo : withR d x = d.filter (fun y => ltB y.1 x.1) ++ [x] ++ d.filter (fun y => ltB x.1 y.1) := rfl
  rw [hwo]
  obtain ⟨o, cap, rfl, hcap, hc⟩ := hR
  have HCC := hid hc
  obtain ⟨N, hN⟩ : ∃ N, d.length = N := ⟨_, rfl⟩
  rw [hN] at hl hcap ⊢
  have HN := hid hN
  clear hc hN hwo
  obtain ⟨B, hBB⟩ : ∃ B, w.heap.size = B := ⟨_, rfl⟩
  have HBB := hid hBB
  have HX0 := hid (cell_new w #[strV x.1, strV x.2] 59 0 (strV x.1) rfl)
  have HX1 := hid (cell_new w #[strV x.1, strV x.2] 59 1 (strV x.2) rfl)
  have HB0 := hid ((Below.refl w.heap.size w).alloc (Nat.le_refl _) (.cells #[strV x.1, strV x.2] 59))
  have hO0 := oR_new (w.alloc (.cells #[strV x.1, strV x.2] 59)) (B + 1) (by rw [World.size_alloc]; omega)
  rw [World.size_alloc, hBB] at hO0
  have HO0 := hid hO0
  clear hO0
  have HB0' := hid (HB0.out.alloc HB0.out.size (.cells #[] 59))
  have HX0' := hid (Lib.cell?_alloc_some (.cells #[] 59) HX0.out)
  have HX1' := hid (Lib.cell?_alloc_some (.cells #[] 59) HX1.out)
  have HS0 := hid (show B + 1 ≤ ((w.alloc (.cells #[strV x.1, strV x.2] 59)).alloc (.cells #[] 59)).heap.size by simp; omega)
  rw [hBB] at HB0' HX0' HX1'
  clear HX0 HX1
  go_enter Try.func92, Try.ntmps92
  go_wp2_with fail
  try simp only [hBB]
  clear hBB
  go_loopw [5, 6] (fun u i wr => ∃ k : Nat, i = .int .i64 k ∧ k ≤ N ∧ Hid (OR wr (B + 1) u ((d.take k).filter (fun y => ltB y.1 x.1))) ∧ Hid (Below B w wr) ∧ B + 1 ≤ wr.heap.size ∧ wr.cell? ⟨B, 0, none⟩ = some (strV x.1) ∧ wr.cell? ⟨B, 1, none⟩ = some (strV x.2)) (fun _ i _ => N - (intOf i).toNat)
  case atStart => exact ⟨0, rfl, Nat.zero_le _, HO0, HB0', HS0.out, HX0'.out, HX1'.out⟩
  case round =>
    obtain ⟨k, rfl, hk, HO, HB, hz, x0, x1⟩ := hrel
    by_cases hlt : k < N
    rotate_left
    · have e : d.take k = d := List.take_of_length_le (by have := HN.out; omega)
      have hO := HO.out
      rw [e] at hO
      have HO2 := hid hO
      clear e hO HO
      have HLF := hid (show (d.filter (fun y => ltB y.1 x.1)).length ≤ 1000000 by
        have := List.length_filter_le (fun y : Rec => ltB y.1 x.1) d
        have := HN.out
        omega)
      have HY1 := hid (laid_one wr x)
      have HO3 := hid (HO2.out.below ((Below.refl _ _).alloc (Nat.le_refl _) (.cells #[strV x.1, strV x.2] 59)))
      have HB3 := hid ((HB.out.mono (Nat.le_refl _)).alloc (by omega) (.cells #[strV x.1, strV x.2] 59))
      have HZ3 := hid (show B + 1 ≤ (wr.alloc (.cells #[strV x.1, strV x.2] 59)).heap.size by simp; omega)
      go_wp2_with (at_builtin; refine appR rfl _ _ rfl (B + 1) _ (d.filter (fun y => ltB y.1 x.1)) x _ _ rfl rfl HO3.out HY1.out HLF.out HZ3.out ?_)
      intro v7 w7 hop7 hg7
      have HB7 := hid (HB3.out.grown hg7 (by simp; omega) (fun k hk => by have := HO3.out.own k hk; omega))
      have hz7 : B + 1 ≤ w7.heap.size := by have := hg7.size; simp at this; omega
      have hneB : some B ≠ v7.ownBlock := fun e => by have := (World.ownsRow.lt hop7 _ e.symm).1; omega
      have x0 : w7.cell? ⟨B, 0, none⟩ = some (strV x.1) := hg7.cell (Lib.cell?_alloc_some _ x0) (fun e => by have := (World.ownsRow.lt HO3.out _ e.symm).1; simp only at this; omega)
      have HO7 : Hid (OR w7 (B + 1) v7 (d.filter (fun y => ltB y.1 x.1) ++ [x] ++ (d.take 0).filter (fun y => ltB x.1 y.1))) := by unfold Hid; rw [List.take_zero, List.filter_nil, List.append_nil]; exact hop7
      clear hop7 hg7 hneB HO3 HB3 HZ3 HY1 HO2 HLF x1
      go_wp2_with fail
      go_loopw [5, 7] (fun u i wr => ∃ k : Nat, i = .int .i64 k ∧ k ≤ N ∧ Hid (OR wr (B + 1) u (d.filter (fun y => ltB y.1 x.1) ++ [x] ++ (d.take k).filter (fun y => ltB x.1 y.1))) ∧ Hid (Below B w wr) ∧ B + 1 ≤ wr.heap.size ∧ wr.cell? ⟨B, 0, none⟩ = some (strV x.1)) (fun _ i _ => N - (intOf i).toNat)
      case atStart => exact ⟨0, rfl, Nat.zero_le _, HO7, HB7, hz7, x0⟩
      case round =>
        clear HO7 HB7 hz7 x0 HB hz
        obtain ⟨j, rfl, hj, HO, HB, hz, x0⟩ := hrel
        by_cases hlt2 : j < N
        rotate_left
        · have e : d.take j = d := List.take_of_length_le (by have := HN.out; omega)
          have hO := HO.out
          rw [e] at hO
          have HO2 := hid (hO.mono (B' := B) (by omega))
          clear e hO
          go_wp2_with fail
          go_ret
          exact ⟨_, rfl, by rw [HBB.out]; exact HO2.out, by rw [HBB.out]; exact HB.out⟩
        obtain ⟨r, hr⟩ : ∃ r, d[j]? = some r := ⟨_, List.getElem?_eq_getElem (by have := HN.out; omega)⟩
        have hHC := HCC.out
        rcases hHC with hc | ⟨b1, off, rfl, hbl, hc⟩
        · rw [hc] at hr; simp at hr
        obtain ⟨c0, c1⟩ := hc j r hr
        have hbB : b1 < B := by have := HBB.out; omega
        have c0 := keepB HB.out (a := ⟨b1, off + j * 2, none⟩) hbB c0
        have c1 := keepB HB.out (a := ⟨b1, off + j * 2 + 1, none⟩) hbB c1
        have HF := hid (filter_succ hr (fun y => ltB x.1 y.1))
        have HBD := hid (fun n => below_drewN HB.out n)
        have HOD := hid (fun n => HO.out.below (below_drewN (Below.refl _ _) n))
        have hgt := gtr_eq r.1 x.1
        cases hq : ltB x.1 r.1 with
        | true =>
          obtain ⟨g1, g2⟩ := gtr_yes (a := r.1) (b := x.1) hq
          have HF2 : Hid ((d.take (j + 1)).filter (fun y => ltB x.1 y.1) = (d.take j).filter (fun y => ltB x.1 y.1) ++ [r]) := by unfold Hid; rw [HF.out]; simp only [hq, if_true]
          have HLF := hid (show (d.filter (fun y => ltB y.1 x.1) ++ [x] ++ (d.take j).filter (fun y => ltB x.1 y.1)).length ≤ 1000000 by
            have := List.length_filter_le (fun y => ltB x.1 y.1) (d.take j)
            have := List.length_filter_le (fun y : Rec => ltB y.1 x.1) d
            have := List.length_take_le j d
            have := HN.out
            try simp only [List.length_append, List.length_cons, List.length_nil]
            omega)
          clear hc hr HF hq
          go_wp2_with fail
          go_quiet (fail)
          obtain ⟨W1, hW1⟩ : ∃ W1, wr.drewN nq = W1 := ⟨_, rfl⟩
          have HO1 : Hid (OR W1 (B + 1) u5 (d.filter (fun y => ltB y.1 x.1) ++ [x] ++ (d.take j).filter (fun y => ltB x.1 y.1))) := by rw [← hW1]; exact HOD.out nq
          have HB1 : Hid (Below B w W1) := by rw [← hW1]; exact HBD.out nq
          have hz1 : B + 1 ≤ W1.heap.size := by rw [← hW1]; exact hz
          have x0w : W1.cell? ⟨B, 0, none⟩ = some (strV x.1) := by rw [← hW1]; exact x0

          have c0 : W1.cell? ⟨b1, off + j * 2, none⟩ = some (strV r.1) := by rw [← hW1]; exact c0
          have c1 : W1.cell? ⟨b1, off + j * 2 + 1, none⟩ = some (strV r.2) := by rw [← hW1]; exact c1
          rw [hW1]
          clear hW1 HOD HBD
          have HY1 := hid (laid_one W1 r)
          have HO3 := hid (HO1.out.below ((Below.refl _ _).alloc (Nat.le_refl _) (.cells #[strV r.1, strV r.2] 59)))
          have HB3 := hid (HB1.out.alloc (by omega) (.cells #[strV r.1, strV r.2] 59))
          have HZ3 := hid (show B + 1 ≤ (W1.alloc (.cells #[strV r.1, strV r.2] 59)).heap.size by simp; omega)
          go_wp2_with (at_builtin; refine appR rfl _ _ rfl (B + 1) _ (d.filter (fun y => ltB y.1 x.1) ++ [x] ++ (d.take j).filter (fun y => ltB x.1 y.1)) r _ _ rfl rfl HO3.out HY1.out HLF.out HZ3.out ?_)
          intro v7 w7 hop7 hg7
          have HB7 := hid (HB3.out.grown hg7 (by simp; omega) (fun k hk => by have := HO3.out.own k hk; omega))
          have hz7 : B + 1 ≤ w7.heap.size := by have := hg7.size; simp at this; omega
          have x0z : w7.cell? ⟨B, 0, none⟩ = some (strV x.1) := hg7.cell (Lib.cell?_alloc_some _ x0w) (fun e => by have := (World.ownsRow.lt HO3.out _ e.symm).1; simp only at this; omega)

          have HO7 : Hid (OR w7 (B + 1) v7 (d.filter (fun y => ltB y.1 x.1) ++ [x] ++ (d.take (j + 1)).filter (fun y => ltB x.1 y.1))) := by unfold Hid; rw [HF2.out]; simpa only [List.append_assoc, List.cons_append, List.nil_append] using hop7
          clear hop7 hg7
          go_wp2_with fail
          go_roundw
          case rel => exact ⟨j + 1, by go_num, by omega, HO7, HB7, hz7, x0z⟩
          case measure => simp [intOf]; omega
        | false =>
          have hle := hq
          have HF2 : Hid ((d.take (j + 1)).filter (fun y => ltB x.1 y.1) = (d.take j).filter (fun y => ltB x.1 y.1)) := by unfold Hid; rw [HF.out]; simp only [hq, Bool.false_eq_true, if_false, List.append_nil]
          clear hc hr HF hq
          rcases le_cases hle with ⟨g1, -⟩ | ⟨g1, g2⟩
          all_goals
            go_wp2_with fail
            go_quiet (fail)
            go_wp2_with fail
            go_roundw
            case rel => exact ⟨j + 1, by go_num, by omega, by unfold Hid; rw [HF2.out]; exact HOD.out _, HBD.out _, hz, x0⟩
            case measure => simp [intOf]; omega
    obtain ⟨r, hr⟩ : ∃ r, d[k]? = some r := ⟨_, List.getElem?_eq_getElem (by have := HN.out; omega)⟩
    have hHC := HCC.out
    rcases hHC with hc | ⟨b1, off, rfl, hbl, hc⟩
    · rw [hc] at hr; simp at hr
    obtain ⟨c0, c1⟩ := hc k r hr
    have hbB : b1 < B := by have := HBB.out; omega
    have c0 := keepB HB.out (a := ⟨b1, off + k * 2, none⟩) hbB c0
    have c1 := keepB HB.out (a := ⟨b1, off + k * 2 + 1, none⟩) hbB c1
    have HF := hid (filter_succ hr (fun y => ltB y.1 x.1))
    have HBD := hid (fun n => below_drewN HB.out n)
    have HOD := hid (fun n => HO.out.below (below_drewN (Below.refl _ _) n))
    cases hq : ltB r.1 x.1 with
    | true =>
      have g1 : Op.bytesLess r.1 x.1 = true := hq
      have HF2 : Hid ((d.take (k + 1)).filter (fun y => ltB y.1 x.1) = (d.take k).filter (fun y => ltB y.1 x.1) ++ [r]) := by unfold Hid; rw [HF.out]; simp only [hq, if_true]
      have HLF := hid (show ((d.take k).filter (fun y => ltB y.1 x.1)).length ≤ 1000000 by
        have := List.length_filter_le (fun y => ltB y.1 x.1) (d.take k)
        have := List.length_filter_le (fun y : Rec => ltB y.1 x.1) d
        have := List.length_take_le k d
        have := HN.out
        try simp only [List.length_append, List.length_cons, List.length_nil]
        omega)
      clear hc hr HF hq
      go_wp2_with fail
      go_quiet (fail)
      obtain ⟨W1, hW1⟩ : ∃ W1, wr.drewN nq = W1 := ⟨_, rfl⟩
      have HO1 : Hid (OR W1 (B + 1) u5 ((d.take k).filter (fun y => ltB y.1 x.1))) := by rw [← hW1]; exact HOD.out nq
      have HB1 : Hid (Below B w W1) := by rw [← hW1]; exact HBD.out nq
      have hz1 : B + 1 ≤ W1.heap.size := by rw [← hW1]; exact hz
      have x0w : W1.cell? ⟨B, 0, none⟩ = some (strV x.1) := by rw [← hW1]; exact x0
      have x1w : W1.cell? ⟨B, 1, none⟩ = some (strV x.2) := by rw [← hW1]; exact x1
      have c0 : W1.cell? ⟨b1, off + k * 2, none⟩ = some (strV r.1) := by rw [← hW1]; exact c0
      have c1 : W1.cell? ⟨b1, off + k * 2 + 1, none⟩ = some (strV r.2) := by rw [← hW1]; exact c1
      rw [hW1]
      clear hW1 HOD HBD
      have HY1 := hid (laid_one W1 r)
      have HO3 := hid (HO1.out.below ((Below.refl _ _).alloc (Nat.le_refl _) (.cells #[strV r.1, strV r.2] 59)))
      have HB3 := hid (HB1.out.alloc (by omega) (.cells #[strV r.1, strV r.2] 59))
      have HZ3 := hid (show B + 1 ≤ (W1.alloc (.cells #[strV r.1, strV r.2] 59)).heap.size by simp; omega)
      go_wp2_with (at_builtin; refine appR rfl _ _ rfl (B + 1) _ ((d.take k).filter (fun y => ltB y.1 x.1)) r _ _ rfl rfl HO3.out HY1.out HLF.out HZ3.out ?_)
      intro v7 w7 hop7 hg7
      have HB7 := hid (HB3.out.grown hg7 (by simp; omega) (fun k hk => by have := HO3.out.own k hk; omega))
      have hz7 : B + 1 ≤ w7.heap.size := by have := hg7.size; simp at this; omega
      have x0z : w7.cell? ⟨B, 0, none⟩ = some (strV x.1) := hg7.cell (Lib.cell?_alloc_some _ x0w) (fun e => by have := (World.ownsRow.lt HO3.out _ e.symm).1; simp only at this; omega)
      have x1z : w7.cell? ⟨B, 1, none⟩ = some (strV x.2) := hg7.cell (Lib.cell?_alloc_some _ x1w) (fun e => by have := (World.ownsRow.lt HO3.out _ e.symm).1; simp only at this; omega)
      have HO7 : Hid (OR w7 (B + 1) v7 ((d.take (k + 1)).filter (fun y => ltB y.1 x.1))) := by unfold Hid; rw [HF2.out]; simpa only [List.append_assoc, List.cons_append, List.nil_append] using hop7
      clear hop7 hg7
      go_wp2_with fail
      go_roundw
      case rel => exact ⟨k + 1, by go_num, by omega, HO7, HB7, hz7, x0z, x1z⟩
      case measure => simp [intOf]; omega
    | false =>
      have g1 : Op.bytesLess r.1 x.1 = false := hq
      have HF2 : Hid ((d.take (k + 1)).filter (fun y => ltB y.1 x.1) = (d.take k).filter (fun y => ltB y.1 x.1)) := by unfold Hid; rw [HF.out]; simp only [hq, Bool.false_eq_true, if_false, List.append_nil]
      clear hc hr HF hq
      go_wp2_with fail
      go_quiet (fail)
      go_wp2_with fail
      go_roundw
      case rel => exact ⟨k + 1, by go_num, by omega, by unfold Hid; rw [HF2.out]; exact HOD.out _, HBD.out _, hz, x0, x1⟩
      case measure => simp [intOf]; omega
end Go.Proofs.Ytifcgimpgbeocaa
