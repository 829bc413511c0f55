/- The reference's replay. -/
import Derived.Test.YtifcgimpgbeocaaGreatK27
import Derived.Test.YtifcgimpgbeocaaGreatK30
import Derived.Test.YtifcgimpgbeocaaGreatK18
import Derived.Test.YtifcgimpgbeocaaGreatK0
import Derived.Test.YtifcgimpgbeocaaGreatK2
import Derived.Test.YtifcgimpgbeocaaGreatK19
import Derived.Test.YtifcgimpgbeocaaGreatK29
set_option linter.unusedVariables false
set_option linter.unusedSimpArgs false
namespace Go.Proofs.YtifcgimpgbeocaaGreat
open Go.RowKit
attribute [local go_sem] Oper.semAt_some
theorem doData_out {data : List Ds} {o : FOp} (h : (data.length : Int) ≤ o.2.1) : (doData data o).2.2 ≠ 0 := by
  unfold doData
  rw [if_neg (fun e => by omega)]
  show (1 : Int) ≠ 0
  decide
theorem doData_err' {data : List Ds} {o : FOp} {d : Ds} (h1 : isOp o = true) (h2 : o.2.1 < (data.length : Int)) (hd : data[o.2.1.toNat]? = some d) : (doData data o).2.2 = (applyD d o).2.2 := by
  unfold doData
  rw [if_pos ⟨h1, h2⟩, hd, Option.getD_some]
  split
  · rfl
  · rfl
theorem doData_set {data : List Ds} {o : FOp} {d : Ds} (h1 : isOp o = true) (h2 : o.2.1 < (data.length : Int)) (hd : data[o.2.1.toNat]? = some d) (he : (applyD d o).2.2 = 0) : doData data o = (data.set o.2.1.toNat (applyD d o).1, (applyD d o).2) := by
  unfold doData
  rw [if_pos ⟨h1, h2⟩, hd, Option.getD_some, if_pos he]
theorem isOp_f {o : FOp} (h : isOp o = true) : 0 ≤ o.2.1 ∧ o.2.1 ≤ 7 := by
  unfold isOp at h
  simp only [Bool.and_eq_true, decide_eq_true_eq] at h
  omega
/-- What replay leaves. -/
def RetRun (r : Option (List Ds)) (w : World) (e : Ending) (w' : World) : Prop :=
  Below w.heap.size w w' ∧ (∀ data, r = some data → ∃ v, e = .returned (.tuple #[v, .bool true]) ∧ Keep (fun k => k < w.heap.size) w' (fun x => RdD x v data)) ∧ (r = none → e = .returned (.tuple #[.slice none 0 0, .bool false]))
theorem retRun_no {r : Option (List Ds)} {w w' : World} (h : r = none) (hb : Below w.heap.size w w') : RetRun r w (.returned (.tuple #[.slice none 0 0, .bool false])) w' := by
  refine ⟨hb, ?_, fun _ => rfl⟩
  intro d e
  rw [h] at e
  cases e
set_option maxHeartbeats 4000000 in
set_option maxRecDepth 100000 in
theorem rreplay_any (ops : List FOp) (v : Value) (n : Nat) (w : World) (hR : RdO w v ops) (hl : ops.length ≤ 1000000) (hn : n ≤ 8) (hop : ∀ o ∈ ops, isOp o = true) :
    Calls Tryz.prog 46 #[v, .int .i64 (n : Int)] w (RetRun (runAll (empties n) ops) w) := by
  have HOP := hid hop
  obtain ⟨oo, co, rfl, hco, hc⟩ := hR
  have HC := hid hc
  obtain ⟨M, hM⟩ : ∃ M, ops.length = M := ⟨_, rfl⟩
  have HM := hid hM
  rw [hM] at hl hco ⊢
  obtain ⟨RES, hRES⟩ : ∃ r, runAll (empties n) ops = r := ⟨_, rfl⟩
  have HRES := hid hRES
  rw [hRES]
  have hmk := run_makeV w n (by omega)
  have HDT0 := hid (DT.new (fun k => k < w.heap.size) w n (by omega))
  have HB0 : Hid (Below w.heap.size w (w.alloc (.cells (List.replicate n (.slice none 0 0)).toArray 69))) := balloc (Below.refl _ _) _
  obtain ⟨g, hg⟩ : ∃ g, w.heap.size = g := ⟨_, rfl⟩
  have HG := hid hg
  rw [hg] at hmk HDT0
  have HUL0 : Hid ((List.replicate n (Value.slice none 0 0)).length = n) := by unfold Hid; simp
  obtain ⟨us0, hus0⟩ : ∃ us, List.replicate n (Value.slice none 0 0) = us := ⟨_, rfl⟩
  obtain ⟨W0, hW0⟩ : ∃ W0, W0 = w.alloc (.cells us0.toArray 69) := ⟨_, rfl⟩
  rw [hus0] at hmk HDT0 HB0 HUL0
  rw [← hW0] at hmk HDT0 HB0
  have HRUN0 : Hid (runAll (empties n) (ops.take 0) = some (empties n)) := rfl
  clear hc hop hM hRES hg hus0 hW0
  go_enter Tryz.func46, Tryz.ntmps46
  go_wp2_with fail
  go_loopw [7] (fun i wr => ∃ (k : Nat) (us : List Value) (data : List Ds), i = .int .i64 (k : Int) ∧ k ≤ M ∧ Hid (runAll (empties n) (ops.take k) = some data) ∧ Hid (us.length = n) ∧ Hid (DT (fun k => k < g) wr g g n us data) ∧ Hid (Below w.heap.size w wr)) (fun i _ => M - (intOf i).toNat)
  case atStart => exact ⟨0, us0, empties n, rfl, Nat.zero_le _, HRUN0, HUL0, HDT0, HB0⟩
  case round =>
    clear HDT0 HB0 HUL0 HRUN0
    obtain ⟨k, us, data, rfl, hk, HRUN, HUL, HDT, HB⟩ := hrel
    have HDL : Hid (data.length = n) := by have := HDT.out.len; have := HUL.out; unfold Hid; omega
    by_cases hlt : k < M
    · have hlti : (k : Int) < (M : Int) := by omega
      obtain ⟨x, hx⟩ : ∃ x, ops[k]? = some x := ⟨_, List.getElem?_eq_getElem (by have := HM.out; omega)⟩
      have hHC := HC.out
      rcases hHC with hq | ⟨b, off, rfl, hbq, hq⟩
      · rw [hq] at hx; simp at hx
      obtain ⟨q0, q1, q2, q3⟩ := hq k x hx
      have c0 := keepc HB.out q0; have c1 := keepc HB.out q1; have c2 := keepc HB.out q2; have c3 := keepc HB.out q3
      clear q0 q1 q2 q3
      have HX := hid hx
      have HXO := hid (HOP.out x (List.mem_of_getElem? hx))
      have hx0 := (isOp_f HXO.out).1
      obtain ⟨x0, x1, x2, x3⟩ := x
      simp only at c0 c1 c2 c3 hx0
      clear hq hx
      by_cases hge : (n : Int) ≤ x1
      · have HNO : Hid (RES = none) := by
          unfold Hid; rw [← HRES.out]; exact run_stop HRUN.out HX.out (doData_out (by rw [HDL.out]; exact hge))
        go_wp2_with fail
        go_ret2
        exact retRun_no HNO.out HB.out
      obtain ⟨f, rfl⟩ : ∃ f : Nat, x1 = (f : Int) := ⟨x1.toNat, by omega⟩
      have hfn : f < n := by omega
      have hfi : (f : Int) < (n : Int) := by omega
      obtain ⟨u, hu⟩ : ∃ u, us[f]? = some u := ⟨_, List.getElem?_eq_getElem (by have := HUL.out; omega)⟩
      obtain ⟨d, hd⟩ : ∃ d, data[f]? = some d := ⟨_, List.getElem?_eq_getElem (by have := HDL.out; omega)⟩
      have hcu := HDT.out.cell hu
      have HKD := hid (HDT.out.rd f u d hu hd)
      have HAP := hid (fun w' (hb : Below wr.heap.size wr w') => rapply_any d u (x0, (f : Int), x2, x3) w' (HKD.out.now.below hb))
      have HE1 := hid (doData_err' (data := data) (o := (x0, (f : Int), x2, x3)) HXO.out (by rw [HDL.out]; exact hfi) (by rw [Int.toNat_natCast]; exact hd))
      have HE2 := hid (doData_set (data := data) (o := (x0, (f : Int), x2, x3)) HXO.out (by rw [HDL.out]; exact hfi) (by rw [Int.toNat_natCast]; exact hd))
      obtain ⟨A, hA⟩ : ∃ A, applyD d (x0, (f : Int), x2, x3) = A := ⟨_, rfl⟩
      rw [hA] at HE1 HE2 HAP
      obtain ⟨A1, ⟨A2, A3⟩, E⟩ := A
      simp only at HE1 HE2 HAP
      clear hu hd hA hx0
      go_wp2_with fail
      go_cut [8, 10] (fun v8 e10 wx => Hid (OR wx wr.heap.size v8 A1) ∧ e10 = .int .i64 E ∧ Hid (Below wr.heap.size wr wx))
      case first =>
        clear HKD HDT HRUN HUL HDL HE1 HE2 HX HXO HC HOP HM HRES
        have hbd := drew_below wr
        have hba := balloc hbd (.cells #[strV [], strV []] 59)
        go_region_held3 (fun w' => Below wr.heap.size wr w' ∧ w'.cell? ⟨b, off + k * 4, none⟩ = some (.int .i64 x0) ∧ w'.cell? ⟨b, off + k * 4 + 1, none⟩ = some (.int .i64 (f : Int)) ∧ w'.cell? ⟨b, off + k * 4 + 2, none⟩ = some (strV x2) ∧ w'.cell? ⟨b, off + k * 4 + 3, none⟩ = some (strV x3) ∧ w'.cell? ⟨g, f, none⟩ = some u)
          ((refine (fun hS => ⟨hS, keepc hS c0, keepc hS c1, keepc hS c2, keepc hS c3, keepc hS hcu⟩ : Below wr.heap.size wr _ → _) ?_; first | exact hbd | exact hbx | exact hbx.alloc hbx.size _ | exact (hbx.setCell (Nat.le_refl _) _).setCell (Nat.le_refl _) _ | exact hba))
          (first
            | (go_at_call 52; refine (HAP.out _ hba).mono ?_; rintro e w7 ⟨v7, rfl, ho7, hb7⟩; have oo0 : OwnC w7 ⟨wr.heap.size, 0, none⟩ := keepOwn hb7 (ownc_new wr.drew #[strV [], strV []] 59 0 (by decide)); have oo1 : OwnC w7 ⟨wr.heap.size, 1, none⟩ := keepOwn hb7 (ownc_new wr.drew #[strV [], strV []] 59 1 (by decide)); obtain ⟨⟨z0, y0⟩, f0⟩ := oo0; obtain ⟨⟨z1, y1⟩, f1⟩ := oo1; have hbx : Below wr.heap.size wr w7 := below_step hb7 hba; have HO7 := hid (OR.mono ho7 (B' := wr.heap.size + 1) (by simp)); clear ho7)
            | (go_at_call 52; refine (HAP.out _ hbd).mono ?_; rintro e w7 ⟨v7, rfl, ho7, hb7⟩; have hbx : Below wr.heap.size wr w7 := below_step hb7 hbd; have HO7 := hid ho7; clear ho7)
            | (fail "x"))
        · have hz := hbx.size
          have HO8 := hid (HO7.out.below (balloc (Below.refl _ _) (.cells #[strV A2, strV A3] 59)))
          have HB8 := hid (hbx.alloc hz (.cells #[strV A2, strV A3] 59))
          go_wp2_with fail
          go_meet
          case rel => first
            | exact ⟨HO8.out, rfl, HB8.out⟩
            | exact ⟨OR.mono HO8.out (by simp), rfl, HB8.out⟩
        · have HO8 : Hid (OR ((w7.setCell ⟨wr.heap.size, 0, none⟩ (strV A2)).setCell ⟨wr.heap.size, 1, none⟩ (strV A3)) (wr.heap.size + 1) v7 A1) := ownsRow_setCell_below (ownsRow_setCell_below HO7.out (a := ⟨wr.heap.size, 0, none⟩) (by simp only; omega) (strV A2)) (a := ⟨wr.heap.size, 1, none⟩) (by simp only; omega) (strV A3)
          have HB8 := hid ((hbx.setCell (p := ⟨wr.heap.size, 0, none⟩) (Nat.le_refl _) (strV A2)).setCell (p := ⟨wr.heap.size, 1, none⟩) (Nat.le_refl _) (strV A3))
          go_wp2_with fail
          go_meet
          case rel => exact ⟨OR.mono HO8.out (by omega), rfl, HB8.out⟩
      case rest =>
        obtain ⟨HO, rfl, HB7⟩ := hcut
        have HDT7 := hid (HDT.out.below HB7.out)
        have HB8 := hid (below_step HB7.out HB.out)
        by_cases hE : E = 0
        · subst hE
          have c1 := keepc HB7.out c1
          obtain ⟨o8, n8, c8, rfl⟩ : ∃ o n c, u8 = .slice o n c := by obtain ⟨o, c, e, -⟩ := HO.out.rd; exact ⟨o, _, c, e⟩
          have HKV : Hid (Keep (fun k => k = g ∨ k < g) wc (fun x => RdR x (.slice o8 n8 c8) A1)) := keep_R HO.out (fun k hk e => by have h1 := (World.ownsRow.lt HO.out k hk).1; have h2 := HDT.out.glt; omega)
          have HSET := hid (HDT7.out.set (i := f) (by have := HUL.out; omega) HKV.out)
          have HST := hid (HE2.out rfl)
          have HRUN2 : Hid (runAll (empties n) (ops.take (k + 1)) = some (data.set f A1)) := by
            have h1 := run_one HRUN.out HX.out HE1.out
            have h2 := HST.out
            rw [h2] at h1
            simp only [Int.toNat_natCast] at h1
            exact h1
          obtain ⟨W9, hW9⟩ : ∃ W9, W9 = wc.setCell ⟨g, f, none⟩ (.slice o8 n8 c8) := ⟨_, rfl⟩
          have HB9 : Hid (Below w.heap.size w W9) := by rw [hW9]; exact HB8.out.setCell (by have := HDT.out.glt; have := HG.out; simp only; omega) _
          have hcg := HDT7.out.cell (List.getElem?_eq_getElem (by have := HUL.out; omega : f < us.length))
          have hfg := HDT7.out.fz (by have := HUL.out; omega : f < us.length)
          have HUL2 : Hid ((us.set f (.slice o8 n8 c8)).length = n) := by unfold Hid; rw [List.length_set]; exact HUL.out
          rw [← hW9] at HSET
          have HW9 := hid hW9
          clear hW9 HKV HST HE1 HE2
          go_upto_region 4 with fail
          have e9 := HW9.out
          simp only [← e9]
          clear e9 HW9 hcg hfg
          go_wp2_with fail
          go_roundw
          case rel => exact ⟨k + 1, _, _, by go_num, by omega, HRUN2, HUL2, HSET, HB9⟩
          case measure => simp [intOf]; omega
        · have g1 : (E != 0) = true := by simpa using hE
          have g2 : (E == 0) = false := by simpa using hE
          have HNO : Hid (RES = none) := by
            unfold Hid; rw [← HRES.out]; exact run_stop HRUN.out HX.out (by rw [HE1.out]; exact hE)
          go_wp2_with fail
          go_ret2
          exact retRun_no HNO.out HB8.out
    · have hkM : k = M := by omega
      have hge : ¬ (k : Int) < (M : Int) := by omega
      have HEND : Hid (RES = some data) := by
        unfold Hid; rw [← HRES.out, ← HRUN.out, List.take_of_length_le (by have := HM.out; omega)]
      have HRD : Hid (Keep (fun k => k < w.heap.size) wr (fun x => RdD x (.slice (some ⟨g, 0, none⟩) n n) data)) := by have h := HDT.out.keep (by omega); rw [HUL.out] at h; exact h.step (Frm.refl _ _) (fun k hk => .inl (by have := HG.out; omega))
      go_wp2_with fail
      go_ret2
      refine ⟨HB.out, ?_, ?_⟩
      · intro dd hdd
        rw [HEND.out] at hdd
        cases hdd
        exact ⟨_, rfl, HRD.out⟩
      · intro hn
        rw [HEND.out] at hn
        cases hn
end Go.Proofs.YtifcgimpgbeocaaGreat
/- Plain: Decode by the place in the bytes. -/
set_option linter.unusedVariables false
set_option linter.unusedSimpArgs false
namespace Go.Proofs.YtifcgimpgbeocaaGreat
open Go.RowKit
def bt (s : Bs) (i : Nat) : Nat := ((s[i]?).getD 0).toNat
theorem bt_lt (s : Bs) (i : Nat) : bt s i < 256 := UInt8.toNat_lt _
def cutB (s : Bs) (a n : Nat) : Bs := (s.drop a).take n
theorem drop1 {s : Bs} {a : Nat} (h : a < s.length) : s.drop a = (s[a]?).getD 0 :: s.drop (a + 1) := by
  rw [List.drop_eq_getElem_cons h, List.getElem?_eq_getElem h]
  rfl
theorem drop3 {s : Bs} {a : Nat} (h : a + 3 ≤ s.length) : s.drop a = (s[a]?).getD 0 :: (s[a + 1]?).getD 0 :: (s[a + 2]?).getD 0 :: s.drop (a + 3) := by
  rw [drop1 (by omega), drop1 (a := a + 1) (by omega), drop1 (a := a + 1 + 1) (by omega)]
theorem dec_short {s : Bs} {a : Nat} (h : a < s.length) (h2 : s.length < a + 3) : decL (s.drop a) = none := by
  have hl : (s.drop a).length < 3 := by rw [List.length_drop]; omega
  have hl0 : 0 < (s.drop a).length := by rw [List.length_drop]; omega
  match hs : s.drop a, hl, hl0 with
  | [x], _, _ => rw [decL_cons]; rfl
  | [x, y], _, _ => rw [decL_cons]; rfl
theorem dec_key {s : Bs} {a : Nat} (h : a + 3 ≤ s.length) (h2 : s.length < a + 3 + bt s (a + 2)) : decL (s.drop a) = none := by
  rw [drop3 h, decL_cons, dec1_cons, if_neg (by unfold bt at h2; rw [List.length_drop]; omega)]
def opAt (s : Bs) (a : Nat) (d : Bs) : FOp := ((bt s a : Int), (bt s (a + 1) : Int), cutB s (a + 3) (bt s (a + 2)), d)
theorem dec_one {s : Bs} {a : Nat} (h : a + 3 + bt s (a + 2) ≤ s.length) : dec1 (s.drop a) = if bt s a = 5 then some (opAt s a [], s.drop (a + 3 + bt s (a + 2))) else match s.drop (a + 3 + bt s (a + 2)) with
    | m :: q => if m.toNat ≤ q.length then some (opAt s a (q.take m.toNat), q.drop m.toNat) else none
    | [] => none := by
  have h3 : a + 3 ≤ s.length := by omega
  rw [drop3 h3, dec1_cons, if_pos (by unfold bt at h; rw [List.length_drop]; omega)]
  have e : ∀ n, (s.drop (a + 3)).drop n = s.drop (a + 3 + n) := fun n => by rw [List.drop_drop]
  rw [e]
  rfl
theorem dec_bad {s : Bs} {a : Nat} {o : FOp} {r : Bs} (ha : a < s.length) (h : dec1 (s.drop a) = some (o, r)) (hc : chg o = false) : decL (s.drop a) = none := by
  rw [drop1 ha, decL_cons, ← drop1 ha, h]
  simp only
  rw [if_neg (by rw [hc]; simp)]
theorem dec_nodata {s : Bs} {a : Nat} (h : a + 3 + bt s (a + 2) ≤ s.length) (h5 : bt s a ≠ 5) (hd : s.length ≤ a + 3 + bt s (a + 2) ∨ s.length < a + 3 + bt s (a + 2) + 1 + bt s (a + 3 + bt s (a + 2))) : decL (s.drop a) = none := by
  have h1 := dec_one h
  rw [if_neg h5] at h1
  have ha : a < s.length := by omega
  have hn : dec1 (s.drop a) = none := by
    rw [h1]
    generalize a + 3 + bt s (a + 2) = b at *
    rcases Nat.lt_or_ge b s.length with hb | hb
    · rw [drop1 hb]
      simp only
      rw [if_neg]
      rw [List.length_drop]
      unfold bt at hd
      omega
    · rw [List.drop_eq_nil_of_le hb]
  rw [drop1 ha, decL_cons, ← drop1 ha, hn]
theorem dec_data {s : Bs} {a : Nat} (h5 : bt s a ≠ 5) (hd : a + 3 + bt s (a + 2) + 1 + bt s (a + 3 + bt s (a + 2)) ≤ s.length) :
    dec1 (s.drop a) = some (opAt s a (cutB s (a + 3 + bt s (a + 2) + 1) (bt s (a + 3 + bt s (a + 2)))), s.drop (a + 3 + bt s (a + 2) + 1 + bt s (a + 3 + bt s (a + 2)))) := by
  have h1 := dec_one (s := s) (a := a) (by omega)
  rw [if_neg h5] at h1
  rw [h1]
  generalize a + 3 + bt s (a + 2) = b at *
  rw [drop1 (a := b) (by omega)]
  simp only
  rw [if_pos (by rw [List.length_drop]; unfold bt at hd; omega), List.drop_drop]
  rfl
theorem dec_next {s : Bs} {a b : Nat} {o : FOp} (ha : a < s.length) (h : dec1 (s.drop a) = some (o, s.drop b)) (hc : chg o = true) : decL (s.drop a) = (decL (s.drop b)).map (o :: ·) := by
  have h2 := enc_dec1 h
  rw [h2, decL_step hc]
end Go.Proofs.YtifcgimpgbeocaaGreat
/- The reference's Changes. -/
set_option linter.unusedVariables false
set_option linter.unusedSimpArgs false
namespace Go.Proofs.YtifcgimpgbeocaaGreat
open Go.RowKit
attribute [local go_sem] Oper.semAt_some
theorem rchanges_any (k : Int) (w : World) : Calls Tryz.prog 53 #[.int .i64 k] w (Ret (.bool (decide (3 ≤ k ∧ k ≤ 5))) w) := by
  by_cases h3 : k = 3
  · subst h3
    go_enter Tryz.func53, Tryz.ntmps53
    go_wp2
    go_ret
    exact ⟨rfl, Below.refl _ _⟩
  by_cases h4 : k = 4
  · subst h4
    go_enter Tryz.func53, Tryz.ntmps53
    go_wp2
    go_ret
    exact ⟨rfl, Below.refl _ _⟩
  have e3 : (k == 3) = false := by rw [beq_eq_false_iff_ne]; exact h3
  have e4 : (k == 4) = false := by rw [beq_eq_false_iff_ne]; exact h4
  have e : decide (3 ≤ k ∧ k ≤ 5) = (k == 5) := by
    by_cases h5 : k = 5
    · subst h5; rfl
    · have h : (k == 5) = false := by rw [beq_eq_false_iff_ne]; exact h5
      rw [h]; simp; omega
  rw [e]
  clear e h3 h4
  go_enter Tryz.func53, Tryz.ntmps53
  go_wp2
  go_ret
  exact ⟨rfl, Below.refl _ _⟩
end Go.Proofs.YtifcgimpgbeocaaGreat
/- The reference's Decode. -/
set_option linter.unusedVariables false
set_option linter.unusedSimpArgs false
namespace Go.Proofs.YtifcgimpgbeocaaGreat
open Go.RowKit
attribute [local go_sem] Oper.semAt_some
theorem ext_cut (s : Bs) (a n : Nat) (h : a + n ≤ s.length) : (⟨s.toArray⟩ : ByteArray).extract a (a + n) = ⟨(cutB s a n).toArray⟩ := by
  apply ByteArray.ext
  rw [ByteArray.data_extract]
  simp [cutB]
theorem cutB_len {s : Bs} {a n : Nat} (h : a + n ≤ s.length) : (cutB s a n).length = n := by
  unfold cutB
  rw [List.length_take, List.length_drop]
  omega
theorem ix_at (s : Bs) (j : Nat) (h : j < s.length) (w : World) : (Instr.index 9 (strV s) (.int .i64 (j : Int))).run Tryz.prog w = .ok (.int .u8 (bt s j : Int)) w := strv_at s j .i64 h w
/-- An operation in block Z. -/
def OpC (w : World) (Z : Nat) (o : FOp) : Prop := w.cell? ⟨Z, 0, none⟩ = some (.int .i64 o.1) ∧ w.cell? ⟨Z, 1, none⟩ = some (.int .i64 o.2.1) ∧ w.cell? ⟨Z, 2, none⟩ = some (strV o.2.2.1) ∧ w.cell? ⟨Z, 3, none⟩ = some (strV o.2.2.2)
theorem decodeD_big {s : Bs} (h : ¬ s.length ≤ 131072) : decodeD s = ([], 145) := by unfold decodeD; rw [if_neg h]
theorem decodeD_no {s : Bs} (h : decL s = none) : decodeD s = ([], 145) := by unfold decodeD; rw [h]; split <;> rfl
theorem decodeD_yes {s : Bs} {l : List FOp} (h2 : s.length ≤ 131072) (h : decL s = some l) : decodeD s = (l, 0) := by unfold decodeD; rw [if_pos h2, h]
set_option maxHeartbeats 4000000 in
set_option maxRecDepth 100000 in
theorem rdecode_any (s : Bs) (w : World) (hsl : s.length ≤ maxLen) : Calls Tryz.prog 44 #[strV s] w (RetO (decodeD s).1 (decodeD s).2 w) := by
  unfold maxLen at hsl
  by_cases hbig : s.length ≤ 131072
  rotate_left
  · have g1 : (131072 : Int) < (s.length : Int) := by omega
    have HD := hid (decodeD_big hbig)
    clear hbig hsl
    go_enter Tryz.func44, Tryz.ntmps44
    go_wp2_with fail
    go_ret2
    rw [HD.out]
    exact ⟨_, rfl, oO_nil _ _, Below.refl _ _⟩
  have g1 : ¬ (131072 : Int) < (s.length : Int) := by omega
  have HSL := hid hbig
  have HNO := hid (fun h => decodeD_no (s := s) h)
  have HYES := hid (fun l h => decodeD_yes (s := s) (l := l) hbig h)
  have HV := hid (fun o w' => rvalid_any o w')
  have HCH := hid (fun k w' => rchanges_any k w')
  obtain ⟨B, hB⟩ : ∃ B, w.heap.size = B := ⟨_, rfl⟩
  have HBB := hid hB
  have HO0 : Hid (OO (w.alloc (.cells #[] 55)) B (.slice (some ⟨B, 0, none⟩) 0 0) []) := by
    have h := oO_new w B (by omega)
    rw [hB] at h
    exact h
  have HB0 : Hid (Below B w (w.alloc (.cells #[] 55))) := by rw [← hB]; exact balloc (Below.refl _ _) _
  have HD0 : Hid (decL s = (decL (s.drop 0)).map (([] : List FOp) ++ ·)) := by unfold Hid; rw [List.drop_zero]; cases decL s <;> simp
  clear hB hsl
  go_enter Tryz.func44, Tryz.ntmps44
  go_wp2_with fail
  rw [HBB.out]
  go_loopw [4, 5] (fun u i wr => ∃ (a : Nat) (l : List FOp), i = .int .i64 a ∧ a ≤ s.length ∧ Hid (decL s = (decL (s.drop a)).map (l ++ ·)) ∧ Hid (OO wr B u l) ∧ Hid (Below B w wr) ∧ B ≤ wr.heap.size ∧ Hid (l.length ≤ a)) (fun _ i _ => s.length - (intOf i).toNat)
  case atStart => exact ⟨0, [], rfl, Nat.zero_le _, HD0, HO0, HB0, by have := HBB.out; simp; omega, Nat.le_refl _⟩
  case round =>
    clear HO0 HB0 HD0
    obtain ⟨a, l, rfl, ha, HD, HO, HB, hz, HLA⟩ := hrel
    by_cases hlt : a < s.length
    rotate_left
    · have hge : ¬ (a : Int) < (s.length : Int) := by omega
      have HDX : Hid (decodeD s = (l, 0)) := HYES.out l (by rw [HD.out, List.drop_eq_nil_of_le (by omega), decL_nil]; simp)
      go_wp2_with fail
      go_ret2
      rw [HDX.out]
      exact ⟨_, rfl, by rw [HBB.out]; exact HO.out, by rw [HBB.out]; exact HB.out⟩
    have hlt64 : (a : Int) < (s.length : Int) := by omega
    have f3 : IntKind.i64.wrap ((a : Int) + 3) = (a : Int) + 3 := IntWalk.i64_in _ ⟨by omega, by omega⟩
    have HNX : Hid (decL (s.drop a) = none → decodeD s = ([], 145)) := fun h => HNO.out (by rw [HD.out, h]; rfl)
    by_cases h3 : s.length < a + 3
    · have hge : (s.length : Int) < (a : Int) + 3 := by omega
      have HDX := hid (HNX.out (dec_short hlt h3))
      clear h3
      go_wp2_with fail
      go_ret2
      rw [HDX.out]
      exact ⟨_, rfl, oO_nil _ _, by rw [HBB.out]; exact HB.out⟩
    have hge : ¬ (s.length : Int) < (a : Int) + 3 := by omega
    clear f3 hge
    obtain ⟨A1, hA1⟩ : ∃ A1, a + 1 = A1 := ⟨_, rfl⟩
    obtain ⟨A2, hA2⟩ : ∃ A2, a + 2 = A2 := ⟨_, rfl⟩
    obtain ⟨A3, hA3⟩ : ∃ A3, a + 3 = A3 := ⟨_, rfl⟩
    have f1 : IntKind.i64.wrap ((a : Int) + 1) = (A1 : Int) := by rw [IntWalk.i64_in _ ⟨by omega, by omega⟩]; omega
    have f2 : IntKind.i64.wrap ((a : Int) + 2) = (A2 : Int) := by rw [IntWalk.i64_in _ ⟨by omega, by omega⟩]; omega
    have f3 : IntKind.i64.wrap ((a : Int) + 3) = (A3 : Int) := by rw [IntWalk.i64_in _ ⟨by omega, by omega⟩]; omega
    have hge : ¬ (s.length : Int) < (A3 : Int) := by clear f1 f2 f3; omega
    have x0 := fun w => ix_at s a hlt w
    have x1 := fun w => ix_at s A1 (by omega) w
    have x2 := fun w => ix_at s A2 (by omega) w
    have HKEY : Hid (s.length < A3 + bt s A2 → decL (s.drop a) = none) := fun h => dec_key (a := a) (by omega) (by rw [hA2, hA3]; exact h)
    have HONE : Hid (A3 + bt s A2 ≤ s.length → bt s a = 5 → dec1 (s.drop a) = some (((bt s a : Int), (bt s A1 : Int), cutB s A3 (bt s A2), []), s.drop (A3 + bt s A2))) := fun h h5 => by
      have h1 := dec_one (s := s) (a := a) (by rw [hA2, hA3]; exact h)
      rw [if_pos h5] at h1
      unfold opAt at h1
      rw [hA1, hA2, hA3] at h1
      exact h1
    have HNOD : Hid (A3 + bt s A2 ≤ s.length → bt s a ≠ 5 → (s.length ≤ A3 + bt s A2 ∨ s.length < A3 + bt s A2 + 1 + bt s (A3 + bt s A2)) → decL (s.drop a) = none) := fun h h5 h6 => dec_nodata (a := a) (by rw [hA2, hA3]; exact h) h5 (by rw [hA2, hA3]; exact h6)
    have HTWO : Hid (bt s a ≠ 5 → A3 + bt s A2 + 1 + bt s (A3 + bt s A2) ≤ s.length → dec1 (s.drop a) = some (((bt s a : Int), (bt s A1 : Int), cutB s A3 (bt s A2), cutB s (A3 + bt s A2 + 1) (bt s (A3 + bt s A2))), s.drop (A3 + bt s A2 + 1 + bt s (A3 + bt s A2)))) := fun h5 h6 => by
      have h1 := dec_data (s := s) (a := a) h5 (by rw [hA2, hA3]; exact h6)
      unfold opAt at h1
      rw [hA1, hA2, hA3] at h1
      exact h1
    have z0 := bt_lt s a
    have z1 := bt_lt s A1
    have z2 := bt_lt s A2
    obtain ⟨K, hK⟩ : ∃ K, bt s a = K := ⟨_, rfl⟩
    obtain ⟨F, hF⟩ : ∃ F, bt s A1 = F := ⟨_, rfl⟩
    obtain ⟨n, hn⟩ : ∃ n, bt s A2 = n := ⟨_, rfl⟩
    simp only [hK, hF, hn] at x0 x1 x2 HKEY HONE HNOD HTWO z0 z1 z2
    have HA3 : Hid (a + 3 = A3) := hA3
    obtain ⟨b, hb⟩ : ∃ b, A3 + n = b := ⟨_, rfl⟩
    have HBV := hid hb
    have f4 : IntKind.i64.wrap ((A3 : Int) + (n : Int)) = (b : Int) := by rw [IntWalk.i64_in _ ⟨by omega, by omega⟩]; omega
    rw [hb] at HKEY HONE HNOD HTWO
    clear hK hF hn hA1 hA2 hb
    by_cases hkey : s.length < b
    · have hge4 : (s.length : Int) < (b : Int) := by omega
      have HDX := hid (HNX.out (HKEY.out hkey))
      have HBX : Hid (Below B w (wr.alloc (.cells #[.int .i64 K, .int .i64 F, strV [], strV []] 55))) := HB.out.alloc hz _
      clear HONE HNOD HTWO HKEY hkey
      go_upto_region 8 with fail
      go_region
      all_goals
        go_wp2_with fail
        go_ret2
        rw [HDX.out]
        exact ⟨_, rfl, oO_nil _ _, by rw [HBB.out]; first | exact HBX.out | exact HBX.out.drew | exact (HB.out.drew).alloc hz _⟩
    have hge4 : ¬ (s.length : Int) < (b : Int) := by omega
    go_upto_region 8 with fail
    go_region
    obtain ⟨w2, hw2⟩ : ∃ w2, w2 = (wr.alloc (.cells #[.int .i64 K, .int .i64 F, strV [], strV []] 55)).drew := ⟨_, rfl⟩
    have hba : Below wr.heap.size wr w2 := by rw [hw2]; exact (balloc (Below.refl _ _) _).drew
    have hzc : ∀ j u, #[Value.int .i64 K, .int .i64 F, strV [], strV []][j]? = some u → w2.cell? ⟨wr.heap.size, j, none⟩ = some u := fun j u hj => by rw [hw2]; exact cell_new wr _ _ j _ hj
    have hzo : ∀ j, j < 4 → OwnC w2 ⟨wr.heap.size, j, none⟩ := fun j hj => by rw [hw2]; exact ownc_new wr _ _ j (by simpa using hj)
    rw [← hw2]
    clear hw2
    obtain ⟨Z, hZ⟩ : ∃ Z, wr.heap.size = Z := ⟨_, rfl⟩
    have HO2 := hid (HO.out.below hba)
    have HB2 : Hid (Below B w w2) := HB.out.trans (hba.mono hz)
    have HNR : Hid (u4.ownBlock ≠ some Z) := fun e => by have := (World.ownsRow.lt HO.out _ e).2; omega
    rw [hZ] at hzc hzo ⊢
    have hBZ : B ≤ Z := by omega
    have d0 := hzc 0 _ rfl; have d1 := hzc 1 _ rfl; have d2 := hzc 2 _ rfl; have d3 := hzc 3 _ rfl
    obtain ⟨-, e2⟩ := hzo 2 (by decide)
    obtain ⟨-, e3⟩ := hzo 3 (by decide)
    have HEX1 := ext_cut s A3 n (by have := HBV.out; omega)
    have HKL := cutB_len (s := s) (a := A3) (n := n) (by have := HBV.out; omega)
    rw [HBV.out] at HEX1
    obtain ⟨key, hkey2⟩ : ∃ key, cutB s A3 n = key := ⟨_, rfl⟩
    rw [hkey2] at HEX1 HKL
    simp only [hkey2] at HONE HTWO
    have hA3b : (A3 : Int) ≤ (b : Int) := by have := HBV.out; omega
    have hbs : (b : Int) ≤ (s.length : Int) := by omega
    have HAB : Hid (a < b) := by have := HBV.out; have := HA3.out; unfold Hid; omega
    have HONE := hid (fun h5 => HONE.out (by omega) h5)
    have HNOD := hid (fun h5 h6 => HNOD.out (by omega) h5 h6)
    clear hba hzc hzo hkey2 HKEY hkey hZ HBV
    go_upto_if 56 with (fail)
    obtain ⟨w3, hw3⟩ : ∃ w3, w3 = w2.setCell ⟨Z, 2, none⟩ (strV key) := ⟨_, rfl⟩
    have HB3 : Hid (Below B w w3) := by rw [hw3]; exact HB2.out.setCell (p := ⟨Z, 2, none⟩) hBZ _
    have HO3 : Hid (OO w3 B u4 l) := by rw [hw3]; exact ownsRow_setCell_other HO2.out HNR.out _
    have d0 : w3.cell? ⟨Z, 0, none⟩ = some (.int .i64 K) := by rw [hw3]; go_simp
    have d1 : w3.cell? ⟨Z, 1, none⟩ = some (.int .i64 F) := by rw [hw3]; go_simp
    have d2 : w3.cell? ⟨Z, 2, none⟩ = some (strV key) := by rw [hw3]; go_simp
    have d3 : w3.cell? ⟨Z, 3, none⟩ = some (strV []) := by rw [hw3]; go_simp
    have e3 : w3.frozen? ⟨Z, 3, none⟩ = false := by rw [hw3, World.frozen?_setCell]; exact e3
    rw [← hw3]
    clear hw3
    go_cut [5] (fun x5 wx => ∃ (c : Nat) (o : FOp), x5 = .int .i64 (c : Int) ∧ a < c ∧ c ≤ s.length ∧ Hid (dec1 (s.drop a) = some (o, s.drop c)) ∧ Hid (OpC wx Z o) ∧ Hid (OO wx B u4 l) ∧ Hid (Below B w wx) ∧ Z < wx.heap.size)
    case first =>
      by_cases h5 : K = 5
      · have g5 : ((K : Int) != 5) = false := by simp [h5]
        have hlast : Hid (dec1 (s.drop a) = some (((K : Int), (F : Int), key, []), s.drop b)) := HONE.out h5
        have hZ3 := World.block_lt_of_cell? _ _ d0
        clear h5
        go_wp2_with fail
        go_meet
        case rel => exact ⟨b, _, rfl, HAB.out, by omega, hlast, ⟨d0, d1, d2, d3⟩, HO3, HB3, hZ3⟩
      · have g5 : ((K : Int) != 5) = true := by simp; omega
        have HNOD := hid (HNOD.out h5)
        have HTWO := hid (HTWO.out h5)
        clear h5
        by_cases hbl : s.length ≤ b
        · have hg : (s.length : Int) ≤ (b : Int) := by omega
          have HDX := hid (HNX.out (HNOD.out (.inl hbl)))
          clear hbl
          go_wp2_with fail
          go_ret2
          rw [HDX.out]
          exact ⟨_, rfl, oO_nil _ _, by rw [HBB.out]; exact HB3.out⟩
        have hg : ¬ (s.length : Int) ≤ (b : Int) := by omega
        have x3 := fun w => ix_at s b (by omega) w
        have z3 := bt_lt s b
        obtain ⟨m, hm⟩ : ∃ m, bt s b = m := ⟨_, rfl⟩
        simp only [hm] at x3 z3 HNOD HTWO
        obtain ⟨b1, hb1⟩ : ∃ b1, b + 1 = b1 := ⟨_, rfl⟩
        rw [hb1] at HNOD HTWO
        obtain ⟨c, hc⟩ : ∃ c, b1 + m = c := ⟨_, rfl⟩
        rw [hc] at HNOD HTWO
        have f5 : IntKind.i64.wrap ((b : Int) + 1) = (b1 : Int) := by rw [IntWalk.i64_in _ ⟨by omega, by omega⟩]; omega
        have f6 : IntKind.i64.wrap ((b1 : Int) + (m : Int)) = (c : Int) := by rw [IntWalk.i64_in _ ⟨by omega, by omega⟩]; omega
        have f7 : IntKind.i64.wrap (1 + (m : Int)) = 1 + (m : Int) := IntWalk.i64_in _ ⟨by omega, by omega⟩
        have f8 : IntKind.i64.wrap ((b : Int) + (1 + (m : Int))) = (c : Int) := by rw [IntWalk.i64_in _ ⟨by omega, by omega⟩]; omega
        by_cases hcl : s.length < c
        · have hg2 : (s.length : Int) < (c : Int) := by omega
          have HDX := hid (HNX.out (HNOD.out (.inr hcl)))
          clear hm hb1 hc hcl hbl
          go_wp2_with fail
          go_ret2
          rw [HDX.out]
          exact ⟨_, rfl, oO_nil _ _, by rw [HBB.out]; exact HB3.out⟩
        have hg2 : ¬ (s.length : Int) < (c : Int) := by omega
        have hlast := hid (HTWO.out (by omega))
        have HEX2 := ext_cut s b1 m (by omega)
        have HDL := cutB_len (s := s) (a := b1) (n := m) (by omega)
        rw [hc] at HEX2
        obtain ⟨dat, hdat⟩ : ∃ dat, cutB s b1 m = dat := ⟨_, rfl⟩
        rw [hdat] at HEX2 HDL hlast
        have hb1c : (b1 : Int) ≤ (c : Int) := by omega
        have hcs : (c : Int) ≤ (s.length : Int) := by omega
        have hac : a < c := by have := HAB.out; omega
        have hcs2 : c ≤ s.length := by omega
        obtain ⟨w4, hw4⟩ : ∃ w4, w4 = w3.setCell ⟨Z, 3, none⟩ (strV dat) := ⟨_, rfl⟩
        have HB4 : Hid (Below B w w4) := by rw [hw4]; exact HB3.out.setCell (p := ⟨Z, 3, none⟩) hBZ _
        have HO4 : Hid (OO w4 B u4 l) := by rw [hw4]; exact ownsRow_setCell_other HO3.out HNR.out _
        have y0 : w4.cell? ⟨Z, 0, none⟩ = some (.int .i64 K) := by rw [hw4]; go_simp
        have y1 : w4.cell? ⟨Z, 1, none⟩ = some (.int .i64 F) := by rw [hw4]; go_simp
        have y2 : w4.cell? ⟨Z, 2, none⟩ = some (strV key) := by rw [hw4]; go_simp
        have y3 : w4.cell? ⟨Z, 3, none⟩ = some (strV dat) := by rw [hw4]; go_simp
        have hZ4 := World.block_lt_of_cell? _ _ y0
        simp only [hw4] at HB4 HO4 y0 y1 y2 y3 hZ4
        clear hm hb1 hc hcl hbl hdat hw4 w4
        go_wp2_with fail
        go_meet
        case rel => exact ⟨c, _, rfl, hac, hcs2, hlast, ⟨y0, y1, y2, y3⟩, HO4, HB4, hZ4⟩
    case rest =>
      obtain ⟨c, o, rfl, hac, hcs, HD1, HOC, HO5, HB5, hZ5⟩ := hcut
      obtain ⟨d0, d1, d2, d3⟩ := HOC.out
      have HBAD := hid (fun h : chg o = false => HNX.out (dec_bad hlt HD1.out h))
      have HGOOD := hid (fun h : chg o = true => dec_next hlt HD1.out h)
      obtain ⟨V, hV⟩ : ∃ V, isOp o = V := ⟨_, rfl⟩
      obtain ⟨C, hC⟩ : ∃ C, decide (3 ≤ o.1 ∧ o.1 ≤ 5) = C := ⟨_, rfl⟩
      have HCG : Hid (chg o = (decide (3 ≤ o.1 ∧ o.1 ≤ 5) && isOp o)) := rfl
      have HVX := hid (fun w' => HV.out o w')
      have HCX := hid (fun w' => HCH.out o.1 w')
      rw [hV, hC] at HCG
      rw [hV] at HVX
      rw [hC] at HCX
      have HOE := hid (show o = (o.1, o.2.1, o.2.2.1, o.2.2.2) from rfl)
      clear hV hC HV HCH HONE HNOD HTWO HEX1 hA3b hbs x0 x1 x2 HO3 HB3 HO2 HB2 HKL HD1 HOC
      obtain ⟨o0, o1, o2, o3⟩ := o
      go_wp2_with fail
      refine (HVX.out _).mono ?_
      rintro e w6 ⟨rfl, hb6⟩
      have HB6 : Hid (Below B w w6) := HB5.out.trans (hb6.mono (by omega))
      have HO6 := hid (HO5.out.below hb6)
      have d0 := keepc hb6 d0; have d1 := keepc hb6 d1; have d2 := keepc hb6 d2; have d3 := keepc hb6 d3
      have hz6 : B ≤ w6.heap.size := by have := hb6.size; omega
      clear hb6
      cases V with
      | false =>
        have HDX := hid (HBAD.out (by rw [HCG.out]; simp))
        go_wp2_with fail
        go_ret2
        rw [HDX.out]
        exact ⟨_, rfl, oO_nil _ _, by rw [HBB.out]; exact HB6.out⟩
      | true =>
        go_wp2_with fail
        refine (HCX.out _).mono ?_
        rintro e w7 ⟨rfl, hb7⟩
        have HB7 : Hid (Below B w w7) := HB6.out.trans (hb7.mono hz6)
        have HO7 := hid (HO6.out.below hb7)
        have d0 := keepc hb7 d0; have d1 := keepc hb7 d1; have d2 := keepc hb7 d2; have d3 := keepc hb7 d3
        have hz7 : B ≤ w7.heap.size := by have := hb7.size; omega
        clear hb7
        cases C with
        | false =>
          have HDX := hid (HBAD.out (by rw [HCG.out]; simp))
          go_wp2_with fail
          go_ret2
          rw [HDX.out]
          exact ⟨_, rfl, oO_nil _ _, by rw [HBB.out]; exact HB7.out⟩
        | true =>
          have HGX := hid (HGOOD.out (by rw [HCG.out]; rfl))
          have HDN : Hid (decL s = (decL (s.drop c)).map ((l ++ [(o0, o1, o2, o3)]) ++ ·)) := by
            unfold Hid
            rw [HD.out, HGX.out]
            cases decL (s.drop c) <;> simp
          have HCE := hid (cellsO _ _ ((o0, o1, o2, o3) : FOp) (cell_new w7 #[.int .i64 o0, .int .i64 o1, strV o2, strV o3] 55 0 _ rfl) (cell_new w7 #[.int .i64 o0, .int .i64 o1, strV o2, strV o3] 55 1 _ rfl) (cell_new w7 #[.int .i64 o0, .int .i64 o1, strV o2, strV o3] 55 2 _ rfl) (cell_new w7 #[.int .i64 o0, .int .i64 o1, strV o2, strV o3] 55 3 _ rfl))
          have HO8 := hid (HO7.out.below (balloc (Below.refl _ _) (.cells #[.int .i64 o0, .int .i64 o1, strV o2, strV o3] 55)))
          have HB8 := hid (HB7.out.alloc hz7 (.cells #[.int .i64 o0, .int .i64 o1, strV o2, strV o3] 55))
          have HZ8 : Hid (B ≤ (w7.alloc (.cells #[.int .i64 o0, .int .i64 o1, strV o2, strV o3] 55)).heap.size) := by unfold Hid; simp; omega
          have hll : l.length ≤ 1000000 := by have := HLA.out; have := HSL.out; omega
          have HLL := hid hll
          clear hll HGX HGOOD HBAD
          go_wp2_with (at_builtin; refine appO rfl _ _ rfl B _ l ((o0, o1, o2, o3) : FOp) _ _ rfl rfl HO8.out HCE.out HLL.out HZ8.out ?_)
          intro v9 w9 hop9 hg9
          have HB9 := hid (HO8.out.grown HB8.out hg9 HZ8.out)
          have HO9 := hid hop9
          have hz9 : B ≤ w9.heap.size := by have := hg9.size; simp at this; omega
          have HL9 : Hid ((l ++ [((o0, o1, o2, o3) : FOp)]).length ≤ c) := by have := HLA.out; unfold Hid; rw [List.length_append]; simp; omega
          clear hop9 hg9
          go_wp2_with fail
          go_roundw
          case rel => exact ⟨c, _, rfl, hcs, HDN, HO9, HB9, hz9, HL9⟩
          case measure => simp [intOf]; omega
end Go.Proofs.YtifcgimpgbeocaaGreat
