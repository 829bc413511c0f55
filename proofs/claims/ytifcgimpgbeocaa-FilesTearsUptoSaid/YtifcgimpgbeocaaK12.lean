/- at: the place of the first record whose key is not less. -/
import Derived.Test.YtifcgimpgbeocaaK11
import Derived.Test.YtifcgimpgbeocaaK3
import Derived.Deep.RegionLaw
import Derived.Test.YtifcgimpgbeocaaK4
set_option linter.unusedVariables false
set_option linter.unusedSimpArgs false
namespace Go.Proofs.Ytifcgimpgbeocaa
open Go.RowKit
attribute [local go_sem] Oper.semAt_some
theorem at1_any (r : Rec) (X : Nat) (k : Bs) (w : World) (hX : w.cell? ⟨X, 0, none⟩ = some (strV k)) : Calls Try.prog 128 #[recV r, .pointer (some ⟨X, 0, none⟩)] w (Ret (.bool (!ltB r.1 k)) w) := by
  have X0 : (w.alloc (.cells #[strV r.1, strV r.2] 59)).cell? ⟨w.heap.size, 0, none⟩ = some (strV r.1) := cell_new _ _ _ 0 _ rfl
  have X1 := keepc ((Below.refl w.heap.size w).alloc (Nat.le_refl _) (.cells #[strV r.1, strV r.2] 59)) hX
  obtain ⟨R, hR⟩ : ∃ R, (!Op.bytesLess r.1 k) = R := ⟨_, rfl⟩
  have e : (!ltB r.1 k) = R := hR
  rw [e]
  have HR := hid hR
  clear hR e
  go_enter Try.func128, Try.ntmps128
  go_wp2_with fail
  go_ret
  exact ⟨ret_bool HR.out, (Below.refl _ _).alloc (Nat.le_refl _) _⟩
theorem atD_step {d : Ds} {key : Bs} {k : Nat} {r : Rec} (h : d[k]? = some r) (hk : k ≤ atD d key) : (ltB r.1 key = true → k + 1 ≤ atD d key) ∧ (ltB r.1 key = false → atD d key = k) := by
  obtain ⟨hlt, rfl⟩ := List.getElem?_eq_some_iff.1 h
  constructor
  · intro hl
    rcases Nat.lt_or_ge k (atD d key) with h1 | h1
    · omega
    · have e : atD d key = k := by omega
      have hlt' : atD d key < d.length := by omega
      have := List.findIdx_getElem (p := fun r : Rec => !ltB r.1 key) (xs := d) (w := hlt')
      simp only [show List.findIdx (fun r : Rec => !ltB r.1 key) d = k from e] at this
      rw [hl] at this
      cases this
  · intro hl
    rcases Nat.lt_or_ge k (atD d key) with h1 | h1
    · have := List.not_of_lt_findIdx (p := fun r : Rec => !ltB r.1 key) (xs := d) (i := k) h1
      rw [hl] at this
      simp at this
    · omega
def idxE (d : Ds) (k : Bs) : Int := if atD d k < d.length then (atD d k : Int) else -1
set_option maxRecDepth 100000 in
theorem idxr_any (d : Ds) (v : Value) (X : Nat) (key : Bs) (w : World) (hR : RdR w v d) (hl : d.length ≤ 64) (hX : w.cell? ⟨X, 0, none⟩ = some (strV key)) :
    Calls Try.prog 127 #[v, .func (.func 128) #[] #[.pointer (some ⟨X, 0, none⟩)]] w (Ret (.int .i64 (idxE d key)) w) := by
  obtain ⟨o, cap, rfl, hcap, hc⟩ := hR
  have HC := hid hc
  obtain ⟨N, hN⟩ : ∃ N, d.length = N := ⟨_, rfl⟩
  obtain ⟨E, hE⟩ : ∃ E, idxE d key = E := ⟨_, rfl⟩
  rw [hN] at hl hcap ⊢
  rw [hE]
  have HN := hid hN; have HE := hid hE; have HX := hid hX
  clear hN hc hE hX
  go_enter Try.func127, Try.ntmps127
  go_wp2_with fail
  go_loopw [8] (fun i wr => ∃ k : Nat, i = .int .i64 k ∧ k ≤ N ∧ Hid (k ≤ atD d key) ∧ Hid (Below w.heap.size w wr)) (fun i _ => N - (intOf i).toNat)
  case atStart => exact ⟨0, rfl, Nat.zero_le _, Nat.zero_le _, Below.refl _ _⟩
  case round =>
    obtain ⟨k, rfl, hk, HT, HB⟩ := hrel
    by_cases hlt : k < N
    rotate_left
    · have HEE : Hid (E = -1) := by
        unfold Hid
        rw [← HE.out]
        unfold idxE
        have := HT.out; have := HN.out
        rw [if_neg (by omega)]
      go_wp2_with fail
      go_ret
      exact ⟨ret_int HEE.out.symm, HB.out⟩
    obtain ⟨r, hr⟩ : ∃ r, d[k]? = some r := ⟨_, List.getElem?_eq_getElem (by have := HN.out; omega)⟩
    have hHC := HC.out
    rcases hHC with hc | ⟨b, off, rfl, hbl, hc⟩
    · rw [hc] at hr; simp at hr
    obtain ⟨c0, c1⟩ := hc k r hr
    have c0 := HB.out.cell (p := ⟨b, off + k * 2, none⟩) hbl |>.trans c0
    have c1 := HB.out.cell (p := ⟨b, off + k * 2 + 1, none⟩) hbl |>.trans c1
    obtain ⟨s1, s2⟩ := atD_step hr HT.out
    have HAT := hid (at1_any r X key wr (keepc HB.out HX.out))
    cases el : ltB r.1 key with
    | true =>
      have HT1 := hid (s1 el)
      rw [el] at HAT
      clear s1 s2 el hc hr HT
      go_wp2_with fail
      refine (HAT.out).mono ?_
      rintro e w2 ⟨rfl, hb2⟩
      have HB2 := hid (HB.out.trans (hb2.mono HB.out.size))
      clear hb2
      go_wp2_with fail
      go_roundw
      case rel => exact ⟨k + 1, by go_num, by omega, HT1, HB2⟩
      case measure => simp [intOf]; omega
    | false =>
      have HEE : Hid (E = (k : Int)) := by
        unfold Hid
        rw [← HE.out]
        unfold idxE
        have h1 := s2 el; have h2 := HN.out
        rw [h1, if_pos (by omega)]
      rw [el] at HAT
      clear s1 s2 el hc hr HT
      go_wp2_with fail
      refine (HAT.out).mono ?_
      rintro e w2 ⟨rfl, hb2⟩
      have HB2 := hid (HB.out.trans (hb2.mono HB.out.size))
      clear hb2
      go_wp2_with fail
      go_ret
      exact ⟨ret_int HEE.out.symm, HB2.out⟩
set_option maxRecDepth 100000 in
theorem at_any (d : Ds) (v : Value) (key : Bs) (w : World) (hR : RdR w v d) (hl : d.length ≤ 64) :
    Calls Try.prog 87 #[v, strV key] w (Ret (.tuple #[.int .i64 (atD d key : Int), .bool (hasD d key)]) w) := by
  have hX : (w.alloc (.cells #[strV key] 9)).cell? ⟨w.heap.size, 0, none⟩ = some (strV key) := cell_new _ _ _ 0 _ rfl
  have hB := (Below.refl w.heap.size w).alloc (Nat.le_refl _) (.cells #[strV key] 9)
  have HI := hid (idxr_any d v w.heap.size key _ (hR.below hB) hl hX)
  have HB := hid hB
  have HX := hid hX
  clear hX hB
  by_cases hlt : atD d key < d.length
  · have ei : idxE d key = (atD d key : Int) := by unfold idxE; rw [if_pos hlt]
    rw [ei] at HI
    obtain ⟨r, hr⟩ : ∃ r, d[atD d key]? = some r := ⟨_, List.getElem?_eq_getElem hlt⟩
    have eh : hasD d key = (r.1 == key) := by unfold hasD keyAt; rw [hr]
    rw [eh]
    obtain ⟨o, cap, rfl, hcap, hc⟩ := hR
    rcases hc with hc | ⟨b, off, rfl, hbl, hc⟩
    · rw [hc] at hr; simp at hr
    obtain ⟨c0, c1⟩ := hc _ r hr
    obtain ⟨J, hJ⟩ : ∃ J, atD d key = J := ⟨_, rfl⟩
    obtain ⟨N, hN⟩ : ∃ N, d.length = N := ⟨_, rfl⟩
    rw [hJ] at hlt c0 c1 HI ⊢
    rw [hN] at hlt hcap hl HI ⊢
    clear hc hJ hN eh ei hr
    have b1 := keepc HB.out c0
    have HC0 := hid c0
    clear c0 c1 b1
    go_enter Try.func87, Try.ntmps87
    go_wp2_with fail
    refine (HI.out).mono ?_
    rintro e w2 ⟨rfl, hb2⟩
    have HB2 := hid (below_step hb2 HB.out)
    have c0 := keepc HB2.out HC0.out
    have x0 := keepc hb2 HX.out
    clear hb2
    go_wp2_with fail
    go_quiet (fail)
    go_wp2_with fail
    go_ret2
    exact ⟨rfl, below_drewN HB2.out _⟩
  · have ei : idxE d key = -1 := by unfold idxE; rw [if_neg hlt]
    have ej : atD d key = d.length := by have := atD_le d key; omega
    have eh : hasD d key = false := by unfold hasD keyAt; rw [ej, List.getElem?_eq_none (Nat.le_refl _)]
    rw [ei] at HI
    rw [ej, eh]
    obtain ⟨o, cap, rfl, hcap, hc⟩ := hR
    obtain ⟨N, hN⟩ : ∃ N, d.length = N := ⟨_, rfl⟩
    rw [hN] at HI ⊢
    clear ei ej eh hc hlt hl hcap hN
    go_enter Try.func87, Try.ntmps87
    go_wp2_with fail
    refine (HI.out).mono ?_
    rintro e w2 ⟨rfl, hb2⟩
    have HB2 := hid (below_step hb2 HB.out)
    clear hb2
    go_wp2_with fail
    go_ret2
    exact ⟨rfl, HB2.out⟩
theorem ask_any (d : Ds) (v : Value) (q : Bool) (w : World) (hR : RdR w v d) : Calls Try.prog 85 #[v, .bool q] w (Ret (.int .i64 (if isDs d = true then (if q = true then 0 else 1) else 140)) w) := by
  have HC := hid (check_any d v w hR)
  cases e : isDs d with
  | false =>
    rw [e] at HC
    have HC2 : Hid (Calls Try.prog 43 #[v] w (Ret (.int .i64 140) w)) := HC.out
    clear HC e hR
    go_enter Try.func85, Try.ntmps85
    go_wp2_with fail
    refine (HC2.out).mono ?_
    rintro e w2 ⟨rfl, hb2⟩
    have HB2 := hid hb2
    clear hb2
    go_wp2_with fail
    go_ret
    exact ⟨rfl, HB2.out⟩
  | true =>
    rw [e] at HC
    have HC2 : Hid (Calls Try.prog 43 #[v] w (Ret (.int .i64 0) w)) := HC.out
    clear HC e hR
    cases q with
    | true =>
      go_enter Try.func85, Try.ntmps85
      go_wp2_with fail
      refine (HC2.out).mono ?_
      rintro e w2 ⟨rfl, hb2⟩
      have HB2 := hid hb2
      clear hb2
      go_wp2_with fail
      go_ret
      exact ⟨rfl, HB2.out⟩
    | false =>
      go_enter Try.func85, Try.ntmps85
      go_wp2_with fail
      refine (HC2.out).mono ?_
      rintro e w2 ⟨rfl, hb2⟩
      have HB2 := hid hb2
      clear hb2
      go_wp2_with fail
      go_ret
      exact ⟨rfl, HB2.out⟩
end Go.Proofs.Ytifcgimpgbeocaa
/- Read, Next. -/
set_option linter.unusedVariables false
set_option linter.unusedSimpArgs false
namespace Go.Proofs.Ytifcgimpgbeocaa
open Go.RowKit
attribute [local go_sem] Oper.semAt_some
def askE (d : Ds) (q : Bool) : Int := if isDs d = true then (if q = true then 0 else 1) else 140
theorem askE_ok {d : Ds} {q : Bool} (h : isDs d = true) (hq : q = true) : askE d q = 0 := by unfold askE; rw [if_pos h, if_pos hq]
theorem askE_ne {d : Ds} {q : Bool} (h : ¬ (isDs d = true ∧ q = true)) : (askE d q == 0) = false := by
  unfold askE
  rw [beq_eq_false_iff_ne]
  split
  · rename_i h1
    rw [if_neg (fun h2 => h ⟨h1, h2⟩)]; decide
  · decide
theorem ask_any' (d : Ds) (v : Value) (q : Bool) (w : World) (hR : RdR w v d) : Calls Try.prog 85 #[v, .bool q] w (Ret (.int .i64 (askE d q)) w) := ask_any d v q w hR
set_option maxRecDepth 100000 in
theorem read_any (d : Ds) (v : Value) (k : Bs) (w : World) (hR : RdR w v d) : Calls Try.prog 50 #[v, strV k] w (Ret (.tuple #[strV (readD d k).1, .int .i64 (readD d k).2]) w) := by
  have HK := hid (fun w => iskey_any k w)
  have HA := hid (fun w' (hb : Below w.heap.size w w') => ask_any' d v (isKey k) w' (hR.below hb))
  by_cases hok : isDs d = true ∧ isKey k = true
  rotate_left
  · have hr : readD d k = ([], askE d (isKey k)) := by
      unfold readD askE
      split
      · rename_i h1
        have h2 : ¬ isKey k = true := fun h2 => hok ⟨h1, h2⟩
        rw [if_neg h2, if_neg h2]
      · rfl
    rw [hr]
    have g := askE_ne hok
    obtain ⟨E, hE⟩ : ∃ E, askE d (isKey k) = E := ⟨_, rfl⟩
    rw [hE] at HA g ⊢
    clear hE hr hok hR
    go_enter Try.func50, Try.ntmps50
    go_wp2_with fail
    refine (HK.out _).mono ?_
    rintro e w1 ⟨rfl, hb1⟩
    have HB1 := hid hb1
    clear hb1
    go_wp2_with fail
    refine (HA.out _ HB1.out).mono ?_
    rintro e w2 ⟨rfl, hb2⟩
    have HB2 := hid (below_step hb2 HB1.out)
    clear hb2
    go_wp2_with fail
    go_ret2
    exact ⟨rfl, HB2.out⟩
  · obtain ⟨hd, hk⟩ := hok
    rw [askE_ok hd hk] at HA
    have HAT := hid (fun w' (hb : Below w.heap.size w w') => at_any d v k w' (hR.below hb) (isDs_len hd))
    cases hh : hasD d k with
    | false =>
      have hr : readD d k = ([], 4) := by unfold readD; rw [if_pos hd, if_pos hk, hh]; rfl
      rw [hr]
      rw [hh] at HAT
      obtain ⟨J, hJ⟩ : ∃ J, atD d k = J := ⟨_, rfl⟩
      rw [hJ] at HAT
      clear hr hh hJ hd hk hR
      go_enter Try.func50, Try.ntmps50
      go_wp2_with fail
      refine (HK.out _).mono ?_
      rintro e w1 ⟨rfl, hb1⟩
      have HB1 := hid hb1
      clear hb1
      go_wp2_with fail
      refine (HA.out _ HB1.out).mono ?_
      rintro e w2 ⟨rfl, hb2⟩
      have HB2 := hid (below_step hb2 HB1.out)
      clear hb2
      go_wp2_with fail
      refine (HAT.out _ HB2.out).mono ?_
      rintro e w3 ⟨rfl, hb3⟩
      have HB3 := hid (below_step hb3 HB2.out)
      clear hb3
      go_wp2_with fail
      go_ret2
      exact ⟨rfl, HB3.out⟩
    | true =>
      obtain ⟨s, hs⟩ := hasD_at hh
      have hr : readD d k = (s, 0) := by unfold readD; rw [if_pos hd, if_pos hk, hh, hs]; rfl
      rw [hr]
      rw [hh] at HAT
      have hlt : atD d k < d.length := (List.getElem?_eq_some_iff.1 hs).1
      have hl := isDs_len hd
      obtain ⟨o, cap, rfl, hcap, hc⟩ := hR
      rcases hc with hc | ⟨b, off, rfl, hbl, hc⟩
      · rw [hc] at hs; simp at hs
      obtain ⟨c0, c1⟩ := hc _ _ hs
      obtain ⟨J, hJ⟩ : ∃ J, atD d k = J := ⟨_, rfl⟩
      obtain ⟨N, hN⟩ : ∃ N, d.length = N := ⟨_, rfl⟩
      rw [hJ] at HAT hlt c1
      rw [hN] at HAT HA hlt hl
      simp only at c1
      have HC1 := hid c1
      rw [hN]
      clear hr hh hJ hd hk hc hs c0 hN hcap c1
      go_enter Try.func50, Try.ntmps50
      go_wp2_with fail
      refine (HK.out _).mono ?_
      rintro e w1 ⟨rfl, hb1⟩
      have HB1 := hid hb1
      clear hb1
      go_wp2_with fail
      refine (HA.out _ HB1.out).mono ?_
      rintro e w2 ⟨rfl, hb2⟩
      have HB2 := hid (below_step hb2 HB1.out)
      clear hb2
      go_wp2_with fail
      refine (HAT.out _ HB2.out).mono ?_
      rintro e w3 ⟨rfl, hb3⟩
      have HB3 := hid (below_step hb3 HB2.out)
      have c1 := keepc HB3.out HC1.out
      clear hb3
      go_wp2_with fail
      go_ret2
      exact ⟨rfl, HB3.out⟩
end Go.Proofs.Ytifcgimpgbeocaa
/- Next. -/
set_option linter.unusedVariables false
set_option linter.unusedSimpArgs false
namespace Go.Proofs.Ytifcgimpgbeocaa
open Go.RowKit
attribute [local go_sem] Oper.semAt_some
set_option maxRecDepth 100000 in
theorem next_any (d : Ds) (v : Value) (k : Bs) (w : World) (hR : RdR w v d) : Calls Try.prog 52 #[v, strV k] w (Ret (.tuple #[recV (nextD d k).1, .int .i64 (nextD d k).2]) w) := by
  have HA := hid (fun w' (hb : Below w.heap.size w w') => ask_any' d v (decide ((k.length : Int) ≤ 16)) w' (hR.below hb))
  have hB0 := (Below.refl w.heap.size w).alloc (Nat.le_refl _) (.cells #[strV [], strV []] 59)
  have HB0 := hid hB0
  have hx := ownc_new w #[strV [], strV []] 59 0 (by decide)
  have hy := ownc_new w #[strV [], strV []] 59 1 (by decide)
  have HX := hid hx; have HY := hid hy
  clear hx hy hB0
  by_cases hok : isDs d = true ∧ decide ((k.length : Int) ≤ 16) = true
  rotate_left
  · have hr : nextD d k = (([], []), askE d (decide ((k.length : Int) ≤ 16))) := by
      unfold nextD askE
      rw [dec_le16] at hok ⊢
      split
      · rename_i h1
        have h2 : ¬ k.length ≤ 16 := fun h2 => hok ⟨h1, by simpa using h2⟩
        rw [if_neg h2, if_neg (by simpa using h2)]
      · rfl
    rw [hr]
    have g := askE_ne hok
    obtain ⟨E, hE⟩ : ∃ E, askE d (decide ((k.length : Int) ≤ 16)) = E := ⟨_, rfl⟩
    rw [hE] at HA g ⊢
    clear hE hr hok hR
    go_enter Try.func52, Try.ntmps52
    go_wp2_with fail
    refine (HA.out _ HB0.out).mono ?_
    rintro e w2 ⟨rfl, hb2⟩
    have HB2 := hid (below_step hb2 HB0.out)
    obtain ⟨⟨u0, x0⟩, f0⟩ := keepOwn hb2 HX.out
    obtain ⟨⟨u1, x1⟩, f1⟩ := keepOwn hb2 HY.out
    have hz := HB2.out.size
    clear hb2
    go_wp2_with fail
    exact bodyPost_ret (v := .tuple #[.agg #[strV [], strV []], .int .i64 E]) (by simp [results, Try.results52, go_sem, x0, x1, hz]) rfl ⟨rfl, (HB2.out.setCell (Nat.le_refl _) _).setCell (Nat.le_refl _) _⟩
  · obtain ⟨hd, hk⟩ := hok
    rw [askE_ok hd hk] at HA
    have hk' : k.length ≤ 16 := by rw [dec_le16] at hk; simpa using hk
    have HAT := hid (fun w' (hb : Below w.heap.size w w') => at_any d v k w' (hR.below hb) (isDs_len hd))
    have hl := isDs_len hd
    have hle := atD_le d k
    by_cases hlt : nextI d k < d.length
    · obtain ⟨r, hs⟩ : ∃ r, d[nextI d k]? = some r := ⟨_, List.getElem?_eq_getElem hlt⟩
      have hr : nextD d k = (r, 0) := by unfold nextD; rw [if_pos hd, if_pos hk', if_pos hlt, hs]; rfl
      rw [hr]
      obtain ⟨o, cap, rfl, hcap, hc⟩ := hR
      rcases hc with hc | ⟨b, off, rfl, hbl, hc⟩
      · rw [hc] at hs; simp at hs
      obtain ⟨c0, c1⟩ := hc _ _ hs
      obtain ⟨J, hJ⟩ : ∃ J, atD d k = J := ⟨_, rfl⟩
      obtain ⟨N, hN⟩ : ∃ N, d.length = N := ⟨_, rfl⟩
      unfold nextI at c0 c1 hlt
      rw [hJ] at HAT c0 c1 hle hlt
      rw [hN] at HAT HA hlt hl hle
      rw [hN]
      cases hh : hasD d k with
      | true =>
        rw [hh] at HAT c0 c1 hlt
        simp only [if_true] at c0 c1 hlt
        have HC0 := hid c0; have HC1 := hid c1
        have w0 : IntKind.i64.wrap ((J : Int) + 1) = (J : Int) + 1 := IntWalk.i64_in _ ⟨by omega, by omega⟩
        have w1 : (0 : Int) ≤ (J : Int) + 1 := by omega
        have w2' : (J : Int) + 1 < (N : Int) := by omega
        have w3' : ((J : Int) + 1).toNat = J + 1 := by omega
        have g1 : (((J : Int) + 1) == (N : Int)) = false := by rw [beq_eq_false_iff_ne]; omega
        clear hr hh hJ hd hk hk' hc hs c0 hN hcap c1 hle
        go_enter Try.func52, Try.ntmps52
        go_wp2_with fail
        refine (HA.out _ HB0.out).mono ?_
        rintro e w2 ⟨rfl, hb2⟩
        have HB2 := hid (below_step hb2 HB0.out)
        have HX2 := hid (keepOwn hb2 HX.out)
        have HY2 := hid (keepOwn hb2 HY.out)
        clear hb2
        go_wp2_with fail
        refine (HAT.out _ HB2.out).mono ?_
        rintro e w3 ⟨rfl, hb3⟩
        have HB3 := hid (below_step hb3 HB2.out)
        obtain ⟨⟨u0, x0⟩, f0⟩ := keepOwn hb3 HX2.out
        obtain ⟨⟨u1, x1⟩, f1⟩ := keepOwn hb3 HY2.out
        have hz := HB3.out.size
        have c0 := keepc HB3.out HC0.out
        have c1 := keepc HB3.out HC1.out
        clear hb3
        go_wp2_with fail
        exact bodyPost_ret (v := .tuple #[.agg #[strV r.1, strV r.2], .int .i64 0]) (by simp [results, Try.results52, go_sem, x0, x1, hz]) rfl ⟨rfl, (HB3.out.setCell (Nat.le_refl _) _).setCell (Nat.le_refl _) _⟩

      | false =>
        rw [hh] at HAT c0 c1 hlt
        simp only [Bool.false_eq_true, if_false, Nat.add_zero] at c0 c1 hlt
        have HC0 := hid c0; have HC1 := hid c1
        have g1 : ((J : Int) == (N : Int)) = false := by rw [beq_eq_false_iff_ne]; omega
        clear hr hh hJ hd hk hk' hc hs c0 hN hcap c1 hle
        go_enter Try.func52, Try.ntmps52
        go_wp2_with fail
        refine (HA.out _ HB0.out).mono ?_
        rintro e w2 ⟨rfl, hb2⟩
        have HB2 := hid (below_step hb2 HB0.out)
        have HX2 := hid (keepOwn hb2 HX.out)
        have HY2 := hid (keepOwn hb2 HY.out)
        clear hb2
        go_wp2_with fail
        refine (HAT.out _ HB2.out).mono ?_
        rintro e w3 ⟨rfl, hb3⟩
        have HB3 := hid (below_step hb3 HB2.out)
        obtain ⟨⟨u0, x0⟩, f0⟩ := keepOwn hb3 HX2.out
        obtain ⟨⟨u1, x1⟩, f1⟩ := keepOwn hb3 HY2.out
        have hz := HB3.out.size
        have c0 := keepc HB3.out HC0.out
        have c1 := keepc HB3.out HC1.out
        clear hb3
        go_wp2_with fail
        exact bodyPost_ret (v := .tuple #[.agg #[strV r.1, strV r.2], .int .i64 0]) (by simp [results, Try.results52, go_sem, x0, x1, hz]) rfl ⟨rfl, (HB3.out.setCell (Nat.le_refl _) _).setCell (Nat.le_refl _) _⟩

    · have hr : nextD d k = (([], []), 4) := by unfold nextD; rw [if_pos hd, if_pos hk', if_neg hlt]
      rw [hr]
      obtain ⟨o, cap, rfl, hcap, hc⟩ := hR
      obtain ⟨J, hJ⟩ : ∃ J, atD d k = J := ⟨_, rfl⟩
      obtain ⟨N, hN⟩ : ∃ N, d.length = N := ⟨_, rfl⟩
      unfold nextI at hlt
      have hh2 : hasD d k = true → J < N := fun h => by
        obtain ⟨s, hs⟩ := hasD_at h
        have := (List.getElem?_eq_some_iff.1 hs).1
        omega
      rw [hJ] at HAT hle hlt
      rw [hN] at HAT HA hlt hl hle
      rw [hN]
      cases hh : hasD d k with
      | true =>
        have hjn := hh2 hh
        rw [hh] at HAT hlt
        simp only [if_true] at hlt
        have w0 : IntKind.i64.wrap ((J : Int) + 1) = (J : Int) + 1 := IntWalk.i64_in _ ⟨by omega, by omega⟩
        have g1 : (((J : Int) + 1) == (N : Int)) = true := by rw [beq_iff_eq]; omega
        clear hr hh hJ hd hk hk' hc hN hcap hle hh2
        go_enter Try.func52, Try.ntmps52
        go_wp2_with fail
        refine (HA.out _ HB0.out).mono ?_
        rintro e w2 ⟨rfl, hb2⟩
        have HB2 := hid (below_step hb2 HB0.out)
        have HX2 := hid (keepOwn hb2 HX.out)
        have HY2 := hid (keepOwn hb2 HY.out)
        clear hb2
        go_wp2_with fail
        refine (HAT.out _ HB2.out).mono ?_
        rintro e w3 ⟨rfl, hb3⟩
        have HB3 := hid (below_step hb3 HB2.out)
        obtain ⟨⟨u0, x0⟩, f0⟩ := keepOwn hb3 HX2.out
        obtain ⟨⟨u1, x1⟩, f1⟩ := keepOwn hb3 HY2.out
        have hz := HB3.out.size
        clear hb3
        go_wp2_with fail
        exact bodyPost_ret (v := .tuple #[.agg #[strV [], strV []], .int .i64 4]) (by simp [results, Try.results52, go_sem, x0, x1, hz]) rfl ⟨rfl, (HB3.out.setCell (Nat.le_refl _) _).setCell (Nat.le_refl _) _⟩

      | false =>
        rw [hh] at HAT hlt
        simp only [Bool.false_eq_true, if_false, Nat.add_zero] at hlt
        have g1 : ((J : Int) == (N : Int)) = true := by rw [beq_iff_eq]; omega
        clear hr hh hJ hd hk hk' hc hN hcap hle hh2
        go_enter Try.func52, Try.ntmps52
        go_wp2_with fail
        refine (HA.out _ HB0.out).mono ?_
        rintro e w2 ⟨rfl, hb2⟩
        have HB2 := hid (below_step hb2 HB0.out)
        have HX2 := hid (keepOwn hb2 HX.out)
        have HY2 := hid (keepOwn hb2 HY.out)
        clear hb2
        go_wp2_with fail
        refine (HAT.out _ HB2.out).mono ?_
        rintro e w3 ⟨rfl, hb3⟩
        have HB3 := hid (below_step hb3 HB2.out)
        obtain ⟨⟨u0, x0⟩, f0⟩ := keepOwn hb3 HX2.out
        obtain ⟨⟨u1, x1⟩, f1⟩ := keepOwn hb3 HY2.out
        have hz := HB3.out.size
        clear hb3
        go_wp2_with fail
        exact bodyPost_ret (v := .tuple #[.agg #[strV [], strV []], .int .i64 4]) (by simp [results, Try.results52, go_sem, x0, x1, hz]) rfl ⟨rfl, (HB3.out.setCell (Nat.le_refl _) _).setCell (Nat.le_refl _) _⟩
end Go.Proofs.Ytifcgimpgbeocaa
/- Span. -/
set_option linter.unusedVariables false
set_option linter.unusedSimpArgs false
namespace Go.Proofs.Ytifcgimpgbeocaa
open Go.RowKit
attribute [local go_sem] Oper.semAt_some
/-- A call that returns records and an error. -/
def RetR (l : Ds) (n : Int) (w : World) (e : Ending) (w' : World) : Prop := ∃ v, e = .returned (.tuple #[v, .int .i64 n]) ∧ OR w' w.heap.size v l ∧ Below w.heap.size w w'
theorem rdR_nil (w : World) : RdR w (.slice none 0 0) [] := ⟨none, 0, rfl, Nat.le_refl _, .inl rfl⟩
theorem leq_eq (x b : Bs) : (Op.bytesLess x b || x == b) = !ltB b x := by
  cases e : ltB b x with
  | true =>
    have h1 : Op.bytesLess x b = false := ltB_asymm e
    have h2 : (x == b) = false := by
      rw [beq_eq_false_iff_ne]
      rintro rfl
      rw [ltB_irrefl] at e; cases e
    rw [h1, h2]; rfl
  | false =>
    cases e2 : ltB x b with
    | true => have h1 : Op.bytesLess x b = true := e2; rw [h1]; rfl
    | false => rw [ltB_tri e2 e]; simp
def inSp (a b : Bs) (r : Rec) : Bool := !ltB r.1 a && !ltB b r.1
theorem filter_succ {d : Ds} {k : Nat} {r : Rec} (h : d[k]? = some r) (p : Rec → Bool) : (d.take (k + 1)).filter p = (d.take k).filter p ++ (if p r = true then [r] else []) := by
  obtain ⟨hk, rfl⟩ := List.getElem?_eq_some_iff.1 h
  rw [List.take_succ_eq_append_getElem hk, List.filter_append]
  congr 1
  by_cases hp : p d[k] = true
  · rw [if_pos hp, List.filter_cons, if_pos hp]; rfl
  · rw [if_neg hp, List.filter_cons, if_neg hp]; rfl
set_option maxHeartbeats 2000000 in
set_option maxRecDepth 100000 in
theorem span_any (d : Ds) (v : Value) (a b : Bs) (w : World) (hR : RdR w v d) : Calls Try.prog 54 #[v, strV a, strV b] w (RetR (spanD d a b).1 (spanD d a b).2 w) := by
  have HC := hid (fun w' (hb : Below w.heap.size w w') => check_any d v w' (hR.below hb))
  cases hd : isDs d with
  | false =>
    rw [hd] at HC
    have hs : spanD d a b = ([], 140) := by unfold spanD; rw [hd]; rfl
    rw [hs]
    have HC2 : Hid (∀ w', Below w.heap.size w w' → Calls Try.prog 43 #[v] w' (Ret (.int .i64 140) w')) := HC.out
    clear HC hd hs hR
    go_enter Try.func54, Try.ntmps54
    go_wp2_with fail
    refine (HC2.out _ (Below.refl _ _)).mono ?_
    rintro e w1 ⟨rfl, hb1⟩
    have HB1 := hid hb1
    clear hb1
    go_wp2_with fail
    go_ret2
    exact ⟨_, rfl, oR_nil _ _, HB1.out⟩
  | true =>
    rw [hd] at HC
    have HC2 : Hid (∀ w', Below w.heap.size w w' → Calls Try.prog 43 #[v] w' (Ret (.int .i64 0) w')) := HC.out
    have hs : spanD d a b = (d.filter (inSp a b), 0) := by unfold spanD inSp; rw [hd]; rfl
    rw [hs]
    have hl := isDs_len hd
    obtain ⟨o, cap, rfl, hcap, hc⟩ := hR
    have HCC := hid hc
    obtain ⟨N, hN⟩ : ∃ N, d.length = N := ⟨_, rfl⟩
    rw [hN] at HC2 hl hcap ⊢
    have HN := hid hN
    clear HC hs hd hc hN
    obtain ⟨B, hBB⟩ : ∃ B, w.heap.size = B := ⟨_, rfl⟩
    have HBB := hid hBB
    rw [hBB] at HC2
    clear hBB
    go_enter Try.func54, Try.ntmps54
    go_wp2_with fail
    refine (HC2.out _ (Below.refl _ _)).mono ?_
    rintro e w1 ⟨rfl, hb1⟩
    rw [HBB.out] at hb1
    have HB1 := hid hb1
    clear hb1
    go_wp2_with fail
    go_loopw [9, 19] (fun u i wr => ∃ k : Nat, i = .int .i64 k ∧ k ≤ N ∧ Hid (OR wr B u ((d.take k).filter (inSp a b))) ∧ Hid (Below B w wr) ∧ B ≤ wr.heap.size) (fun _ i _ => N - (intOf i).toNat)
    case atStart => exact ⟨0, rfl, Nat.zero_le _, oR_nil _ _, HB1, by have := HB1.out.size; have := HBB.out; omega⟩
    case round =>
      obtain ⟨k, rfl, hk, HO, HB, hz⟩ := hrel
      by_cases hlt : k < N
      rotate_left
      · have e : d.take k = d := List.take_of_length_le (by have := HN.out; omega)
        have hO := HO.out
        rw [e] at hO
        have HO2 := hid hO
        clear e hO
        go_wp2_with fail
        go_ret2
        exact ⟨_, rfl, by rw [HBB.out]; exact HO2.out, by rw [HBB.out]; exact HB.out⟩
      obtain ⟨r, hr⟩ : ∃ r, d[k]? = some r := ⟨_, List.getElem?_eq_getElem (by have := HN.out; omega)⟩
      have hHC := HCC.out
      rcases hHC with hc | ⟨b1, off, rfl, hbl, hc⟩
      · rw [hc] at hr; simp at hr
      obtain ⟨c0, c1⟩ := hc k r hr
      have hbB : b1 < B := by have := HBB.out; omega
      have c0 := keepB HB.out (a := ⟨b1, off + k * 2, none⟩) hbB c0
      have c1 := keepB HB.out (a := ⟨b1, off + k * 2 + 1, none⟩) hbB c1
      have HF := hid (filter_succ hr (inSp a b))
      have hleq := leq_eq r.1 b
      have hsp : inSp a b r = (!ltB r.1 a && !ltB b r.1) := rfl
      have X0 : (wr.alloc (.cells #[strV r.1, strV r.2] 59)).cell? ⟨wr.heap.size, 0, none⟩ = some (strV r.1) := cell_new _ _ _ 0 _ rfl
      have X1 : (wr.alloc (.cells #[strV r.1, strV r.2] 59)).cell? ⟨wr.heap.size, 1, none⟩ = some (strV r.2) := cell_new _ _ _ 1 _ rfl
      have HB1' := hid (HB.out.alloc hz (.cells #[strV r.1, strV r.2] 59))
      have HO1 := hid (HO.out.below ((Below.refl _ _).alloc (Nat.le_refl _) (.cells #[strV r.1, strV r.2] 59)))
      obtain ⟨q1, hq1⟩ : ∃ q, Op.bytesLess r.1 a = q := ⟨_, rfl⟩
      cases q1 with
      | true =>
        have hno : inSp a b r = false := by rw [hsp]; have : ltB r.1 a = true := hq1; rw [this]; rfl
        have HO2 : Hid (OR (wr.alloc (.cells #[strV r.1, strV r.2] 59)) B u9 ((d.take (k + 1)).filter (inSp a b))) := by unfold Hid; rw [HF.out, hno, if_neg (by simp), List.append_nil]; exact HO1.out
        clear hc hr HF hleq hsp hno
        go_wp2_with fail
        go_roundw
        case rel => exact ⟨k + 1, by go_num, by omega, HO2, HB1', by simp; omega⟩
        case measure => simp [intOf]; omega
      | false =>
        obtain ⟨q2, hq2⟩ : ∃ q, Op.bytesLess r.1 b = q := ⟨_, rfl⟩
        cases q2 with
        | true =>
          have hin : inSp a b r = true := by
            rw [hsp, ← hleq]
            have e1 : ltB r.1 a = false := hq1
            rw [e1, hq2]; rfl
          have HF2 : Hid ((d.take (k + 1)).filter (inSp a b) = (d.take k).filter (inSp a b) ++ [r]) := by unfold Hid; rw [HF.out, if_pos hin]
          have hlf : ((d.take k).filter (inSp a b)).length ≤ 1000000 := by
            have := List.length_filter_le (inSp a b) (d.take k)
            have := List.length_take_le k d
            omega
          have HLF := hid hlf
          clear hc hr HF hleq hsp hin hlf
          go_upto_region 9 with (fail)
          have Y1 : ∀ j u, (encR [r])[j]? = some u → ((wr.alloc (.cells #[strV r.1, strV r.2] 59)).alloc (.cells #[strV r.1, strV r.2] 59)).cell? ⟨(wr.alloc (.cells #[strV r.1, strV r.2] 59)).heap.size, j, none⟩ = some u := fun j u hj => by
            match j, hj with
            | 0, hj => simp only [encR_cons, List.cons_append, List.getElem?_cons_zero, Option.some.injEq] at hj; rw [← hj]; exact cell_new _ _ _ 0 _ rfl
            | 1, hj => simp only [encR_cons, List.cons_append, List.getElem?_cons_zero, List.getElem?_cons_succ, Option.some.injEq] at hj; rw [← hj]; exact cell_new _ _ _ 1 _ rfl
            | j + 2, hj => simp [encR_cons, encR_nil] at hj
          rw [World.size_alloc] at Y1
          have HY1 := hid Y1
          have HO3 := hid (HO1.out.below ((Below.refl _ _).alloc (Nat.le_refl _) (.cells #[strV r.1, strV r.2] 59)))
          have HB3 := hid (HB1'.out.alloc (by simp; omega) (.cells #[strV r.1, strV r.2] 59))
          have hz3 : B ≤ ((wr.alloc (.cells #[strV r.1, strV r.2] 59)).alloc (.cells #[strV r.1, strV r.2] 59)).heap.size := by simp; omega
          have HZ3 := hid hz3
          clear Y1 hz3
          go_wp2_with (at_builtin; refine appR rfl _ _ rfl B _ ((d.take k).filter (inSp a b)) r _ _ rfl rfl HO3.out HY1.out HLF.out HZ3.out ?_)
          intro v7 w7 hop7 hg7
          have HB7 := hid (HO3.out.grown HB3.out hg7 HZ3.out)
          have hz7 : B ≤ w7.heap.size := by have := hg7.size; simp at this; omega
          have HO7 : Hid (OR w7 B v7 ((d.take (k + 1)).filter (inSp a b))) := by unfold Hid; rw [HF2.out]; exact hop7
          clear hop7 hg7
          go_wp2_with fail
          go_roundw
          case rel => exact ⟨k + 1, by go_num, by omega, HO7, HB7, hz7⟩
          case measure => simp [intOf]; omega
        | false =>
          obtain ⟨q3, hq3⟩ : ∃ q, (r.1 == b) = q := ⟨_, rfl⟩
          cases q3 with
          | true =>
            have hin : inSp a b r = true := by
              rw [hsp, ← hleq]
              have e1 : ltB r.1 a = false := hq1
              rw [e1, hq2, hq3]; rfl
            have HF2 : Hid ((d.take (k + 1)).filter (inSp a b) = (d.take k).filter (inSp a b) ++ [r]) := by unfold Hid; rw [HF.out, if_pos hin]
            have hlf : ((d.take k).filter (inSp a b)).length ≤ 1000000 := by
              have := List.length_filter_le (inSp a b) (d.take k)
              have := List.length_take_le k d
              omega
            have HLF := hid hlf
            clear hc hr HF hleq hsp hin hlf
            go_upto_region 9 with (fail)
            have Y1 : ∀ j u, (encR [r])[j]? = some u → ((wr.alloc (.cells #[strV r.1, strV r.2] 59)).alloc (.cells #[strV r.1, strV r.2] 59)).cell? ⟨(wr.alloc (.cells #[strV r.1, strV r.2] 59)).heap.size, j, none⟩ = some u := fun j u hj => by
              match j, hj with
              | 0, hj => simp only [encR_cons, List.cons_append, List.getElem?_cons_zero, Option.some.injEq] at hj; rw [← hj]; exact cell_new _ _ _ 0 _ rfl
              | 1, hj => simp only [encR_cons, List.cons_append, List.getElem?_cons_zero, List.getElem?_cons_succ, Option.some.injEq] at hj; rw [← hj]; exact cell_new _ _ _ 1 _ rfl
              | j + 2, hj => simp [encR_cons, encR_nil] at hj
            rw [World.size_alloc] at Y1
            have HY1 := hid Y1
            have HO3 := hid (HO1.out.below ((Below.refl _ _).alloc (Nat.le_refl _) (.cells #[strV r.1, strV r.2] 59)))
            have HB3 := hid (HB1'.out.alloc (by simp; omega) (.cells #[strV r.1, strV r.2] 59))
            have hz3 : B ≤ ((wr.alloc (.cells #[strV r.1, strV r.2] 59)).alloc (.cells #[strV r.1, strV r.2] 59)).heap.size := by simp; omega
            have HZ3 := hid hz3
            clear Y1 hz3
            go_wp2_with (at_builtin; refine appR rfl _ _ rfl B _ ((d.take k).filter (inSp a b)) r _ _ rfl rfl HO3.out HY1.out HLF.out HZ3.out ?_)
            intro v7 w7 hop7 hg7
            have HB7 := hid (HO3.out.grown HB3.out hg7 HZ3.out)
            have hz7 : B ≤ w7.heap.size := by have := hg7.size; simp at this; omega
            have HO7 : Hid (OR w7 B v7 ((d.take (k + 1)).filter (inSp a b))) := by unfold Hid; rw [HF2.out]; exact hop7
            clear hop7 hg7
            go_wp2_with fail
            go_roundw
            case rel => exact ⟨k + 1, by go_num, by omega, HO7, HB7, hz7⟩
            case measure => simp [intOf]; omega
          | false =>
            have hno : inSp a b r = false := by
              rw [hsp, ← hleq, hq2, hq3]
              have e1 : ltB r.1 a = false := hq1
              rw [e1]; rfl
            have HO2 : Hid (OR (wr.alloc (.cells #[strV r.1, strV r.2] 59)) B u9 ((d.take (k + 1)).filter (inSp a b))) := by unfold Hid; rw [HF.out, hno, if_neg (by simp), List.append_nil]; exact HO1.out
            clear hc hr HF hleq hsp hno
            go_wp2_with fail
            go_roundw
            case rel => exact ⟨k + 1, by go_num, by omega, HO2, HB1', by simp; omega⟩
            case measure => simp [intOf]; omega
end Go.Proofs.Ytifcgimpgbeocaa
/- slices.Delete at records: one of them struck out. -/
set_option linter.unusedVariables false
set_option linter.unusedSimpArgs false
namespace Go.Proofs.Ytifcgimpgbeocaa
open Go.RowKit
attribute [local go_sem] Oper.semAt_some
/-- Clear, as the walk has it. -/
theorem wpList_clear_run {w : World} {ops : Array Oper} {rest : List Oper} {o : Oper} {a : Act} {Q : Exit → Act → World → Prop} (hgd : o.guard = none) (s : Operand) (t : TypeId)
    (ho : o.op = .call { callee := .builtin .clear, args := #[s], argTypes := #[t] }) (v : Value) (hs : a.eval s = v) {v' : Value} {w' : World}
    (hr : (Builtin.clear_ #[t] o.type #[v]).run Try.prog w = .ok v' w') (h : wpList Try.prog ops Q rest (a.put o.dst v') w') : wpList Try.prog ops Q (o :: rest) a w :=
  wpList_plain hgd fun K hK => by
    unfold Oper.wp execOp
    simp only [ho, resolve, invoke, builtin, Sem.run_bind, Sem.run_pure, Result.andThen_ok, List.map_toArray, List.map_cons, List.map_nil, hs, hr]
    exact hK _ _ h
set_option maxRecDepth 100000 in
theorem delR_any (d : Ds) (g cap i B : Nat) (w : World) (hO : OR w B (.slice (some ⟨g, 0, none⟩) d.length cap) d) (hi : i < d.length) (hl : d.length ≤ 64) (hB : B ≤ w.heap.size) :
    Calls Try.prog 95 #[.slice (some ⟨g, 0, none⟩) d.length cap, .int .i64 (i : Int), .int .i64 ((i : Int) + 1)] w (fun e w' => e = .returned (.slice (some ⟨g, 0, none⟩) (d.length - 1) cap) ∧ OR w' B (.slice (some ⟨g, 0, none⟩) (d.length - 1) cap) (d.eraseIdx i) ∧ w.grownBy w' (some g)) := by
  obtain ⟨g', cap', hv, hgB, hgl, hgc, hfz, hcc⟩ := hO.cells (by omega)
  simp only [Value.slice.injEq, Option.some.injEq, Addr.mk.injEq, true_and, and_true] at hv
  obtain ⟨rfl, rfl⟩ := hv
  obtain ⟨N, hN⟩ : ∃ N, d.length = N := ⟨_, rfl⟩
  rw [hN] at hO hi hl hgc ⊢
  have HN := hid hN; have HO := hid hO
  clear hcc hfz hN hO
  have q1 : (0 : Int) ≤ (i : Int) := by omega
  have q2 : (i : Int) ≤ (i : Int) + 1 := by omega
  have q3 : (i : Int) + 1 ≤ (N : Int) := by omega
  have q4 : (N : Int) ≤ (cap : Int) := by omega
  have q5 : (i : Int) ≤ cap := by omega
  have q6 : (0 : Int) ≤ (i : Int) + 1 := by omega
  have q7 : ((i : Int) + 1).toNat = i + 1 := by omega
  have g1 : ((i : Int) == (i : Int) + 1) = false := by rw [beq_eq_false_iff_ne]; omega
  go_enter Try.func95, Try.ntmps95
  go_wp2_with fail
  have hA := hid (show N - (i + 1) = 0 ∨ cutR g (i + 1) cap = ⟨g, (i + 1) * 2, none⟩ by unfold cutR; split <;> simp <;> omega)
  go_region_law (refine step_delR rfl (.tmp 22) (.tmp 25) rfl B g N cap i (cap - (i + 1)) (cutR g (i + 1) cap) d (by simp [Act.eval, Act.put]) (by simp [Act.eval, Act.put]) (HO.out.below (by first | exact (Below.refl _ _).drew | exact Below.refl _ _)) HN.out hi hA.out ?_; intro w7 hop7 hg7)
  have hel : (d.eraseIdx i).length = N - 1 := by rw [List.length_eraseIdx, HN.out, if_pos hi]
  obtain ⟨w8, hcl, hO8, hg8⟩ := exec_clearR (c := cap - (N - 1)) 1 hop7 hel (by omega) (by omega)
  have hg0 : w.grownBy w8 (some g) := grown_trans (grown_trans (below_grow (Below.refl _ _).drew _) hg7) hg8
  have HCL := hid hcl; have HO8 := hid hO8; have HG0 := hid hg0
  clear hop7 hg7 hcl hO8 hg8 hg0 hel
  have r1 : (0 : Int) ≤ ((N - 1 : Nat) : Int) := by omega
  have r2 : ((N - 1 : Nat) : Int) ≤ (N : Int) := by omega
  have r3 : cutR g (N - 1) cap = ⟨g, (N - 1) * 2, none⟩ := cutR_lt (by omega)
  have r4 : N - (N - 1) = 1 := by omega
  go_wp2_with (refine wpList_clear_run rfl _ _ rfl _ rfl (HCL.out _) ?_)
  go_wp2_with fail
  go_ret
  exact ⟨rfl, HO8.out, HG0.out⟩
end Go.Proofs.Ytifcgimpgbeocaa
/- slices.Insert at records: one put in between. -/
set_option linter.unusedVariables false
set_option linter.unusedSimpArgs false
namespace Go.Proofs.Ytifcgimpgbeocaa
open Go.RowKit
attribute [local go_sem] Oper.semAt_some
/-- A call that returns a row of its own out of a row of its own. -/
def InsP (B : Nat) (row : Option Nat) (l : Ds) (w : World) (e : Ending) (w' : World) : Prop := ∃ v, e = .returned v ∧ OR w' B v l ∧ w.grownBy w' row
theorem underNR : Try.prog.underlying 68 = some (.slice (Try.prog.elem 68)) := by kernel_rfl
theorem run_app_own {w : World} {B : Nat} {v : Value} {d : Ds} {r : Rec} {vb : Nat} (hO : OR w B v d) (hl : d.length ≤ 1000000) (hB : B ≤ w.heap.size) (hV : w.heap[vb]? = some (.cells #[strV r.1, strV r.2] 59 (0, 0))) :
    ∃ v' w', (∀ ty, (Builtin.append_ #[69, 68] ty #[v, .slice (some ⟨vb, 0, none⟩) 1 1]).run Try.prog w = .ok v' w') ∧ OR w' B v' (d ++ [r]) ∧ w.grownBy w' v.ownBlock := by
  obtain ⟨i0, hi, hz0, hz1, hz2⟩ := info_parts infoR
  have hcc : ∀ j u, (encR [r])[j]? = some u → w.cell? ((⟨vb, 0, none⟩ : Addr).add j) = some u := fun j u hj => by
    rw [addr_add, Nat.zero_add]
    unfold World.cell?
    simp only [hV]
    match j, hj with
    | 0, hj => simpa [encR_cons] using hj
    | 1, hj => simpa [encR_cons] using hj
    | j + 2, hj => simp [encR_cons, encR_nil] at hj
  have key := fun ty => run_append_own (P := Try.prog) (w := w) B 69 ty 59 i0 zR 2 32 underR hi hz0 hz1 hz2 rfl (by decide) v d.length (encR d) hO ⟨vb, 0, none⟩ 1 1 (encR [r]) (encR_length _) hcc (encR_one _) (by unfold maxLen; omega) (by omega) hB
  obtain ⟨v', w', h1, h2, h3, -⟩ := key 0
  obtain ⟨base, l0, c0, hv⟩ : ∃ base l c, v = .slice base l c := by
    obtain ⟨o, cap, e, -⟩ := hO.rd
    exact ⟨_, _, _, e⟩
  refine ⟨v', w', fun ty => ?_, ?_, h3⟩
  · rw [hv, append_types, ← hv]
    exact h1
  · unfold OR
    rw [encR_append, List.length_append]
    exact h2
set_option maxRecDepth 100000 in
theorem insR_end (d : Ds) (r : Rec) (v : Value) (vb B : Nat) (w : World) (hO : OR w B v d) (hl : d.length ≤ 64) (hB : B ≤ w.heap.size) (hV : w.heap[vb]? = some (.cells #[strV r.1, strV r.2] 59 (0, 0))) :
    Calls Try.prog 88 #[v, .int .i64 (d.length : Int), .slice (some ⟨vb, 0, none⟩) 1 1] w (InsP B v.ownBlock (d ++ [r]) w) := by
  obtain ⟨v', w', h1, h2, h3⟩ := run_app_own hO (by omega) hB hV
  obtain ⟨row, hrow⟩ : ∃ row, v.ownBlock = row := ⟨_, rfl⟩
  rw [hrow] at h3 ⊢
  have hsl : ∀ w : World, ∃ u, (Instr.slice 69 v (some (.int .i64 (d.length : Int))) none none).run Try.prog w = .ok u w := fun w => by
    obtain ⟨-, ⟨rfl, hn⟩ | ⟨g, cap, cur, rfl, hb, hg, hnc, -⟩⟩ := hO
    · rw [hn]
      refine ⟨.slice none 0 0, ?_⟩
      rw [run_slice_l (t := 69) (ht := sliceR) (kl := .i64) (l := ((0 : Nat) : Int)) (h0 := by omega) (h1 := by omega), elemR, sizeOfR]
      rfl
    · exact ⟨_, run_cutlR g _ cap w .i64 _ (by omega) (by omega)⟩
  obtain ⟨base, c0, hv⟩ : ∃ base c, v = .slice base d.length c := by
    obtain ⟨o, cap, e, -⟩ := hO.rd
    exact ⟨_, _, e⟩
  rw [hv] at h1 hsl ⊢
  obtain ⟨u, hu⟩ := hsl w
  obtain ⟨N, hN⟩ : ∃ N, d.length = N := ⟨_, rfl⟩
  rw [hN] at h1 hu ⊢
  have H1 := hid h1; have H2 := hid h2; have H3 := hid h3
  clear h1 h2 h3 hsl hN hO hl hB hV hv hrow
  go_enter Try.func88, Try.ntmps88
  go_wp2_with (at_builtin; refine Lib.wpList_append_run _ rfl _ _ _ _ rfl _ _ rfl rfl _ _ (H1.out _) ?_)
  go_ret
  exact ⟨_, rfl, H2.out, H3.out⟩
theorem elemNR : Try.prog.elem 68 = 59 := by kernel_rfl
theorem overlaps_no (w : World) (a b : Addr) (la ca lb cb : Nat) (hne : a.block ≠ b.block) (tA tB : TypeId) (kA kB : Nat) (hsa : w.shape? a.block = some (tA, kA)) (hsb : w.shape? b.block = some (tB, kB)) (hkB : kB ≠ 0)
    (hfa : w.frozen? a = false) (hfe : w.frozen? { block := a.block, off := kA } = false) : (callFunc 129 #[.slice (some a) la ca, .slice (some b) lb cb]).run Try.prog w = .ok (.value (.bool false)) w := by
  rw [run_callFunc_extern Try.func129 (by kernel_rfl) (by kernel_rfl) (by kernel_rfl) (e := Extern.SlicesOverlaps.overlaps #[68, 68] #[4]) (by kernel_rfl),
    Lib.run_overlaps_apart w 68 4 59 underRR 2 sizeOfR a b la ca lb cb hne tA tB kA kB hsa hsb hkB hfa hfe]
  rfl
theorem shape_cells {w : World} {b : Nat} {cs : Array Value} {t : TypeId} {f : Nat × Nat} (h : w.heap[b]? = some (.cells cs t f)) : w.shape? b = some (t, cs.size) := by
  unfold World.shape?
  rw [h]
theorem frozen_cells {w : World} {b j : Nat} {cs : Array Value} {t : TypeId} (h : w.heap[b]? = some (.cells cs t (0, 0))) : w.frozen? ⟨b, j, none⟩ = false := by
  unfold World.frozen?
  rw [h]; simp
set_option maxRecDepth 100000 in
theorem insR_room (d : Ds) (r : Rec) (g cap i vb B : Nat) (w : World) (hO : OR w B (.slice (some ⟨g, 0, none⟩) d.length cap) d) (hi : i < d.length) (hl : d.length ≤ 64) (hc : d.length + 1 ≤ cap) (hB : B ≤ w.heap.size) (hV : w.heap[vb]? = some (.cells #[strV r.1, strV r.2] 59 (0, 0))) (hne : vb ≠ g) :
    Calls Try.prog 88 #[.slice (some ⟨g, 0, none⟩) d.length cap, .int .i64 (i : Int), .slice (some ⟨vb, 0, none⟩) 1 1] w (InsP B (some g) (d.take i ++ r :: d.drop i) w) := by
  have hg : ∃ cur, w.heap[g]? = some (.cells cur 59 (0, 0)) ∧ cur.size = cap * 2 ∧ cap ≤ maxLen := by
    obtain ⟨-, ⟨hv, -⟩ | ⟨g', cap', cur, hv, hb, hg, hnc, hcm, hcs, ht⟩⟩ := hO
    · cases hv
    · simp only [Value.slice.injEq, Option.some.injEq, Addr.mk.injEq] at hv
      obtain ⟨⟨rfl, -, -⟩, -, rfl⟩ := hv
      exact ⟨cur, hg, hcs, hcm⟩
  obtain ⟨cur, hg, hcs, hcm⟩ := hg
  have hov := fun (lb cb : Nat) => overlaps_no w ⟨vb, 0, none⟩ ⟨g, (i + 1) * 2, none⟩ 1 1 lb cb hne _ _ _ _ (shape_cells hV) (shape_cells hg) (by rw [hcs]; omega) (frozen_cells hV) (frozen_cells hV)
  obtain ⟨N, hN⟩ : ∃ N, d.length = N := ⟨_, rfl⟩
  rw [hN] at hO hi hl hc ⊢
  obtain ⟨w1, w2, h1, h2, h3, h4⟩ := exec_shiftR hO hN hi hc hV hne
  rw [show N + 1 - (i + 1) = N - i by omega] at h1
  have H1 := hid h1; have H2 := hid h2; have H3 := hid h3; have H4 := hid h4
  have hcm' : cap ≤ 9223372036854775807 := by unfold maxLen at hcm; omega
  clear h1 h2 h3 h4 hg hcs hO hV hN hcm
  have z1 : ((i : Int) == (N : Int)) = false := by rw [beq_eq_false_iff_ne]; omega
  have z2 : (i : Int) ≤ (N : Int) := by omega
  have z3 : ¬ ((cap : Int) < (N : Int) + 1) := by omega
  have z4 : (0 : Int) ≤ (N : Int) + 1 := by omega
  have z5 : (N : Int) + 1 ≤ (cap : Int) := by omega
  have z6 : ((N : Int) + 1).toNat = N + 1 := by omega
  have z7 : (0 : Int) ≤ (i : Int) + 1 := by omega
  have z8 : (i : Int) + 1 ≤ ((N + 1 : Nat) : Int) := by omega
  have z8' : (i : Int) + 1 ≤ (N : Int) + 1 := by omega
  have z9 : ((i : Int) + 1).toNat = i + 1 := by omega
  have z10 : (i : Int) ≤ (N : Int) + 1 := by omega
  have c1 : cutR g (i + 1) cap = ⟨g, (i + 1) * 2, none⟩ := cutR_lt (by omega)
  have c2 : cutR g i cap = ⟨g, i * 2, none⟩ := cutR_lt (by omega)
  have w0 : IntKind.i64.wrap ((i : Int) + 1) = (i : Int) + 1 := IntWalk.i64_in _ ⟨by omega, by omega⟩
  go_enter Try.func88, Try.ntmps88
  go_wp2_with (simp only [hov])
  go_region_law (refine step_copy_runI rfl _ _ 69 69 rfl (.slice (some ⟨g, (i + 1) * 2, none⟩) (N - i) (cap - (i + 1))) (.slice (some ⟨g, i * 2, none⟩) (N + 1 - i) (cap - i)) (by simp [Act.eval, Act.put]) (by simp [Act.eval, Act.put]) (H1.out _ _ _) ?_)
  have hcp := H2.out 3 (cap - i)
  go_wp2_with (simp only [hcp])
  go_ret
  exact ⟨_, rfl, H3.out, H4.out⟩
set_option maxRecDepth 100000 in
theorem insR_grow (d : Ds) (r : Rec) (g cap i vb B : Nat) (w : World) (hO : OR w B (.slice (some ⟨g, 0, none⟩) d.length cap) d) (hi : i < d.length) (hl : d.length ≤ 64) (hc : ¬ d.length + 1 ≤ cap) (hB : B ≤ w.heap.size) (hV : w.heap[vb]? = some (.cells #[strV r.1, strV r.2] 59 (0, 0))) :
    Calls Try.prog 88 #[.slice (some ⟨g, 0, none⟩) d.length cap, .int .i64 (i : Int), .slice (some ⟨vb, 0, none⟩) 1 1] w (InsP B (some g) (d.take i ++ r :: d.drop i) w) := by
  obtain ⟨g', cap', hv, hgB, hgl, hgc, -, -⟩ := hO.cells (by omega)
  simp only [Value.slice.injEq, Option.some.injEq, Addr.mk.injEq, true_and, and_true] at hv
  obtain ⟨rfl, rfl⟩ := hv
  obtain ⟨N, hN⟩ : ∃ N, d.length = N := ⟨_, rfl⟩
  rw [hN] at hO hi hl hc hgc ⊢
  have hcN : cap = N := by omega
  subst hcN
  obtain ⟨G, w1, w2, w3, hG, h1, h2, h3, h4, h5⟩ := exec_growR hO hN hi (by omega) (by omega) hB hV
  rw [show cap + 1 - (i + 1) = cap - i by omega] at h3
  have hGm : G ≤ 9223372036854775807 := by
    obtain ⟨-, ⟨hv, -⟩ | ⟨g', cap', cur, hv, hb, hg, hnc, hcm, hcs, ht⟩⟩ := h4
    · cases hv
    · simp only [Value.slice.injEq] at hv
      obtain ⟨-, -, rfl⟩ := hv
      unfold maxLen at hcm; omega
  have H1 := hid h1; have H2 := hid h2; have H3 := hid h3; have H4 := hid h4; have H5 := hid (below_grow h5 (some g))
  clear h1 h2 h3 h4 h5 hO hV hN hgc
  obtain ⟨S, hS⟩ : ∃ S, w.heap.size = S := ⟨_, rfl⟩
  rw [hS] at H1 H2 H3 H4
  clear hS
  have z1 : ((i : Int) == (cap : Int)) = false := by rw [beq_eq_false_iff_ne]; omega
  have z2 : (i : Int) ≤ (cap : Int) := by omega
  have z3 : (cap : Int) < (cap : Int) + 1 := by omega
  have z6 : (cap : Int) + 1 - (i : Int) = ((cap + 1 - i : Nat) : Int) := by omega
  have z7 : (0 : Int) ≤ (i : Int) + 1 := by omega
  have z8 : (i : Int) + 1 ≤ ((cap + 1 : Nat) : Int) := by omega
  have z8' : (i : Int) + 1 ≤ (cap : Int) + 1 := by omega
  have z9 : ((i : Int) + 1).toNat = i + 1 := by omega
  have z10 : (i : Int) ≤ (cap : Int) + 1 := by omega
  have z11 : (i : Int) ≤ ((cap + 1 : Nat) : Int) := by omega
  have c1 : cutR S (i + 1) G = ⟨S, (i + 1) * 2, none⟩ := cutR_lt (by omega)
  have c2 : cutR S i G = ⟨S, i * 2, none⟩ := cutR_lt (by omega)
  have c3 : cutR g i cap = ⟨g, i * 2, none⟩ := cutR_lt (by omega)
  have w0 : IntKind.i64.wrap ((i : Int) + 1) = (i : Int) + 1 := IntWalk.i64_in _ ⟨by omega, by omega⟩
  have hap := H1.out 69
  have hcp := H2.out 3 (G - i)
  go_enter Try.func88, Try.ntmps88
  go_wp2_with (first | (at_builtin; refine Lib.wpList_append_run _ rfl _ _ _ _ rfl _ _ rfl rfl _ _ hap ?_) | simp only [hcp])
  go_region_law (refine step_copy_runI rfl _ _ 69 69 rfl (.slice (some ⟨S, (i + 1) * 2, none⟩) (cap - i) (G - (i + 1))) (.slice (some ⟨g, i * 2, none⟩) (cap - i) (cap - i)) (by simp [Act.eval, Act.put]) (by simp [Act.eval, Act.put]) (H3.out _ _ _) ?_)
  go_wp2_with fail
  go_ret
  exact ⟨_, rfl, H4.out, H5.out⟩
/-- One record put in between. -/
theorem insR_any (d : Ds) (r : Rec) (v : Value) (i vb B : Nat) (w : World) (hO : OR w B v d) (hi : i ≤ d.length) (hl : d.length ≤ 64) (hB : B ≤ w.heap.size) (hV : w.heap[vb]? = some (.cells #[strV r.1, strV r.2] 59 (0, 0))) (hne : v.ownBlock ≠ some vb) :
    Calls Try.prog 88 #[v, .int .i64 (i : Int), .slice (some ⟨vb, 0, none⟩) 1 1] w (InsP B v.ownBlock (d.take i ++ r :: d.drop i) w) := by
  by_cases h : i = d.length
  · subst h
    rw [List.take_length, List.drop_length]
    exact insR_end d r v vb B w hO hl hB hV
  · obtain ⟨g, cap, rfl, -⟩ := hO.cells (by omega)
    have hb : (Value.slice (some ⟨g, 0, none⟩) d.length cap).ownBlock = some g := rfl
    rw [hb] at hne ⊢
    by_cases hc : d.length + 1 ≤ cap
    · exact insR_room d r g cap i vb B w hO (by omega) hl hc hB hV (fun e => hne (by rw [e]))
    · exact insR_grow d r g cap i vb B w hO (by omega) hl hc hB hV
end Go.Proofs.Ytifcgimpgbeocaa
