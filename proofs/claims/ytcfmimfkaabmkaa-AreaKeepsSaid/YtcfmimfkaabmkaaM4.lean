/- R.index, R.Find, R.Get, R.Put. -/
import Derived.Test.YtcfmimfkaabmkaaM1
set_option linter.unusedVariables false
set_option linter.unusedSimpArgs false
namespace Go.Proofs.Ytcfmimfkaabmkaa
open Go.RowKit
attribute [local go_sem] Oper.semAt_some
attribute [local irreducible] num
def IdxR (ps : List (Int × Int)) (at_ i : Int) : Prop := (i = -1 ∧ findP ps at_ = none) ∨ ∃ (k : Nat) (q : Int × Int), i = k ∧ ps[k]? = some q ∧ findP ps at_ = some q
def IdxPost (ps : List (Int × Int)) (at_ : Int) (w : World) (e : Ending) (w' : World) : Prop := ∃ i, e = .returned (.int .i64 i) ∧ IdxR ps at_ i ∧ Below w.heap.size w w'
set_option maxHeartbeats 1000000 in
set_option maxRecDepth 100000 in
theorem index_any (v : Value) (ps : List (Int × Int)) (at_ : Int) (w : World) (hR : RP w v ps) (hS : SmallP ps) : Calls Try.prog 79 #[v, .int .i64 at_] w (IdxPost ps at_ w) := by
  obtain ⟨o, cap, rfl, hc⟩ := hR
  obtain ⟨hlen, hS⟩ := hS
  have HS := hid hS; clear hS
  have HC := hid hc; clear hc
  go_enter Try.func79, Try.ntmps79
  go_wp2_with fail
  go_loopw [5] (fun i wr => ∃ k : Nat, i = .int .i64 k ∧ k ≤ ps.length ∧ Hid ((ps.take k).find? (hasB at_) = none) ∧ Hid (Below w.heap.size w wr)) (fun i _ => ps.length - (intOf i).toNat)
  case atStart => exact ⟨0, rfl, Nat.zero_le _, rfl, Below.refl _ _⟩
  case round =>
    obtain ⟨k, rfl, hk, HA, HB⟩ := hrel
    by_cases hlt : k < ps.length
    · obtain ⟨q, hq⟩ : ∃ q, ps[k]? = some q := ⟨_, List.getElem?_eq_getElem hlt⟩
      obtain ⟨s0, s1, s2, s3⟩ := HS.out k q hq
      obtain hc := HC.out
      rcases hc with hc | ⟨b, off, rfl, hbl, hc⟩
      · subst hc; simp at hlt
      obtain ⟨c0, c1⟩ := hc k q hq
      have c0 := keepc HB.out c0
      have c1 := keepc HB.out c1
      have HQ := hid hq
      clear hq hc
      obtain ⟨q0, q1⟩ := q
      simp only at s0 s1 s2 s3 c0 c1
      have hsum : IntKind.i64.wrap (q0 + q1) = q0 + q1 := IntWalk.i64_in _ ⟨by omega, by omega⟩
      have HK := fun h => hid (find_snoc (hasB at_) ps k (q0, q1) HQ.out HA.out h)
      have HY := fun h => hid (find_hit (hasB at_) ps k (q0, q1) HQ.out HA.out h)
      by_cases hg1 : q0 ≤ at_
      · have hd1 : decide (q0 ≤ at_) = true := by simpa using hg1
        by_cases hg2 : at_ < q0 + q1
        · have hd2 : decide (at_ < q0 + q1) = true := by simpa using hg2
          have HF := HY (by unfold hasB; rw [hd1, hd2]; rfl)
          clear HK HY
          go_wp2_with fail
          go_quiet (fail)
          go_wp2_with fail
          go_ret
          exact ⟨_, rfl, .inr ⟨k, (q0, q1), rfl, HQ.out, HF.out⟩, below_drewN HB.out _⟩
        · have hd2 : decide (at_ < q0 + q1) = false := by simpa using hg2
          have HF := HK (by unfold hasB; rw [hd1, hd2]; rfl)
          clear HK HY
          go_wp2_with fail
          go_quiet (fail)
          go_wp2_with fail
          go_roundw
          case rel => exact ⟨k + 1, rfl, by omega, HF.out, below_drewN HB.out _⟩
          case measure => simp [intOf]; omega
      · have hd1 : decide (q0 ≤ at_) = false := by simpa using hg1
        have HF := HK (by unfold hasB; rw [hd1]; rfl)
        clear HK HY
        go_wp2_with fail
        go_quiet (fail)
        go_wp2_with fail
        go_roundw
        case rel => exact ⟨k + 1, rfl, by omega, HF.out, below_drewN HB.out _⟩
        case measure => simp [intOf]; omega
    · have HX : Hid (findP ps at_ = none) := by have h := HA.out; rw [List.take_of_length_le (by omega)] at h; exact h
      go_wp2_with fail
      go_ret
      exact ⟨_, rfl, .inl ⟨rfl, HX.out⟩, HB.out⟩
def PieceR (r : (Int × Int) × Int) (w : World) (e : Ending) (w' : World) : Prop := e = .returned (.tuple #[.agg #[.int .i64 r.1.1, .int .i64 r.1.2], .int .i64 r.2]) ∧ Below w.heap.size w w'
set_option maxHeartbeats 2000000 in
set_option maxRecDepth 100000 in
theorem rfind_any (l : List UInt8) (at_ : Int) (w : World) (hl : l.length ≤ maxLen) : Calls Try.prog 41 #[.string ⟨l.toArray⟩, .int .i64 at_] w (PieceR (findS l at_) w) := by
  cases h : openS l with
  | false =>
    have HX : Hid (findS l at_ = ((0, 0), 120)) := by unfold Hid findS; rw [h]; rfl
    have HP := hid (fun w => rparts_bad l w hl h)
    clear h
    go_enter Try.func41, Try.ntmps41
    go_wp2_with fail
    refine (HP.out _).mono ?_
    rintro e w1 ⟨rfl, hb1⟩
    have hz3 : w.heap.size < w1.heap.size := by have := hb1.size; simp at this; omega
    have j0 : w1.cell? ⟨w.heap.size, 0, none⟩ = some (.int .i64 0) := keepc hb1 (cell_new _ _ _ 0 _ rfl)
    have j1 : w1.cell? ⟨w.heap.size, 1, none⟩ = some (.int .i64 0) := keepc hb1 (cell_new _ _ _ 1 _ rfl)
    obtain ⟨hc, hf⟩ := bcell hb1
    have HB1 : Hid (Below w.heap.size w w1) := ((Below.refl w.heap.size w).alloc (Nat.le_refl _) _).trans (hb1.mono (by simp))
    clear hb1
    go_wp2_with fail
    refine bodyPost_ret (v := .tuple #[.agg #[.int .i64 0, .int .i64 0], .int .i64 120]) (by simp [results, Try.results41, go_sem, j0, j1]) rfl ⟨by rw [HX.out], (HB1.out.setCell (Nat.le_refl _) _).setCell (Nat.le_refl _) _⟩
  | true =>
    have hA := area_D h
    have HP := hid (fun w => rparts_lay l (layD l) w hA)
    have HSm := hid (tries_small hA).small
    obtain ⟨ps, hps⟩ : ∃ ps, psOf (itsOf (layD l)) = ps := ⟨_, rfl⟩
    have HFS : Hid (findS l at_ = (match findP ps at_ with | some q => (q, 0) | none => ((0, 0), 122))) := by unfold Hid findS; rw [if_pos h, hps]; cases findP ps at_ <;> rfl
    unfold PartsOk at HP
    rw [hps] at HP HSm
    clear h hA hps
    go_enter Try.func41, Try.ntmps41
    go_wp2_with fail
    refine (HP.out _).mono ?_
    rintro e w1 ⟨v1, v2, rfl, hop, hos, hb1⟩
    have hz3 : w.heap.size < w1.heap.size := by have := hb1.size; simp at this; omega
    have j0 : w1.cell? ⟨w.heap.size, 0, none⟩ = some (.int .i64 0) := keepc hb1 (cell_new _ _ _ 0 _ rfl)
    have j1 : w1.cell? ⟨w.heap.size, 1, none⟩ = some (.int .i64 0) := keepc hb1 (cell_new _ _ _ 1 _ rfl)
    obtain ⟨hc, hf⟩ := bcell hb1
    have hf0 : w1.frozen? ⟨w.heap.size, 0, none⟩ = false := by go_simp
    have hf1 : w1.frozen? ⟨w.heap.size, 1, none⟩ = false := by go_simp
    have HB1 : Hid (Below w.heap.size w w1) := ((Below.refl w.heap.size w).alloc (Nat.le_refl _) _).trans (hb1.mono (by simp))
    have HRP := hid hop.rp
    have hown := hop.own
    rw [World.size_alloc] at hown
    have HOW := hid hown
    clear hb1 hop hos hc hf hown
    go_wp2_with fail
    refine (index_any v1 ps at_ _ HRP.out HSm.out).mono ?_
    rintro e w2 ⟨i, rfl, hi, hb2⟩
    have hz4 : w.heap.size < w2.heap.size := by have := hb2.size; omega
    have k0 := keepf hb2 j0 hf0
    have k1 := keepf hb2 j1 hf1
    have j0 := keepc hb2 j0
    have j1 := keepc hb2 j1
    have HRP2 : Hid (RP w2 v1 ps) := HRP.out.below hb2
    have HB2 := hid (below_step hb2 HB1.out)
    clear hb2
    rcases hi with ⟨rfl, hn⟩ | ⟨k, ⟨q0, q1⟩, rfl, hk, hn⟩
    · have HX : Hid (findS l at_ = ((0, 0), 122)) := by unfold Hid; rw [HFS.out, hn]
      clear hn
      go_wp2_with fail
      refine bodyPost_ret (v := .tuple #[.agg #[.int .i64 0, .int .i64 0], .int .i64 122]) (by simp [results, Try.results41, go_sem, j0, j1]) rfl ⟨by rw [HX.out], (HB2.out.setCell (Nat.le_refl _) _).setCell (Nat.le_refl _) _⟩
    · have HX : Hid (findS l at_ = ((q0, q1), 0)) := by unfold Hid; rw [HFS.out, hn]
      obtain ⟨o, cap, rfl, hrp⟩ := HRP2.out
      have hlt : k < ps.length := (List.getElem?_eq_some_iff.1 hk).1
      have hpl := HSm.out.1
      rcases hrp with hrp | ⟨b, off, rfl, hbl, hcs⟩
      · subst hrp; simp at hlt
      obtain ⟨c0, c1⟩ := hcs k (q0, q1) hk
      have hd : decide ((k : Int) < 0) = false := by simp
      have hbn := HOW.out b rfl
      clear hcs hn hk
      simp only at c0 c1
      go_wp2_with fail
      refine bodyPost_ret (v := .tuple #[.agg #[.int .i64 q0, .int .i64 q1], .int .i64 0]) (by simp [results, Try.results41, go_sem, j0, j1]) rfl ⟨by rw [HX.out], (HB2.out.setCell (Nat.le_refl _) _).setCell (Nat.le_refl _) _⟩
set_option maxHeartbeats 2000000 in
set_option maxRecDepth 100000 in
theorem rget_any (l : List UInt8) (at_ : Int) (n : Int) (w : World) (hl : l.length ≤ maxLen) : Calls Try.prog 43 #[.string ⟨l.toArray⟩, .int .i64 at_, .int .i64 n] w (StrPost (getS l at_ n) w) := by
  cases h : openS l with
  | false =>
    have HX : Hid (getS l at_ n = ([], 120)) := by
      have hc : partC l at_ n = 120 := by unfold partC; rw [h]; exact if_neg (by simp)
      unfold Hid getS; rw [hc]; exact if_neg (by decide)
    have HP := hid (fun w => rparts_bad l w hl h)
    clear h
    go_enter Try.func43, Try.ntmps43
    go_wp2_with fail
    refine (HP.out _).mono ?_
    rintro e w1 ⟨rfl, hb1⟩
    have HB1 := hid hb1; clear hb1
    go_wp2_with fail
    go_ret2
    exact ⟨by rw [HX.out] <;> rfl, HB1.out⟩
  | true =>
    have hA := area_D h
    have HP := hid (fun w => rparts_lay l (layD l) w hA)
    have HSm := hid (tries_small hA).small
    by_cases hn : n < 1
    · have hd : decide (n < 1) = true := by simpa using hn
      have HX : Hid (getS l at_ n = ([], 1)) := by
        have hc : partC l at_ n = 1 := by unfold partC; rw [if_pos h, if_pos (by simpa using hn)]
        unfold Hid getS; rw [hc]; exact if_neg (by decide)
      clear h hA
      go_enter Try.func43, Try.ntmps43
      go_wp2_with fail
      refine (HP.out _).mono ?_
      rintro e w1 ⟨v1, v2, rfl, hop, hos, hb1⟩
      have HB1 := hid hb1; clear hb1 hop hos
      go_wp2_with fail
      go_ret2
      exact ⟨by rw [HX.out] <;> rfl, HB1.out⟩
    · have hd : decide (n < 1) = false := by simpa using hn
      obtain ⟨ps, hps⟩ : ∃ ps, psOf (itsOf (layD l)) = ps := ⟨_, rfl⟩
      have HFN : Hid (findP ps at_ = none → partC l at_ n = 122) := fun hq => part_none h hn (by rw [hps]; exact hq)
      have HFS : Hid (∀ q, findP ps at_ = some q → (partC l at_ n = if q.1 + q.2 - at_ < (n : Int) then 122 else 0) ∧ (16 ≤ q.1 ∧ 1 ≤ q.2 ∧ q.1 + q.2 ≤ l.length ∧ q.1 ≤ at_ ∧ at_ < q.1 + q.2)) := fun q hq => ⟨part_some h hn (by rw [hps]; exact hq), findP_in hA (by rw [hps]; exact hq)⟩
      have hl8 := hA.2.1
      unfold PartsOk at HP
      rw [hps] at HP HSm
      clear h hA hps
      go_enter Try.func43, Try.ntmps43
      go_wp2_with fail
      refine (HP.out _).mono ?_
      rintro e w1 ⟨v1, v2, rfl, hop, hos, hb1⟩
      have HB1 := hid hb1
      have HRP := hid hop.rp
      clear hb1 hop hos
      go_wp2_with fail
      refine (index_any v1 ps at_ _ HRP.out HSm.out).mono ?_
      rintro e w2 ⟨i, rfl, hi, hb2⟩
      have HRP2 : Hid (RP w2 v1 ps) := HRP.out.below hb2
      have HB2 := hid (below_step hb2 HB1.out)
      clear hb2
      rcases hi with ⟨rfl, hq⟩ | ⟨k, ⟨q0, q1⟩, rfl, hk, hq⟩
      · have HX : Hid (getS l at_ n = ([], 122)) := by unfold Hid getS; rw [HFN.out hq]; exact if_neg (by decide)
        clear hq
        go_wp2_with fail
        go_quiet (fail)
        go_wp2_with fail
        go_ret2
        exact ⟨by rw [HX.out] <;> rfl, by first | exact HB2.out | exact below_drewN HB2.out _⟩
      · obtain ⟨hpc, g0, g1, g2, g3, g4⟩ := HFS.out _ hq
        obtain ⟨o, cap, rfl, hrp⟩ := HRP2.out
        have hlt : k < ps.length := (List.getElem?_eq_some_iff.1 hk).1
        have hpl := HSm.out.1
        rcases hrp with hrp | ⟨b, off, rfl, hbl, hcs⟩
        · subst hrp; simp at hlt
        obtain ⟨c0, c1⟩ := hcs k (q0, q1) hk
        have hd0 : decide ((k : Int) < 0) = false := by simp
        clear hcs hq hk
        simp only at c0 c1 hpc g0 g1 g2 g3 g4
        obtain ⟨a, rfl⟩ := Int.eq_ofNat_of_zero_le (show 0 ≤ at_ by omega)
        by_cases hs : q0 + q1 - (a : Int) < n
        · have hd2 : decide (q0 + q1 - (a : Int) < n) = true := by simpa using hs
          have HX : Hid (getS l a n = ([], 122)) := by unfold Hid getS; rw [hpc, if_pos hs]; exact if_neg (by decide)
          clear hpc
          go_wp2_with fail
          go_quiet (fail)
          go_wp2_with fail
          go_ret2
          exact ⟨by rw [HX.out] <;> rfl, by first | exact HB2.out | exact below_drewN HB2.out _⟩
        · have hd2 : decide (q0 + q1 - (a : Int) < n) = false := by simpa using hs
          have HX : Hid (getS l a n = (sl l (a : Int).toNat ((a : Int) + n).toNat, 0)) := by unfold Hid getS; rw [hpc, if_neg hs]; exact if_pos rfl
          clear hpc
          have HE : Hid ((⟨l.toArray⟩ : ByteArray).extract a ((a : Int) + n).toNat = ⟨(sl l a ((a : Int) + n).toNat).toArray⟩) := ext_sl l _ _
          go_wp2_with fail
          go_quiet (fail)
          go_wp2_with fail
          go_ret2
          exact ⟨by rw [HX.out]; show Ending.returned (.tuple #[.string ((⟨l.toArray⟩ : ByteArray).extract a ((a : Int) + n).toNat), .int .i64 0]) = _; rw [HE.out]; rfl, by first | exact HB2.out | exact below_drewN HB2.out _⟩
set_option maxHeartbeats 2000000 in
set_option maxRecDepth 100000 in
theorem rput_any (l : List UInt8) (at_ : Int) (s : List UInt8) (w : World) (hl : l.length ≤ maxLen) (hs : s.length ≤ maxLen) : Calls Try.prog 45 #[.string ⟨l.toArray⟩, .int .i64 at_, .string ⟨s.toArray⟩] w (StrPost (putS l at_ s) w) := by
  unfold maxLen at hs
  cases h : openS l with
  | false =>
    have HX : Hid (putS l at_ s = ([], 120)) := by
      have hc : partC l at_ s.length = 120 := by unfold partC; rw [h]; exact if_neg (by simp)
      unfold Hid putS; rw [hc]; exact if_neg (by decide)
    have HP := hid (fun w => rparts_bad l w hl h)
    clear h
    go_enter Try.func45, Try.ntmps45
    go_wp2_with fail
    refine (HP.out _).mono ?_
    rintro e w1 ⟨rfl, hb1⟩
    have HB1 := hid hb1; clear hb1
    go_wp2_with fail
    go_ret2
    exact ⟨by rw [HX.out] <;> rfl, HB1.out⟩
  | true =>
    have hA := area_D h
    have HP := hid (fun w => rparts_lay l (layD l) w hA)
    have HSm := hid (tries_small hA).small
    by_cases hn : (s.length : Int) < 1
    · obtain rfl : s = [] := List.eq_nil_of_length_eq_zero (by omega)
      have HX : Hid (putS l at_ [] = ([], 1)) := by
        have hc : partC l at_ ([] : List UInt8).length = 1 := by unfold partC; rw [if_pos h, if_pos (by simp)]
        unfold Hid putS; rw [hc]; exact if_neg (by decide)
      clear h hA
      go_enter Try.func45, Try.ntmps45
      go_wp2_with fail
      refine (HP.out _).mono ?_
      rintro e w1 ⟨v1, v2, rfl, hop, hos, hb1⟩
      have HB1 := hid hb1; clear hb1 hop hos
      go_wp2_with fail
      go_ret2
      exact ⟨by rw [HX.out] <;> rfl, HB1.out⟩
    · have hd : s.isEmpty = false := by cases s with | nil => simp at hn | cons a b => rfl
      obtain ⟨ps, hps⟩ : ∃ ps, psOf (itsOf (layD l)) = ps := ⟨_, rfl⟩
      have HFN : Hid (findP ps at_ = none → partC l at_ s.length = 122) := fun hq => part_none h hn (by rw [hps]; exact hq)
      have HFS : Hid (∀ q, findP ps at_ = some q → (partC l at_ s.length = if q.1 + q.2 - at_ < (s.length : Int) then 122 else 0) ∧ (16 ≤ q.1 ∧ 1 ≤ q.2 ∧ q.1 + q.2 ≤ l.length ∧ q.1 ≤ at_ ∧ at_ < q.1 + q.2)) := fun q hq => ⟨part_some h hn (by rw [hps]; exact hq), findP_in hA (by rw [hps]; exact hq)⟩
      have hl8 := hA.2.1
      unfold PartsOk at HP
      rw [hps] at HP HSm
      clear h hA hps
      go_enter Try.func45, Try.ntmps45
      go_wp2_with fail
      refine (HP.out _).mono ?_
      rintro e w1 ⟨v1, v2, rfl, hop, hos, hb1⟩
      have HB1 := hid hb1
      have HRP := hid hop.rp
      clear hb1 hop hos
      go_wp2_with fail
      refine (index_any v1 ps at_ _ HRP.out HSm.out).mono ?_
      rintro e w2 ⟨i, rfl, hi, hb2⟩
      have HRP2 : Hid (RP w2 v1 ps) := HRP.out.below hb2
      have HB2 := hid (below_step hb2 HB1.out)
      clear hb2
      rcases hi with ⟨rfl, hq⟩ | ⟨k, ⟨q0, q1⟩, rfl, hk, hq⟩
      · have HX : Hid (putS l at_ s = ([], 122)) := by unfold Hid putS; rw [HFN.out hq]; exact if_neg (by decide)
        clear hq
        go_wp2_with fail
        go_quiet (fail)
        go_wp2_with fail
        go_ret2
        exact ⟨by rw [HX.out] <;> rfl, by first | exact HB2.out | exact below_drewN HB2.out _⟩
      · obtain ⟨hpc, g0, g1, g2, g3, g4⟩ := HFS.out _ hq
        obtain ⟨o, cap, rfl, hrp⟩ := HRP2.out
        have hlt : k < ps.length := (List.getElem?_eq_some_iff.1 hk).1
        have hpl := HSm.out.1
        rcases hrp with hrp | ⟨b, off, rfl, hbl, hcs⟩
        · subst hrp; simp at hlt
        obtain ⟨c0, c1⟩ := hcs k (q0, q1) hk
        have hd0 : decide ((k : Int) < 0) = false := by simp
        clear hcs hq hk
        simp only at c0 c1 hpc g0 g1 g2 g3 g4
        obtain ⟨a, rfl⟩ := Int.eq_ofNat_of_zero_le (show 0 ≤ at_ by omega)
        by_cases hs : q0 + q1 - (a : Int) < s.length
        · have hd2 : decide (q0 + q1 - (a : Int) < s.length) = true := by simpa using hs
          have HX : Hid (putS l a s = ([], 122)) := by unfold Hid putS; rw [hpc, if_pos hs]; exact if_neg (by decide)
          clear hpc
          go_wp2_with fail
          go_quiet (fail)
          go_wp2_with fail
          go_ret2
          exact ⟨by rw [HX.out] <;> rfl, by first | exact HB2.out | exact below_drewN HB2.out _⟩
        · have hd2 : decide (q0 + q1 - (a : Int) < s.length) = false := by simpa using hs
          have HX : Hid (putS l a s = (over l (a : Int).toNat s, 0)) := by unfold Hid putS; rw [hpc, if_neg hs]; exact if_pos rfl
          clear hpc
          have hw : IntKind.i64.wrap ((a : Int) + (s.length : Int)) = (a : Int) + s.length := IntWalk.i64_in _ ⟨by omega, by omega⟩
          have HE1 := ext_sl l 0 a
          have HE2 := ext_sl l (a + s.length) l.length
          have e1 : sl l 0 a = l.take a := by unfold sl; rw [List.drop_zero, Nat.sub_zero]
          have e2 : sl l (a + s.length) l.length = l.drop (a + s.length) := by unfold sl; rw [List.take_of_length_le (by rw [List.length_drop]; omega)]
          rw [e1] at HE1
          rw [e2] at HE2
          have HE1 := hid HE1
          have HE2 := hid HE2
          clear e1 e2
          go_wp2_with fail
          go_quiet (fail)
          go_wp2_with fail
          go_quiet (fail)
          go_wp2_with fail
          go_ret2
          exact ⟨by rw [HX.out]; exact congrArg (fun z => Ending.returned (.tuple #[.string z, .int .i64 0])) (by simp only [over, Int.toNat_natCast, List.append_assoc]), by first | exact below_drewN (below_drewN HB2.out _) _ | exact HB2.out | exact below_drewN HB2.out _⟩
end Go.Proofs.Ytcfmimfkaabmkaa
