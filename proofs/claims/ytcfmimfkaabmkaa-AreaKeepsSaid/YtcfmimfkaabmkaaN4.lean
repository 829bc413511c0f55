/- sameBlocks, and the walk of the law AreaForms. -/
import Derived.Test.YtcfmimfkaabmkaaN3
set_option linter.unusedVariables false
set_option linter.unusedSimpArgs false
namespace Go.Proofs.Ytcfmimfkaabmkaa
open Go.RowKit
attribute [local go_sem] Oper.semAt_some
attribute [local irreducible] num
def BoolPost (b : Bool) (w : World) (e : Ending) (w' : World) : Prop := e = .returned (.bool b) ∧ Below w.heap.size w w'
set_option maxHeartbeats 2000000 in
set_option maxRecDepth 100000 in
theorem same_any (v1 v2 : Value) (ps qs : List (Int × Int)) (w : World) (hR : RP w v1 ps) (hT : RP w v2 qs) (hl1 : ps.length ≤ 1000000) (hl2 : qs.length ≤ 1000000) : Calls Try.prog 53 #[v1, v2] w (BoolPost (decide (ps = qs)) w) := by
  obtain ⟨o, cap, rfl, hc⟩ := hR
  obtain ⟨o2, cap2, rfl, hc2⟩ := hT
  have HC := hid hc; have HC2 := hid hc2; clear hc hc2
  by_cases hl : ps.length = qs.length
  rotate_left
  · have hd : ((ps.length : Int) != (qs.length : Int)) = true := by rw [bne_iff_ne]; omega
    have hd2 : ((ps.length : Int) == (qs.length : Int)) = false := by rw [beq_eq_false_iff_ne]; omega
    have HX : Hid (decide (ps = qs) = false) := by unfold Hid; rw [decide_eq_false_iff_not]; exact fun h => hl (by rw [h])
    clear hl
    go_enter Try.func53, Try.ntmps53
    go_wp2_with fail
    go_ret
    exact ⟨by rw [HX.out] <;> rfl, Below.refl _ _⟩
  obtain ⟨m, hm⟩ : ∃ m, qs.length = m := ⟨_, rfl⟩
  rw [hm] at hl hl2 ⊢
  rw [hl]
  have HL := hid hl; have HM := hid hm
  clear hl hm hl1
  go_enter Try.func53, Try.ntmps53
  go_wp2_with fail
  go_loopw [13] (fun i wr => ∃ k : Nat, i = .int .i64 k ∧ k ≤ m ∧ Hid (ps.take k = qs.take k) ∧ Hid (Below w.heap.size w wr)) (fun i _ => m - (intOf i).toNat)
  case atStart => exact ⟨0, rfl, Nat.zero_le _, rfl, Below.refl _ _⟩
  case round =>
    obtain ⟨k, rfl, hk, HT, HB⟩ := hrel
    by_cases hlt : k < m
    · obtain ⟨p, hp⟩ : ∃ p, ps[k]? = some p := ⟨_, List.getElem?_eq_getElem (by have := HL.out; omega)⟩
      obtain ⟨q, hq⟩ : ∃ q, qs[k]? = some q := ⟨_, List.getElem?_eq_getElem (by have := HM.out; omega)⟩
      obtain hc := HC.out
      obtain hc2 := HC2.out
      rcases hc with hc | ⟨b, off, rfl, hbl, hc⟩
      · subst hc; simp at hp
      rcases hc2 with hc2 | ⟨b2, off2, rfl, hbl2, hc2⟩
      · subst hc2; simp at hq
      obtain ⟨c0, c1⟩ := hc k p hp
      obtain ⟨d0, d1⟩ := hc2 k q hq
      have c0 := keepc HB.out c0
      have c1 := keepc HB.out c1
      have d0 := keepc HB.out d0
      have d1 := keepc HB.out d1
      have HTS : Hid (p = q → ps.take (k + 1) = qs.take (k + 1)) := fun e => by rw [take_snoc hp, take_snoc hq, HT.out, e]
      have HNE : Hid (p ≠ q → decide (ps = qs) = false) := fun e => by rw [decide_eq_false_iff_not]; intro h; rw [h, hq] at hp; exact e (Option.some.inj hp).symm
      clear hp hq hc hc2
      obtain ⟨p0, p1⟩ := p
      obtain ⟨q0, q1⟩ := q
      simp only at c0 c1 d0 d1
      by_cases h0 : p0 = q0
      · subst h0
        by_cases h1 : p1 = q1
        · subst h1
          have HT2 := hid (HTS.out rfl)
          clear HNE HTS
          go_wp2_with fail
          go_quiet (fail)
          go_wp2_with fail
          go_roundw
          case rel => exact ⟨k + 1, rfl, by omega, HT2.out, below_drewN HB.out _⟩
          case measure => simp [intOf]; omega
        · have g1 : (p1 == q1) = false := by rw [beq_eq_false_iff_ne]; exact h1
          have HX := hid (HNE.out (by rw [ne_eq, Prod.mk.injEq]; exact fun h => h1 h.2))
          clear h1 HNE HTS
          go_wp2_with fail
          go_quiet (fail)
          go_wp2_with fail
          go_ret
          exact ⟨by rw [HX.out] <;> rfl, below_drewN HB.out _⟩
      · have g1 : (p0 == q0) = false := by rw [beq_eq_false_iff_ne]; exact h0
        have HX := hid (HNE.out (by rw [ne_eq, Prod.mk.injEq]; exact fun h => h0 h.1))
        clear h0 HNE HTS
        go_wp2_with fail
        go_quiet (fail)
        go_wp2_with fail
        go_ret
        exact ⟨by rw [HX.out] <;> rfl, below_drewN HB.out _⟩
    · have HX : Hid (decide (ps = qs) = true) := by
        unfold Hid; rw [decide_eq_true_iff]
        have h := HT.out
        rw [List.take_of_length_le (by have := HL.out; omega), List.take_of_length_le (by have := HM.out; omega)] at h
        exact h
      go_wp2_with fail
      go_ret
      exact ⟨by rw [HX.out] <;> rfl, HB.out⟩
theorem blocksS_length (l : List UInt8) : (blocksS l).1.length ≤ 10000 := by
  unfold blocksS
  split
  · rename_i h
    have h2 := (area_num4 (area_D h)).2
    simp only [psOf, itsOf, List.length_map]
    omega
  · simp
theorem forms_alike (l : List UInt8) (n : Int) (hl : l.length ≤ maxLen) : ∃ (a1 : List UInt8) (a2 : Int) (ps : List (Int × Int)) (b2 : Int) (qs : List (Int × Int)) (c2 d1 d2 r1 r2 k1 : Int), ps.length ≤ 10000 ∧ qs.length ≤ 10000 ∧
    Rets 27 #[.int .i64 n] (.tuple #[.string ⟨a1.toArray⟩, .int .i64 a2]) ∧ Rets 46 #[.int .i64 n] (.tuple #[.string ⟨a1.toArray⟩, .int .i64 a2]) ∧
    (∀ w, Calls Try.prog 26 #[.string ⟨l.toArray⟩] w (fun e w' => ∃ v, e = .returned (.tuple #[v, .int .i64 b2]) ∧ RP w' v ps ∧ Below w.heap.size w w')) ∧ (∀ w, Calls Try.prog 47 #[.string ⟨l.toArray⟩] w (fun e w' => ∃ v, e = .returned (.tuple #[v, .int .i64 b2]) ∧ RP w' v ps ∧ Below w.heap.size w w')) ∧
    (∀ w, Calls Try.prog 48 #[.string ⟨l.toArray⟩] w (fun e w' => ∃ v, e = .returned (.tuple #[v, .int .i64 c2]) ∧ RP w' v qs ∧ Below w.heap.size w w')) ∧ (∀ w, Calls Try.prog 49 #[.string ⟨l.toArray⟩] w (fun e w' => ∃ v, e = .returned (.tuple #[v, .int .i64 c2]) ∧ RP w' v qs ∧ Below w.heap.size w w')) ∧
    Rets 39 #[.string ⟨l.toArray⟩] (.tuple #[.int .i64 d1, .int .i64 d2]) ∧ Rets 50 #[.string ⟨l.toArray⟩] (.tuple #[.int .i64 d1, .int .i64 d2]) ∧
    Rets 51 #[.string ⟨l.toArray⟩] (.tuple #[.int .i64 r1, .int .i64 r2]) ∧ Rets 52 #[.string ⟨l.toArray⟩] (.tuple #[.int .i64 r1, .int .i64 r2]) ∧
    Rets 25 #[.string ⟨l.toArray⟩] (.int .i64 k1) ∧ Rets 24 #[.string ⟨l.toArray⟩] (.int .i64 k1) :=
  ⟨(newS n).1, (newS n).2, (blocksS l).1, (blocksS l).2, (gapsS l).1, (gapsS l).2, (extentS l).1, (extentS l).2, (roomSz l).1, (roomSz l).2, chkS l, blocksS_length l, gapsS_length l hl,
    fun w => new_any n w, fun w => rnew_any n w,
    fun w => (blocks_any l w hl).mono fun e w' ⟨v, h1, h2, h3⟩ => ⟨v, h1, h2.rp, h3⟩, fun w => (rblocks_any l w hl).mono fun e w' ⟨v, h1, h2, h3⟩ => ⟨v, h1, h2.rp, h3⟩,
    fun w => (gaps_any l w hl).mono fun e w' ⟨v, h1, h2, h3⟩ => ⟨v, h1, h2.rp, h3⟩, fun w => (rgaps_any l w hl).mono fun e w' ⟨v, h1, h2, h3⟩ => ⟨v, h1, h2.rp, h3⟩,
    fun w => extent_any l w hl, fun w => rextent_any l w hl, fun w => aroom_any l w hl, fun w => rroom_any l w hl, fun w => check_l l w hl, fun w => rcheck_any l w hl⟩
set_option maxHeartbeats 4000000 in
set_option maxRecDepth 100000 in
theorem forms_law (l : List UInt8) (n : Int) (w : World) (hl : l.length ≤ maxLen) : Calls Try.prog 10 #[.string ⟨l.toArray⟩, .int .i64 n] w (SanePost w) := by
  obtain ⟨a1, a2, ps, b2, qs, c2, d1, d2, r1, r2, k1, hps, hqs, h27, h46, h26, h47, h48, h49, h39, h50, h51, h52, h25, h24⟩ := forms_alike l n hl
  have H27 := hid h27; clear h27
  have H46 := hid h46; clear h46
  have H26 := hid h26; clear h26
  have H47 := hid h47; clear h47
  have H48 := hid h48; clear h48
  have H49 := hid h49; clear h49
  have H39 := hid h39; clear h39
  have H50 := hid h50; clear h50
  have H51 := hid h51; clear h51
  have H52 := hid h52; clear h52
  have H25 := hid h25; clear h25
  have H24 := hid h24; clear h24
  unfold maxLen at hl
  go_enter Try.func10, Try.ntmps10
  go_wp2_with fail
  refine (sane_any _).mono ?_
  rintro e w1 ⟨rfl, hb1⟩
  have HB1 := hid hb1; clear hb1
  go_wp2_with fail
  refine (H27.out _).mono ?_
  rintro e w2 ⟨rfl, hb2⟩
  have HB2 := hid (below_step hb2 HB1.out); clear hb2
  go_wp2_with fail
  refine (H46.out _).mono ?_
  rintro e w3 ⟨rfl, hb3⟩
  have HB3 := hid (below_step hb3 HB2.out); clear hb3
  go_wp2_with fail
  refine (H26.out _).mono ?_
  rintro e w4 ⟨v26, rfl, hr26, hb4⟩
  have HR26 := hid hr26; clear hr26
  have HB4 := hid (below_step hb4 HB3.out); clear hb4
  go_wp2_with fail
  refine (H47.out _).mono ?_
  rintro e w5 ⟨v47, rfl, hr47, hb5⟩
  have HR47 := hid hr47; clear hr47
  have HR26 := hid (HR26.out.below hb5)
  have HB5 := hid (below_step hb5 HB4.out); clear hb5
  go_wp2_with fail
  refine (H48.out _).mono ?_
  rintro e w6 ⟨v48, rfl, hr48, hb6⟩
  have HR48 := hid hr48; clear hr48
  have HR26 := hid (HR26.out.below hb6)
  have HR47 := hid (HR47.out.below hb6)
  have HB6 := hid (below_step hb6 HB5.out); clear hb6
  go_wp2_with fail
  refine (H49.out _).mono ?_
  rintro e w7 ⟨v49, rfl, hr49, hb7⟩
  have HR49 := hid hr49; clear hr49
  have HR26 := hid (HR26.out.below hb7)
  have HR47 := hid (HR47.out.below hb7)
  have HR48 := hid (HR48.out.below hb7)
  have HB7 := hid (below_step hb7 HB6.out); clear hb7
  go_wp2_with fail
  refine (H39.out _).mono ?_
  rintro e w8 ⟨rfl, hb8⟩
  have HR26 := hid (HR26.out.below hb8)
  have HR47 := hid (HR47.out.below hb8)
  have HR48 := hid (HR48.out.below hb8)
  have HR49 := hid (HR49.out.below hb8)
  have HB8 := hid (below_step hb8 HB7.out); clear hb8
  go_wp2_with fail
  refine (H50.out _).mono ?_
  rintro e w9 ⟨rfl, hb9⟩
  have HR26 := hid (HR26.out.below hb9)
  have HR47 := hid (HR47.out.below hb9)
  have HR48 := hid (HR48.out.below hb9)
  have HR49 := hid (HR49.out.below hb9)
  have HB9 := hid (below_step hb9 HB8.out); clear hb9
  go_wp2_with fail
  refine (H51.out _).mono ?_
  rintro e w10 ⟨rfl, hb10⟩
  have HR26 := hid (HR26.out.below hb10)
  have HR47 := hid (HR47.out.below hb10)
  have HR48 := hid (HR48.out.below hb10)
  have HR49 := hid (HR49.out.below hb10)
  have HB10 := hid (below_step hb10 HB9.out); clear hb10
  go_wp2_with fail
  refine (H52.out _).mono ?_
  rintro e w11 ⟨rfl, hb11⟩
  have HR26 := hid (HR26.out.below hb11)
  have HR47 := hid (HR47.out.below hb11)
  have HR48 := hid (HR48.out.below hb11)
  have HR49 := hid (HR49.out.below hb11)
  have HB11 := hid (below_step hb11 HB10.out); clear hb11
  go_wp2_with fail
  refine (H25.out _).mono ?_
  rintro e w12 ⟨rfl, hb12⟩
  have HR26 := hid (HR26.out.below hb12)
  have HR47 := hid (HR47.out.below hb12)
  have HR48 := hid (HR48.out.below hb12)
  have HR49 := hid (HR49.out.below hb12)
  have HB12 := hid (below_step hb12 HB11.out); clear hb12
  go_wp2_with fail
  refine (H24.out _).mono ?_
  rintro e w13 ⟨rfl, hb13⟩
  have HR26 := hid (HR26.out.below hb13)
  have HR47 := hid (HR47.out.below hb13)
  have HR48 := hid (HR48.out.below hb13)
  have HR49 := hid (HR49.out.below hb13)
  have HB13 := hid (below_step hb13 HB12.out); clear hb13
  go_wp2_with fail
  refine (same_any v26 v47 ps ps _ HR26.out HR47.out (by omega) (by omega)).mono ?_
  rintro e w14 ⟨rfl, hb14⟩
  rw [decide_eq_true rfl]
  have HR26 := hid (HR26.out.below hb14)
  have HR47 := hid (HR47.out.below hb14)
  have HR48 := hid (HR48.out.below hb14)
  have HR49 := hid (HR49.out.below hb14)
  have HB14 := hid (below_step hb14 HB13.out); clear hb14
  go_wp2_with fail
  refine (same_any v48 v49 qs qs _ HR48.out HR49.out (by omega) (by omega)).mono ?_
  rintro e w15 ⟨rfl, hb15⟩
  rw [decide_eq_true rfl]
  have HR26 := hid (HR26.out.below hb15)
  have HR47 := hid (HR47.out.below hb15)
  have HR48 := hid (HR48.out.below hb15)
  have HR49 := hid (HR49.out.below hb15)
  have HB15 := hid (below_step hb15 HB14.out); clear hb15
  go_wp2_with fail
  go_ret
  exact ⟨rfl, HB15.out⟩
end Go.Proofs.Ytcfmimfkaabmkaa
