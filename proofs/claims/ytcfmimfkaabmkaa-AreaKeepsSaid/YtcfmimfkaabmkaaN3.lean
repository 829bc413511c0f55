/- R.Gaps, R.Room, area.Room. -/
import Derived.Test.YtcfmimfkaabmkaaN2
set_option linter.unusedVariables false
set_option linter.unusedSimpArgs false
namespace Go.Proofs.Ytcfmimfkaabmkaa
open Go.RowKit
attribute [local go_sem] Oper.semAt_some
attribute [local irreducible] num
theorem gapsP_snoc : ∀ (A : Lay) (e p : Nat) (s : List UInt8), gapsP e (A ++ [(p, s)]) = gapsP e A ++ (if p - 8 - endOf e A = 0 then [] else [(((endOf e A + 8 : Nat) : Int), ((p - 8 - endOf e A - 8 : Nat) : Int))])
  | [], e, p, s => by simp only [gapsP, endOf, List.nil_append, List.append_nil]; rfl
  | (q, t) :: r, e, p, s => by
    have ih := gapsP_snoc r (q + upN t.length) p s
    rw [List.cons_append, gapsP, ih, gapsP, endOf, List.append_assoc]
theorem endOf_snoc : ∀ (A : Lay) (e p : Nat) (s : List UInt8), endOf e (A ++ [(p, s)]) = p + upN s.length
  | [], e, p, s => rfl
  | (q, t) :: r, e, p, s => by rw [List.cons_append, endOf]; exact endOf_snoc r _ p s
theorem take_snoc {α : Type} {l : List α} {k : Nat} {x : α} (h : l[k]? = some x) : l.take (k + 1) = l.take k ++ [x] := by rw [List.take_add_one, h]; rfl
/-- What is known of the allocation number k. -/
theorem lay_at {lay : Lay} (hok : ok true 8 lay) {k p : Nat} {s : List UInt8} (h : lay[k]? = some (p, s)) : endOf 8 (lay.take k) + 8 ≤ p ∧ p % 8 = 0 ∧ endOf 8 (lay.take k) % 8 = 0 ∧ p + upN s.length ≤ endOf 8 lay ∧ 8 ≤ endOf 8 (lay.take k) ∧ 1 ≤ s.length := by
  have h2 : lay = lay.take k ++ ((p, s) :: lay.drop (k + 1)) := by
    have := drop_at h
    conv => lhs; rw [← List.take_append_drop k lay, this]
  have h3 := hok
  rw [h2] at h3
  obtain ⟨k1, k2⟩ := (ok_append _ _ _ _).1 h3
  obtain ⟨o1, o2, o3, o4, o5⟩ := k2
  have h5 := enc_length (e := 8) rfl k1
  have h6 := endOf_ge k1
  refine ⟨o2, o1, ?_, ends_le lay _ _ hok _ (List.mem_of_getElem? h), h6, o4⟩
  exact endOf_8 rfl k1
def RGapI (lay : Lay) (N : Nat) (W0 : World) (k : Nat) (v : Value) (wr : World) : Prop := OP wr N v (gapsP 8 (lay.take k)) ∧ Below N W0 wr
set_option maxHeartbeats 4000000 in
set_option maxRecDepth 100000 in
theorem rgaps_main (l : List UInt8) (lay : Lay) (w : World) (hA : Area l lay) : Calls Try.prog 49 #[.string ⟨l.toArray⟩] w (PiecesPost (gapsL l.length lay, 0) w) := by
  have hl1 := hA.1
  have hl2 := hA.2.1
  have hend := hA.2.2.2.1
  have HP := hid (fun w => rparts_lay l lay w hA)
  have HSm := hid (tries_small hA)
  have hlen : lay.length ≤ 8192 := (area_num4 hA).2
  have HLA := hid (fun k p s h => lay_at hA.2.2.1 (k := k) (p := p) (s := s) h)
  have hpl : (psOf (itsOf lay)).length = lay.length := by simp [psOf, itsOf]
  obtain ⟨ps, hps⟩ : ∃ ps, psOf (itsOf lay) = ps := ⟨_, rfl⟩
  have hpk : ∀ (k p : Nat) (s : List UInt8), lay[k]? = some (p, s) → ps[k]? = some ((p : Int), (s.length : Int)) := fun k p s h => by rw [← hps]; unfold psOf itsOf; simp [h]
  have HPK := hid hpk
  have HGL := hid (fun k => (gapsP_length (lay.take k) 8))
  unfold PartsOk at HP
  rw [hps] at HP HSm hpl
  clear hA hps hpk
  obtain ⟨m, hm⟩ : ∃ m, lay.length = m := ⟨_, rfl⟩
  rw [hm] at hlen hpl
  have HM := hid hm; have HPL := hid hpl; clear hm hpl
  go_enter Try.func49, Try.ntmps49
  go_wp2_with fail
  refine (HP.out _).mono ?_
  rintro e w1 ⟨v1, v2, rfl, hop, hos, hb1⟩
  obtain ⟨o, cap, rfl, hc⟩ := hop.rp
  rw [HPL.out]
  have HC := hid hc
  have HB1 := hid hb1; have hz1 := hb1.size
  clear hb1 hop hos hc
  go_wp2_with fail
  have hI0 : Hid (RGapI lay w1.heap.size w1 0 (.slice (some ⟨w1.heap.size, 0, none⟩) 0 0) (w1.alloc (.cells #[] 37))) := ⟨op_new w1 w1.heap.size (Nat.le_refl _), (Below.refl _ _).alloc (Nat.le_refl _) _⟩
  go_loopw [7, 8, 9] (fun v a q wr => ∃ (k : Nat), q = .int .i64 k ∧ a = .int .i64 (endOf 8 (lay.take k) : Nat) ∧ k ≤ m ∧ Hid (RGapI lay w1.heap.size w1 k v wr)) (fun _ _ q _ => m - (intOf q).toNat)
  case atStart => exact ⟨0, rfl, rfl, Nat.zero_le _, hI0⟩
  case round =>
    clear hI0
    obtain ⟨k, rfl, rfl, hk, HI⟩ := hrel
    obtain ⟨hop, hbw⟩ := HI.out
    have HOP := hid hop
    have HBW := hid hbw
    have hbw0 := hbw.size
    clear hop hbw HI
    by_cases hlt : k < m
    · obtain ⟨⟨p, s⟩, hy⟩ : ∃ y, lay[k]? = some y := ⟨_, List.getElem?_eq_getElem (by have := HM.out; omega)⟩
      have hyp := HPK.out k p s hy
      have hc := HC.out
      rcases hc with hc | ⟨b, off, rfl, hbl, hc⟩
      · rw [hc] at hyp; simp at hyp
      have d0 := (hc k _ hyp).1
      have d1 := (hc k _ hyp).2
      simp only at d0 d1
      obtain ⟨k1, k2, k3, k4, k5, k6⟩ := HLA.out k p s hy
      have HGS := hid (gapsP_snoc (lay.take k) 8 p s)
      have HES := hid (endOf_snoc (lay.take k) 8 p s)
      rw [← take_snoc hy] at HGS HES
      obtain ⟨ek, hek⟩ : ∃ ek, endOf 8 (lay.take k) = ek := ⟨_, rfl⟩
      rw [hek] at k1 k3 k5 HGS ⊢
      clear hek hc hyp hy
      have hub := upN_bd s.length
      have huz : upZ (s.length : Int) = (upN s.length : Int) := upZ_nat _
      obtain ⟨n1, hn1⟩ : ∃ n1, s.length = n1 := ⟨_, rfl⟩
      rw [hn1] at d1 k4 k6 hub huz HES
      obtain ⟨un, hun⟩ : ∃ un, upN n1 = un := ⟨_, rfl⟩
      rw [hun] at k4 hub huz HES
      clear hun hn1
      have D0 := hid d0; have D1 := hid d1
      have d0 := keepB HBW.out (by dsimp only; omega) d0
      have d1 := keepB HBW.out (by dsimp only; omega) d1
      have hw1 : IntKind.i64.wrap ((p : Int) + upZ (n1 : Int)) = ((p + un : Nat) : Int) := by rw [huz, IntWalk.i64_in _ ⟨by omega, by omega⟩]; omega
      have HGLk := HGL.out k
      rw [List.length_take] at HGLk
      by_cases hg : p - 8 - ek = 0
      · have g1 : decide ((ek : Int) < (p : Int) - 8) = false := by simp; omega
        have HG2 : Hid (gapsP 8 (lay.take (k + 1)) = gapsP 8 (lay.take k)) := by unfold Hid; rw [HGS.out, if_pos hg, List.append_nil]
        have HH := hid hw1
        clear hg hw1
        go_wp2_with fail
        have hw1 := HH.out
        go_quiet ((go_at_call 67; exact Calls.quiet_of_same ((rup_any _ _ (by omega) (by omega)).mono (fun _ _ h => ⟨h.1, h.2.symm⟩))))
        go_wp2_with fail
        go_roundw
        case rel => exact ⟨k + 1, by go_num, by rw [HES.out]; exact congrArg (Value.int IntKind.i64) (by omega), by omega, by unfold Hid RGapI; rw [HG2.out]; exact ⟨HOP.out.below (below_drewN (Below.refl _ _) _), below_drewN HBW.out _⟩⟩
        case measure => simp [intOf]; omega
      · have g1 : decide ((ek : Int) < (p : Int) - 8) = true := by simp; omega
        have HG2 : Hid (gapsP 8 (lay.take (k + 1)) = gapsP 8 (lay.take k) ++ [((ek : Int) + 8, (p : Int) - 8 - ek - 8)]) := by
          unfold Hid; rw [HGS.out, if_neg hg]; congr 2
          rw [Prod.mk.injEq]; constructor <;> omega
        have HH := hid hw1
        clear hg hw1
        go_upto_region 12 with (at_builtin; refine app_piece rfl _ _ rfl (w1.heap.size) _ (gapsP 8 (lay.take k)) ((ek : Int) + 8, (p : Int) - 8 - ek - 8) _ _ rfl rfl (HOP.out.below ((Below.refl _ _).alloc (Nat.le_refl _) _)) (cell_new _ _ _ 0 _ rfl) (cell_new _ _ _ 1 _ rfl) (by omega) (by simp; omega) ?_)
        intro v3 w3 hop3 hg3
        have hb3 := (HOP.out.below ((Below.refl _ _).alloc (Nat.le_refl _) _)).grown (HBW.out.alloc (by omega) _) hg3 (by simp; omega)
        have d0 := keepB hb3 (by dsimp only; omega) D0.out
        have d1 := keepB hb3 (by dsimp only; omega) D1.out
        have HOP3 := hid hop3; have HB3 := hid hb3; have hz3 := hb3.size; clear hop3 hb3 hg3
        go_wp2_with fail
        have hw1 := HH.out
        go_quiet ((go_at_call 67; exact Calls.quiet_of_same ((rup_any _ _ (by omega) (by omega)).mono (fun _ _ h => ⟨h.1, h.2.symm⟩))))
        go_wp2_with fail
        go_roundw
        case rel => exact ⟨k + 1, by go_num, by rw [HES.out]; exact congrArg (Value.int IntKind.i64) (by omega), by omega, by unfold Hid RGapI; rw [HG2.out]; exact ⟨HOP3.out.below (below_drewN (Below.refl _ _) _), below_drewN HB3.out _⟩⟩
        case measure => simp [intOf]; omega
    · have hkm : k = m := by omega
      have hT : lay.take k = lay := List.take_of_length_le (by have := HM.out; omega)
      rw [hT] at HOP ⊢
      have HWF : Hid (Below w.heap.size w wr) := HB1.out.trans (HBW.out.mono hz1)
      have HGLk := HGL.out k
      rw [hT] at HGLk
      obtain ⟨o3, cap3, rfl, -⟩ := HOP.out.rp
      obtain ⟨en, hen⟩ : ∃ en, endOf 8 lay = en := ⟨_, rfl⟩
      have HGE : Hid (gapsL l.length lay = gapsP 8 lay ++ tailP l.length en) := by unfold Hid gapsL; rw [hen]
      rw [hen] at hend ⊢
      have HM2 := HM.out
      clear hT hkm hen HLA
      by_cases hr : en + 16 ≤ l.length
      · have g1 : decide ((16 : Int) ≤ (l.length : Int) - en) = true := by simp; omega
        have HX : Hid (gapsL l.length lay = gapsP 8 lay ++ [((en : Int) + 8, ((l.length : Int) - en - 8) / 8 * 8)]) := by
          unfold Hid; rw [HGE.out]; unfold tailP; rw [if_pos hr]; congr 2
          rw [Prod.mk.injEq]; constructor <;> omega
        have hq : ((l.length : Int) - en - 8).tdiv 8 = ((l.length : Int) - en - 8) / 8 := Int.tdiv_eq_ediv_of_nonneg (by omega)
        have hw2 : IntKind.i64.wrap (((l.length : Int) - en - 8).tdiv 8) = ((l.length : Int) - en - 8) / 8 := by rw [hq]; exact IntWalk.i64_in _ ⟨by omega, by omega⟩
        have hw3 : IntKind.i64.wrap (((l.length : Int) - en - 8) / 8 * 8) = ((l.length : Int) - en - 8) / 8 * 8 := IntWalk.i64_in _ ⟨by omega, by omega⟩
        have hm : lay.length ≤ 8192 := by omega
        go_upto_region 15 with (at_builtin; refine app_piece rfl _ _ rfl (w1.heap.size) _ (gapsP 8 lay) ((en : Int) + 8, ((l.length : Int) - en - 8) / 8 * 8) _ _ rfl rfl (HOP.out.below ((Below.refl _ _).alloc (Nat.le_refl _) _)) (cell_new _ _ _ 0 _ rfl) (cell_new _ _ _ 1 _ rfl) (by omega) (by simp; omega) ?_)
        intro v3 w3 hop3 hg3
        have hb3 := (HOP.out.below ((Below.refl _ _).alloc (Nat.le_refl _) _)).grown (HBW.out.alloc (by omega) _) hg3 (by simp; omega)
        have HOP3 := hid hop3
        have HWF3 : Hid (Below w.heap.size w w3) := HB1.out.trans (hb3.mono hz1)
        clear hop3 hb3 hg3
        go_wp2_with fail
        go_ret2
        rw [HX.out]
        exact ⟨_, rfl, HOP3.out.mono hz1, HWF3.out⟩
      · have g1 : decide ((16 : Int) ≤ (l.length : Int) - en) = false := by simp; omega
        have HX : Hid (gapsL l.length lay = gapsP 8 lay) := by
          unfold Hid; rw [HGE.out]; unfold tailP; rw [if_neg hr, List.append_nil]
        go_wp2_with fail
        go_ret2
        rw [HX.out]
        exact ⟨_, rfl, HOP.out.mono hz1, HWF.out⟩
theorem rgaps_any (l : List UInt8) (w : World) (hl : l.length ≤ maxLen) : Calls Try.prog 49 #[.string ⟨l.toArray⟩] w (PiecesPost (gapsS l) w) := by
  cases h : openS l with
  | true =>
    have HX : gapsS l = (gapsL l.length (layD l), 0) := by unfold gapsS; rw [h]; exact if_pos rfl
    rw [HX]; exact rgaps_main l _ w (area_D h)
  | false =>
    have HX : Hid (gapsS l = ([], 120)) := by unfold Hid gapsS; rw [h]; exact if_neg (by simp)
    have HP := hid (fun w => rparts_bad l w hl h)
    clear h
    go_enter Try.func49, Try.ntmps49
    go_wp2_with fail
    refine (HP.out _).mono ?_
    rintro e w1 ⟨rfl, hb1⟩
    have HB1 := hid hb1; clear hb1
    go_wp2_with fail
    go_ret2
    rw [HX.out]
    exact ⟨_, rfl, World.ownsRow_nil _ _ _ _, HB1.out⟩
theorem mostP_snoc {ps : List (Int × Int)} {k : Nat} {q : Int × Int} (h : ps[k]? = some q) : mostP (ps.take (k + 1)) = max (mostP (ps.take k)) q.2 := by
  unfold mostP; rw [take_snoc h, List.foldl_append]; rfl
theorem gapsS_length (l : List UInt8) (hl : l.length ≤ maxLen) : (gapsS l).1.length ≤ 10000 := by
  unfold gapsS
  split
  · rename_i h
    have h1 := gapsP_length (layD l) 8
    have h2 := (area_num4 (area_D h)).2
    simp only [gapsL, List.length_append]
    have : (tailP l.length (endOf 8 (layD l))).length ≤ 1 := by unfold tailP; split <;> simp
    omega
  · simp
set_option maxHeartbeats 2000000 in
set_option maxRecDepth 100000 in
theorem aroom_any (l : List UInt8) (w : World) (hl : l.length ≤ maxLen) : Calls Try.prog 51 #[.string ⟨l.toArray⟩] w (TwoPost (roomSz l) w) := by
  have HO := hid (fun w => gaps_any l w hl)
  have hgl := gapsS_length l hl
  have hcode : (gapsS l).2 ≠ 0 → (gapsS l).1 = [] := by unfold gapsS; split <;> simp
  have HX : Hid (roomSz l = (mostP (gapsS l).1, (gapsS l).2)) := rfl
  obtain ⟨ps, hps⟩ : ∃ ps, (gapsS l).1 = ps := ⟨_, rfl⟩
  obtain ⟨c, hc0⟩ : ∃ c, (gapsS l).2 = c := ⟨_, rfl⟩
  unfold PiecesPost at HO
  rw [hps, hc0] at HX hcode
  rw [hps] at hgl
  rw [hps, hc0] at HO
  clear hps hc0
  go_enter Try.func51, Try.ntmps51
  go_wp2_with fail
  refine (HO.out _).mono ?_
  rintro e w1 ⟨v, rfl, hop, hb1⟩
  have HRP := hid hop.rp
  have HB1 := hid hb1; clear hb1 hop
  have hz1 := HB1.out.size
  obtain ⟨o, cap, rfl, hc⟩ := HRP.out
  have HC := hid hc; clear hc
  go_wp2_with fail
  go_loopw [6, 16] (fun s i wr => ∃ k : Nat, s = .int .i64 (mostP (ps.take k)) ∧ i = .int .i64 k ∧ k ≤ ps.length ∧ Hid (Below w1.heap.size w1 wr)) (fun _ i _ => ps.length - (intOf i).toNat)
  case atStart => exact ⟨0, rfl, rfl, Nat.zero_le _, Below.refl _ _⟩
  case round =>
    obtain ⟨k, rfl, rfl, hk, HB⟩ := hrel
    by_cases hlt : k < ps.length
    · obtain ⟨q, hq⟩ : ∃ q, ps[k]? = some q := ⟨_, List.getElem?_eq_getElem hlt⟩
      obtain hc := HC.out
      rcases hc with hc | ⟨b, off, rfl, hbl, hc⟩
      · subst hc; simp at hlt
      obtain ⟨c0, c1⟩ := hc k q hq
      have c0 := keepc HB.out c0
      have c1 := keepc HB.out c1
      have HMS := hid (mostP_snoc hq)
      clear hq hc
      obtain ⟨q0, q1⟩ := q
      simp only at c0 c1 HMS
      obtain ⟨mk, hmk⟩ : ∃ mk, mostP (ps.take k) = mk := ⟨_, rfl⟩
      rw [hmk] at HMS ⊢
      clear hmk
      have hzr := HB.out.size
      go_wp2_with fail
      go_roundw
      case rel => exact ⟨k + 1, by rw [HMS.out], by go_num, by omega, by first | exact HB.out | exact HB.out.alloc (by omega) _⟩
      case measure => simp [intOf]; omega
    · have HT : Hid (mostP (ps.take k) = mostP ps) := by unfold Hid; rw [List.take_of_length_le (by omega)]
      go_wp2_with fail
      go_ret2
      exact ⟨by rw [HX.out, ← HT.out]; rfl, HB1.out.trans (HB.out.mono hz1)⟩
set_option maxHeartbeats 2000000 in
set_option maxRecDepth 100000 in
theorem rroom_any (l : List UInt8) (w : World) (hl : l.length ≤ maxLen) : Calls Try.prog 52 #[.string ⟨l.toArray⟩] w (TwoPost (roomSz l) w) := by
  have HO := hid (fun w => rgaps_any l w hl)
  have hgl := gapsS_length l hl
  have hcode : (gapsS l).2 ≠ 0 → (gapsS l).1 = [] := by unfold gapsS; split <;> simp
  have HX : Hid (roomSz l = (mostP (gapsS l).1, (gapsS l).2)) := rfl
  obtain ⟨ps, hps⟩ : ∃ ps, (gapsS l).1 = ps := ⟨_, rfl⟩
  obtain ⟨c, hc0⟩ : ∃ c, (gapsS l).2 = c := ⟨_, rfl⟩
  unfold PiecesPost at HO
  rw [hps, hc0] at HX hcode
  rw [hps] at hgl
  rw [hps, hc0] at HO
  clear hps hc0
  go_enter Try.func52, Try.ntmps52
  go_wp2_with fail
  refine (HO.out _).mono ?_
  rintro e w1 ⟨v, rfl, hop, hb1⟩
  have HRP := hid hop.rp
  have HB1 := hid hb1; clear hb1 hop
  have hz1 := HB1.out.size
  obtain ⟨o, cap, rfl, hc⟩ := HRP.out
  have HC := hid hc; clear hc
  by_cases hc0 : c = 0
  rotate_left
  · have hc := hc0
    have hd : (c != 0) = true := by rw [bne_iff_ne]; exact hc
    have hd2 : (c == 0) = false := by rw [beq_eq_false_iff_ne]; exact hc
    have hnil := hcode hc
    subst hnil
    go_wp2_with fail
    go_ret2
    exact ⟨by rw [HX.out]; rfl, HB1.out⟩
  subst hc0
  go_wp2_with fail
  go_loopw [6, 7] (fun s i wr => ∃ k : Nat, s = .int .i64 (mostP (ps.take k)) ∧ i = .int .i64 k ∧ k ≤ ps.length ∧ Hid (Below w1.heap.size w1 wr)) (fun _ i _ => ps.length - (intOf i).toNat)
  case atStart => exact ⟨0, rfl, rfl, Nat.zero_le _, Below.refl _ _⟩
  case round =>
    obtain ⟨k, rfl, rfl, hk, HB⟩ := hrel
    by_cases hlt : k < ps.length
    · obtain ⟨q, hq⟩ : ∃ q, ps[k]? = some q := ⟨_, List.getElem?_eq_getElem hlt⟩
      obtain hc := HC.out
      rcases hc with hc | ⟨b, off, rfl, hbl, hc⟩
      · subst hc; simp at hlt
      obtain ⟨c0, c1⟩ := hc k q hq
      have c0 := keepc HB.out c0
      have c1 := keepc HB.out c1
      have HMS := hid (mostP_snoc hq)
      clear hq hc
      obtain ⟨q0, q1⟩ := q
      simp only at c0 c1 HMS
      obtain ⟨mk, hmk⟩ : ∃ mk, mostP (ps.take k) = mk := ⟨_, rfl⟩
      rw [hmk] at HMS ⊢
      clear hmk
      have hzr := HB.out.size
      go_wp2_with fail
      go_roundw
      case rel => exact ⟨k + 1, by rw [HMS.out], by go_num, by omega, by first | exact HB.out | exact HB.out.alloc (by omega) _⟩
      case measure => simp [intOf]; omega
    · have HT : Hid (mostP (ps.take k) = mostP ps) := by unfold Hid; rw [List.take_of_length_le (by omega)]
      go_wp2_with fail
      go_ret2
      exact ⟨by rw [HX.out, ← HT.out]; rfl, HB1.out.trans (HB.out.mono hz1)⟩
end Go.Proofs.Ytcfmimfkaabmkaa
