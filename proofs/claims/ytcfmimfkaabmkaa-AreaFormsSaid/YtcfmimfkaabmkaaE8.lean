/- The walk of R.Alloc. -/
import Derived.Test.YtcfmimfkaabmkaaE7
set_option linter.unusedVariables false
set_option linter.unusedSimpArgs false
namespace Go.Proofs.Ytcfmimfkaabmkaa
open Go.RowKit
attribute [local go_sem] Oper.semAt_some
attribute [local irreducible] num
set_option maxHeartbeats 2000000 in
set_option maxRecDepth 100000 in
theorem ralloc_bad (l : List UInt8) (n : Int) (w : World) (hl : l.length ≤ maxLen) (hA : openS l = false) : Calls Try.prog 21 #[.string ⟨l.toArray⟩, .int .i64 n] w (TriPost ([], 0, 120) w) := by
  have HP := hid (fun w => rparts_bad l w hl hA)
  clear hA hl
  go_enter Try.func21, Try.ntmps21
  go_wp2_with fail
  refine (HP.out _).mono ?_
  rintro e w1 ⟨rfl, hb1⟩
  have HB1 := hid hb1; clear hb1
  go_wp2_with fail
  go_ret3
  exact ⟨rfl, HB1.out⟩
set_option maxHeartbeats 2000000 in
set_option maxRecDepth 100000 in
theorem ralloc_arg (l : List UInt8) (n : Int) (lay : Lay) (w : World) (hA : Area l lay) (hn : n < 1 ∨ 8192 < n) : Calls Try.prog 21 #[.string ⟨l.toArray⟩, .int .i64 n] w (TriPost ([], 0, 1) w) := by
  have HP := hid (fun w => rparts_lay l lay w hA)
  clear hA
  rcases hn with hn | hn
  all_goals
    first | (have hd1 : decide (n < 1) = true := by simpa using hn) | (have hd1 : decide (n < 1) = false := by simp; omega)
    try have hd2 : decide (8192 < n) = true := by simpa using hn
    clear hn
    go_enter Try.func21, Try.ntmps21
    go_wp2_with fail
    refine (HP.out _).mono ?_
    rintro e w1 ⟨v1, v2, rfl, hop, hos, hb1⟩
    have HB1 := hid hb1; clear hb1 hop hos
    go_wp2_with fail
    go_ret3
    exact ⟨rfl, HB1.out⟩
def TinyP (ps : List (Int × Int)) : Prop := ps.length ≤ 100000 ∧ ∀ (i : Nat) (p : Int × Int), ps[i]? = some p → 0 ≤ p.1 ∧ p.1 ≤ 100000 ∧ 0 ≤ p.2 ∧ p.2 ≤ 100000
theorem TinyP.small {ps : List (Int × Int)} (h : TinyP ps) : SmallP ps := ⟨h.1, fun i p hp => by have := h.2 i p hp; omega⟩
theorem tries_small {l : List UInt8} {lay : Lay} (hA : Area l lay) : TinyP (psOf (itsOf lay)) := by
  have hlen := (area_num4 hA).2
  refine ⟨by rw [psOf_length]; simp [itsOf]; omega, fun i p hp => ?_⟩
  obtain ⟨x, hx, rfl⟩ := List.mem_map.1 (List.mem_of_getElem? hp)
  obtain ⟨y, hy, rfl⟩ := List.mem_map.1 hx
  have := ends_le lay _ _ hA.2.2.1 y hy
  have := hA.2.2.2.1
  have := hA.2.1
  have := upN_bd y.2.length
  simp only
  omega
theorem tiny_bytes {its : List (Int × List UInt8)} (h : TinyP (psOf its)) : ∀ x ∈ its, x.2.length ≤ 100000 := fun x hx => by
  obtain ⟨i, hi⟩ := List.mem_iff_getElem?.1 hx
  have := h.2 i (x.1, (x.2.length : Int)) (by unfold psOf; rw [List.getElem?_map, hi]; rfl)
  simp only at this
  omega
theorem insS_bd (b : Int × List UInt8) : ∀ (its : List (Int × List UInt8)), (insS b its).length = its.length + 1 ∧ ∀ x ∈ insS b its, x = b ∨ x ∈ its
  | [] => ⟨rfl, fun x hx => by simp only [insS, List.mem_singleton] at hx; exact .inl hx⟩
  | y :: r => by
    have ih := insS_bd b r
    unfold insS
    split
    · exact ⟨rfl, fun x hx => (List.mem_cons.1 hx).imp id id⟩
    · refine ⟨by simp only [List.length_cons, ih.1], fun x hx => ?_⟩
      rcases List.mem_cons.1 hx with rfl | hx
      · exact .inr (List.mem_cons_self ..)
      · exact (ih.2 x hx).imp id (List.mem_cons_of_mem _)
theorem find_snoc {α : Type} (f : α → Bool) (l : List α) (k : Nat) (x : α) (h : l[k]? = some x) (h0 : (l.take k).find? f = none) (h1 : f x = false) : (l.take (k + 1)).find? f = none := by
  rw [List.take_add_one, h]; simp only [Option.toList_some, List.find?_append, h0, Option.none_or, List.find?_cons, h1, List.find?_nil]
theorem find_hit {α : Type} (f : α → Bool) (l : List α) (k : Nat) (x : α) (h : l[k]? = some x) (h0 : (l.take k).find? f = none) (h1 : f x = true) : l.find? f = some x := by
  have h2 : l = l.take k ++ (x :: l.drop (k + 1)) := by
    have := drop_at h
    conv => lhs; rw [← List.take_append_drop k l, this]
  rw [h2, List.find?_append, h0, Option.none_or, List.find?_cons, h1]
set_option maxHeartbeats 4000000 in
set_option maxRecDepth 100000 in
theorem ralloc_main (l : List UInt8) (n : Int) (lay : Lay) (w : World) (hA : Area l lay) (hn1 : 1 ≤ n) (hn2 : n ≤ 8192) : Calls Try.prog 21 #[.string ⟨l.toArray⟩, .int .i64 n] w (TriPost (rallocS l.length (itsOf lay) n) w) := by
  have hl1 := hA.1
  have hl2 := hA.2.1
  have HP := hid (fun w => rparts_lay l lay w hA)
  have HSm := hid (tries_small hA)
  have hlen : lay.length ≤ 8192 := (area_num4 hA).2
  obtain ⟨its, hits⟩ : ∃ its, itsOf lay = its := ⟨_, rfl⟩
  unfold PartsOk at HP
  rw [hits] at HP HSm ⊢
  have hilen : its.length ≤ 8192 := by rw [← hits]; simpa [itsOf] using hlen
  clear hits hA hlen
  have d1 : decide (n < 1) = false := by simp; omega
  have d2 : decide (8192 < n) = false := by simp; omega
  go_enter Try.func21, Try.ntmps21
  go_wp2_with fail
  refine (HP.out _).mono ?_
  rintro e w1 ⟨v1, v2, rfl, hop, hos, hb1⟩
  have hrp := hop.rp
  obtain ⟨o, cap, rfl, hc⟩ := hop.rp
  obtain ⟨m, hm⟩ : ∃ m, (psOf its).length = m := ⟨_, rfl⟩
  rw [hm] at hrp ⊢
  have HRP := hid hrp
  have HC := hid hc
  have HRS := hid hos.rs
  have hmm : m ≤ 8192 := by rw [← hm, psOf_length]; exact hilen
  have HM := hid hm
  have HB1 := hid hb1; have hz1 := hb1.size
  clear hb1 hop hos hrp hc hm
  have HTL : Hid ((tries (psOf its)).length = m + 1) := by unfold Hid tries; rw [List.length_cons, List.length_map, HM.out]
  go_wp2_with fail
  go_loopw [10, 11] (fun p q wr => ∃ at_ i : Int, p = .int .i64 at_ ∧ q = .int .i64 i ∧ -1 ≤ i ∧ i ≤ m ∧ (i = -1 → at_ = 16) ∧ Hid (((tries (psOf its)).take (i + 1).toNat).find? (fun c => roomS l.length (psOf its) (c, n)) = none) ∧ Hid (Below w1.heap.size w1 wr)) (fun _ q _ => (m - intOf q).toNat)
  case atStart => exact ⟨16, -1, rfl, rfl, by omega, by omega, fun _ => rfl, rfl, Below.refl _ _⟩
  case round =>
    obtain ⟨at_, i, rfl, rfl, hi0, hi1, hat, HF, HBR⟩ := hrel
    have HAT := hid hat; clear hat
    by_cases hlt : i < m
    · obtain ⟨c, hc⟩ : ∃ c, (tries (psOf its))[(i + 1).toNat]? = some c := ⟨_, List.getElem?_eq_getElem (by have := HTL.out; omega)⟩
      have HCC := hid hc
      go_upto_if 39 with (fail)
      go_cut [10] (fun p wx => p = .int .i64 c ∧ 0 ≤ c ∧ c ≤ 1000000000 ∧ Hid (Below w1.heap.size w1 wx))
      case first =>
        by_cases h0 : i = -1
        · have hcv : c = 16 := by
            subst h0
            rw [show ((-1 : Int) + 1).toNat = 0 from rfl] at hc
            simpa [tries] using hc.symm
          have hav := HAT.out h0
          subst hcv
          subst hav
          subst h0
          clear hc
          go_wp2_with fail
          go_meet
          case rel => exact ⟨rfl, by omega, by omega, HBR⟩
        · obtain ⟨j, rfl⟩ := Int.eq_ofNat_of_zero_le (show 0 ≤ i by omega)
          obtain ⟨q, hq⟩ : ∃ q, (psOf its)[j]? = some q := ⟨_, List.getElem?_eq_getElem (by have := HM.out; omega)⟩
          have hcv : c = q.1 + upZ q.2 + 8 := by
            rw [show ((j : Int) + 1).toNat = j + 1 by omega] at hc
            simp only [tries, List.getElem?_cons_succ, List.getElem?_map, hq, Option.map_some, Option.some.injEq] at hc
            exact hc.symm
          obtain ⟨s0, s1, s2, s3⟩ := HSm.out.2 j q hq
          rcases HC.out with hc' | ⟨b, off, rfl, hbl, hc'⟩
          · rw [hc'] at hq; simp at hq
          obtain ⟨e0, e1⟩ := hc' j q hq
          have e0 := keepc HBR.out e0
          have e1 := keepc HBR.out e1
          clear hc hc' hq
          obtain ⟨q0, q1⟩ := q
          simp only at s0 s1 s2 s3 e0 e1 hcv
          have huq := upZ_bd q1 s2
          obtain ⟨huq, huq'⟩ := huq
          have HCV := hid hcv
          have hcb : 0 ≤ c ∧ c ≤ 1000000000 := by omega
          clear hcv
          have hw1 : IntKind.i64.wrap (q0 + upZ q1) = q0 + upZ q1 := IntWalk.i64_in _ ⟨by omega, by omega⟩
          have hw2 : IntKind.i64.wrap (q0 + upZ q1 + 8) = q0 + upZ q1 + 8 := IntWalk.i64_in _ ⟨by omega, by omega⟩
          clear h0
          go_wp2_with fail
          go_quiet ((go_at_call 67; exact Calls.quiet_of_same ((rup_any _ _ (by omega) (by omega)).mono (fun _ _ h => ⟨h.1, h.2.symm⟩))))
          go_wp2_with fail
          go_meet
          case rel => exact ⟨by rw [HCV.out], hcb.1, hcb.2, below_drewN HBR.out _⟩
      case rest =>
        obtain ⟨rfl, hc0, hc1, HBX⟩ := hcut
        have hz2 := HBX.out.size
        have HWW : Hid (Below w.heap.size w wc) := HB1.out.trans (HBX.out.mono hz1)
        go_wp2_with fail
        refine (room_any _ _ _ c n _ (HRP.out.below (HBX.out.alloc hz2 _)) HSm.out.small hc0 hc1 (by omega) (by omega)).mono ?_
        rintro e w2 ⟨rfl, hb2⟩
        obtain ⟨rm, hrm⟩ : ∃ rm, roomS l.length (psOf its) (c, n) = rm := ⟨_, rfl⟩
        rw [hrm]
        have HRM := hid hrm; clear hrm
        have c0 : w2.cell? ⟨wc.heap.size, 0, none⟩ = some (.int .i64 c) := keepc hb2 (cell_new _ _ _ 0 _ rfl)
        have c1 : w2.cell? ⟨wc.heap.size, 1, none⟩ = some (.int .i64 n) := keepc hb2 (cell_new _ _ _ 1 _ rfl)
        have HBY : Hid (Below w1.heap.size w1 w2) := (HBX.out.alloc hz2 _).trans (hb2.mono (by simp; omega))
        clear hb2
        cases rm with
        | false =>
          have HF2 := hid (find_snoc (fun c => roomS l.length (psOf its) (c, n)) _ _ _ HCC.out HF.out HRM.out)
          go_wp2_with fail
          go_roundw
          case rel => exact ⟨c, i + 1, rfl, by go_num, by omega, by omega, fun h => by omega, by rw [show (i + 1 + 1).toNat = (i + 1).toNat + 1 by omega]; exact HF2.out, HBY.out⟩
          case measure => simp [intOf]; omega
        | true =>
          have HF2 := hid (find_hit (fun c => roomS l.length (psOf its) (c, n)) _ _ _ HCC.out HF.out HRM.out)
          go_upto_region 14 with (fail)
          have hzl : (n : Int) = ((zs n.toNat).length : Int) := by rw [zs_length]; omega
          have HZL := hid hzl; clear hzl
          go_region_held3 (fun w' => Below w2.heap.size w2 w' ∧ w'.cell? ⟨wc.heap.size, 0, none⟩ = some (.int .i64 c) ∧ w'.cell? ⟨wc.heap.size, 1, none⟩ = some (.int .i64 n))
            ((refine (fun hS => ⟨hS, keepc hS c0, keepc hS c1⟩ : Below w2.heap.size w2 _ → _) ?_; first | exact (Below.refl _ _).drew | exact below_step hb3 (And.left (by assumption)) | exact below_step hb3 (by assumption) | exact below_step hb4 (And.left (by assumption)) | exact below_step hb4 (by assumption)))
            (first
              | (go_at_call 70; refine (rzeros_str _ _ (by omega) (by omega)).mono ?_; rintro e w3 ⟨rfl, hb3⟩)
              | (go_at_call 69; have hq : Below w2.heap.size w2 w3 := And.left (by assumption); refine (insert_any _ _ its c n (zs n.toNat) _ (HRP.out.below (HBY.out.trans (hq.mono HBY.out.size))) (HRS.out.below (HBY.out.trans (hq.mono HBY.out.size))) (by omega) HZL.out).mono ?_; rintro e w4 ⟨v3, v4, rfl, hop, hos, hb4⟩))
          have HOPI := hid hop
          have HOSI := hid hos
          have HB4 := hid hb4
          have HQ := hid hq
          clear hop hos hb4
          have hb : Below w2.heap.size w2 w4 := below_step HB4.out HQ.out
          have HWF : Hid (Below w.heap.size w w4) := HB1.out.trans ((HBY.out.trans (hb.mono HBY.out.size)).mono hz1)
          clear hb
          have hil := insS_bd (c, zs n.toNat) its
          have HTB := hid (tiny_bytes HSm.out)
          have hz8 : (zs n.toNat).length ≤ 10000 := by rw [zs_length]; omega
          have hbt : ∀ t ∈ bsOf (insS (c, zs n.toNat) its), t.length ≤ 10000000 := fun t ht => by
            obtain ⟨x, hx, rfl⟩ := List.mem_map.1 ht
            rcases hil.2 x hx with rfl | hx
            · show (zs n.toNat).length ≤ _; omega
            · have := HTB.out x hx; show x.2.length ≤ _; omega
          have HBF := build_any (l.length : Int) v3 v4 _ _ w4 HOPI.out.rp HOSI.out.rs (by rw [psOf_length]; omega) (by rw [bsOf_length]; omega) hbt
          have HBF := hid HBF
          have HRES : Hid (rallocS l.length its n = ((buildS l.length (psOf (insS (c, zs n.toNat) its)) (bsOf (insS (c, zs n.toNat) its))).1, c, (buildS l.length (psOf (insS (c, zs n.toNat) its)) (bsOf (insS (c, zs n.toNat) its))).2)) := by
            unfold Hid rallocS; rw [HF2.out]
          obtain ⟨r, hr⟩ : ∃ r, buildS l.length (psOf (insS (c, zs n.toNat) its)) (bsOf (insS (c, zs n.toNat) its)) = r := ⟨_, rfl⟩
          rw [hr] at HBF HRES
          clear hr hbt HTB hil hz8
          go_wp2_with fail
          refine HBF.out.mono ?_
          rintro e w5 ⟨rfl, hb5⟩
          have HB5 := hid hb5; clear hb5
          go_wp2_with fail
          go_ret3
          exact ⟨by rw [HRES.out]; rfl, below_step HB5.out HWF.out⟩
    · have him : i = m := by omega
      have HRES : Hid (rallocS l.length its n = ([], 0, 121)) := by
        have h := HF.out
        rw [List.take_of_length_le (by have := HTL.out; omega)] at h
        unfold Hid rallocS; rw [h]
      have HWF : Hid (Below w.heap.size w wr) := HB1.out.trans (HBR.out.mono hz1)
      clear him
      go_wp2_with fail
      go_ret3
      exact ⟨by rw [HRES.out]; rfl, HWF.out⟩
/-- The contract of R.Alloc. -/
theorem ralloc_any (l : List UInt8) (n : Int) (lay : Lay) (w : World) (hA : Area l lay) : Calls Try.prog 21 #[.string ⟨l.toArray⟩, .int .i64 n] w (TriPost (allocA l.length lay n) w) := by
  by_cases hn : n < 1 ∨ 8192 < n
  · unfold allocA; rw [if_pos hn]; exact ralloc_arg l n lay w hA hn
  · obtain ⟨k, rfl⟩ := Int.eq_ofNat_of_zero_le (show 0 ≤ n by omega)
    rw [← ralloc_lay hA.1 hA.2.1 (by omega) (by omega) hA.2.2.1 hA.2.2.2.1]
    exact ralloc_main l k lay w hA (by omega) (by omega)
end Go.Proofs.Ytcfmimfkaabmkaa
