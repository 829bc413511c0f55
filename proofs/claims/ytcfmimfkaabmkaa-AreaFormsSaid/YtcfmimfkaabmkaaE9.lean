/- The walk of R.Free. -/
import Derived.Test.YtcfmimfkaabmkaaE8
set_option linter.unusedVariables false
set_option linter.unusedSimpArgs false
namespace Go.Proofs.Ytcfmimfkaabmkaa
open Go.RowKit
attribute [local go_sem] Oper.semAt_some
attribute [local irreducible] num
set_option maxHeartbeats 2000000 in
set_option maxRecDepth 100000 in
theorem rfree_bad (l : List UInt8) (p : Int) (w : World) (hl : l.length ≤ maxLen) (hA : openS l = false) : Calls Try.prog 23 #[.string ⟨l.toArray⟩, .int .i64 p] w (StrPost ([], 120) w) := by
  have HP := hid (fun w => rparts_bad l w hl hA)
  clear hA hl
  go_enter Try.func23, Try.ntmps23
  go_wp2_with fail
  refine (HP.out _).mono ?_
  rintro e w1 ⟨rfl, hb1⟩
  have HB1 := hid hb1; clear hb1
  go_wp2_with fail
  go_ret2
  exact ⟨rfl, HB1.out⟩
def keepF (p : Int) (x : Int × List UInt8) : Bool := !decide (x.1 = p)
def RFreeI (p : Int) (its : List (Int × List UInt8)) (N : Nat) (W0 : World) (k : Nat) (L : List (Int × List UInt8)) (v1 v2 : Value) (wr : World) : Prop :=
  L = (its.take k).filter (keepF p) ∧ OP wr N v1 (psOf L) ∧ OS wr N v2 (bsOf L) ∧ Below N W0 wr
theorem filter_snoc {its : List (Int × List UInt8)} {k : Nat} {y : Int × List UInt8} (p : Int) (h : its[k]? = some y) : (its.take (k + 1)).filter (keepF p) = (its.take k).filter (keepF p) ++ (if y.1 = p then [] else [y]) := by
  rw [List.take_add_one, h]
  simp only [Option.toList_some, List.filter_append, List.filter_cons, List.filter_nil, keepF]
  by_cases hy : y.1 = p <;> simp [hy]
set_option maxHeartbeats 4000000 in
set_option maxRecDepth 100000 in
theorem rfree_main (l : List UInt8) (p : Int) (lay : Lay) (w : World) (hA : Area l lay) : Calls Try.prog 23 #[.string ⟨l.toArray⟩, .int .i64 p] w (StrPost (rfreeS l.length (itsOf lay) p) w) := by
  have hl1 := hA.1
  have hl2 := hA.2.1
  have HP := hid (fun w => rparts_lay l lay w hA)
  have HSm := hid (tries_small hA)
  have hlen : lay.length ≤ 8192 := (area_num4 hA).2
  obtain ⟨its, hits⟩ : ∃ its, itsOf lay = its := ⟨_, rfl⟩
  unfold PartsOk at HP
  rw [hits] at HP HSm ⊢
  have hilen : its.length ≤ 8192 := by rw [← hits]; simpa [itsOf] using hlen
  clear hits hA hlen
  obtain ⟨m, hm⟩ : ∃ m, its.length = m := ⟨_, rfl⟩
  rw [hm] at hilen
  have HM := hid hm; clear hm
  go_enter Try.func23, Try.ntmps23
  go_wp2_with fail
  refine (HP.out _).mono ?_
  rintro e w1 ⟨v1, v2, rfl, hop, hos, hb1⟩
  obtain ⟨o, cap, rfl, hc⟩ := hop.rp
  obtain ⟨o2, cap2, rfl, hc2⟩ := hos.rs
  rw [psOf_length, bsOf_length, HM.out]
  have HC := hid hc
  have HC2 := hid hc2
  have HB1 := hid hb1; have hz1 := hb1.size
  clear hb1 hop hos hc hc2
  go_wp2_with fail
  have hI0 : Hid (RFreeI p its w1.heap.size w1 0 [] (.slice (some ⟨w1.heap.size, 0, none⟩) 0 0) (.slice (some ⟨w1.heap.size + 1, 0, none⟩) 0 0) ((w1.alloc (.cells #[] 37)).alloc (.cells #[] 9))) := by
    refine ⟨rfl, ?_, ?_, ((Below.refl _ _).alloc (Nat.le_refl _) _).alloc (by simp) _⟩
    · exact (op_new w1 w1.heap.size (Nat.le_refl _)).below ((Below.refl _ _).alloc (Nat.le_refl _) _)
    · have h := os_new (w1.alloc (.cells #[] 37)) w1.heap.size (by simp)
      rw [World.size_alloc] at h
      exact h
  go_loopw [9, 10, 11] (fun v1 v2 q wr => ∃ (k : Nat) (L : List (Int × List UInt8)), q = .int .i64 k ∧ k ≤ m ∧ Hid (RFreeI p its w1.heap.size w1 k L v1 v2 wr)) (fun _ _ q _ => m - (intOf q).toNat)
  case atStart => exact ⟨0, [], rfl, Nat.zero_le _, hI0⟩
  case round =>
    clear hI0
    obtain ⟨k, L, rfl, hk, HI⟩ := hrel
    obtain ⟨hL, hop, hos, hbw⟩ := HI.out
    have hLl : L.length ≤ 20000 := by
      rw [hL]
      have := List.length_filter_le (keepF p) (its.take k)
      have := List.length_take_le k its
      omega
    have HL := hid hL
    have HOP := hid hop
    have HOS := hid hos
    have HBW := hid hbw
    have hbw0 := hbw.size
    clear hL hop hos hbw HI
    by_cases hlt : k < m
    · obtain ⟨y, hy⟩ : ∃ y, its[k]? = some y := ⟨_, List.getElem?_eq_getElem (by have := HM.out; omega)⟩
      have hyp : (psOf its)[k]? = some (y.1, (y.2.length : Int)) := by unfold psOf; rw [List.getElem?_map, hy]; rfl
      have hyb : (bsOf its)[k]? = some y.2 := by unfold bsOf; rw [List.getElem?_map, hy]; rfl
      have hc := HC.out
      have hc2 := HC2.out
      rcases hc with hc | ⟨b, off, rfl, hbl, hc⟩
      · rw [hc] at hyp; simp at hyp
      rcases hc2 with hc2 | ⟨bb, off2, rfl, hbl2, hc2⟩
      · rw [hc2] at hyb; simp at hyb
      have d0 := keepB HBW.out (by dsimp only; omega) (hc k _ hyp).1
      have d1 := keepB HBW.out (by dsimp only; omega) (hc k _ hyp).2
      have d2 := keepB HBW.out (by dsimp only; omega) (hc2 k _ hyb)
      unfold strV at d2
      have HFS := hid (filter_snoc p hy)
      clear hc hc2 hyp hyb hy
      by_cases hyq : y.1 = p
      · have g1 : (y.1 == p) = true := by rw [beq_iff_eq]; exact hyq
        have g2 : (y.1 != p) = false := by rw [bne_eq_false_iff_eq]; exact hyq
        have HL2 : Hid (L = (its.take (k + 1)).filter (keepF p)) := by unfold Hid; rw [HFS.out, if_pos hyq, List.append_nil]; exact HL.out
        clear hyq
        go_wp2_with fail
        go_roundw
        case rel => exact ⟨k + 1, L, by go_num, by omega, HL2.out, HOP.out, HOS.out, HBW.out⟩
        case measure => simp [intOf]; omega
      · have g1 : (y.1 == p) = false := by rw [beq_eq_false_iff_ne]; exact hyq
        have g2 : (y.1 != p) = true := by rw [bne_iff_ne]; exact hyq
        have HL2 : Hid (L ++ [y] = (its.take (k + 1)).filter (keepF p)) := by unfold Hid; rw [HFS.out, if_neg hyq, HL.out]
        clear hyq
        go_upto_region 11 with (at_builtin; refine app_piece rfl _ _ rfl (w1.heap.size) _ (psOf (L)) (y.1, (y.2.length : Int)) _ _ rfl rfl (HOP.out.below ((Below.refl _ _).alloc (Nat.le_refl _) _)) (cell_new _ _ _ 0 _ rfl) (cell_new _ _ _ 1 _ rfl) (by rw [psOf_length]; first | omega | (simp only [List.length_append, List.length_singleton]; omega)) (by simp; omega) ?_)
        intro v3 w3 hop3 hg3
        obtain ⟨hos3, hb3⟩ := after_piece ((Below.refl _ _).alloc (Nat.le_refl _) _) HOP.out HOS.out (by omega) hg3
        have d2 := keepB hb3 (by dsimp only; omega) d2
        have HOP3 := hid hop3; have HOS3 := hid hos3; have HB3 := hid hb3; have hz3 := hb3.size; clear hop3 hos3 hb3 hg3
        go_upto_region 8 with (at_builtin; refine app_str rfl _ _ rfl (w1.heap.size) _ (bsOf (L)) y.2 _ _ rfl rfl (HOS3.out.below ((Below.refl _ _).alloc (Nat.le_refl _) _)) (cell_new _ _ _ 0 _ rfl) (by rw [bsOf_length]; first | omega | (simp only [List.length_append, List.length_singleton]; omega)) (by simp; omega) ?_)
        intro v4 w4 hos4 hg4
        obtain ⟨hop4, hb4⟩ := after_str ((Below.refl _ _).alloc (Nat.le_refl _) _) HOP3.out HOS3.out (by omega) hg4
        have HOP4 := hid hop4; have HOS4 := hid hos4; have HB4 := hid hb4; have hz4 := hb4.size; clear hop4 hos4 hb4 hg4
        go_wp2_with fail
        go_roundw
        case rel => exact ⟨k + 1, L ++ [y], by go_num, by omega, HL2.out, (by have h := HOP4.out; rw [psOf_snoc]; exact h), (by have h := HOS4.out; rw [bsOf_snoc]; exact h), HBW.out.trans (HB3.out.trans HB4.out)⟩
        case measure => simp [intOf]; omega
    · have hkm : k = m := by omega
      have HLF : Hid (L = its.filter (keepF p)) := by have h := HL.out; rwa [List.take_of_length_le (by have := HM.out; omega)] at h
      have HWF : Hid (Below w.heap.size w wr) := HB1.out.trans (HBW.out.mono hz1)
      obtain ⟨o3, cap3, rfl, -⟩ := HOP.out.rp
      obtain ⟨o4, cap4, rfl, -⟩ := HOS.out.rs
      have hRL : rfreeS l.length its p = if L.length = its.length then ([], 122) else buildS l.length (psOf L) (bsOf L) := by
        unfold rfreeS; rw [HLF.out]; rfl
      have HRL := hid hRL
      clear hRL hkm
      by_cases hq : L.length = m
      · have g1 : ((L.length : Int) == (m : Int)) = true := by rw [beq_iff_eq]; omega
        have HRES : Hid (rfreeS l.length its p = ([], 122)) := by unfold Hid; rw [HRL.out, if_pos (by rw [HM.out]; exact hq)]
        have HPL := hid (psOf_length L)
        rw [HPL.out]
        clear hq
        go_wp2_with fail
        go_ret2
        exact ⟨by rw [HRES.out]; rfl, HWF.out⟩
      · have g1 : ((L.length : Int) == (m : Int)) = false := by rw [beq_eq_false_iff_ne]; omega
        have HRES : Hid (rfreeS l.length its p = buildS l.length (psOf L) (bsOf L)) := by unfold Hid; rw [HRL.out, if_neg (by rw [HM.out]; exact hq)]
        have hbt : ∀ t ∈ bsOf L, t.length ≤ 10000000 := fun t ht => by
          obtain ⟨x, hx, rfl⟩ := List.mem_map.1 ht
          rw [HLF.out] at hx
          have := tiny_bytes HSm.out x (List.mem_filter.1 hx).1
          show x.2.length ≤ _; omega
        have HBF := build_any (l.length : Int) _ _ _ _ wr HOP.out.rp HOS.out.rs (by rw [psOf_length]; omega) (by rw [bsOf_length]; omega) hbt
        have HBF := hid HBF
        rw [psOf_length, bsOf_length] at HBF
        rw [psOf_length, bsOf_length]
        clear hq hbt
        go_wp2_with fail
        refine HBF.out.mono ?_
        rintro e w5 ⟨rfl, hb5⟩
        have HB5 := hid hb5; clear hb5
        go_wp2_with fail
        go_ret2
        exact ⟨by rw [HRES.out]; rfl, below_step HB5.out HWF.out⟩
/-- The contract of R.Free. -/
theorem rfree_any (l : List UInt8) (p : Int) (lay : Lay) (w : World) (hA : Area l lay) : Calls Try.prog 23 #[.string ⟨l.toArray⟩, .int .i64 p] w (StrPost (freeA l.length lay p) w) := by
  rw [← rfree_lay hA.1 hA.2.1 hA.2.2.1 hA.2.2.2.1]
  exact rfree_main l p lay w hA
end Go.Proofs.Ytcfmimfkaabmkaa
