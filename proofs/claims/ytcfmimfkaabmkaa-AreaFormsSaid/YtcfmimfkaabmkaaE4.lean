/- The walk of R.insert. -/
import Derived.Test.YtcfmimfkaabmkaaE3
set_option linter.unusedVariables false
set_option linter.unusedSimpArgs false
namespace Go.Proofs.Ytcfmimfkaabmkaa
open Go.RowKit
attribute [local go_sem] Oper.semAt_some
theorem psOf_snoc (L : List (Int × List UInt8)) (y : Int × List UInt8) : psOf (L ++ [y]) = psOf L ++ [(y.1, (y.2.length : Int))] := by simp [psOf]
theorem bsOf_snoc (L : List (Int × List UInt8)) (y : Int × List UInt8) : bsOf (L ++ [y]) = bsOf L ++ [y.2] := by simp [bsOf]
theorem drop_at {α : Type} {l : List α} {k : Nat} {y : α} (h : l[k]? = some y) : l.drop k = y :: l.drop (k + 1) := by
  obtain ⟨hk, hy⟩ := List.getElem?_eq_some_iff.1 h
  rw [List.drop_eq_getElem_cons hk, hy]
/-- What is still to come of an insertion. -/
def insRest (x : Int × List UInt8) (d : Bool) (r : List (Int × List UInt8)) : List (Int × List UInt8) := if d then r else insS x r
def InsPost (x : Int × List UInt8) (its : List (Int × List UInt8)) (w : World) (e : Ending) (w' : World) : Prop :=
  ∃ v1 v2, e = .returned (.tuple #[v1, v2]) ∧ OP w' w.heap.size v1 (psOf (insS x its)) ∧ OS w' w.heap.size v2 (bsOf (insS x its)) ∧ Below w.heap.size w w'
def InsI (N : Nat) (W0 : World) (x : Int × List UInt8) (its : List (Int × List UInt8)) (k : Nat) (dn : Bool) (L : List (Int × List UInt8)) (v1 v2 : Value) (wr : World) : Prop :=
  L.length ≤ k + (if dn then 1 else 0) ∧ insS x its = L ++ insRest x dn (its.drop k) ∧ OP wr (N + 1) v1 (psOf L) ∧ OS wr (N + 1) v2 (bsOf L) ∧ Below (N + 1) W0 wr
set_option maxHeartbeats 1000000 in
set_option maxRecDepth 100000 in
theorem insert_any (v1 v2 : Value) (its : List (Int × List UInt8)) (b0 b1 : Int) (t : List UInt8) (w : World) (hR : RP w v1 (psOf its)) (hT : RS w v2 (bsOf its)) (hlen : its.length ≤ 100000) (hb1 : b1 = t.length) :
    Calls Try.prog 69 #[v1, v2, .agg #[.int .i64 b0, .int .i64 b1], strV t] w (InsPost (b0, t) its w) := by
  obtain ⟨o, cap, rfl, hc⟩ := hR
  obtain ⟨o2, cap2, rfl, hc2⟩ := hT
  have HC := hid hc; clear hc
  have HC2 := hid hc2; clear hc2
  have HL1 := hid (psOf_length its)
  have HL2 := hid (bsOf_length its)
  have HBT := hid hb1; clear hb1
  obtain ⟨n, hn⟩ : ∃ n, its.length = n := ⟨_, rfl⟩
  rw [psOf_length, bsOf_length, hn]
  rw [hn] at hlen
  have HN := hid hn; clear hn
  unfold strV
  go_enter Try.func69, Try.ntmps69
  go_wp2_with fail
  obtain ⟨W0, hW0⟩ : ∃ W0, W0 = ((w.alloc (.cells #[.int .i64 b0, .int .i64 b1] 37)).alloc (.cells #[] 37)).alloc (.cells #[] 9) := ⟨_, rfl⟩
  rw [← hW0]
  have hI0 : InsI w.heap.size W0 (b0, t) its 0 false [] (.slice (some ⟨w.heap.size + 1, 0, none⟩) 0 0) (.slice (some ⟨w.heap.size + 1 + 1, 0, none⟩) 0 0) W0 := by
    refine ⟨Nat.le_refl _, rfl, ?_, ?_, Below.refl _ _⟩
    · have h := op_new (w.alloc (.cells #[.int .i64 b0, .int .i64 b1] 37)) (w.heap.size + 1) (by simp)
      rw [World.size_alloc] at h
      rw [hW0]; exact h.below ((Below.refl _ _).alloc (Nat.le_refl _) _)
    · have h := os_new ((w.alloc (.cells #[.int .i64 b0, .int .i64 b1] 37)).alloc (.cells #[] 37)) (w.heap.size + 1) (by simp)
      rw [World.size_alloc, World.size_alloc] at h
      rw [hW0]; exact h
  have hb0 : Below w.heap.size w W0 := by rw [hW0]; exact (((Below.refl w.heap.size w).alloc (Nat.le_refl _) _).alloc (by simp) _).alloc (by simp; omega) _
  have c0 : W0.cell? ⟨w.heap.size, 0, none⟩ = some (.int .i64 b0) := by rw [hW0]; go_simp
  have c1 : W0.cell? ⟨w.heap.size, 1, none⟩ = some (.int .i64 b1) := by rw [hW0]; go_simp
  have hz0 : w.heap.size + 1 ≤ W0.heap.size := by rw [hW0]; simp
  clear hW0
  have HI0 := hid hI0; clear hI0
  have HB0 := hid hb0; clear hb0
  have K0 := hid c0; clear c0
  have K1 := hid c1; clear c1
  go_loopw [10, 11, 12, 13] (fun v1 v2 d i wr => ∃ (k : Nat) (dn : Bool) (L : List (Int × List UInt8)), d = .bool dn ∧ i = .int .i64 k ∧ k ≤ n ∧ Hid (InsI w.heap.size W0 (b0, t) its k dn L v1 v2 wr)) (fun _ _ _ i _ => n - (intOf i).toNat)
  case atStart => exact ⟨0, false, [], rfl, rfl, Nat.zero_le _, HI0⟩
  case round =>
    obtain ⟨k, dn, L, rfl, rfl, hk, HI⟩ := hrel
    by_cases hlt : k < n
    · obtain ⟨y, hy⟩ : ∃ y, its[k]? = some y := ⟨_, List.getElem?_eq_getElem (by have := HN.out; omega)⟩
      obtain ⟨hLl, hins, hop, hos, hbw⟩ := HI.out
      have hww : Below w.heap.size w wr := HB0.out.trans (hbw.mono (by omega))
      have c0 := hbw.cell (p := ⟨w.heap.size, 0, none⟩) (by dsimp only; omega)
      rw [K0.out] at c0
      have c1 := hbw.cell (p := ⟨w.heap.size, 1, none⟩) (by dsimp only; omega)
      rw [K1.out] at c1
      have hyp : (psOf its)[k]? = some (y.1, (y.2.length : Int)) := by unfold psOf; rw [List.getElem?_map, hy]; rfl
      have hyb : (bsOf its)[k]? = some y.2 := by unfold bsOf; rw [List.getElem?_map, hy]; rfl
      have hc := HC.out
      have hc2 := HC2.out
      rcases hc with hc | ⟨b, off, rfl, hbl, hc⟩
      · rw [hc] at hyp; simp at hyp
      rcases hc2 with hc2 | ⟨bb, off2, rfl, hbl2, hc2⟩
      · rw [hc2] at hyb; simp at hyb
      have d0 := keepc hww (hc k _ hyp).1
      have d1 := keepc hww (hc k _ hyp).2
      have d2 := keepc hww (hc2 k _ hyb)
      unfold strV at d2
      have HOP := hid hop
      have HOS := hid hos
      have HBW := hid hbw
      have HINS := hid hins
      have HW := hid hww
      have hbw0 : w.heap.size + 1 ≤ wr.heap.size := by have := hbw.size; omega
      have HY := hid hy
      have hLl' : L.length ≤ k + (if dn then 1 else 0) := hLl
      have hLl : L.length ≤ 100002 := by split at hLl <;> omega
      have HLL := hid hLl'; clear hLl'
      clear hop hos hbw hins hww hc hc2 hyp hyb HI hy
      cases dn with
      | true =>
        have hins' : insS (b0, t) its = (L ++ [y]) ++ insRest (b0, t) true (its.drop (k + 1)) := by have h := HINS.out; rw [drop_at HY.out] at h; rw [h]; simp [insRest]
        have HIN2 := hid hins'; clear hins'
        go_wp2_with fail
        go_quiet (fail)
        go_upto_region 12 with (at_builtin; refine app_piece rfl _ _ rfl (w.heap.size + 1) _ (psOf (L)) (y.1, (y.2.length : Int)) _ _ rfl rfl (HOP.out.below ((below_drewN (Below.refl _ _) _).alloc (by simp) _)) (cell_new _ _ _ 0 _ rfl) (cell_new _ _ _ 1 _ rfl) (by rw [psOf_length]; first | omega | (simp only [List.length_append, List.length_singleton]; omega)) (by simp; omega) ?_)
        intro v1 w1 hop1 hg1
        obtain ⟨hos1, hb1⟩ := after_piece ((below_drewN (Below.refl _ _) _).alloc (by simp) _) HOP.out HOS.out (by omega) hg1
        have d2 := keepB hb1 (by dsimp only; omega) d2
        have HOP1 := hid hop1; have HOS1 := hid hos1; have HB1 := hid hb1; have hz1 := hb1.size; clear hop1 hos1 hb1 hg1
        go_upto_region 6 with (at_builtin; refine app_str rfl _ _ rfl (w.heap.size + 1) _ (bsOf (L)) y.2 _ _ rfl rfl (HOS1.out.below ((Below.refl _ _).alloc (Nat.le_refl _) _)) (cell_new _ _ _ 0 _ rfl) (by rw [bsOf_length]; first | omega | (simp only [List.length_append, List.length_singleton]; omega)) (by simp; omega) ?_)
        intro v2 w2 hos2 hg2
        obtain ⟨hop2, hb2⟩ := after_str ((Below.refl _ _).alloc (Nat.le_refl _) _) HOP1.out HOS1.out (by omega) hg2
        have HOP2 := hid hop2; have HOS2 := hid hos2; have HB2 := hid hb2; have hz2 := hb2.size; clear hop2 hos2 hb2 hg2
        go_wp2_with fail
        go_roundw
        case rel => exact ⟨k + 1, true, L ++ [y], rfl, by go_num, by omega, ⟨by have := HLL.out; simp at this ⊢; omega, HIN2.out, (by have h := HOP2.out; rw [psOf_snoc]; exact h), (by have h := HOS2.out; rw [bsOf_snoc]; exact h), ((HBW.out).trans HB1.out).trans HB2.out⟩⟩
        case measure => simp [intOf]; omega

      | false =>
        by_cases hcmp : b0 < y.1
        · have hd1 : decide (b0 < y.1) = true := by simpa using hcmp
          have HCMP := hid hcmp
          have hins' : insS (b0, t) its = ((L ++ [(b0, t)]) ++ [y]) ++ insRest (b0, t) true (its.drop (k + 1)) := by have h := HINS.out; rw [drop_at HY.out] at h; rw [h]; simp [insRest, insS, HCMP.out]
          have HIN2 := hid hins'; clear hins' HCMP
          go_wp2_with fail
          go_quiet (fail)
          go_upto_region 9 with (at_builtin; refine app_piece rfl _ _ rfl (w.heap.size + 1) _ (psOf (L)) (b0, b1) _ _ rfl rfl (HOP.out.below ((below_drewN (Below.refl _ _) _).alloc (by simp) _)) (cell_new _ _ _ 0 _ rfl) (cell_new _ _ _ 1 _ rfl) (by rw [psOf_length]; first | omega | (simp only [List.length_append, List.length_singleton]; omega)) (by simp; omega) ?_)
          intro v1 w1 hop1 hg1
          obtain ⟨hos1, hb1⟩ := after_piece ((below_drewN (Below.refl _ _) _).alloc (by simp) _) HOP.out HOS.out (by omega) hg1
          have d0 := keepB hb1 (by dsimp only; omega) d0
          have d1 := keepB hb1 (by dsimp only; omega) d1
          have d2 := keepB hb1 (by dsimp only; omega) d2
          have HOP1 := hid hop1; have HOS1 := hid hos1; have HB1 := hid hb1; have hz1 := hb1.size; clear hop1 hos1 hb1 hg1
          go_upto_region 10 with (at_builtin; refine app_str rfl _ _ rfl (w.heap.size + 1) _ (bsOf (L)) t _ _ rfl rfl (HOS1.out.below ((Below.refl _ _).alloc (Nat.le_refl _) _)) (cell_new _ _ _ 0 _ rfl) (by rw [bsOf_length]; first | omega | (simp only [List.length_append, List.length_singleton]; omega)) (by simp; omega) ?_)
          intro v2 w2 hos2 hg2
          obtain ⟨hop2, hb2⟩ := after_str ((Below.refl _ _).alloc (Nat.le_refl _) _) HOP1.out HOS1.out (by omega) hg2
          have d0 := keepB hb2 (by dsimp only; omega) d0
          have d1 := keepB hb2 (by dsimp only; omega) d1
          have d2 := keepB hb2 (by dsimp only; omega) d2
          have HOP2 := hid hop2; have HOS2 := hid hos2; have HB2 := hid hb2; have hz2 := hb2.size; clear hop2 hos2 hb2 hg2
          have HOP3 : Hid (OP w2 (w.heap.size + 1) v1 (psOf (L ++ [(b0, t)]))) := by have h := HOP2.out; rw [psOf_snoc, ← HBT.out]; exact h
          have HOS3 : Hid (OS w2 (w.heap.size + 1) v2 (bsOf (L ++ [(b0, t)]))) := by have h := HOS2.out; rw [bsOf_snoc]; exact h
          go_upto_region 12 with (at_builtin; refine app_piece rfl _ _ rfl (w.heap.size + 1) _ (psOf (L ++ [(b0, t)])) (y.1, (y.2.length : Int)) _ _ rfl rfl (HOP3.out.below ((Below.refl _ _).alloc (Nat.le_refl _) _)) (cell_new _ _ _ 0 _ rfl) (cell_new _ _ _ 1 _ rfl) (by rw [psOf_length]; first | omega | (simp only [List.length_append, List.length_singleton]; omega)) (by simp; omega) ?_)
          intro v4 w4 hop4 hg4
          obtain ⟨hos4, hb4⟩ := after_piece ((Below.refl _ _).alloc (Nat.le_refl _) _) HOP3.out HOS3.out (by omega) hg4
          have d2 := keepB hb4 (by dsimp only; omega) d2
          have HOP4 := hid hop4; have HOS4 := hid hos4; have HB4 := hid hb4; have hz4 := hb4.size; clear hop4 hos4 hb4 hg4
          go_upto_region 6 with (at_builtin; refine app_str rfl _ _ rfl (w.heap.size + 1) _ (bsOf (L ++ [(b0, t)])) y.2 _ _ rfl rfl (HOS4.out.below ((Below.refl _ _).alloc (Nat.le_refl _) _)) (cell_new _ _ _ 0 _ rfl) (by rw [bsOf_length]; first | omega | (simp only [List.length_append, List.length_singleton]; omega)) (by simp; omega) ?_)
          intro v5 w5 hos5 hg5
          obtain ⟨hop5, hb5⟩ := after_str ((Below.refl _ _).alloc (Nat.le_refl _) _) HOP4.out HOS4.out (by omega) hg5
          have HOP5 := hid hop5; have HOS5 := hid hos5; have HB5 := hid hb5; have hz5 := hb5.size; clear hop5 hos5 hb5 hg5
          go_wp2_with fail
          go_roundw
          case rel => exact ⟨k + 1, true, (L ++ [(b0, t)]) ++ [y], rfl, by go_num, by omega, ⟨by have := HLL.out; simp at this ⊢; omega, HIN2.out, (by have h := HOP5.out; rw [psOf_snoc]; exact h), (by have h := HOS5.out; rw [bsOf_snoc]; exact h), ((((HBW.out).trans HB1.out).trans HB2.out).trans HB4.out).trans HB5.out⟩⟩
          case measure => simp [intOf]; omega

        · have hd1 : decide (b0 < y.1) = false := by simpa using hcmp
          have HCMP := hid hcmp
          have hins' : insS (b0, t) its = (L ++ [y]) ++ insRest (b0, t) false (its.drop (k + 1)) := by have h := HINS.out; rw [drop_at HY.out] at h; rw [h]; simp [insRest, insS, HCMP.out]
          have HIN2 := hid hins'; clear hins' HCMP
          go_wp2_with fail
          go_quiet (fail)
          go_upto_region 12 with (at_builtin; refine app_piece rfl _ _ rfl (w.heap.size + 1) _ (psOf (L)) (y.1, (y.2.length : Int)) _ _ rfl rfl (HOP.out.below ((below_drewN (Below.refl _ _) _).alloc (by simp) _)) (cell_new _ _ _ 0 _ rfl) (cell_new _ _ _ 1 _ rfl) (by rw [psOf_length]; first | omega | (simp only [List.length_append, List.length_singleton]; omega)) (by simp; omega) ?_)
          intro v1 w1 hop1 hg1
          obtain ⟨hos1, hb1⟩ := after_piece ((below_drewN (Below.refl _ _) _).alloc (by simp) _) HOP.out HOS.out (by omega) hg1
          have d2 := keepB hb1 (by dsimp only; omega) d2
          have HOP1 := hid hop1; have HOS1 := hid hos1; have HB1 := hid hb1; have hz1 := hb1.size; clear hop1 hos1 hb1 hg1
          go_upto_region 6 with (at_builtin; refine app_str rfl _ _ rfl (w.heap.size + 1) _ (bsOf (L)) y.2 _ _ rfl rfl (HOS1.out.below ((Below.refl _ _).alloc (Nat.le_refl _) _)) (cell_new _ _ _ 0 _ rfl) (by rw [bsOf_length]; first | omega | (simp only [List.length_append, List.length_singleton]; omega)) (by simp; omega) ?_)
          intro v2 w2 hos2 hg2
          obtain ⟨hop2, hb2⟩ := after_str ((Below.refl _ _).alloc (Nat.le_refl _) _) HOP1.out HOS1.out (by omega) hg2
          have HOP2 := hid hop2; have HOS2 := hid hos2; have HB2 := hid hb2; have hz2 := hb2.size; clear hop2 hos2 hb2 hg2
          go_wp2_with fail
          go_roundw
          case rel => exact ⟨k + 1, false, L ++ [y], rfl, by go_num, by omega, ⟨by have := HLL.out; simp at this ⊢; omega, HIN2.out, (by have h := HOP2.out; rw [psOf_snoc]; exact h), (by have h := HOS2.out; rw [bsOf_snoc]; exact h), ((HBW.out).trans HB1.out).trans HB2.out⟩⟩
          case measure => simp [intOf]; omega

    · obtain ⟨hLl, hins, hop, hos, hbw⟩ := HI.out
      have hbw0 : w.heap.size + 1 ≤ wr.heap.size := by have := hbw.size; omega
      have c0 := hbw.cell (p := ⟨w.heap.size, 0, none⟩) (by dsimp only; omega)
      rw [K0.out] at c0
      have c1 := hbw.cell (p := ⟨w.heap.size, 1, none⟩) (by dsimp only; omega)
      rw [K1.out] at c1
      have hLl : L.length ≤ 100002 := by split at hLl <;> omega
      rw [List.drop_eq_nil_of_le (by have := HN.out; omega)] at hins
      have HOP := hid hop
      have HOS := hid hos
      have HBW := hid hbw
      have HINS := hid hins
      clear hop hos hbw hins HI
      have HFB : Hid (Below w.heap.size w wr) := HB0.out.trans (HBW.out.mono (by omega))
      cases dn with
      | true =>
        have hL : insS (b0, t) its = L := by have h := HINS.out; rw [h]; simp [insRest]
        have HL := hid hL; clear hL
        go_wp2_with fail
        go_ret2
        exact ⟨_, _, rfl, by rw [HL.out]; exact HOP.out.mono (by omega), by rw [HL.out]; exact HOS.out.mono (by omega), HFB.out⟩

      | false =>
        have hL : insS (b0, t) its = L ++ [(b0, t)] := by have h := HINS.out; rw [h]; simp [insRest, insS]
        have HL := hid hL; clear hL
        go_upto_region 15 with (at_builtin; refine app_piece rfl _ _ rfl (w.heap.size + 1) _ (psOf (L)) (b0, b1) _ _ rfl rfl (HOP.out.below ((Below.refl _ _).alloc (Nat.le_refl _) _)) (cell_new _ _ _ 0 _ rfl) (cell_new _ _ _ 1 _ rfl) (by rw [psOf_length]; first | omega | (simp only [List.length_append, List.length_singleton]; omega)) (by simp; omega) ?_)
        intro v1 w1 hop1 hg1
        obtain ⟨hos1, hb1⟩ := after_piece ((Below.refl _ _).alloc (Nat.le_refl _) _) HOP.out HOS.out (by omega) hg1
        have HOP1 := hid hop1; have HOS1 := hid hos1; have HB1 := hid hb1; have hz1 := hb1.size; clear hop1 hos1 hb1 hg1
        go_upto_region 16 with (at_builtin; refine app_str rfl _ _ rfl (w.heap.size + 1) _ (bsOf (L)) t _ _ rfl rfl (HOS1.out.below ((Below.refl _ _).alloc (Nat.le_refl _) _)) (cell_new _ _ _ 0 _ rfl) (by rw [bsOf_length]; first | omega | (simp only [List.length_append, List.length_singleton]; omega)) (by simp; omega) ?_)
        intro v2 w2 hos2 hg2
        obtain ⟨hop2, hb2⟩ := after_str ((Below.refl _ _).alloc (Nat.le_refl _) _) HOP1.out HOS1.out (by omega) hg2
        have HOP2 := hid hop2; have HOS2 := hid hos2; have HB2 := hid hb2; have hz2 := hb2.size; clear hop2 hos2 hb2 hg2
        go_wp2_with fail
        go_ret2
        exact ⟨_, _, rfl, by rw [HL.out, psOf_snoc]; have h := HOP2.out; rw [HBT.out] at h; exact h.mono (by omega), by rw [HL.out, bsOf_snoc]; exact HOS2.out.mono (by omega), HFB.out.trans ((HB1.out.trans HB2.out).mono (by omega))⟩
end Go.Proofs.Ytcfmimfkaabmkaa
