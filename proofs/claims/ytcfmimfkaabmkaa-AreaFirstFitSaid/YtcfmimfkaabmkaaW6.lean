/- with (56): the walk. -/
import Derived.Test.YtcfmimfkaabmkaaW5
set_option linter.unusedVariables false
set_option linter.unusedSimpArgs false
namespace Go.Proofs.Ytcfmimfkaabmkaa
open Go.RowKit
attribute [local go_sem] Oper.semAt_some
attribute [local irreducible] num
attribute [local go_sem high] run_tail33 run_tail49
def WithPost (x : Nat × List UInt8) (lay : Lay) (w : World) (e : Ending) (w' : World) : Prop :=
  ∃ v1 v2, e = .returned (.tuple #[v1, v2]) ∧ OP w' w.heap.size v1 (psOf (itsOf (insW x lay))) ∧ OS w' w.heap.size v2 (bsOf (itsOf (insW x lay))) ∧ Below w.heap.size w w'
def WthI (N : Nat) (W0 : World) (lay : Lay) (x k : Nat) (v1 v2 : Value) (wr : World) : Prop :=
  (∀ j y, j < k → lay[j]? = some y → y.1 < x) ∧ OP wr (N + 1) v1 (psOf (itsOf (lay.take k))) ∧ OS wr (N + 1) v2 (bsOf (itsOf (lay.take k))) ∧ Below (N + 1) W0 wr
theorem ps_take (lay : Lay) (k : Nat) : psOf (itsOf (lay.take k)) = (psOf (itsOf lay)).take k := by rw [psOf_its, psOf_its, List.map_take]
theorem bs_take (lay : Lay) (k : Nat) : bsOf (itsOf (lay.take k)) = (bsOf (itsOf lay)).take k := by rw [bsOf_its, bsOf_its, List.map_take]
theorem ps_snoc (A : Lay) (y : Nat × List UInt8) : psOf (itsOf (A ++ [y])) = psOf (itsOf A) ++ [((y.1 : Int), (y.2.length : Int))] := by rw [psOf_its, psOf_its, List.map_append]; rfl
theorem bs_snoc (A : Lay) (y : Nat × List UInt8) : bsOf (itsOf (A ++ [y])) = bsOf (itsOf A) ++ [y.2] := by rw [bsOf_its, bsOf_its, List.map_append]; rfl
theorem ps_app (A B : Lay) : psOf (itsOf (A ++ B)) = psOf (itsOf A) ++ psOf (itsOf B) := by rw [psOf_its, psOf_its, psOf_its, List.map_append]
theorem bs_app (A B : Lay) : bsOf (itsOf (A ++ B)) = bsOf (itsOf A) ++ bsOf (itsOf B) := by rw [bsOf_its, bsOf_its, bsOf_its, List.map_append]
set_option maxHeartbeats 4000000 in
set_option maxRecDepth 100000 in
theorem with_any (B1 B2 : Nat) (v1 v2 : Value) (lay : Lay) (x n : Nat) (w : World) (hP : OP w B1 v1 (psOf (itsOf lay))) (hS : OS w B2 v2 (bsOf (itsOf lay))) (hlen : lay.length ≤ 8192) (hx : x ≤ 8192) (hn : n ≤ 8192) :
    Calls Try.prog 56 #[v1, v2, .agg #[.int .i64 (x : Int), .int .i64 (n : Int)]] w (WithPost (x, zs n) lay w) := by
  have HRP := hP.rp
  have HRS := hS.rs
  obtain ⟨o, cap, rfl, hc⟩ := HRP
  obtain ⟨o2, cap2, rfl, hc2⟩ := HRS
  have hl1 : (psOf (itsOf lay)).length = lay.length := by rw [psOf_its, List.length_map]
  have hl2 : (bsOf (itsOf lay)).length = lay.length := by rw [bsOf_its, List.length_map]
  rw [hl1] at hP
  rw [hl2] at hS
  rw [hl1, hl2]
  have HC := hid hc; have HC2 := hid hc2; have HP := hid hP; have HS := hid hS
  obtain ⟨m, hm⟩ : ∃ m, lay.length = m := ⟨_, rfl⟩
  rw [hm] at hlen HP HS ⊢
  have HN := hid hm
  clear hc hc2 hP hS hl1 hl2 hm
  go_enter Try.func56, Try.ntmps56
  go_wp2_with fail
  obtain ⟨W0, hW0⟩ : ∃ W0, W0 = ((w.alloc (.cells #[.int .i64 (x : Int), .int .i64 (n : Int)] 37)).alloc (.cells #[] 37)).alloc (.cells #[] 9) := ⟨_, rfl⟩
  rw [← hW0]
  have hI0 : WthI w.heap.size W0 lay x 0 (.slice (some ⟨w.heap.size + 1, 0, none⟩) 0 0) (.slice (some ⟨w.heap.size + 1 + 1, 0, none⟩) 0 0) W0 := by
    refine ⟨fun j y hj => by omega, ?_, ?_, Below.refl _ _⟩
    · have h := op_new (w.alloc (.cells #[.int .i64 (x : Int), .int .i64 (n : Int)] 37)) (w.heap.size + 1) (by simp)
      rw [World.size_alloc] at h
      rw [hW0]; exact h.below ((Below.refl _ _).alloc (Nat.le_refl _) _)
    · have h := os_new ((w.alloc (.cells #[.int .i64 (x : Int), .int .i64 (n : Int)] 37)).alloc (.cells #[] 37)) (w.heap.size + 1) (by simp)
      rw [World.size_alloc, World.size_alloc] at h
      rw [hW0]; exact h
  have hb0 : Below w.heap.size w W0 := by rw [hW0]; exact (((Below.refl w.heap.size w).alloc (Nat.le_refl _) _).alloc (by simp) _).alloc (by simp; omega) _
  have c0 : W0.cell? ⟨w.heap.size, 0, none⟩ = some (.int .i64 (x : Int)) := by rw [hW0]; go_simp
  have c1 : W0.cell? ⟨w.heap.size, 1, none⟩ = some (.int .i64 (n : Int)) := by rw [hW0]; go_simp
  have hz0 : w.heap.size + 1 ≤ W0.heap.size := by rw [hW0]; simp
  clear hW0
  have HI0 := hid hI0; clear hI0
  have HB0 := hid hb0; clear hb0
  have K0 := hid c0; clear c0
  have K1 := hid c1; clear c1
  go_loopw [8, 9, 10] (fun v1 v2 i wr => ∃ (k : Nat), i = .int .i64 k ∧ k ≤ m ∧ Hid (WthI w.heap.size W0 lay x k v1 v2 wr)) (fun _ _ i _ => m - (intOf i).toNat)
  case atStart => exact ⟨0, rfl, Nat.zero_le _, HI0⟩
  case round =>
    clear HI0
    obtain ⟨k, rfl, hk, HI⟩ := hrel
    obtain ⟨hlow, hop, hos, hbw⟩ := HI.out
    have hww : Below w.heap.size w wr := HB0.out.trans (hbw.mono (by omega))
    have c0 := hbw.cell (p := ⟨w.heap.size, 0, none⟩) (by dsimp only; omega)
    rw [K0.out] at c0
    have c1 := hbw.cell (p := ⟨w.heap.size, 1, none⟩) (by dsimp only; omega)
    rw [K1.out] at c1
    have hbw0 : w.heap.size + 1 ≤ wr.heap.size := by have := hbw.size; omega
    have HOP := hid hop; have HOS := hid hos; have HBW := hid hbw; have HW := hid hww; have HLOW := hid hlow
    have htl : (lay.take k).length ≤ 8192 := by rw [List.length_take]; omega
    clear hop hos hbw hww hlow HI
    by_cases hlt : k < m
    · obtain ⟨⟨p, s⟩, hy⟩ : ∃ y, lay[k]? = some y := ⟨_, List.getElem?_eq_getElem (by have := HN.out; omega)⟩
      have hyp : (psOf (itsOf lay))[k]? = some ((p : Int), (s.length : Int)) := by rw [psOf_its, List.getElem?_map, hy]; rfl
      have hyb : (bsOf (itsOf lay))[k]? = some s := by rw [bsOf_its, List.getElem?_map, hy]; rfl
      have hc := HC.out
      have hc2 := HC2.out
      rcases hc with hc | ⟨b, off, rfl, hbl, hc⟩
      · rw [hc] at hyp; simp at hyp
      rcases hc2 with hc2 | ⟨bb, off2, rfl, hbl2, hc2⟩
      · rw [hc2] at hyb; simp at hyb
      have d0 := keepc HW.out (hc k _ hyp).1
      have d1 := keepc HW.out (hc k _ hyp).2
      have d2 := keepc HW.out (hc2 k _ hyb)
      unfold strV at d2
      simp only at d0 d1
      have HTK : Hid (lay.take (k + 1) = lay.take k ++ [(p, s)]) := take_snoc hy
      have HNX0 : Hid (lay[k]? = some (p, s)) := hy
      clear hc hc2 hyp hyb hy
      by_cases hpx : p < x
      · have g1 : decide ((p : Int) < (x : Int)) = true := by simp; omega
        have HL2 : Hid (∀ j y, j < k + 1 → lay[j]? = some y → y.1 < x) := fun j y hj hy' => by
          rcases Nat.lt_or_ge j k with h1 | h1
          · exact HLOW.out j y h1 hy'
          · obtain rfl : j = k := by omega
            rw [HNX0.out] at hy'; cases hy'; exact hpx
        go_wp2_with fail
        go_quiet (fail)
        go_upto_region 6 with (at_builtin; refine app_piece rfl _ _ rfl (w.heap.size + 1) _ (psOf (itsOf (lay.take k))) ((p : Int), (s.length : Int)) _ _ rfl rfl (HOP.out.below ((below_drewN (Below.refl _ _) _).alloc (by simp) _)) (cell_new _ _ _ 0 _ rfl) (cell_new _ _ _ 1 _ rfl) (by rw [psOf_its, List.length_map]; omega) (by simp; omega) ?_)
        intro v1 w1 hop1 hg1
        obtain ⟨hos1, hb1⟩ := after_piece ((below_drewN (Below.refl _ _) _).alloc (by simp) _) HOP.out HOS.out (by omega) hg1
        have d2 := keepB hb1 (by dsimp only; omega) d2
        have HOP1 := hid hop1; have HOS1 := hid hos1; have HB1 := hid hb1; have hz1 := hb1.size; clear hop1 hos1 hb1 hg1
        go_upto_region 7 with (at_builtin; refine app_str rfl _ _ rfl (w.heap.size + 1) _ (bsOf (itsOf (lay.take k))) s _ _ rfl rfl (HOS1.out.below ((Below.refl _ _).alloc (Nat.le_refl _) _)) (cell_new _ _ _ 0 _ rfl) (by rw [bsOf_its, List.length_map]; omega) (by simp; omega) ?_)
        intro v2 w2 hos2 hg2
        obtain ⟨hop2, hb2⟩ := after_str ((Below.refl _ _).alloc (Nat.le_refl _) _) HOP1.out HOS1.out (by omega) hg2
        have HOP2 := hid hop2; have HOS2 := hid hos2; have HB2 := hid hb2; have hz2 := hb2.size; clear hop2 hos2 hb2 hg2
        go_wp2_with fail
        go_roundw
        case rel => exact ⟨k + 1, by first | rfl | go_num, by omega, ⟨HL2.out, (by have h := HOP2.out; rw [HTK.out, ps_snoc]; exact h), (by have h := HOS2.out; rw [HTK.out, bs_snoc]; exact h), ((HBW.out).trans HB1.out).trans HB2.out⟩⟩
        case measure => simp [intOf]; omega
      · have g1 : decide ((p : Int) < (x : Int)) = false := by simp; omega
        have HNX : Hid (∀ y, lay[k]? = some y → ¬ y.1 < (x, zs n).1) := fun y hy => by rw [HNX0.out] at hy; cases hy; exact hpx
        clear d1 d2
        go_wp2_with fail
        go_quiet (fail)
        have HSPL : Hid (insW (x, zs n) lay = (lay.take k ++ [(x, zs n)]) ++ lay.drop k) := by
          unfold Hid; rw [insW_split (x, zs n) lay k HLOW.out (fun y hy => HNX.out y hy)]; simp
        have HTL := hid htl
        go_upto_region 9 with (at_builtin; refine app_piece rfl _ _ rfl (w.heap.size + 1) _ (psOf (itsOf (lay.take k))) ((x : Int), (n : Int)) _ _ rfl rfl (HOP.out.below ((below_drewN (Below.refl _ _) _).alloc (by simp) _)) (cell_new _ _ _ 0 _ rfl) (cell_new _ _ _ 1 _ rfl) (by rw [psOf_its, List.length_map]; omega) (by simp; omega) ?_)
        intro v1 w1 hop1 hg1
        obtain ⟨hos1, hb1⟩ := after_piece ((below_drewN (Below.refl _ _) _).alloc (by simp) _) HOP.out HOS.out (by omega) hg1
        have c1 := keepB hb1 (by dsimp only; omega) c1
        have HOP1 := hid hop1; have HOS1 := hid hos1; have HB1 := hid hb1; have hz1 := hb1.size; clear hop1 hos1 hb1 hg1
        have hmk := run_make31 w1 n (by omega)
        obtain ⟨Z, hZ⟩ : ∃ Z : Array Value, Z = (cellsB (List.replicate n 0)).toArray := ⟨_, rfl⟩
        have hst := run_str31 (w1.alloc (.cells (cellsB (List.replicate n 0)).toArray 5)) w1.heap.size n (List.replicate n 0) (bytes_new w1 _)
        rw [List.length_replicate] at hst
        rw [← hZ] at hmk hst
        rw [show List.replicate n (0 : UInt8) = zs n from rfl] at hst
        have hz1' : w.heap.size + 1 ≤ w1.heap.size := by omega
        have HOS1' : Hid (OS (w1.alloc (.cells Z 5)) (w.heap.size + 1) u9 (bsOf (itsOf (lay.take k)))) := HOS1.out.below ((Below.refl _ _).alloc (Nat.le_refl _) _)
        have HOP1' : Hid (OP (w1.alloc (.cells Z 5)) (w.heap.size + 1) v1 (psOf (itsOf (lay.take k)) ++ [((x : Int), (n : Int))])) := HOP1.out.below ((Below.refl _ _).alloc (Nat.le_refl _) _)
        clear hZ
        have hq := HOS1'.out.below ((Below.refl _ _).alloc (Nat.le_refl _) (.cells #[.string ⟨(zs n).toArray⟩] 9))
        have hq1 := cell_new (w1.alloc (.cells Z 5)) #[.string ⟨(zs n).toArray⟩] 9 0 (strV (zs n)) rfl
        rw [World.size_alloc] at hq1
        have hq2 : (bsOf (itsOf (lay.take k))).length ≤ 1000000 := by rw [bsOf_its, List.length_map]; omega
        have hq3 : w.heap.size + 1 ≤ ((w1.alloc (.cells Z 5)).alloc (.cells #[.string ⟨(zs n).toArray⟩] 9)).heap.size := by simp; omega
        have HQ0 := hid hq; have HQ1 := hid hq1; have HQ2 := hid hq2; have HQ3 := hid hq3
        clear hq hq1 hq2 hq3
        go_upto_region 10 with (at_builtin; refine app_str rfl _ _ rfl (w.heap.size + 1) _ (bsOf (itsOf (lay.take k))) (zs n) _ _ rfl rfl HQ0.out HQ1.out HQ2.out HQ3.out ?_)
        intro v2 w2 hos2 hg2
        obtain ⟨hop2, hb2⟩ := after_str ((Below.refl _ _).alloc (Nat.le_refl _) _) HOP1'.out HOS1'.out (by simp; omega) hg2
        have hb2' : Below (w.heap.size + 1) w1 w2 := ((Below.refl _ _).alloc hz1' _).trans hb2
        have HB2 : Hid (Below (w.heap.size + 1) wr w2) := HB1.out.trans hb2'
        have HOP2 := hid hop2; have HOS2 := hid hos2; have hz2 := hb2.size; clear hop2 hos2 hb2 hb2' hg2 hmk hst HOP1 HOS1 HOP1' HOS1' HQ0 HQ1 HQ2 HQ3
        have HBWW := hid (HBW.out.trans HB2.out)
        have hww2 : Below w.heap.size w w2 := HB0.out.trans (HBWW.out.mono (by omega))
        obtain ⟨-, hsp⟩ := (HP.out.below hww2).src hk
        obtain ⟨-, hss⟩ := (HS.out.below hww2).src hk
        have HSP := hid hsp; have HSS := hid hss; have HW2 := hid hww2
        have hlp : (psOf (itsOf (lay.take k)) ++ [((x : Int), (n : Int))]).length + ((psOf (itsOf lay)).drop k).length ≤ 1000000 := by rw [List.length_append, psOf_its, psOf_its, List.length_drop, List.length_map, List.length_map, HN.out]; simp; omega
        have hls : (bsOf (itsOf (lay.take k)) ++ [zs n]).length + ((bsOf (itsOf lay)).drop k).length ≤ 1000000 := by rw [List.length_append, bsOf_its, bsOf_its, List.length_drop, List.length_map, List.length_map, HN.out]; simp; omega
        have HLP := hid hlp; have HLS := hid hls
        have hzw : w.heap.size + 1 ≤ w2.heap.size := by have := hww2.size; have := HB2.out.size; omega
        clear hsp hss hlp hls hww2 c0 c1
        go_upto_region 10 with (fail)
        go_region_law (first
          | (refine step_app33 rfl (.tmp 54) (.tmp 57) rfl (w.heap.size + 1) v1 (.slice (tailA (some ⟨b, off, none⟩) k cap 2) (m - k) (cap - k)) (psOf (itsOf (lay.take k)) ++ [((x : Int), (n : Int))]) ((psOf (itsOf lay)).drop k) (by simp [Act.eval, Act.put]) (by simp [Act.eval, Act.put]) (HOP2.out.below (by first | exact (Below.refl _ _).drew | exact Below.refl _ _)) (HSP.out.below (by first | exact (Below.refl _ _).drew | exact Below.refl _ _)) HLP.out hzw ?_; intro v7 w7 hop7 hg7; have HOS7 := hid ((HOS2.out.below (Below.refl _ _).drew).kept (HOP2.out.below (Below.refl _ _).drew) hg7); have HB7 := hid ((HOP2.out.below (Below.refl _ _).drew).grown (HBWW.out.drew) hg7 hzw); have HOP7 := hid hop7; have hz7 : w.heap.size + 1 ≤ w7.heap.size := (by have := hg7.size; simp at this; omega); clear hop7 hg7)
          | (refine step_app49 rfl (.tmp 59) (.tmp 62) rfl (w.heap.size + 1) v2 (.slice (tailA (some ⟨bb, off2, none⟩) k cap2 1) (m - k) (cap2 - k)) (bsOf (itsOf (lay.take k)) ++ [zs n]) ((bsOf (itsOf lay)).drop k) (by simp [Act.eval, Act.put]) (by simp [Act.eval, Act.put]) HOS7.out ((HS.out.below (HB0.out.trans (HB7.out.mono (by omega)))).src hk).2 HLS.out hz7 ?_; intro v8 w8 hos8 hg8; have HOP8 := hid (HOP7.out.kept HOS7.out hg8); have HB8 := hid (HOS7.out.grown HB7.out hg8 hz7); have HOS8 := hid hos8; clear hos8 hg8))
        go_wp2_with fail
        go_ret2
        refine ⟨v7, v8, rfl, ?_, ?_, HB0.out.trans (HB8.out.mono (by omega))⟩
        · rw [HSPL.out, ps_app, ps_snoc, show psOf (itsOf (lay.drop k)) = (psOf (itsOf lay)).drop k by rw [psOf_its, psOf_its, List.map_drop]]
          have h := HOP8.out.mono (show w.heap.size ≤ w.heap.size + 1 by omega)
          simp only [zs_length]
          exact h
        · rw [HSPL.out, bs_app, bs_snoc, show bsOf (itsOf (lay.drop k)) = (bsOf (itsOf lay)).drop k by rw [bsOf_its, bsOf_its, List.map_drop]]
          exact HOS8.out.mono (by omega)
    · have HNX : Hid (∀ y, lay[k]? = some y → ¬ y.1 < (x, zs n).1) := fun y hy => by rw [List.getElem?_eq_none (by have := HN.out; omega)] at hy; cases hy
      go_wp2_with fail
      go_quiet (fail)
      have HSPL : Hid (insW (x, zs n) lay = (lay.take k ++ [(x, zs n)]) ++ lay.drop k) := by
        unfold Hid; rw [insW_split (x, zs n) lay k HLOW.out (fun y hy => HNX.out y hy)]; simp
      have HTL := hid htl
      go_upto_region 9 with (at_builtin; refine app_piece rfl _ _ rfl (w.heap.size + 1) _ (psOf (itsOf (lay.take k))) ((x : Int), (n : Int)) _ _ rfl rfl (HOP.out.below ((below_drewN (Below.refl _ _) _).alloc (by simp) _)) (cell_new _ _ _ 0 _ rfl) (cell_new _ _ _ 1 _ rfl) (by rw [psOf_its, List.length_map]; omega) (by simp; omega) ?_)
      intro v1 w1 hop1 hg1
      obtain ⟨hos1, hb1⟩ := after_piece ((below_drewN (Below.refl _ _) _).alloc (by simp) _) HOP.out HOS.out (by omega) hg1
      have c1 := keepB hb1 (by dsimp only; omega) c1
      have HOP1 := hid hop1; have HOS1 := hid hos1; have HB1 := hid hb1; have hz1 := hb1.size; clear hop1 hos1 hb1 hg1
      have hmk := run_make31 w1 n (by omega)
      obtain ⟨Z, hZ⟩ : ∃ Z : Array Value, Z = (cellsB (List.replicate n 0)).toArray := ⟨_, rfl⟩
      have hst := run_str31 (w1.alloc (.cells (cellsB (List.replicate n 0)).toArray 5)) w1.heap.size n (List.replicate n 0) (bytes_new w1 _)
      rw [List.length_replicate] at hst
      rw [← hZ] at hmk hst
      rw [show List.replicate n (0 : UInt8) = zs n from rfl] at hst
      have hz1' : w.heap.size + 1 ≤ w1.heap.size := by omega
      have HOS1' : Hid (OS (w1.alloc (.cells Z 5)) (w.heap.size + 1) u9 (bsOf (itsOf (lay.take k)))) := HOS1.out.below ((Below.refl _ _).alloc (Nat.le_refl _) _)
      have HOP1' : Hid (OP (w1.alloc (.cells Z 5)) (w.heap.size + 1) v1 (psOf (itsOf (lay.take k)) ++ [((x : Int), (n : Int))])) := HOP1.out.below ((Below.refl _ _).alloc (Nat.le_refl _) _)
      clear hZ
      have hq := HOS1'.out.below ((Below.refl _ _).alloc (Nat.le_refl _) (.cells #[.string ⟨(zs n).toArray⟩] 9))
      have hq1 := cell_new (w1.alloc (.cells Z 5)) #[.string ⟨(zs n).toArray⟩] 9 0 (strV (zs n)) rfl
      rw [World.size_alloc] at hq1
      have hq2 : (bsOf (itsOf (lay.take k))).length ≤ 1000000 := by rw [bsOf_its, List.length_map]; omega
      have hq3 : w.heap.size + 1 ≤ ((w1.alloc (.cells Z 5)).alloc (.cells #[.string ⟨(zs n).toArray⟩] 9)).heap.size := by simp; omega
      have HQ0 := hid hq; have HQ1 := hid hq1; have HQ2 := hid hq2; have HQ3 := hid hq3
      clear hq hq1 hq2 hq3
      go_upto_region 10 with (at_builtin; refine app_str rfl _ _ rfl (w.heap.size + 1) _ (bsOf (itsOf (lay.take k))) (zs n) _ _ rfl rfl HQ0.out HQ1.out HQ2.out HQ3.out ?_)
      intro v2 w2 hos2 hg2
      obtain ⟨hop2, hb2⟩ := after_str ((Below.refl _ _).alloc (Nat.le_refl _) _) HOP1'.out HOS1'.out (by simp; omega) hg2
      have hb2' : Below (w.heap.size + 1) w1 w2 := ((Below.refl _ _).alloc hz1' _).trans hb2
      have HB2 : Hid (Below (w.heap.size + 1) wr w2) := HB1.out.trans hb2'
      have HOP2 := hid hop2; have HOS2 := hid hos2; have hz2 := hb2.size; clear hop2 hos2 hb2 hb2' hg2 hmk hst HOP1 HOS1 HOP1' HOS1' HQ0 HQ1 HQ2 HQ3
      have HBWW := hid (HBW.out.trans HB2.out)
      have hww2 : Below w.heap.size w w2 := HB0.out.trans (HBWW.out.mono (by omega))
      obtain ⟨-, hsp⟩ := (HP.out.below hww2).src hk
      obtain ⟨-, hss⟩ := (HS.out.below hww2).src hk
      have HSP := hid hsp; have HSS := hid hss; have HW2 := hid hww2
      have hlp : (psOf (itsOf (lay.take k)) ++ [((x : Int), (n : Int))]).length + ((psOf (itsOf lay)).drop k).length ≤ 1000000 := by rw [List.length_append, psOf_its, psOf_its, List.length_drop, List.length_map, List.length_map, HN.out]; simp; omega
      have hls : (bsOf (itsOf (lay.take k)) ++ [zs n]).length + ((bsOf (itsOf lay)).drop k).length ≤ 1000000 := by rw [List.length_append, bsOf_its, bsOf_its, List.length_drop, List.length_map, List.length_map, HN.out]; simp; omega
      have HLP := hid hlp; have HLS := hid hls
      have hzw : w.heap.size + 1 ≤ w2.heap.size := by have := hww2.size; have := HB2.out.size; omega
      clear hsp hss hlp hls hww2 c0 c1
      go_upto_region 10 with (fail)
      go_region_law (first
        | (refine step_app33 rfl (.tmp 54) (.tmp 57) rfl (w.heap.size + 1) v1 (.slice (tailA o k cap 2) (m - k) (cap - k)) (psOf (itsOf (lay.take k)) ++ [((x : Int), (n : Int))]) ((psOf (itsOf lay)).drop k) (by simp [Act.eval, Act.put]) (by simp [Act.eval, Act.put]) (HOP2.out.below (by first | exact (Below.refl _ _).drew | exact Below.refl _ _)) (HSP.out.below (by first | exact (Below.refl _ _).drew | exact Below.refl _ _)) HLP.out hzw ?_; intro v7 w7 hop7 hg7; have HOS7 := hid ((HOS2.out.below (Below.refl _ _).drew).kept (HOP2.out.below (Below.refl _ _).drew) hg7); have HB7 := hid ((HOP2.out.below (Below.refl _ _).drew).grown (HBWW.out.drew) hg7 hzw); have HOP7 := hid hop7; have hz7 : w.heap.size + 1 ≤ w7.heap.size := (by have := hg7.size; simp at this; omega); clear hop7 hg7)
        | (refine step_app49 rfl (.tmp 59) (.tmp 62) rfl (w.heap.size + 1) v2 (.slice (tailA o2 k cap2 1) (m - k) (cap2 - k)) (bsOf (itsOf (lay.take k)) ++ [zs n]) ((bsOf (itsOf lay)).drop k) (by simp [Act.eval, Act.put]) (by simp [Act.eval, Act.put]) HOS7.out ((HS.out.below (HB0.out.trans (HB7.out.mono (by omega)))).src hk).2 HLS.out hz7 ?_; intro v8 w8 hos8 hg8; have HOP8 := hid (HOP7.out.kept HOS7.out hg8); have HB8 := hid (HOS7.out.grown HB7.out hg8 hz7); have HOS8 := hid hos8; clear hos8 hg8))
      go_wp2_with fail
      go_ret2
      refine ⟨v7, v8, rfl, ?_, ?_, HB0.out.trans (HB8.out.mono (by omega))⟩
      · rw [HSPL.out, ps_app, ps_snoc, show psOf (itsOf (lay.drop k)) = (psOf (itsOf lay)).drop k by rw [psOf_its, psOf_its, List.map_drop]]
        have h := HOP8.out.mono (show w.heap.size ≤ w.heap.size + 1 by omega)
        simp only [zs_length]
        exact h
      · rw [HSPL.out, bs_app, bs_snoc, show bsOf (itsOf (lay.drop k)) = (bsOf (itsOf lay)).drop k by rw [bsOf_its, bsOf_its, List.map_drop]]
        exact HOS8.out.mono (by omega)
end Go.Proofs.Ytcfmimfkaabmkaa
