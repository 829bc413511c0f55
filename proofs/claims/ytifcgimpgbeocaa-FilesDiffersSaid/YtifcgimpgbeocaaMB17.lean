/- differ, of the law FilesDiffers. -/
import Derived.Test.YtifcgimpgbeocaaMP20
import Derived.Test.YtifcgimpgbeocaaK28
import Derived.Test.YtifcgimpgbeocaaK6
set_option linter.unusedVariables false
set_option linter.unusedSimpArgs false
namespace Go.Proofs.Ytifcgimpgbeocaa
open Go.RowKit
attribute [local go_sem] Oper.semAt_some
def dif1 (b : Ds) (l : Ds) : Nat := (l.filter (fun x => !decide (look b x.1 = some x.2))).length
def dif2 (a : Ds) (l : Ds) : Nat := (l.filter (fun x => !hasD a x.1)).length
theorem dif1_succ {a b : Ds} {k : Nat} {r : Rec} (h : a[k]? = some r) : dif1 b (a.take (k + 1)) = dif1 b (a.take k) + (if look b r.1 = some r.2 then 0 else 1) := by
  obtain ⟨hk, rfl⟩ := List.getElem?_eq_some_iff.1 h
  unfold dif1
  rw [List.take_succ_eq_append_getElem hk, List.filter_append, List.length_append]
  congr 1
  by_cases hq : look b a[k].1 = some a[k].2 <;> simp [hq]
theorem dif2_succ {a b : Ds} {k : Nat} {r : Rec} (h : b[k]? = some r) : dif2 a (b.take (k + 1)) = dif2 a (b.take k) + (if hasD a r.1 = true then 0 else 1) := by
  obtain ⟨hk, rfl⟩ := List.getElem?_eq_some_iff.1 h
  unfold dif2
  rw [List.take_succ_eq_append_getElem hk, List.filter_append, List.length_append]
  congr 1
  by_cases hq : hasD a b[k].1 = true <;> simp [hq]
theorem dif1_le (b l : Ds) : dif1 b l ≤ l.length := List.length_filter_le _ _
theorem dif2_le (a l : Ds) : dif2 a l ≤ l.length := List.length_filter_le _ _
set_option maxHeartbeats 4000000 in
set_option maxRecDepth 100000 in
theorem differ_any (a b : Ds) (va vb : Value) (w : World) (hA : RdR w va a) (hB : RdR w vb b) (hda : isDs a = true) (hdb : isDs b = true) : Calls Try.prog 62 #[va, vb] w (Ret (.int .i64 (differD a b : Int)) w) := by
  have HRB := hid (fun k w' (hb : Below w.heap.size w w') => rread_any b vb k w' (hB.below hb))
  have HRA := hid (fun k w' (hb : Below w.heap.size w w') => rread_any a va k w' (hA.below hb))
  have HDF : Hid (differD a b = dif1 b a + dif2 a b) := rfl
  have hal := isDs_len hda
  have hbl := isDs_len hdb
  have HDA := hid hda; have HDB := hid hdb
  obtain ⟨oa, ca, rfl, hca, hac⟩ := hA
  obtain ⟨ob, cb, rfl, hcb, hbc⟩ := hB
  have HAC := hid hac; have HBC := hid hbc
  obtain ⟨N, hN⟩ : ∃ N, a.length = N := ⟨_, rfl⟩
  obtain ⟨M, hM⟩ : ∃ M, b.length = M := ⟨_, rfl⟩
  simp only [hN, hM] at HRA HRB hca hcb hal hbl ⊢
  have HN := hid hN; have HM := hid hM
  clear hac hbc hN hM hda hdb
  go_enter Try.func62, Try.ntmps62
  go_wp2_with fail
  go_loopw [5, 16] (fun u i wr => ∃ k : Nat, i = .int .i64 k ∧ k ≤ N ∧ u = .int .i64 (dif1 b (a.take k) : Int) ∧ Hid (Below w.heap.size w wr)) (fun _ i _ => N - (intOf i).toNat)
  case atStart => exact ⟨0, rfl, Nat.zero_le _, rfl, Below.refl _ _⟩
  case round =>
    obtain ⟨k, rfl, hk, rfl, HB⟩ := hrel
    by_cases hlt : k < N
    · obtain ⟨r, hr⟩ : ∃ r, a[k]? = some r := ⟨_, List.getElem?_eq_getElem (by have := HN.out; omega)⟩
      have hHC := HAC.out
      rcases hHC with hq | ⟨b1, off, rfl, hbq, hq⟩
      · rw [hq] at hr; simp at hr
      obtain ⟨c0, c1⟩ := hq k r hr
      have c0 := keepc HB.out c0; have c1 := keepc HB.out c1
      have HSC := hid (dif1_succ (b := b) hr)
      have hkey : isKey r.1 = true := rec_key (isDs_rec HDA.out (List.mem_of_getElem? hr))
      have hnb : dif1 b (a.take k) ≤ 64 := by have h1 := dif1_le b (a.take k); rw [List.length_take] at h1; omega
      obtain ⟨n, hn⟩ : ∃ n, dif1 b (a.take k) = n := ⟨_, rfl⟩
      rw [hn] at hnb HSC ⊢
      have HR0 := hid (fun h => read_none HDB.out hkey h)
      have HR1 := hid (fun s h => read_some (s := s) HDB.out hkey h)
      obtain ⟨w3, hw3⟩ : ∃ w3, w3 = wr.alloc (.cells #[strV r.1, strV r.2] 59) := ⟨_, rfl⟩
      have hba : Below wr.heap.size wr w3 := by rw [hw3]; exact balloc (Below.refl _ _) _
      have HB3 := hid (below_step hba HB.out)
      have y0 : w3.cell? ⟨wr.heap.size, 0, none⟩ = some (strV r.1) := by rw [hw3]; exact cell_new _ _ _ 0 _ rfl
      have y1 : w3.cell? ⟨wr.heap.size, 1, none⟩ = some (strV r.2) := by rw [hw3]; exact cell_new _ _ _ 1 _ rfl
      have HW3 := hid hw3
      have HRX := hid (HRB.out r.1 w3 HB3.out)
      have hlt64 : (k : Int) < (N : Int) := by omega
      have f1 : IntKind.i64.wrap ((n : Int) + 1) = ((n + 1 : Nat) : Int) := by rw [IntWalk.i64_in _ ⟨by omega, by omega⟩]; omega
      obtain ⟨K, hK⟩ : ∃ K, look b r.1 = K := ⟨_, rfl⟩
      simp only [hK] at HR0 HR1 HSC
      clear hw3 hba hq hr hkey hK hn
      go_upto_region 5 with fail
      have e := HW3.out
      rw [← e]
      clear e HW3 c0 c1
      cases K with
      | none =>
        have hrd := HR0.out rfl
        rw [hrd] at HRX
        have HE : Hid (dif1 b (a.take (k + 1)) = n + 1) := HSC.out
        clear hrd HR0 HR1
        go_wp2_with fail
        refine HRX.out.mono ?_
        rintro e w4 ⟨rfl, hb4⟩
        have HB4 := hid (below_step hb4 HB3.out)
        clear hb4
        go_wp2_with fail
        go_roundw
        case rel => exact ⟨k + 1, by go_num, by omega, by first | (rw [HE.out]; done) | (rw [HE.out]; rfl), HB4⟩
        case measure => simp [intOf]; omega
      | some s =>
        have hrd := HR1.out s rfl
        rw [hrd] at HRX
        clear hrd HR0 HR1
        by_cases hs : s = r.2
        · have gs2 : (s != r.2) = false := by simpa using hs
          have gs3 : (s == r.2) = true := by simpa using hs
          have HE : Hid (dif1 b (a.take (k + 1)) = n) := by rw [HSC.out, if_pos (by rw [hs])]; exact hid rfl
          clear hs
          go_wp2_with fail
          refine HRX.out.mono ?_
          rintro e w4 ⟨rfl, hb4⟩
          have HB4 := hid (below_step hb4 HB3.out)
          have y1 := keepc hb4 y1
          clear hb4
          go_wp2_with fail
          go_roundw
          case rel => exact ⟨k + 1, by go_num, by omega, by first | (rw [HE.out]; done) | (rw [HE.out]; rfl), HB4⟩
          case measure => simp [intOf]; omega
        · have gs2 : (s != r.2) = true := by simpa using hs
          have gs3 : (s == r.2) = false := by simpa using hs
          have HE : Hid (dif1 b (a.take (k + 1)) = n + 1) := by rw [HSC.out, if_neg (by simpa using hs)]; exact hid rfl
          clear hs
          go_wp2_with fail
          refine HRX.out.mono ?_
          rintro e w4 ⟨rfl, hb4⟩
          have HB4 := hid (below_step hb4 HB3.out)
          have y1 := keepc hb4 y1
          clear hb4
          go_wp2_with fail
          go_roundw
          case rel => exact ⟨k + 1, by go_num, by omega, by first | (rw [HE.out]; done) | (rw [HE.out]; rfl), HB4⟩
          case measure => simp [intOf]; omega
    · have hk2 : k = N := by omega
      have hge : ¬ (k : Int) < (N : Int) := by omega
      have hA1 : dif1 b (a.take k) = dif1 b a := by rw [hk2, List.take_of_length_le (by have := HN.out; omega)]
      have hA2 : dif1 b a ≤ 64 := by have := dif1_le b a; have := HN.out; omega
      have HZ : Hid (dif1 b (a.take k) = dif1 b a + dif2 a (b.take 0)) := by rw [hA1]; exact hid rfl
      obtain ⟨n0, hn0⟩ : ∃ n0, dif1 b a = n0 := ⟨_, rfl⟩
      rw [hn0] at HZ hA2 HDF
      rw [HZ.out]
      clear hA1 hn0 hlt hk HZ
      go_wp2_with fail
      go_loopw [5, 40] (fun u i wr => ∃ j : Nat, i = .int .i64 j ∧ j ≤ M ∧ u = .int .i64 ((n0 + dif2 a (b.take j) : Nat) : Int) ∧ Hid (Below w.heap.size w wr)) (fun _ i _ => M - (intOf i).toNat)
      case atStart => exact ⟨0, rfl, Nat.zero_le _, by simp, HB⟩
      case round =>
        clear HB
        obtain ⟨j, rfl, hj, rfl, HB⟩ := hrel
        by_cases hlt2 : j < M
        · obtain ⟨r, hr⟩ : ∃ r, b[j]? = some r := ⟨_, List.getElem?_eq_getElem (by have := HM.out; omega)⟩
          have hHC := HBC.out
          rcases hHC with hq | ⟨b1, off, rfl, hbq, hq⟩
          · rw [hq] at hr; simp at hr
          obtain ⟨c0, c1⟩ := hq j r hr
          have c0 := keepc HB.out c0; have c1 := keepc HB.out c1
          have HSC := hid (dif2_succ (a := a) hr)
          have hkey : isKey r.1 = true := rec_key (isDs_rec HDB.out (List.mem_of_getElem? hr))
          have hnb : dif2 a (b.take j) ≤ 64 := by have h1 := dif2_le a (b.take j); rw [List.length_take] at h1; omega
          obtain ⟨m, hm⟩ : ∃ m, dif2 a (b.take j) = m := ⟨_, rfl⟩
          rw [hm] at hnb HSC ⊢
          obtain ⟨n, hn⟩ : ∃ n, n0 + m = n := ⟨_, rfl⟩
          rw [hn]
          have HR0 := hid (fun h => read_none HDA.out hkey h)
          have HR1 := hid (fun s h => read_some (s := s) HDA.out hkey h)
          rw [look_has (isDs_sorted HDA.out)] at HSC
          obtain ⟨w3, hw3⟩ : ∃ w3, w3 = wr.alloc (.cells #[strV r.1, strV r.2] 59) := ⟨_, rfl⟩
          have hba : Below wr.heap.size wr w3 := by rw [hw3]; exact balloc (Below.refl _ _) _
          have HB3 := hid (below_step hba HB.out)
          have y0 : w3.cell? ⟨wr.heap.size, 0, none⟩ = some (strV r.1) := by rw [hw3]; exact cell_new _ _ _ 0 _ rfl
          have HW3 := hid hw3
          have HRX := hid (HRA.out r.1 w3 HB3.out)
          have hlt64 : (j : Int) < (M : Int) := by omega
          have f1 : IntKind.i64.wrap ((n : Int) + 1) = ((n + 1 : Nat) : Int) := by rw [IntWalk.i64_in _ ⟨by omega, by omega⟩]; omega
          have HNN := hid hn
          obtain ⟨K, hK⟩ : ∃ K, look a r.1 = K := ⟨_, rfl⟩
          simp only [hK] at HR0 HR1 HSC
          clear hw3 hba hq hr hkey hK hm hn
          go_upto_region 12 with fail
          have e := HW3.out
          rw [← e]
          clear e HW3 c0 c1
          cases K with
          | none =>
            have hrd := HR0.out rfl
            rw [hrd] at HRX
            have HE : Hid (n0 + dif2 a (b.take (j + 1)) = n + 1) := by rw [HSC.out, ← HNN.out]; exact hid rfl
            clear hrd HR0 HR1
            go_wp2_with fail
            refine HRX.out.mono ?_
            rintro e w4 ⟨rfl, hb4⟩
            have HB4 := hid (below_step hb4 HB3.out)
            clear hb4
            go_wp2_with fail
            go_roundw
            case rel => exact ⟨j + 1, by go_num, by omega, by first | (rw [HE.out]; done) | (rw [HE.out]; rfl), HB4⟩
            case measure => simp [intOf]; omega
          | some s =>
            have hrd := HR1.out s rfl
            rw [hrd] at HRX
            have HE : Hid (n0 + dif2 a (b.take (j + 1)) = n) := by rw [HSC.out, ← HNN.out]; exact hid rfl
            clear hrd HR0 HR1
            go_wp2_with fail
            refine HRX.out.mono ?_
            rintro e w4 ⟨rfl, hb4⟩
            have HB4 := hid (below_step hb4 HB3.out)
            clear hb4
            go_wp2_with fail
            go_roundw
            case rel => exact ⟨j + 1, by go_num, by omega, by first | (rw [HE.out]; done) | (rw [HE.out]; rfl), HB4⟩
            case measure => simp [intOf]; omega
        · have hj2 : j = M := by omega
          have hge2 : ¬ (j : Int) < (M : Int) := by omega
          have HFI : Hid ((n0 + dif2 a (b.take j) : Nat) = differD a b) := by rw [HDF.out, hj2, List.take_of_length_le (by have := HM.out; omega)]; exact hid rfl
          rw [HFI.out]
          go_wp2_with fail
          go_ret
          exact ⟨rfl, HB.out⟩
end Go.Proofs.Ytifcgimpgbeocaa
