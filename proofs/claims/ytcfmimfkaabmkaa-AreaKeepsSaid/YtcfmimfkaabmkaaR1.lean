/- texts (54): the bytes of the allocations of an area. -/
import Derived.Test.YtcfmimfkaabmkaaQ1
import Derived.Test.YtcfmimfkaabmkaaM5
import Derived.Test.YtcfmimfkaabmkaaN3
set_option linter.unusedVariables false
set_option linter.unusedSimpArgs false
namespace Go.Proofs.Ytcfmimfkaabmkaa
open Go.RowKit
attribute [local go_sem] Oper.semAt_some
attribute [local irreducible] num
/-- What Get gives at an allocation. -/
theorem get_at {l : List UInt8} {lay : Lay} (h : Area l lay) {i p : Nat} {s : List UInt8} (hi : lay[i]? = some (p, s)) (w : World) :
    Calls Try.prog 42 #[.string ⟨l.toArray⟩, .int .i64 (p : Int), .int .i64 (s.length : Int)] w (fun e w' => e = .returned (.tuple #[.string ⟨s.toArray⟩, .int .i64 0]) ∧ Below w.heap.size w w') := by
  have h1 := get2_any l (p : Int) (s.length : Int) w (by have := h.2.1; unfold maxLen; omega)
  rw [getS_at h hi] at h1
  exact h1
def TxtPost (bs : List (List UInt8)) (w : World) (e : Ending) (w' : World) : Prop := ∃ v, e = .returned (.tuple #[v, .bool true]) ∧ OS w' w.heap.size v bs ∧ Below w.heap.size w w'
set_option maxHeartbeats 2000000 in
set_option maxRecDepth 100000 in
theorem texts_any (l : List UInt8) (lay : Lay) (v : Value) (w : World) (hA : Area l lay) (hR : RP w v (psOf (itsOf lay))) :
    Calls Try.prog 54 #[.string ⟨l.toArray⟩, v] w (TxtPost (bsOf (itsOf lay)) w) := by
  obtain ⟨o, cap, rfl, hc⟩ := hR
  have HG := hid (fun i p s h W => get_at hA (i := i) (p := p) (s := s) h W)
  have hlen : (psOf (itsOf lay)).length = lay.length := by rw [psOf_its, List.length_map]
  have hml : lay.length ≤ 8192 := (area_num4 hA).2
  obtain ⟨m, hm⟩ : ∃ m, lay.length = m := ⟨_, rfl⟩
  rw [hlen]
  rw [hm] at hml ⊢
  have HM := hid hm
  have HC := hid hc; clear hc hlen hm
  have hbsl : ∀ k, k ≤ m → ((bsOf (itsOf lay)).take k).length ≤ 1000000 := fun k hk => by rw [List.length_take]; omega
  have HBL := hid hbsl; clear hbsl
  go_enter Try.func54, Try.ntmps54
  go_wp2_with fail
  have hos0 : OS (w.alloc (.cells #[] 9)) w.heap.size (.slice (some ⟨w.heap.size, 0, none⟩) 0 0) [] := os_new w w.heap.size (Nat.le_refl _)
  have HOS0 := hid hos0; clear hos0
  obtain ⟨W0, hW0⟩ : ∃ W0, w.alloc (.cells #[] 9) = W0 := ⟨_, rfl⟩
  have hb0 : Below w.heap.size w W0 := by rw [← hW0]; exact (Below.refl _ _).alloc (Nat.le_refl _) _
  have HBW := hid hb0
  have hz0 := hb0.size
  rw [hW0] at HOS0 ⊢
  clear hW0 hb0
  obtain ⟨B, hB⟩ : ∃ B, w.heap.size = B := ⟨_, rfl⟩
  rw [hB] at HOS0 hz0 ⊢
  go_loopw [6, 14] (fun v6 v14 wr => ∃ k : Nat, v14 = .int .i64 k ∧ k ≤ m ∧ B ≤ wr.heap.size ∧ Hid (OS wr B v6 ((bsOf (itsOf lay)).take k)) ∧ Hid (Below B w wr)) (fun _ p _ => m - (intOf p).toNat)
  case atStart => exact ⟨0, rfl, Nat.zero_le _, hz0, HOS0, by rw [← hB]; exact HBW.out⟩
  case round =>
    clear HOS0 hz0
    obtain ⟨k, rfl, hk, hzr, HOS, HB⟩ := hrel
    by_cases hlt : k < m
    · obtain ⟨⟨p, s⟩, hx⟩ : ∃ x, lay[k]? = some x := ⟨_, List.getElem?_eq_getElem (by have := HM.out; omega)⟩
      have hxp : (psOf (itsOf lay))[k]? = some ((p : Int), (s.length : Int)) := by rw [psOf_its, List.getElem?_map, hx]; rfl
      have hxs : (bsOf (itsOf lay))[k]? = some s := by rw [bsOf_its, List.getElem?_map, hx]; rfl
      rcases HC.out with hc | ⟨b, off, rfl, hbl, hc⟩
      · rw [hc] at hxp; simp at hxp
      obtain ⟨c0, c1⟩ := hc k _ hxp
      have c0 := keepB HB.out (by simp only; omega) c0
      have c1 := keepB HB.out (by simp only; omega) c1
      simp only at c0 c1
      have HGK := hid (fun W => HG.out k p s hx W)
      have HTS : Hid ((bsOf (itsOf lay)).take (k + 1) = (bsOf (itsOf lay)).take k ++ [s]) := take_snoc hxs
      clear hx hxp hxs hc
      go_wp2_with fail
      refine (HGK.out _).mono ?_
      rintro e w2 ⟨rfl, hb2⟩
      have hbr : Below wr.heap.size wr w2 := ((Below.refl wr.heap.size wr).alloc (Nat.le_refl _) _).trans (hb2.mono (by simp))
      have HB2 := hid (HB.out.trans (hbr.mono hzr))
      have HOS2 := hid (HOS.out.below hbr)
      have hz2 : B ≤ w2.heap.size := by have := hbr.size; omega
      have hln := HBL.out k hk
      clear hb2 hbr c0 c1
      go_upto_region 9 with (at_builtin; refine app_str rfl _ _ rfl B _ ((bsOf (itsOf lay)).take k) s _ _ rfl rfl (HOS2.out.below ((Below.refl _ _).alloc (Nat.le_refl _) _)) (cell_new _ _ _ 0 _ rfl) hln (by simp; omega) ?_)
      intro v7 w7 hos7 hg7
      rw [← HTS.out] at hos7
      have hz7 : B ≤ w7.heap.size := by have := hg7.size; simp at this; omega
      have HB7 : Hid (Below B w w7) := (HOS2.out.below ((Below.refl _ _).alloc (Nat.le_refl _) _)).grown (HB2.out.trans ((Below.refl B _).alloc hz2 _)) hg7 (by simp; omega)
      have HOS7 := hid hos7; clear hos7 hg7
      go_wp2_with fail
      go_roundw
      case rel => exact ⟨k + 1, by first | rfl | go_num, by omega, hz7, HOS7, HB7⟩
      case measure => simp [intOf]; omega
    · have hkm : k = m := by omega
      have HX : Hid (OS wr B u6 (bsOf (itsOf lay))) := by
        have h := HOS.out
        rw [List.take_of_length_le (by rw [bsOf_its, List.length_map, HM.out]; omega)] at h
        exact h
      go_wp2_with fail
      go_ret2
      unfold TxtPost
      rw [hB]
      exact ⟨_, rfl, HX.out, HB.out⟩
end Go.Proofs.Ytcfmimfkaabmkaa
