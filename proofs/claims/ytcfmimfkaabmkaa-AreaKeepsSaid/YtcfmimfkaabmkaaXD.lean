/- The walks of package pliantref12: Up, zeros, four. -/
import Derived.Test.YtcfmimfkaabmkaaXC
set_option linter.unusedVariables false
set_option linter.unusedSimpArgs false
namespace Go.Proofs.Ytcfmimfkaabmkaa
open Go.RowKit
attribute [local go_sem] Oper.semAt_some
theorem rup_any (n : Int) (w : World) (h0 : 0 ≤ n) (h1 : n ≤ 100000000000) : Calls Try.prog 67 #[.int .i64 n] w fun e w' => e = .returned (.int .i64 (upZ n)) ∧ w = w' := by
  have hw1 : IntKind.i64.wrap (n + 7) = n + 7 := IntWalk.i64_in _ ⟨by omega, by omega⟩
  have hw2 : IntKind.i64.wrap ((n + 7).tdiv 8) = (n + 7) / 8 := by rw [Int.tdiv_eq_ediv_of_nonneg (by omega)]; exact IntWalk.i64_in _ ⟨by omega, by omega⟩
  have hw3 : IntKind.i64.wrap ((n + 7) / 8 * 8) = (n + 7) / 8 * 8 := IntWalk.i64_in _ ⟨by omega, by omega⟩
  have hq : (n + 7).tdiv 8 = (n + 7) / 8 := Int.tdiv_eq_ediv_of_nonneg (by omega)
  go_enter Try.func67, Try.ntmps67
  go_wp2
  go_ret
  exact ⟨by first | rfl | (unfold upZ; rfl), rfl⟩
theorem run_make31 (w : World) (n : Nat) (hn : n ≤ 1000000) :
    (Instr.makeSlice 31 (.int .i64 (n : Int)) (.int .i64 (n : Int))).run Try.prog w = .ok (.slice (some ⟨w.heap.size, 0, none⟩) n n) (w.alloc (.cells (cellsB (List.replicate n 0)).toArray 5)) := by
  obtain ⟨i0, hi, hz0, hz1, hz2⟩ := info_parts info5
  have := run_make (P := Try.prog) w 31 5 i0 (.int .u8 0) under31 hi hz0 .i64 .i64 n n (by omega) (Int.le_refl _) (by rw [hz2]; omega) (by omega)
  rw [this]
  have e : madeCells (Value.int IntKind.u8 0).cells (n * 1) = (cellsB (List.replicate n 0)).toArray := by
    apply Array.ext'
    rw [Nat.mul_one, show (Value.int IntKind.u8 0).cells = #[.int .u8 0] from rfl, toList_madeCells_one, cellsB_replicate]
  rw [Int.toNat_natCast, hz1, e]
theorem run_str31 (w : World) (b cap : Nat) (l : List UInt8) (hB : Bytes w b l) : (convert 31 9 (.slice (some ⟨b, 0, none⟩) l.length cap)).run Try.prog w = .ok (.string ⟨l.toArray⟩) w :=
  run_str_of 31 under31 w b 0 l.length cap l rfl (fun i hi => by rw [Nat.zero_add]; exact hB.cell hi)
theorem rzeros_any (n : Nat) (w : World) (h1 : n ≤ 1000000) : Calls Try.prog 70 #[.int .i64 (n : Int)] w fun e w' => e = .returned (strV (zs n)) ∧ Below w.heap.size w w' := by
  have hm := run_make31 w n h1
  have hs := run_str31 (w.alloc (.cells (cellsB (List.replicate n 0)).toArray 5)) w.heap.size n (List.replicate n 0) (bytes_new w _)
  rw [List.length_replicate] at hs
  go_enter Try.func70, Try.ntmps70
  go_wp2
  go_ret
  exact ⟨rfl, (Below.refl _ _).alloc (Nat.le_refl _) _⟩
set_option maxRecDepth 20000 in
theorem rfour_any (n : Int) (w : World) (h0 : 0 ≤ n) (h1 : n ≤ 1000000000) : Calls Try.prog 77 #[.int .i64 n] w fun e w' => e = .returned (strV (four n.toNat)) ∧ Below w.heap.size w w' := by
  have hs : (convert 31 9 (.slice (some ⟨w.heap.size, 0, none⟩) 4 4)).run Try.prog (w.alloc (.cells #[.int .u8 (n / 16777216), .int .u8 (n / 65536 % 256), .int .u8 (n / 256 % 256), .int .u8 (n % 256)] 5)) =
      .ok (.string ⟨(four n.toNat).toArray⟩) (w.alloc (.cells #[.int .u8 (n / 16777216), .int .u8 (n / 65536 % 256), .int .u8 (n / 256 % 256), .int .u8 (n % 256)] 5)) := by
    obtain ⟨m, rfl⟩ := Int.eq_ofNat_of_zero_le h0
    have e0 : (m : Int) / 16777216 = (((UInt8.ofNat (m / 16777216)).toNat : Nat) : Int) := by have := u8_of ((m : Int) / 16777216) (m / 16777216) (by omega); omega
    have e1 : (m : Int) / 65536 % 256 = (((UInt8.ofNat (m / 65536)).toNat : Nat) : Int) := u8_of _ _ (by omega)
    have e2 : (m : Int) / 256 % 256 = (((UInt8.ofNat (m / 256)).toNat : Nat) : Int) := u8_of _ _ (by omega)
    have e3 : (m : Int) % 256 = (((UInt8.ofNat m).toNat : Nat) : Int) := u8_of _ _ rfl
    rw [e0, e1, e2, e3, Int.toNat_natCast]
    exact run_str31 _ w.heap.size 4 (four m) (bytes_new w (four m))
  go_enter Try.func77, Try.ntmps77
  go_wp2
  go_ret
  exact ⟨rfl, (Below.refl _ _).alloc (Nat.le_refl _) _⟩
end Go.Proofs.Ytcfmimfkaabmkaa
/- The walk of R.number. Printed by gen/rnum.py. -/
set_option linter.unusedVariables false
set_option linter.unusedSimpArgs false
namespace Go.Proofs.Ytcfmimfkaabmkaa
open Go.RowKit
attribute [local go_sem] Oper.semAt_some
theorem str_at (s : ByteArray) (j : Int) (kd : IntKind) (h0 : 0 ≤ j) (h1 : j < s.size) (w : World) : (Instr.index 9 (.string s) (.int kd j)).run Try.prog w = .ok (.int .u8 (byt s.data.toList j.toNat)) w := by
  rw [run_index_string (t := 9) (h := under9), dif_pos ⟨h0, h1⟩]
  have : byt s.data.toList j.toNat = ((s[j.toNat]'(by omega)).toNat : Int) := by
    unfold byt
    have hlt : j.toNat < s.data.toList.length := by rw [Array.length_toList]; show j.toNat < s.size; omega
    rw [List.getElem?_eq_getElem hlt]
    rfl
  rw [this]
set_option maxRecDepth 20000 in
theorem rnumber_any (s : ByteArray) (i : Int) (w : World) (h0 : 0 ≤ i) (h1 : i + 4 ≤ s.size) (h2 : s.size ≤ 8192) : Calls Try.prog 81 #[.string s, .int .i64 i] w fun e w' => e = .returned (.int .i64 (num s.data.toList i.toNat)) ∧ Below w.heap.size w w' := by
  have hw1 : IntKind.i64.wrap (i + 1) = i + 1 := IntWalk.i64_in _ ⟨by omega, by omega⟩
  have hw2 : IntKind.i64.wrap (i + 2) = i + 2 := IntWalk.i64_in _ ⟨by omega, by omega⟩
  have hw3 : IntKind.i64.wrap (i + 3) = i + 3 := IntWalk.i64_in _ ⟨by omega, by omega⟩
  have x0 := str_at s i .i64 h0 (by omega)
  have x1 := str_at s (i + 1) .i64 (by omega) (by omega)
  have x2 := str_at s (i + 2) .i64 (by omega) (by omega)
  have x3 := str_at s (i + 3) .i64 (by omega) (by omega)
  have HN : Hid (num s.data.toList i.toNat = byt s.data.toList i.toNat * 16777216 + byt s.data.toList (i + 1).toNat * 65536 + byt s.data.toList (i + 2).toNat * 256 + byt s.data.toList (i + 3).toNat) := by
    unfold Hid num; rw [show (i + 1).toNat = i.toNat + 1 by omega, show (i + 2).toNat = i.toNat + 2 by omega, show (i + 3).toNat = i.toNat + 3 by omega]
  have b0 := byt_bd s.data.toList i.toNat
  have b1 := byt_bd s.data.toList (i + 1).toNat
  have b2 := byt_bd s.data.toList (i + 2).toNat
  have b3 := byt_bd s.data.toList (i + 3).toNat
  generalize byt s.data.toList i.toNat = c0 at *
  generalize byt s.data.toList (i + 1).toNat = c1 at *
  generalize byt s.data.toList (i + 2).toNat = c2 at *
  generalize byt s.data.toList (i + 3).toNat = c3 at *
  rw [HN.out]
  clear HN
  go_enter Try.func81, Try.ntmps81
  go_wp2
  have u0 : IntKind.i64.wrap c0 = c0 := IntWalk.i64_in _ ⟨by omega, by omega⟩
  have u1 : IntKind.i64.wrap c1 = c1 := IntWalk.i64_in _ ⟨by omega, by omega⟩
  have u2 : IntKind.i64.wrap c2 = c2 := IntWalk.i64_in _ ⟨by omega, by omega⟩
  have u3 : IntKind.i64.wrap c3 = c3 := IntWalk.i64_in _ ⟨by omega, by omega⟩
  have v0 : IntKind.i64.wrap (c0 * 16777216) = c0 * 16777216 := IntWalk.i64_in _ ⟨by omega, by omega⟩
  have v1 : IntKind.i64.wrap (c1 * 65536) = c1 * 65536 := IntWalk.i64_in _ ⟨by omega, by omega⟩
  have v2 : IntKind.i64.wrap (c2 * 256) = c2 * 256 := IntWalk.i64_in _ ⟨by omega, by omega⟩
  have v3 : IntKind.i64.wrap (c0 * 16777216 + c1 * 65536) = c0 * 16777216 + c1 * 65536 := IntWalk.i64_in _ ⟨by omega, by omega⟩
  have v4 : IntKind.i64.wrap (c0 * 16777216 + c1 * 65536 + c2 * 256) = c0 * 16777216 + c1 * 65536 + c2 * 256 := IntWalk.i64_in _ ⟨by omega, by omega⟩
  have v5 : IntKind.i64.wrap (c0 * 16777216 + c1 * 65536 + c2 * 256 + c3) = c0 * 16777216 + c1 * 65536 + c2 * 256 + c3 := IntWalk.i64_in _ ⟨by omega, by omega⟩
  clear b0 b1 b2 b3
  refine (fun hm hB S hS h => wp_region_freeL S hm hB hS h) (by kernel_rfl) (by kernel_rfl) (fun L w' => Below w.heap.size w w') ((Below.refl w.heap.size w)).drew ?_
  refine wpFreeL_val rfl (fun _ _ _ h => h) (fun K hK => ?_); apply Exists.intro; refine ⟨fun L w' hS => ?_, ?_⟩; (have hb := hS; clear hS; go_simp; rfl); (go_simp; refine hK _ ?_; clear hK K)
  refine wpFreeL_val rfl (fun _ _ _ h => h) (fun K hK => ?_); apply Exists.intro; refine ⟨fun L w' hS => ?_, ?_⟩; (have hb := hS; clear hS; go_simp; rfl); (go_simp; refine hK _ ?_; clear hK K)
  refine wpFreeL_val rfl (fun _ _ _ h => h) (fun K hK => ?_); apply Exists.intro; refine ⟨fun L w' hS => ?_, ?_⟩; (have hb := hS; clear hS; go_simp; rfl); (go_simp; refine hK _ ?_; clear hK K)
  refine wpFreeL_val rfl (fun _ _ _ h => h) (fun K hK => ?_); apply Exists.intro; refine ⟨fun L w' hS => ?_, ?_⟩; (have hb := hS; clear hS; go_simp; rfl); (go_simp; refine hK _ ?_; clear hK K)
  refine wpFreeL_val rfl (fun _ _ _ h => h) (fun K hK => ?_); apply Exists.intro; refine ⟨fun L w' hS => ?_, ?_⟩; (have hb := hS; clear hS; go_simp; rfl); (go_simp; refine hK _ ?_; clear hK K)
  refine wpFreeL_val rfl (fun _ _ _ h => h) (fun K hK => ?_); apply Exists.intro; refine ⟨fun L w' hS => ?_, ?_⟩; (have hb := hS; clear hS; go_simp; rfl); (go_simp; refine hK _ ?_; clear hK K)
  refine wpFreeL_val rfl (fun _ _ _ h => h) (fun K hK => ?_); apply Exists.intro; refine ⟨fun L w' hS => ?_, ?_⟩; (have hb := hS; clear hS; go_simp; rfl); (go_simp; refine hK _ ?_; clear hK K)
  refine wpFreeL_val rfl (fun _ _ _ h => h) (fun K hK => ?_); apply Exists.intro; refine ⟨fun L w' hS => ?_, ?_⟩; (have hb := hS; clear hS; go_simp; rfl); (go_simp; refine hK _ ?_; clear hK K)
  refine wpFreeL_val rfl (fun _ _ _ h => h) (fun K hK => ?_); apply Exists.intro; refine ⟨fun L w' hS => ?_, ?_⟩; (have hb := hS; clear hS; go_simp; rfl); (go_simp; refine hK _ ?_; clear hK K)
  refine wpFreeL_val rfl (fun _ _ _ h => h) (fun K hK => ?_); apply Exists.intro; refine ⟨fun L w' hS => ?_, ?_⟩; (have hb := hS; clear hS; go_simp; rfl); (go_simp; refine hK _ ?_; clear hK K)
  refine wpFreeL_val rfl (fun _ _ _ h => h) (fun K hK => ?_); apply Exists.intro; refine ⟨fun L w' hS => ?_, ?_⟩; (have hb := hS; clear hS; go_simp; rfl); (go_simp; refine hK _ ?_; clear hK K)
  refine wpFreeL_val rfl (fun _ _ _ h => h) (fun K hK => ?_); apply Exists.intro; refine ⟨fun L w' hS => ?_, ?_⟩; (have hb := hS; clear hS; go_simp; rfl); (go_simp; refine hK _ ?_; clear hK K)
  refine wpFreeL_val rfl (fun _ _ _ h => h) (fun K hK => ?_); apply Exists.intro; refine ⟨fun L w' hS => ?_, ?_⟩; (have hb := hS; clear hS; go_simp; rfl); (go_simp; refine hK _ ?_; clear hK K)
  refine wpFreeL_val rfl (fun _ _ _ h => h) (fun K hK => ?_); apply Exists.intro; refine ⟨fun L w' hS => ?_, ?_⟩; (have hb := hS; clear hS; go_simp; rfl); (go_simp; refine hK _ ?_; clear hK K)
  refine wpFreeL_val rfl (fun _ _ _ h => h) (fun K hK => ?_); apply Exists.intro; refine ⟨fun L w' hS => ?_, ?_⟩; (have hb := hS; clear hS; go_simp; rfl); (go_simp; refine hK _ ?_; clear hK K)
  refine wpFreeL_val rfl (fun _ _ _ h => h) (fun K hK => ?_); apply Exists.intro; refine ⟨fun L w' hS => ?_, ?_⟩; (have hb := hS; clear hS; go_simp; rfl); (go_simp; refine hK _ ?_; clear hK K)
  refine wpFreeL_val rfl (fun _ _ _ h => h) (fun K hK => ?_); apply Exists.intro; refine ⟨fun L w' hS => ?_, ?_⟩; (have hb := hS; clear hS; go_simp; rfl); (go_simp; refine hK _ ?_; clear hK K)
  refine wpFreeL_val rfl (fun _ _ _ h => h) (fun K hK => ?_); apply Exists.intro; refine ⟨fun L w' hS => ?_, ?_⟩; (have hb := hS; clear hS; go_simp; rfl); (go_simp; refine hK _ ?_; clear hK K)
  refine wpFreeL_val rfl (fun _ _ _ h => h) (fun K hK => ?_); apply Exists.intro; refine ⟨fun L w' hS => ?_, ?_⟩; (have hb := hS; clear hS; go_simp; rfl); (go_simp; refine hK _ ?_; clear hK K)
  refine wpFreeL_val rfl (fun _ _ _ h => h) (fun K hK => ?_); apply Exists.intro; refine ⟨fun L w' hS => ?_, ?_⟩; (have hb := hS; clear hS; go_simp; rfl); (go_simp; refine hK _ ?_; clear hK K)
  refine wpFreeL_val rfl (fun _ _ _ h => h) (fun K hK => ?_); apply Exists.intro; refine ⟨fun L w' hS => ?_, ?_⟩; (have hb := hS; clear hS; go_simp; rfl); (go_simp; refine hK _ ?_; clear hK K)
  refine wpFreeL_val rfl (fun _ _ _ h => h) (fun K hK => ?_); apply Exists.intro; refine ⟨fun L w' hS => ?_, ?_⟩; (have hb := hS; clear hS; go_simp; rfl); (go_simp; refine hK _ ?_; clear hK K)
  refine wpFreeL_val rfl (fun _ _ _ h => h) (fun K hK => ?_); apply Exists.intro; refine ⟨fun L w' hS => ?_, ?_⟩; (have hb := hS; clear hS; go_simp; rfl); (go_simp; refine hK _ ?_; clear hK K)
  refine wpFreeL_val rfl (fun _ _ _ h => h) (fun K hK => ?_); apply Exists.intro; refine ⟨fun L w' hS => ?_, ?_⟩; (have hb := hS; clear hS; go_simp; rfl); (go_simp; refine hK _ ?_; clear hK K)
  refine wpFreeL_val rfl (fun _ _ _ h => h) (fun K hK => ?_); apply Exists.intro; refine ⟨fun L w' hS => ?_, ?_⟩; (have hb := hS; clear hS; go_simp; rfl); (go_simp; refine hK _ ?_; clear hK K)
  refine wpFreeL_val rfl (fun _ _ _ h => h) (fun K hK => ?_); apply Exists.intro; refine ⟨fun L w' hS => ?_, ?_⟩; (have hb := hS; clear hS; go_simp; rfl); (go_simp; refine hK _ ?_; clear hK K)
  refine wpFreeL_nil (fun L w' hL hS => ?_)
  have hb := hS
  clear hL hS
  go_wp2
  go_ret
  exact ⟨rfl, hb⟩
end Go.Proofs.Ytcfmimfkaabmkaa
/- What R.walk reads: a plain function, and its answer at the units of an area. -/
set_option linter.unusedVariables false
set_option linter.unusedSimpArgs false
namespace Go.Proofs.Ytcfmimfkaabmkaa
open Go.RowKit
attribute [local irreducible] num
def walkS (l : List UInt8) (en : Int) : Nat → Int → List (Int × List UInt8)
  | 0, _ => []
  | f + 1, a =>
    if 0 ≤ a ∧ a + 8 ≤ en ∧ en ≤ l.length then
      if num l a.toNat > l.length then []
      else if num l (a.toNat + 4) = 1 then
        if a + 8 + num l a.toNat > l.length then [] else (a + 8, sl l (a.toNat + 8) (a.toNat + 8 + (num l a.toNat).toNat)) :: walkS l en f (a + 8 + upZ (num l a.toNat))
      else walkS l en f (a + 8 + upZ (num l a.toNat))
    else []
def usedOf (l : List UInt8) (us : List (Int × Int × Int)) : List (Int × List UInt8) := (us.filter (fun u => u.2.2 == 1)).map (fun u => (u.1 + 8, sl l (u.1.toNat + 8) (u.1.toNat + 8 + u.2.1.toNat)))
theorem walkS_units {l : List UInt8} {en a : Int} {us : List (Int × Int × Int)} (h : UL l en a us) (hen : en ≤ l.length) : ∀ (f : Nat), (en - a).toNat < f → walkS l en f a = usedOf l us := by
  induction h with
  | nil h =>
    intro f hf
    obtain ⟨f, rfl⟩ : ∃ g, f = g + 1 := ⟨f - 1, by omega⟩
    unfold walkS
    rw [if_neg (by omega)]
    rfl
  | @cons a r h h0 h1 hr ih =>
    intro f hf
    obtain ⟨f, rfl⟩ : ∃ g, f = g + 1 := ⟨f - 1, by omega⟩
    have hb := num_bd l a.toNat
    have hp := upZ_bd (num l a.toNat) hb.1
    have hi := ih f (by omega)
    unfold walkS
    rw [if_pos ⟨by omega, by omega, hen⟩, if_neg (by omega)]
    by_cases hm : num l (a.toNat + 4) = 1
    · rw [if_pos hm, if_neg (by omega), hi]
      unfold usedOf
      rw [List.filter_cons_of_pos (by simp [hm]), List.map_cons]
    · rw [if_neg hm, hi]
      unfold usedOf
      rw [List.filter_cons_of_neg (by simp [hm])]
theorem usedOf_lay {l : List UInt8} : ∀ (lay : Lay) (b : Bool) (e : Nat) (pre post : List UInt8), e % 8 = 0 → pre.length = e → ok b e lay → l = pre ++ (enc e lay ++ post) → usedOf l (unitsOf e lay) = lay.map (fun x => ((x.1 : Int), x.2))
  | [], _, _, _, _, _, _, _, _ => rfl
  | (p, s) :: r, b, e, pre, post, he, hp, hok, hl => by
    have hg := gap_ok he hok
    have hu8 := upN_8 s.length
    have hub := upN_bd s.length
    obtain ⟨h1, h2, h3, h4, h5⟩ := hok
    have hpre : (pre ++ (gapB (p - 8 - e) ++ usedB s)).length = p + upN s.length := by
      rw [List.length_append, List.length_append, gapB_length _ hg, usedB_length]; omega
    have hl2 : l = (pre ++ (gapB (p - 8 - e) ++ usedB s)) ++ (enc (p + upN s.length) r ++ post) := by rw [hl, enc]; simp only [List.append_assoc]
    have ih := usedOf_lay (l := l) r false (p + upN s.length) (pre ++ (gapB (p - 8 - e) ++ usedB s)) post (by omega) hpre h5 hl2
    have hs : sl l p (p + s.length) = s := by
      have e1 : l = (pre ++ (gapB (p - 8 - e) ++ (four s.length ++ four 1))) ++ (s ++ (zs (upN s.length - s.length) ++ (enc (p + upN s.length) r ++ post))) := by
        rw [hl, enc]; unfold usedB; simp only [List.append_assoc]
      rw [e1]
      exact sl_mid (by simp only [List.length_append, four_length, gapB_length _ hg]; omega) rfl
    have hsplit : usedOf l (unitsOf e ((p, s) :: r)) = ((p : Int), s) :: usedOf l (unitsOf (p + upN s.length) r) := by
      have hcons : usedOf l ((((p - 8 : Nat) : Int), (s.length : Int), 1) :: unitsOf (p + upN s.length) r) = ((p : Int), s) :: usedOf l (unitsOf (p + upN s.length) r) := by
        unfold usedOf
        rw [List.filter_cons_of_pos (by simp), List.map_cons]
        simp only [Int.toNat_natCast]
        rw [show p - 8 + 8 = p by omega, hs, show ((p - 8 : Nat) : Int) + 8 = (p : Int) by omega]
      rw [unitsOf]
      split
      · exact hcons
      · rw [← hcons]; unfold usedOf; rw [List.singleton_append, List.filter_cons_of_neg (by simp)]
    rw [hsplit, ih, List.map_cons]
/-- R.walk at an area: its allocations. -/
theorem walkS_area {l : List UInt8} {lay : Lay} (h : Area l lay) (f : Nat) (hf : 8192 < f) : walkS l (8 + num l 0) f 8 = lay.map (fun x => ((x.1 : Int), x.2)) := by
  have hu := area_units h
  obtain ⟨h16, h81, hok, hend, ha⟩ := h
  rw [walkS_units hu.1 (by rw [hu.2]; omega) f (by rw [hu.2]; omega)]
  exact usedOf_lay lay true 8 (four (endOf 8 lay - 8) ++ four lay.length) (zs (l.length - endOf 8 lay)) rfl (by simp [four_length]) hok (ha.trans (by unfold render; simp only [List.append_assoc]))
end Go.Proofs.Ytcfmimfkaabmkaa
