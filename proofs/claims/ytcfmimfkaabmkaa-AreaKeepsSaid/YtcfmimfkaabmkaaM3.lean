/- area.part, area.Get, area.Put. -/
import Derived.Test.YtcfmimfkaabmkaaM2
import Derived.Test.YtcfmimfkaabmkaaL1
set_option linter.unusedVariables false
set_option linter.unusedSimpArgs false
namespace Go.Proofs.Ytcfmimfkaabmkaa
open Go.RowKit
attribute [local go_sem] Oper.semAt_some
attribute [local irreducible] num
def PartPost (l : List UInt8) (at_ n : Int) (w : World) (e : Ending) (w' : World) : Prop :=
  (partC l at_ n = 0 → ∃ B, e = .returned (.tuple #[.slice (some ⟨B, 0, none⟩) l.length l.length, .int .i64 0]) ∧ Bytes w' B l ∧ w.heap.size ≤ B) ∧
  (partC l at_ n ≠ 0 → e = .returned (.tuple #[.slice none 0 0, .int .i64 (partC l at_ n)])) ∧ Below w.heap.size w w'
theorem part_ret {l : List UInt8} {at_ n : Int} {w w' : World} {c : Int} (hc : partC l at_ n = c) (h0 : c ≠ 0) (hb : Below w.heap.size w w') : PartPost l at_ n w (.returned (.tuple #[.slice none 0 0, .int .i64 c])) w' := by
  subst hc
  exact ⟨fun h => absurd h h0, fun _ => rfl, hb⟩
theorem part_ok {l : List UInt8} {at_ n : Int} {w w' : World} {B : Nat} (hc : partC l at_ n = 0) (hB : Bytes w' B l) (hw : w.heap.size ≤ B) (hb : Below w.heap.size w w') : PartPost l at_ n w (.returned (.tuple #[.slice (some ⟨B, 0, none⟩) l.length l.length, .int .i64 0])) w' :=
  ⟨fun _ => ⟨B, rfl, hB, hw⟩, fun h => absurd hc h, hb⟩
set_option maxHeartbeats 2000000 in
set_option maxRecDepth 100000 in
theorem part_any (l : List UInt8) (at_ n : Int) (w : World) (hl : l.length ≤ maxLen) : Calls Try.prog 80 #[.string ⟨l.toArray⟩, .int .i64 at_, .int .i64 n] w (PartPost l at_ n w) := by
  cases h : openS l with
  | false => exact (refuse_part l at_ n hl h w).mono fun e w' ⟨h1, h2⟩ => by rw [h1]; exact part_ret (by unfold partC; rw [h]; exact if_neg (by simp)) (by decide) h2
  | true =>
    have HO := hid (fun w => open_l l w hl)
    have hA := area_D h
    have HF := hid (fun b w hB => hfind_lay l (layD l) hA at_ b w hB)
    by_cases hn : n < 1
    · have hd : decide (n < 1) = true := by simpa using hn
      have HX : Hid (partC l at_ n = 1) := by unfold Hid partC; rw [if_pos h, if_pos hn]
      have HH := hid h; clear h hA
      go_enter Try.func80, Try.ntmps80
      go_wp2_with fail
      refine (HO.out _).mono ?_
      rintro e w1 ⟨hb1, hx⟩
      rw [HH.out, if_pos rfl] at hx
      obtain ⟨B, rfl, hB, hBl⟩ := hx
      have HB1 := hid hb1; clear hb1 hB hBl
      go_wp2_with fail
      go_ret2
      exact part_ret HX.out (by decide) HB1.out
    · have hd : decide (n < 1) = false := by simpa using hn
      rcases hf : findP (psOf (itsOf (layD l))) at_ with _ | ⟨q1, q2⟩
      · have HX : Hid (partC l at_ n = 122) := part_none h hn hf
        rw [hf] at HF
        have HH := hid h; clear h hf hA hn
        go_enter Try.func80, Try.ntmps80
        go_wp2_with fail
        refine (HO.out _).mono ?_
        rintro e w1 ⟨hb1, hx⟩
        rw [HH.out, if_pos rfl] at hx
        obtain ⟨B, rfl, hB, hBl⟩ := hx
        have HB1 := hid hb1; have HB := hid hB; clear hB hb1 hBl
        go_wp2_with fail
        refine (HF.out B _ HB.out).mono ?_
        rintro e w2 ⟨rfl, hb2⟩
        simp only [Option.getD_none]
        have HB2 := hid (below_step hb2 HB1.out); have hz := HB2.out.size; clear hb2
        go_wp2_with fail
        go_ret2
        exact part_ret HX.out (by decide) (HB2.out.alloc (by omega) _)
      · rw [hf] at HF
        have hin := findP_in hA hf
        have hq0 : q1 ≠ 0 := by have := hin.1; omega
        have hq1 : (q1 == 0) = false := by rw [beq_eq_false_iff_ne]; exact hq0
        have hps := part_some h hn hf
        obtain ⟨k0, k1, k2, k3, k4⟩ := hin
        have k5 := hA.2.1
        simp only at k0 k1 k2 k3 k4 hps
        by_cases hs : q1 + q2 - at_ < n
        all_goals
          first
            | have hd2 : decide (q1 + q2 - at_ < n) = true := by simpa using hs
            | have hd2 : decide (q1 + q2 - at_ < n) = false := by simpa using hs
          first
            | have HX : Hid (partC l at_ n = 122) := by unfold Hid; rw [hps, if_pos hs]
            | have HX : Hid (partC l at_ n = 0) := by unfold Hid; rw [hps, if_neg hs]
        all_goals
          have HH := hid h; clear h hf hA hn hps
          go_enter Try.func80, Try.ntmps80
          go_wp2_with fail
          refine (HO.out _).mono ?_
          rintro e w1 ⟨hb1, hx⟩
          rw [HH.out, if_pos rfl] at hx
          obtain ⟨B, rfl, hB, hBl⟩ := hx
          have HB1 := hid hb1; have HB := hid hB; clear hB hb1
          go_wp2_with fail
          refine (HF.out B _ HB.out).mono ?_
          rintro e w2 ⟨rfl, hb2⟩
          simp only [Option.getD_some]
          have HBB : Hid (Bytes w2 B l) := HB.out.below hb2 (HB.out.lt)
          have HB2 := hid (below_step hb2 HB1.out); have hz := HB2.out.size; clear hb2
          go_wp2_with fail
          go_ret2
          first
            | exact part_ret HX.out (by decide) (HB2.out.alloc (by omega) _)
            | exact part_ok HX.out (HBB.out.below ((Below.refl _ _).alloc (Nat.le_refl _) _) HBB.out.lt) hBl (HB2.out.alloc (by omega) _)
set_option maxHeartbeats 1000000 in
set_option maxRecDepth 100000 in
theorem get2_any (l : List UInt8) (at_ n : Int) (w : World) (hl : l.length ≤ maxLen) : Calls Try.prog 42 #[.string ⟨l.toArray⟩, .int .i64 at_, .int .i64 n] w (StrPost (getS l at_ n) w) := by
  have HP := hid (fun w => part_any l at_ n w hl)
  by_cases hc : partC l at_ n = 0
  · have HX : Hid (getS l at_ n = (sl l at_.toNat (at_ + n).toNat, 0)) := by unfold Hid getS; rw [if_pos hc]
    obtain ⟨k0, k1, k2, k3⟩ := part_in hc
    have HC := hid hc; clear hc
    obtain ⟨a, rfl⟩ := Int.eq_ofNat_of_zero_le (show 0 ≤ at_ by omega)
    obtain ⟨m, rfl⟩ := Int.eq_ofNat_of_zero_le (show 0 ≤ n by omega)
    go_enter Try.func42, Try.ntmps42
    go_wp2_with fail
    refine (HP.out _).mono ?_
    rintro e w1 ⟨hx, -, hb1⟩
    obtain ⟨B, rfl, hB, hBl⟩ := hx HC.out
    have HB1 := hid hb1; have HB := hid hB; clear hB hb1
    have hst := run_str_of 79 under79 w1 B a m (l.length - a) (sl l a (a + m)) (by rw [sl_length (by omega)]; omega) (fun i hi => by
      rw [HB.out.cell (by omega)]
      congr 2
      unfold byt sl
      rw [List.getElem?_take_of_lt (by omega), List.getElem?_drop])
    have hw : IntKind.i64.wrap ((a : Int) + (m : Int)) = ((a + m : Nat) : Int) := by rw [IntWalk.i64_in _ ⟨by omega, by omega⟩]; omega
    go_wp2_with fail
    go_ret2
    exact ⟨by rw [HX.out] <;> rfl, HB1.out⟩
  · have HX : Hid (getS l at_ n = ([], partC l at_ n)) := by unfold Hid getS; rw [if_neg hc]
    obtain ⟨c, hcc⟩ : ∃ c, partC l at_ n = c := ⟨_, rfl⟩
    rw [hcc] at HX hc
    have hc1 : (c == 0) = false := by rw [beq_eq_false_iff_ne]; exact hc
    have HC := hid hcc; have HN := hid hc; clear hc hcc
    go_enter Try.func42, Try.ntmps42
    go_wp2_with fail
    refine (HP.out _).mono ?_
    rintro e w1 ⟨-, hx, hb1⟩
    obtain rfl := hx (by rw [HC.out]; exact HN.out)
    have HB1 := hid hb1; clear hb1
    rw [HC.out]
    go_wp2_with fail
    go_ret2
    exact ⟨by rw [HX.out] <;> rfl, HB1.out⟩
set_option maxHeartbeats 1000000 in
set_option maxRecDepth 100000 in
theorem put_any (l : List UInt8) (at_ : Int) (s : List UInt8) (w : World) (hl : l.length ≤ maxLen) (hs : s.length ≤ maxLen) : Calls Try.prog 44 #[.string ⟨l.toArray⟩, .int .i64 at_, .string ⟨s.toArray⟩] w (StrPost (putS l at_ s) w) := by
  have HP := hid (fun w => part_any l at_ s.length w hl)
  by_cases hc : partC l at_ s.length = 0
  · have HX : Hid (putS l at_ s = (over l at_.toNat s, 0)) := by unfold Hid putS; rw [if_pos hc]
    obtain ⟨k0, k1, k2, k3⟩ := part_in hc
    have HC := hid hc; clear hc
    obtain ⟨a, rfl⟩ := Int.eq_ofNat_of_zero_le (show 0 ≤ at_ by omega)
    unfold maxLen at hs
    go_enter Try.func44, Try.ntmps44
    go_wp2_with fail
    refine (HP.out _).mono ?_
    rintro e w1 ⟨hx, -, hb1⟩
    obtain ⟨B, rfl, hB, hBl⟩ := hx HC.out
    obtain ⟨w2, hcp, hB2, hg2⟩ := run_copy_str w1 B a (l.length - a) (l.length - a) l ⟨s.toArray⟩ hB (by show s.length ≤ _; omega) (by show a + s.length ≤ _; omega)
    have hB2 : Bytes w2 B (over l a s) := hB2
    have hol : (over l a s).length = l.length := over_length _ _ _ (by omega)
    have hst := run_str79 w2 B l.length (over l a s) hB2
    rw [hol] at hst
    have hcut : cutAt B 0 a l.length = some ⟨B, a, none⟩ := by rw [cutAt_lt (len := l.length) (Nat.le_refl _) (by omega), Nat.zero_add]
    have HB2 : Hid (Below w.heap.size w w2) := below_grown hb1 hg2 hBl
    clear hB hb1 hB2 hg2 hol
    go_wp2_with fail
    go_ret2
    exact ⟨by rw [HX.out] <;> rfl, HB2.out⟩
  · have HX : Hid (putS l at_ s = ([], partC l at_ s.length)) := by unfold Hid putS; rw [if_neg hc]
    obtain ⟨c, hcc⟩ : ∃ c, partC l at_ s.length = c := ⟨_, rfl⟩
    rw [hcc] at HX hc
    have hc1 : (c == 0) = false := by rw [beq_eq_false_iff_ne]; exact hc
    have HC := hid hcc; have HN := hid hc; clear hc hcc
    unfold maxLen at hs
    go_enter Try.func44, Try.ntmps44
    go_wp2_with fail
    refine (HP.out _).mono ?_
    rintro e w1 ⟨-, hx, hb1⟩
    obtain rfl := hx (by rw [HC.out]; exact HN.out)
    have HB1 := hid hb1; clear hb1
    rw [HC.out]
    go_wp2_with fail
    go_ret2
    exact ⟨by rw [HX.out] <;> rfl, HB1.out⟩
end Go.Proofs.Ytcfmimfkaabmkaa
