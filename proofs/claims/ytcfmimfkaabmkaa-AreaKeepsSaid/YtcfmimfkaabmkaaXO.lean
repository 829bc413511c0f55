/- The walk of open: it copies the string, and goes through its units. -/
import Derived.Test.YtcfmimfkaabmkaaA4
import Derived.Test.YtcfmimfkaabmkaaXA
import Derived.OwnWalkIn
import Derived.TacticsInMore
import Derived.LoopNIn
import Derived.LoopIn
set_option linter.unusedVariables false
set_option linter.unusedSimpArgs false
namespace Go.Proofs.Ytcfmimfkaabmkaa
open Go.RowKit
attribute [local go_sem ↓] Go.wp_at_zero Go.wp_at_succ
/-- The loop of open: whether a gap lies ahead, how many allocations. -/
def openLoop : Nat → List UInt8 → Int → Int → Bool → Int → Option (Bool × Int)
  | 0, _, _, _, gap, n => some (gap, n)
  | f + 1, l, a, en, gap, n =>
    if a < en then
      if (wholeS l a en gap).2 then
        openLoop f l ((wholeS l a en gap).1.1 + 8 + upZ (wholeS l a en gap).1.2.1) en ((wholeS l a en gap).1.2.2 == 2) (if (wholeS l a en gap).1.2.2 == 2 then n else n + 1)
      else none
    else some (gap, n)
/-- Does open take these bytes for an area? -/
def openS (l : List UInt8) : Bool :=
  if l.length < 16 ∨ 8192 < l.length then false
  else if 8 + num l 0 > l.length then false
  else if (l.drop (8 + num l 0).toNat).all (· == 0) then
    match openLoop (8 + num l 0).toNat l 8 (8 + num l 0) false 0 with
    | some (gap, n) => !gap && n == num l 4
    | none => false
  else false
theorem upZ_pos (n : Int) (h : 0 ≤ n) : 0 ≤ upZ n := by have := upZ_bd n h; omega
/-- What is known of a unit that whole lets by. -/
theorem wholeS_ok (l : List UInt8) (a en : Int) (gap : Bool) (h : (wholeS l a en gap).2 = true) :
    (wholeS l a en gap).1.1 = a ∧ (wholeS l a en gap).1.2.1 = num l a.toNat ∧ (wholeS l a en gap).1.2.2 = num l (a.toNat + 4) ∧ a + 8 + upZ (num l a.toNat) ≤ en ∧ (num l (a.toNat + 4) = 1 ∨ num l (a.toNat + 4) = 2) := by
  unfold wholeS at h ⊢
  split at h
  · cases h
  · rename_i h1
    rw [if_neg h1]
    split at h
    · cases h
    · rename_i h2
      rw [if_neg h2]
      split at h
      · rename_i h3; rw [if_pos h3]; exact ⟨rfl, rfl, h3.symm, by omega, .inl h3⟩
      · rename_i h3
        rw [if_neg h3]
        split at h
        · rename_i h4; rw [if_pos h4]; exact ⟨rfl, rfl, h4.symm, by omega, .inr h4⟩
        · cases h
theorem openLoop_fuel (l : List UInt8) (en : Int) : ∀ (f g : Nat) (a : Int) (gap : Bool) (n : Int), (en - a).toNat ≤ f → (en - a).toNat ≤ g → openLoop f l a en gap n = openLoop g l a en gap n
  | 0, 0, _, _, _, _, _ => rfl
  | 0, g + 1, a, gap, n, hf, _ => by unfold openLoop; rw [if_neg (by omega)]
  | f + 1, 0, a, gap, n, _, hg => by unfold openLoop; rw [if_neg (by omega)]
  | f + 1, g + 1, a, gap, n, hf, hg => by
    unfold openLoop
    split
    · rename_i hlt
      split
      · rename_i hok
        obtain ⟨h1, h2, -, -, -⟩ := wholeS_ok l a en gap hok
        have hb := upZ_pos (num l a.toNat) (num_bd l a.toNat).1
        rw [h1, h2]
        exact openLoop_fuel l en f g _ _ _ (by omega) (by omega)
      · rfl
    · rfl
theorem openLoop_stop (l : List UInt8) (en : Int) (f : Nat) (a : Int) (gap : Bool) (n : Int) (h : ¬ a < en) : openLoop f l a en gap n = some (gap, n) := by
  cases f <;> unfold openLoop
  · rfl
  · rw [if_neg h]
theorem openLoop_bad (l : List UInt8) (en : Int) (a : Int) (gap : Bool) (n : Int) (h : a < en) (hb : (wholeS l a en gap).2 = false) : openLoop (en - a).toNat l a en gap n = none := by
  obtain ⟨f, hf⟩ : ∃ f, (en - a).toNat = f + 1 := ⟨(en - a).toNat - 1, by omega⟩
  rw [hf]; unfold openLoop; rw [if_pos h, if_neg (by rw [hb]; simp)]
theorem openLoop_step (l : List UInt8) (en : Int) (a : Int) (gap : Bool) (n : Int) (h : a < en) (hb : (wholeS l a en gap).2 = true) :
    openLoop (en - a).toNat l a en gap n = openLoop (en - (a + 8 + upZ (num l a.toNat))).toNat l (a + 8 + upZ (num l a.toNat)) en (num l (a.toNat + 4) == 2) (if num l (a.toNat + 4) == 2 then n else n + 1) := by
  obtain ⟨f, hf⟩ : ∃ f, (en - a).toNat = f + 1 := ⟨(en - a).toNat - 1, by omega⟩
  obtain ⟨h1, h2, h3, -, -⟩ := wholeS_ok l a en gap hb
  have hp := upZ_pos (num l a.toNat) (num_bd l a.toNat).1
  rw [hf]; conv => lhs; unfold openLoop
  rw [if_pos h, if_pos hb, h1, h2, h3]
  exact openLoop_fuel l en _ _ _ _ _ (by omega) (by omega)
def OpenPost (l : List UInt8) (w : World) (e : Ending) (w' : World) : Prop :=
  Below w.heap.size w w' ∧
  if openS l then ∃ B, e = .returned (.tuple #[.slice (some ⟨B, 0, none⟩) l.length l.length, .bool true]) ∧ Bytes w' B l ∧ w.heap.size ≤ B
  else ∃ o n c, e = .returned (.tuple #[.slice o n c, .bool false])
set_option maxHeartbeats 1000000 in
theorem open_size (s : ByteArray) (w : World) (h : s.size < 16 ∨ 8192 < s.size) (hs : s.size ≤ maxLen) : Calls Try.prog 58 #[.string s] w (OpenPost s.data.toList w) := by
  have e : openS s.data.toList = false := by unfold openS; rw [if_pos (by rw [Array.length_toList]; exact h)]
  have hfin : ∀ W, Below w.heap.size w W → OpenPost s.data.toList w (.returned (.tuple #[.slice none 0 0, .bool false])) W := fun W hW => ⟨hW, by rw [e]; exact ⟨_, _, _, rfl⟩⟩
  have HF := hid hfin; clear hfin e
  unfold maxLen at hs
  rcases h with h | h
  · go_enter Try.func58, Try.ntmps58
    go_wp2_with fail
    go_ret2
    exact HF.out _ (Below.refl _ _)
  · have h' : ¬ s.size < 16 := by omega
    go_enter Try.func58, Try.ntmps58
    go_wp2_with fail
    go_ret2
    exact HF.out _ (Below.refl _ _)
set_option maxHeartbeats 1000000 in
set_option maxRecDepth 100000 in
theorem open_head (s : ByteArray) (w : World) (h0 : 16 ≤ s.size) (h1 : s.size ≤ 8192) : Calls Try.prog 58 #[.string s] w (OpenPost s.data.toList w) := by
  have hlen : s.data.toList.length = s.size := by rw [Array.length_toList]; rfl
  generalize hl : s.data.toList = l at hlen
  have HL := hid hl; clear hl
  have HLen := hid hlen; clear hlen
  have hn0 := num_bd l 0
  obtain ⟨Z, hZ⟩ : ∃ Z : Array Value, Z = (cellsB (List.replicate s.size 0)).toArray := ⟨_, rfl⟩
  have hmk := fun w' => run_make79 w' s.size (by omega)
  rw [← hZ] at hmk
  have hB0 : Bytes (w.alloc (.cells Z 5)) w.heap.size (List.replicate s.size 0) := by rw [hZ]; exact bytes_new _ _
  obtain ⟨w1, hcp, hB1, hg1⟩ := run_copy_str _ _ 0 s.size s.size _ s hB0 (Nat.le_refl _) (by simp)
  have hw1 : Below w.heap.size w w1 := ((Below.refl w.heap.size w).alloc (Nat.le_refl _) _).grown hg1 (by simp) (fun k e => by cases e; exact Nat.le_refl _)
  have hov : over (List.replicate s.size 0) 0 s.data.toList = l := by
    rw [HL.out]; unfold over; rw [HLen.out]; simp [← HLen.out]
  rw [hov] at hB1
  have HB1 := hid hB1
  have HW1 := hid hw1
  clear hZ hB0 hg1 hov hB1 hw1
  go_enter Try.func58, Try.ntmps58
  go_wp2_with fail
  refine (hend_any _ _ _ l _ HB1.out HLen.out (by omega) (Nat.le_refl _) (by omega)).mono ?_
  rintro e w' ⟨rfl, rfl⟩
  generalize hx : num l 0 = x at *
  have HX := hid hx; clear hx
  clear hmk hcp
  by_cases hbig : 8 + x > s.size
  · go_wp2_with fail
    have e : openS l = false := by unfold openS; rw [if_neg (by rw [HLen.out]; omega), if_pos (by rw [HX.out, HLen.out]; omega)]
    refine bodyPost_ret (v := .tuple #[.slice none 0 0, .bool false]) (by simp [results, Try.results58, go_sem]) rfl ⟨HW1.out, ?_⟩
    rw [e]
    exact ⟨_, _, _, rfl⟩
  have hd : decide ((s.size : Int) < 8 + x) = false := by simp; omega
  have hx1 : 0 ≤ x := by omega
  have hx2 : x ≤ 8184 := by omega
  have hz1 : 0 ≤ 8 + x := by omega
  have hz2 : 8 + x ≤ s.size := by omega
  clear hbig hn0
  go_wp2_with fail
  refine (zero_any _ w.heap.size (8 + x).toNat _ _ (l.drop (8 + x).toNat) _ (fun h => by rw [cutAt_lt (Nat.le_refl s.size) h, Nat.zero_add]) (by rw [List.length_drop, HLen.out]) (by omega)
    (fun i hi => by have h := HB1.out.cell (i := (8 + x).toNat + i) (by rw [HLen.out]; omega); rw [h]; unfold byt; rw [List.getElem?_drop])).mono ?_
  rintro e w' ⟨rfl, rfl⟩
  have HS : Hid (openS l = if (l.drop (8 + x).toNat).all (· == 0) then (match openLoop (8 + x).toNat l 8 (8 + x) false 0 with | some (gap, n) => !gap && n == num l 4 | none => false) else false) := by
    unfold openS Hid; rw [if_neg (by rw [HLen.out]; omega), HX.out, if_neg (by rw [HLen.out]; omega)]
  generalize hzb : (l.drop (8 + x).toNat).all (· == 0) = zb at *
  clear hzb
  cases zb with
  | false =>
    go_wp2_with fail
    refine bodyPost_ret (v := .tuple #[.slice none 0 0, .bool false]) (by simp [results, Try.results58, go_sem]) rfl ⟨HW1.out, ?_⟩
    rw [HS.out]
    exact ⟨_, _, _, rfl⟩
  | true =>
    have HS' : Hid (openS l = match openLoop (8 + x).toNat l 8 (8 + x) false 0 with | some (gap, n) => !gap && n == num l 4 | none => false) := by have h := HS.out; rw [if_pos rfl] at h; exact h
    clear HS
    go_wp2_with fail
    go_loopw [6, 7, 8] (fun g m p wr => ∃ (gap : Bool) (n a : Int), g = .bool gap ∧ m = .int .i64 n ∧ p = .int .i64 a ∧ 8 ≤ a ∧ a ≤ max (8 + x) 8 ∧ 0 ≤ n ∧ n ≤ a ∧
        Hid (openLoop (8 + x - 8).toNat l 8 (8 + x) false 0 = openLoop (8 + x - a).toNat l a (8 + x) gap n) ∧ Below w1.heap.size w1 wr)
      (fun _ _ p _ => (9000 - intOf p).toNat)
    case atStart => exact ⟨false, 0, 8, rfl, rfl, rfl, by omega, by omega, by omega, by omega, rfl, Below.refl _ _⟩
    case round =>
      obtain ⟨gap, n, a, rfl, rfl, rfl, ha0, ha1, hn0, hn1, HL1, hbr⟩ := hrel
      have HBR := hid hbr; clear hbr
      by_cases hlt : a < 8 + x
      · go_wp2_with fail
        refine (whole_any _ _ _ l _ _ _ _ (HB1.out.below HBR.out HB1.out.lt) HLen.out (by omega) (by omega) (by omega) (by omega) (Nat.le_refl _) (by omega)).mono ?_
        rintro e w2 ⟨rfl, hb2⟩
        have HB2 := hid hb2; clear hb2
        cases hok : (wholeS l a (8 + x) gap).2 with
        | false =>
          have HN := hid (openLoop_bad l (8 + x) a gap n hlt hok)
          clear hok
          generalize wholeS l a (8 + x) gap = r
          go_wp2_with fail
          refine bodyPost_ret (v := .tuple #[.slice none 0 0, .bool false]) (by simp [results, Try.results58, go_sem]) rfl ⟨?_, ?_⟩
          · exact HW1.out.trans ((HBR.out.mono HW1.out.size).trans ((below_step HB2.out (Below.refl _ _)).mono (by have := HW1.out.size; have := HBR.out.size; omega)) |>.alloc (by have := HW1.out.size; have := HBR.out.size; have := HB2.out.size; omega) _)
          · rw [HS'.out, show (8 + x).toNat = (8 + x - 8).toNat + 8 by omega, openLoop_fuel l (8 + x) _ (8 + x - 8).toNat 8 false 0 (by omega) (Nat.le_refl _), HL1.out, HN.out]
            exact ⟨_, _, _, rfl⟩
        | true =>
          obtain ⟨h1, h2, h3, h4, h5⟩ := wholeS_ok l a (8 + x) gap hok
          have HN := hid (openLoop_step l (8 + x) a gap n hlt hok)
          rw [h1, h2, h3]
          clear hok h1 h2 h3
          have hs0 := num_bd l a.toNat
          have hu := upZ_bd (num l a.toNat) hs0.1
          generalize num l a.toNat = s' at *
          generalize num l (a.toNat + 4) = m' at *
          obtain ⟨hs0, hs1⟩ := hs0
          have fin : ∀ w3, Below w2.heap.size w2 w3 → Below w1.heap.size w1 w3 := fun w3 h3 => (below_step h3 (below_step HB2.out HBR.out))
          have HF := hid fin; clear fin
          rcases h5 with rfl | rfl
          · go_wp2_with fail
            refine (end_any _ _ _ _ (by omega) (by omega) (by omega) (by omega)).mono ?_
            rintro e w3 ⟨rfl, hb3⟩
            have HB3 := hid hb3; clear hb3
            go_wp2_with fail
            go_roundw
            case rel => exact ⟨false, n + 1, a + 8 + upZ s', rfl, rfl, rfl, by omega, by omega, by omega, by omega, HL1.out.trans HN.out, HF.out _ (((Below.refl w2.heap.size w2).alloc (Nat.le_refl _) _).trans (HB3.out.mono (by simp)))⟩
            case measure => simp [intOf]; omega
          · go_wp2_with fail
            refine (end_any _ _ _ _ (by omega) (by omega) (by omega) (by omega)).mono ?_
            rintro e w3 ⟨rfl, hb3⟩
            have HB3 := hid hb3; clear hb3
            go_wp2_with fail
            go_roundw
            case rel => exact ⟨true, n, a + 8 + upZ s', rfl, rfl, rfl, by omega, by omega, by omega, by omega, HL1.out.trans HN.out, HF.out _ (((Below.refl w2.heap.size w2).alloc (Nat.le_refl _) _).trans (HB3.out.mono (by simp)))⟩
            case measure => simp [intOf]; omega
      · have HN := hid (openLoop_stop l (8 + x) (8 + x - a).toNat a gap n hlt)
        have HE : Hid (openS l = (!gap && n == num l 4)) := by
          unfold Hid
          rw [HS'.out, show (8 + x).toNat = (8 + x - 8).toNat + 8 by omega, openLoop_fuel l (8 + x) _ (8 + x - 8).toNat 8 false 0 (by omega) (Nat.le_refl _), HL1.out, HN.out]
        have fin : Below w.heap.size w wr := HW1.out.trans (HBR.out.mono HW1.out.size)
        have HF := hid fin; clear fin
        cases gap with
        | true =>
          go_wp2_with fail
          refine bodyPost_ret (v := .tuple #[.slice (some ⟨w.heap.size, 0, none⟩) s.size s.size, .bool false]) (by simp [results, Try.results58, go_sem]) rfl ⟨HF.out, ?_⟩
          rw [HE.out]
          exact ⟨_, _, _, rfl⟩
        | false =>
          go_wp2_with fail
          refine (get_any _ _ _ l _ _ (HB1.out.below HBR.out HB1.out.lt) HLen.out (by omega) (by omega) (Nat.le_refl _) (by omega)).mono ?_
          rintro e w2 ⟨rfl, rfl⟩
          rw [show (4 : Int).toNat = 4 from rfl]
          generalize num l 4 = c at *
          go_wp2_with fail
          refine bodyPost_ret (v := .tuple #[.slice (some ⟨w.heap.size, 0, none⟩) s.size s.size, .bool (n == c)]) (by simp [results, Try.results58, go_sem]) rfl ⟨HF.out, ?_⟩
          rw [HE.out]
          cases hnc : (n == c) with
          | true => exact ⟨_, by rw [HLen.out], HB1.out.below HBR.out HB1.out.lt, Nat.le_refl _⟩
          | false => exact ⟨_, _, _, rfl⟩
theorem open_any (s : ByteArray) (w : World) (hs : s.size ≤ maxLen) : Calls Try.prog 58 #[.string s] w (OpenPost s.data.toList w) := by
  by_cases h : s.size < 16 ∨ 8192 < s.size
  · exact open_size s w h hs
  · exact open_head s w (by omega) (by omega)
end Go.Proofs.Ytcfmimfkaabmkaa
/- The walk of the iterator (heap).units$1: it gives the units, one by one. -/
set_option linter.unusedVariables false
set_option linter.unusedSimpArgs false
namespace Go.Proofs.Ytcfmimfkaabmkaa
open Go.RowKit
attribute [local go_sem] Oper.semAt_some
/-- The units of raw bytes from a on, up to en. -/
inductive UL (l : List UInt8) (en : Int) : Int → List (Int × Int × Int) → Prop
  | nil {a : Int} (h : ¬ a < en) : UL l en a []
  | cons {a : Int} {r : List (Int × Int × Int)} (h : a < en) (h0 : 8 ≤ a) (h1 : a + 8 + upZ (num l a.toNat) ≤ en) (hr : UL l en (a + 8 + upZ (num l a.toNat)) r) : UL l en a ((a, num l a.toNat, num l (a.toNat + 4)) :: r)
def encU (u : Int × Int × Int) : Array Value := #[.agg #[.int .i64 u.1, .int .i64 u.2.1, .int .i64 u.2.2]]
/-- What the iterator reads between two rounds. -/
def Reads (b Bh : Nat) (l : List UInt8) (W : World) : Prop := Bytes W b l ∧ W.cell? ⟨Bh, 0, none⟩ = some (.slice (some ⟨b, 0, none⟩) l.length l.length)
theorem drop_step {l : List UInt8} {en a : Int} {us r : List (Int × Int × Int)} {u : Int × Int × Int} {k : Nat} (h : us.drop k = u :: r) (hr : UL l en a r) : k + 1 ≤ us.length ∧ UL l en a (us.drop (k + 1)) := by
  have h3 : k < us.length := by
    rcases Nat.lt_or_ge k us.length with h3 | h3
    · exact h3
    · rw [List.drop_eq_nil_of_le h3] at h; cases h
  refine ⟨h3, ?_⟩
  have : us.drop (k + 1) = (us.drop k).drop 1 := by rw [List.drop_drop]
  rw [this, h]
  exact hr
set_option maxHeartbeats 1000000 in
set_option maxRecDepth 100000 in
theorem units_seq (b Bh : Nat) (l : List UInt8) (us : List (Int × Int × Int)) (hu : UL l (8 + num l 0) 8 us) (h1 : 16 ≤ l.length) (h2 : l.length ≤ 8192) (h3 : 8 + num l 0 ≤ l.length) :
    SeqL Try.prog 84 #[.pointer (some ⟨Bh, 0, none⟩)] (us.map encU) (Reads b Bh l) := by
  intro n0 lp J Jx W hn0 hJ hJx hR hY h0
  have HY := hid hY
  have HJ0 := hid hJ
  have HJx0 := hid hJx
  have HR := hid hR
  clear hY hJ hJx hR
  refine callsIn_of_wp Try.func84 rfl trivial ?_ rfl
  simp only [Try.ntmps84, List.size_toArray, List.length_cons, List.length_nil, Nat.reduceAdd, Nat.reduceSub, Array.replicate_succ, Array.replicate_zero, List.push_toArray, List.append_toArray, List.nil_append, List.cons_append]
  gi_wp2
  gi_loopw [3] (fun p wr => ∃ (k : Nat) (a : Int), p = .int .i64 a ∧ 8 ≤ a ∧ a ≤ 8192 ∧ Hid (k ≤ us.length ∧ UL l (8 + num l 0) a (us.drop k)) ∧ Hid (J k wr) ∧ n0 ≤ wr.heap.size)
    (fun p wr => (9000 - intOf p).toNat)
  case atStart => exact ⟨0, 8, rfl, by omega, by omega, ⟨Nat.zero_le _, hu⟩, h0, hn0⟩
  case round =>
    obtain ⟨k, a, rfl, ha0, ha1, HU, HJ, hn0r⟩ := hrel
    have hr := HR.out k wr HJ.out
    have HB := hid hr.1
    have hc := hr.2
    clear hr
    have hnm := num_bd l 0
    have hlen : l.length ≤ 1000000 := by omega
    gi_wp2_with fail
    refine ⟨trivial, rfl, ?_⟩
    refine (callsIn_wide.2 (hend_any _ _ _ l _ HB.out rfl (by omega) (Nat.le_refl _) hlen)).mono ?_
    rintro e w' ⟨rfl, rfl⟩
    by_cases hlt : a < 8 + num l 0
    · have HX : ∃ r, Hid (us.drop k = (a, num l a.toNat, num l (a.toNat + 4)) :: r ∧ a + 8 + upZ (num l a.toNat) ≤ 8 + num l 0 ∧ UL l (8 + num l 0) (a + 8 + upZ (num l a.toNat)) r) := by
        have h := HU.out.2
        generalize hd : us.drop k = d at h
        cases h with
        | nil h => exact absurd hlt h
        | cons h h0 h1 hr => exact ⟨_, rfl, h1, hr⟩
      obtain ⟨r, HX⟩ := HX
      have hb8 : a + 8 + upZ (num l a.toNat) ≤ 8 + num l 0 := HX.out.2.1
      have hs0 := num_bd l a.toNat
      have hup := upZ_bd (num l a.toNat) hs0.1
      have hq0 := num_bd l (a.toNat + 4)
      obtain ⟨hs0, hs1⟩ := hs0
      have HG1 := fun (w' : World) (h : Bytes w' b l) => get_any b l.length l.length l a w' h rfl (by omega) (by omega) (Nat.le_refl _) hlen
      have HG2 := fun (w' : World) (h : Bytes w' b l) => get_any b l.length l.length l (a + 4) w' h rfl (by omega) (by omega) (Nat.le_refl _) hlen
      rw [show (a + 4).toNat = a.toNat + 4 by omega] at HG2
      generalize hsz : num l a.toNat = s at *
      generalize hmk : num l (a.toNat + 4) = m at *
      have HG1 := hid HG1
      have HG2 := hid HG2
      have Hsz := hid hsz; clear hsz
      have Hmk := hid hmk; clear hmk
      have hw4 : IntKind.i64.wrap (a + 4) = a + 4 := IntWalk.i64_in _ ⟨by omega, by omega⟩
      gi_wp2_with fail
      refine wpIn_region_freeL open_wide (by kernel_rfl) (by kernel_rfl) (fun L w' => Below wr.heap.size wr w' ∧ w'.heap.size = wr.heap.size + (if L 9 then 1 else 0) ∧ (L 9 = true → OwnC w' ⟨wr.heap.size, 0, none⟩ ∧ OwnC w' ⟨wr.heap.size, 1, none⟩ ∧ OwnC w' ⟨wr.heap.size, 2, none⟩) ∧ (L 10 = true → w'.cell? ⟨wr.heap.size, 0, none⟩ = some (.int .i64 a) ∧ w'.cell? ⟨wr.heap.size, 1, none⟩ = some (.int .i64 s) ∧ w'.cell? ⟨wr.heap.size, 2, none⟩ = some (.int .i64 m))) ⟨(Below.refl _ _).drew, by simp, by simp, by simp⟩ ?_
      refine wpFreeL_val rfl (fun _ _ _ h => h) (fun K hK => ?_); apply Exists.intro; refine ⟨fun L w' hS => ?_, ?_⟩; (have hb := hS.1; have g0 := keepc hb hc; clear hS; go_simp; rfl); (go_simp; refine hK _ ?_; clear hK K)
      refine wpFreeL_val rfl (fun _ _ _ h => h) (fun K hK => ?_); apply Exists.intro; refine ⟨fun L w' hS => ?_, ?_⟩; (have hb := hS.1; have g0 := keepc hb hc; clear hS; go_simp; rfl); (go_simp; refine hK _ ?_; clear hK K)
      refine wpFreeL_val rfl (fun _ _ _ h => h) (fun K hK => ?_); apply Exists.intro; refine ⟨fun L w' hS => ?_, ?_⟩; (have hb := hS.1; have g0 := keepc hb hc; clear hS; go_simp; rfl); (go_simp; refine hK _ ?_; clear hK K)
      refine wpFreeL_gen rfl (fun K hK => ?_); apply Exists.intro; refine ⟨fun L w' _ hL _ hS => ?_, ?_⟩
      · have hb := hS.1; have g0 := keepc hb hc; go_simp; refine (HG1.out _ (HB.out.below hb HB.out.lt)).mono ?_; rintro e w1 ⟨rfl, rfl⟩; exact ⟨rfl, hS⟩
      go_simp; refine hK _ ?_; clear hK K
      refine wpFreeL_val rfl (fun _ _ _ h => h) (fun K hK => ?_); apply Exists.intro; refine ⟨fun L w' hS => ?_, ?_⟩; (have hb := hS.1; have g0 := keepc hb hc; clear hS; go_simp; rfl); (go_simp; refine hK _ ?_; clear hK K)
      refine wpFreeL_val rfl (fun _ _ _ h => h) (fun K hK => ?_); apply Exists.intro; refine ⟨fun L w' hS => ?_, ?_⟩; (have hb := hS.1; have g0 := keepc hb hc; clear hS; go_simp; rfl); (go_simp; refine hK _ ?_; clear hK K)
      refine wpFreeL_val rfl (fun _ _ _ h => h) (fun K hK => ?_); apply Exists.intro; refine ⟨fun L w' hS => ?_, ?_⟩; (have hb := hS.1; have g0 := keepc hb hc; clear hS; go_simp; rfl); (go_simp; refine hK _ ?_; clear hK K)
      refine wpFreeL_gen rfl (fun K hK => ?_); apply Exists.intro; refine ⟨fun L w' _ hL _ hS => ?_, ?_⟩
      · have hb := hS.1; have g0 := keepc hb hc; go_simp; refine (HG2.out _ (HB.out.below hb HB.out.lt)).mono ?_; rintro e w1 ⟨rfl, rfl⟩; exact ⟨rfl, hS⟩
      go_simp; refine hK _ ?_; clear hK K
      refine wpFreeL_val rfl (fun _ _ _ h => h) (fun K hK => ?_); apply Exists.intro; refine ⟨fun L w' hS => ?_, ?_⟩; (have hb := hS.1; have g0 := keepc hb hc; clear hS; go_simp; rfl); (go_simp; refine hK _ ?_; clear hK K)
      refine wpFreeL_gen rfl (fun K hK => ?_); refine ⟨.pointer (some ⟨wr.heap.size, 0, none⟩), fun L w' _ hL _ hS => ?_, ?_⟩
      · have hb := hS.1; have hz := hS.2.1; have hs := hS.2.2.2; clear hS
        rw [hL] at hz; rw [if_neg (by simp), Nat.add_zero] at hz
        have hno : L 10 = true → False := fun h => by have h1 := (hs h).1; have := World.block_lt_of_cell? _ _ h1; simp only at this; omega
        clear hs
        go_simp
        refine ⟨rfl, ⟨hb.alloc (by omega) _, ?_, ?_, ?_⟩⟩
        · simp [hz, addTo]
        · intro _; rw [← hz]; refine ⟨ownc_new _ _ _ 0 (by decide), ownc_new _ _ _ 1 (by decide), ownc_new _ _ _ 2 (by decide)⟩
        · intro h; exact (hno h).elim
      go_simp; refine hK _ ?_; clear hK K
      refine wpFreeL_gen rfl (fun K hK => ?_); refine ⟨undef, fun L w' _ hL hdep hS => ?_, ?_⟩
      · have hb := hS.1; have hz := hS.2.1; have ho := hS.2.2.1; clear hS
        have hal : L 9 = true := (hdep ⟨9, .data⟩ (by simp) rfl)
        have hoo := ho hal; have o0 := hoo.1; have o1 := hoo.2.1; have o2 := hoo.2.2
        have o0' := o0; obtain ⟨⟨u0, e0⟩, f0⟩ := o0'
        have o1' := o1; obtain ⟨⟨u1, e1⟩, f1⟩ := o1'
        have o2' := o2; obtain ⟨⟨u2, e2⟩, f2⟩ := o2'
        go_simp
        refine ⟨rfl, ⟨(((hb.setCell (Nat.le_refl _) _).setCell (Nat.le_refl _) _).setCell (Nat.le_refl _) _), ?_, ?_, ?_⟩⟩
        · simpa [World.setCell, addTo] using hz
        · intro _; exact ⟨(((o0.set _ _).set _ _).set _ _), (((o1.set _ _).set _ _).set _ _), (((o2.set _ _).set _ _).set _ _)⟩
        · intro _; exact ⟨by go_simp, by go_simp, by go_simp⟩
      go_simp; refine hK _ ?_; clear hK K
      refine wpFreeL_nil (fun L w' hL hS => ?_)
      have hb := hS.1; have hz := hS.2.1; have ho := hS.2.2.1; have hs := hS.2.2.2; clear hS
      have hal := hL 9 (by decide); have hst := hL 10 (by decide)
      rw [hal, if_pos rfl] at hz
      have hss := hs hst; have r0 := hss.1; have r1 := hss.2.1; have r2 := hss.2.2
      have hoo := ho hal; have o0 := hoo.1; have o1 := hoo.2.1; have o2 := hoo.2.2
      clear hL hs ho hal hst hss hoo
      obtain ⟨W1, hW1⟩ : ∃ W1, W1 = w' := ⟨_, rfl⟩
      subst hW1
      have hJ1 : J k W1 := HJ0.out k wr W1 HJ.out (below_grow hb none)
      have hkx : (us.map encU)[k]? = some (encU (a, s, m)) := by
        have h := HX.out.1
        rw [List.getElem?_map]
        have : us[k]? = some (a, s, m) := by
          have h2 : (us.drop k)[0]? = some (a, s, m) := by rw [h]; rfl
          rwa [List.getElem?_drop, Nat.add_zero] at h2
        rw [this]; rfl
      obtain ⟨fn, tmps, assign, body, hy, hRd⟩ := HY.out k _ W1 hkx hJ1
      simp only [encU] at hy
      have hbh : Bh < wr.heap.size := World.block_lt_of_cell? _ _ hc
      have HX2 := HX
      have hlt2 : wr.heap.size < W1.heap.size := by omega
      gi_wp2_with fail
      refine ⟨rfl, hRd.mono ?_⟩
      rintro e W2 (⟨rfl, hJ2, hk2⟩ | ⟨rfl, hJx2⟩)
      · have q0 := hk2.cell (p := ⟨wr.heap.size, 0, none⟩) hn0r r0
        have q1 := hk2.cell (p := ⟨wr.heap.size, 1, none⟩) hn0r r1
        have q2 := hk2.cell (p := ⟨wr.heap.size, 2, none⟩) hn0r r2
        have hz2 : wr.heap.size < W2.heap.size := World.block_lt_of_cell? _ _ q0
        have HJ2 := hid hJ2
        clear hJ2 hk2 r0 r1 r2 o0 o1 o2 hb hc
        gi_wp2_with fail
        refine ⟨trivial, rfl, ?_⟩
        refine (callsIn_wide.2 (end_any _ _ _ _ (by omega) (by omega) (by omega) (by omega))).mono ?_
        rintro e W3 ⟨rfl, hb3⟩
        have HB3 := hid hb3; clear hb3
        have hz3 := HB3.out.size
        gi_wp2_with fail
        go_roundw
        case rel => exact ⟨k + 1, a + 8 + upZ s, rfl, by omega, by omega, drop_step HX.out.1 HX.out.2.2, HJ0.out _ _ _ HJ2.out (below_grow HB3.out none), by omega⟩
        case measure => simp [intOf]; omega
      · have HJx2 := hid hJx2
        clear hJx2 r0 r1 r2 o0 o1 o2 hb hc
        gi_wp2_with fail
        refine bodyPost_ret (results_none rfl _ _ _) rfl ⟨⟨_, rfl⟩, .inr ⟨k + 1, ?_, HJx2.out⟩⟩
        rw [List.length_map]
        exact (drop_step HX.out.1 HX.out.2.2).1
    · have HX : Hid (us.length = k) := by
        have h := HU.out
        have h2 := h.2
        generalize hd : us.drop k = d at h2
        cases h2 with
        | nil h3 => have := List.drop_eq_nil_iff.1 hd; show us.length = k; omega
        | cons h3 => exact absurd h3 hlt
      gi_wp2_with fail
      go_end0
      exact ⟨⟨_, rfl⟩, .inl (by rw [List.length_map, HX.out]; exact HJ.out)⟩
end Go.Proofs.Ytcfmimfkaabmkaa
/- The iterator (heap).units$1 once more: a round may write into rows of pieces. -/
set_option linter.unusedVariables false
set_option linter.unusedSimpArgs false
namespace Go.Proofs.Ytcfmimfkaabmkaa
open Go.RowKit
attribute [local go_sem] Oper.semAt_some
/-- A cell of a unit's box. -/
def Box88 (W : World) (k : Nat) : Prop := ∃ c f, W.heap[k]? = some (.cells c 88 f)
theorem Box88.set {W : World} {k : Nat} (h : Box88 W k) (p : Addr) (v : Value) : Box88 (W.setCell p v) k := by
  obtain ⟨c, f, h⟩ := h
  by_cases hk : k = p.block
  · subst hk
    simp only [Box88, World.setCell, Array.getElem?_modify, if_true, h, Option.map_some]
    split <;> exact ⟨_, _, rfl⟩
  · exact ⟨c, f, (Below.heap_setCell _ _ _ _ hk).trans h⟩
theorem Box88.alloc {W : World} {k : Nat} (h : Box88 W k) (o : Obj) : Box88 (W.alloc o) k := by
  obtain ⟨c, f, h⟩ := h
  exact ⟨c, f, (Below.heap_alloc _ _ _ (Array.getElem?_eq_some_iff.1 h).1).trans h⟩
theorem box88_new (W : World) (c : Array Value) : Box88 (W.alloc (.cells c 88)) W.heap.size := ⟨c, _, heap_alloc_new W _⟩
theorem RndCP.box {n0 : Nat} {A B : World} (h : RndCP n0 A B) {k j : Nat} {v : Value} (hp : n0 ≤ k) (hb : Box88 A k) (hc : A.cell? ⟨k, j, none⟩ = some v) : B.cell? ⟨k, j, none⟩ = some v := by
  obtain ⟨c, f, hb⟩ := hb
  exact (World.cell?_of_block (a := ⟨k, j, none⟩) ((h k c 88 f hp (by decide) hb).trans hb.symm)).trans hc
set_option maxHeartbeats 1000000 in
set_option maxRecDepth 100000 in
theorem units_seqP (b Bh : Nat) (l : List UInt8) (us : List (Int × Int × Int)) (hu : UL l (8 + num l 0) 8 us) (h1 : 16 ≤ l.length) (h2 : l.length ≤ 8192) (h3 : 8 + num l 0 ≤ l.length) :
    SeqLP Try.prog 84 #[.pointer (some ⟨Bh, 0, none⟩)] (us.map encU) (Reads b Bh l) := by
  intro n0 lp J Jx W hn0 hJ hJx hR hY h0
  have HY := hid hY
  have HJ0 := hid hJ
  have HJx0 := hid hJx
  have HR := hid hR
  clear hY hJ hJx hR
  refine callsIn_of_wp Try.func84 rfl trivial ?_ rfl
  simp only [Try.ntmps84, List.size_toArray, List.length_cons, List.length_nil, Nat.reduceAdd, Nat.reduceSub, Array.replicate_succ, Array.replicate_zero, List.push_toArray, List.append_toArray, List.nil_append, List.cons_append]
  gi_wp2
  gi_loopw [3] (fun p wr => ∃ (k : Nat) (a : Int), p = .int .i64 a ∧ 8 ≤ a ∧ a ≤ 8192 ∧ Hid (k ≤ us.length ∧ UL l (8 + num l 0) a (us.drop k)) ∧ Hid (J k wr) ∧ n0 ≤ wr.heap.size)
    (fun p wr => (9000 - intOf p).toNat)
  case atStart => exact ⟨0, 8, rfl, by omega, by omega, ⟨Nat.zero_le _, hu⟩, h0, hn0⟩
  case round =>
    obtain ⟨k, a, rfl, ha0, ha1, HU, HJ, hn0r⟩ := hrel
    have hr := HR.out k wr HJ.out
    have HB := hid hr.1
    have hc := hr.2
    clear hr
    have hnm := num_bd l 0
    have hlen : l.length ≤ 1000000 := by omega
    gi_wp2_with fail
    refine ⟨trivial, rfl, ?_⟩
    refine (callsIn_wide.2 (hend_any _ _ _ l _ HB.out rfl (by omega) (Nat.le_refl _) hlen)).mono ?_
    rintro e w' ⟨rfl, rfl⟩
    by_cases hlt : a < 8 + num l 0
    · have HX : ∃ r, Hid (us.drop k = (a, num l a.toNat, num l (a.toNat + 4)) :: r ∧ a + 8 + upZ (num l a.toNat) ≤ 8 + num l 0 ∧ UL l (8 + num l 0) (a + 8 + upZ (num l a.toNat)) r) := by
        have h := HU.out.2
        generalize hd : us.drop k = d at h
        cases h with
        | nil h => exact absurd hlt h
        | cons h h0 h1 hr => exact ⟨_, rfl, h1, hr⟩
      obtain ⟨r, HX⟩ := HX
      have hb8 : a + 8 + upZ (num l a.toNat) ≤ 8 + num l 0 := HX.out.2.1
      have hs0 := num_bd l a.toNat
      have hup := upZ_bd (num l a.toNat) hs0.1
      have hq0 := num_bd l (a.toNat + 4)
      obtain ⟨hs0, hs1⟩ := hs0
      have HG1 := fun (w' : World) (h : Bytes w' b l) => get_any b l.length l.length l a w' h rfl (by omega) (by omega) (Nat.le_refl _) hlen
      have HG2 := fun (w' : World) (h : Bytes w' b l) => get_any b l.length l.length l (a + 4) w' h rfl (by omega) (by omega) (Nat.le_refl _) hlen
      rw [show (a + 4).toNat = a.toNat + 4 by omega] at HG2
      generalize hsz : num l a.toNat = s at *
      generalize hmk : num l (a.toNat + 4) = m at *
      have HG1 := hid HG1
      have HG2 := hid HG2
      have Hsz := hid hsz; clear hsz
      have Hmk := hid hmk; clear hmk
      have hw4 : IntKind.i64.wrap (a + 4) = a + 4 := IntWalk.i64_in _ ⟨by omega, by omega⟩
      gi_wp2_with fail
      refine wpIn_region_freeL open_wide (by kernel_rfl) (by kernel_rfl) (fun L w' => Below wr.heap.size wr w' ∧ w'.heap.size = wr.heap.size + (if L 9 then 1 else 0) ∧ (L 9 = true → OwnC w' ⟨wr.heap.size, 0, none⟩ ∧ OwnC w' ⟨wr.heap.size, 1, none⟩ ∧ OwnC w' ⟨wr.heap.size, 2, none⟩ ∧ Box88 w' wr.heap.size) ∧ (L 10 = true → w'.cell? ⟨wr.heap.size, 0, none⟩ = some (.int .i64 a) ∧ w'.cell? ⟨wr.heap.size, 1, none⟩ = some (.int .i64 s) ∧ w'.cell? ⟨wr.heap.size, 2, none⟩ = some (.int .i64 m))) ⟨(Below.refl _ _).drew, by simp, by simp, by simp⟩ ?_
      refine wpFreeL_val rfl (fun _ _ _ h => h) (fun K hK => ?_); apply Exists.intro; refine ⟨fun L w' hS => ?_, ?_⟩; (have hb := hS.1; have g0 := keepc hb hc; clear hS; go_simp; rfl); (go_simp; refine hK _ ?_; clear hK K)
      refine wpFreeL_val rfl (fun _ _ _ h => h) (fun K hK => ?_); apply Exists.intro; refine ⟨fun L w' hS => ?_, ?_⟩; (have hb := hS.1; have g0 := keepc hb hc; clear hS; go_simp; rfl); (go_simp; refine hK _ ?_; clear hK K)
      refine wpFreeL_val rfl (fun _ _ _ h => h) (fun K hK => ?_); apply Exists.intro; refine ⟨fun L w' hS => ?_, ?_⟩; (have hb := hS.1; have g0 := keepc hb hc; clear hS; go_simp; rfl); (go_simp; refine hK _ ?_; clear hK K)
      refine wpFreeL_gen rfl (fun K hK => ?_); apply Exists.intro; refine ⟨fun L w' _ hL _ hS => ?_, ?_⟩
      · have hb := hS.1; have g0 := keepc hb hc; go_simp; refine (HG1.out _ (HB.out.below hb HB.out.lt)).mono ?_; rintro e w1 ⟨rfl, rfl⟩; exact ⟨rfl, hS⟩
      go_simp; refine hK _ ?_; clear hK K
      refine wpFreeL_val rfl (fun _ _ _ h => h) (fun K hK => ?_); apply Exists.intro; refine ⟨fun L w' hS => ?_, ?_⟩; (have hb := hS.1; have g0 := keepc hb hc; clear hS; go_simp; rfl); (go_simp; refine hK _ ?_; clear hK K)
      refine wpFreeL_val rfl (fun _ _ _ h => h) (fun K hK => ?_); apply Exists.intro; refine ⟨fun L w' hS => ?_, ?_⟩; (have hb := hS.1; have g0 := keepc hb hc; clear hS; go_simp; rfl); (go_simp; refine hK _ ?_; clear hK K)
      refine wpFreeL_val rfl (fun _ _ _ h => h) (fun K hK => ?_); apply Exists.intro; refine ⟨fun L w' hS => ?_, ?_⟩; (have hb := hS.1; have g0 := keepc hb hc; clear hS; go_simp; rfl); (go_simp; refine hK _ ?_; clear hK K)
      refine wpFreeL_gen rfl (fun K hK => ?_); apply Exists.intro; refine ⟨fun L w' _ hL _ hS => ?_, ?_⟩
      · have hb := hS.1; have g0 := keepc hb hc; go_simp; refine (HG2.out _ (HB.out.below hb HB.out.lt)).mono ?_; rintro e w1 ⟨rfl, rfl⟩; exact ⟨rfl, hS⟩
      go_simp; refine hK _ ?_; clear hK K
      refine wpFreeL_val rfl (fun _ _ _ h => h) (fun K hK => ?_); apply Exists.intro; refine ⟨fun L w' hS => ?_, ?_⟩; (have hb := hS.1; have g0 := keepc hb hc; clear hS; go_simp; rfl); (go_simp; refine hK _ ?_; clear hK K)
      refine wpFreeL_gen rfl (fun K hK => ?_); refine ⟨.pointer (some ⟨wr.heap.size, 0, none⟩), fun L w' _ hL _ hS => ?_, ?_⟩
      · have hb := hS.1; have hz := hS.2.1; have hs := hS.2.2.2; clear hS
        rw [hL] at hz; rw [if_neg (by simp), Nat.add_zero] at hz
        have hno : L 10 = true → False := fun h => by have h1 := (hs h).1; have := World.block_lt_of_cell? _ _ h1; simp only at this; omega
        clear hs
        go_simp
        refine ⟨rfl, ⟨hb.alloc (by omega) _, ?_, ?_, ?_⟩⟩
        · simp [hz, addTo]
        · intro _; rw [← hz]; refine ⟨ownc_new _ _ _ 0 (by decide), ownc_new _ _ _ 1 (by decide), ownc_new _ _ _ 2 (by decide), box88_new _ _⟩
        · intro h; exact (hno h).elim
      go_simp; refine hK _ ?_; clear hK K
      refine wpFreeL_gen rfl (fun K hK => ?_); refine ⟨undef, fun L w' _ hL hdep hS => ?_, ?_⟩
      · have hb := hS.1; have hz := hS.2.1; have ho := hS.2.2.1; clear hS
        have hal : L 9 = true := (hdep ⟨9, .data⟩ (by simp) rfl)
        have hoo := ho hal; have o0 := hoo.1; have o1 := hoo.2.1; have o2 := hoo.2.2.1; have HBX := hid hoo.2.2.2
        have o0' := o0; obtain ⟨⟨u0, e0⟩, f0⟩ := o0'
        have o1' := o1; obtain ⟨⟨u1, e1⟩, f1⟩ := o1'
        have o2' := o2; obtain ⟨⟨u2, e2⟩, f2⟩ := o2'
        go_simp
        refine ⟨rfl, ⟨(((hb.setCell (Nat.le_refl _) _).setCell (Nat.le_refl _) _).setCell (Nat.le_refl _) _), ?_, ?_, ?_⟩⟩
        · simpa [World.setCell, addTo] using hz
        · intro _; exact ⟨(((o0.set _ _).set _ _).set _ _), (((o1.set _ _).set _ _).set _ _), (((o2.set _ _).set _ _).set _ _), ((HBX.out.set _ _).set _ _).set _ _⟩
        · intro _; exact ⟨by go_simp, by go_simp, by go_simp⟩
      go_simp; refine hK _ ?_; clear hK K
      refine wpFreeL_nil (fun L w' hL hS => ?_)
      have hb := hS.1; have hz := hS.2.1; have ho := hS.2.2.1; have hs := hS.2.2.2; clear hS
      have hal := hL 9 (by decide); have hst := hL 10 (by decide)
      rw [hal, if_pos rfl] at hz
      have hss := hs hst; have r0 := hss.1; have r1 := hss.2.1; have r2 := hss.2.2
      have hoo := ho hal; have o0 := hoo.1; have o1 := hoo.2.1; have o2 := hoo.2.2.1; have HBX := hid hoo.2.2.2
      clear hL hs ho hal hst hss hoo
      obtain ⟨W1, hW1⟩ : ∃ W1, W1 = w' := ⟨_, rfl⟩
      subst hW1
      have hJ1 : J k W1 := HJ0.out k wr W1 HJ.out (below_grow hb none)
      have hkx : (us.map encU)[k]? = some (encU (a, s, m)) := by
        have h := HX.out.1
        rw [List.getElem?_map]
        have : us[k]? = some (a, s, m) := by
          have h2 : (us.drop k)[0]? = some (a, s, m) := by rw [h]; rfl
          rwa [List.getElem?_drop, Nat.add_zero] at h2
        rw [this]; rfl
      obtain ⟨fn, tmps, assign, body, hy, hRd⟩ := HY.out k _ W1 hkx hJ1
      simp only [encU] at hy
      have hbh : Bh < wr.heap.size := World.block_lt_of_cell? _ _ hc
      have HX2 := HX
      have hlt2 : wr.heap.size < W1.heap.size := by omega
      gi_wp2_with fail
      refine ⟨rfl, hRd.mono ?_⟩
      rintro e W2 (⟨rfl, hJ2, hk2⟩ | ⟨rfl, hJx2⟩)
      · have q0 := hk2.box hn0r HBX.out r0
        have q1 := hk2.box hn0r HBX.out r1
        have q2 := hk2.box hn0r HBX.out r2
        have hz2 : wr.heap.size < W2.heap.size := World.block_lt_of_cell? _ _ q0
        have HJ2 := hid hJ2
        clear hJ2 hk2 r0 r1 r2 o0 o1 o2 hb hc
        gi_wp2_with fail
        refine ⟨trivial, rfl, ?_⟩
        refine (callsIn_wide.2 (end_any _ _ _ _ (by omega) (by omega) (by omega) (by omega))).mono ?_
        rintro e W3 ⟨rfl, hb3⟩
        have HB3 := hid hb3; clear hb3
        have hz3 := HB3.out.size
        gi_wp2_with fail
        go_roundw
        case rel => exact ⟨k + 1, a + 8 + upZ s, rfl, by omega, by omega, drop_step HX.out.1 HX.out.2.2, HJ0.out _ _ _ HJ2.out (below_grow HB3.out none), by omega⟩
        case measure => simp [intOf]; omega
      · have HJx2 := hid hJx2
        clear hJx2 r0 r1 r2 o0 o1 o2 hb hc
        gi_wp2_with fail
        refine bodyPost_ret (results_none rfl _ _ _) rfl ⟨⟨_, rfl⟩, .inr ⟨k + 1, ?_, HJx2.out⟩⟩
        rw [List.length_map]
        exact (drop_step HX.out.1 HX.out.2.2).1
    · have HX : Hid (us.length = k) := by
        have h := HU.out
        have h2 := h.2
        generalize hd : us.drop k = d at h2
        cases h2 with
        | nil h3 => have := List.drop_eq_nil_iff.1 hd; show us.length = k; omega
        | cons h3 => exact absurd h3 hlt
      gi_wp2_with fail
      go_end0
      exact ⟨⟨_, rfl⟩, .inl (by rw [List.length_map, HX.out]; exact HJ.out)⟩
end Go.Proofs.Ytcfmimfkaabmkaa
