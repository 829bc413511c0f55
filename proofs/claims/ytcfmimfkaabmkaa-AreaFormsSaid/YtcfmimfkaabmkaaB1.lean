/- The walks of area.New, area.Check, area.Extent, (heap).units. -/
import Derived.Test.YtcfmimfkaabmkaaLayFwd
import Derived.Test.YtcfmimfkaabmkaaShelf
set_option linter.unusedVariables false
set_option linter.unusedSimpArgs false
namespace Go.Proofs.Ytcfmimfkaabmkaa
open Go.RowKit
attribute [local go_sem] Oper.semAt_some
/-- A string of these bytes. -/
def strV (l : List UInt8) : Value := .string ⟨l.toArray⟩
theorem strV_nil : strV [] = .string ⟨#[]⟩ := rfl
theorem strV_of (s : ByteArray) : strV s.data.toList = .string s := by unfold strV; rw [Array.toArray_toList]
def newS (n : Int) : List UInt8 × Int := if n < 16 ∨ 8192 < n then ([], 1) else (zs n.toNat, 0)
theorem repeat_zero (n : Nat) : Lib.repeatL [0] n = zs n := by
  induction n with
  | zero => rfl
  | succ n ih => unfold Lib.repeatL; rw [ih]; simp [zs, List.replicate_succ]
def NewPost (n : Int) (w : World) (e : Ending) (w' : World) : Prop := e = .returned (.tuple #[strV (newS n).1, .int .i64 (newS n).2]) ∧ Below w.heap.size w w'
set_option maxHeartbeats 1000000 in
theorem new_any (n : Int) (w : World) : Calls Try.prog 27 #[.int .i64 n] w (NewPost n w) := by
  by_cases h1 : n < 16
  · have e : newS n = ([], 1) := by unfold newS; rw [if_pos (.inl h1)]
    go_enter Try.func27, Try.ntmps27
    go_wp2_with fail
    refine bodyPost_ret (v := .tuple #[.string ⟨#[]⟩, .int .i64 1]) (by simp [results, Try.results27, go_sem]) rfl ⟨by rw [e]; rfl, Below.refl _ _⟩
  · by_cases h2 : 8192 < n
    · have e : newS n = ([], 1) := by unfold newS; rw [if_pos (.inr h2)]
      go_enter Try.func27, Try.ntmps27
      go_wp2_with fail
      refine bodyPost_ret (v := .tuple #[.string ⟨#[]⟩, .int .i64 1]) (by simp [results, Try.results27, go_sem]) rfl ⟨by rw [e]; rfl, Below.refl _ _⟩
    · have e : newS n = (zs n.toNat, 0) := by unfold newS; rw [if_neg (by omega)]
      obtain ⟨m, rfl⟩ := Int.eq_ofNat_of_zero_le (show 0 ≤ n by omega)
      have hc := Try.strings_Repeat ⟨#[0]⟩ m w (by omega) (by rw [show (⟨#[0]⟩ : ByteArray).size = 1 from rfl]; omega)
      have he : (⟨#[0]⟩ : ByteArray).data.toList = [0] := rfl
      rw [he, repeat_zero] at hc
      have HC := hid hc; clear hc
      have HE := hid e; clear e
      go_enter Try.func27, Try.ntmps27
      go_wp2_with fail
      refine HC.out.mono ?_
      rintro e w' ⟨rfl, hb⟩
      have HB := hid hb; clear hb
      go_wp2_with fail
      refine bodyPost_ret (v := .tuple #[.string ⟨(zs m).toArray⟩, .int .i64 0]) (by simp [results, Try.results27, go_sem]) rfl ⟨by rw [HE.out]; rfl, HB.out⟩
def CheckPost (a : List UInt8) (w : World) (e : Ending) (w' : World) : Prop := e = .returned (.int .i64 (if openS a then 0 else 120)) ∧ Below w.heap.size w w'
set_option maxHeartbeats 1000000 in
theorem check_any (s : ByteArray) (w : World) (hs : s.size ≤ maxLen) : Calls Try.prog 25 #[.string s] w (CheckPost s.data.toList w) := by
  have HO := hid (open_any s w hs)
  cases h : openS s.data.toList with
  | true =>
    have HH := hid h; clear h
    go_enter Try.func25, Try.ntmps25
    go_wp2_with fail
    refine HO.out.mono ?_
    rintro e w' ⟨hb, hx⟩
    rw [HH.out, if_pos rfl] at hx
    obtain ⟨B, rfl, hB, hBl⟩ := hx
    have HB := hid hb; clear hb hB
    go_wp2_with fail
    go_ret
    exact ⟨by rw [HH.out]; rfl, HB.out⟩
  | false =>
    have HH := hid h; clear h
    go_enter Try.func25, Try.ntmps25
    go_wp2_with fail
    refine HO.out.mono ?_
    rintro e w' ⟨hb, hx⟩
    rw [HH.out, if_neg (by simp)] at hx
    obtain ⟨o, n, c, rfl⟩ := hx
    have HB := hid hb; clear hb
    go_wp2_with fail
    go_ret
    exact ⟨by rw [HH.out]; rfl, HB.out⟩
set_option maxHeartbeats 1000000 in
theorem units_any (v : Value) (o : Option Addr) (n c : Nat) (hv : v = .slice o n c) (w : World) : Calls Try.prog 61 #[v] w fun e w' => e = .returned (.func (.func 84) #[] #[.pointer (some ⟨w.heap.size, 0, none⟩)]) ∧ w' = w.alloc (.cells #[v] 79) := by
  subst hv
  go_enter Try.func61, Try.ntmps61
  go_wp2_with fail
  go_ret
  exact ⟨rfl, rfl⟩
end Go.Proofs.Ytcfmimfkaabmkaa
