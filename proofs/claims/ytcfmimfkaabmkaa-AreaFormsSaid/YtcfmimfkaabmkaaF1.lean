/- The walk of sane: the examples of the chapter hold. -/
import Derived.Test.YtcfmimfkaabmkaaE9
set_option linter.unusedVariables false
set_option linter.unusedSimpArgs false
namespace Go.Proofs.Ytcfmimfkaabmkaa
open Go.RowKit
attribute [local go_sem] Oper.semAt_some
attribute [local irreducible] num
theorem alloc_any (l : List UInt8) (n : Int) (lay : Lay) (w : World) (h : Area l lay) : Calls Try.prog 20 #[.string ⟨l.toArray⟩, .int .i64 n] w (TriPost (allocA l.length lay n) w) :=
  alloc_lay ⟨l.toArray⟩ n lay w (by have := h.2.1; show l.length ≤ maxLen; unfold maxLen; omega) h
theorem free_any (l : List UInt8) (p : Int) (lay : Lay) (w : World) (h : Area l lay) : Calls Try.prog 22 #[.string ⟨l.toArray⟩, .int .i64 p] w (StrPost (freeA l.length lay p) w) :=
  free_lay ⟨l.toArray⟩ p lay w (by have := h.2.1; show l.length ≤ maxLen; unfold maxLen; omega) h
def lay1 : Lay := [(16, zs 5)]
def lay2 : Lay := [(16, zs 5), (32, zs 8)]
def lay3 : Lay := [(32, zs 8)]
theorem sane0 : Area (zs 64) [] := area_render (lay := []) (n := 64) (by decide) (by decide) (by decide) (by decide)
theorem sane1 : Area (render 64 lay1) lay1 := area_render (by decide) (by decide) (by decide) (by decide)
theorem sane2 : Area (render 64 lay2) lay2 := area_render (by decide) (by decide) (by decide) (by decide)
theorem sane3 : Area (render 64 lay3) lay3 := area_render (by decide) (by decide) (by decide) (by decide)
theorem saneA1 : allocA (zs 64).length [] 5 = (render 64 lay1, 16, 0) := by kernel_rfl
theorem saneA2 : allocA (render 64 lay1).length lay1 8 = (render 64 lay2, 32, 0) := by kernel_rfl
theorem saneF1 : freeA (render 64 lay2).length lay2 16 = (render 64 lay3, 0) := by kernel_rfl
theorem saneA3 : allocA (render 64 lay2).length lay2 17 = ([], 0, 121) := by kernel_rfl
theorem saneF2 : freeA (render 64 lay3).length lay3 32 = (zs 64, 0) := by kernel_rfl
def SanePost (w : World) (e : Ending) (w' : World) : Prop := e = .returned (.bool true) ∧ Below w.heap.size w w'
set_option maxHeartbeats 2000000 in
set_option maxRecDepth 100000 in
theorem sane_any (w : World) : Calls Try.prog 19 #[] w (SanePost w) := by
  have hn : ∀ w, Calls Try.prog 27 #[.int .i64 64] w (fun e w' => e = .returned (.tuple #[.string ⟨(zs 64).toArray⟩, .int .i64 0]) ∧ Below w.heap.size w w') := fun w => new_any 64 w
  have ha1 : ∀ w, Calls Try.prog 20 #[.string ⟨(zs 64).toArray⟩, .int .i64 5] w (fun e w' => e = .returned (.tuple #[.string ⟨(render 64 lay1).toArray⟩, .int .i64 16, .int .i64 0]) ∧ Below w.heap.size w w') := fun w => by
    have := alloc_any _ 5 _ w sane0; rwa [saneA1] at this
  have ha2 : ∀ w, Calls Try.prog 20 #[.string ⟨(render 64 lay1).toArray⟩, .int .i64 8] w (fun e w' => e = .returned (.tuple #[.string ⟨(render 64 lay2).toArray⟩, .int .i64 32, .int .i64 0]) ∧ Below w.heap.size w w') := fun w => by
    have := alloc_any _ 8 _ w sane1; rwa [saneA2] at this
  have hf1 : ∀ w, Calls Try.prog 22 #[.string ⟨(render 64 lay2).toArray⟩, .int .i64 16] w (fun e w' => e = .returned (.tuple #[.string ⟨(render 64 lay3).toArray⟩, .int .i64 0]) ∧ Below w.heap.size w w') := fun w => by
    have := free_any _ 16 _ w sane2; rwa [saneF1] at this
  have ha3 : ∀ w, Calls Try.prog 20 #[.string ⟨(render 64 lay2).toArray⟩, .int .i64 17] w (fun e w' => e = .returned (.tuple #[.string ⟨#[]⟩, .int .i64 0, .int .i64 121]) ∧ Below w.heap.size w w') := fun w => by
    have := alloc_any _ 17 _ w sane2; rwa [saneA3] at this
  have hf2 : ∀ w, Calls Try.prog 22 #[.string ⟨(render 64 lay3).toArray⟩, .int .i64 32] w (fun e w' => e = .returned (.tuple #[.string ⟨(zs 64).toArray⟩, .int .i64 0]) ∧ Below w.heap.size w w') := fun w => by
    have := free_any _ 32 _ w sane3; rwa [saneF2] at this
  have l0 : (zs 64).length = 64 := by decide
  have l1 : (render 64 lay1).length = 64 := by kernel_rfl
  have l3 : (render 64 lay3).length = 64 := by kernel_rfl
  have s0 : sl (render 64 lay1) 0 16 = [0, 0, 0, 16, 0, 0, 0, 1, 0, 0, 0, 5, 0, 0, 0, 1] := by kernel_rfl
  have b3 : byt (render 64 lay3) 3 = 32 := by kernel_rfl
  have b15 : byt (render 64 lay3) 15 = 2 := by kernel_rfl
  generalize zs 64 = A0 at *
  generalize render 64 lay1 = A1 at *
  generalize render 64 lay2 = A2 at *
  generalize render 64 lay3 = A3 at *
  have s1 : ((⟨A1.toArray⟩ : ByteArray).extract 0 16).toList = [0, 0, 0, 16, 0, 0, 0, 1, 0, 0, 0, 5, 0, 0, 0, 1] := by rw [ext_sl, s0]; simp [go_sem]
  have hx3 : ∀ w, (Instr.index 9 (.string ⟨A3.toArray⟩) (.int .i64 3)).run Try.prog w = .ok (.int .u8 32) w := fun w => by
    have := str_at ⟨A3.toArray⟩ 3 .i64 (by omega) (by show (3 : Int) < (A3.length : Int); omega) w
    rw [this]; exact congrArg (fun z => Result.ok (Value.int .u8 z) w) b3
  have hx15 : ∀ w, (Instr.index 9 (.string ⟨A3.toArray⟩) (.int .i64 15)).run Try.prog w = .ok (.int .u8 2) w := fun w => by
    have := str_at ⟨A3.toArray⟩ 15 .i64 (by omega) (by show (15 : Int) < (A3.length : Int); omega) w
    rw [this]; exact congrArg (fun z => Result.ok (Value.int .u8 z) w) b15
  have HN := hid hn; have HA1 := hid ha1; have HA2 := hid ha2; have HF1 := hid hf1; have HA3 := hid ha3; have HF2 := hid hf2
  clear hn ha1 ha2 hf1 ha3 hf2 b3 b15 s0
  go_enter Try.func19, Try.ntmps19
  go_wp2_with fail
  refine (HN.out _).mono ?_
  rintro e w1 ⟨rfl, hb1⟩
  have HB1 := hid hb1; clear hb1
  go_wp2_with fail
  refine (HA1.out _).mono ?_
  rintro e w2 ⟨rfl, hb2⟩
  have HB2 := hid hb2; clear hb2
  go_wp2_with fail
  refine (HA2.out _).mono ?_
  rintro e w3 ⟨rfl, hb3⟩
  have HB3 := hid hb3; clear hb3
  go_wp2_with fail
  refine (HF1.out _).mono ?_
  rintro e w4 ⟨rfl, hb4⟩
  have HB4 := hid hb4; clear hb4
  go_wp2_with fail
  refine (HA3.out _).mono ?_
  rintro e w5 ⟨rfl, hb5⟩
  have HB5 := hid hb5; clear hb5
  go_wp2_with fail
  refine (HF2.out _).mono ?_
  rintro e w6 ⟨rfl, hb6⟩
  have HB6 := hid hb6; clear hb6
  go_wp2_with fail
  go_ret
  exact ⟨rfl, below_step HB6.out (below_step HB5.out (below_step HB4.out (below_step HB3.out (below_step HB2.out HB1.out))))⟩
end Go.Proofs.Ytcfmimfkaabmkaa
