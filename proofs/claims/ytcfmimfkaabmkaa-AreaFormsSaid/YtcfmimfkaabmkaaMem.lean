/- Runs of the operations that move bytes: make, copy out of a string or a slice, string(h), []byte(s). -/
import Derived.Test.YtcfmimfkaabmkaaFree
import Derived.Laws.CopyRow
import Derived.Laws.MakeOwn
import Derived.Laws.OwnMore
import Derived.Laws.BytesArg
set_option linter.unusedVariables false
set_option linter.unusedSimpArgs false
namespace Go.Proofs.Ytcfmimfkaabmkaa
open Go.RowKit
theorem under31 : Try.prog.underlying 31 = some (.slice 5) := by kernel_rfl
theorem under79 : Try.prog.underlying 79 = some (.slice 5) := by kernel_rfl
theorem under5 : Try.prog.underlying 5 = some (.int .u8) := by kernel_rfl
theorem under9 : Try.prog.underlying 9 = some .string := by kernel_rfl
theorem info5 : (Try.prog.info? 5).map (fun i => (i.zero, i.size, i.bytes)) = some (some (.int .u8 0), 1, 1) := by kernel_rfl
theorem info5s : (Try.prog.info? 5).map (·.size) = some 1 := by kernel_rfl

/-- A list of bytes as cells. -/
def cellsB (l : List UInt8) : List Value := l.map fun c => Value.int .u8 (c.toNat : Int)
theorem bytes_iff {w : World} {b : Nat} {l : List UInt8} : Bytes w b l ↔ w.heap[b]? = some (.cells (cellsB l).toArray 5 (0, 0)) := Iff.rfl
theorem cellsB_length (l : List UInt8) : (cellsB l).length = l.length := by simp [cellsB]
theorem cellsB_append (l m : List UInt8) : cellsB (l ++ m) = cellsB l ++ cellsB m := by simp [cellsB]
theorem cellsB_take (l : List UInt8) (n : Nat) : (cellsB l).take n = cellsB (l.take n) := by simp [cellsB, List.map_take]
theorem cellsB_drop (l : List UInt8) (n : Nat) : (cellsB l).drop n = cellsB (l.drop n) := by simp [cellsB, List.map_drop]
theorem cellsB_one (l : List UInt8) : ∀ u ∈ cellsB l, u.oneCell' = true := by
  intro u hu
  simp only [cellsB, List.mem_map] at hu
  obtain ⟨c, _, rfl⟩ := hu
  rfl
theorem cellsB_replicate (n : Nat) : cellsB (List.replicate n 0) = List.replicate n (.int .u8 0) := by simp [cellsB]

/-- l with m laid over it from k on. -/
def over (l : List UInt8) (k : Nat) (m : List UInt8) : List UInt8 := l.take k ++ m ++ l.drop (k + m.length)
theorem over_length (l : List UInt8) (k : Nat) (m : List UInt8) (h : k + m.length ≤ l.length) : (over l k m).length = l.length := by simp [over]; omega
theorem over_nil (l : List UInt8) (k : Nat) : over l k [] = l := by simp [over]
theorem Bytes.over {w : World} {b : Nat} {l : List UInt8} (h : Bytes w b l) (k : Nat) (m : List UInt8) :
    Bytes (w.setRow b (((cellsB l).toArray.toList.take k ++ cellsB m ++ (cellsB l).toArray.toList.drop (k + (cellsB m).length)).toArray)) b (over l k m) := by
  rw [bytes_iff, setRow_heap w b _ _ 5 (0, 0) h]
  simp only [Ytcfmimfkaabmkaa.over, cellsB_append, cellsB_take, cellsB_drop, cellsB_length]
theorem grown_setRow (w : World) (b : Nat) (cs : Array Value) : w.grownBy (w.setRow b cs) (some b) := by
  refine ⟨rfl, rfl, rfl, by simp [World.setRow], fun k hk hn => ?_⟩
  simp only [World.setRow, Array.getElem?_modify]
  rw [if_neg (fun e => hn (by rw [e]))]

/-- copy(h[k:], s): a string into a block of bytes, all of it. -/
theorem run_copy_str (w : World) (b k dLen dCap : Nat) (l : List UInt8) (s : ByteArray) (hB : Bytes w b l) (hn : s.size ≤ dLen) (hfit : k + s.size ≤ l.length) :
    ∃ w', (Builtin.copy_ #[79, 9] 3 #[.slice (some ⟨b, k, none⟩) dLen dCap, .string s]).run Try.prog w = .ok (goInt s.size) w' ∧ Bytes w' b (over l k s.data.toList) ∧ w.grownBy w' (some b) := by
  have hst := run_storeCells_at Try.prog b k 5 (cellsB s.data.toList) 0 (cellsB l).toArray w hB (by simp [cellsB_length]; exact hfit) (cellsB_one _)
  refine ⟨_, ?_, hB.over k s.data.toList, grown_setRow _ _ _⟩
  have hmin : Nat.min s.size dLen = s.size := Nat.min_eq_left hn
  cases hq : Try.prog.info? 5 with
  | none => have := info5s; simp [hq] at this
  | some i =>
    simp only [Nat.add_zero] at hst
    simp only [Builtin.copy_, List.getElem?_toArray, List.getElem?_cons_zero, List.getElem?_cons_succ]
    have htk : List.take s.size (List.map (fun c : UInt8 => Value.int IntKind.u8 (c.toNat : Int)) s.data.toList) = cellsB s.data.toList :=
      List.take_of_length_le (by rw [List.length_map, Array.length_toList]; exact Nat.le_refl _)
    simp [run_underlying under79, Builtin.lenOf, Builtin.firstCells, sizeOf, typeInfo, hq, hmin, htk, hst]
/-- The first n bytes of a slice of bytes. -/
def Part (w : World) (o : Option Addr) (m : List UInt8) : Prop := m = [] ∨ ∃ a, o = some a ∧ ∀ j v, (cellsB m)[j]? = some v → w.cell? (a.add j) = some v
/-- copy(h[k:], x): a slice of bytes into a block of bytes, all of it. -/
theorem run_copy_sl (t u : TypeId) (ht : Try.prog.underlying t = some (.slice 5)) (w : World) (b k dLen dCap sLen sCap : Nat) (o : Option Addr) (l m : List UInt8) (hB : Bytes w b l) (hm : m.length = Nat.min sLen dLen) (hfit : k + m.length ≤ l.length) (hp : Part w o m) (o' : Option Addr) (ho' : 0 < m.length → o' = some ⟨b, k, none⟩) (hk : sLen = 0 → o' = none ∨ ∃ a, o' = some a) :
    ∃ w', (Builtin.copy_ #[t, u] 3 #[.slice o' dLen dCap, .slice o sLen sCap]).run Try.prog w = .ok (goInt m.length) w' ∧ Bytes w' b (over l k m) ∧ w.grownBy w' (some b) := by
  rcases Nat.eq_zero_or_pos m.length with h0 | h0
  · have hm0 : m = [] := List.length_eq_zero_iff.1 h0
    subst hm0
    rw [over_nil]
    refine ⟨w, ?_, hB, grown_refl _ _⟩
    cases hq : Try.prog.info? 5 with
    | none => have := info5s; simp [hq] at this
    | some i =>
      have hm' : sLen.min dLen = 0 := by simpa using hm.symm
      have hl0 : ∀ a, (loadCells a 0).run Try.prog w = .ok #[] w := fun a => by
        have := run_loadCells_list (P := Try.prog) w a [] (fun j v h => by simp at h)
        simpa using this
      cases o <;> cases o' <;> simp [Builtin.copy_, run_underlying ht, Builtin.lenOf, Builtin.firstCells, sizeOf, typeInfo, hq, hm', hl0, storeCells]
  · obtain rfl := ho' h0
    rcases hp with rfl | ⟨a, rfl, hc⟩
    · simp at h0
    · have := run_copy_row (P := Try.prog) w t u 3 5 b k dLen dCap a sLen sCap (cellsB l).toArray 5 (cellsB m) ht info5s hB (by rw [cellsB_length, hm]) hc (by simp [cellsB_length]; exact hfit) (cellsB_one m)
      rw [cellsB_length] at this
      refine ⟨_, this, ?_, grown_setRow _ _ _⟩
      have h2 := hB.over k m
      rw [cellsB_length] at h2
      exact h2

/-- make(heap, n). -/
theorem run_make79 (w : World) (n : Nat) (hn : n ≤ 1000000) :
    (Instr.makeSlice 79 (.int .i64 (n : Int)) (.int .i64 (n : Int))).run Try.prog w = .ok (.slice (some ⟨w.heap.size, 0, none⟩) n n) (w.alloc (.cells (cellsB (List.replicate n 0)).toArray 5)) := by
  obtain ⟨i0, hi, hz0, hz1, hz2⟩ := info_parts info5
  have := run_make (P := Try.prog) w 79 5 i0 (.int .u8 0) under79 hi hz0 .i64 .i64 n n (by omega) (Int.le_refl _) (by rw [hz2]; omega) (by omega)
  rw [this]
  have e : madeCells (Value.int IntKind.u8 0).cells (n * 1) = (cellsB (List.replicate n 0)).toArray := by
    apply Array.ext'
    rw [Nat.mul_one, show (Value.int IntKind.u8 0).cells = #[.int .u8 0] from rfl, toList_madeCells_one, cellsB_replicate]
  rw [Int.toNat_natCast, hz1, e]
theorem bytes_new (w : World) (l : List UInt8) : Bytes (w.alloc (.cells (cellsB l).toArray 5)) w.heap.size l := heap_alloc_new w _

/-- string(h), h a part of a block. -/
theorem run_str_of (t : TypeId) (ht : Try.prog.underlying t = some (.slice 5)) (w : World) (b k len cap : Nat) (m : List UInt8) (hm : m.length = len) (hc : ∀ i, i < len → w.cell? ⟨b, k + i, none⟩ = some (.int .u8 (byt m i))) :
    (convert t 9 (.slice (some ⟨b, k, none⟩) len cap)).run Try.prog w = .ok (.string ⟨m.toArray⟩) w := by
  have := run_convert_bytes_arg (P := Try.prog) w t 5 ht under5 b k len cap (m.map fun c => (c.toNat : Int)) (by simpa using hm) (fun i hi => by
    rw [hc i hi]
    simp [byt, List.getElem?_eq_getElem (show i < m.length by omega)]) 9 under9
  rw [this]
  have e : strOfNums (m.map fun c => (c.toNat : Int)) = ⟨m.toArray⟩ := by
    unfold strOfNums
    rw [List.map_map]
    have : ((fun n : Int => UInt8.ofNat n.toNat) ∘ fun c : UInt8 => (c.toNat : Int)) = id := by
      funext c; simp
    rw [this, List.map_id]
  rw [e]
theorem run_str79 (w : World) (b cap : Nat) (l : List UInt8) (hB : Bytes w b l) : (convert 79 9 (.slice (some ⟨b, 0, none⟩) l.length cap)).run Try.prog w = .ok (.string ⟨l.toArray⟩) w :=
  run_str_of 79 under79 w b 0 l.length cap l rfl (fun i hi => by rw [Nat.zero_add]; exact hB.cell hi)
end Go.Proofs.Ytcfmimfkaabmkaa
