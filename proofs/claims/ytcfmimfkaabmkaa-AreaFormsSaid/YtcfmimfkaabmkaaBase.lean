/- Common ground of the walks: imports, small facts on values, bytes in a block, the cut of a slice at its end. -/
import Derived.Test.YtcfmimfkaabmkaaProg
import Derived.WalkKit
import Derived.WalkSpells
import Derived.WalkLawsBesides
import Derived.Deep.QuietTactic
import Derived.BigQuiet
import Derived.Deep.RegionHeld3
import Derived.Deep.DrawnRows
set_option linter.unusedVariables false
set_option linter.unusedSimpArgs false
namespace Go.Proofs.Ytcfmimfkaabmkaa
open Go.RowKit
theorem hid {p : Prop} (h : p) : Hid p := h
theorem ret_int {k : IntKind} {a b : Int} (h : a = b) : Ending.returned (.int k a) = .returned (.int k b) := by rw [h]
theorem ret_bool {a b : Bool} (h : a = b) : Ending.returned (.bool a) = .returned (.bool b) := by rw [h]

/-- The least multiple of 8 that is not less than n. -/
def upZ (n : Int) : Int := (n + 7) / 8 * 8
theorem upZ_bd (n : Int) (_h : 0 ≤ n) : n ≤ upZ n ∧ upZ n ≤ n + 7 := by unfold upZ; omega
theorem upZ_8 (n : Int) : upZ n % 8 = 0 := by unfold upZ; omega

/-- Where the slice x[l:] begins: at its capacity's end it keeps the old address. -/
def cutAt (b off l cap : Nat) : Option Addr := if cap = l then some ⟨b, off, none⟩ else some ⟨b, off + l, none⟩
theorem cutAt_lt {b off l cap len : Nat} (h : len ≤ cap) (h0 : 0 < len - l) : cutAt b off l cap = some ⟨b, off + l, none⟩ := by
  unfold cutAt; rw [if_neg (by omega)]
theorem addr_add (b off l : Nat) : (⟨b, off, none⟩ : Addr).add l = ⟨b, off + l, none⟩ := by
  unfold Addr.add; split
  · rename_i h; rw [h]; rfl
  · rfl
theorem sizeOf5 (w : World) : (sizeOf 5).run Try.prog w = .ok 1 w := by kernel_rfl
theorem elem31 : Try.prog.elem 31 = 5 := by kernel_rfl
theorem elem79 : Try.prog.elem 79 = 5 := by kernel_rfl
theorem slice31 : Try.prog.underlying 31 = some (.slice (Try.prog.elem 31)) := by kernel_rfl
theorem slice79 : Try.prog.underlying 79 = some (.slice (Try.prog.elem 79)) := by kernel_rfl
@[go_sem high] theorem run_cut31 (b off len cap : Nat) (w : World) (kl : IntKind) (l : Int) (h0 : 0 ≤ l) (h1 : l ≤ len) :
    (Instr.slice 31 (.slice (some ⟨b, off, none⟩) len cap) (some (.int kl l)) none none).run Try.prog w = .ok (.slice (cutAt b off l.toNat cap) (len - l.toNat) (cap - l.toNat)) w := by
  rw [run_slice_l (t := 31) (ht := slice31) (kl := kl) (l := l) (h0 := h0) (h1 := h1), elem31, sizeOf5]
  simp only [Result.andThen, sliced, cutAt, Nat.mul_one]
  split <;> simp [addr_add]
@[go_sem high] theorem run_cut79 (b off len cap : Nat) (w : World) (kl : IntKind) (l : Int) (h0 : 0 ≤ l) (h1 : l ≤ len) :
    (Instr.slice 79 (.slice (some ⟨b, off, none⟩) len cap) (some (.int kl l)) none none).run Try.prog w = .ok (.slice (cutAt b off l.toNat cap) (len - l.toNat) (cap - l.toNat)) w := by
  rw [run_slice_l (t := 79) (ht := slice79) (kl := kl) (l := l) (h0 := h0) (h1 := h1), elem79, sizeOf5]
  simp only [Result.andThen, sliced, cutAt, Nat.mul_one]
  split <;> simp [addr_add]
theorem run_slice_lhm79 (b off len cap : Nat) (w : World) (kl kh km : IntKind) (l h m : Int) (h0 : 0 ≤ l) (h1 : l ≤ h) (h2 : h ≤ m) (h3 : m ≤ cap) :
    (Instr.slice 79 (.slice (some ⟨b, off, none⟩) len cap) (some (.int kl l)) (some (.int kh h)) (some (.int km m))).run Try.prog w = .ok (.slice (cutAt b off l.toNat m.toNat) (h.toNat - l.toNat) (m.toNat - l.toNat)) w := by
  rw [run_slice_lhm (t := 79) (ht := slice79) (kl := kl) (kh := kh) (km := km) (l := l) (h := h) (m := m) (h0 := h0) (h1 := h1) (h2 := h2) (h3 := h3), elem79, sizeOf5]
  simp only [Result.andThen, sliced, cutAt, Nat.mul_one]
  split <;> simp [addr_add]
attribute [go_sem high] run_slice_lhm79

/-- Block b is the bytes l. -/
def Bytes (w : World) (b : Nat) (l : List UInt8) : Prop := w.heap[b]? = some (.cells (l.map fun c => Value.int .u8 (c.toNat : Int)).toArray 5 (0, 0))
/-- The byte at i, as a number. -/
def byt (l : List UInt8) (i : Nat) : Int := (((l[i]?.getD 0).toNat : Nat) : Int)
theorem byt_bd (l : List UInt8) (i : Nat) : 0 ≤ byt l i ∧ byt l i ≤ 255 := by
  unfold byt; have := (l[i]?.getD 0).toNat_lt; omega
/-- The number of the four bytes from i on. -/
def num (l : List UInt8) (i : Nat) : Int := byt l i * 16777216 + byt l (i + 1) * 65536 + byt l (i + 2) * 256 + byt l (i + 3)
theorem num_bd (l : List UInt8) (i : Nat) : 0 ≤ num l i ∧ num l i ≤ 4294967295 := by
  unfold num; have := byt_bd l i; have := byt_bd l (i+1); have := byt_bd l (i+2); have := byt_bd l (i+3); omega
theorem Bytes.cell {w : World} {b : Nat} {l : List UInt8} (h : Bytes w b l) {i : Nat} (hi : i < l.length) : w.cell? ⟨b, i, none⟩ = some (.int .u8 (byt l i)) := by
  unfold Bytes at h
  simp [World.cell?, h, byt, List.getElem?_eq_getElem hi]
theorem Bytes.frozen {w : World} {b : Nat} {l : List UInt8} (h : Bytes w b l) (i : Nat) : w.frozen? ⟨b, i, none⟩ = false := by
  unfold Bytes at h
  simp [World.frozen?, h]
theorem Bytes.lt {w : World} {b : Nat} {l : List UInt8} (h : Bytes w b l) : b < w.heap.size := (Array.getElem?_eq_some_iff.1 h).1
theorem Bytes.below {w w' : World} {B b : Nat} {l : List UInt8} (h : Bytes w b l) (hb : Below B w w') (hB : b < B) : Bytes w' b l := (hb.block b hB).trans h
theorem Bytes.grown {w w' : World} {b : Nat} {l : List UInt8} {row : Option Nat} (h : Bytes w b l) (hg : w.grownBy w' row) (hne : row ≠ some b) : Bytes w' b l :=
  (hg.block b h.lt (Ne.symm hne)).trans h
theorem Bytes.set {w : World} {b i : Nat} {l : List UInt8} (h : Bytes w b l) (c : UInt8) : Bytes (w.setCell ⟨b, i, none⟩ (.int .u8 (c.toNat : Int))) b (l.set i c) := by
  unfold Bytes at *
  simp only [World.setCell, Array.getElem?_modify]
  simp [h, List.map_set]

/-- What a call that only makes memory leaves: old cells read as before. -/
theorem bcell {W w1 : World} (hb : Below W.heap.size W w1) : (∀ b o, b < W.heap.size → w1.cell? ⟨b, o, none⟩ = W.cell? ⟨b, o, none⟩) ∧ (∀ b o, b < W.heap.size → w1.frozen? ⟨b, o, none⟩ = W.frozen? ⟨b, o, none⟩) :=
  ⟨fun b o h => hb.cell (p := ⟨b, o, none⟩) h, fun b o h => hb.frozen (p := ⟨b, o, none⟩) h⟩
theorem below_drewN {B : Nat} {a w : World} (h : Below B a w) (n : Nat) : Below B a (w.drewN n) := h.trans ⟨rfl, rfl, rfl, Nat.le_refl _, fun _ _ => rfl⟩
theorem below_grow {w w' : World} (h : Below w.heap.size w w') (row : Option Nat) : w.grownBy w' row := ⟨h.os, h.tape, h.output, h.size, fun k hk _ => h.block k hk⟩
theorem grown_trans {a b c : World} {row : Option Nat} (h : a.grownBy b row) (k : b.grownBy c row) : a.grownBy c row :=
  ⟨k.os.trans h.os, k.tape.trans h.tape, k.output.trans h.output, Nat.le_trans h.size k.size, fun i hi hn => (k.block i (Nat.lt_of_lt_of_le hi h.size) hn).trans (h.block i hi hn)⟩
/-- One more call that only makes memory. -/
theorem below_step {W w w1 : World} (k : Below w.heap.size w w1) (h : Below W.heap.size W w) : Below W.heap.size W w1 := h.trans (k.mono h.size)
/-- A cell that was there is there. -/
theorem keepc {W w1 : World} {a : Addr} {v : Value} (h : Below W.heap.size W w1) (k : W.cell? a = some v) : w1.cell? a = some v := (h.cell (World.block_lt_of_cell? W a k)).trans k
theorem keepf {W w1 : World} {a : Addr} {v : Value} (h : Below W.heap.size W w1) (k : W.cell? a = some v) (f : W.frozen? a = false) : w1.frozen? a = false := (h.frozen (World.block_lt_of_cell? W a k)).trans f
theorem below_drew {B : Nat} {a w : World} (h : Below B a w) : Below B a w.drew := h.drew
theorem grown_refl (w : World) (row : Option Nat) : w.grownBy w row := ⟨rfl, rfl, rfl, Nat.le_refl _, fun _ _ _ => rfl⟩
theorem grown_set {a w : World} {b : Nat} (h : a.grownBy w (some b)) (i : Nat) (v : Value) : a.grownBy (w.setCell ⟨b, i, none⟩ v) (some b) :=
  grown_trans h ⟨rfl, rfl, rfl, by simp [World.setCell], fun k _ hn => Below.heap_setCell _ _ _ _ (fun e => hn (by rw [e]))⟩
theorem u8_of (n : Int) (m : Nat) (h : n = (m : Int)) : n % 256 = (((UInt8.ofNat m).toNat : Nat) : Int) := by
  subst h; simp
/-- The four bytes of n at k. -/
def setL (l : List UInt8) (k n : Nat) : List UInt8 :=
  (((l.set k (UInt8.ofNat (n / 16777216))).set (k + 1) (UInt8.ofNat (n / 65536))).set (k + 2) (UInt8.ofNat (n / 256))).set (k + 3) (UInt8.ofNat n)
theorem setL_length (l : List UInt8) (k n : Nat) : (setL l k n).length = l.length := by simp [setL]
end Go.Proofs.Ytcfmimfkaabmkaa
