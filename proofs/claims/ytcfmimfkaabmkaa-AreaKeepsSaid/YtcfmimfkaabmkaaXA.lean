/- Common ground of the walks: imports, small facts on values, bytes in a block, the cut of a slice at its end. -/
import Derived.Test.YtcfmimfkaabmkaaProg
import Derived.WalkKit
import Derived.WalkSpells
import Derived.WalkLawsBesides
import Derived.Deep.QuietTactic
import Derived.BigQuiet
import Derived.Deep.RegionHeld3
import Derived.Deep.DrawnRows
import Derived.OrdersIn
import Derived.TacticsIn
import Derived.RangeFuncCalls
import Derived.Laws.CopyRow
import Derived.Laws.MakeOwn
import Derived.Laws.OwnMore
import Derived.Laws.BytesArg
import Derived.RangeFuncFrom
import Derived.RangeFuncLeaves
set_option linter.unusedVariables false
set_option linter.unusedSimpArgs false
namespace Go.Proofs.Ytcfmimfkaabmkaa
open Go.RowKit
theorem hid {p : Prop} (h : p) : Hid p := h
theorem ret_int {k : IntKind} {a b : Int} (h : a = b) : Ending.returned (.int k a) = .returned (.int k b) := by rw [h]
theorem ret_bool {a b : Bool} (h : a = b) : Ending.returned (.bool a) = .returned (.bool b) := by rw [h]

/-- The least multiple of 8 that is not less than n. -/
def upZ (n : Int) : Int := (n + 7) / 8 * 8
theorem upZ_bd (n : Int) (_h : 0 ≤ n) : n ≤ upZ n ∧ upZ n ≤ n + 7 := by unfold upZ; omega
theorem upZ_8 (n : Int) : upZ n % 8 = 0 := by unfold upZ; omega

/-- Where the slice x[l:] begins: at its capacity's end it keeps the old address. -/
def cutAt (b off l cap : Nat) : Option Addr := if cap = l then some ⟨b, off, none⟩ else some ⟨b, off + l, none⟩
theorem cutAt_lt {b off l cap len : Nat} (h : len ≤ cap) (h0 : 0 < len - l) : cutAt b off l cap = some ⟨b, off + l, none⟩ := by
  unfold cutAt; rw [if_neg (by omega)]
theorem addr_add (b off l : Nat) : (⟨b, off, none⟩ : Addr).add l = ⟨b, off + l, none⟩ := by
  unfold Addr.add; split
  · rename_i h; rw [h]; rfl
  · rfl
theorem sizeOf5 (w : World) : (sizeOf 5).run Try.prog w = .ok 1 w := by kernel_rfl
theorem elem31 : Try.prog.elem 31 = 5 := by kernel_rfl
theorem elem79 : Try.prog.elem 79 = 5 := by kernel_rfl
theorem slice31 : Try.prog.underlying 31 = some (.slice (Try.prog.elem 31)) := by kernel_rfl
theorem slice79 : Try.prog.underlying 79 = some (.slice (Try.prog.elem 79)) := by kernel_rfl
@[go_sem high] theorem run_cut31 (b off len cap : Nat) (w : World) (kl : IntKind) (l : Int) (h0 : 0 ≤ l) (h1 : l ≤ len) :
    (Instr.slice 31 (.slice (some ⟨b, off, none⟩) len cap) (some (.int kl l)) none none).run Try.prog w = .ok (.slice (cutAt b off l.toNat cap) (len - l.toNat) (cap - l.toNat)) w := by
  rw [run_slice_l (t := 31) (ht := slice31) (kl := kl) (l := l) (h0 := h0) (h1 := h1), elem31, sizeOf5]
  simp only [Result.andThen, sliced, cutAt, Nat.mul_one]
  split <;> simp [addr_add]
@[go_sem high] theorem run_cut79 (b off len cap : Nat) (w : World) (kl : IntKind) (l : Int) (h0 : 0 ≤ l) (h1 : l ≤ len) :
    (Instr.slice 79 (.slice (some ⟨b, off, none⟩) len cap) (some (.int kl l)) none none).run Try.prog w = .ok (.slice (cutAt b off l.toNat cap) (len - l.toNat) (cap - l.toNat)) w := by
  rw [run_slice_l (t := 79) (ht := slice79) (kl := kl) (l := l) (h0 := h0) (h1 := h1), elem79, sizeOf5]
  simp only [Result.andThen, sliced, cutAt, Nat.mul_one]
  split <;> simp [addr_add]
theorem run_slice_lhm79 (b off len cap : Nat) (w : World) (kl kh km : IntKind) (l h m : Int) (h0 : 0 ≤ l) (h1 : l ≤ h) (h2 : h ≤ m) (h3 : m ≤ cap) :
    (Instr.slice 79 (.slice (some ⟨b, off, none⟩) len cap) (some (.int kl l)) (some (.int kh h)) (some (.int km m))).run Try.prog w = .ok (.slice (cutAt b off l.toNat m.toNat) (h.toNat - l.toNat) (m.toNat - l.toNat)) w := by
  rw [run_slice_lhm (t := 79) (ht := slice79) (kl := kl) (kh := kh) (km := km) (l := l) (h := h) (m := m) (h0 := h0) (h1 := h1) (h2 := h2) (h3 := h3), elem79, sizeOf5]
  simp only [Result.andThen, sliced, cutAt, Nat.mul_one]
  split <;> simp [addr_add]
attribute [go_sem high] run_slice_lhm79

/-- Block b is the bytes l. -/
def Bytes (w : World) (b : Nat) (l : List UInt8) : Prop := w.heap[b]? = some (.cells (l.map fun c => Value.int .u8 (c.toNat : Int)).toArray 5 (0, 0))
/-- The byte at i, as a number. -/
def byt (l : List UInt8) (i : Nat) : Int := (((l[i]?.getD 0).toNat : Nat) : Int)
theorem byt_bd (l : List UInt8) (i : Nat) : 0 ≤ byt l i ∧ byt l i ≤ 255 := by
  unfold byt; have := (l[i]?.getD 0).toNat_lt; omega
/-- The number of the four bytes from i on. -/
def num (l : List UInt8) (i : Nat) : Int := byt l i * 16777216 + byt l (i + 1) * 65536 + byt l (i + 2) * 256 + byt l (i + 3)
theorem num_bd (l : List UInt8) (i : Nat) : 0 ≤ num l i ∧ num l i ≤ 4294967295 := by
  unfold num; have := byt_bd l i; have := byt_bd l (i+1); have := byt_bd l (i+2); have := byt_bd l (i+3); omega
theorem Bytes.cell {w : World} {b : Nat} {l : List UInt8} (h : Bytes w b l) {i : Nat} (hi : i < l.length) : w.cell? ⟨b, i, none⟩ = some (.int .u8 (byt l i)) := by
  unfold Bytes at h
  simp [World.cell?, h, byt, List.getElem?_eq_getElem hi]
theorem Bytes.frozen {w : World} {b : Nat} {l : List UInt8} (h : Bytes w b l) (i : Nat) : w.frozen? ⟨b, i, none⟩ = false := by
  unfold Bytes at h
  simp [World.frozen?, h]
theorem Bytes.lt {w : World} {b : Nat} {l : List UInt8} (h : Bytes w b l) : b < w.heap.size := (Array.getElem?_eq_some_iff.1 h).1
theorem Bytes.below {w w' : World} {B b : Nat} {l : List UInt8} (h : Bytes w b l) (hb : Below B w w') (hB : b < B) : Bytes w' b l := (hb.block b hB).trans h
theorem Bytes.grown {w w' : World} {b : Nat} {l : List UInt8} {row : Option Nat} (h : Bytes w b l) (hg : w.grownBy w' row) (hne : row ≠ some b) : Bytes w' b l :=
  (hg.block b h.lt (Ne.symm hne)).trans h
theorem Bytes.set {w : World} {b i : Nat} {l : List UInt8} (h : Bytes w b l) (c : UInt8) : Bytes (w.setCell ⟨b, i, none⟩ (.int .u8 (c.toNat : Int))) b (l.set i c) := by
  unfold Bytes at *
  simp only [World.setCell, Array.getElem?_modify]
  simp [h, List.map_set]

/-- What a call that only makes memory leaves: old cells read as before. -/
theorem bcell {W w1 : World} (hb : Below W.heap.size W w1) : (∀ b o, b < W.heap.size → w1.cell? ⟨b, o, none⟩ = W.cell? ⟨b, o, none⟩) ∧ (∀ b o, b < W.heap.size → w1.frozen? ⟨b, o, none⟩ = W.frozen? ⟨b, o, none⟩) :=
  ⟨fun b o h => hb.cell (p := ⟨b, o, none⟩) h, fun b o h => hb.frozen (p := ⟨b, o, none⟩) h⟩
theorem below_drewN {B : Nat} {a w : World} (h : Below B a w) (n : Nat) : Below B a (w.drewN n) := h.trans ⟨rfl, rfl, rfl, Nat.le_refl _, fun _ _ => rfl⟩
theorem below_grow {w w' : World} (h : Below w.heap.size w w') (row : Option Nat) : w.grownBy w' row := ⟨h.os, h.tape, h.output, h.size, fun k hk _ => h.block k hk⟩
theorem grown_trans {a b c : World} {row : Option Nat} (h : a.grownBy b row) (k : b.grownBy c row) : a.grownBy c row :=
  ⟨k.os.trans h.os, k.tape.trans h.tape, k.output.trans h.output, Nat.le_trans h.size k.size, fun i hi hn => (k.block i (Nat.lt_of_lt_of_le hi h.size) hn).trans (h.block i hi hn)⟩
/-- One more call that only makes memory. -/
theorem below_step {W w w1 : World} (k : Below w.heap.size w w1) (h : Below W.heap.size W w) : Below W.heap.size W w1 := h.trans (k.mono h.size)
/-- A cell that was there is there. -/
theorem keepc {W w1 : World} {a : Addr} {v : Value} (h : Below W.heap.size W w1) (k : W.cell? a = some v) : w1.cell? a = some v := (h.cell (World.block_lt_of_cell? W a k)).trans k
theorem keepf {W w1 : World} {a : Addr} {v : Value} (h : Below W.heap.size W w1) (k : W.cell? a = some v) (f : W.frozen? a = false) : w1.frozen? a = false := (h.frozen (World.block_lt_of_cell? W a k)).trans f
theorem below_drew {B : Nat} {a w : World} (h : Below B a w) : Below B a w.drew := h.drew
theorem grown_refl (w : World) (row : Option Nat) : w.grownBy w row := ⟨rfl, rfl, rfl, Nat.le_refl _, fun _ _ _ => rfl⟩
theorem grown_set {a w : World} {b : Nat} (h : a.grownBy w (some b)) (i : Nat) (v : Value) : a.grownBy (w.setCell ⟨b, i, none⟩ v) (some b) :=
  grown_trans h ⟨rfl, rfl, rfl, by simp [World.setCell], fun k _ hn => Below.heap_setCell _ _ _ _ (fun e => hn (by rw [e]))⟩
theorem u8_of (n : Int) (m : Nat) (h : n = (m : Int)) : n % 256 = (((UInt8.ofNat m).toNat : Nat) : Int) := by
  subst h; simp
/-- The four bytes of n at k. -/
def setL (l : List UInt8) (k n : Nat) : List UInt8 :=
  (((l.set k (UInt8.ofNat (n / 16777216))).set (k + 1) (UInt8.ofNat (n / 65536))).set (k + 2) (UInt8.ofNat (n / 256))).set (k + 3) (UInt8.ofNat n)
theorem setL_length (l : List UInt8) (k n : Nat) : (setL l k n).length = l.length := by simp [setL]
end Go.Proofs.Ytcfmimfkaabmkaa
/- Arithmetic of the bits that package area uses: the mask that rounds down to a multiple of 8, the join of four bytes. -/
set_option linter.unusedVariables false
set_option linter.unusedSimpArgs false
namespace Go.Proofs.Ytcfmimfkaabmkaa
open Go.RowKit
theorem wraps_i64 (n : Int) (h₀ : 0 ≤ n) (h₁ : n < 2 ^ 63) : IntKind.i64.wrap n = n := by rw [IntKind.wrap_i64]; omega
theorem i64_or8 (x y : Int) (hx₀ : 0 ≤ x) (hx : x % 256 = 0) (hx₁ : x < 4611686018427387904) (h₀ : 0 ≤ y) (h₁ : y < 256) : bits .or .i64 x y = x + y :=
  bits_join .i64 63 (by decide) wraps_i64 8 x y hx₀ hx (by omega) h₀ h₁ (by omega)
theorem and_mask8 (a : Nat) (ha : a < 2 ^ 64) : a &&& 18446744073709551608 = a / 8 * 8 := by
  apply Nat.eq_of_testBit_eq
  intro i
  have e1 : (18446744073709551608 : Nat) = (2 ^ 61 - 1) * 2 ^ 3 := by decide
  have e2 : a / 8 * 8 = (a / 2 ^ 3) * 2 ^ 3 := rfl
  rw [Nat.testBit_and, e1, e2, Nat.testBit_mul_two_pow, Nat.testBit_mul_two_pow, Nat.testBit_two_pow_sub_one, Nat.testBit_div_two_pow]
  by_cases h3 : 3 ≤ i
  · by_cases h64 : i - 3 < 61
    · simp [h3, h64]
    · have : a.testBit i = false := Nat.testBit_lt_two_pow (Nat.lt_of_lt_of_le ha (Nat.pow_le_pow_right (by decide) (by omega)))
      simp [h3, this]
  · simp [h3]
theorem i64_mask8 (x : Int) (h0 : 0 ≤ x) (h1 : x < 4611686018427387904) : bits .andNot .i64 x 7 = x / 8 * 8 := by
  obtain ⟨a, rfl⟩ := Int.eq_ofNat_of_zero_le h0
  have ha : a < 4611686018427387904 := by omega
  have e : ((BitVec.ofInt IntKind.i64.bits (a : Int)) &&& ~~~(BitVec.ofInt IntKind.i64.bits 7)).toNat = a / 8 * 8 := by
    rw [BitVec.toNat_and]
    have e1 : (BitVec.ofInt IntKind.i64.bits (a : Int)).toNat = a := by
      rw [BitVec.ofInt_natCast, BitVec.toNat_ofNat]
      exact Nat.mod_eq_of_lt (Nat.lt_trans ha (by decide))
    have e2 : (~~~(BitVec.ofInt IntKind.i64.bits 7)).toNat = 18446744073709551608 := by decide
    rw [e1, e2]
    exact and_mask8 a (Nat.lt_trans ha (by decide))
  show IntKind.i64.wrap _ = _
  simp only [e]
  rw [wraps_i64]
  · simp
  · omega
  · have : a / 8 * 8 ≤ a := Nat.div_mul_le_self a 8
    omega
theorem up_bits (n : Int) (h0 : 0 ≤ n) (h1 : n ≤ 1000000000) : bits BinOp.andNot IntKind.i64 (n + 7) 7 = upZ n :=
  i64_mask8 (n + 7) (by omega) (by omega)
theorem num_of_bits (b0 b1 b2 b3 : Int) (B0 : 0 ≤ b0 ∧ b0 ≤ 255) (B1 : 0 ≤ b1 ∧ b1 ≤ 255) (B2 : 0 ≤ b2 ∧ b2 ≤ 255) (B3 : 0 ≤ b3 ∧ b3 ≤ 255) :
    bits BinOp.or IntKind.i64 (wrap64 (bits BinOp.or IntKind.i64 (wrap64 (bits BinOp.or IntKind.i64 (wrap64 (bits BinOp.or IntKind.i64 0 b0 * 256)) b1 * 256)) b2 * 256)) b3 =
      b0 * 16777216 + b1 * 65536 + b2 * 256 + b3 := by
  have w : ∀ n : Int, 0 ≤ n → n < 1000000000000 → wrap64 n = n := fun n h h' => IntWalk.wrap64_in n ⟨by omega, by omega⟩
  have e0 : bits BinOp.or IntKind.i64 0 b0 = b0 := by rw [i64_or8 0 b0 (by omega) (by omega) (by omega) (by omega) (by omega)]; omega
  rw [e0, w (b0 * 256) (by omega) (by omega), i64_or8 (b0 * 256) b1 (by omega) (by omega) (by omega) (by omega) (by omega),
    w ((b0 * 256 + b1) * 256) (by omega) (by omega), i64_or8 _ b2 (by omega) (by omega) (by omega) (by omega) (by omega),
    w (((b0 * 256 + b1) * 256 + b2) * 256) (by omega) (by omega), i64_or8 _ b3 (by omega) (by omega) (by omega) (by omega) (by omega)]
  omega
end Go.Proofs.Ytcfmimfkaabmkaa
/- A region that draws its order, walked once in the order of the text: each operation yields one value in every world of a class S, keeps S, and may lay down a fact F i that every operation keeps. -/
set_option linter.unusedVariables false
set_option linter.unusedSimpArgs false
namespace Go.Proofs.Ytcfmimfkaabmkaa
open Go.RowKit

section
variable {P : Program} {ops : Array Oper} {S : World → Prop} {F : Nat → World → Prop}

/-- What is asked once an operation has been carried out: it yields v, and R holds of the world. -/
def freeUpon (P : Program) (R : World → Prop) (v : Value) : Result Next → Prop
  | .ok (.value u) w' => u = v ∧ R w'
  | .ok .skip w' => v = undef ∧ R w'
  | .ok (.enter f args) w' => Calls P f args w' fun e w'' => e = .returned v ∧ R w''
  | _ => False

/-- The operation number i at the frame a: in every world of the class in which the facts of those that it waits for hold. -/
def freeAt (P : Program) (S : World → Prop) (F : Nat → World → Prop) (i : Nat) (o : Oper) (a : Act) (v : Value) : Prop :=
  ∀ w, S w → (∀ e ∈ o.after, Region.binds .any e = true → F e.on w) → freeUpon P (fun w' => S w' ∧ F i w' ∧ ∀ j, F j w → F j w') v ((execOp a.eval o).run P w)

def wpFree (P : Program) (ops : Array Oper) (S : World → Prop) (F : Nat → World → Prop) (Q : Act → Prop) : Nat → List Oper → Act → Prop
  | _, [], a => Q a
  | i, o :: rest, a => if Region.wanted o (yielded ops a.tmps) then ∃ v, freeAt P S F i o a v ∧ wpFree P ops S F Q (i + 1) rest (a.put o.dst v)
      else (∀ w, S w → F i w) ∧ wpFree P ops S F Q (i + 1) rest (a.put o.dst undef)

/-- Does i wait for j, directly or through others? -/
def reach (ops : Array Oper) : Nat → Nat → Nat → Bool
  | 0, _, _ => false
  | n + 1, i, j => match ops[i]? with
    | none => false
    | some o => o.after.toList.any fun e => Region.binds .any e && (e.on == j || reach ops n e.on j)

def freeOk (ops : Array Oper) : Bool :=
  Region.noSelect ops &&
  (ops.toList.zipIdx.all fun (o, i) =>
    (match o.op with | .defer _ => false | _ => true) &&
    (o.after.toList.all fun e => !Region.binds .any e || decide (e.on < i)) &&
    (ops.toList.zipIdx.all fun (p, j) => match p.dst with
      | none => true
      | some d => (i == j || o.dst != some d) && (!(o.looksAt ops).contains d || (decide (j < i) && reach ops 4 i j))))

structure FreeOk (ops : Array Oper) : Prop where
  sel : ∀ (j : Nat) (o : Oper) cs b, ops[j]? = some o → o.op ≠ .select cs b
  dfr : ∀ (j : Nat) (o : Oper) c, ops[j]? = some o → o.op ≠ .defer c
  back : ∀ (i : Nat) (o : Oper), ops[i]? = some o → ∀ e ∈ o.after, Region.binds .any e = true → e.on < i
  apart : ∀ (i j : Nat) (o p : Oper) (d : Tmp), ops[i]? = some o → ops[j]? = some p → p.dst = some d → i ≠ j → o.dst ≠ some d
  looks : ∀ (i j : Nat) (o p : Oper) (d : Tmp), ops[i]? = some o → ops[j]? = some p → p.dst = some d → d ∈ o.looksAt ops → j < i ∧ reach ops 4 i j = true

theorem freeOk_spec (h : freeOk ops = true) : FreeOk ops := by
  unfold freeOk at h
  rw [Bool.and_eq_true] at h
  obtain ⟨h1, h2⟩ := h
  have all : ∀ (i : Nat) (o : Oper), ops[i]? = some o → (o, i) ∈ ops.toList.zipIdx := fun i o ho => by
    rw [List.mem_zipIdx_iff_getElem?]; simpa using ho
  have key : ∀ (i : Nat) (o : Oper), ops[i]? = some o → _ := fun i o ho => List.all_eq_true.1 h2 (o, i) (all i o ho)
  refine ⟨fun j o cs b => Region.noSelect_spec h1 j o cs b, fun j o c ho hc => ?_, fun i o ho e he hb => ?_, fun i j o p d ho hp hd hij => ?_, fun i j o p d ho hp hd hl => ?_⟩
  · have := key j o ho
    simp [hc] at this
  · have := key i o ho
    simp only [Bool.and_eq_true] at this
    have := List.all_eq_true.1 this.1.2 e (by simpa using he)
    simpa [hb] using this
  · have := key i o ho
    simp only [Bool.and_eq_true] at this
    have := List.all_eq_true.1 this.2 (p, j) (all j p hp)
    simp only [hd, Bool.and_eq_true] at this
    have h3 := this.1
    simp only [Bool.or_eq_true, beq_iff_eq, bne_iff_ne] at h3
    exact h3.resolve_left hij
  · have := key i o ho
    simp only [Bool.and_eq_true] at this
    have := List.all_eq_true.1 this.2 (p, j) (all j p hp)
    simp only [hd, Bool.and_eq_true] at this
    have h3 := this.2
    simpa [hl] using h3

theorem put_slot {a : Act} {x : Option Tmp} {v : Value} {t : Tmp} (h : x ≠ some t) : (a.put x v).tmps[t]? = a.tmps[t]? := by
  cases x with
  | none => rfl
  | some d =>
    have : d ≠ t := fun e => h (by rw [e])
    simp [Act.put, Array.getElem?_setIfInBounds_ne this]
theorem put_size {a : Act} {x : Option Tmp} {v : Value} : (a.put x v).tmps.size = a.tmps.size := by
  cases x <;> simp [Act.put]
theorem put_defers' {a : Act} {x : Option Tmp} {v : Value} : (a.put x v).defers = a.defers := by
  cases x <;> rfl
theorem act_ext {a b : Act} (h1 : a.defers = b.defers) (h2 : ∀ t : Nat, a.tmps[t]? = b.tmps[t]?) : a = b := by
  have h3 : a.tmps = b.tmps := Array.ext_getElem? h2
  cases a; cases b
  simp only at h1 h3
  rw [h1, h3]
theorem eval_slots {a b : Act} {x : Operand} (h : ∀ t, x = .tmp t → a.tmps[t]? = b.tmps[t]?) : a.eval x = b.eval x := by
  cases x with
  | tmp t => simp only [Act.eval, Array.getD_eq_getD_getElem?, h t rfl]
  | _ => rfl
/-- Two frames that agree where an operation looks. -/
def Agree (ops : Array Oper) (o : Oper) (a b : Act) : Prop := ∀ t, t ∈ o.looksAt ops → a.tmps[t]? = b.tmps[t]?
theorem Agree.exec {o : Oper} {a b : Act} (h : Agree ops o a b) (hs : ∀ cs b, o.op ≠ .select cs b) : execOp a.eval o = execOp b.eval o :=
  execOp_congr o hs fun x hx => eval_slots fun t e => h t (by
    subst e
    exact List.mem_append_left _ (List.mem_filterMap.2 ⟨.tmp t, by simpa using hx, rfl⟩))
theorem Agree.wanted {o : Oper} {a b : Act} (h : Agree ops o a b) : Region.wanted o (yielded ops a.tmps) = Region.wanted o (yielded ops b.tmps) := by
  unfold Region.wanted
  cases hg : o.guard with
  | none => rfl
  | some gw =>
    obtain ⟨g, want⟩ := gw
    have hy : yielded ops a.tmps g = yielded ops b.tmps g := by
      unfold yielded
      cases ht : (ops[g]?).bind (·.dst) with
      | none => rfl
      | some t =>
        have := h t (by simp [Oper.looksAt, hg, ht])
        simp only [Option.bind_some, this]
    simp only [hy]

/-- What the walk shows of the operation number i, at the frame that stands at the end. -/
def StepAt (P : Program) (ops : Array Oper) (S : World → Prop) (F : Nat → World → Prop) (i : Nat) (o : Oper) (a : Act) : Prop :=
  (Region.wanted o (yielded ops a.tmps) = true ∧ ∃ v, freeAt P S F i o a v ∧ ∀ t, o.dst = some t → t < a.tmps.size → a.tmps[t]? = some v) ∨
  (Region.wanted o (yielded ops a.tmps) = false ∧ (∀ w, S w → F i w) ∧ ∀ t, o.dst = some t → t < a.tmps.size → a.tmps[t]? = some undef)

theorem wpFree_end {Q : Act → Prop} (hk : FreeOk ops) : ∀ (l : List Oper) (i : Nat) (a : Act), (∀ k, l[k]? = ops[i + k]?) → wpFree P ops S F Q i l a →
    ∃ z, Q z ∧ z.defers = a.defers ∧ z.tmps.size = a.tmps.size ∧ (∀ t, (∀ j o, i ≤ j → ops[j]? = some o → o.dst ≠ some t) → z.tmps[t]? = a.tmps[t]?) ∧
      ∀ j o, i ≤ j → ops[j]? = some o → StepAt P ops S F j o z
  | [], i, a, hl, h => ⟨a, h, rfl, rfl, fun _ _ => rfl, fun j o hij ho => by
      have := hl (j - i)
      rw [show i + (j - i) = j by omega, ho] at this
      simp at this⟩
  | o :: l, i, a, hl, h => by
    have h0 : ops[i]? = some o := by simpa using (hl 0).symm
    have hl' : ∀ k, l[k]? = ops[i + 1 + k]? := fun k => by have := hl (k + 1); simpa [Nat.add_assoc, Nat.add_comm 1 k] using this
    -- the later operations leave alone what o looks at, and what o has written
    have late : ∀ (u : Value) (z : Act), (∀ t, (∀ j p, i + 1 ≤ j → ops[j]? = some p → p.dst ≠ some t) → z.tmps[t]? = (a.put o.dst u).tmps[t]?) → Agree ops o z a := fun u z hz t ht => by
      rw [hz t (fun j p hj hp hd => by have := (hk.looks i j o p t h0 hp hd ht).1; omega)]
      exact put_slot (fun hd => by have := (hk.looks i i o o t h0 h0 hd ht).1; omega)
    have own : ∀ (u : Value) (z : Act), z.tmps.size = (a.put o.dst u).tmps.size → (∀ t, (∀ j p, i + 1 ≤ j → ops[j]? = some p → p.dst ≠ some t) → z.tmps[t]? = (a.put o.dst u).tmps[t]?) →
        ∀ t, o.dst = some t → t < z.tmps.size → z.tmps[t]? = some u := fun u z hsz hz t hd hlt => by
      rw [hz t (fun j p hj hp hd' => hk.apart j i p o t hp h0 hd (by omega) hd')]
      rw [hsz, put_size] at hlt
      simp [Act.put, hd, hlt]
    have fin : ∀ (u : Value) (z : Act), (∀ t, (∀ j p, i + 1 ≤ j → ops[j]? = some p → p.dst ≠ some t) → z.tmps[t]? = (a.put o.dst u).tmps[t]?) →
        ∀ t, (∀ j p, i ≤ j → ops[j]? = some p → p.dst ≠ some t) → z.tmps[t]? = a.tmps[t]? := fun u z hz t ht => by
      rw [hz t (fun j p hj => ht j p (by omega))]
      exact put_slot (ht i o (Nat.le_refl _) h0)
    unfold wpFree at h
    split at h
    · rename_i hw
      obtain ⟨v, hf, hr⟩ := h
      obtain ⟨z, hQ, hd, hsz, hz, hst⟩ := wpFree_end hk l (i + 1) (a.put o.dst v) hl' hr
      refine ⟨z, hQ, hd.trans put_defers', hsz.trans put_size, fin v z hz, fun j p hij hp => ?_⟩
      by_cases e : j = i
      · subst e
        rw [h0] at hp; cases hp
        have ag := late v z hz
        refine .inl ⟨by rw [ag.wanted]; exact hw, v, ?_, own v z hsz hz⟩
        unfold freeAt at hf ⊢
        rw [ag.exec (fun cs b => hk.sel j o cs b h0)]
        exact hf
      · exact hst j p (by omega) hp
    · rename_i hw
      obtain ⟨hF, hr⟩ := h
      obtain ⟨z, hQ, hd, hsz, hz, hst⟩ := wpFree_end hk l (i + 1) (a.put o.dst undef) hl' hr
      refine ⟨z, hQ, hd.trans put_defers', hsz.trans put_size, fin undef z hz, fun j p hij hp => ?_⟩
      by_cases e : j = i
      · subst e
        rw [h0] at hp; cases hp
        have ag := late undef z hz
        exact .inr ⟨by rw [ag.wanted]; simpa using hw, hF, own undef z hsz hz⟩
      · exact hst j p (by omega) hp

theorem reach_listed (listed : Array Bool) (hc : ∀ i o, ops[i]? = some o → listed.getD i false = true → ∀ e ∈ o.after, Region.binds .any e = true → listed.getD e.on false = true) :
    ∀ (n i j : Nat) (o : Oper), ops[i]? = some o → (∀ e ∈ o.after, Region.binds .any e = true → listed.getD e.on false = true) → reach ops n i j = true → listed.getD j false = true
  | 0, _, _, _, _, _, h => by simp [reach] at h
  | n + 1, i, j, o, ho, he, h => by
    unfold reach at h
    simp only [ho] at h
    obtain ⟨e, hem, h⟩ := List.any_eq_true.1 h
    simp only [Bool.and_eq_true, Bool.or_eq_true, beq_iff_eq] at h
    have hl := he e (by simpa using hem) h.1
    rcases h.2 with h | h
    · rw [← h]; exact hl
    · cases hp : ops[e.on]? with
      | none => cases n <;> simp [reach, hp] at h
      | some p => exact reach_listed listed hc n e.on j p hp (hc e.on p hp hl) h

/-- Between two operations: what is listed has left its value and its fact. -/
structure Mid (ops : Array Oper) (S : World → Prop) (F : Nat → World → Prop) (z : Act) (listed : Array Bool) (a : Act) (w : World) : Prop where
  size : listed.size = ops.size
  closed : ∀ i o, ops[i]? = some o → listed.getD i false = true → ∀ e ∈ o.after, Region.binds .any e = true → listed.getD e.on false = true
  len : a.tmps.size = z.tmps.size
  defers : a.defers = z.defers
  slots : ∀ t, (∀ j o, ops[j]? = some o → listed.getD j false = false → o.dst ≠ some t) → a.tmps[t]? = z.tmps[t]?
  cls : S w
  facts : ∀ j, listed.getD j false = true → F j w

theorem all_listed (hk : FreeOk ops) {listed : Array Bool} (hsz : listed.size = ops.size) (hr : Region.ready .any ops listed = []) : ∀ i o, ops[i]? = some o → listed.getD i false = true := by
  intro i
  induction i using Nat.strongRecOn with
  | _ i ih =>
    intro o ho
    have hlt : i < ops.size := (Array.getElem?_eq_some_iff.1 ho).1
    cases hb : listed.getD i true with
    | true => simp only [Array.getD_eq_getD_getElem?, Array.getElem?_eq_getElem (show i < listed.size by omega)] at hb ⊢; exact hb
    | false =>
      have : i ∈ Region.ready .any ops listed := mem_ready.2 ⟨hb, o, ho, fun e he hbd => by
        have hlt' := hk.back i o ho e he hbd
        cases hp : ops[e.on]? with
        | none => have := Array.getElem?_eq_none_iff.1 hp; omega
        | some p => exact ih e.on hlt' p hp⟩
      rw [hr] at this
      cases this

/-- A fence that lets everything by. -/
structure Open (G : Fence) : Prop where
  fn : ∀ f, G.fn f
  depth : G.depth = none
  alive : G.alive = false
theorem Open.calls {G : Fence} (hG : Open G) {n : Nat} {f : FuncId} {args : Array Value} {w : World} {R : Ending → World → Prop} (h : Calls P f args w R) : CallsIn G n P f args w R := by
  obtain ⟨fn, depth, alive, round⟩ := G
  have e1 : fn = fun _ => True := funext fun f => by simpa using hG.fn f
  have e2 : depth = none := hG.depth
  have e3 : alive = false := hG.alive
  subst e1 e2 e3
  exact (callsIn_wide (n := n)).2 h

theorem free_upon {G : Fence} (hG : Open G) {n : Nat} {o : Oper} {a : Act} {w : World} {v : Value} {R : World → Prop} {K : Act → World → Prop} {Q : Exit → Act → World → Prop} (hd : ∀ c, o.op ≠ .defer c)
    (h : freeUpon P R v ((execOp a.eval o).run P w)) (hK : ∀ w', R w' → K (a.put o.dst v) w') : o.wpIn G n P a w K Q := by
  refine ⟨fun f _ => hG.fn f, ?_⟩
  have e : o.semAt G.round a.eval = execOp a.eval o := by
    cases hr : G.round with
    | none => exact Oper.semAt_none _ _
    | some l => exact Oper.semAt_some l _ _ hd
  rw [e]
  generalize (execOp a.eval o).run P w = r at h
  cases r with
  | ok x w' =>
    cases x <;> simp only [freeUpon] at h <;> simp only [Oper.uponIn]
    case value u => rw [h.1]; exact hK _ h.2
    case skip => rw [← h.1]; exact hK _ h.2
    case enter f args =>
      refine ⟨fun hs => (by rw [hG.depth] at hs; cases hs), hG.calls (h.mono fun e w'' he => ?_)⟩
      obtain ⟨rfl, hr⟩ := he
      exact hK _ hr
  | halt x w' => simp only [freeUpon] at h

theorem wpAny_free {G : Fence} (hG : Open G) {n : Nat} {Q : Exit → Act → World → Prop} {z : Act} (hk : FreeOk ops) (hst : ∀ j o, ops[j]? = some o → StepAt P ops S F j o z)
    (hQ : ∀ w, S w → (∀ j o, ops[j]? = some o → F j w) → Q .normal z w) :
    ∀ (fuel : Nat) (listed : Array Bool) (a : Act) (w : World), ((List.range ops.size).countP fun i => !listed.getD i false) = fuel → Mid ops S F z listed a w → wpAnyIn G n P .any ops Q fuel listed a w := by
  have done : ∀ (listed : Array Bool) (a : Act) (w : World), Mid ops S F z listed a w → Region.ready .any ops listed = [] → Q .normal a w := fun listed a w hm hr => by
    have hal := all_listed hk hm.size hr
    have : a = z := act_ext hm.defers fun t => hm.slots t fun j o ho hl => by rw [hal j o ho] at hl; cases hl
    rw [this]
    exact hQ w hm.cls fun j o ho => hm.facts j (hal j o ho)
  intro fuel
  induction fuel with
  | zero =>
    intro listed a w hc hm
    have hr : Region.ready .any ops listed = [] := by
      rw [List.eq_nil_iff_forall_not_mem]
      intro i hi
      obtain ⟨h1, o, ho, _⟩ := mem_ready.1 hi
      have hlt : i < ops.size := (Array.getElem?_eq_some_iff.1 ho).1
      have := List.countP_eq_zero.1 hc i (List.mem_range.2 hlt)
      simp only [Array.getD_eq_getD_getElem?, Array.getElem?_eq_getElem (show i < listed.size by rw [hm.size]; exact hlt)] at h1 this
      simp at h1 this
      rw [h1] at this
      cases this
    exact ⟨hr, done listed a w hm hr⟩
  | succ fuel ih =>
    intro listed a w hc hm
    refine ⟨done listed a w hm, fun i hi => ?_⟩
    obtain ⟨h1, o, ho, he⟩ := mem_ready.1 hi
    have hlt : i < ops.size := (Array.getElem?_eq_some_iff.1 ho).1
    have hlt' : i < listed.size := by rw [hm.size]; exact hlt
    have hun : listed.getD i false = false := by
      simp only [Array.getD_eq_getD_getElem?, Array.getElem?_eq_getElem hlt'] at h1 ⊢; exact h1
    have ag : Agree ops o a z := fun t ht => hm.slots t fun j p hp hl hd => by
      have hr := (hk.looks i j o p t ho hp hd ht).2
      rw [reach_listed listed hm.closed 4 i j o ho he hr] at hl
      cases hl
    have next : ∀ (u : Value) (w' : World), (∀ t, o.dst = some t → t < z.tmps.size → z.tmps[t]? = some u) → S w' → F i w' → (∀ j, listed.getD j false = true → F j w') →
        wpAnyIn G n P .any ops Q fuel (listed.setIfInBounds i true) (a.put o.dst u) w' := fun u w' hu hS hF hFs => by
      refine ih _ _ _ ?_ ⟨by simp [hm.size], fun k p hp hkl e hem hb => ?_, put_size.trans hm.len, put_defers'.trans hm.defers, fun t ht => ?_, hS, fun j hj => ?_⟩
      · have hci : ∀ j, (listed.setIfInBounds i true).getD j false = (listed.getD j false || decide (j = i)) := fun j => by
          by_cases hji : j = i
          · subst hji; simp [hlt']
          · rw [getD_set_ne false (Ne.symm hji)]; simp [hji]
        have hcount : ∀ (l : List Nat), l.Nodup → i ∈ l → (l.countP fun j => !(listed.setIfInBounds i true).getD j false) + 1 = l.countP fun j => !listed.getD j false := by
          intro l
          induction l with
          | nil => intro _ h; cases h
          | cons x l ihl =>
            intro hnd hmem
            rw [List.nodup_cons] at hnd
            rw [List.countP_cons, List.countP_cons]
            by_cases hx : x = i
            · subst hx
              have hsame : (l.countP fun j => !(listed.setIfInBounds x true).getD j false) = l.countP fun j => !listed.getD j false :=
                List.countP_congr fun j hj => by
                  have : j ≠ x := fun e => hnd.1 (e ▸ hj)
                  rw [hci]; simp [this]
              rw [hsame, hci, hun]; simp
            · have := ihl hnd.2 ((List.mem_cons.1 hmem).resolve_left (Ne.symm hx))
              have e2 : (listed.setIfInBounds i true).getD x false = listed.getD x false := getD_set_ne false (Ne.symm hx)
              rw [e2, ← this]
              omega
        have := hcount (List.range ops.size) List.nodup_range (List.mem_range.2 hlt)
        omega
      · by_cases hki : k = i
        · subst hki
          rw [ho] at hp; cases hp
          exact getD_set_true (he e hem hb)
        · rw [getD_set_ne false (Ne.symm hki)] at hkl
          exact getD_set_true (hm.closed k p hp hkl e hem hb)
      · by_cases hd : o.dst = some t
        · by_cases hts : t < z.tmps.size
          · rw [hu t hd hts]
            have : t < a.tmps.size := by rw [hm.len]; exact hts
            simp [Act.put, hd, this]
          · have e1 : (a.put o.dst u).tmps[t]? = none := Array.getElem?_eq_none (by rw [put_size, hm.len]; exact Nat.le_of_not_lt hts)
            have e2 : z.tmps[t]? = none := Array.getElem?_eq_none (Nat.le_of_not_lt hts)
            rw [e1, e2]
        · rw [put_slot hd]
          refine hm.slots t fun j p hp hl => ?_
          by_cases hji : j = i
          · subst hji; rw [ho] at hp; cases hp; exact hd
          · exact ht j p hp (by rw [getD_set_ne false (Ne.symm hji)]; exact hl)
      · by_cases hji : j = i
        · rw [hji]; exact hF
        · rw [getD_set_ne false (Ne.symm hji)] at hj; exact hFs j hj
    unfold wpOpIn
    simp only [ho]
    rcases hst i o ho with ⟨hw, v, hf, hv⟩ | ⟨hw, hF, hv⟩
    · rw [← ag.wanted] at hw
      rw [if_pos hw]
      unfold freeAt at hf
      rw [← ag.exec (fun cs b => hk.sel i o cs b ho)] at hf
      have := hf w hm.cls (fun e hem hb => hm.facts e.on (he e hem hb))
      exact free_upon hG (fun c => hk.dfr i o c ho) this fun w' ⟨hS, hFi, hkeep⟩ => next v w' hv hS hFi fun j hj => hkeep j (hm.facts j hj)
    · rw [← ag.wanted] at hw
      rw [if_neg (by rw [hw]; simp)]
      exact ⟨fun f _ => hG.fn f, next undef w hv hm.cls (hF w hm.cls) hm.facts⟩

/-- **One walk in the order of the text serves every order.** -/
theorem wpIn_region_free {G : Fence} (hG : Open G) {n id : Nat} {Q : Exit → Act → World → Prop} {a : Act} {w : World} {l : List Oper} (hm : P.follows .mixedOrders = true) (hB : freeOk l.toArray = true) (S : World → Prop) (F : Nat → World → Prop)
    (hS : S w.drew) (h : wpFree P l.toArray S F (fun a' => ∀ w', S w' → (∀ j, j < l.length → F j w') → Q .normal a' w') 0 l a) : (Code.region id l.toArray true).wpIn G n P Q a w := by
  have hk := freeOk_spec hB
  refine wpIn_region_any hm ?_
  obtain ⟨z, hQ, hd, hsz, hz, hst⟩ := wpFree_end hk l 0 a (by simp) h
  refine wpAny_free hG hk (fun j o ho => hst j o (Nat.zero_le _) ho) (fun w' hS' hF => hQ w' hS' fun j hj => hF j (l[j]) (by simp [hj])) _ _ _ _ ?_ ⟨by simp, ?_, hsz.symm, hd.symm, ?_, hS, ?_⟩
  · have : ∀ i ∈ List.range l.toArray.size, (!(Array.replicate l.toArray.size false).getD i false) = true := fun i hi => by
      have := List.mem_range.1 hi
      simp at this
      simp [this]
    rw [List.countP_eq_length.2 this, List.length_range]
  · intro i o _ hl
    exfalso
    revert hl
    simp only [Array.getD_eq_getD_getElem?, Array.getElem?_replicate]
    split <;> simp
  · intro t ht
    refine (hz t fun j o _ ho => ht j o ho ?_).symm
    simp only [Array.getD_eq_getD_getElem?, Array.getElem?_replicate]
    split <;> simp
  · intro j hl
    exfalso
    revert hl
    simp only [Array.getD_eq_getD_getElem?, Array.getElem?_replicate]
    split <;> simp
theorem open_wide : Open Fence.wide := ⟨fun _ => trivial, rfl, rfl⟩
theorem open_round (l : Nat) : Open (Fence.wide.inRound l) := ⟨fun _ => trivial, rfl, rfl⟩
theorem wp_region_free {id : Nat} {Q : Exit → Act → World → Prop} {a : Act} {w : World} {l : List Oper} (S : World → Prop) (F : Nat → World → Prop) (hm : P.follows .mixedOrders = true) (hB : freeOk l.toArray = true)
    (hS : S w.drew) (h : wpFree P l.toArray S F (fun a' => ∀ w', S w' → (∀ j, j < l.length → F j w') → Q .normal a' w') 0 l a) : (Code.region id l.toArray true).wp P Q a w :=
  (wpIn_wide (n := 0)).1 (wpIn_region_free open_wide hm hB S F hS h)
end
section
variable {P : Program} {ops : Array Oper} {S : World → Prop} {F : Nat → World → Prop} {Q : Act → Prop} {i : Nat} {o : Oper} {rest : List Oper} {a : Act} {v : Value}
theorem wpFree_nil (h : Q a) : wpFree P ops S F Q i [] a := h
/-- An operation that is passed over. -/
theorem wpFree_skip (hw : Region.wanted o (yielded ops a.tmps) = false) (hF : ∀ w, S w → F i w) (h : ∀ K : Act → Prop, (∀ a, wpFree P ops S F Q (i + 1) rest a → K a) → K (a.put o.dst undef)) : wpFree P ops S F Q i (o :: rest) a := by
  unfold wpFree; rw [if_neg (by rw [hw]; simp)]; exact ⟨hF, h _ fun _ h => h⟩
/-- An operation that leaves the world alone. -/
theorem wpFree_val (hw : Region.wanted o (yielded ops a.tmps) = true) (hF : ∀ w, S w → F i w)
    (h : ∀ K : Act → Prop, (∀ a, wpFree P ops S F Q (i + 1) rest a → K a) → ∃ v, (∀ w, S w → (execOp a.eval o).run P w = .ok (.value v) w) ∧ K (a.put o.dst v)) : wpFree P ops S F Q i (o :: rest) a := by
  unfold wpFree; rw [if_pos hw]
  obtain ⟨v, hv, hr⟩ := h _ fun _ h => h
  refine ⟨v, fun w hS _ => ?_, hr⟩
  rw [hv w hS]
  exact ⟨rfl, hS, hF w hS, fun _ h => h⟩
/-- A call. -/
theorem wpFree_call (hw : Region.wanted o (yielded ops a.tmps) = true)
    (h : ∀ K : Act → Prop, (∀ a, wpFree P ops S F Q (i + 1) rest a → K a) → ∃ f args, (∀ w, (execOp a.eval o).run P w = .ok (.enter f args) w) ∧
      ∃ v, (∀ w, S w → Calls P f args w fun e w' => e = .returned v ∧ S w' ∧ F i w' ∧ ∀ j, F j w → F j w') ∧ K (a.put o.dst v)) : wpFree P ops S F Q i (o :: rest) a := by
  unfold wpFree; rw [if_pos hw]
  obtain ⟨f, args, hv, v, hc, hr⟩ := h _ fun _ h => h
  refine ⟨v, fun w hS _ => ?_, hr⟩
  rw [hv w]
  exact hc w hS
/-- An operation in general. -/
theorem wpFree_gen (hw : Region.wanted o (yielded ops a.tmps) = true) (h : ∀ K : Act → Prop, (∀ a, wpFree P ops S F Q (i + 1) rest a → K a) → ∃ v, freeAt P S F i o a v ∧ K (a.put o.dst v)) : wpFree P ops S F Q i (o :: rest) a := by
  unfold wpFree; rw [if_pos hw]; exact h _ fun _ h => h
/-- A store, or whatever else makes one world of one. -/
theorem wpFree_step (hw : Region.wanted o (yielded ops a.tmps) = true)
    (h : ∀ K : Act → Prop, (∀ a, wpFree P ops S F Q (i + 1) rest a → K a) → ∃ v, (∀ w, S w → ∃ w', (execOp a.eval o).run P w = .ok (.value v) w' ∧ S w' ∧ F i w' ∧ ∀ j, F j w → F j w') ∧ K (a.put o.dst v)) : wpFree P ops S F Q i (o :: rest) a := by
  unfold wpFree; rw [if_pos hw]
  obtain ⟨v, hv, hr⟩ := h _ fun _ h => h
  refine ⟨v, fun w hS _ => ?_, hr⟩
  obtain ⟨w', e, h1⟩ := hv w hS
  rw [e]
  exact ⟨rfl, h1⟩
theorem wpFree_skipStep (hw : Region.wanted o (yielded ops a.tmps) = true)
    (h : ∀ K : Act → Prop, (∀ a, wpFree P ops S F Q (i + 1) rest a → K a) → (∀ w, S w → ∃ w', (execOp a.eval o).run P w = .ok .skip w' ∧ S w' ∧ F i w' ∧ ∀ j, F j w → F j w') ∧ K (a.put o.dst undef)) : wpFree P ops S F Q i (o :: rest) a := by
  unfold wpFree; rw [if_pos hw]
  obtain ⟨hv, hr⟩ := h _ fun _ h => h
  refine ⟨undef, fun w hS _ => ?_, hr⟩
  obtain ⟨w', e, h1⟩ := hv w hS
  rw [e]
  exact ⟨rfl, h1⟩
end
/-- A cell that a region may store into. -/
def OwnC (w : World) (a : Addr) : Prop := (∃ v, w.cell? a = some v) ∧ w.frozen? a = false
theorem keepOwn {w w1 : World} {a : Addr} (hb : Below w.heap.size w w1) (h : OwnC w a) : OwnC w1 a := by
  obtain ⟨⟨v, hv⟩, hf⟩ := h
  exact ⟨⟨v, keepc hb hv⟩, keepf hb hv hf⟩
theorem OwnC.set {w : World} {a : Addr} (h : OwnC w a) (b : Addr) (v : Value) : OwnC (w.setCell b v) a := by
  obtain ⟨⟨u, hu⟩, hf⟩ := h
  exact ⟨cell?_setCell_some hu, by rw [World.frozen?_setCell]; exact hf⟩
theorem ownc_new (w : World) (c : Array Value) (t : TypeId) (k : Nat) (h : k < c.size) : OwnC (w.alloc (.cells c t)) ⟨w.heap.size, k, none⟩ := by
  have hn := heap_alloc_new w (.cells c t)
  refine ⟨⟨c[k], ?_⟩, ?_⟩
  · unfold World.cell?; rw [hn]; simp [h]
  · unfold World.frozen?; rw [hn]; simp
end Go.Proofs.Ytcfmimfkaabmkaa
/- A region that draws its order, walked once in the order of the text, over classes of worlds that depend on which operations have been carried out: for a region that makes a variable. -/
set_option linter.unusedVariables false
set_option linter.unusedSimpArgs false
namespace Go.Proofs.Ytcfmimfkaabmkaa
open Go.RowKit

section
variable {P : Program} {ops : Array Oper} {S : (Nat → Bool) → World → Prop}
/-- L, and i besides. -/
def addTo (L : Nat → Bool) (i : Nat) : Nat → Bool := fun j => if j = i then true else L j
theorem addTo_self (L : Nat → Bool) (i : Nat) : addTo L i i = true := by simp [addTo]
theorem addTo_ne (L : Nat → Bool) {i j : Nat} (h : j ≠ i) : addTo L i j = L j := by simp [addTo, h]

/-- Whatever L holds, it holds all that this waits for. -/
def ClosedL (ops : Array Oper) (L : Nat → Bool) : Prop := ∀ j p, ops[j]? = some p → L j = true → ∀ e ∈ p.after, Region.binds .any e = true → L e.on = true
def freeAtL (P : Program) (ops : Array Oper) (S : (Nat → Bool) → World → Prop) (i : Nat) (o : Oper) (a : Act) (v : Value) : Prop :=
  ∀ L w, ClosedL ops L → L i = false → (∀ e ∈ o.after, Region.binds .any e = true → L e.on = true) → S L w → freeUpon P (fun w' => S (addTo L i) w') v ((execOp a.eval o).run P w)
def skipAtL (S : (Nat → Bool) → World → Prop) (i : Nat) : Prop := ∀ L w, L i = false → S L w → S (addTo L i) w
def wpFreeL (P : Program) (ops : Array Oper) (S : (Nat → Bool) → World → Prop) (Q : Act → Prop) : Nat → List Oper → Act → Prop
  | _, [], a => Q a
  | i, o :: rest, a => if Region.wanted o (yielded ops a.tmps) then ∃ v, freeAtL P ops S i o a v ∧ wpFreeL P ops S Q (i + 1) rest (a.put o.dst v)
      else skipAtL S i ∧ wpFreeL P ops S Q (i + 1) rest (a.put o.dst undef)
/-- What the walk shows of the operation number i, at the frame that stands at the end. -/
def StepAtL (P : Program) (ops : Array Oper) (S : (Nat → Bool) → World → Prop) (i : Nat) (o : Oper) (a : Act) : Prop :=
  (Region.wanted o (yielded ops a.tmps) = true ∧ ∃ v, freeAtL P ops S i o a v ∧ ∀ t, o.dst = some t → t < a.tmps.size → a.tmps[t]? = some v) ∨
  (Region.wanted o (yielded ops a.tmps) = false ∧ skipAtL S i ∧ ∀ t, o.dst = some t → t < a.tmps.size → a.tmps[t]? = some undef)

theorem wpFreeL_end {Q : Act → Prop} (hk : FreeOk ops) : ∀ (l : List Oper) (i : Nat) (a : Act), (∀ k, l[k]? = ops[i + k]?) → wpFreeL P ops S Q i l a →
    ∃ z, Q z ∧ z.defers = a.defers ∧ z.tmps.size = a.tmps.size ∧ (∀ t, (∀ j o, i ≤ j → ops[j]? = some o → o.dst ≠ some t) → z.tmps[t]? = a.tmps[t]?) ∧
      ∀ j o, i ≤ j → ops[j]? = some o → StepAtL P ops S j o z
  | [], i, a, hl, h => ⟨a, h, rfl, rfl, fun _ _ => rfl, fun j o hij ho => by
      have := hl (j - i)
      rw [show i + (j - i) = j by omega, ho] at this
      simp at this⟩
  | o :: l, i, a, hl, h => by
    have h0 : ops[i]? = some o := by simpa using (hl 0).symm
    have hl' : ∀ k, l[k]? = ops[i + 1 + k]? := fun k => by have := hl (k + 1); simpa [Nat.add_assoc, Nat.add_comm 1 k] using this
    -- the later operations leave alone what o looks at, and what o has written
    have late : ∀ (u : Value) (z : Act), (∀ t, (∀ j p, i + 1 ≤ j → ops[j]? = some p → p.dst ≠ some t) → z.tmps[t]? = (a.put o.dst u).tmps[t]?) → Agree ops o z a := fun u z hz t ht => by
      rw [hz t (fun j p hj hp hd => by have := (hk.looks i j o p t h0 hp hd ht).1; omega)]
      exact put_slot (fun hd => by have := (hk.looks i i o o t h0 h0 hd ht).1; omega)
    have own : ∀ (u : Value) (z : Act), z.tmps.size = (a.put o.dst u).tmps.size → (∀ t, (∀ j p, i + 1 ≤ j → ops[j]? = some p → p.dst ≠ some t) → z.tmps[t]? = (a.put o.dst u).tmps[t]?) →
        ∀ t, o.dst = some t → t < z.tmps.size → z.tmps[t]? = some u := fun u z hsz hz t hd hlt => by
      rw [hz t (fun j p hj hp hd' => hk.apart j i p o t hp h0 hd (by omega) hd')]
      rw [hsz, put_size] at hlt
      simp [Act.put, hd, hlt]
    have fin : ∀ (u : Value) (z : Act), (∀ t, (∀ j p, i + 1 ≤ j → ops[j]? = some p → p.dst ≠ some t) → z.tmps[t]? = (a.put o.dst u).tmps[t]?) →
        ∀ t, (∀ j p, i ≤ j → ops[j]? = some p → p.dst ≠ some t) → z.tmps[t]? = a.tmps[t]? := fun u z hz t ht => by
      rw [hz t (fun j p hj => ht j p (by omega))]
      exact put_slot (ht i o (Nat.le_refl _) h0)
    unfold wpFreeL at h
    split at h
    · rename_i hw
      obtain ⟨v, hf, hr⟩ := h
      obtain ⟨z, hQ, hd, hsz, hz, hst⟩ := wpFreeL_end hk l (i + 1) (a.put o.dst v) hl' hr
      refine ⟨z, hQ, hd.trans put_defers', hsz.trans put_size, fin v z hz, fun j p hij hp => ?_⟩
      by_cases e : j = i
      · subst e
        rw [h0] at hp; cases hp
        have ag := late v z hz
        refine .inl ⟨by rw [ag.wanted]; exact hw, v, ?_, own v z hsz hz⟩
        unfold freeAtL at hf ⊢
        rw [ag.exec (fun cs b => hk.sel j o cs b h0)]
        exact hf
      · exact hst j p (by omega) hp
    · rename_i hw
      obtain ⟨hF, hr⟩ := h
      obtain ⟨z, hQ, hd, hsz, hz, hst⟩ := wpFreeL_end hk l (i + 1) (a.put o.dst undef) hl' hr
      refine ⟨z, hQ, hd.trans put_defers', hsz.trans put_size, fin undef z hz, fun j p hij hp => ?_⟩
      by_cases e : j = i
      · subst e
        rw [h0] at hp; cases hp
        have ag := late undef z hz
        exact .inr ⟨by rw [ag.wanted]; simpa using hw, hF, own undef z hsz hz⟩
      · exact hst j p (by omega) hp

/-- Between two operations: what is listed has left its value and its fact. -/
structure MidL (ops : Array Oper) (S : (Nat → Bool) → World → Prop) (z : Act) (listed : Array Bool) (a : Act) (w : World) : Prop where
  size : listed.size = ops.size
  closed : ∀ i o, ops[i]? = some o → listed.getD i false = true → ∀ e ∈ o.after, Region.binds .any e = true → listed.getD e.on false = true
  len : a.tmps.size = z.tmps.size
  defers : a.defers = z.defers
  slots : ∀ t, (∀ j o, ops[j]? = some o → listed.getD j false = false → o.dst ≠ some t) → a.tmps[t]? = z.tmps[t]?
  cls : S (fun j => listed.getD j false) w

theorem wpAny_freeL {G : Fence} (hG : Open G) {n : Nat} {Q : Exit → Act → World → Prop} {z : Act} (hk : FreeOk ops) (hst : ∀ j o, ops[j]? = some o → StepAtL P ops S j o z)
    (hQ : ∀ L w, (∀ j o, ops[j]? = some o → L j = true) → S L w → Q .normal z w) :
    ∀ (fuel : Nat) (listed : Array Bool) (a : Act) (w : World), ((List.range ops.size).countP fun i => !listed.getD i false) = fuel → MidL ops S z listed a w → wpAnyIn G n P .any ops Q fuel listed a w := by
  have done : ∀ (listed : Array Bool) (a : Act) (w : World), MidL ops S z listed a w → Region.ready .any ops listed = [] → Q .normal a w := fun listed a w hm hr => by
    have hal := all_listed hk hm.size hr
    have : a = z := act_ext hm.defers fun t => hm.slots t fun j o ho hl => by rw [hal j o ho] at hl; cases hl
    rw [this]
    exact hQ _ w hal hm.cls
  intro fuel
  induction fuel with
  | zero =>
    intro listed a w hc hm
    have hr : Region.ready .any ops listed = [] := by
      rw [List.eq_nil_iff_forall_not_mem]
      intro i hi
      obtain ⟨h1, o, ho, _⟩ := mem_ready.1 hi
      have hlt : i < ops.size := (Array.getElem?_eq_some_iff.1 ho).1
      have := List.countP_eq_zero.1 hc i (List.mem_range.2 hlt)
      simp only [Array.getD_eq_getD_getElem?, Array.getElem?_eq_getElem (show i < listed.size by rw [hm.size]; exact hlt)] at h1 this
      simp at h1 this
      rw [h1] at this
      cases this
    exact ⟨hr, done listed a w hm hr⟩
  | succ fuel ih =>
    intro listed a w hc hm
    refine ⟨done listed a w hm, fun i hi => ?_⟩
    obtain ⟨h1, o, ho, he⟩ := mem_ready.1 hi
    have hlt : i < ops.size := (Array.getElem?_eq_some_iff.1 ho).1
    have hlt' : i < listed.size := by rw [hm.size]; exact hlt
    have hun : listed.getD i false = false := by
      simp only [Array.getD_eq_getD_getElem?, Array.getElem?_eq_getElem hlt'] at h1 ⊢; exact h1
    have ag : Agree ops o a z := fun t ht => hm.slots t fun j p hp hl hd => by
      have hr := (hk.looks i j o p t ho hp hd ht).2
      rw [reach_listed listed hm.closed 4 i j o ho he hr] at hl
      cases hl
    have next : ∀ (u : Value) (w' : World), (∀ t, o.dst = some t → t < z.tmps.size → z.tmps[t]? = some u) → S (addTo (fun j => listed.getD j false) i) w' →
        wpAnyIn G n P .any ops Q fuel (listed.setIfInBounds i true) (a.put o.dst u) w' := fun u w' hu hS => by
      refine ih _ _ _ ?_ ⟨by simp [hm.size], fun k p hp hkl e hem hb => ?_, put_size.trans hm.len, put_defers'.trans hm.defers, fun t ht => ?_, ?_⟩
      · have hci : ∀ j, (listed.setIfInBounds i true).getD j false = (listed.getD j false || decide (j = i)) := fun j => by
          by_cases hji : j = i
          · subst hji; simp [hlt']
          · rw [getD_set_ne false (Ne.symm hji)]; simp [hji]
        have hcount : ∀ (l : List Nat), l.Nodup → i ∈ l → (l.countP fun j => !(listed.setIfInBounds i true).getD j false) + 1 = l.countP fun j => !listed.getD j false := by
          intro l
          induction l with
          | nil => intro _ h; cases h
          | cons x l ihl =>
            intro hnd hmem
            rw [List.nodup_cons] at hnd
            rw [List.countP_cons, List.countP_cons]
            by_cases hx : x = i
            · subst hx
              have hsame : (l.countP fun j => !(listed.setIfInBounds x true).getD j false) = l.countP fun j => !listed.getD j false :=
                List.countP_congr fun j hj => by
                  have : j ≠ x := fun e => hnd.1 (e ▸ hj)
                  rw [hci]; simp [this]
              rw [hsame, hci, hun]; simp
            · have := ihl hnd.2 ((List.mem_cons.1 hmem).resolve_left (Ne.symm hx))
              have e2 : (listed.setIfInBounds i true).getD x false = listed.getD x false := getD_set_ne false (Ne.symm hx)
              rw [e2, ← this]
              omega
        have := hcount (List.range ops.size) List.nodup_range (List.mem_range.2 hlt)
        omega
      · by_cases hki : k = i
        · subst hki
          rw [ho] at hp; cases hp
          exact getD_set_true (he e hem hb)
        · rw [getD_set_ne false (Ne.symm hki)] at hkl
          exact getD_set_true (hm.closed k p hp hkl e hem hb)
      · by_cases hd : o.dst = some t
        · by_cases hts : t < z.tmps.size
          · rw [hu t hd hts]
            have : t < a.tmps.size := by rw [hm.len]; exact hts
            simp [Act.put, hd, this]
          · have e1 : (a.put o.dst u).tmps[t]? = none := Array.getElem?_eq_none (by rw [put_size, hm.len]; exact Nat.le_of_not_lt hts)
            have e2 : z.tmps[t]? = none := Array.getElem?_eq_none (Nat.le_of_not_lt hts)
            rw [e1, e2]
        · rw [put_slot hd]
          refine hm.slots t fun j p hp hl => ?_
          by_cases hji : j = i
          · subst hji; rw [ho] at hp; cases hp; exact hd
          · exact ht j p hp (by rw [getD_set_ne false (Ne.symm hji)]; exact hl)
      · have : (fun j => (listed.setIfInBounds i true).getD j false) = addTo (fun j => listed.getD j false) i := by
          funext j
          by_cases hji : j = i
          · subst hji; simp [hlt', addTo]
          · rw [getD_set_ne false (Ne.symm hji), addTo_ne _ hji]
        rw [this]
        exact hS
    unfold wpOpIn
    simp only [ho]
    rcases hst i o ho with ⟨hw, v, hf, hv⟩ | ⟨hw, hF, hv⟩
    · rw [← ag.wanted] at hw
      rw [if_pos hw]
      unfold freeAtL at hf
      rw [← ag.exec (fun cs b => hk.sel i o cs b ho)] at hf
      have := hf _ w hm.closed hun he hm.cls
      exact free_upon hG (fun c => hk.dfr i o c ho) this fun w' hS => next v w' hv hS
    · rw [← ag.wanted] at hw
      rw [if_neg (by rw [hw]; simp)]
      exact ⟨fun f _ => hG.fn f, next undef w hv (hF _ w hun hm.cls)⟩

/-- **One walk in the order of the text serves every order.** -/
theorem wpIn_region_freeL {G : Fence} (hG : Open G) {n id : Nat} {Q : Exit → Act → World → Prop} {a : Act} {w : World} {l : List Oper} (hm : P.follows .mixedOrders = true) (hB : freeOk l.toArray = true) (S : (Nat → Bool) → World → Prop)
    (hS : S (fun _ => false) w.drew) (h : wpFreeL P l.toArray S (fun a' => ∀ L w', (∀ j, j < l.length → L j = true) → S L w' → Q .normal a' w') 0 l a) : (Code.region id l.toArray true).wpIn G n P Q a w := by
  have hk := freeOk_spec hB
  refine wpIn_region_any hm ?_
  obtain ⟨z, hQ, hd, hsz, hz, hst⟩ := wpFreeL_end hk l 0 a (by simp) h
  refine wpAny_freeL hG hk (fun j o ho => hst j o (Nat.zero_le _) ho) (fun L w' hal hS' => hQ L w' (fun j hj => hal j (l[j]) (by simp [hj])) hS') _ _ _ _ ?_ ⟨by simp, ?_, hsz.symm, hd.symm, ?_, ?_⟩
  · have : ∀ i ∈ List.range l.toArray.size, (!(Array.replicate l.toArray.size false).getD i false) = true := fun i hi => by
      have := List.mem_range.1 hi
      simp at this
      simp [this]
    rw [List.countP_eq_length.2 this, List.length_range]
  · intro i o _ hl
    exfalso
    revert hl
    simp only [Array.getD_eq_getD_getElem?, Array.getElem?_replicate]
    split <;> simp
  · intro t ht
    refine (hz t fun j o _ ho => ht j o ho ?_).symm
    simp only [Array.getD_eq_getD_getElem?, Array.getElem?_replicate]
    split <;> simp
  · have : (fun j => (Array.replicate l.toArray.size false).getD j false) = fun _ => false := by
      funext j
      simp only [Array.getD_eq_getD_getElem?, Array.getElem?_replicate]
      split <;> simp
    rw [this]
    exact hS
theorem wp_region_freeL {id : Nat} {Q : Exit → Act → World → Prop} {a : Act} {w : World} {l : List Oper} (S : (Nat → Bool) → World → Prop) (hm : P.follows .mixedOrders = true) (hB : freeOk l.toArray = true)
    (hS : S (fun _ => false) w.drew) (h : wpFreeL P l.toArray S (fun a' => ∀ L w', (∀ j, j < l.length → L j = true) → S L w' → Q .normal a' w') 0 l a) : (Code.region id l.toArray true).wp P Q a w :=
  (wpIn_wide (n := 0)).1 (wpIn_region_freeL open_wide hm hB S hS h)
end
section
variable {P : Program} {ops : Array Oper} {S : (Nat → Bool) → World → Prop} {Q : Act → Prop} {i : Nat} {o : Oper} {rest : List Oper} {a : Act} {v : Value}
theorem wpFreeL_nil (h : Q a) : wpFreeL P ops S Q i [] a := h
theorem wpFreeL_skip (hw : Region.wanted o (yielded ops a.tmps) = false) (hF : skipAtL S i) (h : ∀ K : Act → Prop, (∀ a, wpFreeL P ops S Q (i + 1) rest a → K a) → K (a.put o.dst undef)) : wpFreeL P ops S Q i (o :: rest) a := by
  unfold wpFreeL; rw [if_neg (by rw [hw]; simp)]; exact ⟨hF, h _ fun _ h => h⟩
/-- An operation that leaves the world alone. -/
theorem wpFreeL_val (hw : Region.wanted o (yielded ops a.tmps) = true) (hF : skipAtL S i)
    (h : ∀ K : Act → Prop, (∀ a, wpFreeL P ops S Q (i + 1) rest a → K a) → ∃ v, (∀ L w, S L w → (execOp a.eval o).run P w = .ok (.value v) w) ∧ K (a.put o.dst v)) : wpFreeL P ops S Q i (o :: rest) a := by
  unfold wpFreeL; rw [if_pos hw]
  obtain ⟨v, hv, hr⟩ := h _ fun _ h => h
  refine ⟨v, fun L w _ hL _ hS => ?_, hr⟩
  rw [hv L w hS]
  exact ⟨rfl, hF L w hL hS⟩
theorem wpFreeL_gen (hw : Region.wanted o (yielded ops a.tmps) = true) (h : ∀ K : Act → Prop, (∀ a, wpFreeL P ops S Q (i + 1) rest a → K a) → ∃ v, freeAtL P ops S i o a v ∧ K (a.put o.dst v)) : wpFreeL P ops S Q i (o :: rest) a := by
  unfold wpFreeL; rw [if_pos hw]; exact h _ fun _ h => h
end
end Go.Proofs.Ytcfmimfkaabmkaa
/- A region that draws its order, walked once in the order of the text: each operation may yield a value that hangs on the world; the class S of worlds knows what each has yielded. -/
set_option linter.unusedVariables false
set_option linter.unusedSimpArgs false
namespace Go.Proofs.Ytcfmimfkaabmkaa
open Go.RowKit

section
variable {P : Program} {ops : Array Oper} {S : (Nat → Bool) → (Nat → Value) → World → Prop} {vals : Nat → Value} {a0 : Act}
def upd (vals : Nat → Value) (i : Nat) (v : Value) : Nat → Value := fun j => if j = i then v else vals j
theorem upd_self (vals : Nat → Value) (i : Nat) (v : Value) : upd vals i v i = v := by simp [upd]
theorem upd_ne (vals : Nat → Value) {i j : Nat} (v : Value) (h : j ≠ i) : upd vals i v j = vals j := by simp [upd, h]
theorem upd_same (vals : Nat → Value) (i : Nat) : upd vals i (vals i) = vals := by
  funext j; by_cases h : j = i <;> simp [upd, h]
def uponX (P : Program) (R : Value → World → Prop) : Result Next → Prop
  | .ok (.value u) w' => R u w'
  | .ok .skip w' => R undef w'
  | .ok (.enter f args) w' => Calls P f args w' fun e w'' => ∃ v, e = .returned v ∧ R v w''
  | _ => False
/-- What the walk owes for the operation number i at the frame a. -/
def stepX (P : Program) (ops : Array Oper) (S : (Nat → Bool) → (Nat → Value) → World → Prop) (vals : Nat → Value) (i : Nat) (o : Oper) (a : Act) : Prop :=
  ∀ L w, ClosedL ops L → L i = false → (∀ e ∈ o.after, Region.binds .any e = true → L e.on = true) → S L vals w →
    if Region.wanted o (yielded ops a.tmps) = true then uponX P (fun v w' => S (addTo L i) (upd vals i v) w') ((execOp a.eval o).run P w) else S (addTo L i) (upd vals i undef) w
def wpX (P : Program) (ops : Array Oper) (S : (Nat → Bool) → (Nat → Value) → World → Prop) (Q : Act → Prop) (vals : Nat → Value) : Nat → List Oper → Act → Prop
  | _, [], a => Q a
  | i, o :: rest, a => stepX P ops S vals i o a ∧ wpX P ops S Q vals (i + 1) rest (a.put o.dst (vals i))
def freeOkX (ops : Array Oper) : Bool :=
  Region.noSelect ops &&
  (ops.toList.zipIdx.all fun (o, i) =>
    (match o.op with | .defer _ => false | _ => true) &&
    (o.after.toList.all fun e => !Region.binds .any e || decide (e.on < i)) &&
    (ops.toList.zipIdx.all fun (p, j) => match p.dst with
      | none => true
      | some d => (i == j || o.dst != some d) && (!(o.looksAt ops).contains d || i == j || (decide (j < i) && reach ops 5 i j) || (decide (i < j) && reach ops 5 j i))))
structure FreeOkX (ops : Array Oper) : Prop where
  sel : ∀ (j : Nat) (o : Oper) cs b, ops[j]? = some o → o.op ≠ .select cs b
  dfr : ∀ (j : Nat) (o : Oper) c, ops[j]? = some o → o.op ≠ .defer c
  back : ∀ (i : Nat) (o : Oper), ops[i]? = some o → ∀ e ∈ o.after, Region.binds .any e = true → e.on < i
  apart : ∀ (i j : Nat) (o p : Oper) (d : Tmp), ops[i]? = some o → ops[j]? = some p → p.dst = some d → i ≠ j → o.dst ≠ some d
  looks : ∀ (i j : Nat) (o p : Oper) (d : Tmp), ops[i]? = some o → ops[j]? = some p → p.dst = some d → d ∈ o.looksAt ops → i = j ∨ (j < i ∧ reach ops 5 i j = true) ∨ (i < j ∧ reach ops 5 j i = true)
theorem freeOkX_spec (h : freeOkX ops = true) : FreeOkX ops := by
  unfold freeOkX at h
  rw [Bool.and_eq_true] at h
  obtain ⟨h1, h2⟩ := h
  have all : ∀ (i : Nat) (o : Oper), ops[i]? = some o → (o, i) ∈ ops.toList.zipIdx := fun i o ho => by
    rw [List.mem_zipIdx_iff_getElem?]; simpa using ho
  have key : ∀ (i : Nat) (o : Oper), ops[i]? = some o → _ := fun i o ho => List.all_eq_true.1 h2 (o, i) (all i o ho)
  refine ⟨fun j o cs b => Region.noSelect_spec h1 j o cs b, fun j o c ho hc => ?_, fun i o ho e he hb => ?_, fun i j o p d ho hp hd hij => ?_, fun i j o p d ho hp hd hl => ?_⟩
  · have := key j o ho
    simp [hc] at this
  · have := key i o ho
    simp only [Bool.and_eq_true] at this
    have := List.all_eq_true.1 this.1.2 e (by simpa using he)
    simpa [hb] using this
  · have := key i o ho
    simp only [Bool.and_eq_true] at this
    have := List.all_eq_true.1 this.2 (p, j) (all j p hp)
    simp only [hd, Bool.and_eq_true] at this
    have h3 := this.1
    simp only [Bool.or_eq_true, beq_iff_eq, bne_iff_ne] at h3
    exact h3.resolve_left hij
  · have := key i o ho
    simp only [Bool.and_eq_true] at this
    have := List.all_eq_true.1 this.2 (p, j) (all j p hp)
    simp only [hd, Bool.and_eq_true] at this
    have h3 := this.2
    simp only [Bool.or_eq_true, Bool.not_eq_true', beq_iff_eq, Bool.and_eq_true, decide_eq_true_eq] at h3
    rcases h3 with ((h3 | h3) | h3) | h3
    · have : (o.looksAt ops).contains d = true := by simpa using hl
      rw [h3] at this; cases this
    · exact .inl h3
    · exact .inr (.inl h3)
    · exact .inr (.inr h3)
/-- What slot t holds when its writer has yielded v. -/
def setAt (a0 : Act) (t : Tmp) (v : Value) : Option Value := if t < a0.tmps.size then some v else none
/-- The frame in which just the operations D have left their values. -/
structure FrameIs (ops : Array Oper) (a0 : Act) (D : Nat → Bool) (vals : Nat → Value) (a : Act) : Prop where
  defers : a.defers = a0.defers
  size : a.tmps.size = a0.tmps.size
  own : ∀ (t : Tmp) (j : Nat) (o : Oper), ops[j]? = some o → o.dst = some t → a.tmps[t]? = if D j = true then setAt a0 t (vals j) else a0.tmps[t]?
  none : ∀ (t : Tmp), (∀ (j : Nat) (o : Oper), ops[j]? = some o → o.dst ≠ some t) → a.tmps[t]? = a0.tmps[t]?
theorem FrameIs.start (vals : Nat → Value) : FrameIs ops a0 (fun _ => false) vals a0 := ⟨rfl, rfl, fun _ _ _ _ _ => by simp, fun _ _ => rfl⟩
theorem FrameIs.put {D : Nat → Bool} {a : Act} (hk : FreeOkX ops) (h : FrameIs ops a0 D vals a) {i : Nat} {o : Oper} (ho : ops[i]? = some o) (v : Value) : FrameIs ops a0 (addTo D i) (upd vals i v) (a.put o.dst v) := by
  refine ⟨put_defers'.trans h.defers, put_size.trans h.size, fun t j p hp hd => ?_, fun t ht => ?_⟩
  · by_cases hji : j = i
    · subst hji
      rw [ho] at hp; cases hp
      rw [addTo_self, if_pos rfl, upd_self]
      unfold setAt
      rw [← h.size]
      by_cases hlt : t < a.tmps.size
      · rw [if_pos hlt]; simp [Act.put, hd, hlt]
      · rw [if_neg hlt]; exact Array.getElem?_eq_none (by rw [put_size]; exact Nat.le_of_not_lt hlt)
    · rw [put_slot (hk.apart i j o p t ho hp hd (Ne.symm hji)), addTo_ne _ hji, upd_ne _ _ hji]
      exact h.own t j p hp hd
  · rw [put_slot (ht i o ho)]; exact h.none t ht
theorem FrameIs.ext {D D' : Nat → Bool} {a a' : Act} (h : FrameIs ops a0 D vals a) (h' : FrameIs ops a0 D' vals a') {t : Tmp} (hD : ∀ (j : Nat) (o : Oper), ops[j]? = some o → o.dst = some t → D j = D' j) : a.tmps[t]? = a'.tmps[t]? := by
  by_cases hw : ∃ (j : Nat) (o : Oper), ops[j]? = some o ∧ o.dst = some t
  · obtain ⟨j, o, ho, hd⟩ := hw
    rw [h.own t j o ho hd, h'.own t j o ho hd, hD j o ho hd]
  · have hn : ∀ (j : Nat) (o : Oper), ops[j]? = some o → o.dst ≠ some t := fun j o ho hd => hw ⟨j, o, ho, hd⟩
    rw [h.none t hn, h'.none t hn]
/-- The walk in the order of the text, taken apart. -/
theorem wpX_at {Q : Act → Prop} (hk : FreeOkX ops) : ∀ (l : List Oper) (i : Nat) (a : Act), (∀ k, l[k]? = ops[i + k]?) → FrameIs ops a0 (fun j => decide (j < i)) vals a → wpX P ops S Q vals i l a →
    (∃ z, Q z ∧ FrameIs ops a0 (fun j => decide (j < i + l.length)) vals z) ∧ ∀ (j : Nat) (o : Oper), i ≤ j → ops[j]? = some o → ∃ A, FrameIs ops a0 (fun k => decide (k < j)) vals A ∧ stepX P ops S vals j o A
  | [], i, a, hl, hf, h => ⟨⟨a, h, hf⟩, fun j o hij ho => by
      have := hl (j - i)
      rw [show i + (j - i) = j by omega, ho] at this
      simp at this⟩
  | o :: l, i, a, hl, hf, h => by
    have h0 : ops[i]? = some o := by simpa using (hl 0).symm
    have hl' : ∀ k, l[k]? = ops[i + 1 + k]? := fun k => by have := hl (k + 1); simpa [Nat.add_assoc, Nat.add_comm 1 k] using this
    obtain ⟨h1, h2⟩ := h
    have hf' := hf.put hk h0 (vals i)
    rw [upd_same] at hf'
    have hD : addTo (fun j => decide (j < i)) i = fun j => decide (j < i + 1) := by
      funext j
      by_cases hj : j = i
      · subst hj; simp [addTo]
      · rw [addTo_ne _ hj]; simp only [decide_eq_decide]; omega
    rw [hD] at hf'
    obtain ⟨⟨z, hQ, hz⟩, hst⟩ := wpX_at hk l (i + 1) (a.put o.dst (vals i)) hl' hf' h2
    refine ⟨⟨z, hQ, ?_⟩, fun j p hij hp => ?_⟩
    · rw [List.length_cons, show i + (l.length + 1) = i + 1 + l.length by omega]; exact hz
    · by_cases hji : j = i
      · subst hji; rw [h0] at hp; cases hp; exact ⟨a, hf, h1⟩
      · exact hst j p (by omega) hp
theorem reach_listedX (listed : Array Bool) (hc : ∀ i o, ops[i]? = some o → listed.getD i false = true → ∀ e ∈ o.after, Region.binds .any e = true → listed.getD e.on false = true) :
    ∀ (n i j : Nat), listed.getD i false = true → reach ops n i j = true → listed.getD j false = true
  | 0, i, j, _, h => by simp [reach] at h
  | n + 1, i, j, hi, h => by
    unfold reach at h
    cases ho : ops[i]? with
    | none => rw [ho] at h; simp at h
    | some o =>
      rw [ho] at h
      simp only [List.any_eq_true, Bool.and_eq_true, Bool.or_eq_true, beq_iff_eq] at h
      obtain ⟨e, he, hb, h⟩ := h
      have h1 := hc i o ho hi e (by simpa using he) hb
      rcases h with rfl | h
      · exact h1
      · exact reach_listedX listed hc n e.on j h1 h
structure MidX (ops : Array Oper) (S : (Nat → Bool) → (Nat → Value) → World → Prop) (a0 : Act) (vals : Nat → Value) (listed : Array Bool) (a : Act) (w : World) : Prop where
  size : listed.size = ops.size
  closed : ∀ i o, ops[i]? = some o → listed.getD i false = true → ∀ e ∈ o.after, Region.binds .any e = true → listed.getD e.on false = true
  frame : FrameIs ops a0 (fun j => listed.getD j false) vals a
  cls : S (fun j => listed.getD j false) vals w
theorem uponX_in {G : Fence} (hG : Open G) {n : Nat} {o : Oper} {a : Act} {w : World} {R : Value → World → Prop} {K : Act → World → Prop} {Q : Exit → Act → World → Prop} (hd : ∀ c, o.op ≠ .defer c)
    (h : uponX P R ((execOp a.eval o).run P w)) (hK : ∀ v w', R v w' → K (a.put o.dst v) w') : o.wpIn G n P a w K Q := by
  refine ⟨fun f _ => hG.fn f, ?_⟩
  have e : o.semAt G.round a.eval = execOp a.eval o := by
    cases hr : G.round with
    | none => exact Oper.semAt_none _ _
    | some l => exact Oper.semAt_some l _ _ hd
  rw [e]
  generalize (execOp a.eval o).run P w = r at h
  cases r with
  | ok x w' =>
    cases x <;> simp only [uponX] at h <;> simp only [Oper.uponIn]
    case value u => exact hK _ _ h
    case skip => exact hK _ _ h
    case enter f args =>
      refine ⟨fun hs => (by rw [hG.depth] at hs; cases hs), hG.calls (h.mono fun e w'' he => ?_)⟩
      obtain ⟨v, rfl, hr⟩ := he
      exact hK _ _ hr
  | halt x w' => simp only [uponX] at h
theorem all_listedX (hk : FreeOkX ops) {listed : Array Bool} (hsz : listed.size = ops.size) (hr : Region.ready .any ops listed = []) : ∀ i o, ops[i]? = some o → listed.getD i false = true := by
  intro i
  induction i using Nat.strongRecOn with
  | _ i ih =>
    intro o ho
    cases hl : listed.getD i false with
    | true => rfl
    | false =>
      exfalso
      have hlt : i < ops.size := (Array.getElem?_eq_some_iff.1 ho).1
      have : i ∈ Region.ready .any ops listed := mem_ready.2 ⟨by
        simp only [Array.getD_eq_getD_getElem?, Array.getElem?_eq_getElem (show i < listed.size by rw [hsz]; exact hlt)] at hl ⊢
        exact hl, o, ho, fun e he hbd => by
        have hlt' := hk.back i o ho e he hbd
        cases hp : ops[e.on]? with
        | none => have := Array.getElem?_eq_none_iff.1 hp; omega
        | some p => exact ih e.on hlt' p hp⟩
      rw [hr] at this
      cases this
theorem count_set {n i : Nat} {listed : Array Bool} (hlt : i < n) (hlt' : i < listed.size) (hun : listed.getD i false = false) :
    ((List.range n).countP fun j => !(listed.setIfInBounds i true).getD j false) + 1 = (List.range n).countP fun j => !listed.getD j false := by
  have hci : ∀ j, (listed.setIfInBounds i true).getD j false = (listed.getD j false || decide (j = i)) := fun j => by
    by_cases hji : j = i
    · subst hji; simp [hlt']
    · rw [getD_set_ne false (Ne.symm hji)]; simp [hji]
  have hcount : ∀ (l : List Nat), l.Nodup → i ∈ l → (l.countP fun j => !(listed.setIfInBounds i true).getD j false) + 1 = l.countP fun j => !listed.getD j false := by
    intro l
    induction l with
    | nil => intro _ h; cases h
    | cons x l ihl =>
      intro hnd hmem
      rw [List.nodup_cons] at hnd
      rw [List.countP_cons, List.countP_cons]
      by_cases hx : x = i
      · subst hx
        have hsame : (l.countP fun j => !(listed.setIfInBounds x true).getD j false) = l.countP fun j => !listed.getD j false :=
          List.countP_congr fun j hj => by
            have : j ≠ x := fun e => hnd.1 (e ▸ hj)
            rw [hci]; simp [this]
        rw [hsame, hci, hun]; simp
      · have := ihl hnd.2 ((List.mem_cons.1 hmem).resolve_left (Ne.symm hx))
        have e2 : (listed.setIfInBounds i true).getD x false = listed.getD x false := getD_set_ne false (Ne.symm hx)
        rw [e2, ← this]
        omega
  exact hcount (List.range n) List.nodup_range (List.mem_range.2 hlt)
theorem wpAny_freeX {G : Fence} (hG : Open G) {n : Nat} {Q : Exit → Act → World → Prop} (hk : FreeOkX ops)
    (hst : ∀ vals j o, ops[j]? = some o → ∃ A, FrameIs ops a0 (fun k => decide (k < j)) vals A ∧ stepX P ops S vals j o A)
    (hQ : ∀ vals, ∃ z, FrameIs ops a0 (fun j => decide (j < ops.size)) vals z ∧ ∀ L w, (∀ j o, ops[j]? = some o → L j = true) → S L vals w → Q .normal z w) :
    ∀ (fuel : Nat) (listed : Array Bool) (vals : Nat → Value) (a : Act) (w : World), ((List.range ops.size).countP fun i => !listed.getD i false) = fuel → MidX ops S a0 vals listed a w → wpAnyIn G n P .any ops Q fuel listed a w := by
  have done : ∀ (listed : Array Bool) (vals : Nat → Value) (a : Act) (w : World), MidX ops S a0 vals listed a w → Region.ready .any ops listed = [] → Q .normal a w := fun listed vals a w hm hr => by
    have hal := all_listedX hk hm.size hr
    obtain ⟨z, hz, hQz⟩ := hQ vals
    have : a = z := act_ext (hm.frame.defers.trans hz.defers.symm) fun t => hm.frame.ext hz fun j o ho _ => by
      have hlt : j < ops.size := (Array.getElem?_eq_some_iff.1 ho).1
      rw [hal j o ho]; simp [hlt]
    rw [this]
    exact hQz _ w hal hm.cls
  intro fuel
  induction fuel with
  | zero =>
    intro listed vals a w hc hm
    have hr : Region.ready .any ops listed = [] := by
      rw [List.eq_nil_iff_forall_not_mem]
      intro i hi
      obtain ⟨h1, o, ho, _⟩ := mem_ready.1 hi
      have hlt : i < ops.size := (Array.getElem?_eq_some_iff.1 ho).1
      have := List.countP_eq_zero.1 hc i (List.mem_range.2 hlt)
      simp only [Array.getD_eq_getD_getElem?, Array.getElem?_eq_getElem (show i < listed.size by rw [hm.size]; exact hlt)] at h1 this
      simp at h1 this
      rw [h1] at this
      cases this
    exact ⟨hr, done listed vals a w hm hr⟩
  | succ fuel ih =>
    intro listed vals a w hc hm
    refine ⟨done listed vals a w hm, fun i hi => ?_⟩
    obtain ⟨h1, o, ho, he⟩ := mem_ready.1 hi
    have hlt : i < ops.size := (Array.getElem?_eq_some_iff.1 ho).1
    have hlt' : i < listed.size := by rw [hm.size]; exact hlt
    have hun : listed.getD i false = false := by
      simp only [Array.getD_eq_getD_getElem?, Array.getElem?_eq_getElem hlt'] at h1 ⊢; exact h1
    obtain ⟨A, hA, hS⟩ := hst vals i o ho
    have ag : Agree ops o a A := fun t ht => hm.frame.ext hA fun j p hp hd => by
      rcases hk.looks i j o p t ho hp hd ht with rfl | ⟨hji, hr⟩ | ⟨hij, hr⟩
      · rw [hun]; simp
      · rw [reach_listed listed hm.closed 5 i j o ho he hr]; simp [hji]
      · have : listed.getD j false = false := by
          cases hl : listed.getD j false with
          | false => rfl
          | true => have := reach_listedX listed hm.closed 5 j i hl hr; rw [hun] at this; cases this
        rw [this]; simp; omega
    have next : ∀ (u : Value) (w' : World), S (addTo (fun j => listed.getD j false) i) (upd vals i u) w' →
        wpAnyIn G n P .any ops Q fuel (listed.setIfInBounds i true) (a.put o.dst u) w' := fun u w' hS => by
      have hadd : (fun j => (listed.setIfInBounds i true).getD j false) = addTo (fun j => listed.getD j false) i := by
        funext j
        by_cases hji : j = i
        · subst hji; simp [hlt', addTo]
        · rw [getD_set_ne false (Ne.symm hji), addTo_ne _ hji]
      refine ih _ (upd vals i u) _ _ ?_ ⟨by simp [hm.size], fun k p hp hkl e hem hb => ?_, ?_, ?_⟩
      · have := count_set hlt hlt' hun
        omega
      · by_cases hki : k = i
        · subst hki
          rw [ho] at hp; cases hp
          exact getD_set_true (he e hem hb)
        · rw [getD_set_ne false (Ne.symm hki)] at hkl
          exact getD_set_true (hm.closed k p hp hkl e hem hb)
      · rw [hadd]; exact hm.frame.put hk ho u
      · rw [hadd]; exact hS
    have hstep := hS (fun j => listed.getD j false) w hm.closed hun he hm.cls
    unfold wpOpIn
    simp only [ho]
    rw [ag.wanted]
    by_cases hw : Region.wanted o (yielded ops A.tmps) = true
    · rw [if_pos hw] at hstep ⊢
      rw [← ag.exec (fun cs b => hk.sel i o cs b ho)] at hstep
      exact uponX_in hG (fun c => hk.dfr i o c ho) hstep next
    · rw [if_neg hw] at hstep ⊢
      exact ⟨fun f _ => hG.fn f, next undef w hstep⟩

/-- **One walk in the order of the text serves every order**, whatever the operations yield. -/
theorem wpIn_region_freeX {G : Fence} (hG : Open G) {n id : Nat} {Q : Exit → Act → World → Prop} {a : Act} {w : World} {l : List Oper} (hm : P.follows .mixedOrders = true) (hB : freeOkX l.toArray = true) (S : (Nat → Bool) → (Nat → Value) → World → Prop)
    (hS : ∀ vals, S (fun _ => false) vals w.drew) (h : ∀ vals, wpX P l.toArray S (fun a' => ∀ L w', (∀ j, j < l.length → L j = true) → S L vals w' → Q .normal a' w') vals 0 l a) : (Code.region id l.toArray true).wpIn G n P Q a w := by
  have hk := freeOkX_spec hB
  refine wpIn_region_any hm ?_
  have hat := fun vals => wpX_at (a0 := a) (vals := vals) hk l 0 a (by simp) (by
    have : (fun j : Nat => decide (j < 0)) = fun _ => false := by funext j; simp
    rw [this]; exact FrameIs.start vals) (h vals)
  refine wpAny_freeX (a0 := a) hG hk (fun vals j o ho => (hat vals).2 j o (Nat.zero_le _) ho) (fun vals => ?_) _ _ (fun _ => undef) _ _ ?_ ⟨by simp, ?_, ?_, ?_⟩
  · obtain ⟨z, hQ, hz⟩ := (hat vals).1
    refine ⟨z, ?_, fun L w' hal hS' => hQ L w' (fun j hj => hal j (l[j]) (by simp [hj])) hS'⟩
    rw [Nat.zero_add] at hz
    simpa using hz
  · have : ∀ i ∈ List.range l.toArray.size, (!(Array.replicate l.toArray.size false).getD i false) = true := fun i hi => by
      have := List.mem_range.1 hi
      simp at this
      simp [this]
    rw [List.countP_eq_length.2 this, List.length_range]
  · intro i o _ hl
    exfalso
    revert hl
    simp only [Array.getD_eq_getD_getElem?, Array.getElem?_replicate]
    split <;> simp
  · have : (fun j => (Array.replicate l.toArray.size false).getD j false) = fun _ => false := by
      funext j
      simp only [Array.getD_eq_getD_getElem?, Array.getElem?_replicate]
      split <;> simp
    rw [this]
    exact FrameIs.start _
  · have : (fun j => (Array.replicate l.toArray.size false).getD j false) = fun _ => false := by
      funext j
      simp only [Array.getD_eq_getD_getElem?, Array.getElem?_replicate]
      split <;> simp
    rw [this]
    exact hS _
theorem wp_region_freeX {id : Nat} {Q : Exit → Act → World → Prop} {a : Act} {w : World} {l : List Oper} (hm : P.follows .mixedOrders = true) (hB : freeOkX l.toArray = true) (S : (Nat → Bool) → (Nat → Value) → World → Prop)
    (hS : ∀ vals, S (fun _ => false) vals w.drew) (h : ∀ vals, wpX P l.toArray S (fun a' => ∀ L w', (∀ j, j < l.length → L j = true) → S L vals w' → Q .normal a' w') vals 0 l a) : (Code.region id l.toArray true).wp P Q a w :=
  (wpIn_wide (n := 0)).1 (wpIn_region_freeX open_wide hm hB S hS h)
theorem wpX_nil {Q : Act → Prop} {i : Nat} {a : Act} (h : Q a) : wpX P ops S Q vals i [] a := h
/-- An operation that is carried out. -/
theorem wpX_op {Q : Act → Prop} {i : Nat} {o : Oper} {rest : List Oper} {a : Act} (hw : Region.wanted o (yielded ops a.tmps) = true)
    (h : ∀ L w, ClosedL ops L → L i = false → (∀ e ∈ o.after, Region.binds .any e = true → L e.on = true) → S L vals w → uponX P (fun v w' => S (addTo L i) (upd vals i v) w') ((execOp a.eval o).run P w))
    (hK : ∀ K : Act → Prop, (∀ a, wpX P ops S Q vals (i + 1) rest a → K a) → K (a.put o.dst (vals i))) : wpX P ops S Q vals i (o :: rest) a :=
  ⟨fun L w h1 h2 h3 h4 => by rw [if_pos hw]; exact h L w h1 h2 h3 h4, hK _ fun _ h => h⟩
end
end Go.Proofs.Ytcfmimfkaabmkaa
/- The walks of package area's small functions: up, get, zero, (unit).end, (unit).piece, (heap).end, (heap).bytes. -/
set_option linter.unusedVariables false
set_option linter.unusedSimpArgs false
namespace Go.Proofs.Ytcfmimfkaabmkaa
open Go.RowKit
attribute [local go_sem ↓] Go.wp_at_zero Go.wp_at_succ

set_option maxHeartbeats 400000 in
theorem up_any (n : Int) (w : World) (h0 : 0 ≤ n) (h1 : n ≤ 1000000000) :
    Calls Try.prog 85 #[.int .i64 n] w fun e w' => e = .returned (.int .i64 (upZ n)) ∧ w = w' := by
  go_enter Try.func85, Try.ntmps85
  go_wp2
  go_ret
  exact ⟨ret_int (up_bits n h0 h1), rfl⟩

set_option maxHeartbeats 400000 in
theorem end_any (a s m : Int) (w : World) (h0 : 0 ≤ s) (h1 : s ≤ 100000000) (h2 : 0 ≤ a) (h3 : a ≤ 1000000000) :
    Calls Try.prog 62 #[.agg #[.int .i64 a, .int .i64 s, .int .i64 m]] w fun e w' => e = .returned (.int .i64 (a + 8 + upZ s)) ∧ Below w.heap.size w w' := by
  have hu := upZ_bd s h0
  go_enter Try.func62, Try.ntmps62
  go_wp2
  go_quiet ((go_at_call 85; exact Calls.quiet_of_same ((up_any _ _ (by omega) (by omega)).mono (fun _ _ h => ⟨h.1, h.2.symm⟩))))
  go_wp2
  go_ret
  exact ⟨rfl, below_drewN ((Below.refl _ _).alloc (Nat.le_refl _) _) _⟩

set_option maxHeartbeats 400000 in
theorem piece_any (a s m : Int) (w : World) (h2 : 0 ≤ a) (h3 : a ≤ 1000000000) :
    Calls Try.prog 64 #[.agg #[.int .i64 a, .int .i64 s, .int .i64 m]] w fun e w' => e = .returned (.agg #[.int .i64 (a + 8), .int .i64 s]) ∧ Below w.heap.size w w' := by
  go_enter Try.func64, Try.ntmps64
  go_wp2
  refine bodyPost_ret (v := .agg #[.int .i64 (a + 8), .int .i64 s]) (by simp [results, Try.results64, go_sem]) rfl ⟨rfl, ?_⟩
  exact ((((Below.refl _ _).alloc (Nat.le_refl _) _).alloc (by simp) _))

set_option maxHeartbeats 1000000 in
theorem get_any (b len cap : Nat) (l : List UInt8) (k : Int) (w : World) (hB : Bytes w b l) (hl : l.length = len) (h0 : 0 ≤ k) (h1 : k + 4 ≤ len) (h2 : len ≤ cap) (h3 : cap ≤ 1000000) :
    Calls Try.prog 60 #[.slice (some ⟨b, 0, none⟩) len cap, .int .i64 k] w fun e w' => e = .returned (.int .i64 (num l k.toNat)) ∧ w = w' := by
  obtain ⟨n, rfl⟩ := Int.eq_ofNat_of_zero_le h0
  have c0 := hB.cell (i := n) (by omega)
  have c1 := hB.cell (i := n + 1) (by omega)
  have c2 := hB.cell (i := n + 2) (by omega)
  have c3 := hB.cell (i := n + 3) (by omega)
  have B0 := byt_bd l n
  have B1 := byt_bd l (n + 1)
  have B2 := byt_bd l (n + 2)
  have B3 := byt_bd l (n + 3)
  have HN : Hid (num l (Int.toNat n) = num l n) := by unfold Hid; rw [Int.toNat_natCast]
  have HU : Hid (num l n = byt l n * 16777216 + byt l (n + 1) * 65536 + byt l (n + 2) * 256 + byt l (n + 3)) := rfl
  clear hB hl
  generalize byt l n = b0 at *
  generalize byt l (n + 1) = b1 at *
  generalize byt l (n + 2) = b2 at *
  generalize byt l (n + 3) = b3 at *
  obtain ⟨B0, B0'⟩ := B0
  obtain ⟨B1, B1'⟩ := B1
  obtain ⟨B2, B2'⟩ := B2
  obtain ⟨B3, B3'⟩ := B3
  go_enter Try.func60, Try.ntmps60
  go_wp2
  refine wp_loop_rounds 5 ?_
  rw [rounds_succ]
  go_wp2
  rw [rounds_succ]
  go_wp2
  rw [rounds_succ]
  go_wp2
  rw [rounds_succ]
  go_wp2
  rw [rounds_succ]
  go_wp2
  go_ret
  exact ⟨ret_int (by rw [HN.out, HU.out]; exact num_of_bits b0 b1 b2 b3 ⟨B0, B0'⟩ ⟨B1, B1'⟩ ⟨B2, B2'⟩ ⟨B3, B3'⟩), rfl⟩

set_option maxHeartbeats 400000 in
theorem hend_any (b len cap : Nat) (l : List UInt8) (w : World) (hB : Bytes w b l) (hl : l.length = len) (h1 : 4 ≤ len) (h2 : len ≤ cap) (h3 : cap ≤ 1000000) :
    Calls Try.prog 65 #[.slice (some ⟨b, 0, none⟩) len cap] w fun e w' => e = .returned (.int .i64 (8 + num l 0)) ∧ w = w' := by
  have Hl := hid hl; clear hl
  have HB := hid hB; clear hB
  have hn := num_bd l 0
  go_enter Try.func65, Try.ntmps65
  go_wp2_with (go_at_call 60; refine (get_any b len cap l 0 _ HB.out Hl.out (by omega) (by omega) (by omega) (by omega)).mono ?_; rintro e w' ⟨rfl, rfl⟩)
  go_ret
  exact ⟨rfl, rfl⟩

theorem all_snoc (l : List UInt8) (k : Nat) (hk : k < l.length) (h2 : (l.take k).all (· == 0) = true) (h1 : byt l k = 0) : (l.take (k + 1)).all (· == 0) = true := by
  rw [List.take_succ_eq_append_getElem hk, List.all_append, h2]
  have : l[k] = 0 := by
    unfold byt at h1
    rw [List.getElem?_eq_getElem hk] at h1
    have h4 : (l[k]).toNat = 0 := by simpa using h1
    exact UInt8.toNat_inj.1 h4
  simp [this]
theorem all_false (l : List UInt8) (k : Nat) (hk : k < l.length) (h1 : byt l k ≠ 0) : l.all (· == 0) = false := by
  rw [List.all_eq_false]
  refine ⟨l[k], by simp, ?_⟩
  unfold byt at h1
  rw [List.getElem?_eq_getElem hk] at h1
  intro h
  simp at h
  rw [h] at h1
  simp at h1

set_option maxHeartbeats 400000 in
theorem zero_any (o : Option Addr) (b off len cap : Nat) (l : List UInt8) (w : World) (ho : 0 < len → o = some ⟨b, off, none⟩) (hl : l.length = len) (h1 : len ≤ 1000000)
    (hc : ∀ i, i < len → w.cell? ⟨b, off + i, none⟩ = some (.int .u8 (byt l i))) :
    Calls Try.prog 82 #[.slice o len cap] w fun e w' => e = .returned (.bool (l.all (· == 0))) ∧ w = w' := by
  have Hl := hid hl; clear hl
  have Hc := hid hc; clear hc
  have Ho := hid ho; clear ho
  go_enter Try.func82, Try.ntmps82
  go_wp2
  go_loop [7] (fun i => ∃ k : Nat, k ≤ len ∧ i = .int .i64 k ∧ (l.take k).all (· == 0) = true) (fun i => len - (intOf i).toNat)
  case atStart => exact ⟨0, Nat.zero_le _, rfl, by simp⟩
  case round =>
    obtain ⟨k, hk, rfl, ha⟩ := hrel
    have HA := hid ha; clear ha
    by_cases hlt : k < len
    · obtain rfl := Ho.out (by omega)
      have hc := Hc.out k hlt
      have hbd := byt_bd l k
      generalize hx : byt l k = x at hc hbd
      have Hx := hid hx; clear hx
      by_cases hz : x = 0
      · subst hz
        go_wp2
        go_round
        case rel => exact ⟨k+1, by omega, by go_num, all_snoc l k (by have := Hl.out; omega) HA.out Hx.out⟩
        case measure => simp [intOf]; omega
      · have hne : (x != 0) = true := by simpa using hz
        have hz' : (x == 0) = false := by simpa using hz
        have HZ := hid hz
        clear hz
        go_wp2
        go_ret
        exact ⟨ret_bool (all_false l k (by have := Hl.out; omega) (by rw [Hx.out]; exact HZ.out)).symm, rfl⟩
    · go_wp2
      go_ret
      refine ⟨ret_bool ?_, rfl⟩
      have h2 := HA.out
      rw [List.take_of_length_le (by have := Hl.out; omega)] at h2
      exact h2.symm
end Go.Proofs.Ytcfmimfkaabmkaa
/- The walks of package area: set, (heap).head, (heap).bytes, (heap).whole. -/
set_option linter.unusedVariables false
set_option linter.unusedSimpArgs false
namespace Go.Proofs.Ytcfmimfkaabmkaa
open Go.RowKit
attribute [local go_sem ↓] Go.wp_at_zero Go.wp_at_succ
set_option maxHeartbeats 1000000 in
theorem set_any (b len cap : Nat) (l : List UInt8) (k n : Int) (w : World) (hB : Bytes w b l) (hl : l.length = len) (h0 : 0 ≤ k) (h1 : k + 4 ≤ len) (h2 : len ≤ cap) (h3 : cap ≤ 1000000) (hn0 : 0 ≤ n) (hn : n ≤ 1000000000) :
    Calls Try.prog 59 #[.slice (some ⟨b, 0, none⟩) len cap, .int .i64 k, .int .i64 n] w fun e w' => e = .returned (.tuple #[]) ∧ Bytes w' b (setL l k.toNat n.toNat) ∧ w.grownBy w' (some b) ∧ w'.heap.size = w.heap.size := by
  obtain ⟨k, rfl⟩ := Int.eq_ofNat_of_zero_le h0
  have c0 := hB.cell (i := k) (by omega)
  have c1 := hB.cell (i := k + 1) (by omega)
  have c2 := hB.cell (i := k + 2) (by omega)
  have c3 := hB.cell (i := k + 3) (by omega)
  have f0 := hB.frozen k
  have f1 := hB.frozen (k+1)
  have f2 := hB.frozen (k+2)
  have f3 := hB.frozen (k+3)
  have HB := hid hB; clear hB
  clear hl
  go_enter Try.func59, Try.ntmps59
  go_wp2
  refine wp_loop_rounds 5 ?_
  rw [rounds_succ]
  go_wp2
  rw [rounds_succ]
  go_wp2
  rw [rounds_succ]
  go_wp2
  rw [rounds_succ]
  go_wp2
  rw [rounds_succ]
  go_wp2
  go_end0
  refine ⟨rfl, ?_, ?_, by simp [World.setCell]⟩
  · obtain ⟨m, rfl⟩ := Int.eq_ofNat_of_zero_le hn0
    have e0 : (m : Int) / 16777216 = (((UInt8.ofNat (m / 16777216)).toNat : Nat) : Int) := by have := u8_of ((m : Int) / 16777216) (m / 16777216) (by omega); omega
    have e1 : (m : Int) / 65536 % 256 = (((UInt8.ofNat (m / 65536)).toNat : Nat) : Int) := u8_of _ _ (by omega)
    have e2 : (m : Int) / 256 % 256 = (((UInt8.ofNat (m / 256)).toNat : Nat) : Int) := u8_of _ _ (by omega)
    have e3 : (m : Int) % 256 = (((UInt8.ofNat m).toNat : Nat) : Int) := u8_of _ _ rfl
    rw [e0, e1, e2, e3]
    exact (((HB.out.set _).set _).set _).set _
  · exact grown_set (grown_set (grown_set (grown_set (grown_refl _ _) _ _) _ _) _ _) _ _
set_option maxHeartbeats 1000000 in
theorem head_any (b len cap : Nat) (l : List UInt8) (a s m : Int) (w : World) (hB : Bytes w b l) (hl : l.length = len) (h0 : 0 ≤ a) (h1 : a + 8 ≤ len) (h2 : len ≤ cap) (h3 : cap ≤ 1000000) (hs0 : 0 ≤ s) (hs : s ≤ 1000000) (hm0 : 0 ≤ m) (hm : m ≤ 100) :
    Calls Try.prog 63 #[.slice (some ⟨b, 0, none⟩) len cap, .agg #[.int .i64 a, .int .i64 s, .int .i64 m]] w fun e w' => e = .returned (.tuple #[]) ∧ Bytes w' b (setL (setL l a.toNat s.toNat) (a.toNat + 4) m.toNat) ∧ w.grownBy w' (some b) := by
  have Hl := hid hl; clear hl
  have HB := hid hB; clear hB
  have hlt : b < w.heap.size := HB.out.lt
  go_enter Try.func63, Try.ntmps63
  go_wp2_with fail
  refine (set_any b len cap l a s _ ?_ Hl.out h0 (by omega) h2 h3 hs0 (by omega)).mono ?_
  · exact HB.out.below ((Below.refl w.heap.size w).alloc (Nat.le_refl _) _) hlt
  rintro e w1 ⟨rfl, hb1, hg1, hz1⟩
  have HB1 := hid hb1; clear hb1
  have HZ1 := hid hz1; clear hz1
  have g0 : w1.cell? ⟨w.heap.size, 0, none⟩ = some (.int .i64 a) := hg1.cell (by go_simp) (by simp; omega)
  have g2 : w1.cell? ⟨w.heap.size, 2, none⟩ = some (.int .i64 m) := hg1.cell (by go_simp) (by simp; omega)
  have HG1 := hid hg1; clear hg1
  go_wp2_with fail
  refine (set_any b len cap _ (a+4) m _ HB1.out (by rw [setL_length]; exact Hl.out) (by omega) (by omega) h2 h3 hm0 (by omega)).mono ?_
  rintro e w2 ⟨rfl, hb2, hg2, hz2⟩
  have HB2 := hid hb2; clear hb2
  have HG2 := hid hg2; clear hg2
  clear hz2
  go_wp2
  go_end0
  refine ⟨rfl, ?_, grown_trans (below_grow ((Below.refl w.heap.size w).alloc (Nat.le_refl _) _) _) (grown_trans HG1.out HG2.out)⟩
  have := HB2.out
  rwa [show (a + 4).toNat = a.toNat + 4 by omega] at this
end Go.Proofs.Ytcfmimfkaabmkaa
/- The walk of (heap).bytes. -/
set_option linter.unusedVariables false
set_option linter.unusedSimpArgs false
namespace Go.Proofs.Ytcfmimfkaabmkaa
open Go.RowKit
attribute [local go_sem ↓] Go.wp_at_zero Go.wp_at_succ
set_option maxHeartbeats 1000000 in
theorem bytes_any0 (b len cap : Nat) (a s m : Int) (w : World) (h0 : 0 ≤ a) (h1 : a ≤ 8192) (hs0 : 0 ≤ s) (hs : s ≤ 100000000) (h2 : a + 8 + upZ s ≤ len) (h3 : len ≤ cap) :
    Calls Try.prog 74 #[.slice (some ⟨b, 0, none⟩) len cap, .agg #[.int .i64 a, .int .i64 s, .int .i64 m]] w fun e w' => (∃ o : Option Addr, e = .returned (.slice o (upZ s).toNat (upZ s).toNat) ∧ (0 < s → o = some ⟨b, (a + 8).toNat, none⟩)) ∧ Below w.heap.size w w' := by
  have hu := upZ_bd s hs0
  go_enter Try.func74, Try.ntmps74
  go_wp2_with fail
  obtain ⟨W, hW⟩ : ∃ W, W = w.alloc (.cells #[.int .i64 a, .int .i64 s, .int .i64 m] 88) := ⟨_, rfl⟩
  rw [← hW]
  have HBW : Hid (Below w.heap.size w W) := by rw [hW]; exact (Below.refl w.heap.size w).alloc (Nat.le_refl _) _
  have k0 : W.cell? ⟨w.heap.size, 0, none⟩ = some (.int .i64 a) := by rw [hW]; go_simp
  have k1 : W.cell? ⟨w.heap.size, 1, none⟩ = some (.int .i64 s) := by rw [hW]; go_simp
  have k2 : W.cell? ⟨w.heap.size, 2, none⟩ = some (.int .i64 m) := by rw [hW]; go_simp
  clear hW
  have q1 : 0 ≤ a + 8 := by omega
  have q4 : 0 ≤ a + 8 + upZ s := by omega
  have q5 : a + 8 ≤ a + 8 + upZ s := by omega
  have q2 : 0 ≤ upZ s := by omega
  have q3 : a + 8 + upZ s ≤ (cap : Int) := by omega
  go_region_held3 (fun w' => Below W.heap.size W w' ∧ w'.cell? ⟨w.heap.size, 0, none⟩ = some (.int .i64 a) ∧ w'.cell? ⟨w.heap.size, 1, none⟩ = some (.int .i64 s) ∧ w'.cell? ⟨w.heap.size, 2, none⟩ = some (.int .i64 m))
     ((refine (fun hS => ⟨hS, keepc hS k0, keepc hS k1, keepc hS k2⟩ : Below W.heap.size W _ → _) ?_; first | exact (Below.refl _ _).drew | exact below_step hb1 (And.left (by assumption)) | exact below_step hb1 (by assumption)))
     (first | (go_at_call 62; refine (end_any _ _ _ _ (by omega) (by omega) (by omega) (by omega)).mono ?_; rintro e w1 ⟨rfl, hb1⟩))
  have hS : Below W.heap.size W w1 := And.left (by assumption)
  go_wp2
  refine bodyPost_ret (v := .slice (cutAt b 0 (a + 8).toNat (a + 8 + upZ s).toNat) ((a + 8 + upZ s).toNat - (a + 8).toNat) ((a + 8 + upZ s).toNat - (a + 8).toNat)) (by simp [results, Try.results74, go_sem]) rfl ⟨⟨cutAt b 0 (a + 8).toNat (a + 8 + upZ s).toNat, ?_, ?_⟩, ?_⟩
  · have e : (a + 8 + upZ s).toNat - (a + 8).toNat = (upZ s).toNat := by omega
    rw [e]
  · intro h; rw [cutAt_lt (len := (a + 8 + upZ s).toNat) (Nat.le_refl _) (by omega), Nat.zero_add]
  · exact HBW.out.trans (hS.mono HBW.out.size)

theorem bytes_any (n b len cap : Nat) (a s m : Int) (w : World) (hn : upZ s = n) (h0 : 0 ≤ a) (h1 : a ≤ 8192) (hs0 : 0 ≤ s) (hs : s ≤ 100000000) (h2 : a + 8 + upZ s ≤ len) (h3 : len ≤ cap) :
    Calls Try.prog 74 #[.slice (some ⟨b, 0, none⟩) len cap, .agg #[.int .i64 a, .int .i64 s, .int .i64 m]] w fun e w' => (∃ o : Option Addr, e = .returned (.slice o n n) ∧ (0 < s → o = some ⟨b, (a + 8).toNat, none⟩)) ∧ Below w.heap.size w w' := by
  have := bytes_any0 b len cap a s m w h0 h1 hs0 hs h2 h3
  rwa [show (upZ s).toNat = n by omega] at this
end Go.Proofs.Ytcfmimfkaabmkaa
/- Runs of the operations that move bytes: make, copy out of a string or a slice, string(h), []byte(s). -/
set_option linter.unusedVariables false
set_option linter.unusedSimpArgs false
namespace Go.Proofs.Ytcfmimfkaabmkaa
open Go.RowKit
theorem under31 : Try.prog.underlying 31 = some (.slice 5) := by kernel_rfl
theorem under79 : Try.prog.underlying 79 = some (.slice 5) := by kernel_rfl
theorem under5 : Try.prog.underlying 5 = some (.int .u8) := by kernel_rfl
theorem under9 : Try.prog.underlying 9 = some .string := by kernel_rfl
theorem info5 : (Try.prog.info? 5).map (fun i => (i.zero, i.size, i.bytes)) = some (some (.int .u8 0), 1, 1) := by kernel_rfl
theorem info5s : (Try.prog.info? 5).map (·.size) = some 1 := by kernel_rfl

/-- A list of bytes as cells. -/
def cellsB (l : List UInt8) : List Value := l.map fun c => Value.int .u8 (c.toNat : Int)
theorem bytes_iff {w : World} {b : Nat} {l : List UInt8} : Bytes w b l ↔ w.heap[b]? = some (.cells (cellsB l).toArray 5 (0, 0)) := Iff.rfl
theorem cellsB_length (l : List UInt8) : (cellsB l).length = l.length := by simp [cellsB]
theorem cellsB_append (l m : List UInt8) : cellsB (l ++ m) = cellsB l ++ cellsB m := by simp [cellsB]
theorem cellsB_take (l : List UInt8) (n : Nat) : (cellsB l).take n = cellsB (l.take n) := by simp [cellsB, List.map_take]
theorem cellsB_drop (l : List UInt8) (n : Nat) : (cellsB l).drop n = cellsB (l.drop n) := by simp [cellsB, List.map_drop]
theorem cellsB_one (l : List UInt8) : ∀ u ∈ cellsB l, u.oneCell' = true := by
  intro u hu
  simp only [cellsB, List.mem_map] at hu
  obtain ⟨c, _, rfl⟩ := hu
  rfl
theorem cellsB_replicate (n : Nat) : cellsB (List.replicate n 0) = List.replicate n (.int .u8 0) := by simp [cellsB]

/-- l with m laid over it from k on. -/
def over (l : List UInt8) (k : Nat) (m : List UInt8) : List UInt8 := l.take k ++ m ++ l.drop (k + m.length)
theorem over_length (l : List UInt8) (k : Nat) (m : List UInt8) (h : k + m.length ≤ l.length) : (over l k m).length = l.length := by simp [over]; omega
theorem over_nil (l : List UInt8) (k : Nat) : over l k [] = l := by simp [over]
theorem Bytes.over {w : World} {b : Nat} {l : List UInt8} (h : Bytes w b l) (k : Nat) (m : List UInt8) :
    Bytes (w.setRow b (((cellsB l).toArray.toList.take k ++ cellsB m ++ (cellsB l).toArray.toList.drop (k + (cellsB m).length)).toArray)) b (over l k m) := by
  rw [bytes_iff, setRow_heap w b _ _ 5 (0, 0) h]
  simp only [Ytcfmimfkaabmkaa.over, cellsB_append, cellsB_take, cellsB_drop, cellsB_length]
theorem grown_setRow (w : World) (b : Nat) (cs : Array Value) : w.grownBy (w.setRow b cs) (some b) := by
  refine ⟨rfl, rfl, rfl, by simp [World.setRow], fun k hk hn => ?_⟩
  simp only [World.setRow, Array.getElem?_modify]
  rw [if_neg (fun e => hn (by rw [e]))]

/-- copy(h[k:], s): a string into a block of bytes, all of it. -/
theorem run_copy_str (w : World) (b k dLen dCap : Nat) (l : List UInt8) (s : ByteArray) (hB : Bytes w b l) (hn : s.size ≤ dLen) (hfit : k + s.size ≤ l.length) :
    ∃ w', (Builtin.copy_ #[79, 9] 3 #[.slice (some ⟨b, k, none⟩) dLen dCap, .string s]).run Try.prog w = .ok (goInt s.size) w' ∧ Bytes w' b (over l k s.data.toList) ∧ w.grownBy w' (some b) := by
  have hst := run_storeCells_at Try.prog b k 5 (cellsB s.data.toList) 0 (cellsB l).toArray w hB (by simp [cellsB_length]; exact hfit) (cellsB_one _)
  refine ⟨_, ?_, hB.over k s.data.toList, grown_setRow _ _ _⟩
  have hmin : Nat.min s.size dLen = s.size := Nat.min_eq_left hn
  cases hq : Try.prog.info? 5 with
  | none => have := info5s; simp [hq] at this
  | some i =>
    simp only [Nat.add_zero] at hst
    simp only [Builtin.copy_, List.getElem?_toArray, List.getElem?_cons_zero, List.getElem?_cons_succ]
    have htk : List.take s.size (List.map (fun c : UInt8 => Value.int IntKind.u8 (c.toNat : Int)) s.data.toList) = cellsB s.data.toList :=
      List.take_of_length_le (by rw [List.length_map, Array.length_toList]; exact Nat.le_refl _)
    simp [run_underlying under79, Builtin.lenOf, Builtin.firstCells, sizeOf, typeInfo, hq, hmin, htk, hst]
/-- The first n bytes of a slice of bytes. -/
def Part (w : World) (o : Option Addr) (m : List UInt8) : Prop := m = [] ∨ ∃ a, o = some a ∧ ∀ j v, (cellsB m)[j]? = some v → w.cell? (a.add j) = some v
/-- copy(h[k:], x): a slice of bytes into a block of bytes, all of it. -/
theorem run_copy_sl (t u : TypeId) (ht : Try.prog.underlying t = some (.slice 5)) (w : World) (b k dLen dCap sLen sCap : Nat) (o : Option Addr) (l m : List UInt8) (hB : Bytes w b l) (hm : m.length = Nat.min sLen dLen) (hfit : k + m.length ≤ l.length) (hp : Part w o m) (o' : Option Addr) (ho' : 0 < m.length → o' = some ⟨b, k, none⟩) (hk : sLen = 0 → o' = none ∨ ∃ a, o' = some a) :
    ∃ w', (Builtin.copy_ #[t, u] 3 #[.slice o' dLen dCap, .slice o sLen sCap]).run Try.prog w = .ok (goInt m.length) w' ∧ Bytes w' b (over l k m) ∧ w.grownBy w' (some b) := by
  rcases Nat.eq_zero_or_pos m.length with h0 | h0
  · have hm0 : m = [] := List.length_eq_zero_iff.1 h0
    subst hm0
    rw [over_nil]
    refine ⟨w, ?_, hB, grown_refl _ _⟩
    cases hq : Try.prog.info? 5 with
    | none => have := info5s; simp [hq] at this
    | some i =>
      have hm' : sLen.min dLen = 0 := by simpa using hm.symm
      have hl0 : ∀ a, (loadCells a 0).run Try.prog w = .ok #[] w := fun a => by
        have := run_loadCells_list (P := Try.prog) w a [] (fun j v h => by simp at h)
        simpa using this
      cases o <;> cases o' <;> simp [Builtin.copy_, run_underlying ht, Builtin.lenOf, Builtin.firstCells, sizeOf, typeInfo, hq, hm', hl0, storeCells]
  · obtain rfl := ho' h0
    rcases hp with rfl | ⟨a, rfl, hc⟩
    · simp at h0
    · have := run_copy_row (P := Try.prog) w t u 3 5 b k dLen dCap a sLen sCap (cellsB l).toArray 5 (cellsB m) ht info5s hB (by rw [cellsB_length, hm]) hc (by simp [cellsB_length]; exact hfit) (cellsB_one m)
      rw [cellsB_length] at this
      refine ⟨_, this, ?_, grown_setRow _ _ _⟩
      have h2 := hB.over k m
      rw [cellsB_length] at h2
      exact h2

/-- make(heap, n). -/
theorem run_make79 (w : World) (n : Nat) (hn : n ≤ 1000000) :
    (Instr.makeSlice 79 (.int .i64 (n : Int)) (.int .i64 (n : Int))).run Try.prog w = .ok (.slice (some ⟨w.heap.size, 0, none⟩) n n) (w.alloc (.cells (cellsB (List.replicate n 0)).toArray 5)) := by
  obtain ⟨i0, hi, hz0, hz1, hz2⟩ := info_parts info5
  have := run_make (P := Try.prog) w 79 5 i0 (.int .u8 0) under79 hi hz0 .i64 .i64 n n (by omega) (Int.le_refl _) (by rw [hz2]; omega) (by omega)
  rw [this]
  have e : madeCells (Value.int IntKind.u8 0).cells (n * 1) = (cellsB (List.replicate n 0)).toArray := by
    apply Array.ext'
    rw [Nat.mul_one, show (Value.int IntKind.u8 0).cells = #[.int .u8 0] from rfl, toList_madeCells_one, cellsB_replicate]
  rw [Int.toNat_natCast, hz1, e]
theorem bytes_new (w : World) (l : List UInt8) : Bytes (w.alloc (.cells (cellsB l).toArray 5)) w.heap.size l := heap_alloc_new w _

/-- string(h), h a part of a block. -/
theorem run_str_of (t : TypeId) (ht : Try.prog.underlying t = some (.slice 5)) (w : World) (b k len cap : Nat) (m : List UInt8) (hm : m.length = len) (hc : ∀ i, i < len → w.cell? ⟨b, k + i, none⟩ = some (.int .u8 (byt m i))) :
    (convert t 9 (.slice (some ⟨b, k, none⟩) len cap)).run Try.prog w = .ok (.string ⟨m.toArray⟩) w := by
  have := run_convert_bytes_arg (P := Try.prog) w t 5 ht under5 b k len cap (m.map fun c => (c.toNat : Int)) (by simpa using hm) (fun i hi => by
    rw [hc i hi]
    simp [byt, List.getElem?_eq_getElem (show i < m.length by omega)]) 9 under9
  rw [this]
  have e : strOfNums (m.map fun c => (c.toNat : Int)) = ⟨m.toArray⟩ := by
    unfold strOfNums
    rw [List.map_map]
    have : ((fun n : Int => UInt8.ofNat n.toNat) ∘ fun c : UInt8 => (c.toNat : Int)) = id := by
      funext c; simp
    rw [this, List.map_id]
  rw [e]
theorem run_str79 (w : World) (b cap : Nat) (l : List UInt8) (hB : Bytes w b l) : (convert 79 9 (.slice (some ⟨b, 0, none⟩) l.length cap)).run Try.prog w = .ok (.string ⟨l.toArray⟩) w :=
  run_str_of 79 under79 w b 0 l.length cap l rfl (fun i hi => by rw [Nat.zero_add]; exact hB.cell hi)
end Go.Proofs.Ytcfmimfkaabmkaa
/- A range over an iterator whose values are known, a list: the caller owes one walk of a round, at the place k of the list. -/
set_option linter.unusedVariables false
set_option linter.unusedSimpArgs false
namespace Go.Proofs.Ytcfmimfkaabmkaa
open Go.RowKit
variable {P : Program}

/-- What lay at or beyond block n0 lies as it lay. -/
structure Rnd (n0 : Nat) (A B : World) : Prop where
  size : A.heap.size ≤ B.heap.size
  same : ∀ k, n0 ≤ k → k < A.heap.size → B.heap[k]? = A.heap[k]?
theorem Rnd.refl (n0 : Nat) (A : World) : Rnd n0 A A := ⟨Nat.le_refl _, fun _ _ _ => rfl⟩
theorem Rnd.trans {n0 : Nat} {A B C : World} (h : Rnd n0 A B) (k : Rnd n0 B C) : Rnd n0 A C :=
  ⟨Nat.le_trans h.size k.size, fun i hi hlt => (k.same i hi (Nat.lt_of_lt_of_le hlt h.size)).trans (h.same i hi hlt)⟩
theorem Rnd.alloc {n0 : Nat} {A B : World} (h : Rnd n0 A B) (o : Obj) : Rnd n0 A (B.alloc o) :=
  h.trans ⟨by simp, fun k _ hk => Below.heap_alloc _ _ _ hk⟩
theorem Rnd.drewN {n0 : Nat} {A B : World} (h : Rnd n0 A B) (n : Nat) : Rnd n0 A (B.drewN n) := h.trans ⟨Nat.le_refl _, fun _ _ _ => rfl⟩
theorem Rnd.drew {n0 : Nat} {A B : World} (h : Rnd n0 A B) : Rnd n0 A B.drew := h.trans ⟨Nat.le_refl _, fun _ _ _ => rfl⟩
/-- A store into a block that lay before n0, or that is new. -/
theorem Rnd.setCell {n0 : Nat} {A B : World} (h : Rnd n0 A B) {p : Addr} (hp : p.block < n0 ∨ A.heap.size ≤ p.block) (v : Value) : Rnd n0 A (B.setCell p v) :=
  ⟨Nat.le_trans h.size (by simp [World.setCell]), fun k hk hlt => (Below.heap_setCell _ _ _ _ (by omega)).trans (h.same k hk hlt)⟩
theorem Rnd.grown {n0 : Nat} {A B C : World} {row : Option Nat} (h : Rnd n0 A B) (hg : B.grownBy C row) (hr : ∀ b, row = some b → b < n0 ∨ A.heap.size ≤ b) : Rnd n0 A C :=
  ⟨Nat.le_trans h.size hg.size, fun k hk hlt => (hg.block k (Nat.lt_of_lt_of_le hlt h.size) (fun e => by have := hr k e.symm; omega)).trans (h.same k hk hlt)⟩
theorem Rnd.below {n0 : Nat} {A B C : World} (h : Rnd n0 A B) (hb : Below B.heap.size B C) : Rnd n0 A C := h.grown (below_grow hb none) (fun _ e => by cases e)
/-- What lay in cells at or beyond block n0 lies as it lay: a round's word to the iterator. -/
def RndC (n0 : Nat) (A B : World) : Prop := ∀ (k : Nat) (c : Array Value) (t : TypeId) (f : Nat × Nat), n0 ≤ k → A.heap[k]? = some (.cells c t f) → B.heap[k]? = some (.cells c t f)
theorem Rnd.cells {n0 : Nat} {A B : World} (h : Rnd n0 A B) : RndC n0 A B := fun k _ _ _ hk hc => (h.same k hk (Array.getElem?_eq_some_iff.1 hc).1).trans hc
theorem RndC.trans {n0 : Nat} {A B C : World} (h : RndC n0 A B) (k : RndC n0 B C) : RndC n0 A C := fun i c t f hi hc => k i c t f hi (h i c t f hi hc)
theorem rndC_put (n0 : Nat) (A : World) {l : Nat} {o : Obj} (hl : A.heap[l]? = some o) (ho : o.isCells = false) (o' : Obj) : RndC n0 A (A.putObj l o') := fun k c t f _ hc => by
  by_cases e : k = l
  · subst e; rw [hl] at hc; cases hc; cases ho
  · exact (World.putObj_heap_other e).trans hc
theorem RndC.cell {n0 : Nat} {A B : World} (h : RndC n0 A B) {p : Addr} {v : Value} (hp : n0 ≤ p.block) (hc : A.cell? p = some v) : B.cell? p = some v := by
  unfold World.cell? at hc ⊢
  cases hh : A.heap[p.block]? with
  | none => rw [hh] at hc; cases hc
  | some o =>
    rw [hh] at hc
    cases o <;> simp only [reduceCtorEq] at hc
    rename_i c t f
    rw [h _ c t f hp hh]
    exact hc

/-- The contract of an iterator that gives the values us, while R holds between two rounds. -/
def SeqL (P : Program) (gf : Nat) (lb : Array Value) (us : List (Array Value)) (R : World → Prop) : Prop :=
  ∀ (n0 l : Nat) (J Jx : Nat → World → Prop) (W : World), n0 ≤ W.heap.size →
    (∀ k A B, J k A → A.grownBy B none → J k B) → (∀ k A B, Jx k A → A.grownBy B none → Jx k B) → (∀ k A, J k A → R A) →
    (∀ (k : Nat) (x : Array Value) (A : World), us[k]? = some x → J k A → YieldAt Fence.wide 0 P l x A fun e B => (e = .returned (.bool true) ∧ J (k + 1) B ∧ RndC n0 A B) ∨ (e = .returned (.bool false) ∧ Jx (k + 1) B)) →
    J 0 W →
    CallsIn Fence.wide 0 P gf (#[.func (.yield l) #[] #[]] ++ lb) W fun e B => (∃ v, e = .returned v) ∧ (J us.length B ∨ ∃ k, k ≤ us.length ∧ Jx k B)

/-- How the body of the round number k may be left. -/
def roundEnd (n0 : Nat) (I : Nat → World → Prop) (Ix : Code → Nat → World → Prop) (k : Nat) (W : World) : Exit → Act → World → Prop
  | .normal, _, B => Rnd n0 W B ∧ I (k + 1) B
  | .ret, _, B => Rnd n0 W B ∧ Ix .ret (k + 1) B
  | .exit id, _, B => Rnd n0 W B ∧ Ix (.exit id) (k + 1) B
  | .goto t, _, B => Rnd n0 W B ∧ Ix (.goto t) (k + 1) B
  | .panic _, _, _ => False
  | .outgrown, _, _ => False
def assignEnd (n0 : Nat) (Ax : Nat → Act → World → Prop) (k : Nat) (W : World) : Exit → Act → World → Prop
  | .normal, a, B => Rnd n0 W B ∧ Ax k a B
  | _, _, _ => False

theorem wp_range {us : List (Array Value)} {R : World → Prop} {g : Operand} {ps : Array Tmp} {assign body : Code} {Q : Exit → Act → World → Prop} {a : Act} {w : World} {gf : Nat} {lb : Array Value}
    (hg : a.eval g = .func (.func gf) #[] lb) (eg : ∀ args w, (callFunc gf args).run P w = .ok (.enter gf args) w) (hseq : SeqL P gf lb us R) (hps : ∀ (k : Nat) (x : Array Value), us[k]? = some x → x.size = ps.size)
    (I : Nat → World → Prop) (Ix : Code → Nat → World → Prop) (Ax : Nat → Act → World → Prop) (hI : OwnFrom w.heap.size I) (hIx : ∀ c, OwnFrom w.heap.size (Ix c)) (hAx : ∀ a₁, OwnFrom w.heap.size (fun k W => Ax k a₁ W))
    (hR : ∀ k W, I k W → R W) (h0 : I 0 w)
    (hassign : ∀ (l k : Nat) (x : Array Value) (W : World), us[k]? = some x → I k W → w.heap.size + 2 ≤ W.heap.size →
      assign.wpIn (Fence.wide.inRound l) 0 P (assignEnd w.heap.size Ax k W) { tmps := (ps.zip x).foldl (fun t (p, v) => t.setIfInBounds p v) a.tmps, defers := [] } W)
    (hbody : ∀ (l k : Nat) (x : Array Value) (a₁ : Act) (W : World), us[k]? = some x → Ax k a₁ W → w.heap.size + 2 ≤ W.heap.size → body.wpIn (Fence.wide.inRound l) 0 P (roundEnd w.heap.size I Ix k W) a₁ W)
    (hdone : ∀ (D : Nat) (W : World), w.heap.size ≤ D → I us.length W → W.heap[D]? = some (.deferred (some [])) → Q .normal { a with defers := { target := .collected D, args := #[] } :: a.defers } W)
    (hstop : ∀ (D : Nat) (c : Code) (k : Nat) (W : World), w.heap.size ≤ D → Ix c k W → W.heap[D]? = some (.deferred (some [])) → c.wpIn Fence.wide 0 P Q { a with defers := { target := .collected D, args := #[] } :: a.defers } W) :
    (Code.rangeFunc g ps assign body).wpIn Fence.wide 0 P Q a w := by
  refine wpIn_rangeFunc fun fn hfn => ?_
  let rec_ : LoopState → Option Code → Loop := fun st pe => { state := st, pending := pe, fn, tmps := a.tmps, params := ps, assign, body, defers := w.heap.size }
  obtain ⟨W1, hW1⟩ : ∃ W1, (w.alloc (.deferred (some []))).alloc (.loop (rec_ .ready none)) = W1 := ⟨_, rfl⟩
  have hz1 : W1.heap.size = w.heap.size + 2 := by rw [← hW1]; simp
  have hL1 : W1.heap[w.heap.size + 1]? = some (.loop (rec_ .ready none)) := by
    rw [← hW1]; have := World.alloc_heap_new (w.alloc (.deferred (some []))) (.loop (rec_ .ready none)); rwa [World.size_alloc] at this
  have hK1 : W1.heap[w.heap.size]? = some (.deferred (some [])) := by
    rw [← hW1]; exact (Below.heap_alloc _ _ _ (by simp)).trans (World.alloc_heap_new w _)
  have hI1 : I 0 W1 := by rw [← hW1]; exact hI.alloc _ (hI.alloc _ h0)
  -- the two facts of book-keeping, and that the heap has not shrunk, beside the caller's own
  let Bk : LoopState → Option Code → World → Prop := fun st pe W => W.heap[w.heap.size + 1]? = some (.loop (rec_ st pe)) ∧ W.heap[w.heap.size]? = some (.deferred (some []))
  have bkGrow : ∀ st pe A B, Bk st pe A → A.grownBy B none → Bk st pe B := fun st pe A B h hg' =>
    ⟨(hg'.block _ (Array.getElem?_eq_some_iff.1 h.1).1 (by simp)).trans h.1, (hg'.block _ (Array.getElem?_eq_some_iff.1 h.2).1 (by simp)).trans h.2⟩
  have bkOthers : ∀ st pe A B, Bk st pe A → Rnd w.heap.size A B → Bk st pe B := fun st pe A B h hk =>
    ⟨(hk.same _ (by omega) (Array.getElem?_eq_some_iff.1 h.1).1).trans h.1, (hk.same _ (Nat.le_refl _) (Array.getElem?_eq_some_iff.1 h.2).1).trans h.2⟩
  have bkPut : ∀ st pe st' pe' A, Bk st pe A → Bk st' pe' (A.putObj (w.heap.size + 1) (.loop (rec_ st' pe'))) := fun st pe st' pe' A h =>
    ⟨World.putObj_heap_same (Array.getElem?_eq_some_iff.1 h.1).1, (World.putObj_heap_other (by omega)).trans h.2⟩
  have bkSize : ∀ st pe A, Bk st pe A → w.heap.size + 2 ≤ A.heap.size := fun st pe A h => by have := (Array.getElem?_eq_some_iff.1 h.1).1; omega
  refine ⟨w.heap.size + 1, [{ target := .collected w.heap.size, args := #[] }], W1, { target := .fn (.func gf) lb, args := #[.func (.yield (w.heap.size + 1)) #[] #[]] }, W1, gf,
    #[.func (.yield (w.heap.size + 1)) #[] #[]] ++ lb, W1, ?_, ?_, fun _ _ => trivial, ?_, fun h => by simp [Fence.wide] at h, ?_⟩
  · rw [← hW1]; exact run_enterLoop_outer _ _ _ _ _
  · simp only [resolve, hg]
    simp [go_sem]
  · simp [invoke, go_sem, eg]
  · refine CallsIn.mono (hseq w.heap.size (w.heap.size + 1) (fun k W => I k W ∧ Bk .ready none W) (fun k W => ∃ c, Ix c k W ∧ Bk .done (some c) W) W1 (by omega)
      (fun k A B h hg' => ⟨hI k A B none h.1 hg' (fun r e => by cases e), bkGrow _ _ _ _ h.2 hg'⟩)
      (fun k A B ⟨c, h, hb⟩ hg' => ⟨c, hIx c k A B none h hg' (fun r e => by cases e), bkGrow _ _ _ _ hb hg'⟩)
      (fun k A h => hR k A h.1) ?_ ⟨hI1, hL1, hK1⟩) ?_
    · -- one round
      rintro k x A hx ⟨hi, hb⟩
      have hy := run_yield (P := P) (args := x) hb.1 (hps k x hx)
      refine ⟨fn, _, assign, body, hy, roundIn_of_wpIn hfn (wpIn_mono (hassign _ k x A hx hi (bkSize _ _ _ hb)) ?_)⟩
      intro e a₁ A1 hpost
      cases e with
      | normal =>
        obtain ⟨hk1, hax⟩ := hpost
        have hb1 := bkOthers _ _ _ _ hb hk1
        refine ⟨_, run_beginRound hb1.1 rfl, ?_⟩
        have hb2 : Bk .busy none (A1.putObj (w.heap.size + 1) (.loop (rec_ .busy none))) := bkPut _ _ _ _ _ hb1
        have hax2 : Ax k a₁ (A1.putObj (w.heap.size + 1) (.loop (rec_ .busy none))) := (hAx a₁).putObj (s := k) _ hax (by omega) hb1.1 rfl
        refine wpIn_mono (hbody _ k x a₁ _ hx hax2 (bkSize _ _ _ hb2)) ?_
        have fin : ∀ (jump : Option Code) (A3 : World), Rnd w.heap.size (A1.putObj (w.heap.size + 1) (.loop (rec_ .busy none))) A3 →
            (Instr.endRound (w.heap.size + 1) jump).run P A3 = .ok (.bool jump.isNone) (A3.putObj (w.heap.size + 1) (.loop (rec_ (if jump.isNone then .ready else .done) jump))) ∧
            A3.heap[w.heap.size + 1]? = some (.loop (rec_ .busy none)) ∧ Bk (if jump.isNone then .ready else .done) jump (A3.putObj (w.heap.size + 1) (.loop (rec_ (if jump.isNone then .ready else .done) jump))) := fun jump A3 hk3 => by
          have hb3 := bkOthers _ _ _ _ hb2 hk3
          exact ⟨run_endRound (P := P) jump hb3.1, hb3.1, bkPut _ _ _ _ _ hb3⟩
        intro e2 a3 A3 hp
        cases e2 with
        | normal =>
          obtain ⟨hr, hl3, hb4⟩ := fin none A3 hp.1
          exact ⟨_, _, hr, .inl ⟨rfl, ⟨hI.putObj _ hp.2 (by omega) hl3 rfl, hb4⟩, ((hk1.cells.trans (rndC_put _ _ hb1.1 rfl _)).trans hp.1.cells).trans (rndC_put _ _ hl3 rfl _)⟩⟩
        | ret =>
          obtain ⟨hr, hl3, hb4⟩ := fin (some .ret) A3 hp.1
          exact ⟨_, _, hr, .inr ⟨rfl, .ret, (hIx _).putObj _ hp.2 (by omega) hl3 rfl, hb4⟩⟩
        | exit id =>
          obtain ⟨hr, hl3, hb4⟩ := fin (some (.exit id)) A3 hp.1
          exact ⟨_, _, hr, .inr ⟨rfl, .exit id, (hIx _).putObj _ hp.2 (by omega) hl3 rfl, hb4⟩⟩
        | goto t =>
          obtain ⟨hr, hl3, hb4⟩ := fin (some (.goto t)) A3 hp.1
          exact ⟨_, _, hr, .inr ⟨rfl, .goto t, (hIx _).putObj _ hp.2 (by omega) hl3 rfl, hb4⟩⟩
        | panic ch => exact hp.elim
        | outgrown => exact hp.elim
      | ret => exact hpost.elim
      | exit id => exact hpost.elim
      | goto t => exact hpost.elim
      | panic ch => exact hpost.elim
      | outgrown => exact hpost.elim
    · -- behind the iterator
      rintro e W2 ⟨⟨v, rfl⟩, (⟨hi, hb⟩ | ⟨k, _, c, hi, hb⟩)⟩
      · exact ⟨none, _, run_endLoop (P := P) hb.1 (by simp [rec_]), hdone _ _ (Nat.le_refl _) (hI.putObj _ hi (by omega) hb.1 rfl) ((World.putObj_heap_other (by omega)).trans hb.2)⟩
      · exact ⟨some c, _, run_endLoop (P := P) hb.1 (by simp [rec_]), hstop _ c k _ (Nat.le_refl _) ((hIx c).putObj _ hi (by omega) hb.1 rfl) ((World.putObj_heap_other (by omega)).trans hb.2)⟩

/-! What abides the turn of blocks that are no cells. -/
section
variable {β : Type} {B : Nat}
theorem ownF_cell (a : β → Addr) (v : β → Value) : OwnFrom B (fun (k : β) W => W.cell? (a k) = some (v k)) := fun _ _ _ _ hs hg hr => cell_kept hs hg (fun r e => (hr r e).2)
theorem ownF_pure (p : β → Prop) : OwnFrom B (fun (k : β) _ => p k) := fun _ _ _ _ hs _ _ => hs
theorem ownF_bytes (b : β → Nat) (l : β → List UInt8) : OwnFrom B (fun (k : β) W => Bytes W (b k) (l k)) := fun _ _ _ _ hs hg hr =>
  (grownBy_keeps_cells hg (fun r e => (hr r e).2) hs rfl).trans hs
theorem ownF_ownc (a : β → Addr) : OwnFrom B (fun (k : β) W => OwnC W (a k)) := fun _ _ _ _ hs hg hr => by
  obtain ⟨⟨v, hv⟩, hf⟩ := hs
  exact ⟨⟨v, cell_kept hv hg (fun r e => (hr r e).2)⟩, (frozen_kept hv hg (fun r e => (hr r e).2)).trans hf⟩
theorem ownF_ex {γ : Type} {I : γ → β → World → Prop} (h : ∀ x, OwnFrom B (I x)) : OwnFrom B (fun k W => ∃ x, I x k W) := fun s A C row ⟨x, hx⟩ hg hr => ⟨x, h x s A C row hx hg hr⟩
theorem ownF_imp {I : β → World → Prop} (p : β → Prop) (h : OwnFrom B I) : OwnFrom B (fun k W => p k → I k W) := fun s A C row hs hg hr hp => h s A C row (hs hp) hg hr
theorem ownF_row (base e size : Nat) (v : β → Value) (n : β → Nat) (xs : β → List Value) : OwnFrom B (fun (k : β) W => W.ownsRow base e size (v k) (n k) (xs k)) := fun k A C row hs hg hr => by
  obtain ⟨h1, h2⟩ := hs
  refine ⟨h1, ?_⟩
  rcases h2 with h2 | ⟨g, cap, cur, hv, hb, hh, hrest⟩
  · exact .inl h2
  · exact .inr ⟨g, cap, cur, hv, hb, (grownBy_keeps_cells hg (fun r e => (hr r e).2) hh rfl).trans hh, hrest⟩
end
theorem cell_new (w : World) (c : Array Value) (t : TypeId) (k : Nat) (v : Value) (h : c[k]? = some v) : (w.alloc (.cells c t)).cell? ⟨w.heap.size, k, none⟩ = some v := by
  have hn := heap_alloc_new w (.cells c t)
  unfold World.cell?
  rw [hn]
  simpa using h
/-- A cell, and what lay below, behind the turn of the block for the rounds' deferred calls. -/
theorem cell_put {W : World} {D : Nat} {o o' : Obj} {a : Addr} {v : Value} (hD : W.heap[D]? = some o) (ho : o.isCells = false) (h : W.cell? a = some v) : (W.putObj D o').cell? a = some v :=
  cell_kept h (grownBy_putObj' W D o') (fun r e => by cases e; exact ⟨o, hD, ho⟩)
theorem below_put {B : Nat} {w W : World} {D : Nat} (h : Below B w W) (hD : B ≤ D) (o' : Obj) : Below B w (W.putObj D o') :=
  h.trans ⟨rfl, rfl, rfl, by simp, fun k hk => World.putObj_heap_other (by omega)⟩
theorem bytes_put {W : World} {D b : Nat} {o o' : Obj} {l : List UInt8} (hD : W.heap[D]? = some o) (ho : o.isCells = false) (h : Bytes W b l) : Bytes (W.putObj D o') b l :=
  (grownBy_keeps_cells (grownBy_putObj' W D o') (fun r e => by cases e; exact ⟨o, hD, ho⟩) h rfl).trans h
/-- The loop variable u lies in a box of its own, at or beyond n0. -/
def UBox (n0 : Nat) (us : List (Int × Int × Int)) (mk : Nat → Int × Int × Int → Act) (I : Nat → World → Prop) (k : Nat) (a₁ : Act) (W : World) : Prop :=
  ∃ (Bx : Nat) (u : Int × Int × Int), (us[k]? = some u ∧ n0 ≤ Bx ∧ a₁ = mk Bx u) ∧ W.cell? ⟨Bx, 0, none⟩ = some (.int .i64 u.1) ∧ W.cell? ⟨Bx, 1, none⟩ = some (.int .i64 u.2.1) ∧ W.cell? ⟨Bx, 2, none⟩ = some (.int .i64 u.2.2) ∧ I k W
theorem ubox_own {n0 B : Nat} {us : List (Int × Int × Int)} {mk : Nat → Int × Int × Int → Act} {I : Nat → World → Prop} (hI : OwnFrom B I) (a₁ : Act) : OwnFrom B (fun k W => UBox n0 us mk I k a₁ W) :=
  ownF_ex fun Bx => ownF_ex fun u => OwnFrom.and (ownF_pure _) (OwnFrom.and (ownF_cell _ _) (OwnFrom.and (ownF_cell _ _) (OwnFrom.and (ownF_cell _ _) hI)))
/-- The assignment to the loop variable: a new box. -/
theorem ubox_new {n0 : Nat} {us : List (Int × Int × Int)} {mk : Nat → Int × Int × Int → Act} {I : Nat → World → Prop} {k : Nat} {W : World} {u : Int × Int × Int} {a : Act} (hu : us[k]? = some u) (hn : n0 ≤ W.heap.size) (ha : a = mk W.heap.size u)
    (hI : I k (W.alloc (.cells #[.int .i64 u.1, .int .i64 u.2.1, .int .i64 u.2.2] 88))) :
    assignEnd n0 (UBox n0 us mk I) k W .normal a (W.alloc (.cells #[.int .i64 u.1, .int .i64 u.2.1, .int .i64 u.2.2] 88)) :=
  ⟨(Rnd.refl _ _).alloc _, W.heap.size, u, ⟨hu, hn, ha⟩, cell_new _ _ _ _ _ rfl, cell_new _ _ _ _ _ rfl, cell_new _ _ _ _ _ rfl, hI⟩
end Go.Proofs.Ytcfmimfkaabmkaa
/- A range over an iterator whose values are known, where a round may write into rows of pieces that it owns. -/
set_option linter.unusedVariables false
set_option linter.unusedSimpArgs false
namespace Go.Proofs.Ytcfmimfkaabmkaa
open Go.RowKit
variable {P : Program}

/-- The types of elements whose rows a round may write: pieces and moves. -/
def rowTy (t : TypeId) : Bool := t == 37 || t == 78
/-- Block k is a row of pieces, or of moves. -/
def Row37 (W : World) (k : Nat) : Prop := ∃ c t f, rowTy t = true ∧ W.heap[k]? = some (.cells c t f)
/-- What lay at or beyond block n0 lies as it lay, but for rows of pieces. -/
structure RndP (n0 : Nat) (A B : World) : Prop where
  size : A.heap.size ≤ B.heap.size
  same : ∀ k, n0 ≤ k → k < A.heap.size → ¬ Row37 A k → B.heap[k]? = A.heap[k]?
theorem RndP.refl (n0 : Nat) (A : World) : RndP n0 A A := ⟨Nat.le_refl _, fun _ _ _ _ => rfl⟩
theorem RndP.trans {n0 : Nat} {A B C : World} (h : RndP n0 A B) (k : RndP n0 B C) : RndP n0 A C :=
  ⟨Nat.le_trans h.size k.size, fun i hi hlt hr => (k.same i hi (Nat.lt_of_lt_of_le hlt h.size) (fun ⟨c, t, f, ht, e⟩ => hr ⟨c, t, f, ht, (h.same i hi hlt hr).symm.trans e⟩)).trans (h.same i hi hlt hr)⟩
theorem RndP.alloc {n0 : Nat} {A B : World} (h : RndP n0 A B) (o : Obj) : RndP n0 A (B.alloc o) :=
  h.trans ⟨by simp, fun k _ hk _ => Below.heap_alloc _ _ _ hk⟩
theorem RndP.drewN {n0 : Nat} {A B : World} (h : RndP n0 A B) (n : Nat) : RndP n0 A (B.drewN n) := h.trans ⟨Nat.le_refl _, fun _ _ _ _ => rfl⟩
theorem RndP.drew {n0 : Nat} {A B : World} (h : RndP n0 A B) : RndP n0 A B.drew := h.trans ⟨Nat.le_refl _, fun _ _ _ _ => rfl⟩
theorem RndP.setCell {n0 : Nat} {A B : World} (h : RndP n0 A B) {p : Addr} (hp : p.block < n0 ∨ A.heap.size ≤ p.block) (v : Value) : RndP n0 A (B.setCell p v) :=
  ⟨Nat.le_trans h.size (by simp [World.setCell]), fun k hk hlt hr => (Below.heap_setCell _ _ _ _ (by omega)).trans (h.same k hk hlt hr)⟩
theorem RndP.grown {n0 : Nat} {A B C : World} {row : Option Nat} (h : RndP n0 A B) (hg : B.grownBy C row) (hr : ∀ b, row = some b → b < n0 ∨ A.heap.size ≤ b ∨ Row37 A b) : RndP n0 A C :=
  ⟨Nat.le_trans h.size hg.size, fun k hk hlt hn => (hg.block k (Nat.lt_of_lt_of_le hlt h.size) (fun e => by
    rcases hr k e.symm with h1 | h1 | h1
    · omega
    · omega
    · exact hn h1)).trans (h.same k hk hlt hn)⟩
theorem RndP.below {n0 : Nat} {A B C : World} (h : RndP n0 A B) (hb : Below B.heap.size B C) : RndP n0 A C := h.grown (below_grow hb none) (fun _ e => by cases e)
/-- What lay in cells at or beyond block n0 lies as it lay, but for rows of pieces: a round's word to the iterator. -/
def RndCP (n0 : Nat) (A B : World) : Prop := ∀ (k : Nat) (c : Array Value) (t : TypeId) (f : Nat × Nat), n0 ≤ k → rowTy t = false → A.heap[k]? = some (.cells c t f) → B.heap[k]? = some (.cells c t f)
theorem RndP.cells {n0 : Nat} {A B : World} (h : RndP n0 A B) : RndCP n0 A B := fun k c t f hk ht hc => (h.same k hk (Array.getElem?_eq_some_iff.1 hc).1 (fun ⟨c', t', f', ht', e⟩ => by rw [hc] at e; cases e; rw [ht] at ht'; cases ht')).trans hc
theorem RndCP.trans {n0 : Nat} {A B C : World} (h : RndCP n0 A B) (k : RndCP n0 B C) : RndCP n0 A C := fun i c t f hi ht hc => k i c t f hi ht (h i c t f hi ht hc)
theorem rndC_putP (n0 : Nat) (A : World) {l : Nat} {o : Obj} (hl : A.heap[l]? = some o) (ho : o.isCells = false) (o' : Obj) : RndCP n0 A (A.putObj l o') := fun k c t f _ _ hc => by
  by_cases e : k = l
  · subst e; rw [hl] at hc; cases hc; cases ho
  · exact (World.putObj_heap_other e).trans hc

/-- The contract of an iterator that gives the values us, while R holds between two rounds. -/
def SeqLP (P : Program) (gf : Nat) (lb : Array Value) (us : List (Array Value)) (R : World → Prop) : Prop :=
  ∀ (n0 l : Nat) (J Jx : Nat → World → Prop) (W : World), n0 ≤ W.heap.size →
    (∀ k A B, J k A → A.grownBy B none → J k B) → (∀ k A B, Jx k A → A.grownBy B none → Jx k B) → (∀ k A, J k A → R A) →
    (∀ (k : Nat) (x : Array Value) (A : World), us[k]? = some x → J k A → YieldAt Fence.wide 0 P l x A fun e B => (e = .returned (.bool true) ∧ J (k + 1) B ∧ RndCP n0 A B) ∨ (e = .returned (.bool false) ∧ Jx (k + 1) B)) →
    J 0 W →
    CallsIn Fence.wide 0 P gf (#[.func (.yield l) #[] #[]] ++ lb) W fun e B => (∃ v, e = .returned v) ∧ (J us.length B ∨ ∃ k, k ≤ us.length ∧ Jx k B)

/-- How the body of the round number k may be left. -/
def roundEndP (n0 : Nat) (I : Nat → World → Prop) (Ix : Code → Nat → World → Prop) (k : Nat) (W : World) : Exit → Act → World → Prop
  | .normal, _, B => RndP n0 W B ∧ I (k + 1) B
  | .ret, _, B => RndP n0 W B ∧ Ix .ret (k + 1) B
  | .exit id, _, B => RndP n0 W B ∧ Ix (.exit id) (k + 1) B
  | .goto t, _, B => RndP n0 W B ∧ Ix (.goto t) (k + 1) B
  | .panic _, _, _ => False
  | .outgrown, _, _ => False
def assignEndP (n0 : Nat) (Ax : Nat → Act → World → Prop) (k : Nat) (W : World) : Exit → Act → World → Prop
  | .normal, a, B => RndP n0 W B ∧ Ax k a B
  | _, _, _ => False

theorem wp_rangeP {us : List (Array Value)} {R : World → Prop} {g : Operand} {ps : Array Tmp} {assign body : Code} {Q : Exit → Act → World → Prop} {a : Act} {w : World} {gf : Nat} {lb : Array Value}
    (hg : a.eval g = .func (.func gf) #[] lb) (eg : ∀ args w, (callFunc gf args).run P w = .ok (.enter gf args) w) (hseq : SeqLP P gf lb us R) (hps : ∀ (k : Nat) (x : Array Value), us[k]? = some x → x.size = ps.size)
    (I : Nat → World → Prop) (Ix : Code → Nat → World → Prop) (Ax : Nat → Act → World → Prop) (hI : OwnFrom w.heap.size I) (hIx : ∀ c, OwnFrom w.heap.size (Ix c)) (hAx : ∀ a₁, OwnFrom w.heap.size (fun k W => Ax k a₁ W))
    (hR : ∀ k W, I k W → R W) (h0 : I 0 w)
    (hassign : ∀ (l k : Nat) (x : Array Value) (W : World), us[k]? = some x → I k W → w.heap.size + 2 ≤ W.heap.size →
      assign.wpIn (Fence.wide.inRound l) 0 P (assignEndP w.heap.size Ax k W) { tmps := (ps.zip x).foldl (fun t (p, v) => t.setIfInBounds p v) a.tmps, defers := [] } W)
    (hbody : ∀ (l k : Nat) (x : Array Value) (a₁ : Act) (W : World), us[k]? = some x → Ax k a₁ W → w.heap.size + 2 ≤ W.heap.size → body.wpIn (Fence.wide.inRound l) 0 P (roundEndP w.heap.size I Ix k W) a₁ W)
    (hdone : ∀ (D : Nat) (W : World), w.heap.size ≤ D → I us.length W → W.heap[D]? = some (.deferred (some [])) → Q .normal { a with defers := { target := .collected D, args := #[] } :: a.defers } W)
    (hstop : ∀ (D : Nat) (c : Code) (k : Nat) (W : World), w.heap.size ≤ D → Ix c k W → W.heap[D]? = some (.deferred (some [])) → c.wpIn Fence.wide 0 P Q { a with defers := { target := .collected D, args := #[] } :: a.defers } W) :
    (Code.rangeFunc g ps assign body).wpIn Fence.wide 0 P Q a w := by
  refine wpIn_rangeFunc fun fn hfn => ?_
  let rec_ : LoopState → Option Code → Loop := fun st pe => { state := st, pending := pe, fn, tmps := a.tmps, params := ps, assign, body, defers := w.heap.size }
  obtain ⟨W1, hW1⟩ : ∃ W1, (w.alloc (.deferred (some []))).alloc (.loop (rec_ .ready none)) = W1 := ⟨_, rfl⟩
  have hz1 : W1.heap.size = w.heap.size + 2 := by rw [← hW1]; simp
  have hL1 : W1.heap[w.heap.size + 1]? = some (.loop (rec_ .ready none)) := by
    rw [← hW1]; have := World.alloc_heap_new (w.alloc (.deferred (some []))) (.loop (rec_ .ready none)); rwa [World.size_alloc] at this
  have hK1 : W1.heap[w.heap.size]? = some (.deferred (some [])) := by
    rw [← hW1]; exact (Below.heap_alloc _ _ _ (by simp)).trans (World.alloc_heap_new w _)
  have hI1 : I 0 W1 := by rw [← hW1]; exact hI.alloc _ (hI.alloc _ h0)
  -- the two facts of book-keeping, and that the heap has not shrunk, beside the caller's own
  let Bk : LoopState → Option Code → World → Prop := fun st pe W => W.heap[w.heap.size + 1]? = some (.loop (rec_ st pe)) ∧ W.heap[w.heap.size]? = some (.deferred (some []))
  have bkGrow : ∀ st pe A B, Bk st pe A → A.grownBy B none → Bk st pe B := fun st pe A B h hg' =>
    ⟨(hg'.block _ (Array.getElem?_eq_some_iff.1 h.1).1 (by simp)).trans h.1, (hg'.block _ (Array.getElem?_eq_some_iff.1 h.2).1 (by simp)).trans h.2⟩
  have bkOthers : ∀ st pe A B, Bk st pe A → RndP w.heap.size A B → Bk st pe B := fun st pe A B h hk =>
    ⟨(hk.same _ (by omega) (Array.getElem?_eq_some_iff.1 h.1).1 (fun ⟨c, t, f, _, e⟩ => by rw [h.1] at e; cases e)).trans h.1, (hk.same _ (Nat.le_refl _) (Array.getElem?_eq_some_iff.1 h.2).1 (fun ⟨c, t, f, _, e⟩ => by rw [h.2] at e; cases e)).trans h.2⟩
  have bkPut : ∀ st pe st' pe' A, Bk st pe A → Bk st' pe' (A.putObj (w.heap.size + 1) (.loop (rec_ st' pe'))) := fun st pe st' pe' A h =>
    ⟨World.putObj_heap_same (Array.getElem?_eq_some_iff.1 h.1).1, (World.putObj_heap_other (by omega)).trans h.2⟩
  have bkSize : ∀ st pe A, Bk st pe A → w.heap.size + 2 ≤ A.heap.size := fun st pe A h => by have := (Array.getElem?_eq_some_iff.1 h.1).1; omega
  refine ⟨w.heap.size + 1, [{ target := .collected w.heap.size, args := #[] }], W1, { target := .fn (.func gf) lb, args := #[.func (.yield (w.heap.size + 1)) #[] #[]] }, W1, gf,
    #[.func (.yield (w.heap.size + 1)) #[] #[]] ++ lb, W1, ?_, ?_, fun _ _ => trivial, ?_, fun h => by simp [Fence.wide] at h, ?_⟩
  · rw [← hW1]; exact run_enterLoop_outer _ _ _ _ _
  · simp only [resolve, hg]
    simp [go_sem]
  · simp [invoke, go_sem, eg]
  · refine CallsIn.mono (hseq w.heap.size (w.heap.size + 1) (fun k W => I k W ∧ Bk .ready none W) (fun k W => ∃ c, Ix c k W ∧ Bk .done (some c) W) W1 (by omega)
      (fun k A B h hg' => ⟨hI k A B none h.1 hg' (fun r e => by cases e), bkGrow _ _ _ _ h.2 hg'⟩)
      (fun k A B ⟨c, h, hb⟩ hg' => ⟨c, hIx c k A B none h hg' (fun r e => by cases e), bkGrow _ _ _ _ hb hg'⟩)
      (fun k A h => hR k A h.1) ?_ ⟨hI1, hL1, hK1⟩) ?_
    · -- one round
      rintro k x A hx ⟨hi, hb⟩
      have hy := run_yield (P := P) (args := x) hb.1 (hps k x hx)
      refine ⟨fn, _, assign, body, hy, roundIn_of_wpIn hfn (wpIn_mono (hassign _ k x A hx hi (bkSize _ _ _ hb)) ?_)⟩
      intro e a₁ A1 hpost
      cases e with
      | normal =>
        obtain ⟨hk1, hax⟩ := hpost
        have hb1 := bkOthers _ _ _ _ hb hk1
        refine ⟨_, run_beginRound hb1.1 rfl, ?_⟩
        have hb2 : Bk .busy none (A1.putObj (w.heap.size + 1) (.loop (rec_ .busy none))) := bkPut _ _ _ _ _ hb1
        have hax2 : Ax k a₁ (A1.putObj (w.heap.size + 1) (.loop (rec_ .busy none))) := (hAx a₁).putObj (s := k) _ hax (by omega) hb1.1 rfl
        refine wpIn_mono (hbody _ k x a₁ _ hx hax2 (bkSize _ _ _ hb2)) ?_
        have fin : ∀ (jump : Option Code) (A3 : World), RndP w.heap.size (A1.putObj (w.heap.size + 1) (.loop (rec_ .busy none))) A3 →
            (Instr.endRound (w.heap.size + 1) jump).run P A3 = .ok (.bool jump.isNone) (A3.putObj (w.heap.size + 1) (.loop (rec_ (if jump.isNone then .ready else .done) jump))) ∧
            A3.heap[w.heap.size + 1]? = some (.loop (rec_ .busy none)) ∧ Bk (if jump.isNone then .ready else .done) jump (A3.putObj (w.heap.size + 1) (.loop (rec_ (if jump.isNone then .ready else .done) jump))) := fun jump A3 hk3 => by
          have hb3 := bkOthers _ _ _ _ hb2 hk3
          exact ⟨run_endRound (P := P) jump hb3.1, hb3.1, bkPut _ _ _ _ _ hb3⟩
        intro e2 a3 A3 hp
        cases e2 with
        | normal =>
          obtain ⟨hr, hl3, hb4⟩ := fin none A3 hp.1
          exact ⟨_, _, hr, .inl ⟨rfl, ⟨hI.putObj _ hp.2 (by omega) hl3 rfl, hb4⟩, ((hk1.cells.trans (rndC_putP _ _ hb1.1 rfl _)).trans hp.1.cells).trans (rndC_putP _ _ hl3 rfl _)⟩⟩
        | ret =>
          obtain ⟨hr, hl3, hb4⟩ := fin (some .ret) A3 hp.1
          exact ⟨_, _, hr, .inr ⟨rfl, .ret, (hIx _).putObj _ hp.2 (by omega) hl3 rfl, hb4⟩⟩
        | exit id =>
          obtain ⟨hr, hl3, hb4⟩ := fin (some (.exit id)) A3 hp.1
          exact ⟨_, _, hr, .inr ⟨rfl, .exit id, (hIx _).putObj _ hp.2 (by omega) hl3 rfl, hb4⟩⟩
        | goto t =>
          obtain ⟨hr, hl3, hb4⟩ := fin (some (.goto t)) A3 hp.1
          exact ⟨_, _, hr, .inr ⟨rfl, .goto t, (hIx _).putObj _ hp.2 (by omega) hl3 rfl, hb4⟩⟩
        | panic ch => exact hp.elim
        | outgrown => exact hp.elim
      | ret => exact hpost.elim
      | exit id => exact hpost.elim
      | goto t => exact hpost.elim
      | panic ch => exact hpost.elim
      | outgrown => exact hpost.elim
    · -- behind the iterator
      rintro e W2 ⟨⟨v, rfl⟩, (⟨hi, hb⟩ | ⟨k, _, c, hi, hb⟩)⟩
      · exact ⟨none, _, run_endLoop (P := P) hb.1 (by simp [rec_]), hdone _ _ (Nat.le_refl _) (hI.putObj _ hi (by omega) hb.1 rfl) ((World.putObj_heap_other (by omega)).trans hb.2)⟩
      · exact ⟨some c, _, run_endLoop (P := P) hb.1 (by simp [rec_]), hstop _ c k _ (Nat.le_refl _) ((hIx c).putObj _ hi (by omega) hb.1 rfl) ((World.putObj_heap_other (by omega)).trans hb.2)⟩

theorem ubox_newP {n0 : Nat} {us : List (Int × Int × Int)} {mk : Nat → Int × Int × Int → Act} {I : Nat → World → Prop} {k : Nat} {W : World} {u : Int × Int × Int} {a : Act} (hu : us[k]? = some u) (hn : n0 ≤ W.heap.size) (ha : a = mk W.heap.size u)
    (hI : I k (W.alloc (.cells #[.int .i64 u.1, .int .i64 u.2.1, .int .i64 u.2.2] 88))) :
    assignEndP n0 (UBox n0 us mk I) k W .normal a (W.alloc (.cells #[.int .i64 u.1, .int .i64 u.2.1, .int .i64 u.2.2] 88)) :=
  ⟨(RndP.refl _ _).alloc _, W.heap.size, u, ⟨hu, hn, ha⟩, cell_new _ _ _ _ _ rfl, cell_new _ _ _ _ _ rfl, cell_new _ _ _ _ _ rfl, hI⟩
end Go.Proofs.Ytcfmimfkaabmkaa
