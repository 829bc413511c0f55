/- The walk of area.Alloc: what it refuses. Helpers for the printed regions. -/
import Derived.Test.YtcfmimfkaabmkaaB2
set_option linter.unusedVariables false
set_option linter.unusedSimpArgs false
namespace Go.Proofs.Ytcfmimfkaabmkaa
open Go.RowKit
attribute [local go_sem] Oper.semAt_some
theorem keep_alloc {w : World} {a : Addr} {v : Value} (h : w.cell? a = some v) (o : Obj) : (w.alloc o).cell? a = some v := keepc ((Below.refl w.heap.size w).alloc (Nat.le_refl _) o) h
theorem own_alloc {w : World} {a : Addr} (h : OwnC w a) (o : Obj) : OwnC (w.alloc o) a := keepOwn ((Below.refl w.heap.size w).alloc (Nat.le_refl _) o) h
theorem Bytes.grow1 {w : World} {b : Nat} {l : List UInt8} (h : Bytes w b l) (o : Obj) : Bytes (w.alloc o) b l := h.below ((Below.refl w.heap.size w).alloc (Nat.le_refl _) o) h.lt
theorem bytes_other {w : World} {b : Nat} {l : List UInt8} (h : Bytes w b l) {p : Addr} (hp : b ≠ p.block) (v : Value) : Bytes (w.setCell p v) b l := (Below.heap_setCell _ _ _ _ hp).trans h
theorem below_grown {b : Nat} {w A B : World} (h : Below w.heap.size w A) (hg : A.grownBy B (some b)) (hb : w.heap.size ≤ b) : Below w.heap.size w B :=
  ⟨hg.os.trans h.os, hg.tape.trans h.tape, hg.output.trans h.output, Nat.le_trans h.size hg.size, fun k hk => (hg.block k (by have := h.size; omega) (by simp; omega)).trans (h.block k hk)⟩
theorem own_grown {A B : World} {b : Nat} {a : Addr} (h : OwnC A a) (hg : A.grownBy B (some b)) (hne : a.block ≠ b) : OwnC B a := by
  obtain ⟨⟨v, hv⟩, hf⟩ := h
  have hk := hg.block a.block (World.block_lt_of_cell? A a hv) (by simp; omega)
  exact ⟨⟨v, hg.cell hv (by simp; omega)⟩, (World.frozen?_of_block hk).trans hf⟩
/-- The answer of area.Alloc at an area's raw bytes l, with the units us. -/
def allocFit (n : Int) (u : Int × Int × Int) : Bool := !(u.2.2 == 1) && decide (upZ n ≤ upZ u.2.1)
def putHead (l : List UInt8) (a s m : Int) : List UInt8 := setL (setL l a.toNat s.toNat) (a.toNat + 4) m.toNat
def allocRaw (l : List UInt8) (us : List (Int × Int × Int)) (n : Int) : List UInt8 × Int × Int :=
  match us.find? (allocFit n) with
  | some u =>
    let l1 := putHead (setL l 4 (num l 4 + 1).toNat) u.1 n 1
    (if upZ n < upZ u.2.1 then putHead l1 (u.1 + 8 + upZ n) (upZ u.2.1 - upZ n - 8) 2 else l1, u.1 + 8, 0)
  | none =>
    if 8 + num l 0 + 8 + upZ n > l.length then ([], 0, 121)
    else (setL (putHead (setL l 4 (num l 4 + 1).toNat) (8 + num l 0) n 1) 0 (num l 0 + 8 + upZ n).toNat, 8 + num l 0 + 8, 0)
def TriPost (r : List UInt8 × Int × Int) (w : World) (e : Ending) (w' : World) : Prop :=
  e = .returned (.tuple #[strV r.1, .int .i64 r.2.1, .int .i64 r.2.2]) ∧ Below w.heap.size w w'
set_option maxHeartbeats 1000000 in
set_option maxRecDepth 100000 in
theorem alloc_bad (s : ByteArray) (n : Int) (w : World) (hs : s.size ≤ maxLen) (h : openS s.data.toList = false) : Calls Try.prog 20 #[.string s, .int .i64 n] w (TriPost ([], 0, 120) w) := by
  have HO := fun w => open_any s w hs
  have HO := hid HO
  have HH := hid h; clear h
  go_enter Try.func20, Try.ntmps20
  go_wp2_with fail
  refine (HO.out _).mono ?_
  rintro e w1 ⟨hb, hx⟩
  rw [HH.out, if_neg (by simp)] at hx
  obtain ⟨o, k, c, rfl⟩ := hx
  obtain ⟨hc, hf⟩ := bcell hb
  have hz : w.heap.size + 3 < w1.heap.size := by have := hb.size; simp at this; omega
  have hz2 : w.heap.size + 2 < w1.heap.size := by omega
  have hz1 : w.heap.size + 1 < w1.heap.size := by omega
  have HB := hid hb; clear hb
  go_wp2_with fail
  refine bodyPost_ret (v := .tuple #[.string ⟨#[]⟩, .int .i64 0, .int .i64 120]) (by simp [results, Try.results20, go_sem, hc, hz, hz1, hz2]) rfl ⟨rfl, ?_⟩
  have HBW : Hid (Below w.heap.size w w1) := ((((Below.refl w.heap.size w).alloc (Nat.le_refl _) _).alloc (by simp) _).alloc (by simp; omega) _ |>.alloc (by simp; omega) _).trans (HB.out.mono (by simp; omega))
  clear hc hf
  repeat (first | exact HBW.out | refine Below.alloc ?_ (by simp [World.setCell]; try omega) _ | refine Below.setCell ?_ (by dsimp only; omega) _)
set_option maxHeartbeats 1000000 in
set_option maxRecDepth 100000 in
theorem alloc_arg (s : ByteArray) (n : Int) (w : World) (hs : s.size ≤ maxLen) (h : openS s.data.toList = true) (hn : n < 1 ∨ 8192 < n) : Calls Try.prog 20 #[.string s, .int .i64 n] w (TriPost ([], 0, 1) w) := by
  have HO := fun w => open_any s w hs
  have HO := hid HO
  have HH := hid h; clear h
  rcases hn with hn | hn
  all_goals
    first | (have hd1 : decide (n < 1) = true := by simpa using hn) | (have hd1 : decide (n < 1) = false := by simp; omega)
    try have hd2 : decide (8192 < n) = true := by simpa using hn
    clear hn
    go_enter Try.func20, Try.ntmps20
    go_wp2_with fail
    refine (HO.out _).mono ?_
    rintro e w1 ⟨hb, hx⟩
    rw [HH.out, if_pos rfl] at hx
    obtain ⟨B, rfl, hB, hBl⟩ := hx
    obtain ⟨hc, hf⟩ := bcell hb
    have hz : w.heap.size + 3 < w1.heap.size := by have := hb.size; simp at this; omega
    have hz2 : w.heap.size + 2 < w1.heap.size := by omega
    have hz1 : w.heap.size + 1 < w1.heap.size := by omega
    have hz0 : w.heap.size < w1.heap.size := by omega
    have HB := hid hb; clear hb hB hBl
    go_wp2_with fail
    refine bodyPost_ret (v := .tuple #[.string ⟨#[]⟩, .int .i64 0, .int .i64 1]) (by simp [results, Try.results20, go_sem, hc, hz, hz1, hz2]) rfl ⟨rfl, ?_⟩
    have HBW : Hid (Below w.heap.size w w1) := ((((Below.refl w.heap.size w).alloc (Nat.le_refl _) _).alloc (by simp) _).alloc (by simp; omega) _ |>.alloc (by simp; omega) _).trans (HB.out.mono (by simp; omega))
    clear hc hf
    repeat (first | exact HBW.out | refine Below.alloc ?_ (by simp [World.setCell]; try omega) _ | refine Below.setCell ?_ (by dsimp only; omega) _)
end Go.Proofs.Ytcfmimfkaabmkaa
