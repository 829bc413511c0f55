/- Clearing a part of a block of bytes; slices with two bounds. -/
import Derived.Test.YtcfmimfkaabmkaaB4
import Derived.Lib.SliceRun
set_option linter.unusedVariables false
set_option linter.unusedSimpArgs false
namespace Go.Proofs.Ytcfmimfkaabmkaa
open Go.RowKit
@[go_sem high] theorem run_slice_lh79 (b off len cap : Nat) (w : World) (kl kh : IntKind) (l h : Int) (h0 : 0 ≤ l) (h1 : l ≤ h) (h2 : h ≤ cap) :
    (Instr.slice 79 (.slice (some ⟨b, off, none⟩) len cap) (some (.int kl l)) (some (.int kh h)) none).run Try.prog w = .ok (.slice (cutAt b off l.toNat cap) (h.toNat - l.toNat) (cap - l.toNat)) w := by
  rw [run_slice_lh (t := 79) (ht := slice79) (kl := kl) (kh := kh) (l := l) (h := h) (h0 := h0) (h1 := h1) (h2 := h2), elem79, sizeOf5]
  simp only [Result.andThen, sliced, cutAt, Nat.mul_one]
  split <;> simp [addr_add]
theorem over_cons (l : List UInt8) (o : Nat) (c : UInt8) (m : List UInt8) (h : o < l.length) : over (l.set o c) (o + 1) m = over l o (c :: m) := by
  unfold over
  rw [List.take_set, List.take_add_one, List.getElem?_eq_getElem h, List.set_append_right _ _ (by simp; omega), List.drop_set_of_lt (by omega), List.length_cons]
  simp [List.length_take, Nat.min_eq_left (Nat.le_of_lt h)]
  rw [show o + 1 + m.length = o + (m.length + 1) by omega]
theorem bytes_setCells {b : Nat} : ∀ (m : List UInt8) (l : List UInt8) (o : Nat) (w : World), Bytes w b l → o + m.length ≤ l.length → Bytes (w.setCells b o (cellsB m)) b (over l o m)
  | [], l, o, w, h, _ => by rw [over_nil]; exact h
  | c :: m, l, o, w, h, hl => by
    rw [List.length_cons] at hl
    rw [← over_cons l o c m (by omega)]
    exact bytes_setCells m (l.set o c) (o + 1) _ (h.set c) (by rw [List.length_set]; omega)
theorem grown_setCells {b : Nat} {a : World} : ∀ (vs : List Value) (o : Nat) (w : World), a.grownBy w (some b) → a.grownBy (w.setCells b o vs) (some b)
  | [], _, _, h => h
  | v :: vs, o, w, h => grown_setCells vs (o + 1) _ (grown_set h o v)
theorem zero5 (w : World) : (zeroValue 5).run Try.prog w = .ok (.int .u8 0) w := by kernel_rfl
/-- clear(h[k:k+n]). -/
theorem run_clear79 (w : World) (b k n c : Nat) (l : List UInt8) (hB : Bytes w b l) (hn : 0 < n) (hk : k + n ≤ l.length) :
    ∃ w', (∀ ty, (Builtin.clear_ #[79] ty #[.slice (some ⟨b, k, none⟩) n c]).run Try.prog w = .ok (.tuple #[]) w') ∧ Bytes w' b (over l k (List.replicate n 0)) ∧ w.grownBy w' (some b) := by
  refine ⟨w.setCells b k (cellsB (List.replicate n 0)), fun ty => ?_, bytes_setCells _ _ _ _ hB (by simpa using hk), grown_setCells _ _ _ (grown_refl _ _)⟩
  rw [cellsB_replicate]
  exact Lib.run_clear_slice w 79 5 ty (.int .u8 0) under79 zero5 rfl rfl b k n c hn (fun j hj => by rw [hB.cell (by omega)]; rfl) (fun j _ => hB.frozen _)
/-- The state of area.Free's loop: from, to, found, and the last unit. -/
def freeStep (p : Int) (s : Int × Int × Bool × Int × Int × Int) (u : Int × Int × Int) : Int × Int × Bool × Int × Int × Int :=
  if u.2.2 = 1 ∧ u.1 + 8 = p then (if s.2.2.2.2.2 = 2 then s.2.2.2.1 else u.1, u.1 + 8 + upZ u.2.1, true, u)
  else if s.2.2.1 = true ∧ u.2.2 = 2 ∧ u.1 = s.2.1 then (s.1, u.1 + 8 + upZ u.2.1, s.2.2.1, u)
  else (s.1, s.2.1, s.2.2.1, u)
def freeS (p : Int) (us : List (Int × Int × Int)) : Int × Int × Bool × Int × Int × Int := us.foldl (freeStep p) (-1, -1, false, 0, 0, 0)
theorem freeS_bd {l : List UInt8} {en a p : Int} {us : List (Int × Int × Int)} (h : UL l en a us) : ∀ (s : Int × Int × Bool × Int × Int × Int), (s.2.2.1 = true → 8 ≤ s.1 ∧ s.1 + 8 ≤ s.2.1 ∧ s.2.1 ≤ en) → (s.2.2.2.2.2 = 2 → 8 ≤ s.2.2.2.1 ∧ s.2.2.2.1 ≤ a) →
    (us.foldl (freeStep p) s).2.2.1 = true → 8 ≤ (us.foldl (freeStep p) s).1 ∧ (us.foldl (freeStep p) s).1 + 8 ≤ (us.foldl (freeStep p) s).2.1 ∧ (us.foldl (freeStep p) s).2.1 ≤ en := by
  induction h with
  | nil _ => intro s h _ hd; exact h hd
  | @cons a r h h0 h1 hr ih =>
    intro s hs hl
    have hp := upZ_bd (num l a.toNat) (num_bd l _).1
    have hp0 := (num_bd l a.toNat).1
    rw [List.foldl_cons]
    refine ih _ ?_ ?_
    · unfold freeStep
      split
      · intro _; simp only; split
        · rename_i h2; have := hl h2; exact ⟨by omega, by omega, by omega⟩
        · exact ⟨by omega, by omega, by omega⟩
      · split
        · rename_i h2; intro _; have := hs h2.1; obtain ⟨-, -, h3⟩ := h2; simp only at h3 ⊢; exact ⟨by omega, by omega, by omega⟩
        · exact hs
    · unfold freeStep
      have : 8 ≤ a ∧ a ≤ a + 8 + upZ (num l a.toNat) := ⟨h0, by omega⟩
      split
      · intro _; exact this
      · split <;> (intro _; exact this)
/-- The answer of area.Free at an area's raw bytes l, with the units us. -/
def freeRaw (l : List UInt8) (us : List (Int × Int × Int)) (p : Int) : List UInt8 × Int :=
  if (freeS p us).2.2.1 = true then
    let f := (freeS p us).1
    let t := (freeS p us).2.1
    let l2 := setL (over l f.toNat (List.replicate (t.toNat - f.toNat) 0)) 4 (num l 4 - 1).toNat
    (if t = 8 + num l 0 then setL l2 0 (f - 8).toNat else putHead l2 f (t - f - 8) 2, 0)
  else ([], 122)
def DuoPost (r : List UInt8 × Int) (w : World) (e : Ending) (w' : World) : Prop :=
  e = .returned (.tuple #[strV r.1, .int .i64 r.2]) ∧ Below w.heap.size w w'
end Go.Proofs.Ytcfmimfkaabmkaa
