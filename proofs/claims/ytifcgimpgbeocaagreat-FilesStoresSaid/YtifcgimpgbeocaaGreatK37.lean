/- Rows that are made and filled cell by cell. -/
import Derived.Test.YtifcgimpgbeocaaGreatK27
import Derived.Test.YtifcgimpgbeocaaGreatK10
set_option linter.unusedVariables false
set_option linter.unusedSimpArgs false
namespace Go.Proofs.YtifcgimpgbeocaaGreat
open Go.RowKit
/-- Block g has sz cells; the first ones are xs. -/
def Cpy (w : World) (g : Nat) (T : TypeId) (sz : Nat) (xs : List Value) : Prop := ∃ cur : Array Value, w.heap[g]? = some (.cells cur T (0, 0)) ∧ cur.size = sz ∧ cur.toList.take xs.length = xs
variable {w w' : World} {g : Nat} {T : TypeId} {sz : Nat} {xs : List Value}
theorem Cpy.new (w : World) (cur : Array Value) (T : TypeId) : Cpy (w.alloc (.cells cur T)) w.heap.size T cur.size [] := ⟨cur, heap_alloc_new w _, rfl, rfl⟩
theorem Cpy.put {i : Nat} (h : Cpy w g T sz xs) (hi : xs.length = i) (hs : i < sz) (v : Value) : Cpy (w.setCell ⟨g, i, none⟩ v) g T sz (xs ++ [v]) := by
  obtain ⟨cur, h1, h2, h3⟩ := h
  subst hi
  refine ⟨cur.setIfInBounds xs.length v, heap_setCell_same w g xs.length cur T v h1, by simpa using h2, ?_⟩
  rw [Array.toList_setIfInBounds, List.length_append, List.length_singleton]
  have hl : xs.length < cur.toList.length := by simpa [h2] using hs
  rw [List.take_succ_eq_append_getElem (by simpa using hl), List.getElem_set_self, List.take_set, h3]
  rw [List.set_eq_of_length_le (Nat.le_refl _)]
theorem Cpy.frm {F : Nat → Prop} (h : Cpy w g T sz xs) (hf : Frm F w w') (hg : ¬ F g) : Cpy w' g T sz xs := by
  obtain ⟨cur, h1, h2, h3⟩ := h
  exact ⟨cur, (hf.block g (Array.getElem?_eq_some_iff.1 h1).1 hg).trans h1, h2, h3⟩
theorem Cpy.below (h : Cpy w g T sz xs) (hb : Below w.heap.size w w') : Cpy w' g T sz xs := h.frm (Frm.of_below (F := fun _ => False) hb) (fun h => h)
theorem Cpy.glt (h : Cpy w g T sz xs) : g < w.heap.size := by
  obtain ⟨cur, h1, h2, h3⟩ := h
  exact (Array.getElem?_eq_some_iff.1 h1).1
theorem Cpy.cell {i : Nat} (h : Cpy w g T sz xs) (hi : i < sz) : OwnC w ⟨g, i, none⟩ := by
  obtain ⟨cur, h1, h2, h3⟩ := h
  refine ⟨⟨cur[i], ?_⟩, ?_⟩
  · unfold World.cell?
    rw [h1]
    simp
  · unfold World.frozen?
    rw [h1]
    simp
theorem Cpy.row {B n s : Nat} (h : Cpy w g T (n * s) xs) (hx : xs.length = n * s) (hB : B ≤ g) (hn : n ≤ maxLen) : w.ownsRow B T s (.slice (some ⟨g, 0, none⟩) n n) n xs := by
  obtain ⟨cur, h1, h2, h3⟩ := h
  exact ⟨hx, .inr ⟨g, n, cur, rfl, hB, h1, Nat.le_refl _, hn, h2, by rw [← hx]; exact h3⟩⟩
/-- What make answers. -/
theorem run_makeA (w : World) (n : Nat) (hn : n ≤ 1000000) :
    ∃ cur : Array Value, cur.size = n * 3 ∧ (Instr.makeSlice 37 (.int .i64 (n : Int)) (.int .i64 (n : Int))).run Tryz.prog w = .ok (.slice (some ⟨w.heap.size, 0, none⟩) n n) (w.alloc (.cells cur 77)) := by
  obtain ⟨i0, hi, hz0, hz1, hz2⟩ := info_parts infoA
  have := run_make (P := Tryz.prog) w 37 77 i0 _ underA hi hz0 .i64 .i64 n n (by omega) (Int.le_refl _) (by rw [hz2]; omega) (by omega)
  refine ⟨_, ?_, this⟩
  rw [size_madeCells, hz1, Int.toNat_natCast]
theorem run_makeO (w : World) (n : Nat) (hn : n ≤ 1000000) :
    ∃ cur : Array Value, cur.size = n * 4 ∧ (Instr.makeSlice 36 (.int .i64 (n : Int)) (.int .i64 (n : Int))).run Tryz.prog w = .ok (.slice (some ⟨w.heap.size, 0, none⟩) n n) (w.alloc (.cells cur 55)) := by
  obtain ⟨i0, hi, hz0, hz1, hz2⟩ := info_parts infoO
  have := run_make (P := Tryz.prog) w 36 55 i0 _ underO hi hz0 .i64 .i64 n n (by omega) (Int.le_refl _) (by rw [hz2]; omega) (by omega)
  refine ⟨_, ?_, this⟩
  rw [size_madeCells, hz1, Int.toNat_natCast]
theorem encA_take {l : List Ac} {k : Nat} {x : Ac} (h : l[k]? = some x) : encA (l.take (k + 1)) = encA (l.take k) ++ [.bool x.1] ++ [.int .i64 x.2.1] ++ [strV x.2.2] := by
  rw [List.take_add_one, h, encA_append]
  simp [encA]
theorem encO_take {l : List FOp} {k : Nat} {x : FOp} (h : l[k]? = some x) : encO (l.take (k + 1)) = encO (l.take k) ++ [.int .i64 x.1] ++ [.int .i64 x.2.1] ++ [strV x.2.2.1] ++ [strV x.2.2.2] := by
  rw [List.take_add_one, h, encO_append]
  simp [encO]
theorem cpyA_put {n k : Nat} {l : List Ac} {x : Ac} (h : Cpy w g T (n * 3) (encA (l.take k))) (hl : l.length = n) (hx : l[k]? = some x) :
    Cpy (((w.setCell ⟨g, k * 3, none⟩ (.bool x.1)).setCell ⟨g, k * 3 + 1, none⟩ (.int .i64 x.2.1)).setCell ⟨g, k * 3 + 2, none⟩ (strV x.2.2)) g T (n * 3) (encA (l.take (k + 1))) := by
  have hk : k < l.length := (List.getElem?_eq_some_iff.1 hx).1
  have e : (encA (l.take k)).length = k * 3 := by rw [encA_length, List.length_take]; omega
  rw [encA_take hx]
  exact ((h.put e (by omega) _).put (by simp [e]) (by omega) _).put (by simp [e]) (by omega) _
theorem cpyO_put {n k : Nat} {l : List FOp} {x : FOp} (h : Cpy w g T (n * 4) (encO (l.take k))) (hl : l.length = n) (hx : l[k]? = some x) :
    Cpy ((((w.setCell ⟨g, k * 4, none⟩ (.int .i64 x.1)).setCell ⟨g, k * 4 + 1, none⟩ (.int .i64 x.2.1)).setCell ⟨g, k * 4 + 2, none⟩ (strV x.2.2.1)).setCell ⟨g, k * 4 + 3, none⟩ (strV x.2.2.2)) g T (n * 4) (encO (l.take (k + 1))) := by
  have hk : k < l.length := (List.getElem?_eq_some_iff.1 hx).1
  have e : (encO (l.take k)).length = k * 4 := by rw [encO_length, List.length_take]; omega
  rw [encO_take hx]
  exact (((h.put e (by omega) _).put (by simp [e]) (by omega) _).put (by simp [e]) (by omega) _).put (by simp [e]) (by omega) _
end Go.Proofs.YtifcgimpgbeocaaGreat
