/- slices.Repeat of a slice of one element: strings, numbers. -/
import Derived.Test.YtifcgimpgbeocaaK3
import Derived.Test.YtifcgimpgbeocaaK4
import Derived.Test.YtifcgimpgbeocaaK6
import Derived.Test.YtifcgimpgbeocaaK2
set_option linter.unusedVariables false
set_option linter.unusedSimpArgs false
namespace Go.Proofs.Ytifcgimpgbeocaa
open Go.RowKit
attribute [local go_sem] Oper.semAt_some
theorem rep_step {α : Type} (x z : α) {n m k : Nat} (h : m + k ≤ n) : (List.replicate m x ++ List.replicate (n - m) z).take m ++ List.replicate k x ++ (List.replicate m x ++ List.replicate (n - m) z).drop (m + k) = List.replicate (m + k) x ++ List.replicate (n - (m + k)) z := by
  rw [List.take_left' (by simp), List.drop_append, List.drop_of_length_le (by simp), List.drop_replicate, List.replicate_append_replicate]
  simp only [List.length_replicate, List.nil_append]
  congr 2
  omega
/-- Where a row of single cells begins behind l of them: at its capacity's end it keeps the old address. -/
def cut1 (g l cap : Nat) : Addr := if cap = l then ⟨g, 0, none⟩ else ⟨g, l, none⟩
theorem cut1_lt {g l cap : Nat} (h : l < cap) : cut1 g l cap = ⟨g, l, none⟩ := by unfold cut1; rw [if_neg (by omega)]
theorem elemS : Try.prog.elem 24 = 9 := by kernel_rfl
theorem sliceS : Try.prog.underlying 24 = some (.slice (Try.prog.elem 24)) := by kernel_rfl
theorem sizeOfS (w : World) : (sizeOf 9).run Try.prog w = .ok 1 w := by kernel_rfl
@[go_sem high] theorem run_cutlS (g len cap : Nat) (w : World) (kl : IntKind) (l : Int) (h0 : 0 ≤ l) (h1 : l ≤ len) :
    (Instr.slice 24 (.slice (some ⟨g, 0, none⟩) len cap) (some (.int kl l)) none none).run Try.prog w = .ok (.slice (some (cut1 g l.toNat cap)) (len - l.toNat) (cap - l.toNat)) w := by
  rw [run_slice_l (t := 24) (ht := sliceS) (kl := kl) (l := l) (h0 := h0) (h1 := h1), elemS, sizeOfS]
  simp only [Result.andThen, sliced, cut1]
  split <;> simp [addr_add]
@[go_sem high] theorem run_cuthS (g len cap : Nat) (w : World) (kh : IntKind) (h : Int) (h0 : 0 ≤ h) (h1 : h ≤ cap) :
    (Instr.slice 24 (.slice (some ⟨g, 0, none⟩) len cap) none (some (.int kh h)) none).run Try.prog w = .ok (.slice (some ⟨g, 0, none⟩) h.toNat cap) w := by
  rw [run_slice_h (t := 24) (ht := sliceS) (kh := kh) (h := h) (h0 := h0) (h2 := h1), elemS, sizeOfS]
  simp only [Result.andThen, sliced, Nat.zero_mul, Nat.sub_zero]
  split <;> simp [addr_add]
/-- The row while slices.Repeat fills it. -/
def halfS (x : Bs) (n m : Nat) : List Value := List.replicate m (strV x) ++ List.replicate (n - m) (.string ⟨#[]⟩)
theorem halfS_len (x : Bs) {n m : Nat} (h : m ≤ n) : (halfS x n m).length = n := by unfold halfS; simp; omega
theorem sizeS : (Try.prog.info? 9).map (·.size) = some 1 := by kernel_rfl
theorem makeS (w : World) (n : Nat) (hn : n ≤ 1000000000) : (Instr.makeSlice 24 (.int .i64 (n : Int)) (.int .i64 (n : Int))).run Try.prog w = .ok (.slice (some ⟨w.heap.size, 0, none⟩) n n) (w.alloc (.cells (List.replicate n (.string ⟨#[]⟩)).toArray 9)) := by
  obtain ⟨i0, hi, hz0, hz1, hz2⟩ := info_parts infoS
  have := run_make (P := Try.prog) w 24 9 i0 (.string ⟨#[]⟩) underS hi hz0 .i64 .i64 n n (by omega) (Int.le_refl _) (by rw [hz2]; omega) (by omega)
  rw [this]
  have e : madeCells ((.string ⟨#[]⟩ : Value)).cells (n * 1) = (List.replicate n (.string ⟨#[]⟩ : Value)).toArray := by
    apply Array.ext'
    rw [Nat.mul_one, show ((.string ⟨#[]⟩ : Value)).cells = #[.string ⟨#[]⟩] from rfl, toList_madeCells_one]
  rw [Int.toNat_natCast, hz1, e]
theorem encS_rep (x : Bs) : ∀ n, encS (List.replicate n x) = List.replicate n (strV x)
  | 0 => rfl
  | n + 1 => by rw [List.replicate_succ, encS_cons, encS_rep x n, List.replicate_succ]; rfl
/-- One round of slices.Repeat. -/
theorem fillS {w : World} {g n m : Nat} {x : Bs} (hm : m ≤ n) (h : w.heap[g]? = some (.cells (halfS x n m).toArray 9 (0, 0))) (ty : TypeId) (dc sc : Nat) :
    (Builtin.copy_ #[24, 24] ty #[.slice (some ⟨g, m, none⟩) (n - m) dc, .slice (some ⟨g, 0, none⟩) m sc]).run Try.prog w = .ok (goInt (Nat.min m (n - m))) (w.setRow g (halfS x n (m + Nat.min m (n - m))).toArray) := by
  have hk : Nat.min m (n - m) ≤ n - m := Nat.min_le_right _ _
  have hk2 : Nat.min m (n - m) ≤ m := Nat.min_le_left _ _
  rw [run_copy_rowN w 24 24 ty 9 1 g m (n - m) dc ⟨g, 0, none⟩ m sc (halfS x n m).toArray 9 (List.replicate (Nat.min m (n - m)) (strV x)) underS sizeS h (by simp) ?_ ?_ ?_]
  · congr 3
    show (halfS x n m).take m ++ _ ++ (halfS x n m).drop _ = _
    rw [List.length_replicate]
    exact rep_step _ _ (by omega)
  · intro j v hj
    obtain ⟨hj1, rfl⟩ := List.getElem?_eq_some_iff.1 hj
    rw [List.length_replicate] at hj1
    have hg : (halfS x n m)[j]? = some (strV x) := by
      unfold halfS
      rw [List.getElem?_append_left (by rw [List.length_replicate]; omega), List.getElem?_replicate, if_pos (by omega)]
    rw [List.getElem_replicate, addr_add, Nat.zero_add]
    unfold World.cell?
    simp only [h]
    simpa using hg
  · rw [List.length_replicate, List.size_toArray, halfS_len x hm]; omega
  · intro v hv
    rw [List.eq_of_mem_replicate hv]; rfl
theorem firstS {w : World} {g n b : Nat} {x : Bs} (h : w.heap[g]? = some (.cells (halfS x n 0).toArray 9 (0, 0))) (hc : w.cell? ⟨b, 0, none⟩ = some (strV x)) (ty : TypeId) (dc : Nat) :
    (Builtin.copy_ #[24, 24] ty #[.slice (some ⟨g, 0, none⟩) n dc, .slice (some ⟨b, 0, none⟩) 1 1]).run Try.prog w = .ok (goInt (Nat.min 1 n)) (w.setRow g (halfS x n (Nat.min 1 n)).toArray) := by
  have hk : Nat.min 1 n ≤ n := Nat.min_le_right _ _
  have hk2 : Nat.min 1 n ≤ 1 := Nat.min_le_left _ _
  rw [run_copy_rowN w 24 24 ty 9 1 g 0 n dc ⟨b, 0, none⟩ 1 1 (halfS x n 0).toArray 9 (List.replicate (Nat.min 1 n) (strV x)) underS sizeS h (by simp) ?_ ?_ ?_]
  · congr 3
    show (halfS x n 0).take 0 ++ _ ++ (halfS x n 0).drop _ = _
    unfold halfS
    rw [List.length_replicate]
    have := rep_step (strV x) (.string ⟨#[]⟩ : Value) (n := n) (m := 0) (k := Nat.min 1 n) (by omega)
    simp only [Nat.zero_add] at this ⊢
    exact this
  · intro j v hj
    obtain ⟨hj1, rfl⟩ := List.getElem?_eq_some_iff.1 hj
    rw [List.length_replicate] at hj1
    rw [List.getElem_replicate, addr_add, show 0 + j = 0 by omega]
    exact hc
  · rw [List.length_replicate, List.size_toArray, halfS_len x (Nat.zero_le _)]; omega
  · intro v hv
    rw [List.eq_of_mem_replicate hv]; rfl
set_option maxHeartbeats 1000000 in
set_option maxRecDepth 100000 in
theorem rptS_any (x : Bs) (b n : Nat) (w : World) (hc : w.cell? ⟨b, 0, none⟩ = some (strV x)) (hn : n ≤ 1000000000) : Calls Try.prog 109 #[.slice (some ⟨b, 0, none⟩) 1 1, .int .i64 (n : Int)] w (OwnS (List.replicate n x) w) := by
  have HMUL := hid (fun w' => Try.bits_Mul 1 n (by decide) (by omega) w')
  have hm1 : 1 * n / 18446744073709551616 = 0 := by omega
  have hm2 : 1 * n % 18446744073709551616 = n := by omega
  rw [hm1, hm2] at HMUL
  have hmk := makeS w n hn
  have hn0 : ¬ ((n : Int) < 0) := by omega
  have hblt : b < w.heap.size := World.block_lt_of_cell? _ _ hc
  have HR0 : Hid ((w.alloc (.cells (List.replicate n (.string ⟨#[]⟩)).toArray 9)).heap[w.heap.size]? = some (.cells (halfS x n 0).toArray 9 (0, 0))) := by
    show _ = _
    rw [heap_alloc_new]; unfold halfS; simp
  have hcp := fun ty dc => firstS (n := n) HR0.out (keepc ((Below.refl w.heap.size w).alloc (Nat.le_refl _) (.cells (List.replicate n (.string ⟨#[]⟩)).toArray 9)) hc) ty dc
  have hcp := hcp 3 n
  obtain ⟨ROW, hROW⟩ : ∃ ROW : Array Value, (List.replicate n (.string ⟨#[]⟩ : Value)).toArray = ROW := ⟨_, rfl⟩
  rw [hROW] at hmk HR0 hcp
  clear hROW
  have hw1 : IntKind.u64.wrap (n : Int) = (n : Int) := by rw [IntKind.wrap_u64]; omega
  have hw2 : IntKind.i64.wrap (n : Int) = (n : Int) := IntWalk.i64_in _ ⟨by omega, by omega⟩
  have hd1 : decide (9223372036854775807 < (n : Int)) = false := by simp; omega
  go_enter Try.func109, Try.ntmps109
  go_wp2_with (first | (go_at_call 134; refine (HMUL.out _).mono ?_; rintro e w1 ⟨rfl, rfl⟩) | simp only [hcp])
  have HR1 : Hid (((w1.alloc (.cells ROW 9)).setRow w1.heap.size (halfS x n (Nat.min 1 n)).toArray).heap[w1.heap.size]? = some (.cells (halfS x n (Nat.min 1 n)).toArray 9 (0, 0))) := setRow_heap _ _ _ _ _ _ HR0.out
  have HB1 := hid (show Below w1.heap.size w1 ((w1.alloc (.cells ROW 9)).setRow w1.heap.size (halfS x n (Nat.min 1 n)).toArray) from ⟨rfl, rfl, rfl, by simp, fun k hk => (setRow_other _ _ _ _ (by omega)).trans (Below.heap_alloc _ _ _ hk)⟩)
  have hm0 : Nat.min 1 n ≤ n := Nat.min_le_right _ _
  have hm1 : n = 0 ∨ 0 < Nat.min 1 n := by rcases Nat.eq_zero_or_pos n with h | h; exact .inl h; exact .inr (by show 0 < Min.min 1 n; omega)
  obtain ⟨m0, hm0e⟩ : ∃ m, Nat.min 1 n = m := ⟨_, rfl⟩
  rw [hm0e] at HR1 HB1 hm0 hm1
  obtain ⟨W1, hW1⟩ : ∃ W1, (w1.alloc (.cells ROW 9)).setRow w1.heap.size (halfS x n (Nat.min 1 n)).toArray = W1 := ⟨_, rfl⟩
  rw [hm0e] at hW1 ⊢
  rw [hW1] at HR1 HB1 ⊢
  obtain ⟨G, hG⟩ : ∃ G, w1.heap.size = G := ⟨_, rfl⟩
  have HG := hid hG
  rw [hG] at HR1 HB1 ⊢
  clear hW1 hm0e hG hcp hmk HR0 hc HMUL
  go_loopw [8] (fun p wr => ∃ m : Nat, p = .int .i64 m ∧ m ≤ n ∧ (n = 0 ∨ 0 < m) ∧ Hid (wr.heap[G]? = some (.cells (halfS x n m).toArray 9 (0, 0))) ∧ Hid (Below G w1 wr)) (fun p _ => n - (intOf p).toNat)
  case atStart => exact ⟨m0, rfl, hm0, hm1, HR1, HB1⟩
  case round =>
    obtain ⟨m, rfl, hm, hm1', HR, HB⟩ := hrel
    by_cases hlt : m < n
    · have hk1 : 0 < Nat.min m (n - m) := by show 0 < Min.min m (n - m); omega
      have hk2 : Nat.min m (n - m) ≤ n - m := Nat.min_le_right _ _
      have hcp := fun ty dc sc => fillS (w := wr.drew) hm HR.out ty dc sc
      have HR2 : Hid ((wr.drew.setRow G (halfS x n (m + Nat.min m (n - m))).toArray).heap[G]? = some (.cells (halfS x n (m + Nat.min m (n - m))).toArray 9 (0, 0))) := setRow_heap _ _ _ _ _ _ HR.out
      have HB2 := hid (show Below G w1 (wr.drew.setRow G (halfS x n (m + Nat.min m (n - m))).toArray) from HB.out.drew.trans ⟨rfl, rfl, rfl, by simp, fun k hk => setRow_other _ _ _ _ (by omega)⟩)
      obtain ⟨q, hq⟩ : ∃ q, Nat.min m (n - m) = q := ⟨_, rfl⟩
      rw [hq] at hk1 hk2 HR2 HB2
      have hcp := fun ty dc sc => (hcp ty dc sc).trans (by rw [hq])
      have hw3 : IntKind.i64.wrap ((m : Int) + (q : Int)) = (m : Int) + (q : Int) := IntWalk.i64_in _ ⟨by omega, by omega⟩
      have c1 : cut1 G m n = ⟨G, m, none⟩ := cut1_lt hlt
      have z1 : (m : Int) ≤ (n : Int) := by omega
      have hm' : m < n := hlt
      have hd : decide ((m : Int) < (n : Int)) = true := by simp; omega
      go_wp2_with fail
      have e1 : ((m : Int) ≤ (n : Int)) ∨ True := .inr trivial
      go_region_law (refine step_copy_runI rfl _ _ 24 24 rfl (.slice (some ⟨G, m, none⟩) (n - m) (n - m)) (.slice (some ⟨G, 0, none⟩) m n) (by simp [Act.eval, Act.put]) (by simp [Act.eval, Act.put]) (hcp _ _ _) ?_)
      go_simp
      go_roundw
      case rel => exact ⟨_, _, _, _, _, _, _, _, _, _, _, _, _, _, ⟨m + q, by go_num, by omega, by omega, HR2, HB2⟩, rfl⟩
      case measure => simp [intOf]; omega
    · have hmn : m = n := by omega
      subst hmn
      have hO : OwnS (List.replicate m x) w1 (.returned (.slice (some ⟨G, 0, none⟩) m m)) wr := by
        refine ⟨_, rfl, ?_, by rw [HG.out]; exact HB.out⟩
        unfold OS
        rw [HG.out]
        refine ⟨encS_length _, .inr ⟨G, m, _, by rw [List.length_replicate], Nat.le_refl _, HR.out, by rw [List.length_replicate]; exact Nat.le_refl _, by unfold maxLen; omega, by rw [List.size_toArray, halfS_len x (Nat.le_refl _)]; omega, ?_⟩⟩
        rw [encS_rep]
        unfold halfS
        simp
      have HO := hid hO
      clear hO hm1'
      go_wp2_with fail
      go_ret
      exact HO.out
/-- A call that returns a row of its own. -/
def OwnI (l : List Int) (w : World) (e : Ending) (w' : World) : Prop := ∃ v, e = .returned v ∧ OI w' w.heap.size v l ∧ Below w.heap.size w w'
theorem elemI : Try.prog.elem 34 = 3 := by kernel_rfl
theorem sliceI : Try.prog.underlying 34 = some (.slice (Try.prog.elem 34)) := by kernel_rfl
theorem sizeOfI (w : World) : (sizeOf 3).run Try.prog w = .ok 1 w := by kernel_rfl
@[go_sem high] theorem run_cutlI (g len cap : Nat) (w : World) (kl : IntKind) (l : Int) (h0 : 0 ≤ l) (h1 : l ≤ len) :
    (Instr.slice 34 (.slice (some ⟨g, 0, none⟩) len cap) (some (.int kl l)) none none).run Try.prog w = .ok (.slice (some (cut1 g l.toNat cap)) (len - l.toNat) (cap - l.toNat)) w := by
  rw [run_slice_l (t := 34) (ht := sliceI) (kl := kl) (l := l) (h0 := h0) (h1 := h1), elemI, sizeOfI]
  simp only [Result.andThen, sliced, cut1]
  split <;> simp [addr_add]
@[go_sem high] theorem run_cuthI (g len cap : Nat) (w : World) (kh : IntKind) (h : Int) (h0 : 0 ≤ h) (h1 : h ≤ cap) :
    (Instr.slice 34 (.slice (some ⟨g, 0, none⟩) len cap) none (some (.int kh h)) none).run Try.prog w = .ok (.slice (some ⟨g, 0, none⟩) h.toNat cap) w := by
  rw [run_slice_h (t := 34) (ht := sliceI) (kh := kh) (h := h) (h0 := h0) (h2 := h1), elemI, sizeOfI]
  simp only [Result.andThen, sliced, Nat.zero_mul, Nat.sub_zero]
  split <;> simp [addr_add]
/-- The row while slices.Repeat fills it. -/
def halfI (x : Int) (n m : Nat) : List Value := List.replicate m (.int .i64 x) ++ List.replicate (n - m) (.int .i64 0)
theorem halfI_len (x : Int) {n m : Nat} (h : m ≤ n) : (halfI x n m).length = n := by unfold halfI; simp; omega
theorem sizeI : (Try.prog.info? 3).map (·.size) = some 1 := by kernel_rfl
theorem makeI (w : World) (n : Nat) (hn : n ≤ 1000000000) : (Instr.makeSlice 34 (.int .i64 (n : Int)) (.int .i64 (n : Int))).run Try.prog w = .ok (.slice (some ⟨w.heap.size, 0, none⟩) n n) (w.alloc (.cells (List.replicate n (.int .i64 0)).toArray 3)) := by
  obtain ⟨i0, hi, hz0, hz1, hz2⟩ := info_parts infoI
  have := run_make (P := Try.prog) w 34 3 i0 (.int .i64 0) underI hi hz0 .i64 .i64 n n (by omega) (Int.le_refl _) (by rw [hz2]; omega) (by omega)
  rw [this]
  have e : madeCells ((.int .i64 0 : Value)).cells (n * 1) = (List.replicate n (.int .i64 0 : Value)).toArray := by
    apply Array.ext'
    rw [Nat.mul_one, show ((.int .i64 0 : Value)).cells = #[.int .i64 0] from rfl, toList_madeCells_one]
  rw [Int.toNat_natCast, hz1, e]
theorem encI_rep (x : Int) : ∀ n, encI (List.replicate n x) = List.replicate n (.int .i64 x)
  | 0 => rfl
  | n + 1 => by rw [List.replicate_succ, encI_cons, encI_rep x n, List.replicate_succ]; rfl
/-- One round of slices.Repeat. -/
theorem fillI {w : World} {g n m : Nat} {x : Int} (hm : m ≤ n) (h : w.heap[g]? = some (.cells (halfI x n m).toArray 3 (0, 0))) (ty : TypeId) (dc sc : Nat) :
    (Builtin.copy_ #[34, 34] ty #[.slice (some ⟨g, m, none⟩) (n - m) dc, .slice (some ⟨g, 0, none⟩) m sc]).run Try.prog w = .ok (goInt (Nat.min m (n - m))) (w.setRow g (halfI x n (m + Nat.min m (n - m))).toArray) := by
  have hk : Nat.min m (n - m) ≤ n - m := Nat.min_le_right _ _
  have hk2 : Nat.min m (n - m) ≤ m := Nat.min_le_left _ _
  rw [run_copy_rowN w 34 34 ty 3 1 g m (n - m) dc ⟨g, 0, none⟩ m sc (halfI x n m).toArray 3 (List.replicate (Nat.min m (n - m)) (.int .i64 x)) underI sizeI h (by simp) ?_ ?_ ?_]
  · congr 3
    show (halfI x n m).take m ++ _ ++ (halfI x n m).drop _ = _
    rw [List.length_replicate]
    exact rep_step _ _ (by omega)
  · intro j v hj
    obtain ⟨hj1, rfl⟩ := List.getElem?_eq_some_iff.1 hj
    rw [List.length_replicate] at hj1
    have hg : (halfI x n m)[j]? = some (.int .i64 x) := by
      unfold halfI
      rw [List.getElem?_append_left (by rw [List.length_replicate]; omega), List.getElem?_replicate, if_pos (by omega)]
    rw [List.getElem_replicate, addr_add, Nat.zero_add]
    unfold World.cell?
    simp only [h]
    simpa using hg
  · rw [List.length_replicate, List.size_toArray, halfI_len x hm]; omega
  · intro v hv
    rw [List.eq_of_mem_replicate hv]; rfl
theorem firstI {w : World} {g n b : Nat} {x : Int} (h : w.heap[g]? = some (.cells (halfI x n 0).toArray 3 (0, 0))) (hc : w.cell? ⟨b, 0, none⟩ = some (.int .i64 x)) (ty : TypeId) (dc : Nat) :
    (Builtin.copy_ #[34, 34] ty #[.slice (some ⟨g, 0, none⟩) n dc, .slice (some ⟨b, 0, none⟩) 1 1]).run Try.prog w = .ok (goInt (Nat.min 1 n)) (w.setRow g (halfI x n (Nat.min 1 n)).toArray) := by
  have hk : Nat.min 1 n ≤ n := Nat.min_le_right _ _
  have hk2 : Nat.min 1 n ≤ 1 := Nat.min_le_left _ _
  rw [run_copy_rowN w 34 34 ty 3 1 g 0 n dc ⟨b, 0, none⟩ 1 1 (halfI x n 0).toArray 3 (List.replicate (Nat.min 1 n) (.int .i64 x)) underI sizeI h (by simp) ?_ ?_ ?_]
  · congr 3
    show (halfI x n 0).take 0 ++ _ ++ (halfI x n 0).drop _ = _
    unfold halfI
    rw [List.length_replicate]
    have := rep_step (.int .i64 x) (.int .i64 0 : Value) (n := n) (m := 0) (k := Nat.min 1 n) (by omega)
    simp only [Nat.zero_add] at this ⊢
    exact this
  · intro j v hj
    obtain ⟨hj1, rfl⟩ := List.getElem?_eq_some_iff.1 hj
    rw [List.length_replicate] at hj1
    rw [List.getElem_replicate, addr_add, show 0 + j = 0 by omega]
    exact hc
  · rw [List.length_replicate, List.size_toArray, halfI_len x (Nat.zero_le _)]; omega
  · intro v hv
    rw [List.eq_of_mem_replicate hv]; rfl
set_option maxHeartbeats 1000000 in
set_option maxRecDepth 100000 in
theorem rptI_any (x : Int) (b n : Nat) (w : World) (hc : w.cell? ⟨b, 0, none⟩ = some (.int .i64 x)) (hn : n ≤ 1000000000) : Calls Try.prog 139 #[.slice (some ⟨b, 0, none⟩) 1 1, .int .i64 (n : Int)] w (OwnI (List.replicate n x) w) := by
  have HMUL := hid (fun w' => Try.bits_Mul 1 n (by decide) (by omega) w')
  have hm1 : 1 * n / 18446744073709551616 = 0 := by omega
  have hm2 : 1 * n % 18446744073709551616 = n := by omega
  rw [hm1, hm2] at HMUL
  have hmk := makeI w n hn
  have hn0 : ¬ ((n : Int) < 0) := by omega
  have hblt : b < w.heap.size := World.block_lt_of_cell? _ _ hc
  have HR0 : Hid ((w.alloc (.cells (List.replicate n (.int .i64 0)).toArray 3)).heap[w.heap.size]? = some (.cells (halfI x n 0).toArray 3 (0, 0))) := by
    show _ = _
    rw [heap_alloc_new]; unfold halfI; simp
  have hcp := fun ty dc => firstI (n := n) HR0.out (keepc ((Below.refl w.heap.size w).alloc (Nat.le_refl _) (.cells (List.replicate n (.int .i64 0)).toArray 3)) hc) ty dc
  have hcp := hcp 3 n
  obtain ⟨ROW, hROW⟩ : ∃ ROW : Array Value, (List.replicate n (.int .i64 0 : Value)).toArray = ROW := ⟨_, rfl⟩
  rw [hROW] at hmk HR0 hcp
  clear hROW
  have hw1 : IntKind.u64.wrap (n : Int) = (n : Int) := by rw [IntKind.wrap_u64]; omega
  have hw2 : IntKind.i64.wrap (n : Int) = (n : Int) := IntWalk.i64_in _ ⟨by omega, by omega⟩
  have hd1 : decide (9223372036854775807 < (n : Int)) = false := by simp; omega
  go_enter Try.func139, Try.ntmps139
  go_wp2_with (first | (go_at_call 134; refine (HMUL.out _).mono ?_; rintro e w1 ⟨rfl, rfl⟩) | simp only [hcp])
  have HR1 : Hid (((w1.alloc (.cells ROW 3)).setRow w1.heap.size (halfI x n (Nat.min 1 n)).toArray).heap[w1.heap.size]? = some (.cells (halfI x n (Nat.min 1 n)).toArray 3 (0, 0))) := setRow_heap _ _ _ _ _ _ HR0.out
  have HB1 := hid (show Below w1.heap.size w1 ((w1.alloc (.cells ROW 3)).setRow w1.heap.size (halfI x n (Nat.min 1 n)).toArray) from ⟨rfl, rfl, rfl, by simp, fun k hk => (setRow_other _ _ _ _ (by omega)).trans (Below.heap_alloc _ _ _ hk)⟩)
  have hm0 : Nat.min 1 n ≤ n := Nat.min_le_right _ _
  have hm1 : n = 0 ∨ 0 < Nat.min 1 n := by rcases Nat.eq_zero_or_pos n with h | h; exact .inl h; exact .inr (by show 0 < Min.min 1 n; omega)
  obtain ⟨m0, hm0e⟩ : ∃ m, Nat.min 1 n = m := ⟨_, rfl⟩
  rw [hm0e] at HR1 HB1 hm0 hm1
  obtain ⟨W1, hW1⟩ : ∃ W1, (w1.alloc (.cells ROW 3)).setRow w1.heap.size (halfI x n (Nat.min 1 n)).toArray = W1 := ⟨_, rfl⟩
  rw [hm0e] at hW1 ⊢
  rw [hW1] at HR1 HB1 ⊢
  obtain ⟨G, hG⟩ : ∃ G, w1.heap.size = G := ⟨_, rfl⟩
  have HG := hid hG
  rw [hG] at HR1 HB1 ⊢
  clear hW1 hm0e hG hcp hmk HR0 hc HMUL
  go_loopw [8] (fun p wr => ∃ m : Nat, p = .int .i64 m ∧ m ≤ n ∧ (n = 0 ∨ 0 < m) ∧ Hid (wr.heap[G]? = some (.cells (halfI x n m).toArray 3 (0, 0))) ∧ Hid (Below G w1 wr)) (fun p _ => n - (intOf p).toNat)
  case atStart => exact ⟨m0, rfl, hm0, hm1, HR1, HB1⟩
  case round =>
    obtain ⟨m, rfl, hm, hm1', HR, HB⟩ := hrel
    by_cases hlt : m < n
    · have hk1 : 0 < Nat.min m (n - m) := by show 0 < Min.min m (n - m); omega
      have hk2 : Nat.min m (n - m) ≤ n - m := Nat.min_le_right _ _
      have hcp := fun ty dc sc => fillI (w := wr.drew) hm HR.out ty dc sc
      have HR2 : Hid ((wr.drew.setRow G (halfI x n (m + Nat.min m (n - m))).toArray).heap[G]? = some (.cells (halfI x n (m + Nat.min m (n - m))).toArray 3 (0, 0))) := setRow_heap _ _ _ _ _ _ HR.out
      have HB2 := hid (show Below G w1 (wr.drew.setRow G (halfI x n (m + Nat.min m (n - m))).toArray) from HB.out.drew.trans ⟨rfl, rfl, rfl, by simp, fun k hk => setRow_other _ _ _ _ (by omega)⟩)
      obtain ⟨q, hq⟩ : ∃ q, Nat.min m (n - m) = q := ⟨_, rfl⟩
      rw [hq] at hk1 hk2 HR2 HB2
      have hcp := fun ty dc sc => (hcp ty dc sc).trans (by rw [hq])
      have hw3 : IntKind.i64.wrap ((m : Int) + (q : Int)) = (m : Int) + (q : Int) := IntWalk.i64_in _ ⟨by omega, by omega⟩
      have c1 : cut1 G m n = ⟨G, m, none⟩ := cut1_lt hlt
      have z1 : (m : Int) ≤ (n : Int) := by omega
      have hm' : m < n := hlt
      have hd : decide ((m : Int) < (n : Int)) = true := by simp; omega
      go_wp2_with fail
      have e1 : ((m : Int) ≤ (n : Int)) ∨ True := .inr trivial
      go_region_law (refine step_copy_runI rfl _ _ 34 34 rfl (.slice (some ⟨G, m, none⟩) (n - m) (n - m)) (.slice (some ⟨G, 0, none⟩) m n) (by simp [Act.eval, Act.put]) (by simp [Act.eval, Act.put]) (hcp _ _ _) ?_)
      go_simp
      go_roundw
      case rel => exact ⟨_, _, _, _, _, _, _, _, _, _, _, _, _, _, ⟨m + q, by go_num, by omega, by omega, HR2, HB2⟩, rfl⟩
      case measure => simp [intOf]; omega
    · have hmn : m = n := by omega
      subst hmn
      have hO : OwnI (List.replicate m x) w1 (.returned (.slice (some ⟨G, 0, none⟩) m m)) wr := by
        refine ⟨_, rfl, ?_, by rw [HG.out]; exact HB.out⟩
        unfold OI
        rw [HG.out]
        refine ⟨encI_length _, .inr ⟨G, m, _, by rw [List.length_replicate], Nat.le_refl _, HR.out, by rw [List.length_replicate]; exact Nat.le_refl _, by unfold maxLen; omega, by rw [List.size_toArray, halfI_len x (Nat.le_refl _)]; omega, ?_⟩⟩
        rw [encI_rep]
        unfold halfI
        simp
      have HO := hid hO
      clear hO hm1'
      go_wp2_with fail
      go_ret
      exact HO.out
end Go.Proofs.Ytifcgimpgbeocaa
/- isKey, isData, isRecord, isOp, changes. -/
set_option linter.unusedVariables false
set_option linter.unusedSimpArgs false
namespace Go.Proofs.Ytifcgimpgbeocaa
open Go.RowKit
attribute [local go_sem] Oper.semAt_some
theorem dec_le (n k : Nat) : decide ((n : Int) ≤ (k : Int)) = decide (n ≤ k) := decide_eq_decide.2 (by omega)
theorem dec_le16 (n : Nat) : decide ((n : Int) ≤ 16) = decide (n ≤ 16) := decide_eq_decide.2 (by omega)
theorem dec_le255 (n : Nat) : decide ((n : Int) ≤ 255) = decide (n ≤ 255) := decide_eq_decide.2 (by omega)
theorem iskey_same (s : Bs) (w : World) : Calls Try.prog 94 #[strV s] w (fun e w' => e = .returned (.bool (isKey s)) ∧ w' = w) := by
  have ek : isKey s = (decide (1 ≤ s.length) && decide (s.length ≤ 16)) := rfl
  rw [ek]
  clear ek
  by_cases h1 : 1 ≤ s.length
  · have d1 : decide (1 ≤ s.length) = true := by simpa using h1
    rw [d1, Bool.true_and, ← dec_le16]
    go_enter Try.func94, Try.ntmps94
    go_wp2
    go_ret
    exact ⟨rfl, rfl⟩
  · have d1 : decide (1 ≤ s.length) = false := by simpa using h1
    rw [d1, Bool.false_and]
    go_enter Try.func94, Try.ntmps94
    go_wp2
    go_ret
    exact ⟨rfl, rfl⟩
theorem isdata_same (s : Bs) (w : World) : Calls Try.prog 126 #[strV s] w (fun e w' => e = .returned (.bool (decide (s.length ≤ 255))) ∧ w' = w) := by
  rw [← dec_le255]
  go_enter Try.func126, Try.ntmps126
  go_wp2
  go_ret
  exact ⟨rfl, rfl⟩
theorem iskey_any (s : Bs) (w : World) : Calls Try.prog 94 #[strV s] w (Ret (.bool (isKey s)) w) :=
  (iskey_same s w).mono fun e w' ⟨h1, h2⟩ => ⟨h1, by rw [h2]; exact Below.refl _ _⟩
theorem isdata_any (s : Bs) (w : World) : Calls Try.prog 126 #[strV s] w (Ret (.bool (decide (s.length ≤ 255))) w) :=
  (isdata_same s w).mono fun e w' ⟨h1, h2⟩ => ⟨h1, by rw [h2]; exact Below.refl _ _⟩
theorem isrecord_any (r : Rec) (w : World) : Calls Try.prog 86 #[recV r] w (Ret (.bool (isRec r)) w) := by
  have ek : isRec r = (isKey r.1 && decide (r.2.length ≤ 255)) := rfl
  rw [ek]
  clear ek
  have HD := hid (fun w => isdata_any r.2 w)
  have HK := hid (fun w => iskey_any r.1 w)
  cases e : isKey r.1 with
  | true =>
    rw [Bool.true_and]
    rw [e] at HK
    obtain ⟨q, hq⟩ : ∃ q, decide (r.2.length ≤ 255) = q := ⟨_, rfl⟩
    rw [hq] at HD ⊢
    clear e hq
    go_enter Try.func86, Try.ntmps86
    go_wp2_with fail
    refine (HK.out _).mono ?_
    rintro e w1 ⟨rfl, hb1⟩
    have c1 := keepc hb1 (cell_new w #[strV r.1, strV r.2] 59 1 _ rfl)
    have HB1 := hid (below_step hb1 ((Below.refl _ _).alloc (Nat.le_refl _) _))
    clear hb1
    go_wp2_with fail
    refine (HD.out _).mono ?_
    rintro e w2 ⟨rfl, hb2⟩
    have HB2 := hid (below_step hb2 HB1.out)
    clear hb2
    go_wp2_with fail
    go_ret
    exact ⟨rfl, HB2.out⟩
  | false =>
    rw [Bool.false_and]
    rw [e] at HK
    clear e
    go_enter Try.func86, Try.ntmps86
    go_wp2_with fail
    refine (HK.out _).mono ?_
    rintro e w1 ⟨rfl, hb1⟩
    have HB1 := hid (below_step hb1 ((Below.refl _ _).alloc (Nat.le_refl _) _))
    clear hb1
    go_wp2_with fail
    go_ret
    exact ⟨rfl, HB1.out⟩
end Go.Proofs.Ytifcgimpgbeocaa
/- isOp, changes. -/
set_option linter.unusedVariables false
set_option linter.unusedSimpArgs false
namespace Go.Proofs.Ytifcgimpgbeocaa
open Go.RowKit
attribute [local go_sem] Oper.semAt_some
/-- The last line of isOp: what its four tests are. -/
def opEnd (x y : Bool) (f : Int) : Bool := x && (y && (decide (0 ≤ f) && decide (f ≤ 7)))
theorem isOp_eq (o : FOp) : isOp o = if o.1 = 2 then opEnd (decide (o.2.2.1.length ≤ 16)) o.2.2.2.isEmpty o.2.1 else if o.1 = 3 ∨ o.1 = 4 then opEnd (isKey o.2.2.1) (decide (o.2.2.2.length ≤ 255)) o.2.1 else if o.1 = 1 ∨ o.1 = 5 then opEnd (isKey o.2.2.1) o.2.2.2.isEmpty o.2.1 else false := by
  unfold isOp opEnd
  obtain ⟨k, f, a, d⟩ := o
  simp only
  have ef : decide (0 ≤ f ∧ f ≤ 7) = (decide (0 ≤ f) && decide (f ≤ 7)) := Bool.decide_and _ _
  by_cases h2 : k = 2
  · subst h2
    rw [ef]
    simp only [if_pos trivial, if_true]
    cases decide (0 ≤ f) <;> cases decide (f ≤ 7) <;> cases decide (a.length ≤ 16) <;> cases d.isEmpty <;> simp
  · by_cases h3 : k = 3 ∨ k = 4
    · have hk : decide (1 ≤ k ∧ k ≤ 5) = true := by simp; omega
      rw [if_neg h2, if_pos h3, if_neg h2, if_pos h3, hk, ef]
      cases decide (0 ≤ f) <;> cases decide (f ≤ 7) <;> cases isKey a <;> cases decide (d.length ≤ 255) <;> rfl
    · by_cases h1 : k = 1 ∨ k = 5
      · have hk : decide (1 ≤ k ∧ k ≤ 5) = true := by simp; omega
        rw [if_neg h2, if_neg h3, if_neg h2, if_neg h3, if_pos h1, hk, ef]
        cases decide (0 ≤ f) <;> cases decide (f ≤ 7) <;> cases isKey a <;> cases d.isEmpty <;> rfl
      · have hk : decide (1 ≤ k ∧ k ≤ 5) = false := by simp; omega
        rw [if_neg h2, if_neg h3, if_neg h2, if_neg h3, if_neg h1, hk]
        rfl
set_option maxRecDepth 100000 in
theorem isop_any (o : FOp) (w : World) : Calls Try.prog 96 #[opV o] w (Ret (.bool (isOp o)) w) := by
  rw [isOp_eq]
  obtain ⟨k, f, a, d⟩ := o
  simp only
  have HD := hid (fun w => isdata_any d w)
  have HK := hid (fun w => iskey_same a w)
  obtain ⟨x, hx⟩ : ∃ x, isKey a = x := ⟨_, rfl⟩
  obtain ⟨z, hz⟩ : ∃ z, decide (d.length ≤ 255) = z := ⟨_, rfl⟩
  rw [hx] at HK ⊢
  rw [hz] at HD ⊢
  clear hx hz
  obtain ⟨R, hR⟩ : ∃ R, (if k = 2 then opEnd (decide (a.length ≤ 16)) d.isEmpty f else if k = 3 ∨ k = 4 then opEnd x z f else if k = 1 ∨ k = 5 then opEnd x d.isEmpty f else false) = R := ⟨_, rfl⟩
  rw [hR]
  have HR := hid hR
  clear hR
  have g0 : (w.alloc (.cells #[.int .i64 k, .int .i64 f, strV a, strV d] 63)).cell? ⟨w.heap.size, 0, none⟩ = some (.int .i64 k) := cell_new _ _ _ 0 _ rfl
  have g1 : (w.alloc (.cells #[.int .i64 k, .int .i64 f, strV a, strV d] 63)).cell? ⟨w.heap.size, 1, none⟩ = some (.int .i64 f) := cell_new _ _ _ 1 _ rfl
  have g2 : (w.alloc (.cells #[.int .i64 k, .int .i64 f, strV a, strV d] 63)).cell? ⟨w.heap.size, 2, none⟩ = some (strV a) := cell_new _ _ _ 2 _ rfl
  have g3 : (w.alloc (.cells #[.int .i64 k, .int .i64 f, strV a, strV d] 63)).cell? ⟨w.heap.size, 3, none⟩ = some (strV d) := cell_new _ _ _ 3 _ rfl
  go_enter Try.func96, Try.ntmps96
  go_wp2_with fail
  go_quiet ((go_at_call 94; exact Calls.quiet_of_same (HK.out _)))
  go_upto_block 0 with (fail)
  have HB : Hid (Below w.heap.size w ((w.alloc (.cells #[.int .i64 k, .int .i64 f, strV a, strV d] 63)).drewN nq)) := below_drewN ((Below.refl _ _).alloc (Nat.le_refl _) _) _
  obtain ⟨W1, hW1⟩ : ∃ W1, (w.alloc (.cells #[.int .i64 k, .int .i64 f, strV a, strV d] 63)).drewN nq = W1 := ⟨_, rfl⟩
  have c1 : W1.cell? ⟨w.heap.size, 1, none⟩ = some (.int .i64 f) := by rw [← hW1]; exact g1
  have c2 : W1.cell? ⟨w.heap.size, 2, none⟩ = some (strV a) := by rw [← hW1]; exact g2
  have c3 : W1.cell? ⟨w.heap.size, 3, none⟩ = some (strV d) := by rw [← hW1]; exact g3
  rw [hW1] at HB ⊢
  clear hW1 g0 g1 g2 g3
  go_cut [3, 4] (fun u v wx => ∃ p q : Bool, u = .bool p ∧ v = .bool q ∧ Hid (opEnd p q f = R) ∧ Hid (Below w.heap.size w wx) ∧ wx.cell? ⟨w.heap.size, 1, none⟩ = some (.int .i64 f))
  case first =>
    by_cases k2 : k = 2
    · subst k2
      have hr : opEnd (decide ((a.length : Int) ≤ 16)) d.isEmpty f = R := by have := HR.out; rw [if_pos rfl, ← dec_le16] at this; exact this
      have HRR := hid hr
      clear hr
      go_wp2_with fail
      go_meet
      case rel => exact ⟨_, _, rfl, rfl, HRR, HB, c1⟩
    have e2 : (k == 2) = false := by rw [beq_eq_false_iff_ne]; exact k2
    by_cases k3 : k = 3 ∨ k = 4
    · have hr : opEnd x z f = R := by have := HR.out; rw [if_neg k2, if_pos k3] at this; exact this
      have HRR := hid hr
      clear hr
      by_cases k3' : k = 3
      · subst k3'
        go_wp2_with fail
        refine (HD.out _).mono ?_
        rintro e w2 ⟨rfl, hb2⟩
        have c1 := keepc hb2 c1
        have HB2 := hid (below_step hb2 HB.out)
        clear hb2
        go_wp2_with fail
        go_meet
        case rel => exact ⟨_, _, rfl, rfl, HRR, HB2, c1⟩
      · have k4 : k = 4 := by omega
        subst k4
        go_wp2_with fail
        refine (HD.out _).mono ?_
        rintro e w2 ⟨rfl, hb2⟩
        have c1 := keepc hb2 c1
        have HB2 := hid (below_step hb2 HB.out)
        clear hb2
        go_wp2_with fail
        go_meet
        case rel => exact ⟨_, _, rfl, rfl, HRR, HB2, c1⟩
    by_cases k1 : k = 1 ∨ k = 5
    · have hr : opEnd x d.isEmpty f = R := by have := HR.out; rw [if_neg k2, if_neg k3, if_pos k1] at this; exact this
      have HRR := hid hr
      clear hr
      by_cases k1' : k = 1
      · subst k1'
        go_wp2_with fail
        go_meet
        case rel => exact ⟨_, _, rfl, rfl, HRR, HB, c1⟩
      · have k5 : k = 5 := by omega
        subst k5
        go_wp2_with fail
        go_meet
        case rel => exact ⟨_, _, rfl, rfl, HRR, HB, c1⟩
    have hr : false = R := by have := HR.out; rw [if_neg k2, if_neg k3, if_neg k1] at this; exact this
    have e3 : (k == 3) = false := by rw [beq_eq_false_iff_ne]; omega
    have e4 : (k == 4) = false := by rw [beq_eq_false_iff_ne]; omega
    have e1 : (k == 1) = false := by rw [beq_eq_false_iff_ne]; omega
    have e5 : (k == 5) = false := by rw [beq_eq_false_iff_ne]; omega
    have HRR := hid hr
    clear hr k1 k2 k3
    go_wp2_with fail
    go_ret
    exact ⟨ret_bool HRR.out, HB.out⟩
  case rest =>
    obtain ⟨p, q, rfl, rfl, HRR, HB2, c1⟩ := hcut
    clear HR HB HK HD c2 c3
    cases p with
    | false =>
      have hr : false = R := HRR.out
      have HRR := hid hr
      clear hr
      go_wp2_with fail
      go_ret
      exact ⟨ret_bool HRR.out, HB2.out⟩
    | true =>
      cases q with
      | false =>
        have hr : false = R := HRR.out
        have HRR := hid hr
        clear hr
        go_wp2_with fail
        go_ret
        exact ⟨ret_bool HRR.out, HB2.out⟩
      | true =>
        by_cases f0 : 0 ≤ f
        · have d0 : decide (0 ≤ f) = true := by simpa using f0
          have hr : decide (f ≤ 7) = R := by have := HRR.out; unfold opEnd at this; rw [d0] at this; simpa using this
          have HRR := hid hr
          clear hr
          go_wp2_with fail
          go_ret
          exact ⟨ret_bool HRR.out, HB2.out⟩
        · have d0 : decide (0 ≤ f) = false := by simpa using f0
          have hr : false = R := by have := HRR.out; unfold opEnd at this; rw [d0] at this; simpa using this
          have HRR := hid hr
          clear hr
          go_wp2_with fail
          go_ret
          exact ⟨ret_bool HRR.out, HB2.out⟩
/-- changes. -/
theorem changes_any (o : FOp) (w : World) : Calls Try.prog 82 #[opV o] w (Ret (.bool (chg o)) w) := by
  have HO := hid (fun w => isop_any o w)
  have ec : chg o = if o.1 = 3 ∨ o.1 = 4 ∨ o.1 = 5 then isOp o else false := by
    unfold chg
    by_cases h : o.1 = 3 ∨ o.1 = 4 ∨ o.1 = 5
    · have : decide (3 ≤ o.1 ∧ o.1 ≤ 5) = true := by simp; omega
      rw [if_pos h, this, Bool.true_and]
    · have : decide (3 ≤ o.1 ∧ o.1 ≤ 5) = false := by simp; omega
      rw [if_neg h, this, Bool.false_and]
  rw [ec]
  clear ec
  obtain ⟨R, hR⟩ : ∃ R, isOp o = R := ⟨_, rfl⟩
  rw [hR] at HO ⊢
  clear hR
  obtain ⟨k, f, a, d⟩ := o
  simp only at HO ⊢
  have g0 : (w.alloc (.cells #[.int .i64 k, .int .i64 f, strV a, strV d] 63)).cell? ⟨w.heap.size, 0, none⟩ = some (.int .i64 k) := cell_new _ _ _ 0 _ rfl
  have g1 : (w.alloc (.cells #[.int .i64 k, .int .i64 f, strV a, strV d] 63)).cell? ⟨w.heap.size, 1, none⟩ = some (.int .i64 f) := cell_new _ _ _ 1 _ rfl
  have g2 : (w.alloc (.cells #[.int .i64 k, .int .i64 f, strV a, strV d] 63)).cell? ⟨w.heap.size, 2, none⟩ = some (strV a) := cell_new _ _ _ 2 _ rfl
  have g3 : (w.alloc (.cells #[.int .i64 k, .int .i64 f, strV a, strV d] 63)).cell? ⟨w.heap.size, 3, none⟩ = some (strV d) := cell_new _ _ _ 3 _ rfl
  have HB := hid ((Below.refl w.heap.size w).alloc (Nat.le_refl _) (.cells #[.int .i64 k, .int .i64 f, strV a, strV d] 63))
  by_cases h : k = 3 ∨ k = 4 ∨ k = 5
  · rw [if_pos h]
    rcases h with rfl | rfl | rfl
    all_goals
      go_enter Try.func82, Try.ntmps82
      go_wp2_with fail
      refine (HO.out _).mono ?_
      rintro e w2 ⟨rfl, hb2⟩
      have HB2 := hid (below_step hb2 HB.out)
      clear hb2
      go_wp2_with fail
      go_ret
      exact ⟨rfl, HB2.out⟩
  · rw [if_neg h]
    have e3 : (k == 3) = false := by rw [beq_eq_false_iff_ne]; omega
    have e4 : (k == 4) = false := by rw [beq_eq_false_iff_ne]; omega
    have e5 : (k == 5) = false := by rw [beq_eq_false_iff_ne]; omega
    clear h
    go_enter Try.func82, Try.ntmps82
    go_wp2_with fail
    go_ret
    exact ⟨rfl, HB.out⟩
end Go.Proofs.Ytifcgimpgbeocaa
