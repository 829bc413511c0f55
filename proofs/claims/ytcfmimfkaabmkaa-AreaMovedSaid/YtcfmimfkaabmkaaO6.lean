/- area.Compact. -/
import Derived.Test.YtcfmimfkaabmkaaO5
set_option linter.unusedVariables false
set_option linter.unusedSimpArgs false
namespace Go.Proofs.Ytcfmimfkaabmkaa
open Go.RowKit
attribute [local go_sem] Oper.semAt_some
attribute [local irreducible] num
theorem render_zs (n : Nat) (h : 8 ≤ n) : render n [] = zs n := by
  have : four 0 = zs 4 := rfl
  simp only [render, endOf, enc, List.length_nil, Nat.sub_self, List.nil_append]
  rw [this, ← zs_add, ← zs_add]
  congr 1; omega
theorem units_mark : ∀ (lay : Lay) (e : Nat), ∀ u ∈ unitsOf e lay, u.2.2 = 1 ∨ u.2.2 = 2
  | [], _, u, h => by cases h
  | (p, s) :: r, e, u, h => by
    rw [unitsOf] at h
    rcases List.mem_append.1 h with h | h
    · split at h
      · cases h
      · rw [List.mem_singleton] at h; subst h; exact .inr rfl
    · rcases List.mem_cons.1 h with h | h
      · subst h; exact .inl rfl
      · exact units_mark r _ u h
/-- One allocation more behind the compact ones. -/
theorem add_at {l : List UInt8} {lay : Lay} (hA : Area l lay) {k p : Nat} {s : List UInt8} (hk : lay[k]? = some (p, s)) (N T B : Nat) (hN : N = l.length) (ek : Nat) (hek : endOf 8 (compL 8 (lay.take k)) = ek) (w : World)
    (hT : Bytes w T (render N (compL 8 (lay.take k)))) (hB : Bytes w B l) (hTB : B ≠ T) :
    Calls Try.prog 73 #[.slice (some ⟨T, 0, none⟩) N N, .agg #[.int .i64 ek, .int .i64 s.length, .int .i64 1], .slice (some ⟨B, p, none⟩) (upN s.length) (upN s.length)] w
      (fun e w' => e = .returned (.tuple #[]) ∧ Bytes w' T (render N (compL 8 (lay.take (k + 1)))) ∧ w.grownBy w' (some T)) := by
  subst hN
  have hok := hA.2.2.1
  have c1 := compL_ok (lay.take k) true true 8 8 (ok_take hok k) rfl
  have c2 := compL_end (lay.take k) true 8 8 (ok_take hok k) (Nat.le_refl _)
  have c3 := compL_ok (lay.take (k + 1)) true true 8 8 (ok_take hok (k + 1)) rfl
  have c4 := compL_end (lay.take (k + 1)) true 8 8 (ok_take hok (k + 1)) (Nat.le_refl _)
  have hCS := compL_snoc (lay.take k) 8 p s
  have hES := endOf_snoc (compL 8 (lay.take k)) 8 (endOf 8 (compL 8 (lay.take k)) + 8) s
  rw [← hCS, ← take_snoc hk] at hES
  rw [← take_snoc hk] at hCS
  obtain ⟨k1, k2, k3, k4, k5, k6⟩ := lay_at hok hk
  have e1 : endOf 8 (lay.take (k + 1)) = p + upN s.length := by rw [take_snoc hk, endOf_snoc]
  have hend := hA.2.2.2.1
  have hx := area_sl hA hk
  have hub := upN_bd s.length
  have he8 := endOf_8 (e := 8) rfl c1
  have hge := endOf_ge c1
  rw [hek] at hES hCS c2 he8 hge
  have hrl := render_length (n := l.length) c1 (by rw [hek]; omega)
  have hAT : Area (render l.length (compL 8 (lay.take k))) (compL 8 (lay.take k)) := area_render c1 hA.1 hA.2.1 (by rw [hek]; omega)
  obtain ⟨pre, post, hl, hpl⟩ := area_at hA hk
  have hml : (s ++ zs (upN s.length - s.length)).length = upN s.length := by rw [List.length_append, zs_length]; omega
  have hlen := congrArg List.length hl
  rw [List.length_append, List.length_append, hml] at hlen
  have hcm : ∀ i, i < (s ++ zs (upN s.length - s.length)).length → w.cell? ⟨B, p + i, none⟩ = some (.int .u8 (byt (s ++ zs (upN s.length - s.length)) i)) := by
    intro i hi
    rw [hB.cell (show p + i < l.length by rw [hml] at hi; omega)]
    congr 2
    unfold byt
    congr 2
    rw [hl, List.getElem?_append_right (by omega), List.getElem?_append_left (by omega)]
    congr 2; omega
  have h := add_any T B p (upN s.length) (render l.length (compL 8 (lay.take k))) (compL 8 (lay.take k)) (ek + 8) s (s ++ zs (upN s.length - s.length)) w hAT hT (by omega) (by rw [hek]; omega) (by rw [hrl]; omega) k6
    (by rw [hml]) (by rw [hml]; omega) hTB hB.lt hcm
  rw [hml, hrl, show ((ek + 8 : Nat) : Int) - 8 = (ek : Int) by omega] at h
  rw [hCS]
  exact h
def CmpI (us : List (Int × Int × Int)) (lay : Lay) (N : Nat) (W0 : World) (X0 : Nat) (hB hT : Value) (k : Nat) (W : World) : Prop :=
  ∃ v, W.cell? ⟨X0 + 3, 0, none⟩ = some v ∧ OwnC W ⟨X0 + 3, 0, none⟩ ∧ OM W W0.heap.size v (movesL 8 (lay.take (markP 1 (us.take k)).length)) ∧ Below X0 W0 W ∧ Bytes W (X0 + 1) (render N (compL 8 (lay.take (markP 1 (us.take k)).length))) ∧
    W.cell? ⟨X0, 0, none⟩ = some hB ∧ W.cell? ⟨X0 + 2, 0, none⟩ = some hT ∧ W.cell? ⟨X0 + 4, 0, none⟩ = some hB
theorem cmpI_own (us : List (Int × Int × Int)) (lay : Lay) (N : Nat) (W0 : World) (X0 : Nat) (hB hT : Value) (B : Nat) (hX : X0 ≤ W0.heap.size) (hBB : W0.heap.size ≤ B) : OwnFrom B (CmpI us lay N W0 X0 hB hT) :=
  ownF_ex fun v => OwnFrom.and (ownF_cell _ _) (OwnFrom.and (ownF_ownc _) (OwnFrom.and (ownF_row _ _ _ _ _ _) (OwnFrom.and (ownFrom_below hX (Nat.le_trans hX hBB)) (OwnFrom.and (ownF_bytes _ _) (OwnFrom.and (ownF_cell _ _) (OwnFrom.and (ownF_cell _ _) (ownF_cell _ _)))))))
theorem om_rnd {B : Nat} {v : Value} {ms : List Mv} {W W' : World} (h : OM W B v ms) (hr : Rnd B W W') : OM W' B v ms := by
  obtain ⟨hl, h | ⟨g, cap, cur, hv, hb, hg, h⟩⟩ := h
  · exact ⟨hl, .inl h⟩
  · exact ⟨hl, .inr ⟨g, cap, cur, hv, hb, (hr.same g hb (Array.getElem?_eq_some_iff.1 hg).1).trans hg, h⟩⟩
theorem rndP_of {n0 : Nat} {A B : World} (h : Rnd n0 A B) : RndP n0 A B := ⟨h.size, fun k hk hlt _ => h.same k hk hlt⟩
theorem om_ne_box {W : World} {B Bx : Nat} {v : Value} {ms : List Mv} (h : OM W B v ms) (hb : Box88 W Bx) : v.ownBlock ≠ some Bx := by
  intro e
  obtain ⟨c, f, hb⟩ := hb
  obtain ⟨-, ⟨rfl, -⟩ | ⟨g, cap, cur, rfl, -, hg, -⟩⟩ := h
  · simp [Value.ownBlock] at e
  · simp only [Value.ownBlock, Option.some.injEq] at e
    subst e
    rw [hb] at hg
    simp at hg
theorem om_putObj {W : World} {B D : Nat} {v : Value} {ms : List Mv} {o : Obj} (h : OM W B v ms) (hD : W.heap[D]? = some o) (ho : o.isCells = false) (o' : Obj) : OM (W.putObj D o') B v ms :=
  World.ownsRow.kept h (grownBy_putObj' W D o') (.inr (Ne.symm (row_put h hD ho)))
/-- What the region that appends a move is told. -/
def cmpCfg (X0 B Bx Ox : Nat) (Wr W0 : World) (l l' : List UInt8) (a s ek : Int) (v : Value) (ms : List Mv) (hX : X0 + 5 ≤ W0.heap.size) (hW : W0.heap.size ≤ Wr.heap.size) (hBx : W0.heap.size ≤ Bx) (hOx : W0.heap.size ≤ Ox)
    (n1 : v.ownBlock ≠ some Bx) (n2 : v.ownBlock ≠ some Ox) (n3 : ∀ b, v.ownBlock = some b → Row37 Wr b) : AppCfg where
  X := X0 + 3
  n0 := W0.heap.size
  ty := 78
  sz := 3
  fx := fun i => match i with
    | 0 => some v
    | 1 => some (.agg #[.int .i64 a, .int .i64 s, .int .i64 1])
    | 2 => some (.agg #[.int .i64 (a + 8), .int .i64 s])
    | 3 => some (.int .i64 (a + 8))
    | 4 => some (.agg #[.int .i64 ek, .int .i64 s, .int .i64 1])
    | 5 => some (.agg #[.int .i64 (ek + 8), .int .i64 s])
    | 6 => some (.int .i64 (ek + 8))
    | 7 => some (.pointer (some ⟨Bx, 1, none⟩))
    | 8 => some (.int .i64 s)
    | 9 => some (.agg #[.int .i64 (a + 8), .int .i64 (ek + 8), .int .i64 s])
    | _ => none
  is := 10
  ia := 11
  it := 12
  v := v
  n := ms.length
  xs := encM ms
  es := [.int .i64 (a + 8), .int .i64 (ek + 8), .int .i64 s]
  R := fun W => Below X0 W0 W ∧ RndP W0.heap.size Wr W ∧ Bytes W (X0 + 1) l' ∧ W.cell? ⟨X0, 0, none⟩ = some (.slice (some ⟨B, 0, none⟩) l.length l.length) ∧ W.cell? ⟨X0 + 2, 0, none⟩ = some (.slice (some ⟨X0 + 1, 0, none⟩) l.length l.length) ∧ W.cell? ⟨X0 + 4, 0, none⟩ = some (.slice (some ⟨B, 0, none⟩) l.length l.length) ∧
    W.cell? ⟨Bx, 0, none⟩ = some (.int .i64 a) ∧ W.cell? ⟨Bx, 1, none⟩ = some (.int .i64 s) ∧ W.cell? ⟨Bx, 2, none⟩ = some (.int .i64 1) ∧ W.cell? ⟨Ox, 0, none⟩ = some (.int .i64 ek) ∧ W.cell? ⟨Ox, 1, none⟩ = some (.int .i64 s) ∧ W.cell? ⟨Ox, 2, none⟩ = some (.int .i64 1)
  hX := by omega
  hle := fun W h => h.1.size
  rB := fun W W' h hb => by
    obtain ⟨h1, h2, h3, h4, h5, h6, h7, h8, h9, h10, h11, h12⟩ := h
    exact ⟨h1.trans (hb.mono (by have := h1.size; omega)), h2.below hb, h3.below hb h3.lt, keepc hb h4, keepc hb h5, keepc hb h6, keepc hb h7, keepc hb h8, keepc hb h9, keepc hb h10, keepc hb h11, keepc hb h12⟩
  rG := fun W W' h ho hg => by
    have hown : ∀ k, v.ownBlock = some k → W0.heap.size ≤ k := fun k hk => (World.ownsRow.lt ho k hk).1
    obtain ⟨h1, h2, h3, h4, h5, h6, h7, h8, h9, h10, h11, h12⟩ := h
    have hz : X0 ≤ W.heap.size := by have := h1.size; omega
    have hl : ∀ k, k < W0.heap.size → some k ≠ v.ownBlock := fun k hk e => by have := hown k e.symm; omega
    exact ⟨h1.grown hg hz (fun k hk => by have := hown k hk; omega), h2.grown hg (fun b hb => .inr (.inr (n3 b hb))), h3.grown hg (Ne.symm (hl _ (by omega))), hg.cell h4 (hl _ (by dsimp only; omega)), hg.cell h5 (hl _ (by dsimp only; omega)), hg.cell h6 (hl _ (by dsimp only; omega)), hg.cell h7 (Ne.symm n1), hg.cell h8 (Ne.symm n1), hg.cell h9 (Ne.symm n1), hg.cell h10 (Ne.symm n2), hg.cell h11 (Ne.symm n2), hg.cell h12 (Ne.symm n2)⟩
  rS := fun W x h => by
    obtain ⟨h1, h2, h3, h4, h5, h6, h7, h8, h9, h10, h11, h12⟩ := h
    have hc : ∀ (k j : Nat) (y : Value), k ≠ X0 + 3 → W.cell? ⟨k, j, none⟩ = some y → (W.setCell ⟨X0 + 3, 0, none⟩ x).cell? ⟨k, j, none⟩ = some y := fun k j y hk hx => (World.cell?_of_block (a := ⟨k, j, none⟩) (Below.heap_setCell _ _ _ _ hk)).trans hx
    exact ⟨h1.setCell (by show X0 ≤ X0 + 3; omega) x, h2.setCell (.inl (by show X0 + 3 < _; omega)) x, (Below.heap_setCell _ _ _ _ (by show X0 + 1 ≠ X0 + 3; omega)).trans h3, hc _ _ _ (by omega) h4, hc _ _ _ (by omega) h5, hc _ _ _ (by omega) h6, hc _ _ _ (by omega) h7, hc _ _ _ (by omega) h8, hc _ _ _ (by omega) h9, hc _ _ _ (by omega) h10, hc _ _ _ (by omega) h11, hc _ _ _ (by omega) h12⟩
  his := rfl
  hia := rfl
  hit := rfl
  h1 := by decide
  h2 := by decide
  h3 := by decide
def cmpAct (l : List UInt8) (B X0 : Nat) (Bx : Nat) (u : Int × Int × Int) : Act := { defers := [], tmps := #[.string ⟨l.toArray⟩, undef, .string ⟨#[]⟩, .slice none 0 0, .int .i64 0, .pointer (some ⟨X0, 0, none⟩), .bool true, .pointer (some ⟨X0 + 2, 0, none⟩), .pointer (some ⟨X0 + 3, 0, none⟩), .pointer (some ⟨Bx, 0, none⟩), undef,
  .tuple #[.slice (some ⟨B, 0, none⟩) l.length l.length, .bool true], .string ⟨l.toArray⟩, .tuple #[.slice (some ⟨B, 0, none⟩) l.length l.length, .bool true], .slice (some ⟨B, 0, none⟩) l.length l.length, .bool true, .bool true, .bool false,
  .slice (some ⟨B, 0, none⟩) l.length l.length, .int .i64 l.length, .slice (some ⟨X0 + 1, 0, none⟩) l.length l.length, .slice (some ⟨B, 0, none⟩) l.length l.length, .func (.func 84) #[] #[.pointer (some ⟨X0 + 4, 0, none⟩)], .agg #[.int .i64 u.1, .int .i64 u.2.1, .int .i64 u.2.2],
  undef, undef, undef, undef, undef, undef, undef, undef, undef, undef, undef, undef, undef, undef, undef, undef, undef, undef, undef, undef, undef, undef, undef, undef, undef, undef, undef, undef, undef] }
set_option maxHeartbeats 4000000 in
set_option maxRecDepth 100000 in
theorem compact_main (l : List UInt8) (w : World) (hl : l.length ≤ maxLen) (h : openS l = true) : Calls Try.prog 32 #[.string ⟨l.toArray⟩] w (MovesPost (render l.length (compL 8 (layD l)), movesL 8 (layD l), 0) w) := by
  have hA := area_D h
  obtain ⟨lay, hlay⟩ : ∃ lay, layD l = lay := ⟨_, rfl⟩
  rw [hlay] at hA ⊢
  clear hlay
  have hu := (area_units hA).1
  have hue := (area_units hA).2
  have hend := hA.2.2.2.1
  have h1 := hA.1
  have h2 := hA.2.1
  have hmk := markP_used lay true 8 hA.2.2.1
  obtain ⟨us, hus⟩ : ∃ us, unitsOf 8 lay = us := ⟨_, rfl⟩
  have HUM : Hid (∀ u ∈ us, u.2.2 = 1 ∨ u.2.2 = 2) := fun u hx => units_mark lay 8 u (hus ▸ hx)
  rw [hus] at hu hmk
  have HMK := hid hmk
  have HBD := hid (us_bd hu (by omega))
  have h3 : 8 + num l 0 ≤ l.length := by omega
  have HA := hid hA
  have HO := hid (fun w => open_l l w hl)
  have HH := hid h
  have HU := hid hu
  have HUL := hid (ul_length hu (by omega))
  have H3 := hid h3
  have hll : lay.length ≤ 8192 := (area_num4 hA).2
  have hmk79 := fun w' => run_make79 w' l.length (by omega)
  obtain ⟨Z, hZ⟩ : ∃ Z : Array Value, Z = (cellsB (List.replicate l.length 0)).toArray := ⟨_, rfl⟩
  rw [← hZ] at hmk79
  have HZ : Hid (∀ w' : World, Bytes (w'.alloc (.cells Z 5)) w'.heap.size (render l.length (compL 8 (lay.take 0)))) := fun w' => by
    rw [hZ, List.take_zero, compL, render_zs _ (by omega)]; exact bytes_new w' (zs l.length)
  clear h hA hue hus hmk hu h3 hZ hend
  refine (callsIn_wide (n := 0)).1 (callsIn_of_wp_marks Try.func32 rfl trivial ?_ rfl)
  simp only [Try.ntmps32, List.size_toArray, List.length_cons, List.length_nil, Nat.reduceAdd, Nat.reduceSub, Array.replicate_succ, Array.replicate_zero, List.push_toArray, List.append_toArray, List.nil_append, List.cons_append]
  gi_wp2_with fail
  refine ⟨trivial, rfl, ?_⟩
  refine (callsIn_wide.2 (HO.out _)).mono ?_
  rintro e w1 ⟨hb1, hx⟩
  rw [HH.out, if_pos rfl] at hx
  obtain ⟨B, rfl, hB, hBl⟩ := hx
  have HB1 := hid hb1; have HB := hid hB
  have hBlt : B < w1.heap.size := hB.lt
  have hz1 := hb1.size
  clear hb1 hB
  gi_wp2_with fail
  refine ⟨trivial, rfl, ?_⟩
  refine (callsIn_wide.2 (units_any _ _ _ _ rfl _)).mono ?_
  rintro e w' ⟨rfl, rfl⟩
  gi_wp2_with fail
  obtain ⟨X0, hX⟩ : ∃ X, w1.heap.size = X := ⟨_, rfl⟩
  obtain ⟨W0, hW0⟩ : ∃ W0, W0 = ((((w1.alloc (.cells #[.slice (some ⟨B, 0, none⟩) l.length l.length] 79)).alloc (.cells Z 5)).alloc (.cells #[.slice (some ⟨w1.heap.size + 1, 0, none⟩) l.length l.length] 79)).alloc (.cells #[.slice none 0 0] 42)).alloc (.cells #[.slice (some ⟨B, 0, none⟩) l.length l.length] 79) := ⟨_, rfl⟩
  try simp only [World.size_alloc, Nat.add_assoc, Nat.reduceAdd] at *
  rw [← hW0]
  rw [hX]
  have hz0 : W0.heap.size = X0 + 5 := by rw [hW0, ← hX]; simp
  have hb0 : Below X0 w1 W0 := by rw [hW0, ← hX]; exact ((((((Below.refl w1.heap.size w1).alloc (Nat.le_refl _) _).alloc (by simp only [World.size_alloc]; omega) _).alloc (by simp only [World.size_alloc]; omega) _).alloc (by simp only [World.size_alloc]; omega) _).alloc (by simp only [World.size_alloc]; omega) _)
  have c0 : W0.cell? ⟨X0, 0, none⟩ = some (.slice (some ⟨B, 0, none⟩) l.length l.length) := by rw [hW0, ← hX]; exact keep_alloc (keep_alloc (keep_alloc (keep_alloc (cell_new _ _ _ 0 _ rfl) _) _) _) _
  have c2 : W0.cell? ⟨X0 + 2, 0, none⟩ = some (.slice (some ⟨X0 + 1, 0, none⟩) l.length l.length) := by
    rw [hW0, ← hX]
    have h := cell_new ((w1.alloc (.cells #[.slice (some ⟨B, 0, none⟩) l.length l.length] 79)).alloc (.cells Z 5)) #[.slice (some ⟨w1.heap.size + 1, 0, none⟩) l.length l.length] 79 0 _ rfl
    simp only [World.size_alloc, Nat.add_assoc, Nat.reduceAdd] at h
    exact keep_alloc (keep_alloc h _) _
  have c3 : W0.cell? ⟨X0 + 3, 0, none⟩ = some (.slice none 0 0) := by
    rw [hW0, ← hX]
    have h := cell_new (((w1.alloc (.cells #[.slice (some ⟨B, 0, none⟩) l.length l.length] 79)).alloc (.cells Z 5)).alloc (.cells #[.slice (some ⟨w1.heap.size + 1, 0, none⟩) l.length l.length] 79)) #[.slice none 0 0] 42 0 _ rfl
    simp only [World.size_alloc, Nat.add_assoc, Nat.reduceAdd] at h
    exact keep_alloc h _
  have o3 : OwnC W0 ⟨X0 + 3, 0, none⟩ := by
    rw [hW0, ← hX]
    have h := ownc_new (((w1.alloc (.cells #[.slice (some ⟨B, 0, none⟩) l.length l.length] 79)).alloc (.cells Z 5)).alloc (.cells #[.slice (some ⟨w1.heap.size + 1, 0, none⟩) l.length l.length] 79)) #[.slice none 0 0] 42 0 (by decide)
    simp only [World.size_alloc, Nat.add_assoc, Nat.reduceAdd] at h
    exact own_alloc h _
  have c4 : W0.cell? ⟨X0 + 4, 0, none⟩ = some (.slice (some ⟨B, 0, none⟩) l.length l.length) := by
    rw [hW0, ← hX]
    have h := cell_new ((((w1.alloc (.cells #[.slice (some ⟨B, 0, none⟩) l.length l.length] 79)).alloc (.cells Z 5)).alloc (.cells #[.slice (some ⟨w1.heap.size + 1, 0, none⟩) l.length l.length] 79)).alloc (.cells #[.slice none 0 0] 42)) #[.slice (some ⟨B, 0, none⟩) l.length l.length] 79 0 _ rfl
    simp only [World.size_alloc, Nat.add_assoc, Nat.reduceAdd] at h
    exact h
  have hT0 : Bytes W0 (X0 + 1) (render l.length (compL 8 (lay.take 0))) := by
    rw [hW0, ← hX]
    have h := HZ.out (w1.alloc (.cells #[.slice (some ⟨B, 0, none⟩) l.length l.length] 79))
    simp only [World.size_alloc] at h
    exact ((h.grow1 _).grow1 _).grow1 _
  have hBX : B < X0 := by omega
  have HI0 : Hid (CmpI us lay l.length W0 X0 (.slice (some ⟨B, 0, none⟩) l.length l.length) (.slice (some ⟨X0 + 1, 0, none⟩) l.length l.length) 0 W0) := ⟨_, c3, o3, World.ownsRow_nil _ _ _ _, Below.refl _ _, hT0, c0, c2, c4⟩
  have HB0 := hid hb0
  have HX := hid hX
  have HWX : Hid (Below w.heap.size w W0) := HB1.out.trans (hb0.mono (by omega))
  have hBytes : ∀ W, Below X0 W0 W → Bytes W B l := fun W h => ((HB.out.below (hX ▸ hb0) (by omega)).below h hBX)
  have HBY := hid hBytes
  have hwX : w.heap.size ≤ X0 := by omega
  clear hW0 hb0 c0 o3 c2 c3 c4 hT0 hBytes hX hmk79
  have hn0 : X0 ≤ W0.heap.size := by omega
  have hz0a : X0 + 5 ≤ W0.heap.size := by omega
  clear hz0
  refine wp_rangeP (us := us.map encU) (R := Reads B (X0 + 4) l) rfl (enters_of Try.func84 (by kernel_rfl) rfl) (units_seqP B (X0 + 4) l us HU.out h1 h2 H3.out) ?hps
    (CmpI us lay l.length W0 X0 (.slice (some ⟨B, 0, none⟩) l.length l.length) (.slice (some ⟨X0 + 1, 0, none⟩) l.length l.length)) (fun _ _ _ => False) (UBoxP W0.heap.size us (cmpAct l B X0) (CmpI us lay l.length W0 X0 (.slice (some ⟨B, 0, none⟩) l.length l.length) (.slice (some ⟨X0 + 1, 0, none⟩) l.length l.length)))
    ?hI ?hIx ?hAx ?hR ?h0 ?hassign ?hbody ?hdone ?hstop
  case hps =>
    intro k x hx
    obtain ⟨u, _, rfl⟩ := map_some hx
    rfl
  case hI => exact cmpI_own _ _ _ _ _ _ _ _ hn0 (Nat.le_refl _)
  case hIx => exact fun c => ownF_pure _
  case hAx => exact uboxP_own (cmpI_own _ _ _ _ _ _ _ _ hn0 (Nat.le_refl _))
  case hR => exact fun k W ⟨v, i1, i2, i3, i4, i5, i6, i7, i8⟩ => ⟨HBY.out W i4, i8⟩
  case h0 => exact HI0.out
  case hassign =>
    intro lp k x W hx hi hsz
    obtain ⟨u, hu1, rfl⟩ := map_some hx
    simp only [encU]
    go_simp
    gi_wp2_with fail
    refine uboxP_new hu1 (by omega) rfl ?_
    obtain ⟨v, i1, i2, i3, i4, i5, i6, i7, i8⟩ := hi
    exact ⟨v, keep_alloc i1 _, own_alloc i2 _, i3.below ((Below.refl _ _).alloc (Nat.le_refl _) _), i4.alloc (by omega) _, i5.grow1 _, keep_alloc i6 _, keep_alloc i7 _, keep_alloc i8 _⟩
  case hbody =>
    rintro lp k x a₁ W hx ⟨Bx, u, ⟨hu1, hBx, rfl⟩, q0, q1, q2, qb, v, i1, i2, i3, i4, i5, i6, i7, i8⟩ hsz
    have hms0 := markP_snoc 1 hu1
    have hub := HBD.out u (List.mem_of_getElem? hu1)
    have hum := HUM.out u (List.mem_of_getElem? hu1)
    have hkl : k < us.length := (List.getElem?_eq_some_iff.1 hu1).1
    have hbxl : Bx < W.heap.size := World.block_lt_of_cell? _ _ q0
    have hmt1 := markP_take (us := us) 1 (k + 1)
    clear hx hu1
    obtain ⟨a, s', m⟩ := u
    simp only at q0 q1 q2 hub hms0 hum
    obtain ⟨hub0, hub1, hub2⟩ := hub
    have hup := upZ_bd s' hub1
    unfold cmpAct
    by_cases hm : m = 2
    · have g0 : (m == 2) = true := by simpa using hm
      have hne : ¬ (m = 1) := by omega
      rw [if_neg hne, List.append_nil] at hms0
      have HS2 := hid hms0
      have I1 := hid i1; have I2 := hid i2; have I3 := hid i3; have I4 := hid i4; have I5 := hid i5; have I6 := hid i6; have I7 := hid i7; have I8 := hid i8
      clear hum hmt1 hms0 i1 i2 i3 i4 i5 i6 i7 i8 qb
      gi_wp2_with fail
      exact ⟨RndP.refl _ _, v, I1.out, I2.out, by rw [HS2.out]; exact I3.out, I4.out, by rw [HS2.out]; exact I5.out, I6.out, I7.out, I8.out⟩
    · have hm1 : m = 1 := by omega
      clear hum hm
      have g0 : (m == 2) = false := by rw [hm1]; rfl
      subst hm1
      rw [if_pos rfl] at hms0
      obtain ⟨j, hj⟩ : ∃ j, (markP 1 (us.take k)).length = j := ⟨_, rfl⟩
      have hj1 : (markP 1 (us.take (k + 1))).length = j + 1 := by rw [hms0, List.length_append, hj]; rfl
      rw [hj1, hms0] at hmt1
      have hat : (psOf (itsOf lay))[j]? = some (a + 8, s') := by
        rw [← HMK.out]
        have h := congrArg (fun q => q[j]?) hmt1
        rw [List.getElem?_append_right (by omega), hj, Nat.sub_self, List.getElem?_take_of_lt (by omega)] at h
        exact h.symm
      obtain ⟨⟨p, s⟩, hy, hps⟩ : ∃ y : Nat × List UInt8, lay[j]? = some y ∧ ((y.1 : Int), (y.2.length : Int)) = (a + 8, s') := by
        unfold psOf itsOf at hat
        rw [List.map_map, List.getElem?_map] at hat
        cases hy : lay[j]? with
        | none => rw [hy] at hat; cases hat
        | some y => rw [hy] at hat; exact ⟨y, rfl, Option.some.inj hat⟩
      obtain ⟨hpa, hps2⟩ := Prod.mk.injEq _ _ _ _ ▸ hps
      simp only at hpa hps2
      have HY := hid hy
      have HJ := hid hj; have HJ1 := hid hj1
      rw [hj] at i3 i5
      have hms : (movesL 8 (lay.take j)).length ≤ 1000000 := by rw [movesL_len]; have := List.length_take_le j lay; have := List.length_take_le' j lay; omega
      have HMS := hid (movesL_snoc (lay.take j) 8 p s)
      rw [← take_snoc hy] at HMS
      have HOK := hid (ok_take HA.out.2.2.1 j)
      have c1 := compL_end (lay.take j) true 8 8 HOK.out (Nat.le_refl _)
      have c5 := ends_le lay true 8 HA.out.2.2.1 (p, s) (List.mem_of_getElem? hy)
      have c6 := lay_at HA.out.2.2.1 hy
      have c7 := HA.out.2.2.2.1
      have c8 := endOf_ge (compL_ok (lay.take j) true true 8 8 HOK.out rfl)
      have c9 := render_length (n := l.length) (compL_ok (lay.take j) true true 8 8 HOK.out rfl) (by omega)
      have c10 := area_num0 (area_render (n := l.length) (compL_ok (lay.take j) true true 8 8 HOK.out rfl) h1 h2 (by omega))
      obtain ⟨ms, hmse⟩ : ∃ ms, movesL 8 (lay.take j) = ms := ⟨_, rfl⟩
      rw [hmse] at i3 hms HMS
      obtain ⟨ek, hek⟩ : ∃ ek, endOf 8 (compL 8 (lay.take j)) = ek := ⟨_, rfl⟩
      rw [hek] at c1 HMS c8 c10
      obtain ⟨cl, hcl⟩ : ∃ cl, compL 8 (lay.take j) = cl := ⟨_, rfl⟩
      have HADD := hid (fun (w' : World) (hT : Bytes w' (X0 + 1) (render l.length (compL 8 (lay.take j)))) (hB : Bytes w' B l) => add_at HA.out HY.out l.length (X0 + 1) B rfl ek hek w' hT hB (by omega))
      rw [hps2] at HADD
      have hupn : (upZ s') = (upN s.length : Int) := by rw [← hps2]; exact upZ_nat _
      have hub2 := upN_bd s.length
      have hsl : (s.length : Int) = s' := hps2
      have hs1 : 1 ≤ s' := by omega
      have HMV : Hid (movesL 8 (lay.take (j + 1)) = ms ++ [(a + 8, (ek : Int) + 8, s')]) := by
        unfold Hid; rw [HMS.out]; congr 2; rw [hpa, hps2]; rfl
      obtain ⟨R0, hR0⟩ : ∃ R0, render l.length (compL 8 (lay.take j)) = R0 := ⟨_, rfl⟩
      obtain ⟨R1, hR1⟩ : ∃ R1, render l.length (compL 8 (lay.take (j + 1))) = R1 := ⟨_, rfl⟩
      rw [hR0] at i5 c9 c10 HADD
      rw [hR1] at HADD
      obtain ⟨c10, c11⟩ := c10
      have HR1 := hid hR1
      obtain ⟨un, hun⟩ : ∃ un, upN s.length = un := ⟨_, rfl⟩
      rw [hun] at HADD hub2 hupn c5 c6
      obtain ⟨k1, k2, k3, k4, k5, k6⟩ := c6
      have HN := fun (W : World) (hT : Bytes W (X0 + 1) R0) => hend_any (X0 + 1) l.length l.length R0 W hT c9 (by omega) (Nat.le_refl _) (by omega)
      rw [c10, show (8 : Int) + ((ek - 8 : Nat) : Int) = (ek : Int) by omega] at HN
      have HN := hid HN
      have HBYT := hid (fun (W : World) => bytes_any un B l.length l.length a s' 1 W hupn (by omega) (by omega) hub1 (by omega) (by omega) (Nat.le_refl _))
      have hapn : (a + 8).toNat = p := by omega
      have hekb : (ek : Int) + 8 ≤ 8192 := by omega
      have QB := hid qb; have I3 := hid i3; have IV := hid i1
      have HPS2 := hid hps2; have HPA := hid hpa
      have hn1 : Hid (v.ownBlock ≠ some Bx) := om_ne_box i3 qb
      have hn3 : Hid (∀ b, v.ownBlock = some b → Row37 W b) := om_row i3
      have hn2 : Hid (v.ownBlock ≠ some W.heap.size) := fun e => by have := (World.ownsRow.lt i3 _ e).2; omega
      clear hmt1 hat hy hj hj1 hms0 hmse hek hcl hR0 hR1 hun c10 hps i1 i3 qb HMS hps2 hsl hpa
      have HB5 := hid i5; have HBO := hid i4
      clear i4 i5
      have hsz2 : W0.heap.size ≤ W.heap.size := by omega
      gi_wp2_with fail
      refine wpIn_region_freeL (open_round lp) (by kernel_rfl) (by kernel_rfl) (fun L w' => Below X0 W0 w' ∧ Bytes w' (X0 + 1) (R0) ∧ Rnd W0.heap.size W w' ∧ w'.cell? ⟨X0, 0, none⟩ = some (.slice (some ⟨B, 0, none⟩) l.length l.length) ∧ w'.cell? ⟨X0 + 2, 0, none⟩ = some (.slice (some ⟨X0 + 1, 0, none⟩) l.length l.length) ∧ w'.cell? ⟨X0 + 4, 0, none⟩ = some (.slice (some ⟨B, 0, none⟩) l.length l.length) ∧ w'.cell? ⟨Bx, 0, none⟩ = some (.int .i64 a) ∧ w'.cell? ⟨Bx, 1, none⟩ = some (.int .i64 s') ∧ w'.cell? ⟨Bx, 2, none⟩ = some (.int .i64 1) ∧ w'.cell? ⟨X0 + 3, 0, none⟩ = some (v) ∧ OwnC w' ⟨X0 + 3, 0, none⟩ ∧ w'.heap.size = W.heap.size + (if L 5 = true then 1 else 0) ∧ (L 5 = true → OwnC w' ⟨W.heap.size, 0, none⟩ ∧ OwnC w' ⟨W.heap.size, 1, none⟩ ∧ OwnC w' ⟨W.heap.size, 2, none⟩) ∧ (L 6 = true → w'.cell? ⟨W.heap.size, 0, none⟩ = some (.int .i64 ek) ∧ w'.cell? ⟨W.heap.size, 1, none⟩ = some (.int .i64 s') ∧ w'.cell? ⟨W.heap.size, 2, none⟩ = some (.int .i64 1))) ⟨(HBO.out).drew, HB5.out, ((Rnd.refl W0.heap.size W)).drew, i6, i7, i8, q0, q1, q2, IV.out, i2, rfl, fun h => absurd h (by decide), fun h => absurd h (by decide)⟩ ?_
      refine wpFreeL_val rfl (fun _ _ _ h => h) (fun K hK => ?_); apply Exists.intro; refine ⟨fun L w' hS => ?_, ?_⟩; (have hb := hS.1; have hB := hS.2.1; have hr := hS.2.2.1; have g0 := hS.2.2.2.1; have g1 := hS.2.2.2.2.1; have g2 := hS.2.2.2.2.2.1; have g3 := hS.2.2.2.2.2.2.1; have g4 := hS.2.2.2.2.2.2.2.1; have g5 := hS.2.2.2.2.2.2.2.2.1; have g6 := hS.2.2.2.2.2.2.2.2.2.1; have o0 := hS.2.2.2.2.2.2.2.2.2.2.1; clear hS; go_simp; rfl); (go_simp; refine hK _ ?_; clear hK K)
      refine wpFreeL_gen rfl (fun K hK => ?_); apply Exists.intro; refine ⟨fun L w' hcl hL hdep hS => ?_, ?_⟩
      · have hb := hS.1; have hB := hS.2.1; have hr := hS.2.2.1; have g0 := hS.2.2.2.1; have g1 := hS.2.2.2.2.1; have g2 := hS.2.2.2.2.2.1; have g3 := hS.2.2.2.2.2.2.1; have g4 := hS.2.2.2.2.2.2.2.1; have g5 := hS.2.2.2.2.2.2.2.2.1; have g6 := hS.2.2.2.2.2.2.2.2.2.1; have o0 := hS.2.2.2.2.2.2.2.2.2.2.1; go_simp; refine (HN.out _ hB).mono ?_; rintro e w1 ⟨rfl, rfl⟩; exact ⟨rfl, hS⟩
      go_simp; refine hK _ ?_; clear hK K
      refine wpFreeL_val rfl (fun _ _ _ h => h) (fun K hK => ?_); apply Exists.intro; refine ⟨fun L w' hS => ?_, ?_⟩; (have hb := hS.1; have hB := hS.2.1; have hr := hS.2.2.1; have g0 := hS.2.2.2.1; have g1 := hS.2.2.2.2.1; have g2 := hS.2.2.2.2.2.1; have g3 := hS.2.2.2.2.2.2.1; have g4 := hS.2.2.2.2.2.2.2.1; have g5 := hS.2.2.2.2.2.2.2.2.1; have g6 := hS.2.2.2.2.2.2.2.2.2.1; have o0 := hS.2.2.2.2.2.2.2.2.2.2.1; clear hS; go_simp; rfl); (go_simp; refine hK _ ?_; clear hK K)
      refine wpFreeL_val rfl (fun _ _ _ h => h) (fun K hK => ?_); apply Exists.intro; refine ⟨fun L w' hS => ?_, ?_⟩; (have hb := hS.1; have hB := hS.2.1; have hr := hS.2.2.1; have g0 := hS.2.2.2.1; have g1 := hS.2.2.2.2.1; have g2 := hS.2.2.2.2.2.1; have g3 := hS.2.2.2.2.2.2.1; have g4 := hS.2.2.2.2.2.2.2.1; have g5 := hS.2.2.2.2.2.2.2.2.1; have g6 := hS.2.2.2.2.2.2.2.2.2.1; have o0 := hS.2.2.2.2.2.2.2.2.2.2.1; clear hS; go_simp; rfl); (go_simp; refine hK _ ?_; clear hK K)
      refine wpFreeL_val rfl (fun _ _ _ h => h) (fun K hK => ?_); apply Exists.intro; refine ⟨fun L w' hS => ?_, ?_⟩; (have hb := hS.1; have hB := hS.2.1; have hr := hS.2.2.1; have g0 := hS.2.2.2.1; have g1 := hS.2.2.2.2.1; have g2 := hS.2.2.2.2.2.1; have g3 := hS.2.2.2.2.2.2.1; have g4 := hS.2.2.2.2.2.2.2.1; have g5 := hS.2.2.2.2.2.2.2.2.1; have g6 := hS.2.2.2.2.2.2.2.2.2.1; have o0 := hS.2.2.2.2.2.2.2.2.2.2.1; clear hS; go_simp; rfl); (go_simp; refine hK _ ?_; clear hK K)
      refine wpFreeL_gen rfl (fun K hK => ?_); refine ⟨.pointer (some ⟨W.heap.size, 0, none⟩), fun L w' _ hL _ hS => ?_, ?_⟩
      · have hb := hS.1; have hB := hS.2.1; have hr := hS.2.2.1; have g0 := hS.2.2.2.1; have g1 := hS.2.2.2.2.1; have g2 := hS.2.2.2.2.2.1; have g3 := hS.2.2.2.2.2.2.1; have g4 := hS.2.2.2.2.2.2.2.1; have g5 := hS.2.2.2.2.2.2.2.2.1; have g6 := hS.2.2.2.2.2.2.2.2.2.1; have o0 := hS.2.2.2.2.2.2.2.2.2.2.1; have hz := hS.2.2.2.2.2.2.2.2.2.2.2.1; have hs := hS.2.2.2.2.2.2.2.2.2.2.2.2.2; clear hS
        rw [hL] at hz; rw [if_neg (by simp), Nat.add_zero] at hz
        have hno : L 6 = true → False := fun h => by have h1 := (hs h).1; have := World.block_lt_of_cell? _ _ h1; simp only at this; omega
        clear hs
        go_simp
        refine ⟨rfl, ⟨hb.alloc (by omega) _, hB.grow1 _, hr.alloc _, keep_alloc g0 _, keep_alloc g1 _, keep_alloc g2 _, keep_alloc g3 _, keep_alloc g4 _, keep_alloc g5 _, keep_alloc g6 _, own_alloc o0 _, ?_, ?_, ?_⟩⟩
        · simp [hz, addTo]
        · intro _; rw [← hz]; refine ⟨ownc_new _ _ _ 0 (by decide), ownc_new _ _ _ 1 (by decide), ownc_new _ _ _ 2 (by decide)⟩
        · intro h; exact (hno h).elim
      go_simp; refine hK _ ?_; clear hK K
      refine wpFreeL_gen rfl (fun K hK => ?_); refine ⟨undef, fun L w' _ hL hdep hS => ?_, ?_⟩
      · have hb := hS.1; have hB := hS.2.1; have hr := hS.2.2.1; have g0 := hS.2.2.2.1; have g1 := hS.2.2.2.2.1; have g2 := hS.2.2.2.2.2.1; have g3 := hS.2.2.2.2.2.2.1; have g4 := hS.2.2.2.2.2.2.2.1; have g5 := hS.2.2.2.2.2.2.2.2.1; have g6 := hS.2.2.2.2.2.2.2.2.2.1; have o0 := hS.2.2.2.2.2.2.2.2.2.2.1; have hz := hS.2.2.2.2.2.2.2.2.2.2.2.1; have ho := hS.2.2.2.2.2.2.2.2.2.2.2.2.1; clear hS
        have hal : L 5 = true := (hdep ⟨5, .data⟩ (by simp) rfl)
        have hoo := ho hal; have n0 := hoo.1; have n1 := hoo.2.1; have n2 := hoo.2.2
        have n0' := n0; obtain ⟨⟨u0, e0⟩, f0⟩ := n0'
        have n1' := n1; obtain ⟨⟨u1, e1⟩, f1⟩ := n1'
        have n2' := n2; obtain ⟨⟨u2, e2⟩, f2⟩ := n2'
        rw [hal, if_pos rfl] at hz
        go_simp
        refine ⟨rfl, ⟨(Below.setCell (p := ⟨W.heap.size, _, none⟩) (Below.setCell (p := ⟨W.heap.size, _, none⟩) (Below.setCell (p := ⟨W.heap.size, _, none⟩) hb (by show X0 ≤ W.heap.size; omega) _) (by show X0 ≤ W.heap.size; omega) _) (by show X0 ≤ W.heap.size; omega) _), (bytes_other (bytes_other (bytes_other hB (p := ⟨W.heap.size, _, none⟩) (by show _ ≠ W.heap.size; omega) _) (p := ⟨W.heap.size, _, none⟩) (by show _ ≠ W.heap.size; omega) _) (p := ⟨W.heap.size, _, none⟩) (by show _ ≠ W.heap.size; omega) _), (Rnd.setCell (p := ⟨W.heap.size, _, none⟩) (Rnd.setCell (p := ⟨W.heap.size, _, none⟩) (Rnd.setCell (p := ⟨W.heap.size, _, none⟩) hr (.inr (Nat.le_refl _)) _) (.inr (Nat.le_refl _)) _) (.inr (Nat.le_refl _)) _), by go_simp, by go_simp, by go_simp, by go_simp, by go_simp, by go_simp, by go_simp, (((o0.set _ _).set _ _).set _ _), ?_, ?_, ?_⟩⟩
        · simp [World.setCell, addTo, hz, hal]
        · intro _; exact ⟨(((n0.set _ _).set _ _).set _ _), (((n1.set _ _).set _ _).set _ _), (((n2.set _ _).set _ _).set _ _)⟩
        · intro _; exact ⟨by go_simp, by go_simp, by go_simp⟩
      go_simp; refine hK _ ?_; clear hK K
      refine wpFreeL_nil (fun L w' hL hS => ?_)
      have hb := hS.1; have hB := hS.2.1; have hr := hS.2.2.1; have g0 := hS.2.2.2.1; have g1 := hS.2.2.2.2.1; have g2 := hS.2.2.2.2.2.1; have g3 := hS.2.2.2.2.2.2.1; have g4 := hS.2.2.2.2.2.2.2.1; have g5 := hS.2.2.2.2.2.2.2.2.1; have g6 := hS.2.2.2.2.2.2.2.2.2.1; have o0 := hS.2.2.2.2.2.2.2.2.2.2.1
      have hz := hS.2.2.2.2.2.2.2.2.2.2.2.1; rw [hL 5 (by decide), if_pos rfl] at hz; have hss := hS.2.2.2.2.2.2.2.2.2.2.2.2.2 (hL 6 (by decide)); have hoo := hS.2.2.2.2.2.2.2.2.2.2.2.2.1 (hL 5 (by decide)); have r0 := hss.1; have r1 := hss.2.1; have r2 := hss.2.2; have n0 := hoo.1; have n1 := hoo.2.1; have n2 := hoo.2.2; clear hss hoo
      clear hL hS
      have HB6 := hid hB; clear hB HB5
      have HBO := hid hb; clear hb
      have HR := hid hr; clear hr n0 n1 n2
      have hlt5 : W.heap.size < w'.heap.size := by omega
      clear hz
      gi_wp2_with fail
      refine wpIn_region_freeL (open_round lp) (by kernel_rfl) (by kernel_rfl) (fun L w' => Below X0 W0 w' ∧ Bytes w' (X0 + 1) (if L 5 = true then R1 else R0) ∧ Rnd W0.heap.size W w' ∧ w'.cell? ⟨X0, 0, none⟩ = some (.slice (some ⟨B, 0, none⟩) l.length l.length) ∧ w'.cell? ⟨X0 + 2, 0, none⟩ = some (.slice (some ⟨X0 + 1, 0, none⟩) l.length l.length) ∧ w'.cell? ⟨X0 + 4, 0, none⟩ = some (.slice (some ⟨B, 0, none⟩) l.length l.length) ∧ w'.cell? ⟨Bx, 0, none⟩ = some (.int .i64 a) ∧ w'.cell? ⟨Bx, 1, none⟩ = some (.int .i64 s') ∧ w'.cell? ⟨Bx, 2, none⟩ = some (.int .i64 1) ∧ w'.cell? ⟨X0 + 3, 0, none⟩ = some (v) ∧ w'.cell? ⟨W.heap.size, 0, none⟩ = some (.int .i64 ek) ∧ w'.cell? ⟨W.heap.size, 1, none⟩ = some (.int .i64 s') ∧ w'.cell? ⟨W.heap.size, 2, none⟩ = some (.int .i64 1) ∧ OwnC w' ⟨X0 + 3, 0, none⟩) ⟨(HBO.out).drew, HB6.out, (HR.out).drew, g0, g1, g2, g3, g4, g5, g6, r0, r1, r2, o0⟩ ?_
      refine wpFreeL_val rfl (fun _ _ _ h => h) (fun K hK => ?_); apply Exists.intro; refine ⟨fun L w' hS => ?_, ?_⟩; (have hb := hS.1; have hB := hS.2.1; have hr := hS.2.2.1; have g0 := hS.2.2.2.1; have g1 := hS.2.2.2.2.1; have g2 := hS.2.2.2.2.2.1; have g3 := hS.2.2.2.2.2.2.1; have g4 := hS.2.2.2.2.2.2.2.1; have g5 := hS.2.2.2.2.2.2.2.2.1; have g6 := hS.2.2.2.2.2.2.2.2.2.1; have g7 := hS.2.2.2.2.2.2.2.2.2.2.1; have g8 := hS.2.2.2.2.2.2.2.2.2.2.2.1; have g9 := hS.2.2.2.2.2.2.2.2.2.2.2.2.1; have o0 := hS.2.2.2.2.2.2.2.2.2.2.2.2.2; clear hS; go_simp; rfl); (go_simp; refine hK _ ?_; clear hK K)
      refine wpFreeL_val rfl (fun _ _ _ h => h) (fun K hK => ?_); apply Exists.intro; refine ⟨fun L w' hS => ?_, ?_⟩; (have hb := hS.1; have hB := hS.2.1; have hr := hS.2.2.1; have g0 := hS.2.2.2.1; have g1 := hS.2.2.2.2.1; have g2 := hS.2.2.2.2.2.1; have g3 := hS.2.2.2.2.2.2.1; have g4 := hS.2.2.2.2.2.2.2.1; have g5 := hS.2.2.2.2.2.2.2.2.1; have g6 := hS.2.2.2.2.2.2.2.2.2.1; have g7 := hS.2.2.2.2.2.2.2.2.2.2.1; have g8 := hS.2.2.2.2.2.2.2.2.2.2.2.1; have g9 := hS.2.2.2.2.2.2.2.2.2.2.2.2.1; have o0 := hS.2.2.2.2.2.2.2.2.2.2.2.2.2; clear hS; go_simp; rfl); (go_simp; refine hK _ ?_; clear hK K)
      refine wpFreeL_val rfl (fun _ _ _ h => h) (fun K hK => ?_); apply Exists.intro; refine ⟨fun L w' hS => ?_, ?_⟩; (have hb := hS.1; have hB := hS.2.1; have hr := hS.2.2.1; have g0 := hS.2.2.2.1; have g1 := hS.2.2.2.2.1; have g2 := hS.2.2.2.2.2.1; have g3 := hS.2.2.2.2.2.2.1; have g4 := hS.2.2.2.2.2.2.2.1; have g5 := hS.2.2.2.2.2.2.2.2.1; have g6 := hS.2.2.2.2.2.2.2.2.2.1; have g7 := hS.2.2.2.2.2.2.2.2.2.2.1; have g8 := hS.2.2.2.2.2.2.2.2.2.2.2.1; have g9 := hS.2.2.2.2.2.2.2.2.2.2.2.2.1; have o0 := hS.2.2.2.2.2.2.2.2.2.2.2.2.2; clear hS; go_simp; rfl); (go_simp; refine hK _ ?_; clear hK K)
      refine wpFreeL_val rfl (fun _ _ _ h => h) (fun K hK => ?_); apply Exists.intro; refine ⟨fun L w' hS => ?_, ?_⟩; (have hb := hS.1; have hB := hS.2.1; have hr := hS.2.2.1; have g0 := hS.2.2.2.1; have g1 := hS.2.2.2.2.1; have g2 := hS.2.2.2.2.2.1; have g3 := hS.2.2.2.2.2.2.1; have g4 := hS.2.2.2.2.2.2.2.1; have g5 := hS.2.2.2.2.2.2.2.2.1; have g6 := hS.2.2.2.2.2.2.2.2.2.1; have g7 := hS.2.2.2.2.2.2.2.2.2.2.1; have g8 := hS.2.2.2.2.2.2.2.2.2.2.2.1; have g9 := hS.2.2.2.2.2.2.2.2.2.2.2.2.1; have o0 := hS.2.2.2.2.2.2.2.2.2.2.2.2.2; clear hS; go_simp; rfl); (go_simp; refine hK _ ?_; clear hK K)
      refine wpFreeL_gen rfl (fun K hK => ?_); apply Exists.intro; refine ⟨fun L w' hcl hL hdep hS => ?_, ?_⟩
      · have hb := hS.1; have hB := hS.2.1; have hr := hS.2.2.1; have g0 := hS.2.2.2.1; have g1 := hS.2.2.2.2.1; have g2 := hS.2.2.2.2.2.1; have g3 := hS.2.2.2.2.2.2.1; have g4 := hS.2.2.2.2.2.2.2.1; have g5 := hS.2.2.2.2.2.2.2.2.1; have g6 := hS.2.2.2.2.2.2.2.2.2.1; have g7 := hS.2.2.2.2.2.2.2.2.2.2.1; have g8 := hS.2.2.2.2.2.2.2.2.2.2.2.1; have g9 := hS.2.2.2.2.2.2.2.2.2.2.2.2.1; have o0 := hS.2.2.2.2.2.2.2.2.2.2.2.2.2; go_simp; refine (HBYT.out _).mono ?_; rintro e w1 ⟨⟨o', rfl, ho'⟩, hb1⟩; have ho2 := ho' (by omega); rw [hapn] at ho2; subst ho2; exact ⟨rfl, ⟨hb.trans (hb1.mono (by have := hb.size; omega)), hB.below hb1 hB.lt, hr.below hb1, keepc hb1 g0, keepc hb1 g1, keepc hb1 g2, keepc hb1 g3, keepc hb1 g4, keepc hb1 g5, keepc hb1 g6, keepc hb1 g7, keepc hb1 g8, keepc hb1 g9, keepOwn hb1 o0⟩⟩
      go_simp; refine hK _ ?_; clear hK K
      refine wpFreeL_gen rfl (fun K hK => ?_); apply Exists.intro; refine ⟨fun L w' hcl hL hdep hS => ?_, ?_⟩
      · have hb := hS.1; have hB := hS.2.1; have hr := hS.2.2.1; have g0 := hS.2.2.2.1; have g1 := hS.2.2.2.2.1; have g2 := hS.2.2.2.2.2.1; have g3 := hS.2.2.2.2.2.2.1; have g4 := hS.2.2.2.2.2.2.2.1; have g5 := hS.2.2.2.2.2.2.2.2.1; have g6 := hS.2.2.2.2.2.2.2.2.2.1; have g7 := hS.2.2.2.2.2.2.2.2.2.2.1; have g8 := hS.2.2.2.2.2.2.2.2.2.2.2.1; have g9 := hS.2.2.2.2.2.2.2.2.2.2.2.2.1; have o0 := hS.2.2.2.2.2.2.2.2.2.2.2.2.2; have hwf : L 5 = false := hL; rw [hwf, if_neg (by simp)] at hB; go_simp; refine (HADD.out _ hB (HBY.out _ hb)).mono ?_; rintro e w1 ⟨rfl, hB1, hg1⟩; exact ⟨rfl, ⟨hb.grown hg1 (by have := hb.size; omega) (fun k e => by cases e; omega), hB1, hr.grown hg1 (fun _ e => by cases e; exact .inl (by omega)), hg1.cell g0 (by first | (simp; done) | (simp; omega)), hg1.cell g1 (by first | (simp; done) | (simp; omega)), hg1.cell g2 (by first | (simp; done) | (simp; omega)), hg1.cell g3 (by first | (simp; done) | (simp; omega)), hg1.cell g4 (by first | (simp; done) | (simp; omega)), hg1.cell g5 (by first | (simp; done) | (simp; omega)), hg1.cell g6 (by first | (simp; done) | (simp; omega)), hg1.cell g7 (by first | (simp; done) | (simp; omega)), hg1.cell g8 (by first | (simp; done) | (simp; omega)), hg1.cell g9 (by first | (simp; done) | (simp; omega)), own_grown o0 hg1 (by dsimp only; omega)⟩⟩
      go_simp; refine hK _ ?_; clear hK K
      refine wpFreeL_nil (fun L w' hL hS => ?_)
      have hb := hS.1; have hB := hS.2.1; have hr := hS.2.2.1; have g0 := hS.2.2.2.1; have g1 := hS.2.2.2.2.1; have g2 := hS.2.2.2.2.2.1; have g3 := hS.2.2.2.2.2.2.1; have g4 := hS.2.2.2.2.2.2.2.1; have g5 := hS.2.2.2.2.2.2.2.2.1; have g6 := hS.2.2.2.2.2.2.2.2.2.1; have g7 := hS.2.2.2.2.2.2.2.2.2.2.1; have g8 := hS.2.2.2.2.2.2.2.2.2.2.2.1; have g9 := hS.2.2.2.2.2.2.2.2.2.2.2.2.1; have o0 := hS.2.2.2.2.2.2.2.2.2.2.2.2.2
      rw [hL 5 (by decide), if_pos rfl] at hB
      clear hL hS
      have HOM := hid (om_rnd I3.out hr)
      have HB7 := hid hB; clear hB HB6
      have HBO := hid hb; clear hb
      have HR := hid (rndP_of hr); clear hr
      have HADD := 0; have HBYT := 0; have HN := 0
      clear HADD HBYT HN
      gi_wp2_with fail
      refine wpIn_region_freeX (open_round lp) (by kernel_rfl) (by kernel_rfl) (cmpCfg X0 B Bx W.heap.size W W0 l R1 a s' ek v ms hz0a hsz2 hBx hsz2 hn1.out hn2.out hn3.out).S ?_ ?_
      · intro vals
        exact AppCfg.start ⟨HBO.out.drew, HR.out.drew, HB7.out, g0, g1, g2, g3, g4, g5, g7, g8, g9⟩ o0 (HOM.out.below (Below.refl _ _).drew) g6
      intro vals
      refine wpX_op rfl ?_ (fun K hK => ?_)
      · intro L w' hC hL hdep hS
        have h12 : L 12 = false := by
          cases h12 : L 12 with
          | false => rfl
          | true => have := hC 12 _ rfl h12 ⟨0, .phase⟩ (by simp) rfl; rw [hL] at this; cases this
        have c0 := hS.load h12
        simp only [cmpCfg] at c0
        have HS := hid hS; clear hS
        go_simp
        exact HS.out.val rfl
      go_simp; refine hK _ ?_; clear hK K
      refine wpX_op rfl ?_ (fun K hK => ?_)
      · intro L w' hC hL hdep hS
        obtain ⟨-, -, -, -, -, -, p0, p1, p2, -, -, -⟩ := hS.1
        have HS := hid hS; clear hS
        go_simp
        exact HS.out.val rfl
      go_simp; refine hK _ ?_; clear hK K
      refine wpX_op rfl ?_ (fun K hK => ?_)
      · intro L w' hC hL hdep hS
        have e1 := hS.fix (i := 1) rfl (hdep ⟨1, .data⟩ (by simp) rfl)
        have HS := hid hS; clear hS
        go_simp
        refine (piece_any a s' 1 _ (by omega) (by omega)).mono ?_
        rintro e w2 ⟨rfl, hb2⟩
        exact ⟨_, rfl, HS.out.call hb2 rfl⟩
      go_simp; refine hK _ ?_; clear hK K
      refine wpX_op rfl ?_ (fun K hK => ?_)
      · intro L w' hC hL hdep hS
        have e2 := hS.fix (i := 2) rfl (hdep ⟨2, .data⟩ (by simp) rfl)
        have HS := hid hS; clear hS
        go_simp
        exact HS.out.val rfl
      go_simp; refine hK _ ?_; clear hK K
      refine wpX_op rfl ?_ (fun K hK => ?_)
      · intro L w' hC hL hdep hS
        obtain ⟨-, -, -, -, -, -, -, -, -, p0, p1, p2⟩ := hS.1
        have HS := hid hS; clear hS
        go_simp
        exact HS.out.val rfl
      go_simp; refine hK _ ?_; clear hK K
      refine wpX_op rfl ?_ (fun K hK => ?_)
      · intro L w' hC hL hdep hS
        have e4 := hS.fix (i := 4) rfl (hdep ⟨4, .data⟩ (by simp) rfl)
        have HS := hid hS; clear hS
        go_simp
        refine (piece_any (ek : Int) s' 1 _ (by omega) (by omega)).mono ?_
        rintro e w2 ⟨rfl, hb2⟩
        exact ⟨_, rfl, HS.out.call hb2 rfl⟩
      go_simp; refine hK _ ?_; clear hK K
      refine wpX_op rfl ?_ (fun K hK => ?_)
      · intro L w' hC hL hdep hS
        have e5 := hS.fix (i := 5) rfl (hdep ⟨5, .data⟩ (by simp) rfl)
        have HS := hid hS; clear hS
        go_simp
        exact HS.out.val rfl
      go_simp; refine hK _ ?_; clear hK K
      refine wpX_op rfl ?_ (fun K hK => ?_)
      · intro L w' hC hL hdep hS
        have HS := hid hS; clear hS
        go_simp
        exact HS.out.val rfl
      go_simp; refine hK _ ?_; clear hK K
      refine wpX_op rfl ?_ (fun K hK => ?_)
      · intro L w' hC hL hdep hS
        have e7 := hS.fix (i := 7) rfl (hdep ⟨7, .data⟩ (by simp) rfl)
        obtain ⟨-, -, -, -, -, -, -, p1, -, -, -, -⟩ := hS.1
        have HS := hid hS; clear hS
        go_simp
        exact HS.out.val rfl
      go_simp; refine hK _ ?_; clear hK K
      refine wpX_op rfl ?_ (fun K hK => ?_)
      · intro L w' hC hL hdep hS
        have e3 := hS.fix (i := 3) rfl (hdep ⟨3, .data⟩ (by simp) rfl)
        have e6 := hS.fix (i := 6) rfl (hdep ⟨6, .data⟩ (by simp) rfl)
        have e8 := hS.fix (i := 8) rfl (hdep ⟨8, .data⟩ (by simp) rfl)
        have HS := hid hS; clear hS
        go_simp
        exact HS.out.val rfl
      go_simp; refine hK _ ?_; clear hK K
      refine wpX_op rfl ?_ (fun K hK => ?_)
      · intro L w' hC hL hdep hS
        have e9 := hS.fix (i := 9) rfl (hdep ⟨9, .data⟩ (by simp) rfl)
        have HS := hid hS; clear hS
        go_simp
        exact HS.out.slice hL rfl (fun j u h => by simpa [cmpCfg] using h)
      go_simp; refine hK _ ?_; clear hK K
      refine wpX_op rfl ?_ (fun K hK => ?_)
      · intro L w' hC hL hdep hS
        have h12 : L 12 = false := by
          cases h12 : L 12 with
          | false => rfl
          | true => have := hC 12 _ rfl h12 ⟨11, .data⟩ (by simp) rfl; rw [hL] at this; cases this
        obtain ⟨g, e1, e2⟩ := hS.2.2.2.1 (hdep ⟨10, .data⟩ (by simp) rfl) hL
        have e0_ := hS.fix (i := 0) rfl (hdep ⟨0, .data⟩ (by simp) rfl)
        exact uponX_row (.tmp 38) (.tmp 48) 42 78 (.agg #[.int .i64 0, .int .i64 0, .int .i64 0]) 3 24 under42 info78 rfl (by decide) rfl W0.heap.size v _ (encM ms) _ g 1 e0_ e1 (hS.2.2.2.2.1 hL) rfl e2 (by intro u hu; simp [cmpCfg] at hu; rcases hu with rfl | rfl | rfl <;> rfl) hms (by omega) ((cmpCfg X0 B Bx W.heap.size W W0 l R1 a s' ek v ms hz0a hsz2 hBx hsz2 hn1.out hn2.out hn3.out).hle _ hS.1) (fun v1 w2 hr hg => hS.app hL h12 hr hg)
      go_simp; refine hK _ ?_; clear hK K
      refine wpX_op rfl ?_ (fun K hK => ?_)
      · intro L w' hC hL hdep hS
        have ha := hdep ⟨11, .data⟩ (by simp) rfl
        obtain ⟨⟨x, c0⟩, f0⟩ := hS.2.1
        obtain ⟨o, cap, e4⟩ := row_slice (hS.2.2.2.2.2.1 ha)
        have HF := hS.store ha
        simp only [cmpCfg] at c0 f0 HF e4
        rw [e4] at HF
        have HF := hid HF; clear hS
        go_simp
        exact HF.out
      go_simp; refine hK _ ?_; clear hK K
      refine wpX_nil (fun L w' hL hS => ?_)
      obtain ⟨r1, r2, -, -, -, r6, -, r8⟩ := hS
      have r6 := r6 (hL 11 (by decide))
      have r8 := r8 (hL 12 (by decide))
      simp only [cmpCfg] at r1 r6 r8
      obtain ⟨s1, s2, s3, s4, s5, s6, -⟩ := r1
      obtain ⟨o4, cap4, hv4⟩ := row_slice r6
      have HR6 : Hid (OM w' W0.heap.size (vals 11) (ms ++ [(a + 8, (ek : Int) + 8, s')])) := by
        unfold Hid OM; rw [encM_append, List.length_append]; exact r6
      have S1 := hid s1; have S2 := hid s2; have S3 := hid s3; have S4 := hid s4; have S5 := hid s5; have S6 := hid s6; have R8 := hid r8; have R2 := hid r2
      clear s1 s2 s3 s4 s5 s6 r2 r6 r8 hv4 g0 g1 g2 g3 g4 g5 g6 g7 g8 g9 o0
      gi_wp2_with fail
      exact ⟨S2.out, vals 11, R8.out, R2.out, by rw [HJ1.out, HMV.out]; exact HR6.out, S1.out, by rw [HJ1.out, HR1.out]; exact S3.out, S4.out, S5.out, S6.out⟩
  case hdone =>
    rintro D W hD ⟨v, i1, i2, i3, i4, i5, i6, i7, i8⟩ hK
    have hfull : lay.take (markP 1 us).length = lay := by
      rw [HMK.out]; exact List.take_of_length_le (by simp [psOf, itsOf])
    rw [List.length_map, List.take_length, hfull] at i3 i5
    have HK := hid hK
    have HOK := HA.out.2.2.1
    have c9 := render_length (n := l.length) (compL_ok lay true true 8 8 HOK rfl) (by have := compL_end lay true 8 8 HOK (Nat.le_refl _); have := HA.out.2.2.2.1; omega)
    obtain ⟨R0, hR0⟩ : ∃ R0, render l.length (compL 8 lay) = R0 := ⟨_, rfl⟩
    obtain ⟨ms, hms⟩ : ∃ ms, movesL 8 lay = ms := ⟨_, rfl⟩
    rw [hR0] at i5 c9
    rw [hms] at i3
    have HR0 := hid hR0; have HMS0 := hid hms
    obtain ⟨o, cap, rfl, -⟩ := i3.rm
    have I3 := hid i3
    have HB5 := hid i5; have HBO := hid i4
    have hDlt : D < W.heap.size := (Array.getElem?_eq_some_iff.1 hK).1
    clear hK i3 i4 i5 hfull hR0 hms i2
    rw [← c9] at i7
    clear c9
    gi_wp2_with fail
    refine wpIn_region_freeL open_wide (by kernel_rfl) (by kernel_rfl) (fun L w' => Below X0 W0 w' ∧ Bytes w' (X0 + 1) (R0) ∧ Rnd W0.heap.size W w' ∧ w'.cell? ⟨X0 + 2, 0, none⟩ = some (.slice (some ⟨X0 + 1, 0, none⟩) R0.length R0.length) ∧ w'.cell? ⟨X0 + 3, 0, none⟩ = some (.slice o ms.length cap)) ⟨(HBO.out).drew, HB5.out, ((Rnd.refl W0.heap.size W)).drew, i7, i1⟩ ?_
    refine wpFreeL_val rfl (fun _ _ _ h => h) (fun K hK => ?_); apply Exists.intro; refine ⟨fun L w' hS => ?_, ?_⟩; (have hb := hS.1; have hB := hS.2.1; have hr := hS.2.2.1; have g0 := hS.2.2.2.1; have g1 := hS.2.2.2.2; clear hS; go_simp; rfl); (go_simp; refine hK _ ?_; clear hK K)
    refine wpFreeL_val rfl (fun _ _ _ h => h) (fun K hK => ?_); apply Exists.intro; refine ⟨fun L w' hS => ?_, ?_⟩; (have hb := hS.1; have hB := hS.2.1; have hr := hS.2.2.1; have g0 := hS.2.2.2.1; have g1 := hS.2.2.2.2; clear hS; have hq := run_str79 w' (X0 + 1) R0.length R0 hB; go_simp; rfl); (go_simp; refine hK _ ?_; clear hK K)
    refine wpFreeL_val rfl (fun _ _ _ h => h) (fun K hK => ?_); apply Exists.intro; refine ⟨fun L w' hS => ?_, ?_⟩; (have hb := hS.1; have hB := hS.2.1; have hr := hS.2.2.1; have g0 := hS.2.2.2.1; have g1 := hS.2.2.2.2; clear hS; go_simp; rfl); (go_simp; refine hK _ ?_; clear hK K)
    refine wpFreeL_val rfl (fun _ _ _ h => h) (fun K hK => ?_); apply Exists.intro; refine ⟨fun L w' hS => ?_, ?_⟩; (have hb := hS.1; have hB := hS.2.1; have hr := hS.2.2.1; have g0 := hS.2.2.2.1; have g1 := hS.2.2.2.2; clear hS; go_simp; rfl); (go_simp; refine hK _ ?_; clear hK K)
    refine wpFreeL_val rfl (fun _ _ _ h => h) (fun K hK => ?_); apply Exists.intro; refine ⟨fun L w' hS => ?_, ?_⟩; (have hb := hS.1; have hB := hS.2.1; have hr := hS.2.2.1; have g0 := hS.2.2.2.1; have g1 := hS.2.2.2.2; clear hS; go_simp; rfl); (go_simp; refine hK _ ?_; clear hK K)
    refine wpFreeL_val rfl (fun _ _ _ h => h) (fun K hK => ?_); apply Exists.intro; refine ⟨fun L w' hS => ?_, ?_⟩; (have hb := hS.1; have hB := hS.2.1; have hr := hS.2.2.1; have g0 := hS.2.2.2.1; have g1 := hS.2.2.2.2; clear hS; go_simp; rfl); (go_simp; refine hK _ ?_; clear hK K)
    refine wpFreeL_nil (fun L w' hL hS => ?_)
    have hb := hS.1; have hB := hS.2.1; have hr := hS.2.2.1; have g0 := hS.2.2.2.1; have g1 := hS.2.2.2.2
    clear hL hS
    have HK2 := (hr.same D hD hDlt).trans HK.out
    have HOM := hid (om_rnd I3.out hr)
    clear hr
    gi_wp2_with fail
    refine ⟨by simp, .inl ⟨_, _, rfl, run_takeDeferred HK2, .tuple #[.string ⟨R0.toArray⟩, .slice o ms.length cap, .int .i64 0], by simp [results, Try.results32, go_sem], ?_⟩⟩
    rw [HR0.out, HMS0.out]
    exact ⟨_, rfl, (om_putObj HOM.out HK2 rfl _).mono (by omega), below_put (HWX.out.trans (hb.mono hwX)) (by omega) _⟩
  case hstop => exact fun D c k W hD h => h.elim
theorem compact_any (l : List UInt8) (w : World) (hl : l.length ≤ maxLen) : Calls Try.prog 32 #[.string ⟨l.toArray⟩] w (MovesPost (compactS l) w) := by
  cases h : openS l with
  | true =>
    have HX : compactS l = (render l.length (compL 8 (layD l)), movesL 8 (layD l), 0) := by unfold compactS; rw [h]; exact if_pos rfl
    rw [HX]; exact compact_main l w hl h
  | false =>
    have HX : compactS l = ([], [], 120) := by unfold compactS; rw [h]; exact if_neg (by simp)
    rw [HX]
    refine (refuse_compact l hl h w).mono fun e w' ⟨h1, h2⟩ => ⟨_, h1, World.ownsRow_nil _ _ _ _, h2⟩
end Go.Proofs.Ytcfmimfkaabmkaa
