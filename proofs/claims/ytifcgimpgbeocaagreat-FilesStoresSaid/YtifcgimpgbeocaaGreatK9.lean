/- bytesOf, encode, Encode. -/
import Derived.Test.YtifcgimpgbeocaaGreatK6
import Derived.Test.YtifcgimpgbeocaaGreatK8
import Derived.Test.YtifcgimpgbeocaaGreatK5
import Derived.Test.YtifcgimpgbeocaaGreatK2
import Derived.Test.YtifcgimpgbeocaaGreatK3
set_option linter.unusedVariables false
set_option linter.unusedSimpArgs false
namespace Go.Proofs.YtifcgimpgbeocaaGreat
open Go.RowKit
attribute [local go_sem] Oper.semAt_some
theorem b8_int (n : Int) : n % 256 = ((b8 n).toNat : Int) := by
  have h := u8_of n.toNat n.toNat rfl
  unfold b8
  rw [UInt8.toNat_ofNat']
  omega
theorem three_str (w : World) (b : Nat) (hb : w.heap.size = b) (x y z : Int) : (convert 131 9 (.slice (some ⟨b, 0, none⟩) 3 3)).run Tryz.prog (w.alloc (.cells #[.int .u8 (x % 256), .int .u8 (y % 256), .int .u8 (z % 256)] 5)) =
    .ok (strV [b8 x, b8 y, b8 z]) (w.alloc (.cells #[.int .u8 (x % 256), .int .u8 (y % 256), .int .u8 (z % 256)] 5)) := by
  rw [b8_int x, b8_int y, b8_int z, ← hb]
  exact run_strB _ w.heap.size 3 [b8 x, b8 y, b8 z] (by have := bytes_new w [b8 x, b8 y, b8 z]; simpa [cellsB] using this)
theorem one_str (w : World) (b : Nat) (hb : w.heap.size = b) (x : Int) : (convert 131 9 (.slice (some ⟨b, 0, none⟩) 1 1)).run Tryz.prog (w.alloc (.cells #[.int .u8 (x % 256)] 5)) =
    .ok (strV [b8 x]) (w.alloc (.cells #[.int .u8 (x % 256)] 5)) := by
  rw [b8_int x, ← hb]
  exact run_strB _ w.heap.size 1 [b8 x] (by have := bytes_new w [b8 x]; simpa [cellsB] using this)
set_option maxHeartbeats 1000000 in
set_option maxRecDepth 100000 in
theorem bytesof_any (o : FOp) (w : World) (h1 : o.2.2.1.length ≤ 1000000000) (h2 : o.2.2.2.length ≤ 1000000000) : Calls Tryz.prog 99 #[opV o] w (Ret (strV (enc1 o)) w) := by
  obtain ⟨k, f, a, s⟩ := o
  simp only at h1 h2
  have g0 : (w.alloc (.cells #[.int .i64 k, .int .i64 f, strV a, strV s] 55)).cell? ⟨w.heap.size, 0, none⟩ = some (.int .i64 k) := cell_new _ _ _ 0 _ rfl
  have g1 : (w.alloc (.cells #[.int .i64 k, .int .i64 f, strV a, strV s] 55)).cell? ⟨w.heap.size, 1, none⟩ = some (.int .i64 f) := cell_new _ _ _ 1 _ rfl
  have g2 : (w.alloc (.cells #[.int .i64 k, .int .i64 f, strV a, strV s] 55)).cell? ⟨w.heap.size, 2, none⟩ = some (strV a) := cell_new _ _ _ 2 _ rfl
  have g3 : (w.alloc (.cells #[.int .i64 k, .int .i64 f, strV a, strV s] 55)).cell? ⟨w.heap.size, 3, none⟩ = some (strV s) := cell_new _ _ _ 3 _ rfl
  have t3 := three_str (w.alloc (.cells #[.int .i64 k, .int .i64 f, strV a, strV s] 55)) (w.heap.size + 1) (by simp) k f a.length
  have q1 : [b8 k, b8 f, b8 (a.length : Int)].length + a.length ≤ 9223372036854775807 := by simp; omega
  by_cases h5 : k = 5
  · have HE : Hid (enc1 (k, f, a, s) = [b8 k, b8 f, b8 (a.length : Int)] ++ a) := by unfold enc1 Hid; simp [h5]
    have hk : (k != 5) = false := by simp [h5]
    clear h5
    go_enter Tryz.func99, Tryz.ntmps99
    go_wp2_with fail
    go_ret
    exact ⟨by rw [HE.out]; simp, balloc (balloc (Below.refl _ _) _) _⟩
  · have HE : Hid (enc1 (k, f, a, s) = ([b8 k, b8 f, b8 (a.length : Int)] ++ a) ++ ([b8 (s.length : Int)] ++ s)) := by unfold enc1 Hid; simp [h5]
    have t1 := one_str ((w.alloc (.cells #[.int .i64 k, .int .i64 f, strV a, strV s] 55)).alloc (.cells #[.int .u8 (k % 256), .int .u8 (f % 256), .int .u8 ((a.length : Int) % 256)] 5)) (w.heap.size + 1 + 1) (by simp) s.length
    go_enter Tryz.func99, Tryz.ntmps99
    go_wp2_with fail
    go_ret
    exact ⟨by rw [HE.out]; simp, balloc (balloc (balloc (Below.refl _ _) _) _) _⟩
theorem IsB.below {B b : Nat} {l : Bs} {w w' : World} (h : IsB B b l w) (hb : Below w.heap.size w w') : IsB B b l w' := by
  have k : ∀ p, Lib.BuilderAt 139 5 B b p (Lib.byteCells l) w → Lib.BuilderAt 139 5 B b p (Lib.byteCells l) w' := fun p h => by
    have hlt := h.lt
    obtain ⟨hB, v, hv, hown, hne⟩ := h
    exact ⟨hB, v, (hb.block b hlt).trans hv, hown.kept (row := none) ⟨hb.os, hb.tape, hb.output, hb.size, fun k hk _ => hb.block k hk⟩ (Classical.em _), hne⟩
  exact h.elim (fun x => .inl (k _ x)) (fun x => .inr (k _ x))
theorem isB_new (w : World) : IsB w.heap.size w.heap.size [] (w.alloc (.cells #[.pointer none, .slice none 0 0] 139)) :=
  .inl ⟨Nat.le_refl _, .slice none 0 0, heap_alloc_new w _, World.ownsRow_nil _ _ _ _, by simp [Value.ownBlock]⟩
theorem enc1_bd {o : FOp} (h : o.2.2.1.length ≤ 255 ∧ o.2.2.2.length ≤ 255) : (enc1 o).length ≤ 514 := by
  unfold enc1; simp only [List.length_cons, List.length_append]; split <;> simp <;> omega
theorem encL_bd : ∀ (l : List FOp), (∀ o ∈ l, o.2.2.1.length ≤ 255 ∧ o.2.2.2.length ≤ 255) → (encL l).length ≤ 514 * l.length
  | [], _ => by simp [encL]
  | o :: l, h => by
    rw [encL_cons, List.length_append, List.length_cons]
    have := encL_bd l fun x hx => h x (List.mem_cons_of_mem _ hx)
    have := enc1_bd (h o (List.mem_cons_self ..))
    omega
set_option maxHeartbeats 1000000 in
set_option maxRecDepth 100000 in
theorem encode_any (l : List FOp) (v : Value) (w : World) (hR : RdO w v l) (hl : l.length ≤ 1000000) (ho : ∀ o ∈ l, o.2.2.1.length ≤ 255 ∧ o.2.2.2.length ≤ 255) : Calls Tryz.prog 60 #[v] w (Ret (strV (encL l)) w) := by
  obtain ⟨op, cap, rfl, hcap, hc⟩ := hR
  have HC := hid hc
  have HO := hid ho
  obtain ⟨M, hM⟩ : ∃ M, l.length = M := ⟨_, rfl⟩
  have HM := hid hM
  rw [hM] at hl hcap ⊢
  have HBD : Hid (∀ k, (encL (l.take k)).length ≤ 514 * k) := fun k => by
    have h1 := encL_bd (l.take k) fun o h => ho o (List.mem_of_mem_take h)
    have h2 : (l.take k).length ≤ k := by rw [List.length_take]; omega
    omega
  have HB0 := hid (balloc (Below.refl w.heap.size w) (.cells #[.pointer none, .slice none 0 0] 139))
  have HI0 := hid (isB_new w)
  clear hc ho hM
  go_enter Tryz.func60, Tryz.ntmps60
  go_wp2_with fail
  go_loopw [8] (fun i wr => ∃ k : Nat, i = .int .i64 k ∧ k ≤ M ∧ Hid (IsB w.heap.size w.heap.size (encL (l.take k)) wr) ∧ Hid (Below w.heap.size w wr)) (fun i _ => M - (intOf i).toNat)
  case atStart => exact ⟨0, rfl, Nat.zero_le _, HI0, HB0⟩
  case round =>
    obtain ⟨k, rfl, hk, HI, HB⟩ := hrel
    by_cases hlt : k < M
    · obtain ⟨x, hx⟩ : ∃ x, l[k]? = some x := ⟨_, List.getElem?_eq_getElem (by have := HM.out; omega)⟩
      have hHC := HC.out
      rcases hHC with hq | ⟨b, off, rfl, hbq, hq⟩
      · rw [hq] at hx; simp at hx
      obtain ⟨c0, c1, c2, c3⟩ := hq k x hx
      have c0 := keepB HB.out (a := ⟨b, off + k * 4, none⟩) hbq c0
      have c1 := keepB HB.out (a := ⟨b, off + k * 4 + 1, none⟩) hbq c1
      have c2 := keepB HB.out (a := ⟨b, off + k * 4 + 2, none⟩) hbq c2
      have c3 := keepB HB.out (a := ⟨b, off + k * 4 + 3, none⟩) hbq c3
      have hxl := HO.out x (List.mem_of_getElem? hx)
      have HST : Hid (encL (l.take (k + 1)) = encL (l.take k) ++ enc1 x) := by
        unfold Hid
        rw [List.take_add_one, hx, encL_append]; simp [encL]
      have HL : Hid ((encL (l.take k)).length + (enc1 x).length ≤ 1000000000) := by have := HBD.out k; have := enc1_bd hxl; unfold Hid; omega
      have HY := hid (fun w => bytesof_any x w (by omega) (by omega))
      obtain ⟨E, hE⟩ : ∃ E, enc1 x = E := ⟨_, rfl⟩
      rw [hE] at HST HL HY
      obtain ⟨F, hF⟩ : ∃ F, encL (l.take k) = F := ⟨_, rfl⟩
      rw [hF] at HST HL HI
      clear hE hF hq hxl hx
      obtain ⟨p, f, a, s⟩ := x
      simp only at c0 c1 c2 c3
      go_wp2_with fail
      refine (HY.out _).mono ?_
      rintro e w1 ⟨rfl, hb1⟩
      have HB1 := hid (below_step hb1 (balloc HB.out _))
      have HI1 := hid ((HI.out.below ((Below.refl _ _).alloc (Nat.le_refl _) _)).below hb1)
      clear hb1
      go_wp2_with fail
      refine (wstr_any _ _ _ _ _ HI1.out HL.out HB1.out.size).mono ?_
      rintro e w2 ⟨rfl, hi2, hb2⟩
      have HB2 := hid (HB1.out.trans hb2)
      have HI2 := hid hi2
      clear hb2 hi2
      go_wp2_with fail
      go_roundw
      case rel => exact ⟨k + 1, by go_num, by omega, by rw [HST.out]; exact HI2, HB2⟩
      case measure => simp [intOf]; omega
    · have hkM : k = M := by omega
      subst hkM
      have HT : Hid (encL (l.take k) = encL l) := by unfold Hid; rw [List.take_of_length_le (by rw [HM.out]; exact Nat.le_refl _)]
      rw [HT.out] at HI
      go_wp2_with fail
      refine (bstr_any _ _ _ _ HI.out HB.out.size).mono ?_
      rintro e w1 ⟨rfl, hb1⟩
      have HB1 := hid (HB.out.trans hb1)
      clear hb1
      go_wp2_with fail
      go_ret
      exact ⟨rfl, HB1.out⟩
end Go.Proofs.YtifcgimpgbeocaaGreat
/- lay, head.page. -/
set_option linter.unusedVariables false
set_option linter.unusedSimpArgs false
namespace Go.Proofs.YtifcgimpgbeocaaGreat
open Go.RowKit
attribute [local go_sem] Oper.semAt_some
theorem drew_below' (w : World) : Below w.heap.size w w.drew := (Below.refl _ _).drew
set_option maxHeartbeats 1000000 in
theorem lay_any (b off len cap : Nat) (l : List UInt8) (n : Nat) (w : World) (hB : Bytes w b l) (hl : off + 4 ≤ l.length) (h1 : 4 ≤ len) (h2 : len ≤ cap) (h3 : cap ≤ 1000000) (hn : n < 4294967296) :
    Calls Tryz.prog 74 #[.slice (some ⟨b, off, none⟩) len cap, .int .i64 (n : Int)] w fun e w' => e = .returned (.tuple #[]) ∧ Bytes w' b (setL l off n) ∧ w.grownBy w' (some b) ∧ w'.heap.size = w.heap.size := by
  have c0 := hB.cell (i := off) (by omega)
  have c1 := hB.cell (i := off + 1) (by omega)
  have c2 := hB.cell (i := off + 2) (by omega)
  have c3 := hB.cell (i := off + 3) (by omega)
  have f0 := hB.frozen off
  have f1 := hB.frozen (off+1)
  have f2 := hB.frozen (off+2)
  have f3 := hB.frozen (off+3)
  have HB := hid hB; clear hB
  clear hl
  go_enter Tryz.func74, Tryz.ntmps74
  go_wp2
  refine wp_loop_rounds 5 ?_
  rw [rounds_succ]
  go_wp2
  rw [rounds_succ]
  go_wp2
  rw [rounds_succ]
  go_wp2
  rw [rounds_succ]
  go_wp2
  rw [rounds_succ]
  go_wp2
  go_end0
  refine ⟨rfl, ?_, ?_, by simp [World.setCell]⟩
  · have e0 : (n : Int) / 16777216 = (((UInt8.ofNat (n / 16777216)).toNat : Nat) : Int) := by have := u8_of ((n : Int) / 16777216) (n / 16777216) (by omega); omega
    have e1 : (n : Int) / 65536 % 256 = (((UInt8.ofNat (n / 65536)).toNat : Nat) : Int) := u8_of _ _ (by omega)
    have e2 : (n : Int) / 256 % 256 = (((UInt8.ofNat (n / 256)).toNat : Nat) : Int) := u8_of _ _ (by omega)
    have e3 : (n : Int) % 256 = (((UInt8.ofNat n).toNat : Nat) : Int) := u8_of _ _ rfl
    rw [e0, e1, e2, e3]
    exact (((HB.out.set _).set _).set _).set _
  · exact grown_set (grown_set (grown_set (grown_set (grown_refl _ _) _ _) _ _) _ _) _ _
/-- The page of a head as the program fills it. -/
def pageL (h : Hd) : Bs := setL (setL (((setL (zs 64) 0 h.1).set 4 (UInt8.ofNat h.2.1)).set 5 (UInt8.ofNat h.2.2.1)) 8 h.2.2.2) 60 h.1
theorem pageL_eq (h : Hd) : pageL h = headPg h := rfl
def hdV (h : Hd) : Value := .agg #[.int .i64 h.1, .int .i64 h.2.1, .int .i64 h.2.2.1, .int .i64 h.2.2.2]
set_option maxHeartbeats 1000000 in
set_option maxRecDepth 100000 in
theorem page_any (h : Hd) (w : World) (h1 : h.1 < 4294967296) (h2 : h.2.1 < 4294967296) (h3 : h.2.2.1 < 4294967296) (h4 : h.2.2.2 < 4294967296) : Calls Tryz.prog 31 #[.agg #[.int .i64 h.1, .int .i64 h.2.1, .int .i64 h.2.2.1, .int .i64 h.2.2.2]] w (Ret (strV (headPg h)) w) := by
  rw [← pageL_eq]
  obtain ⟨a, b, c, d⟩ := h
  simp only at h1 h2 h3 h4
  obtain ⟨P, hP⟩ : ∃ P, pageL (a, b, c, d) = P := ⟨_, rfl⟩
  rw [hP]
  have HP := hid hP
  clear hP
  have g0 : (w.alloc (.cells #[.int .i64 a, .int .i64 b, .int .i64 c, .int .i64 d] 82)).cell? ⟨w.heap.size, 0, none⟩ = some (.int .i64 a) := cell_new _ _ _ 0 _ rfl
  have g1 : (w.alloc (.cells #[.int .i64 a, .int .i64 b, .int .i64 c, .int .i64 d] 82)).cell? ⟨w.heap.size, 1, none⟩ = some (.int .i64 b) := cell_new _ _ _ 1 _ rfl
  have g2 : (w.alloc (.cells #[.int .i64 a, .int .i64 b, .int .i64 c, .int .i64 d] 82)).cell? ⟨w.heap.size, 2, none⟩ = some (.int .i64 c) := cell_new _ _ _ 2 _ rfl
  have g3 : (w.alloc (.cells #[.int .i64 a, .int .i64 b, .int .i64 c, .int .i64 d] 82)).cell? ⟨w.heap.size, 3, none⟩ = some (.int .i64 d) := cell_new _ _ _ 3 _ rfl
  have hm : ∀ w : World, (Instr.makeSlice 131 (.int .i64 64) (.int .i64 64)).run Tryz.prog w = .ok (.slice (some ⟨w.heap.size, 0, none⟩) 64 64) (w.alloc (.cells (cellsB (List.replicate 64 0)).toArray 5)) := fun w => run_makeB w 64 (by decide)
  obtain ⟨W, hW⟩ : ∃ W, W = w.alloc (.cells #[.int .i64 a, .int .i64 b, .int .i64 c, .int .i64 d] 82) := ⟨_, rfl⟩
  have hWz : W.heap.size = w.heap.size + 1 := by rw [hW]; simp
  have hBW : Below w.heap.size w W := by rw [hW]; exact balloc (Below.refl _ _) _
  rw [← hW] at g0 g1 g2 g3
  have HW := hid hW
  have HN0 : Hid (Bytes (W.alloc (.cells (cellsB (List.replicate 64 0)).toArray 5)) (w.heap.size + 1) (List.replicate 64 0)) := by have := bytes_new W (List.replicate 64 0); rwa [hWz] at this
  have HZ : Hid (List.replicate 64 (0 : UInt8) = zs 64) := rfl
  clear hW
  go_enter Tryz.func31, Tryz.ntmps31
  go_wp2_with fail
  have HWW := HW.out
  rw [← HWW]
  clear HWW
  refine (lay_any (w.heap.size + 1) 0 64 64 (List.replicate 64 0) a _ HN0.out (by simp) (by omega) (by omega) (by omega) h1).mono ?_
  rintro e w1 ⟨rfl, hy1, hg1, hz1⟩
  rw [HZ.out] at hy1
  have HB1 : Hid (Below w.heap.size w w1) := (balloc hBW _).grown hg1 (by simp; omega) (fun k hk => by cases hk; omega)
  have g0 := grown_cell hg1 (by simp) (Lib.cell?_alloc_some (.cells (cellsB (List.replicate 64 0)).toArray 5) g0)
  have g1 := grown_cell hg1 (by simp) (Lib.cell?_alloc_some (.cells (cellsB (List.replicate 64 0)).toArray 5) g1)
  have g2 := grown_cell hg1 (by simp) (Lib.cell?_alloc_some (.cells (cellsB (List.replicate 64 0)).toArray 5) g2)
  have g3 := grown_cell hg1 (by simp) (Lib.cell?_alloc_some (.cells (cellsB (List.replicate 64 0)).toArray 5) g3)
  have hz : w1.heap.size = w.heap.size + 2 := by rw [hz1]; simp; omega
  clear hg1 hz1 HN0 HW hBW hm hWz
  have hl1 : (setL (zs 64) 0 a).length = 64 := by rw [setL_length]; simp [zs]
  have y4 := hy1.cell (i := 4) (by omega)
  have y5 := hy1.cell (i := 5) (by omega)
  have z4 := hy1.frozen 4
  have z5 := hy1.frozen 5
  have HY1 := hid hy1
  have HL1 := hid hl1
  clear hy1 hl1
  go_wp2_with fail
  go_region
  obtain ⟨W2, hW2⟩ : ∃ W2, W2 = ((w1.setCell ⟨w.heap.size + 1, 4, none⟩ (.int .u8 ((b : Int) % 256))).setCell ⟨w.heap.size + 1, 5, none⟩ (.int .u8 ((c : Int) % 256))).drew := ⟨_, rfl⟩
  have hg2 : w1.grownBy W2 (some (w.heap.size + 1)) := by rw [hW2]; exact grown_trans (grown_set (grown_set (grown_refl _ _) _ _) _ _) (below_grow (drew_below' _) _)
  have hy2 : Bytes W2 (w.heap.size + 1) (((setL (zs 64) 0 a).set 4 (UInt8.ofNat b)).set 5 (UInt8.ofNat c)) := by
    rw [hW2, u8_of (b : Int) b rfl, u8_of (c : Int) c rfl]
    exact ((HY1.out.set _).set _).below (drew_below' _) (by have := HY1.out.lt; simp [World.setCell]; omega)
  have hz2 : W2.heap.size = w.heap.size + 2 := by rw [hW2]; simp [World.setCell, World.drew]; exact hz
  rw [← hW2]
  have HB2 : Hid (Below w.heap.size w W2) := HB1.out.grown hg2 (by omega) (fun k hk => by cases hk; omega)
  have g0 := grown_cell hg2 (by simp) g0
  have g1 := grown_cell hg2 (by simp) g1
  have g2 := grown_cell hg2 (by simp) g2
  have g3 := grown_cell hg2 (by simp) g3
  clear hW2 hg2 z4 z5 y4 y5 HB1
  have hl2 : (((setL (zs 64) 0 a).set 4 (UInt8.ofNat b)).set 5 (UInt8.ofNat c)).length = 64 := by simp [HL1.out]
  have hc8 : ∀ wx : World, (Instr.slice 131 (.slice (some ⟨w.heap.size + 1, 0, none⟩) 64 64) (some (.int .i64 8)) none none).run Tryz.prog wx = .ok (.slice (some ⟨w.heap.size + 1, 8, none⟩) 56 56) wx := fun wx => run_cutB _ 0 64 64 wx .i64 8 (by decide) (by decide) (by decide)
  have hc60 : ∀ wx : World, (Instr.slice 131 (.slice (some ⟨w.heap.size + 1, 0, none⟩) 64 64) (some (.int .i64 60)) none none).run Tryz.prog wx = .ok (.slice (some ⟨w.heap.size + 1, 60, none⟩) 4 4) wx := fun wx => run_cutB _ 0 64 64 wx .i64 60 (by decide) (by decide) (by decide)
  have HY2 := hid hy2
  have HL2 := hid hl2
  clear hy2 hl2 hz
  go_wp2_with fail
  go_region_with (go_at_call 74; refine (lay_any (w.heap.size + 1) 8 56 56 _ d _ (HY2.out.below (drew_below' _) (by omega)) (by rw [HL2.out]; decide) (by decide) (by decide) (by decide) h4).mono ?_; rintro e w3 ⟨rfl, hy3, hg3, hz3⟩)
  have hl3 : (setL (((setL (zs 64) 0 a).set 4 (UInt8.ofNat b)).set 5 (UInt8.ofNat c)) 8 d).length = 64 := by rw [setL_length]; exact HL2.out
  have hgd : W2.grownBy w3 (some (w.heap.size + 1)) := grown_trans (below_grow (drew_below' _) _) hg3
  have HB3 : Hid (Below w.heap.size w w3) := HB2.out.grown hgd (by omega) (fun k hk => by cases hk; omega)
  have g0 := grown_cell hgd (by simp) g0
  have g1 := grown_cell hgd (by simp) g1
  have g2 := grown_cell hgd (by simp) g2
  have g3 := grown_cell hgd (by simp) g3
  have hz3 : w3.heap.size = w.heap.size + 2 := by rw [hz3]; exact hz2
  have HY3 := hid hy3
  have HL3 := hid hl3
  clear hy3 hl3 hgd hg3 HB2 hz2
  go_wp2_with fail
  go_region_with (go_at_call 74; refine (lay_any (w.heap.size + 1) 60 4 4 _ a _ (HY3.out.below (drew_below' _) (by omega)) (by rw [HL3.out]; decide) (by decide) (by decide) (by decide) h1).mono ?_; rintro e w4 ⟨rfl, hy4, hg4, hz4⟩)
  have hgd : w3.grownBy w4 (some (w.heap.size + 1)) := grown_trans (below_grow (drew_below' _) _) hg4
  have HB4 : Hid (Below w.heap.size w w4) := HB3.out.grown hgd (by omega) (fun k hk => by cases hk; omega)
  have hl4 : (pageL (a, b, c, d)).length = 64 := by rw [pageL_eq]; exact headPg_len _
  have hs : (convert 131 9 (.slice (some ⟨w.heap.size + 1, 0, none⟩) 64 64)).run Tryz.prog w4 = .ok (strV (pageL (a, b, c, d))) w4 := by
    have := run_strB w4 (w.heap.size + 1) 64 (pageL (a, b, c, d)) hy4
    rwa [hl4] at this
  clear hl4 hy4 hgd hg4 hz4 hz3 g0 g1 g2 g3
  rw [HP.out] at hs
  go_wp2_with fail
  go_ret
  exact ⟨rfl, HB4.out⟩
end Go.Proofs.YtifcgimpgbeocaaGreat
/- half, first, read$1. -/
set_option linter.unusedVariables false
set_option linter.unusedSimpArgs false
namespace Go.Proofs.YtifcgimpgbeocaaGreat
open Go.RowKit
attribute [local go_sem] Oper.semAt_some
set_option maxHeartbeats 1000000 in
theorem half_any (o : Option Addr) (n cp : Nat) (vq : Value) (w : World) (h1 : 4 ≤ n) (h2 : n ≤ 4096) : Calls Tryz.prog 59 #[.agg #[.slice o n cp, vq]] w (Ret (.int .i64 (halfN n)) w) := by
  have g0 : (w.alloc (.cells #[.slice o n cp, vq] 25)).cell? ⟨w.heap.size, 0, none⟩ = some (.slice o n cp) := cell_new _ _ _ 0 _ rfl
  have e1 : IntKind.i64.wrap ((n : Int) - 2) = (n : Int) - 2 := IntWalk.i64_in _ ⟨by omega, by omega⟩
  have e3 : IntKind.i64.wrap (((n : Int) - 2).tdiv 2) = ((halfN n : Nat) : Int) := by unfold halfN; rw [Int.tdiv_eq_ediv_of_nonneg (by omega), IntWalk.i64_in _ ⟨by omega, by omega⟩]; omega
  go_enter Tryz.func59, Tryz.ntmps59
  go_wp2_with fail
  go_ret
  exact ⟨rfl, (Below.refl _ _).alloc (Nat.le_refl _) _⟩
set_option maxHeartbeats 1000000 in
theorem first_any (o : Option Addr) (n cp : Nat) (oq : Option Addr) (nq cq : Nat) (lg : Nat) (w : World) (h1 : 4 ≤ n) (h2 : n ≤ 4096) (h3 : lg ≤ 1) : Calls Tryz.prog 83 #[.agg #[.slice o n cp, .slice oq nq cq], .int .i64 (lg : Int)] w (Ret (.int .i64 (firstPg n lg)) w) := by
  have g0 : (w.alloc (.cells #[.slice o n cp, (.slice oq nq cq)] 25)).cell? ⟨w.heap.size, 0, none⟩ = some (.slice o n cp) := cell_new _ _ _ 0 _ rfl
  have g1 : (w.alloc (.cells #[.slice o n cp, (.slice oq nq cq)] 25)).cell? ⟨w.heap.size, 1, none⟩ = some (.slice oq nq cq) := cell_new _ _ _ 1 _ rfl
  have HH := hid (fun w => half_any o n cp (.slice oq nq cq) w h1 h2)
  have hh : halfN n ≤ 2047 := by unfold halfN; omega
  have e2 : IntKind.i64.wrap ((lg : Int) * (halfN n : Nat)) = ((lg * halfN n : Nat) : Int) := by have : lg = 0 ∨ lg = 1 := by omega
                                                                                                 rcases this with rfl | rfl <;> (rw [IntWalk.i64_in _ ⟨by omega, by omega⟩]; omega)
  have e3 : wrap64 (2 + (lg : Int) * ((halfN n : Nat) : Int)) = ((firstPg n lg : Nat) : Int) := by
    have : lg = 0 ∨ lg = 1 := by omega
    unfold wrap64 firstPg
    rcases this with rfl | rfl <;> omega
  clear hh
  go_enter Tryz.func83, Tryz.ntmps83
  go_wp2_with fail
  refine (HH.out _).mono ?_
  rintro e w1 ⟨rfl, hb1⟩
  have HB1 := hid (below_step hb1 ((Below.refl _ _).alloc (Nat.le_refl _) _))
  clear hb1
  go_wp2_with fail
  go_ret
  exact ⟨ret_int e3, HB1.out⟩
set_option maxHeartbeats 1000000 in
set_option maxRecDepth 100000 in
theorem readnum_q (s : Bs) (i X : Nat) (w : World) (hX : w.cell? ⟨X, 0, none⟩ = some (strV s)) (hs : s.length = 64) (hi : i ≤ 60) : Calls Tryz.prog 81 #[.int .i64 (i : Int), .pointer (some ⟨X, 0, none⟩)] w (fun e w' => e = .returned (.int .i64 (num4 s i : Nat)) ∧ ∃ m, w' = w.drewN m) := by
  have x0 := fun w => strv_at s i .i64 (by omega) w
  have x1 : ∀ w : World, (Instr.index 9 (strV s) (.int .i64 ((i : Int) + 1))).run Tryz.prog w = .ok (.int .u8 (byt s (i + 1))) w := fun w => strv_at s (i + 1) .i64 (by omega) w
  have x2 : ∀ w : World, (Instr.index 9 (strV s) (.int .i64 ((i : Int) + 2))).run Tryz.prog w = .ok (.int .u8 (byt s (i + 2))) w := fun w => strv_at s (i + 2) .i64 (by omega) w
  have x3 : ∀ w : World, (Instr.index 9 (strV s) (.int .i64 ((i : Int) + 3))).run Tryz.prog w = .ok (.int .u8 (byt s (i + 3))) w := fun w => strv_at s (i + 3) .i64 (by omega) w
  have HN : Hid (((num4 s i : Nat) : Int) = byt s i * 16777216 + byt s (i + 1) * 65536 + byt s (i + 2) * 256 + byt s (i + 3)) := by
    unfold Hid num4 byteAt byt; omega
  have b0 := byt_bd s i
  have b1 := byt_bd s (i + 1)
  have b2 := byt_bd s (i + 2)
  have b3 := byt_bd s (i + 3)
  have y1 : IntKind.i64.wrap ((i : Int) + 1) = (i : Int) + 1 := IntWalk.i64_in _ ⟨by omega, by omega⟩
  have y2 : IntKind.i64.wrap ((i : Int) + 2) = (i : Int) + 2 := IntWalk.i64_in _ ⟨by omega, by omega⟩
  have y3 : IntKind.i64.wrap ((i : Int) + 3) = (i : Int) + 3 := IntWalk.i64_in _ ⟨by omega, by omega⟩
  generalize byt s i = c0 at *
  generalize byt s (i + 1) = c1 at *
  generalize byt s (i + 2) = c2 at *
  generalize byt s (i + 3) = c3 at *
  rw [HN.out]
  clear HN hs
  have HNB := hid (num_of_bits c0 c1 c2 c3 b0 b1 b2 b3)
  have u0 : IntKind.i64.wrap c0 = c0 := IntWalk.i64_in _ ⟨by omega, by omega⟩
  have u1 : IntKind.i64.wrap c1 = c1 := IntWalk.i64_in _ ⟨by omega, by omega⟩
  have u2 : IntKind.i64.wrap c2 = c2 := IntWalk.i64_in _ ⟨by omega, by omega⟩
  have u3 : IntKind.i64.wrap c3 = c3 := IntWalk.i64_in _ ⟨by omega, by omega⟩
  have v0 : IntKind.i64.wrap (c0 * 16777216) = c0 * 16777216 := IntWalk.i64_in _ ⟨by omega, by omega⟩
  have v1 : IntKind.i64.wrap (c1 * 65536) = c1 * 65536 := IntWalk.i64_in _ ⟨by omega, by omega⟩
  have v2 : IntKind.i64.wrap (c2 * 256) = c2 * 256 := IntWalk.i64_in _ ⟨by omega, by omega⟩
  clear b0 b1 b2 b3 hi
  go_enter Tryz.func81, Tryz.ntmps81
  go_wp2_with fail
  refine (fun hm hB S hS h => wp_region_freeL S hm hB hS h) (by kernel_rfl) (by kernel_rfl) (fun L w' => (∃ m, w' = w.drewN m) ∧ w'.cell? ⟨X, 0, none⟩ = some (strV s)) ⟨⟨1, rfl⟩, hX⟩ ?_
  refine wpFreeL_val rfl (fun _ _ _ h => h) (fun K hK => ?_); apply Exists.intro; refine ⟨fun L w' hS => ?_, ?_⟩; (have hb := hS.1; have g0 := hS.2; clear hS; go_simp; rfl); (go_simp; refine hK _ ?_; clear hK K)
  refine wpFreeL_val rfl (fun _ _ _ h => h) (fun K hK => ?_); apply Exists.intro; refine ⟨fun L w' hS => ?_, ?_⟩; (have hb := hS.1; have g0 := hS.2; clear hS; go_simp; rfl); (go_simp; refine hK _ ?_; clear hK K)
  refine wpFreeL_val rfl (fun _ _ _ h => h) (fun K hK => ?_); apply Exists.intro; refine ⟨fun L w' hS => ?_, ?_⟩; (have hb := hS.1; have g0 := hS.2; clear hS; go_simp; rfl); (go_simp; refine hK _ ?_; clear hK K)
  refine wpFreeL_val rfl (fun _ _ _ h => h) (fun K hK => ?_); apply Exists.intro; refine ⟨fun L w' hS => ?_, ?_⟩; (have hb := hS.1; have g0 := hS.2; clear hS; go_simp; rfl); (go_simp; refine hK _ ?_; clear hK K)
  refine wpFreeL_val rfl (fun _ _ _ h => h) (fun K hK => ?_); apply Exists.intro; refine ⟨fun L w' hS => ?_, ?_⟩; (have hb := hS.1; have g0 := hS.2; clear hS; go_simp; rfl); (go_simp; refine hK _ ?_; clear hK K)
  refine wpFreeL_val rfl (fun _ _ _ h => h) (fun K hK => ?_); apply Exists.intro; refine ⟨fun L w' hS => ?_, ?_⟩; (have hb := hS.1; have g0 := hS.2; clear hS; go_simp; rfl); (go_simp; refine hK _ ?_; clear hK K)
  refine wpFreeL_val rfl (fun _ _ _ h => h) (fun K hK => ?_); apply Exists.intro; refine ⟨fun L w' hS => ?_, ?_⟩; (have hb := hS.1; have g0 := hS.2; clear hS; go_simp; rfl); (go_simp; refine hK _ ?_; clear hK K)
  refine wpFreeL_val rfl (fun _ _ _ h => h) (fun K hK => ?_); apply Exists.intro; refine ⟨fun L w' hS => ?_, ?_⟩; (have hb := hS.1; have g0 := hS.2; clear hS; go_simp; rfl); (go_simp; refine hK _ ?_; clear hK K)
  refine wpFreeL_val rfl (fun _ _ _ h => h) (fun K hK => ?_); apply Exists.intro; refine ⟨fun L w' hS => ?_, ?_⟩; (have hb := hS.1; have g0 := hS.2; clear hS; go_simp; rfl); (go_simp; refine hK _ ?_; clear hK K)
  refine wpFreeL_val rfl (fun _ _ _ h => h) (fun K hK => ?_); apply Exists.intro; refine ⟨fun L w' hS => ?_, ?_⟩; (have hb := hS.1; have g0 := hS.2; clear hS; go_simp; rfl); (go_simp; refine hK _ ?_; clear hK K)
  refine wpFreeL_val rfl (fun _ _ _ h => h) (fun K hK => ?_); apply Exists.intro; refine ⟨fun L w' hS => ?_, ?_⟩; (have hb := hS.1; have g0 := hS.2; clear hS; go_simp; rfl); (go_simp; refine hK _ ?_; clear hK K)
  refine wpFreeL_val rfl (fun _ _ _ h => h) (fun K hK => ?_); apply Exists.intro; refine ⟨fun L w' hS => ?_, ?_⟩; (have hb := hS.1; have g0 := hS.2; clear hS; go_simp; rfl); (go_simp; refine hK _ ?_; clear hK K)
  refine wpFreeL_val rfl (fun _ _ _ h => h) (fun K hK => ?_); apply Exists.intro; refine ⟨fun L w' hS => ?_, ?_⟩; (have hb := hS.1; have g0 := hS.2; clear hS; go_simp; rfl); (go_simp; refine hK _ ?_; clear hK K)
  refine wpFreeL_val rfl (fun _ _ _ h => h) (fun K hK => ?_); apply Exists.intro; refine ⟨fun L w' hS => ?_, ?_⟩; (have hb := hS.1; have g0 := hS.2; clear hS; go_simp; rfl); (go_simp; refine hK _ ?_; clear hK K)
  refine wpFreeL_val rfl (fun _ _ _ h => h) (fun K hK => ?_); apply Exists.intro; refine ⟨fun L w' hS => ?_, ?_⟩; (have hb := hS.1; have g0 := hS.2; clear hS; go_simp; rfl); (go_simp; refine hK _ ?_; clear hK K)
  refine wpFreeL_val rfl (fun _ _ _ h => h) (fun K hK => ?_); apply Exists.intro; refine ⟨fun L w' hS => ?_, ?_⟩; (have hb := hS.1; have g0 := hS.2; clear hS; go_simp; rfl); (go_simp; refine hK _ ?_; clear hK K)
  refine wpFreeL_val rfl (fun _ _ _ h => h) (fun K hK => ?_); apply Exists.intro; refine ⟨fun L w' hS => ?_, ?_⟩; (have hb := hS.1; have g0 := hS.2; clear hS; go_simp; rfl); (go_simp; refine hK _ ?_; clear hK K)
  refine wpFreeL_val rfl (fun _ _ _ h => h) (fun K hK => ?_); apply Exists.intro; refine ⟨fun L w' hS => ?_, ?_⟩; (have hb := hS.1; have g0 := hS.2; clear hS; go_simp; rfl); (go_simp; refine hK _ ?_; clear hK K)
  refine wpFreeL_val rfl (fun _ _ _ h => h) (fun K hK => ?_); apply Exists.intro; refine ⟨fun L w' hS => ?_, ?_⟩; (have hb := hS.1; have g0 := hS.2; clear hS; go_simp; rfl); (go_simp; refine hK _ ?_; clear hK K)
  refine wpFreeL_val rfl (fun _ _ _ h => h) (fun K hK => ?_); apply Exists.intro; refine ⟨fun L w' hS => ?_, ?_⟩; (have hb := hS.1; have g0 := hS.2; clear hS; go_simp; rfl); (go_simp; refine hK _ ?_; clear hK K)
  refine wpFreeL_val rfl (fun _ _ _ h => h) (fun K hK => ?_); apply Exists.intro; refine ⟨fun L w' hS => ?_, ?_⟩; (have hb := hS.1; have g0 := hS.2; clear hS; go_simp; rfl); (go_simp; refine hK _ ?_; clear hK K)
  refine wpFreeL_val rfl (fun _ _ _ h => h) (fun K hK => ?_); apply Exists.intro; refine ⟨fun L w' hS => ?_, ?_⟩; (have hb := hS.1; have g0 := hS.2; clear hS; go_simp; rfl); (go_simp; refine hK _ ?_; clear hK K)
  refine wpFreeL_val rfl (fun _ _ _ h => h) (fun K hK => ?_); apply Exists.intro; refine ⟨fun L w' hS => ?_, ?_⟩; (have hb := hS.1; have g0 := hS.2; clear hS; go_simp; rfl); (go_simp; refine hK _ ?_; clear hK K)
  refine wpFreeL_val rfl (fun _ _ _ h => h) (fun K hK => ?_); apply Exists.intro; refine ⟨fun L w' hS => ?_, ?_⟩; (have hb := hS.1; have g0 := hS.2; clear hS; go_simp; rfl); (go_simp; refine hK _ ?_; clear hK K)
  refine wpFreeL_val rfl (fun _ _ _ h => h) (fun K hK => ?_); apply Exists.intro; refine ⟨fun L w' hS => ?_, ?_⟩; (have hb := hS.1; have g0 := hS.2; clear hS; go_simp; rfl); (go_simp; refine hK _ ?_; clear hK K)
  refine wpFreeL_val rfl (fun _ _ _ h => h) (fun K hK => ?_); apply Exists.intro; refine ⟨fun L w' hS => ?_, ?_⟩; (have hb := hS.1; have g0 := hS.2; clear hS; go_simp; rfl); (go_simp; refine hK _ ?_; clear hK K)
  refine wpFreeL_nil (fun L w' hL hS => ?_)
  have hb := hS.1; have g0 := hS.2
  clear hL hS

  go_wp2_with fail
  go_ret
  exact ⟨ret_int HNB.out, hb⟩
end Go.Proofs.YtifcgimpgbeocaaGreat
/- The reference's numbers of four bytes, how many pages a log has. -/
set_option linter.unusedVariables false
set_option linter.unusedSimpArgs false
namespace Go.Proofs.YtifcgimpgbeocaaGreat
open Go.RowKit
attribute [local go_sem] Oper.semAt_some
theorem four_str (w : World) (b : Nat) (hb : w.heap.size = b) (x y z t : UInt8) : (convert 131 9 (.slice (some ⟨b, 0, none⟩) 4 4)).run Tryz.prog (w.alloc (.cells #[.int .u8 (x.toNat : Int), .int .u8 (y.toNat : Int), .int .u8 (z.toNat : Int), .int .u8 (t.toNat : Int)] 5)) =
    .ok (strV [x, y, z, t]) (w.alloc (.cells #[.int .u8 (x.toNat : Int), .int .u8 (y.toNat : Int), .int .u8 (z.toNat : Int), .int .u8 (t.toNat : Int)] 5)) := by
  rw [← hb]
  exact run_strB _ w.heap.size 4 [x, y, z, t] (by have := bytes_new w [x, y, z, t]; simpa [cellsB] using this)
set_option maxHeartbeats 1000000 in
set_option maxRecDepth 100000 in
theorem rfour_any (n : Nat) (w : World) (h : n < 4294967296) : Calls Tryz.prog 75 #[.int .i64 (n : Int)] w (Ret (strV (four n)) w) := by
  have e0 : (n : Int) / 16777216 = (((UInt8.ofNat (n / 16777216)).toNat : Nat) : Int) := by have := u8_of ((n : Int) / 16777216) (n / 16777216) (by omega); omega
  have e1 : (n : Int) / 65536 % 256 = (((UInt8.ofNat (n / 65536)).toNat : Nat) : Int) := u8_of _ _ (by omega)
  have e2 : (n : Int) / 256 % 256 = (((UInt8.ofNat (n / 256)).toNat : Nat) : Int) := u8_of _ _ (by omega)
  have e3 : (n : Int) % 256 = (((UInt8.ofNat n).toNat : Nat) : Int) := u8_of _ _ rfl
  have t4 := four_str w w.heap.size rfl (UInt8.ofNat (n / 16777216)) (UInt8.ofNat (n / 65536)) (UInt8.ofNat (n / 256)) (UInt8.ofNat n)
  rw [← e0, ← e1, ← e2, ← e3] at t4
  clear e0 e1 e2 e3
  go_enter Tryz.func75, Tryz.ntmps75
  go_wp2_with fail
  go_ret
  exact ⟨rfl, balloc (Below.refl _ _) _⟩
theorem num_sum (c0 c1 c2 c3 : Int) (b0 : 0 ≤ c0 ∧ c0 ≤ 255) (b1 : 0 ≤ c1 ∧ c1 ≤ 255) (b2 : 0 ≤ c2 ∧ c2 ≤ 255) (b3 : 0 ≤ c3 ∧ c3 ≤ 255) :
    IntKind.i64.wrap (c0 * 16777216 + c1 * 65536) = c0 * 16777216 + c1 * 65536 ∧ IntKind.i64.wrap (c0 * 16777216 + c1 * 65536 + c2 * 256) = c0 * 16777216 + c1 * 65536 + c2 * 256 ∧
      IntKind.i64.wrap (c0 * 16777216 + c1 * 65536 + c2 * 256 + c3) = c0 * 16777216 + c1 * 65536 + c2 * 256 + c3 :=
  ⟨IntWalk.i64_in _ ⟨by omega, by omega⟩, IntWalk.i64_in _ ⟨by omega, by omega⟩, IntWalk.i64_in _ ⟨by omega, by omega⟩⟩
set_option maxHeartbeats 1000000 in
set_option maxRecDepth 100000 in
theorem rnumber_q (s : Bs) (i : Nat) (w : World) (hs : s.length = 64) (hi : i ≤ 60) : Calls Tryz.prog 87 #[strV s, .int .i64 (i : Int)] w (fun e w' => e = .returned (.int .i64 (num4 s i : Nat)) ∧ ∃ m, w' = w.drewN m) := by
  have x0 := fun w => strv_at s i .i64 (by omega) w
  have x1 : ∀ w : World, (Instr.index 9 (strV s) (.int .i64 ((i : Int) + 1))).run Tryz.prog w = .ok (.int .u8 (byt s (i + 1))) w := fun w => strv_at s (i + 1) .i64 (by omega) w
  have x2 : ∀ w : World, (Instr.index 9 (strV s) (.int .i64 ((i : Int) + 2))).run Tryz.prog w = .ok (.int .u8 (byt s (i + 2))) w := fun w => strv_at s (i + 2) .i64 (by omega) w
  have x3 : ∀ w : World, (Instr.index 9 (strV s) (.int .i64 ((i : Int) + 3))).run Tryz.prog w = .ok (.int .u8 (byt s (i + 3))) w := fun w => strv_at s (i + 3) .i64 (by omega) w
  have HN : Hid (((num4 s i : Nat) : Int) = byt s i * 16777216 + byt s (i + 1) * 65536 + byt s (i + 2) * 256 + byt s (i + 3)) := by
    unfold Hid num4 byteAt byt; omega
  have b0 := byt_bd s i
  have b1 := byt_bd s (i + 1)
  have b2 := byt_bd s (i + 2)
  have b3 := byt_bd s (i + 3)
  have y1 : IntKind.i64.wrap ((i : Int) + 1) = (i : Int) + 1 := IntWalk.i64_in _ ⟨by omega, by omega⟩
  have y2 : IntKind.i64.wrap ((i : Int) + 2) = (i : Int) + 2 := IntWalk.i64_in _ ⟨by omega, by omega⟩
  have y3 : IntKind.i64.wrap ((i : Int) + 3) = (i : Int) + 3 := IntWalk.i64_in _ ⟨by omega, by omega⟩
  generalize byt s i = c0 at *
  generalize byt s (i + 1) = c1 at *
  generalize byt s (i + 2) = c2 at *
  generalize byt s (i + 3) = c3 at *
  rw [HN.out]
  clear HN hs
  obtain ⟨m1, m2, m3⟩ := num_sum c0 c1 c2 c3 b0 b1 b2 b3
  have u0 : IntKind.i64.wrap c0 = c0 := IntWalk.i64_in _ ⟨by omega, by omega⟩
  have u1 : IntKind.i64.wrap c1 = c1 := IntWalk.i64_in _ ⟨by omega, by omega⟩
  have u2 : IntKind.i64.wrap c2 = c2 := IntWalk.i64_in _ ⟨by omega, by omega⟩
  have u3 : IntKind.i64.wrap c3 = c3 := IntWalk.i64_in _ ⟨by omega, by omega⟩
  have v0 : IntKind.i64.wrap (c0 * 16777216) = c0 * 16777216 := IntWalk.i64_in _ ⟨by omega, by omega⟩
  have v1 : IntKind.i64.wrap (c1 * 65536) = c1 * 65536 := IntWalk.i64_in _ ⟨by omega, by omega⟩
  have v2 : IntKind.i64.wrap (c2 * 256) = c2 * 256 := IntWalk.i64_in _ ⟨by omega, by omega⟩
  clear b0 b1 b2 b3 hi
  go_enter Tryz.func87, Tryz.ntmps87
  go_wp2_with fail
  refine (fun hm hB S hS h => wp_region_freeL S hm hB hS h) (by kernel_rfl) (by kernel_rfl) (fun L w' => ∃ m, w' = w.drewN m) ⟨1, rfl⟩ ?_
  iterate 26 (refine wpFreeL_val rfl (fun _ _ _ h => h) (fun K hK => ?_); apply Exists.intro; refine ⟨fun L w' hS => ?_, ?_⟩; (have hb := hS; clear hS; go_simp; rfl); (go_simp; refine hK _ ?_; clear hK K))
  refine wpFreeL_nil (fun L w' hL hS => ?_)
  clear hL
  go_wp2_with fail
  go_ret
  exact ⟨rfl, hS⟩
set_option maxHeartbeats 1000000 in
theorem rpagesof_any (n : Nat) (w : World) (h1 : 2 ≤ n) (h2 : n ≤ 1000000000) : Calls Tryz.prog 54 #[.int .i64 (n : Int)] w (Ret (.int .i64 (halfN n)) w) := by
  have e1 : IntKind.i64.wrap ((n : Int) - 2) = (n : Int) - 2 := IntWalk.i64_in _ ⟨by omega, by omega⟩
  have e3 : IntKind.i64.wrap (((n : Int) - 2).tdiv 2) = ((halfN n : Nat) : Int) := by unfold halfN; rw [Int.tdiv_eq_ediv_of_nonneg (by omega), IntWalk.i64_in _ ⟨by omega, by omega⟩]; omega
  go_enter Tryz.func54, Tryz.ntmps54
  go_wp2_with fail
  go_ret
  exact ⟨rfl, Below.refl _ _⟩
end Go.Proofs.YtifcgimpgbeocaaGreat
/- A call of a Go function as a step of a region that draws its order. -/
set_option linter.unusedVariables false
set_option linter.unusedSimpArgs false
namespace Go.Proofs.YtifcgimpgbeocaaGreat
open Go.RowKit
end Go.Proofs.YtifcgimpgbeocaaGreat
/- Plain: what the functions on disks, and Create, answer. -/
set_option linter.unusedVariables false
set_option linter.unusedSimpArgs false
namespace Go.Proofs.YtifcgimpgbeocaaGreat
open Go.RowKit
def crashE (d : Dk) (cuts : List Int) : Dk × Int := if isDk d = true then (crashDk d cuts, 0) else (([], []), 142)
def actE (d : Dk) (a : Ac) : Dk × Int := if isDk d = true then (if isAct d a = true then (actDk d a, 0) else (([], []), 1)) else (([], []), 142)
def createD (n f : Int) : Dk × Int := if (4 ≤ n ∧ n ≤ 4096) ∧ 1 ≤ f ∧ f ≤ 8 then (((List.replicate n.toNat (zs 64)).set 1 (headPg (1, 0, f.toNat, 0)), []), 0) else (([], []), 1)
theorem isAct_sync (d : Dk) (p : Int) (s : Bs) : isAct d (true, p, s) = (decide (p = 0) && decide (s = [])) := by
  unfold isAct
  rw [if_pos rfl]
  cases s <;> simp
  rfl
theorem isAct_write (d : Dk) (p : Int) (s : Bs) : isAct d (false, p, s) = (decide (0 ≤ p) && (decide (p < (d.1.length : Int)) && decide (s.length = 64))) := by
  unfold isAct isWt
  rw [if_neg (by simp)]
  by_cases h1 : 0 ≤ p <;> by_cases h2 : p < (d.1.length : Int) <;> by_cases h3 : s.length = 64 <;> simp [h1, h2, h3]
end Go.Proofs.YtifcgimpgbeocaaGreat
/- Rows of records: what is cut off, what is struck out. -/
set_option linter.unusedVariables false
set_option linter.unusedSimpArgs false
namespace Go.Proofs.YtifcgimpgbeocaaGreat
open Go.RowKit
theorem elemR : Tryz.prog.elem 69 = 59 := by kernel_rfl
theorem sliceR : Tryz.prog.underlying 69 = some (.slice (Tryz.prog.elem 69)) := by kernel_rfl
theorem sizeOfR (w : World) : (sizeOf 59).run Tryz.prog w = .ok 2 w := by kernel_rfl
/-- Where a row of records begins behind l of them: at its capacity's end it keeps the old address. -/
def cutR (g l cap : Nat) : Addr := if cap = l then ⟨g, 0, none⟩ else ⟨g, l * 2, none⟩
theorem cutR_lt {g l cap : Nat} (h : l < cap) : cutR g l cap = ⟨g, l * 2, none⟩ := by unfold cutR; rw [if_neg (by omega)]
@[go_sem high] theorem run_cutlR (g len cap : Nat) (w : World) (kl : IntKind) (l : Int) (h0 : 0 ≤ l) (h1 : l ≤ len) :
    (Instr.slice 69 (.slice (some ⟨g, 0, none⟩) len cap) (some (.int kl l)) none none).run Tryz.prog w = .ok (.slice (some (cutR g l.toNat cap)) (len - l.toNat) (cap - l.toNat)) w := by
  rw [run_slice_l (t := 69) (ht := sliceR) (kl := kl) (l := l) (h0 := h0) (h1 := h1), elemR, sizeOfR]
  simp only [Result.andThen, sliced, cutR]
  split <;> simp [addr_add]
@[go_sem high] theorem run_cuthR (g len cap : Nat) (w : World) (kh : IntKind) (h : Int) (h0 : 0 ≤ h) (h1 : h ≤ cap) :
    (Instr.slice 69 (.slice (some ⟨g, 0, none⟩) len cap) none (some (.int kh h)) none).run Tryz.prog w = .ok (.slice (some ⟨g, 0, none⟩) h.toNat cap) w := by
  rw [run_slice_h (t := 69) (ht := sliceR) (kh := kh) (h := h) (h0 := h0) (h2 := h1), elemR, sizeOfR]
  simp only [Result.andThen, sliced, Nat.zero_mul, Nat.sub_zero]
  split <;> simp [addr_add]
@[go_sem high] theorem run_cutlhR (g len cap : Nat) (w : World) (kl kh : IntKind) (l h : Int) (h0 : 0 ≤ l) (h1 : l ≤ h) (h2 : h ≤ cap) :
    (Instr.slice 69 (.slice (some ⟨g, 0, none⟩) len cap) (some (.int kl l)) (some (.int kh h)) none).run Tryz.prog w = .ok (.slice (some (cutR g l.toNat cap)) (h.toNat - l.toNat) (cap - l.toNat)) w := by
  rw [run_slice_lh (t := 69) (ht := sliceR) (kl := kl) (kh := kh) (l := l) (h := h) (h0 := h0) (h1 := h1) (h2 := h2), elemR, sizeOfR]
  simp only [Result.andThen, sliced, cutR]
  split <;> simp [addr_add]
@[go_sem high] theorem run_cutlhmR (g len cap : Nat) (w : World) (kl kh km : IntKind) (l h m : Int) (h0 : 0 ≤ l) (h1 : l ≤ h) (h2 : h ≤ m) (h3 : m ≤ cap) :
    (Instr.slice 69 (.slice (some ⟨g, 0, none⟩) len cap) (some (.int kl l)) (some (.int kh h)) (some (.int km m))).run Tryz.prog w = .ok (.slice (some (cutR g l.toNat m.toNat)) (h.toNat - l.toNat) (m.toNat - l.toNat)) w := by
  rw [run_slice_lhm (t := 69) (ht := sliceR) (kl := kl) (kh := kh) (km := km) (l := l) (h := h) (m := m) (h0 := h0) (h1 := h1) (h2 := h2) (h3 := h3), elemR, sizeOfR]
  simp only [Result.andThen, sliced, cutR]
  split <;> simp [addr_add]
theorem encR_take : ∀ (ps : Ds) (i : Nat), (encR ps).take (i * 2) = encR (ps.take i)
  | [], i => by simp [encR]
  | p :: r, 0 => by simp [encR]
  | p :: r, i + 1 => by
    have ih := encR_take r i
    simp only [encR, List.flatMap_cons, List.take_succ_cons] at ih ⊢
    rw [show (i + 1) * 2 = i * 2 + 1 + 1 by omega]
    simp only [List.cons_append, List.nil_append, List.take_succ_cons, ih]
theorem encR_drop : ∀ (ps : Ds) (i : Nat), (encR ps).drop (i * 2) = encR (ps.drop i)
  | [], i => by simp [encR]
  | p :: r, 0 => by simp [encR]
  | p :: r, i + 1 => by
    have ih := encR_drop r i
    simp only [encR, List.flatMap_cons, List.drop_succ_cons] at ih ⊢
    rw [show (i + 1) * 2 = i * 2 + 1 + 1 by omega]
    simp only [List.cons_append, List.nil_append, List.drop_succ_cons, ih]
theorem exec_delR {w : World} {B g n cap i c : Nat} {A : Addr} {ps : Ds} {ty : TypeId} (hP : OR w B (.slice (some ⟨g, 0, none⟩) n cap) ps) (hn : ps.length = n) (hi : i < n) (hA : n - (i + 1) = 0 ∨ A = ⟨g, (i + 1) * 2, none⟩) :
    ∃ w', (Builtin.append_ #[69, 69] ty #[.slice (some ⟨g, 0, none⟩) i cap, .slice (some A) (n - (i + 1)) c]).run Tryz.prog w = .ok (.slice (some ⟨g, 0, none⟩) (n - 1) cap) w' ∧
      OR w' B (.slice (some ⟨g, 0, none⟩) (n - 1) cap) (ps.eraseIdx i) ∧ w.grownBy w' (some g) := by
  obtain ⟨i0, hi0, hz0, hz1, hz2⟩ := info_parts infoR
  obtain ⟨hlen, ⟨hv, -⟩ | ⟨g', cap', cur, hv, hb, hg, hnc, hcm, hcs, ht⟩⟩ := hP
  · cases hv
  simp only [Value.slice.injEq, Option.some.injEq, Addr.mk.injEq] at hv
  obtain ⟨⟨rfl, -, -⟩, -, rfl⟩ := hv
  have hel := encR_length ps
  have hnl : (encR (ps.drop (i + 1))).length = (n - (i + 1)) * i0.size := by rw [encR_length, List.length_drop, hn, hz1]
  have hcl : cur.toList.length = cap * 2 := by rw [Array.length_toList]; exact hcs
  have hrun := run_append_room (P := Tryz.prog) w 69 ty 59 i0 underR hi0 g i cap cur hg A (n - (i + 1)) c (encR (ps.drop (i + 1))) hnl (fun j u hj => by
      have hjl := (List.getElem?_eq_some_iff.1 hj).1
      rw [hnl, hz1] at hjl
      rcases hA with h0 | rfl
      · omega
      · rw [addr_add]
        rw [← encR_drop, List.getElem?_drop, ← ht, List.getElem?_take_of_lt (by omega)] at hj
        unfold World.cell?
        simp only [hg]
        simpa using hj) (fun u hu => by
      obtain ⟨p, -, hp⟩ := List.mem_flatMap.1 hu
      simp at hp
      rcases hp with rfl | rfl <;> rfl) (by omega) (by rw [hnl, hz1, hcs]; omega)
  rw [hz1, show i + (n - (i + 1)) = n - 1 by omega] at hrun
  have hel2 : (ps.eraseIdx i).length = n - 1 := by rw [List.length_eraseIdx, if_pos (by omega), hn]
  refine ⟨_, hrun, ?_, ⟨rfl, rfl, rfl, by simp, fun k _ hk => setRow_other w g k _ (fun e => hk (by rw [e]))⟩⟩
  refine ⟨by rw [encR_length], .inr ⟨g, cap, _, by rw [hel2], hb, setRow_heap w g cur _ 59 _ hg, by omega, hcm, ?_, ?_⟩⟩
  · simp only [List.size_toArray, List.length_append, List.length_take, List.length_drop, hnl, hz1, hcl]
    omega
  · have e1 : cur.toList.take (i * 2) = encR (ps.take i) := by
      rw [← encR_take, ← ht, List.take_take, Nat.min_eq_left (by omega)]
    have e2 : (encR (ps.take i) ++ encR (ps.drop (i + 1))).length = (n - 1) * 2 := by
      rw [List.length_append, encR_length, encR_length, List.length_take, List.length_drop]; omega
    rw [hel2, e1, List.eraseIdx_eq_take_drop_succ, encR_append]
    simp only [List.append_assoc]
    rw [← List.append_assoc, List.take_append_of_le_length (by omega), List.take_of_length_le (by omega)]
/-- append(ps[:i], ps[i+1:]...), as one step of a region that draws. -/
theorem step_delR {ops : Array Oper} {o : Oper} {a : Act} {w : World} {K : Act → World → Prop} {Q : Exit → Act → World → Prop} {E : Prop} (hg : o.guard = none) (s x : Operand)
    (hop : o.op = Op.call { callee := Callee.builtin Builtin.append, args := #[s, x], argTypes := #[69, 69] }) (B g n cap i c : Nat) (A : Addr) (ps : Ds)
    (hs : a.eval s = .slice (some ⟨g, 0, none⟩) i cap) (hx : a.eval x = .slice (some A) (n - (i + 1)) c) (hP : OR w B (.slice (some ⟨g, 0, none⟩) n cap) ps) (hn : ps.length = n) (hi : i < n) (hA : n - (i + 1) = 0 ∨ A = ⟨g, (i + 1) * 2, none⟩)
    (hK : ∀ w', OR w' B (.slice (some ⟨g, 0, none⟩) (n - 1) cap) (ps.eraseIdx i) → w.grownBy w' (some g) → K (a.put o.dst (.slice (some ⟨g, 0, none⟩) (n - 1) cap)) w') :
    if Region.wanted o (yielded ops a.tmps) = true then Oper.wp Tryz.prog o a w K Q else E := by
  have hw : Region.wanted o (yielded ops a.tmps) = true := by simp [Region.wanted, hg]
  rw [if_pos hw]
  obtain ⟨w', hrun, h1, h2⟩ := exec_delR (ty := o.type) (c := c) hP hn hi hA
  unfold Oper.wp
  simp [execOp, hop, resolve, invoke, builtin, hs, hx, hrun, Result.andThen]
  exact hK w' h1 h2
/-- What lies behind the row is cleared. -/
theorem exec_clearR {w : World} {B g n cap c : Nat} {ds : Ds} (m : Nat) (hP : OR w B (.slice (some ⟨g, 0, none⟩) n cap) ds) (hn : ds.length = n) (hm : 0 < m) (hc : n + m ≤ cap) :
    ∃ w', (∀ ty, (Builtin.clear_ #[69] ty #[.slice (some ⟨g, n * 2, none⟩) m c]).run Tryz.prog w = .ok (.tuple #[]) w') ∧ OR w' B (.slice (some ⟨g, 0, none⟩) n cap) ds ∧ w.grownBy w' (some g) := by
  obtain ⟨hlen, ⟨hv, -⟩ | ⟨g', cap', cur, hv, hb, hg, hnc, hcm, hcs, ht⟩⟩ := hP
  · cases hv
  simp only [Value.slice.injEq, Option.some.injEq, Addr.mk.injEq] at hv
  obtain ⟨⟨rfl, -, -⟩, -, rfl⟩ := hv
  have hzl : ((Builtin.zeroCells (Value.agg #[.string ⟨#[]⟩, .string ⟨#[]⟩]).cells m).toList).length = m * 2 := by
    simp [Builtin.zeroCells, Value.cells]
  have h1 : ∀ v ∈ (Builtin.zeroCells (Value.agg #[.string ⟨#[]⟩, .string ⟨#[]⟩]).cells m).toList, v.oneCell' = true := by
    intro v hv
    simp only [Builtin.zeroCells, Array.toList_map, List.mem_map] at hv
    obtain ⟨i, -, rfl⟩ := hv
    have : (Value.agg #[.string ⟨#[]⟩, .string ⟨#[]⟩]).cells = #[.string ⟨#[]⟩, .string ⟨#[]⟩] := rfl
    simp only [this]
    have hi : i % 2 = 0 ∨ i % 2 = 1 := by omega
    rcases hi with hi | hi <;> simp [hi] <;> rfl
  obtain ⟨zs, hzs⟩ : ∃ zs, (Builtin.zeroCells (Value.agg #[.string ⟨#[]⟩, .string ⟨#[]⟩]).cells m).toList = zs := ⟨_, rfl⟩
  rw [hzs] at hzl h1
  have hcl : cur.toList.length = cap * 2 := by rw [Array.length_toList]; exact hcs
  refine ⟨_, fun ty => run_clear_rowN w 69 59 ty _ underR (fun w => by kernel_rfl) g (n * 2) m c hm cur 59 zs hzs h1 hg (by rw [hzl, hcs]; omega), ?_⟩
  rw [hn] at ht hnc
  have := own_setRow (B := B) (s := 2) (n' := n) (xs' := encR ds) (N := cur.toList.take (n * 2) ++ zs ++ cur.toList.drop (n * 2 + zs.length)) hb hg hcm (by rw [List.length_append, List.length_append, List.length_take, List.length_drop, hzl, hcl]; omega) (by omega) (by
    rw [List.append_assoc, List.take_append_of_le_length (by rw [List.length_take]; omega), List.take_of_length_le (by rw [List.length_take]; omega)]; exact ht)
  unfold OR
  rw [hn]
  exact this
end Go.Proofs.YtifcgimpgbeocaaGreat
