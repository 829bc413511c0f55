/- bytesOf, encode, Encode. -/
import Derived.Test.YtifcgimpgbeocaaK6
import Derived.Test.YtifcgimpgbeocaaK3
import Derived.Test.YtifcgimpgbeocaaK8
import Derived.Test.YtifcgimpgbeocaaK5
set_option linter.unusedVariables false
set_option linter.unusedSimpArgs false
namespace Go.Proofs.Ytifcgimpgbeocaa
open Go.RowKit
attribute [local go_sem] Oper.semAt_some
theorem b8_int (n : Int) : n % 256 = ((b8 n).toNat : Int) := by
  have h := u8_of n.toNat n.toNat rfl
  unfold b8
  rw [UInt8.toNat_ofNat']
  omega
theorem three_str (w : World) (b : Nat) (hb : w.heap.size = b) (x y z : Int) : (convert 164 9 (.slice (some ⟨b, 0, none⟩) 3 3)).run Try.prog (w.alloc (.cells #[.int .u8 (x % 256), .int .u8 (y % 256), .int .u8 (z % 256)] 5)) =
    .ok (strV [b8 x, b8 y, b8 z]) (w.alloc (.cells #[.int .u8 (x % 256), .int .u8 (y % 256), .int .u8 (z % 256)] 5)) := by
  rw [b8_int x, b8_int y, b8_int z, ← hb]
  exact run_strB _ w.heap.size 3 [b8 x, b8 y, b8 z] (by have := bytes_new w [b8 x, b8 y, b8 z]; simpa [cellsB] using this)
theorem one_str (w : World) (b : Nat) (hb : w.heap.size = b) (x : Int) : (convert 164 9 (.slice (some ⟨b, 0, none⟩) 1 1)).run Try.prog (w.alloc (.cells #[.int .u8 (x % 256)] 5)) =
    .ok (strV [b8 x]) (w.alloc (.cells #[.int .u8 (x % 256)] 5)) := by
  rw [b8_int x, ← hb]
  exact run_strB _ w.heap.size 1 [b8 x] (by have := bytes_new w [b8 x]; simpa [cellsB] using this)
set_option maxHeartbeats 1000000 in
set_option maxRecDepth 100000 in
theorem bytesof_any (o : FOp) (w : World) (h1 : o.2.2.1.length ≤ 1000000000) (h2 : o.2.2.2.length ≤ 1000000000) : Calls Try.prog 132 #[opV o] w (Ret (strV (enc1 o)) w) := by
  obtain ⟨k, f, a, s⟩ := o
  simp only at h1 h2
  have g0 : (w.alloc (.cells #[.int .i64 k, .int .i64 f, strV a, strV s] 63)).cell? ⟨w.heap.size, 0, none⟩ = some (.int .i64 k) := cell_new _ _ _ 0 _ rfl
  have g1 : (w.alloc (.cells #[.int .i64 k, .int .i64 f, strV a, strV s] 63)).cell? ⟨w.heap.size, 1, none⟩ = some (.int .i64 f) := cell_new _ _ _ 1 _ rfl
  have g2 : (w.alloc (.cells #[.int .i64 k, .int .i64 f, strV a, strV s] 63)).cell? ⟨w.heap.size, 2, none⟩ = some (strV a) := cell_new _ _ _ 2 _ rfl
  have g3 : (w.alloc (.cells #[.int .i64 k, .int .i64 f, strV a, strV s] 63)).cell? ⟨w.heap.size, 3, none⟩ = some (strV s) := cell_new _ _ _ 3 _ rfl
  have t3 := three_str (w.alloc (.cells #[.int .i64 k, .int .i64 f, strV a, strV s] 63)) (w.heap.size + 1) (by simp) k f a.length
  have q1 : [b8 k, b8 f, b8 (a.length : Int)].length + a.length ≤ 9223372036854775807 := by simp; omega
  by_cases h5 : k = 5
  · have HE : Hid (enc1 (k, f, a, s) = [b8 k, b8 f, b8 (a.length : Int)] ++ a) := by unfold enc1 Hid; simp [h5]
    have hk : (k != 5) = false := by simp [h5]
    clear h5
    go_enter Try.func132, Try.ntmps132
    go_wp2_with fail
    go_ret
    exact ⟨by rw [HE.out]; simp, balloc (balloc (Below.refl _ _) _) _⟩
  · have HE : Hid (enc1 (k, f, a, s) = ([b8 k, b8 f, b8 (a.length : Int)] ++ a) ++ ([b8 (s.length : Int)] ++ s)) := by unfold enc1 Hid; simp [h5]
    have t1 := one_str ((w.alloc (.cells #[.int .i64 k, .int .i64 f, strV a, strV s] 63)).alloc (.cells #[.int .u8 (k % 256), .int .u8 (f % 256), .int .u8 ((a.length : Int) % 256)] 5)) (w.heap.size + 1 + 1) (by simp) s.length
    go_enter Try.func132, Try.ntmps132
    go_wp2_with fail
    go_ret
    exact ⟨by rw [HE.out]; simp, balloc (balloc (balloc (Below.refl _ _) _) _) _⟩
theorem IsB.below {B b : Nat} {l : Bs} {w w' : World} (h : IsB B b l w) (hb : Below w.heap.size w w') : IsB B b l w' := by
  have k : ∀ p, Lib.BuilderAt 169 5 B b p (Lib.byteCells l) w → Lib.BuilderAt 169 5 B b p (Lib.byteCells l) w' := fun p h => by
    have hlt := h.lt
    obtain ⟨hB, v, hv, hown, hne⟩ := h
    exact ⟨hB, v, (hb.block b hlt).trans hv, hown.kept (row := none) ⟨hb.os, hb.tape, hb.output, hb.size, fun k hk _ => hb.block k hk⟩ (Classical.em _), hne⟩
  exact h.elim (fun x => .inl (k _ x)) (fun x => .inr (k _ x))
theorem isB_new (w : World) : IsB w.heap.size w.heap.size [] (w.alloc (.cells #[.pointer none, .slice none 0 0] 169)) :=
  .inl ⟨Nat.le_refl _, .slice none 0 0, heap_alloc_new w _, World.ownsRow_nil _ _ _ _, by simp [Value.ownBlock]⟩
theorem enc1_bd {o : FOp} (h : o.2.2.1.length ≤ 255 ∧ o.2.2.2.length ≤ 255) : (enc1 o).length ≤ 514 := by
  unfold enc1; simp only [List.length_cons, List.length_append]; split <;> simp <;> omega
theorem encL_bd : ∀ (l : List FOp), (∀ o ∈ l, o.2.2.1.length ≤ 255 ∧ o.2.2.2.length ≤ 255) → (encL l).length ≤ 514 * l.length
  | [], _ => by simp [encL]
  | o :: l, h => by
    rw [encL_cons, List.length_append, List.length_cons]
    have := encL_bd l fun x hx => h x (List.mem_cons_of_mem _ hx)
    have := enc1_bd (h o (List.mem_cons_self ..))
    omega
set_option maxHeartbeats 1000000 in
set_option maxRecDepth 100000 in
theorem encode_any (l : List FOp) (v : Value) (w : World) (hR : RdO w v l) (hl : l.length ≤ 1000000) (ho : ∀ o ∈ l, o.2.2.1.length ≤ 255 ∧ o.2.2.2.length ≤ 255) : Calls Try.prog 100 #[v] w (Ret (strV (encL l)) w) := by
  obtain ⟨op, cap, rfl, hcap, hc⟩ := hR
  have HC := hid hc
  have HO := hid ho
  obtain ⟨M, hM⟩ : ∃ M, l.length = M := ⟨_, rfl⟩
  have HM := hid hM
  rw [hM] at hl hcap ⊢
  have HBD : Hid (∀ k, (encL (l.take k)).length ≤ 514 * k) := fun k => by
    have h1 := encL_bd (l.take k) fun o h => ho o (List.mem_of_mem_take h)
    have h2 : (l.take k).length ≤ k := by rw [List.length_take]; omega
    omega
  have HB0 := hid (balloc (Below.refl w.heap.size w) (.cells #[.pointer none, .slice none 0 0] 169))
  have HI0 := hid (isB_new w)
  clear hc ho hM
  go_enter Try.func100, Try.ntmps100
  go_wp2_with fail
  go_loopw [8] (fun i wr => ∃ k : Nat, i = .int .i64 k ∧ k ≤ M ∧ Hid (IsB w.heap.size w.heap.size (encL (l.take k)) wr) ∧ Hid (Below w.heap.size w wr)) (fun i _ => M - (intOf i).toNat)
  case atStart => exact ⟨0, rfl, Nat.zero_le _, HI0, HB0⟩
  case round =>
    obtain ⟨k, rfl, hk, HI, HB⟩ := hrel
    by_cases hlt : k < M
    · obtain ⟨x, hx⟩ : ∃ x, l[k]? = some x := ⟨_, List.getElem?_eq_getElem (by have := HM.out; omega)⟩
      have hHC := HC.out
      rcases hHC with hq | ⟨b, off, rfl, hbq, hq⟩
      · rw [hq] at hx; simp at hx
      obtain ⟨c0, c1, c2, c3⟩ := hq k x hx
      have c0 := keepB HB.out (a := ⟨b, off + k * 4, none⟩) hbq c0
      have c1 := keepB HB.out (a := ⟨b, off + k * 4 + 1, none⟩) hbq c1
      have c2 := keepB HB.out (a := ⟨b, off + k * 4 + 2, none⟩) hbq c2
      have c3 := keepB HB.out (a := ⟨b, off + k * 4 + 3, none⟩) hbq c3
      have hxl := HO.out x (List.mem_of_getElem? hx)
      have HST : Hid (encL (l.take (k + 1)) = encL (l.take k) ++ enc1 x) := by
        unfold Hid
        rw [List.take_add_one, hx, encL_append]; simp [encL]
      have HL : Hid ((encL (l.take k)).length + (enc1 x).length ≤ 1000000000) := by have := HBD.out k; have := enc1_bd hxl; unfold Hid; omega
      have HY := hid (fun w => bytesof_any x w (by omega) (by omega))
      obtain ⟨E, hE⟩ : ∃ E, enc1 x = E := ⟨_, rfl⟩
      rw [hE] at HST HL HY
      obtain ⟨F, hF⟩ : ∃ F, encL (l.take k) = F := ⟨_, rfl⟩
      rw [hF] at HST HL HI
      clear hE hF hq hxl hx
      obtain ⟨p, f, a, s⟩ := x
      simp only at c0 c1 c2 c3
      go_wp2_with fail
      refine (HY.out _).mono ?_
      rintro e w1 ⟨rfl, hb1⟩
      have HB1 := hid (below_step hb1 (balloc HB.out _))
      have HI1 := hid ((HI.out.below ((Below.refl _ _).alloc (Nat.le_refl _) _)).below hb1)
      clear hb1
      go_wp2_with fail
      refine (wstr_any _ _ _ _ _ HI1.out HL.out HB1.out.size).mono ?_
      rintro e w2 ⟨rfl, hi2, hb2⟩
      have HB2 := hid (HB1.out.trans hb2)
      have HI2 := hid hi2
      clear hb2 hi2
      go_wp2_with fail
      go_roundw
      case rel => exact ⟨k + 1, by go_num, by omega, by rw [HST.out]; exact HI2, HB2⟩
      case measure => simp [intOf]; omega
    · have hkM : k = M := by omega
      subst hkM
      have HT : Hid (encL (l.take k) = encL l) := by unfold Hid; rw [List.take_of_length_le (by rw [HM.out]; exact Nat.le_refl _)]
      rw [HT.out] at HI
      go_wp2_with fail
      refine (bstr_any _ _ _ _ HI.out HB.out.size).mono ?_
      rintro e w1 ⟨rfl, hb1⟩
      have HB1 := hid (HB.out.trans hb1)
      clear hb1
      go_wp2_with fail
      go_ret
      exact ⟨rfl, HB1.out⟩
set_option maxHeartbeats 1000000 in
set_option maxRecDepth 100000 in
theorem encodeE_any (l : List FOp) (v : Value) (w : World) (hR : RdO w v l) (hl : l.length ≤ 1000000) : Calls Try.prog 45 #[v] w (Ret (.tuple #[strV (encodeD l).1, .int .i64 (encodeD l).2]) w) := by
  have HH := hid (fun w' (hb : Below w.heap.size w w') => hasO_any l v w' (hR.below hb) (by omega))
  have HE : Hid (∀ w' (hb : Below w.heap.size w w'), Hid (l.all chg = true) → Calls Try.prog 100 #[v] w' (Ret (strV (encL l)) w')) := fun w' hb h => encode_any l v w' (hR.below hb) hl fun o ho => by
    have := chg_parts (List.all_eq_true.1 h.out o ho)
    omega
  have hr : encodeD l = if l.all chg then (if (encL l).length ≤ 131072 then (encL l, 0) else ([], 2)) else ([], 1) := rfl
  have hany : l.any (fun x => !chg x) = !l.all chg := by rw [List.all_eq_not_any_not]; simp
  obtain ⟨op, cap, rfl, -, -⟩ := hR
  obtain ⟨R, hR⟩ : ∃ R, encodeD l = R := ⟨_, rfl⟩
  obtain ⟨q, hq⟩ : ∃ q, l.all chg = q := ⟨_, rfl⟩
  obtain ⟨E, hE⟩ : ∃ E, encL l = E := ⟨_, rfl⟩
  obtain ⟨N, hN⟩ : ∃ N, E.length = N := ⟨_, rfl⟩
  rw [hR] at hr ⊢
  rw [hE, hq, hN] at hr
  simp only [hE, hq, hany] at HE HH
  have HN := hid hN
  have HRR := hid hr
  clear hR hq hE hr hany hN
  have HB0 := hid (Below.refl w.heap.size w)
  cases q with
  | false =>
    have HR1 : Hid (R = ([], 1)) := HRR.out
    go_enter Try.func45, Try.ntmps45
    go_wp2_with fail
    refine (HH.out _ HB0.out).mono ?_
    rintro e w1 ⟨rfl, hb1⟩
    have HB1 := hid hb1
    clear hb1
    go_wp2_with fail
    go_ret2
    rw [HR1.out]
    exact ⟨rfl, HB1.out⟩
  | true =>
    by_cases hN : N ≤ 131072
    · have HR1 : Hid (R = (E, 0)) := by unfold Hid; rw [HRR.out, if_pos rfl, if_pos hN]
      have g1 : decide (131072 < (E.length : Int)) = false := by have := HN.out; simp; omega
      clear hN
      go_enter Try.func45, Try.ntmps45
      go_wp2_with fail
      refine (HH.out _ HB0.out).mono ?_
      rintro e w1 ⟨rfl, hb1⟩
      have HB1 := hid hb1
      clear hb1
      go_wp2_with fail
      refine (HE.out _ HB1.out (hid (by first | trivial | rfl))).mono ?_
      rintro e w2 ⟨rfl, hb2⟩
      have HB2 := hid (below_step hb2 HB1.out)
      clear hb2
      go_wp2_with fail
      go_ret2
      rw [HR1.out]
      exact ⟨rfl, HB2.out⟩
    · have HR1 : Hid (R = ([], 2)) := by unfold Hid; rw [HRR.out, if_pos rfl, if_neg hN]
      have g1 : decide (131072 < (E.length : Int)) = true := by have := HN.out; simp; omega
      clear hN
      go_enter Try.func45, Try.ntmps45
      go_wp2_with fail
      refine (HH.out _ HB0.out).mono ?_
      rintro e w1 ⟨rfl, hb1⟩
      have HB1 := hid hb1
      clear hb1
      go_wp2_with fail
      refine (HE.out _ HB1.out (hid (by first | trivial | rfl))).mono ?_
      rintro e w2 ⟨rfl, hb2⟩
      have HB2 := hid (below_step hb2 HB1.out)
      clear hb2
      go_wp2_with fail
      go_ret2
      rw [HR1.out]
      exact ⟨rfl, HB2.out⟩
end Go.Proofs.Ytifcgimpgbeocaa
/- take, counted. -/
set_option linter.unusedVariables false
set_option linter.unusedSimpArgs false
namespace Go.Proofs.Ytifcgimpgbeocaa
open Go.RowKit
attribute [local go_sem] Oper.semAt_some
/-- The panic that is thrown where bytes end too soon. -/
def shortP : List PanicEntry := [{ v := .iface 148 (.agg #[]), recovered := false }]
theorem ext_take' (s : Bs) (C : Nat) : (⟨s.toArray⟩ : ByteArray).extract 0 C = ⟨(s.take C).toArray⟩ := by
  apply ByteArray.ext
  rw [ByteArray.data_extract]
  simp
theorem ext_drop' (s : Bs) (C n : Nat) (h : s.length = n) : (⟨s.toArray⟩ : ByteArray).extract C n = ⟨(s.drop C).toArray⟩ := by
  apply ByteArray.ext
  rw [ByteArray.data_extract]
  simp [← h]
  exact List.take_of_length_le (by simp)
set_option maxHeartbeats 1000000 in
set_option maxRecDepth 100000 in
theorem take_ok (s : Bs) (n : Nat) (w : World) (h : n ≤ s.length) : Calls Try.prog 104 #[strV s, .int .i64 n] w (Ret (.tuple #[strV (s.take n), strV (s.drop n)]) w) := by
  have g : decide ((s.length : Int) < n) = false := by simp; omega
  have e1 := ext_take' s n
  have e2 := ext_drop' s n s.length rfl
  go_enter Try.func104, Try.ntmps104
  go_wp2_with fail
  go_region
  all_goals
    go_wp2_with fail
    go_ret2
    exact ⟨rfl, (Below.refl _ _).drew⟩
theorem take_short (s : Bs) (n : Nat) (w : World) (h : s.length < n) : Calls Try.prog 104 #[strV s, .int .i64 n] w (fun e w' => e = .panicked shortP ∧ Below w.heap.size w w') := by
  have g : decide ((s.length : Int) < n) = true := by simp; omega
  go_enter Try.func104, Try.ntmps104
  go_wp2_with fail
  exact ⟨rfl, rfl, Below.refl _ _⟩
set_option maxHeartbeats 1000000 in
set_option maxRecDepth 100000 in
theorem counted_ok (c : UInt8) (s : Bs) (w : World) (h : c.toNat ≤ s.length) : Calls Try.prog 105 #[strV (c :: s)] w (Ret (.tuple #[strV (s.take c.toNat), strV (s.drop c.toNat)]) w) := by
  have H1 := hid (fun w => take_ok (c :: s) 1 w (by simp))
  have H2 := hid (fun w => take_ok s c.toNat w h)
  have x0 := fun w => strv_at ((c :: s).take 1) 0 .i64 (by simp) w
  have hc : byt ((c :: s).take 1) 0 = (c.toNat : Int) := rfl
  rw [hc] at x0
  have hw : IntKind.i64.wrap (c.toNat : Int) = (c.toNat : Int) := IntWalk.i64_in _ ⟨by omega, by have := c.toNat_lt; omega⟩
  have hc0 : ∀ (h : 0 < (ByteArray.mk #[c]).size), (ByteArray.mk #[c])[0]'h = c := fun _ => rfl
  have hw' : wrap64 (c.toNat : Int) = (c.toNat : Int) := by have := c.toNat_lt; unfold wrap64; omega
  clear hc
  go_enter Try.func105, Try.ntmps105
  go_wp2_with fail
  refine (H1.out _).mono ?_
  rintro e w1 ⟨rfl, hb1⟩
  have HB1 := hid hb1
  clear hb1
  go_wp2_with fail
  refine (H2.out _).mono ?_
  rintro e w2 ⟨rfl, hb2⟩
  have HB2 := hid (below_step hb2 HB1.out)
  clear hb2
  go_wp2_with fail
  go_ret2
  exact ⟨rfl, HB2.out⟩
end Go.Proofs.Ytifcgimpgbeocaa
/- lay, head.page. -/
set_option linter.unusedVariables false
set_option linter.unusedSimpArgs false
namespace Go.Proofs.Ytifcgimpgbeocaa
open Go.RowKit
attribute [local go_sem] Oper.semAt_some
theorem drew_below' (w : World) : Below w.heap.size w w.drew := (Below.refl _ _).drew
set_option maxHeartbeats 1000000 in
theorem lay_any (b off len cap : Nat) (l : List UInt8) (n : Nat) (w : World) (hB : Bytes w b l) (hl : off + 4 ≤ l.length) (h1 : 4 ≤ len) (h2 : len ≤ cap) (h3 : cap ≤ 1000000) (hn : n < 4294967296) :
    Calls Try.prog 120 #[.slice (some ⟨b, off, none⟩) len cap, .int .i64 (n : Int)] w fun e w' => e = .returned (.tuple #[]) ∧ Bytes w' b (setL l off n) ∧ w.grownBy w' (some b) ∧ w'.heap.size = w.heap.size := by
  have c0 := hB.cell (i := off) (by omega)
  have c1 := hB.cell (i := off + 1) (by omega)
  have c2 := hB.cell (i := off + 2) (by omega)
  have c3 := hB.cell (i := off + 3) (by omega)
  have f0 := hB.frozen off
  have f1 := hB.frozen (off+1)
  have f2 := hB.frozen (off+2)
  have f3 := hB.frozen (off+3)
  have HB := hid hB; clear hB
  clear hl
  go_enter Try.func120, Try.ntmps120
  go_wp2
  refine wp_loop_rounds 5 ?_
  rw [rounds_succ]
  go_wp2
  rw [rounds_succ]
  go_wp2
  rw [rounds_succ]
  go_wp2
  rw [rounds_succ]
  go_wp2
  rw [rounds_succ]
  go_wp2
  go_end0
  refine ⟨rfl, ?_, ?_, by simp [World.setCell]⟩
  · have e0 : (n : Int) / 16777216 = (((UInt8.ofNat (n / 16777216)).toNat : Nat) : Int) := by have := u8_of ((n : Int) / 16777216) (n / 16777216) (by omega); omega
    have e1 : (n : Int) / 65536 % 256 = (((UInt8.ofNat (n / 65536)).toNat : Nat) : Int) := u8_of _ _ (by omega)
    have e2 : (n : Int) / 256 % 256 = (((UInt8.ofNat (n / 256)).toNat : Nat) : Int) := u8_of _ _ (by omega)
    have e3 : (n : Int) % 256 = (((UInt8.ofNat n).toNat : Nat) : Int) := u8_of _ _ rfl
    rw [e0, e1, e2, e3]
    exact (((HB.out.set _).set _).set _).set _
  · exact grown_set (grown_set (grown_set (grown_set (grown_refl _ _) _ _) _ _) _ _) _ _
/-- The page of a head as the program fills it. -/
def pageL (h : Hd) : Bs := setL (setL (((setL (zs 64) 0 h.1).set 4 (UInt8.ofNat h.2.1)).set 5 (UInt8.ofNat h.2.2.1)) 8 h.2.2.2) 60 h.1
theorem pageL_eq (h : Hd) : pageL h = headPg h := rfl
def hdV (h : Hd) : Value := .agg #[.int .i64 h.1, .int .i64 h.2.1, .int .i64 h.2.2.1, .int .i64 h.2.2.2]
set_option maxHeartbeats 1000000 in
set_option maxRecDepth 100000 in
theorem page_any (h : Hd) (w : World) (h1 : h.1 < 4294967296) (h2 : h.2.1 < 4294967296) (h3 : h.2.2.1 < 4294967296) (h4 : h.2.2.2 < 4294967296) : Calls Try.prog 74 #[.agg #[.int .i64 h.1, .int .i64 h.2.1, .int .i64 h.2.2.1, .int .i64 h.2.2.2]] w (Ret (strV (headPg h)) w) := by
  rw [← pageL_eq]
  obtain ⟨a, b, c, d⟩ := h
  simp only at h1 h2 h3 h4
  obtain ⟨P, hP⟩ : ∃ P, pageL (a, b, c, d) = P := ⟨_, rfl⟩
  rw [hP]
  have HP := hid hP
  clear hP
  have g0 : (w.alloc (.cells #[.int .i64 a, .int .i64 b, .int .i64 c, .int .i64 d] 118)).cell? ⟨w.heap.size, 0, none⟩ = some (.int .i64 a) := cell_new _ _ _ 0 _ rfl
  have g1 : (w.alloc (.cells #[.int .i64 a, .int .i64 b, .int .i64 c, .int .i64 d] 118)).cell? ⟨w.heap.size, 1, none⟩ = some (.int .i64 b) := cell_new _ _ _ 1 _ rfl
  have g2 : (w.alloc (.cells #[.int .i64 a, .int .i64 b, .int .i64 c, .int .i64 d] 118)).cell? ⟨w.heap.size, 2, none⟩ = some (.int .i64 c) := cell_new _ _ _ 2 _ rfl
  have g3 : (w.alloc (.cells #[.int .i64 a, .int .i64 b, .int .i64 c, .int .i64 d] 118)).cell? ⟨w.heap.size, 3, none⟩ = some (.int .i64 d) := cell_new _ _ _ 3 _ rfl
  have hm : ∀ w : World, (Instr.makeSlice 164 (.int .i64 64) (.int .i64 64)).run Try.prog w = .ok (.slice (some ⟨w.heap.size, 0, none⟩) 64 64) (w.alloc (.cells (cellsB (List.replicate 64 0)).toArray 5)) := fun w => run_makeB w 64 (by decide)
  obtain ⟨W, hW⟩ : ∃ W, W = w.alloc (.cells #[.int .i64 a, .int .i64 b, .int .i64 c, .int .i64 d] 118) := ⟨_, rfl⟩
  have hWz : W.heap.size = w.heap.size + 1 := by rw [hW]; simp
  have hBW : Below w.heap.size w W := by rw [hW]; exact balloc (Below.refl _ _) _
  rw [← hW] at g0 g1 g2 g3
  have HW := hid hW
  have HN0 : Hid (Bytes (W.alloc (.cells (cellsB (List.replicate 64 0)).toArray 5)) (w.heap.size + 1) (List.replicate 64 0)) := by have := bytes_new W (List.replicate 64 0); rwa [hWz] at this
  have HZ : Hid (List.replicate 64 (0 : UInt8) = zs 64) := rfl
  clear hW
  go_enter Try.func74, Try.ntmps74
  go_wp2_with fail
  have HWW := HW.out
  rw [← HWW]
  clear HWW
  refine (lay_any (w.heap.size + 1) 0 64 64 (List.replicate 64 0) a _ HN0.out (by simp) (by omega) (by omega) (by omega) h1).mono ?_
  rintro e w1 ⟨rfl, hy1, hg1, hz1⟩
  rw [HZ.out] at hy1
  have HB1 : Hid (Below w.heap.size w w1) := (balloc hBW _).grown hg1 (by simp; omega) (fun k hk => by cases hk; omega)
  have g0 := grown_cell hg1 (by simp) (Lib.cell?_alloc_some (.cells (cellsB (List.replicate 64 0)).toArray 5) g0)
  have g1 := grown_cell hg1 (by simp) (Lib.cell?_alloc_some (.cells (cellsB (List.replicate 64 0)).toArray 5) g1)
  have g2 := grown_cell hg1 (by simp) (Lib.cell?_alloc_some (.cells (cellsB (List.replicate 64 0)).toArray 5) g2)
  have g3 := grown_cell hg1 (by simp) (Lib.cell?_alloc_some (.cells (cellsB (List.replicate 64 0)).toArray 5) g3)
  have hz : w1.heap.size = w.heap.size + 2 := by rw [hz1]; simp; omega
  clear hg1 hz1 HN0 HW hBW hm hWz
  have hl1 : (setL (zs 64) 0 a).length = 64 := by rw [setL_length]; simp [zs]
  have y4 := hy1.cell (i := 4) (by omega)
  have y5 := hy1.cell (i := 5) (by omega)
  have z4 := hy1.frozen 4
  have z5 := hy1.frozen 5
  have HY1 := hid hy1
  have HL1 := hid hl1
  clear hy1 hl1
  go_wp2_with fail
  go_region
  obtain ⟨W2, hW2⟩ : ∃ W2, W2 = ((w1.setCell ⟨w.heap.size + 1, 4, none⟩ (.int .u8 ((b : Int) % 256))).setCell ⟨w.heap.size + 1, 5, none⟩ (.int .u8 ((c : Int) % 256))).drew := ⟨_, rfl⟩
  have hg2 : w1.grownBy W2 (some (w.heap.size + 1)) := by rw [hW2]; exact grown_trans (grown_set (grown_set (grown_refl _ _) _ _) _ _) (below_grow (drew_below' _) _)
  have hy2 : Bytes W2 (w.heap.size + 1) (((setL (zs 64) 0 a).set 4 (UInt8.ofNat b)).set 5 (UInt8.ofNat c)) := by
    rw [hW2, u8_of (b : Int) b rfl, u8_of (c : Int) c rfl]
    exact ((HY1.out.set _).set _).below (drew_below' _) (by have := HY1.out.lt; simp [World.setCell]; omega)
  have hz2 : W2.heap.size = w.heap.size + 2 := by rw [hW2]; simp [World.setCell, World.drew]; exact hz
  rw [← hW2]
  have HB2 : Hid (Below w.heap.size w W2) := HB1.out.grown hg2 (by omega) (fun k hk => by cases hk; omega)
  have g0 := grown_cell hg2 (by simp) g0
  have g1 := grown_cell hg2 (by simp) g1
  have g2 := grown_cell hg2 (by simp) g2
  have g3 := grown_cell hg2 (by simp) g3
  clear hW2 hg2 z4 z5 y4 y5 HB1
  have hl2 : (((setL (zs 64) 0 a).set 4 (UInt8.ofNat b)).set 5 (UInt8.ofNat c)).length = 64 := by simp [HL1.out]
  have hc8 : ∀ wx : World, (Instr.slice 164 (.slice (some ⟨w.heap.size + 1, 0, none⟩) 64 64) (some (.int .i64 8)) none none).run Try.prog wx = .ok (.slice (some ⟨w.heap.size + 1, 8, none⟩) 56 56) wx := fun wx => run_cutB _ 0 64 64 wx .i64 8 (by decide) (by decide) (by decide)
  have hc60 : ∀ wx : World, (Instr.slice 164 (.slice (some ⟨w.heap.size + 1, 0, none⟩) 64 64) (some (.int .i64 60)) none none).run Try.prog wx = .ok (.slice (some ⟨w.heap.size + 1, 60, none⟩) 4 4) wx := fun wx => run_cutB _ 0 64 64 wx .i64 60 (by decide) (by decide) (by decide)
  have HY2 := hid hy2
  have HL2 := hid hl2
  clear hy2 hl2 hz
  go_wp2_with fail
  go_region_with (go_at_call 120; refine (lay_any (w.heap.size + 1) 8 56 56 _ d _ (HY2.out.below (drew_below' _) (by omega)) (by rw [HL2.out]; decide) (by decide) (by decide) (by decide) h4).mono ?_; rintro e w3 ⟨rfl, hy3, hg3, hz3⟩)
  have hl3 : (setL (((setL (zs 64) 0 a).set 4 (UInt8.ofNat b)).set 5 (UInt8.ofNat c)) 8 d).length = 64 := by rw [setL_length]; exact HL2.out
  have hgd : W2.grownBy w3 (some (w.heap.size + 1)) := grown_trans (below_grow (drew_below' _) _) hg3
  have HB3 : Hid (Below w.heap.size w w3) := HB2.out.grown hgd (by omega) (fun k hk => by cases hk; omega)
  have g0 := grown_cell hgd (by simp) g0
  have g1 := grown_cell hgd (by simp) g1
  have g2 := grown_cell hgd (by simp) g2
  have g3 := grown_cell hgd (by simp) g3
  have hz3 : w3.heap.size = w.heap.size + 2 := by rw [hz3]; exact hz2
  have HY3 := hid hy3
  have HL3 := hid hl3
  clear hy3 hl3 hgd hg3 HB2 hz2
  go_wp2_with fail
  go_region_with (go_at_call 120; refine (lay_any (w.heap.size + 1) 60 4 4 _ a _ (HY3.out.below (drew_below' _) (by omega)) (by rw [HL3.out]; decide) (by decide) (by decide) (by decide) h1).mono ?_; rintro e w4 ⟨rfl, hy4, hg4, hz4⟩)
  have hgd : w3.grownBy w4 (some (w.heap.size + 1)) := grown_trans (below_grow (drew_below' _) _) hg4
  have HB4 : Hid (Below w.heap.size w w4) := HB3.out.grown hgd (by omega) (fun k hk => by cases hk; omega)
  have hl4 : (pageL (a, b, c, d)).length = 64 := by rw [pageL_eq]; exact headPg_len _
  have hs : (convert 164 9 (.slice (some ⟨w.heap.size + 1, 0, none⟩) 64 64)).run Try.prog w4 = .ok (strV (pageL (a, b, c, d))) w4 := by
    have := run_strB w4 (w.heap.size + 1) 64 (pageL (a, b, c, d)) hy4
    rwa [hl4] at this
  clear hl4 hy4 hgd hg4 hz4 hz3 g0 g1 g2 g3
  rw [HP.out] at hs
  go_wp2_with fail
  go_ret
  exact ⟨rfl, HB4.out⟩
end Go.Proofs.Ytifcgimpgbeocaa
/- half, first, read$1. -/
set_option linter.unusedVariables false
set_option linter.unusedSimpArgs false
namespace Go.Proofs.Ytifcgimpgbeocaa
open Go.RowKit
attribute [local go_sem] Oper.semAt_some
set_option maxHeartbeats 1000000 in
theorem half_any (o : Option Addr) (n cp : Nat) (vq : Value) (w : World) (h1 : 4 ≤ n) (h2 : n ≤ 4096) : Calls Try.prog 106 #[.agg #[.slice o n cp, vq]] w (Ret (.int .i64 (halfN n)) w) := by
  have g0 : (w.alloc (.cells #[.slice o n cp, vq] 27)).cell? ⟨w.heap.size, 0, none⟩ = some (.slice o n cp) := cell_new _ _ _ 0 _ rfl
  have e1 : IntKind.i64.wrap ((n : Int) - 2) = (n : Int) - 2 := IntWalk.i64_in _ ⟨by omega, by omega⟩
  have e3 : IntKind.i64.wrap (((n : Int) - 2).tdiv 2) = ((halfN n : Nat) : Int) := by unfold halfN; rw [Int.tdiv_eq_ediv_of_nonneg (by omega), IntWalk.i64_in _ ⟨by omega, by omega⟩]; omega
  go_enter Try.func106, Try.ntmps106
  go_wp2_with fail
  go_ret
  exact ⟨rfl, (Below.refl _ _).alloc (Nat.le_refl _) _⟩
set_option maxHeartbeats 1000000 in
theorem first_any (o : Option Addr) (n cp : Nat) (oq : Option Addr) (nq cq : Nat) (lg : Nat) (w : World) (h1 : 4 ≤ n) (h2 : n ≤ 4096) (h3 : lg ≤ 1) : Calls Try.prog 123 #[.agg #[.slice o n cp, .slice oq nq cq], .int .i64 (lg : Int)] w (Ret (.int .i64 (firstPg n lg)) w) := by
  have g0 : (w.alloc (.cells #[.slice o n cp, (.slice oq nq cq)] 27)).cell? ⟨w.heap.size, 0, none⟩ = some (.slice o n cp) := cell_new _ _ _ 0 _ rfl
  have g1 : (w.alloc (.cells #[.slice o n cp, (.slice oq nq cq)] 27)).cell? ⟨w.heap.size, 1, none⟩ = some (.slice oq nq cq) := cell_new _ _ _ 1 _ rfl
  have HH := hid (fun w => half_any o n cp (.slice oq nq cq) w h1 h2)
  have hh : halfN n ≤ 2047 := by unfold halfN; omega
  have e2 : IntKind.i64.wrap ((lg : Int) * (halfN n : Nat)) = ((lg * halfN n : Nat) : Int) := by have : lg = 0 ∨ lg = 1 := by omega
                                                                                                 rcases this with rfl | rfl <;> (rw [IntWalk.i64_in _ ⟨by omega, by omega⟩]; omega)
  have e3 : wrap64 (2 + (lg : Int) * ((halfN n : Nat) : Int)) = ((firstPg n lg : Nat) : Int) := by
    have : lg = 0 ∨ lg = 1 := by omega
    unfold wrap64 firstPg
    rcases this with rfl | rfl <;> omega
  clear hh
  go_enter Try.func123, Try.ntmps123
  go_wp2_with fail
  refine (HH.out _).mono ?_
  rintro e w1 ⟨rfl, hb1⟩
  have HB1 := hid (below_step hb1 ((Below.refl _ _).alloc (Nat.le_refl _) _))
  clear hb1
  go_wp2_with fail
  go_ret
  exact ⟨ret_int e3, HB1.out⟩
set_option maxHeartbeats 1000000 in
set_option maxRecDepth 100000 in
theorem readnum_q (s : Bs) (i X : Nat) (w : World) (hX : w.cell? ⟨X, 0, none⟩ = some (strV s)) (hs : s.length = 64) (hi : i ≤ 60) : Calls Try.prog 121 #[.int .i64 (i : Int), .pointer (some ⟨X, 0, none⟩)] w (fun e w' => e = .returned (.int .i64 (num4 s i : Nat)) ∧ ∃ m, w' = w.drewN m) := by
  have x0 := fun w => strv_at s i .i64 (by omega) w
  have x1 : ∀ w : World, (Instr.index 9 (strV s) (.int .i64 ((i : Int) + 1))).run Try.prog w = .ok (.int .u8 (byt s (i + 1))) w := fun w => strv_at s (i + 1) .i64 (by omega) w
  have x2 : ∀ w : World, (Instr.index 9 (strV s) (.int .i64 ((i : Int) + 2))).run Try.prog w = .ok (.int .u8 (byt s (i + 2))) w := fun w => strv_at s (i + 2) .i64 (by omega) w
  have x3 : ∀ w : World, (Instr.index 9 (strV s) (.int .i64 ((i : Int) + 3))).run Try.prog w = .ok (.int .u8 (byt s (i + 3))) w := fun w => strv_at s (i + 3) .i64 (by omega) w
  have HN : Hid (((num4 s i : Nat) : Int) = byt s i * 16777216 + byt s (i + 1) * 65536 + byt s (i + 2) * 256 + byt s (i + 3)) := by
    unfold Hid num4 byteAt byt; omega
  have b0 := byt_bd s i
  have b1 := byt_bd s (i + 1)
  have b2 := byt_bd s (i + 2)
  have b3 := byt_bd s (i + 3)
  have y1 : IntKind.i64.wrap ((i : Int) + 1) = (i : Int) + 1 := IntWalk.i64_in _ ⟨by omega, by omega⟩
  have y2 : IntKind.i64.wrap ((i : Int) + 2) = (i : Int) + 2 := IntWalk.i64_in _ ⟨by omega, by omega⟩
  have y3 : IntKind.i64.wrap ((i : Int) + 3) = (i : Int) + 3 := IntWalk.i64_in _ ⟨by omega, by omega⟩
  generalize byt s i = c0 at *
  generalize byt s (i + 1) = c1 at *
  generalize byt s (i + 2) = c2 at *
  generalize byt s (i + 3) = c3 at *
  rw [HN.out]
  clear HN hs
  have HNB := hid (num_of_bits c0 c1 c2 c3 b0 b1 b2 b3)
  have u0 : IntKind.i64.wrap c0 = c0 := IntWalk.i64_in _ ⟨by omega, by omega⟩
  have u1 : IntKind.i64.wrap c1 = c1 := IntWalk.i64_in _ ⟨by omega, by omega⟩
  have u2 : IntKind.i64.wrap c2 = c2 := IntWalk.i64_in _ ⟨by omega, by omega⟩
  have u3 : IntKind.i64.wrap c3 = c3 := IntWalk.i64_in _ ⟨by omega, by omega⟩
  have v0 : IntKind.i64.wrap (c0 * 16777216) = c0 * 16777216 := IntWalk.i64_in _ ⟨by omega, by omega⟩
  have v1 : IntKind.i64.wrap (c1 * 65536) = c1 * 65536 := IntWalk.i64_in _ ⟨by omega, by omega⟩
  have v2 : IntKind.i64.wrap (c2 * 256) = c2 * 256 := IntWalk.i64_in _ ⟨by omega, by omega⟩
  clear b0 b1 b2 b3 hi
  go_enter Try.func121, Try.ntmps121
  go_wp2_with fail
  refine (fun hm hB S hS h => wp_region_freeL S hm hB hS h) (by kernel_rfl) (by kernel_rfl) (fun L w' => (∃ m, w' = w.drewN m) ∧ w'.cell? ⟨X, 0, none⟩ = some (strV s)) ⟨⟨1, rfl⟩, hX⟩ ?_
  refine wpFreeL_val rfl (fun _ _ _ h => h) (fun K hK => ?_); apply Exists.intro; refine ⟨fun L w' hS => ?_, ?_⟩; (have hb := hS.1; have g0 := hS.2; clear hS; go_simp; rfl); (go_simp; refine hK _ ?_; clear hK K)
  refine wpFreeL_val rfl (fun _ _ _ h => h) (fun K hK => ?_); apply Exists.intro; refine ⟨fun L w' hS => ?_, ?_⟩; (have hb := hS.1; have g0 := hS.2; clear hS; go_simp; rfl); (go_simp; refine hK _ ?_; clear hK K)
  refine wpFreeL_val rfl (fun _ _ _ h => h) (fun K hK => ?_); apply Exists.intro; refine ⟨fun L w' hS => ?_, ?_⟩; (have hb := hS.1; have g0 := hS.2; clear hS; go_simp; rfl); (go_simp; refine hK _ ?_; clear hK K)
  refine wpFreeL_val rfl (fun _ _ _ h => h) (fun K hK => ?_); apply Exists.intro; refine ⟨fun L w' hS => ?_, ?_⟩; (have hb := hS.1; have g0 := hS.2; clear hS; go_simp; rfl); (go_simp; refine hK _ ?_; clear hK K)
  refine wpFreeL_val rfl (fun _ _ _ h => h) (fun K hK => ?_); apply Exists.intro; refine ⟨fun L w' hS => ?_, ?_⟩; (have hb := hS.1; have g0 := hS.2; clear hS; go_simp; rfl); (go_simp; refine hK _ ?_; clear hK K)
  refine wpFreeL_val rfl (fun _ _ _ h => h) (fun K hK => ?_); apply Exists.intro; refine ⟨fun L w' hS => ?_, ?_⟩; (have hb := hS.1; have g0 := hS.2; clear hS; go_simp; rfl); (go_simp; refine hK _ ?_; clear hK K)
  refine wpFreeL_val rfl (fun _ _ _ h => h) (fun K hK => ?_); apply Exists.intro; refine ⟨fun L w' hS => ?_, ?_⟩; (have hb := hS.1; have g0 := hS.2; clear hS; go_simp; rfl); (go_simp; refine hK _ ?_; clear hK K)
  refine wpFreeL_val rfl (fun _ _ _ h => h) (fun K hK => ?_); apply Exists.intro; refine ⟨fun L w' hS => ?_, ?_⟩; (have hb := hS.1; have g0 := hS.2; clear hS; go_simp; rfl); (go_simp; refine hK _ ?_; clear hK K)
  refine wpFreeL_val rfl (fun _ _ _ h => h) (fun K hK => ?_); apply Exists.intro; refine ⟨fun L w' hS => ?_, ?_⟩; (have hb := hS.1; have g0 := hS.2; clear hS; go_simp; rfl); (go_simp; refine hK _ ?_; clear hK K)
  refine wpFreeL_val rfl (fun _ _ _ h => h) (fun K hK => ?_); apply Exists.intro; refine ⟨fun L w' hS => ?_, ?_⟩; (have hb := hS.1; have g0 := hS.2; clear hS; go_simp; rfl); (go_simp; refine hK _ ?_; clear hK K)
  refine wpFreeL_val rfl (fun _ _ _ h => h) (fun K hK => ?_); apply Exists.intro; refine ⟨fun L w' hS => ?_, ?_⟩; (have hb := hS.1; have g0 := hS.2; clear hS; go_simp; rfl); (go_simp; refine hK _ ?_; clear hK K)
  refine wpFreeL_val rfl (fun _ _ _ h => h) (fun K hK => ?_); apply Exists.intro; refine ⟨fun L w' hS => ?_, ?_⟩; (have hb := hS.1; have g0 := hS.2; clear hS; go_simp; rfl); (go_simp; refine hK _ ?_; clear hK K)
  refine wpFreeL_val rfl (fun _ _ _ h => h) (fun K hK => ?_); apply Exists.intro; refine ⟨fun L w' hS => ?_, ?_⟩; (have hb := hS.1; have g0 := hS.2; clear hS; go_simp; rfl); (go_simp; refine hK _ ?_; clear hK K)
  refine wpFreeL_val rfl (fun _ _ _ h => h) (fun K hK => ?_); apply Exists.intro; refine ⟨fun L w' hS => ?_, ?_⟩; (have hb := hS.1; have g0 := hS.2; clear hS; go_simp; rfl); (go_simp; refine hK _ ?_; clear hK K)
  refine wpFreeL_val rfl (fun _ _ _ h => h) (fun K hK => ?_); apply Exists.intro; refine ⟨fun L w' hS => ?_, ?_⟩; (have hb := hS.1; have g0 := hS.2; clear hS; go_simp; rfl); (go_simp; refine hK _ ?_; clear hK K)
  refine wpFreeL_val rfl (fun _ _ _ h => h) (fun K hK => ?_); apply Exists.intro; refine ⟨fun L w' hS => ?_, ?_⟩; (have hb := hS.1; have g0 := hS.2; clear hS; go_simp; rfl); (go_simp; refine hK _ ?_; clear hK K)
  refine wpFreeL_val rfl (fun _ _ _ h => h) (fun K hK => ?_); apply Exists.intro; refine ⟨fun L w' hS => ?_, ?_⟩; (have hb := hS.1; have g0 := hS.2; clear hS; go_simp; rfl); (go_simp; refine hK _ ?_; clear hK K)
  refine wpFreeL_val rfl (fun _ _ _ h => h) (fun K hK => ?_); apply Exists.intro; refine ⟨fun L w' hS => ?_, ?_⟩; (have hb := hS.1; have g0 := hS.2; clear hS; go_simp; rfl); (go_simp; refine hK _ ?_; clear hK K)
  refine wpFreeL_val rfl (fun _ _ _ h => h) (fun K hK => ?_); apply Exists.intro; refine ⟨fun L w' hS => ?_, ?_⟩; (have hb := hS.1; have g0 := hS.2; clear hS; go_simp; rfl); (go_simp; refine hK _ ?_; clear hK K)
  refine wpFreeL_val rfl (fun _ _ _ h => h) (fun K hK => ?_); apply Exists.intro; refine ⟨fun L w' hS => ?_, ?_⟩; (have hb := hS.1; have g0 := hS.2; clear hS; go_simp; rfl); (go_simp; refine hK _ ?_; clear hK K)
  refine wpFreeL_val rfl (fun _ _ _ h => h) (fun K hK => ?_); apply Exists.intro; refine ⟨fun L w' hS => ?_, ?_⟩; (have hb := hS.1; have g0 := hS.2; clear hS; go_simp; rfl); (go_simp; refine hK _ ?_; clear hK K)
  refine wpFreeL_val rfl (fun _ _ _ h => h) (fun K hK => ?_); apply Exists.intro; refine ⟨fun L w' hS => ?_, ?_⟩; (have hb := hS.1; have g0 := hS.2; clear hS; go_simp; rfl); (go_simp; refine hK _ ?_; clear hK K)
  refine wpFreeL_val rfl (fun _ _ _ h => h) (fun K hK => ?_); apply Exists.intro; refine ⟨fun L w' hS => ?_, ?_⟩; (have hb := hS.1; have g0 := hS.2; clear hS; go_simp; rfl); (go_simp; refine hK _ ?_; clear hK K)
  refine wpFreeL_val rfl (fun _ _ _ h => h) (fun K hK => ?_); apply Exists.intro; refine ⟨fun L w' hS => ?_, ?_⟩; (have hb := hS.1; have g0 := hS.2; clear hS; go_simp; rfl); (go_simp; refine hK _ ?_; clear hK K)
  refine wpFreeL_val rfl (fun _ _ _ h => h) (fun K hK => ?_); apply Exists.intro; refine ⟨fun L w' hS => ?_, ?_⟩; (have hb := hS.1; have g0 := hS.2; clear hS; go_simp; rfl); (go_simp; refine hK _ ?_; clear hK K)
  refine wpFreeL_val rfl (fun _ _ _ h => h) (fun K hK => ?_); apply Exists.intro; refine ⟨fun L w' hS => ?_, ?_⟩; (have hb := hS.1; have g0 := hS.2; clear hS; go_simp; rfl); (go_simp; refine hK _ ?_; clear hK K)
  refine wpFreeL_nil (fun L w' hL hS => ?_)
  have hb := hS.1; have g0 := hS.2
  clear hL hS

  go_wp2_with fail
  go_ret
  exact ⟨ret_int HNB.out, hb⟩
theorem readnum_any (s : Bs) (i X : Nat) (w : World) (hX : w.cell? ⟨X, 0, none⟩ = some (strV s)) (hs : s.length = 64) (hi : i ≤ 60) : Calls Try.prog 121 #[.int .i64 (i : Int), .pointer (some ⟨X, 0, none⟩)] w (Ret (.int .i64 (num4 s i)) w) :=
  (readnum_q s i X w hX hs hi).mono fun e w' h => ⟨h.1, by obtain ⟨m, rfl⟩ := h.2; exact below_drewN (Below.refl _ _) _⟩
end Go.Proofs.Ytifcgimpgbeocaa
