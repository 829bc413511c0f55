/- Rows of bytes of one's own. -/
import Derived.Test.YtifcgimpgbeocaaGreatK6
import Derived.Test.YtifcgimpgbeocaaGreatK9
set_option linter.unusedVariables false
set_option linter.unusedSimpArgs false
namespace Go.Proofs.YtifcgimpgbeocaaGreat
open Go.RowKit
/-! ### Kind B -/
theorem underBy : Tryz.prog.underlying 131 = some (.slice 5) := underB
theorem infoBy : (Tryz.prog.info? 5).map (fun i => (i.zero, i.size, i.bytes)) = some (some (.int .u8 0), 1, 1) := by kernel_rfl
def encBy (l : Bs) : List Value := l.flatMap (fun x => [.int .u8 (x.toNat : Int)])
theorem encBy_nil : encBy [] = [] := rfl
theorem encBy_cons (x : UInt8) (l : Bs) : encBy (x :: l) = [.int .u8 (x.toNat : Int)] ++ encBy l := rfl
theorem encBy_length (l : Bs) : (encBy l).length = l.length * 1 := by
  induction l with
  | nil => rfl
  | cons x r ih => rw [encBy_cons, List.length_append, ih]; simp only [List.length_cons, List.length_nil]; omega
theorem encBy_append (a b : Bs) : encBy (a ++ b) = encBy a ++ encBy b := by unfold encBy; exact List.flatMap_append
theorem encBy_at : ∀ (l : Bs) (i : Nat) (x : UInt8), l[i]? = some x → (encBy l)[i]? = some (.int .u8 (x.toNat : Int))
  | [], i, x, h => by simp at h
  | q :: r, 0, x, h => by
    simp only [List.getElem?_cons_zero, Option.some.injEq] at h
    subst h
    exact rfl
  | q :: r, i + 1, x, h => by
    have ih := encBy_at r i x (by simpa using h)
    rw [encBy_cons]
    simpa using ih
def OB (w : World) (B : Nat) (v : Value) (l : Bs) : Prop := w.ownsRow B 5 1 v l.length (encBy l)
theorem OB.cells {w : World} {B : Nat} {v : Value} {l : Bs} (h : OB w B v l) (hne : 0 < l.length) :
    ∃ g cap, v = .slice (some ⟨g, 0, none⟩) l.length cap ∧ B ≤ g ∧ g < w.heap.size ∧ l.length ≤ cap ∧ (∀ j, w.frozen? ⟨g, j, none⟩ = false) ∧ ∀ j u, (encBy l)[j]? = some u → w.cell? ⟨g, j, none⟩ = some u := by
  have h0 := h
  unfold OB at h0
  obtain ⟨hl, ⟨rfl, hn⟩ | ⟨g, cap, cur, rfl, hb, hg, hnc, hcm, hcs, ht⟩⟩ := h
  · omega
  · refine ⟨g, cap, rfl, hb, (Array.getElem?_eq_some_iff.1 hg).1, hnc, fun j => World.ownsRow.frozenAt h0 j, fun j u hj => ?_⟩
    have hlt := (List.getElem?_eq_some_iff.1 hj).1
    rw [encBy_length] at hlt
    rw [← ht, List.getElem?_take_of_lt hlt] at hj
    unfold World.cell?
    simp only [hg]
    simpa using hj
theorem OB.below {w w' : World} {B : Nat} {v : Value} {l : Bs} (h : OB w B v l) (hb : Below w.heap.size w w') : OB w' B v l :=
  World.ownsRow.kept (row := none) h (below_grow hb none) (by cases v.ownBlock <;> simp)
theorem OB.mono {w : World} {B B' : Nat} {v : Value} {l : Bs} (h : OB w B v l) (hB : B' ≤ B) : OB w B' v l := by
  obtain ⟨hl, h | ⟨g, cap, cur, hv, hb, h⟩⟩ := h
  · exact ⟨hl, .inl h⟩
  · exact ⟨hl, .inr ⟨g, cap, cur, hv, Nat.le_trans hB hb, h⟩⟩
theorem OB.own {w : World} {B : Nat} {v : Value} {l : Bs} (h : OB w B v l) : ∀ k, v.ownBlock = some k → B ≤ k := fun k hk => (World.ownsRow.lt h k hk).1
theorem OB.grown {w0 w w' : World} {B : Nat} {v : Value} {l : Bs} (h : OB w B v l) (hb : Below B w0 w) (hg : w.grownBy w' v.ownBlock) (hB : B ≤ w.heap.size) : Below B w0 w' := hb.grown hg hB h.own
theorem oB_new (w : World) (B : Nat) (hB : B ≤ w.heap.size) : OB (w.alloc (.cells #[] 5)) B (.slice (some ⟨w.heap.size, 0, none⟩) 0 0) [] := World.ownsRow_lit w #[] 0 hB (by decide) rfl
theorem appB {ops : Array Oper} {rest : List Oper} {o : Oper} {a : Act} {Q : Exit → Act → World → Prop} {w : World} (hgd : o.guard = none) (s x : Operand)
    (ho : o.op = .call { callee := .builtin .append, args := #[s, x], argTypes := #[131, 131] }) (B : Nat) (v : Value) (l : Bs) (y : UInt8) (g c : Nat)
    (hs : a.eval s = v) (hx : a.eval x = .slice (some ⟨g, 0, none⟩) 1 c) (hP : OB w B v l) (hc : ∀ j u, (encBy [y])[j]? = some u → w.cell? ⟨g, j, none⟩ = some u) (hn : l.length ≤ 1000000000) (hb : B ≤ w.heap.size)
    (h : ∀ v' w', OB w' B v' (l ++ [y]) → w.grownBy w' v.ownBlock → wpList Tryz.prog ops Q rest (a.put o.dst v') w') : wpList Tryz.prog ops Q (o :: rest) a w := by
  obtain ⟨i0, hi, hz0, hz1, hz2⟩ := info_parts infoBy
  refine wpList_append_own _ hgd s x 131 ho B 5 i0 (.int .u8 0) 1 1 underBy hi hz0 hz1 hz2 rfl (by decide) v l.length (encBy l) hs hP ⟨g, 0, none⟩ 1 c (encBy [y]) hx rfl ?_ ?_ (by unfold maxLen; omega) (by omega) hb ?_
  · intro j u hj
    rw [addr_add, Nat.zero_add]
    exact hc j u hj
  · intro u hu
    obtain ⟨z, hz, hu⟩ := List.mem_flatMap.1 hu
    simp only [List.mem_cons, List.not_mem_nil, or_false] at hu
    subst hu; rfl
  · intro v' w' hown hg _
    refine h v' w' ?_ hg
    unfold OB
    rw [encBy_append, List.length_append]
    exact hown
theorem OB.slice {w : World} {B : Nat} {v : Value} {l : Bs} (h : OB w B v l) (hne : 0 < l.length) : ∃ g cap, v = .slice (some ⟨g, 0, none⟩) l.length cap := by
  obtain ⟨g, cap, e, -⟩ := h.cells hne
  exact ⟨g, cap, e⟩
/-- The string of one's own bytes. -/
theorem run_strOB {w : World} {B g cap : Nat} {l : Bs} (h : OB w B (.slice (some ⟨g, 0, none⟩) l.length cap) l) : (convert 131 9 (.slice (some ⟨g, 0, none⟩) l.length cap)).run Tryz.prog w = .ok (.string ⟨l.toArray⟩) w := by
  refine run_str_of w g 0 l.length cap l rfl fun i hi => ?_
  obtain ⟨g', cap', e, -, -, -, -, hc⟩ := h.cells (by omega)
  simp only [Value.slice.injEq, Option.some.injEq, Addr.mk.injEq, and_true, true_and] at e
  obtain ⟨rfl, rfl⟩ := e
  have h1 := hc i _ (encBy_at l i l[i] (List.getElem?_eq_getElem hi))
  rw [Nat.zero_add, h1]
  simp [byt, List.getElem?_eq_getElem hi]
end Go.Proofs.YtifcgimpgbeocaaGreat
/- The reference's bytes of operations. -/
set_option linter.unusedVariables false
set_option linter.unusedSimpArgs false
namespace Go.Proofs.YtifcgimpgbeocaaGreat
open Go.RowKit
attribute [local go_sem] Oper.semAt_some
set_option maxHeartbeats 1000000 in
set_option maxRecDepth 100000 in
theorem rone_any (o : FOp) (w : World) (h1 : o.2.2.1.length ≤ 1000000000) (h2 : o.2.2.2.length ≤ 1000000000) : Calls Tryz.prog 97 #[opV o] w (Ret (strV (enc1 o)) w) := by
  obtain ⟨k, f, a, s⟩ := o
  simp only at h1 h2
  have g0 : (w.alloc (.cells #[.int .i64 k, .int .i64 f, strV a, strV s] 55)).cell? ⟨w.heap.size, 0, none⟩ = some (.int .i64 k) := cell_new _ _ _ 0 _ rfl
  have g1 : (w.alloc (.cells #[.int .i64 k, .int .i64 f, strV a, strV s] 55)).cell? ⟨w.heap.size, 1, none⟩ = some (.int .i64 f) := cell_new _ _ _ 1 _ rfl
  have g2 : (w.alloc (.cells #[.int .i64 k, .int .i64 f, strV a, strV s] 55)).cell? ⟨w.heap.size, 2, none⟩ = some (strV a) := cell_new _ _ _ 2 _ rfl
  have g3 : (w.alloc (.cells #[.int .i64 k, .int .i64 f, strV a, strV s] 55)).cell? ⟨w.heap.size, 3, none⟩ = some (strV s) := cell_new _ _ _ 3 _ rfl
  have t3 := three_str (w.alloc (.cells #[.int .i64 k, .int .i64 f, strV a, strV s] 55)) (w.heap.size + 1) (by simp) k f a.length
  have q1 : [b8 k, b8 f, b8 (a.length : Int)].length + a.length ≤ 9223372036854775807 := by simp; omega
  by_cases h5 : k = 5
  · have HE : Hid (enc1 (k, f, a, s) = [b8 k, b8 f, b8 (a.length : Int)] ++ a) := by unfold enc1 Hid; simp [h5]
    have hk : (k != 5) = false := by simp [h5]
    clear h5
    go_enter Tryz.func97, Tryz.ntmps97
    go_wp2_with fail
    go_ret
    exact ⟨by rw [HE.out]; simp, balloc (balloc (Below.refl _ _) _) _⟩
  · have HE : Hid (enc1 (k, f, a, s) = ([b8 k, b8 f, b8 (a.length : Int)] ++ a) ++ ([b8 (s.length : Int)] ++ s)) := by unfold enc1 Hid; simp [h5]
    have t1 := one_str ((w.alloc (.cells #[.int .i64 k, .int .i64 f, strV a, strV s] 55)).alloc (.cells #[.int .u8 (k % 256), .int .u8 (f % 256), .int .u8 ((a.length : Int) % 256)] 5)) (w.heap.size + 1 + 1) (by simp) s.length
    go_enter Tryz.func97, Tryz.ntmps97
    go_wp2_with fail
    go_ret
    exact ⟨by rw [HE.out]; simp, balloc (balloc (balloc (Below.refl _ _) _) _) _⟩
theorem take_byte {s : Bs} {j : Nat} (h : j < s.length) : s.take (j + 1) = s.take j ++ [s[j]?.getD 0] := by
  rw [List.take_succ_eq_append_getElem h, List.getElem?_eq_getElem h]
  rfl
theorem one_byte (w : World) (c : UInt8) : ∀ j u, (encBy [c])[j]? = some u → (w.alloc (.cells #[.int .u8 (c.toNat : Int)] 5)).cell? ⟨w.heap.size, j, none⟩ = some u := fun j u hj => by
  match j, hj with
  | 0, hj => simp only [encBy_cons, List.cons_append, List.getElem?_cons_zero, Option.some.injEq] at hj; rw [← hj]; exact cell_new _ _ _ 0 _ rfl
  | j + 1, hj => simp [encBy_cons, encBy_nil] at hj
set_option maxHeartbeats 1000000 in
set_option maxRecDepth 100000 in
theorem rbytes_any (l : List FOp) (v : Value) (w : World) (hR : RdO w v l) (hl : l.length ≤ 1000000) (ho : ∀ o ∈ l, o.2.2.1.length ≤ 255 ∧ o.2.2.2.length ≤ 255) : Calls Tryz.prog 55 #[v] w (Ret (strV (encL l)) w) := by
  obtain ⟨op, cap, rfl, hcap, hc⟩ := hR
  have HC := hid hc
  have HO := hid ho
  have HBD : Hid (∀ k, (encL (l.take k)).length ≤ 514000000) := fun k => by
    have h1 := encL_bd (l.take k) (fun o h => ho o (List.mem_of_mem_take h))
    have h2 := List.length_take_le k l
    have h3 : (l.take k).length ≤ l.length := by rw [List.length_take]; omega
    omega
  obtain ⟨M, hM⟩ : ∃ M, l.length = M := ⟨_, rfl⟩
  have HM := hid hM
  rw [hM] at hl hcap ⊢
  obtain ⟨B, hB⟩ : ∃ B, w.heap.size = B := ⟨_, rfl⟩
  have HBB := hid hB
  have HO0 : Hid (∃ g cap, (Value.slice (some ⟨B, 0, none⟩) 0 0) = .slice (some ⟨g, 0, none⟩) (encL (l.take 0)).length cap ∧ OB (w.alloc (.cells #[] 5)) B (.slice (some ⟨B, 0, none⟩) 0 0) (encL (l.take 0))) := by
    refine ⟨B, 0, rfl, ?_⟩
    have := oB_new w B (by omega)
    rw [hB] at this
    exact this
  have HB0 : Hid (Below B w (w.alloc (.cells #[] 5))) := by rw [← hB]; exact balloc (Below.refl _ _) _
  clear hc ho hM hB
  go_enter Tryz.func55, Tryz.ntmps55
  go_wp2_with fail
  rw [HBB.out]
  go_loopw [3, 4] (fun u i wr => ∃ k : Nat, i = .int .i64 k ∧ k ≤ M ∧ Hid (∃ g cap, u = .slice (some ⟨g, 0, none⟩) (encL (l.take k)).length cap ∧ OB wr B u (encL (l.take k))) ∧ Hid (Below B w wr) ∧ B ≤ wr.heap.size) (fun _ i _ => M - (intOf i).toNat)
  case atStart => exact ⟨0, rfl, Nat.zero_le _, HO0, HB0, by have := HBB.out; simp; omega⟩
  case round =>
    obtain ⟨k, rfl, hk, HOB, HB, hz⟩ := hrel
    by_cases hlt : k < M
    · obtain ⟨x, hx⟩ : ∃ x, l[k]? = some x := ⟨_, List.getElem?_eq_getElem (by have := HM.out; omega)⟩
      have hHC := HC.out
      rcases hHC with hq | ⟨b, off, rfl, hbq, hq⟩
      · rw [hq] at hx; simp at hx
      obtain ⟨c0, c1, c2, c3⟩ := hq k x hx
      rw [HBB.out] at hbq
      have c0 := keepB HB.out (a := ⟨b, off + k * 4, none⟩) hbq c0
      have c1 := keepB HB.out (a := ⟨b, off + k * 4 + 1, none⟩) hbq c1
      have c2 := keepB HB.out (a := ⟨b, off + k * 4 + 2, none⟩) hbq c2
      have c3 := keepB HB.out (a := ⟨b, off + k * 4 + 3, none⟩) hbq c3
      have hxl := HO.out x (List.mem_of_getElem? hx)
      have HST : Hid (encL (l.take (k + 1)) = encL (l.take k) ++ enc1 x) := by
        unfold Hid
        rw [List.take_add_one, hx, encL_append]; simp [encL]
      have HY := hid (fun w => rone_any x w (by omega) (by omega))
      have HXL := hid (enc1_bd hxl)
      have HBK := hid (HBD.out k)
      obtain ⟨x0, x1, x2, x3⟩ := x
      obtain ⟨E, hE⟩ : ∃ E, encL (l.take k) = E := ⟨_, rfl⟩
      obtain ⟨s, hs⟩ : ∃ s, enc1 (x0, x1, x2, x3) = s := ⟨_, rfl⟩
      rw [hE] at HOB HST HBK
      rw [hs] at HST HY HXL
      obtain ⟨g, cg, rfl, hob⟩ := HOB.out
      have HOE := hid hob
      clear hq hx hE hs hob HOB hxl
      go_wp2_with fail
      refine (HY.out _).mono ?_
      rintro e w1 ⟨rfl, hb1⟩
      have HB1 := hid (HB.out.trans (hb1.mono hz))
      have HOB1 : Hid (∃ g' cap, (Value.slice (some ⟨g, 0, none⟩) E.length cg) = .slice (some ⟨g', 0, none⟩) (E ++ s.take 0).length cap ∧ OB w1 B (.slice (some ⟨g, 0, none⟩) E.length cg) (E ++ s.take 0)) := by
        rw [List.take_zero, List.append_nil]
        exact ⟨g, cg, rfl, HOE.out.below hb1⟩
      have hz1 : B ≤ w1.heap.size := Nat.le_trans hz hb1.size
      clear hb1 HOE
      go_wp2_with fail
      go_loopw [3, 6] (fun u i wr => ∃ j : Nat, i = .int .i64 j ∧ j ≤ s.length ∧ Hid (∃ g cap, u = .slice (some ⟨g, 0, none⟩) (E ++ s.take j).length cap ∧ OB wr B u (E ++ s.take j)) ∧ Hid (Below B w wr) ∧ B ≤ wr.heap.size) (fun _ i _ => s.length - (intOf i).toNat)
      case atStart => exact ⟨0, rfl, Nat.zero_le _, HOB1, HB1, hz1⟩
      case round =>
        obtain ⟨j, rfl, hj, HOB2, HB2, hz2⟩ := hrel
        by_cases hlt2 : j < s.length
        · have hlt64 : (j : Int) < (s.length : Int) := by omega
          have hxl2 := HXL.out
          have hix := fun w => strv_at s j .i64 hlt2 w
          have HTB := hid (take_byte hlt2)
          have hby : byt s j = (((s[j]?.getD 0).toNat : Nat) : Int) := rfl
          have HONE := hid (one_byte wr (s[j]?.getD 0))
          obtain ⟨c, hc⟩ : ∃ c, s[j]?.getD 0 = c := ⟨_, rfl⟩
          rw [hc] at hby HTB HONE
          simp only [hby] at hix
          obtain ⟨g2, cg2, rfl, hob2⟩ := HOB2.out
          have HO3 := hid (hob2.below (balloc (Below.refl _ _) (.cells #[.int .u8 (c.toNat : Int)] 5)))
          have HB3 := hid (HB2.out.alloc hz2 (.cells #[.int .u8 (c.toNat : Int)] 5))
          have HZ3 : Hid (B ≤ (wr.alloc (.cells #[.int .u8 (c.toNat : Int)] 5)).heap.size) := by unfold Hid; simp; omega
          have HLN : Hid ((E ++ s.take j).length ≤ 1000000000) := by have := HBK.out; unfold Hid; rw [List.length_append, List.length_take]; omega
          obtain ⟨ES, hES⟩ : ∃ ES, E ++ s.take j = ES := ⟨_, rfl⟩
          have HES : Hid (E ++ s.take (j + 1) = ES ++ [c]) := by rw [HTB.out, ← hES]; unfold Hid; rw [List.append_assoc]
          rw [hES] at HO3 HLN ⊢
          clear hob2 HOB2 hc hby hES HTB
          go_wp2_with (at_builtin; refine appB rfl _ _ rfl B _ ES c _ _ rfl rfl HO3.out HONE.out HLN.out HZ3.out ?_)
          intro v7 w7 hop7 hg7
          have HB7 := hid (HO3.out.grown HB3.out hg7 HZ3.out)
          have hz7 : B ≤ w7.heap.size := by have := hg7.size; simp at this; omega
          have HO7 : Hid (∃ g cap, v7 = .slice (some ⟨g, 0, none⟩) (E ++ s.take (j + 1)).length cap ∧ OB w7 B v7 (E ++ s.take (j + 1))) := by
            rw [HES.out]
            obtain ⟨g9, c9, e9⟩ := hop7.slice (by simp)
            exact ⟨g9, c9, e9, hop7⟩
          clear hop7 hg7
          go_wp2_with fail
          go_roundw
          case rel => exact ⟨j + 1, by go_num, by omega, HO7, HB7, hz7⟩
          case measure => simp [intOf]; omega
        · have hj2 : j = s.length := by omega
          have HO4 : Hid (∃ g cap, u3 = .slice (some ⟨g, 0, none⟩) (encL (l.take (k + 1))).length cap ∧ OB wr B u3 (encL (l.take (k + 1)))) := by
            have h1 := HOB2.out
            rw [hj2, List.take_length] at h1
            rw [HST.out]
            exact h1
          clear HOB2
          go_wp2_with fail
          go_roundw
          case rel => exact ⟨k + 1, by go_num, by omega, HO4, HB2, hz2⟩
          case measure => simp [intOf]; omega
    · have hk2 : k = M := by omega
      have h1 := HOB.out
      rw [hk2, List.take_of_length_le (by have := HM.out; omega)] at h1
      obtain ⟨g, cg, rfl, hob⟩ := h1
      have hst := run_strOB hob
      have HB9 : Hid (Below w.heap.size w wr) := by rw [HBB.out]; exact HB.out
      clear hob HOB
      go_wp2_with fail
      go_ret
      exact ⟨rfl, HB9.out⟩
end Go.Proofs.YtifcgimpgbeocaaGreat
