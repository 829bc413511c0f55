/- Decode. -/
import Derived.Test.YtifcgimpgbeocaaGreatK18
import Derived.Test.YtifcgimpgbeocaaGreatK6
set_option linter.unusedVariables false
set_option linter.unusedSimpArgs false
namespace Go.Proofs.YtifcgimpgbeocaaGreat
open Go.RowKit
attribute [local go_sem] Oper.semAt_some
/-- A call that returns operations and an error. -/
def RetO (l : List FOp) (n : Int) (w : World) (e : Ending) (w' : World) : Prop := ∃ v, e = .returned (.tuple #[v, .int .i64 n]) ∧ OO w' w.heap.size v l ∧ Below w.heap.size w w'
/-- What stands between two rounds: the operations so far in the result's cell. -/
structure DcI (w : World) (l : List FOp) (v : Value) (w' : World) : Prop where
  b : Below w.heap.size w w'
  x : w'.cell? ⟨w.heap.size, 0, none⟩ = some v
  fx : w'.frozen? ⟨w.heap.size, 0, none⟩ = false
  y : OwnC w' ⟨w.heap.size + 1, 0, none⟩
  o : OO w' (w.heap.size + 2) v l
theorem DcI.below {w w' w1 : World} {l : List FOp} {v : Value} (h : DcI w l v w') (k : Below w'.heap.size w' w1) : DcI w l v w1 :=
  ⟨below_step k h.b, keepc k h.x, keepf k h.x h.fx, keepOwn k h.y, h.o.below k⟩
theorem DcI.lt {w w' : World} {l : List FOp} {v : Value} (h : DcI w l v w') : w.heap.size + 1 < w'.heap.size := by obtain ⟨⟨u, hu⟩, -⟩ := h.y; exact World.block_lt_of_cell? _ _ hu
theorem DcI.set {w w' : World} {l : List FOp} {v : Value} (h : DcI w l v w') (Z : Nat) (hZ : w.heap.size + 1 < Z) (hv : v.ownBlock ≠ some Z) (i : Nat) (u : Value) : DcI w l v (w'.setCell ⟨Z, i, none⟩ u) :=
  ⟨h.b.setCell (by simp only; omega) _, by rw [World.cell?_setCell_other _ _ _ _ (by first | (simp; done) | (simp; omega))]; exact h.x, by rw [World.frozen?_setCell]; exact h.fx, h.y.set _ _, ownsRow_setCell_other h.o hv _⟩
theorem DcI.app {w W W' : World} {l : List FOp} {u v' : Value} {o : FOp} (h : DcI w l u W) (hg : W.grownBy W' u.ownBlock) (ho : OO W' (w.heap.size + 2) v' (l ++ [o])) : DcI w (l ++ [o]) v' (W'.setCell ⟨w.heap.size, 0, none⟩ v') := by
  have hu : ∀ k, u.ownBlock = some k → w.heap.size + 2 ≤ k := fun k hk => (World.ownsRow.lt h.o k hk).1
  have hv : ∀ k, v'.ownBlock = some k → w.heap.size + 2 ≤ k := fun k hk => (World.ownsRow.lt ho k hk).1
  have hb : Below w.heap.size w W' := h.b.grown hg h.b.size (fun k hk => by have := hu k hk; omega)
  have hx : OwnC W' ⟨w.heap.size, 0, none⟩ := own_grown' ⟨⟨_, h.x⟩, h.fx⟩ hg (fun e => by have h1 := hu _ e; simp only at h1; omega)
  have hy : OwnC W' ⟨w.heap.size + 1, 0, none⟩ := own_grown' h.y hg (fun e => by have h1 := hu _ e; simp only at h1; omega)
  obtain ⟨⟨x0, hx0⟩, fx⟩ := hx
  exact ⟨hb.setCell (by simp) _, World.cell?_setCell_same _ _ _ hx0, by rw [World.frozen?_setCell]; exact fx, hy.set _ _, ownsRow_setCell_other ho (fun e => by have h1 := hv _ e; simp only at h1; omega) _⟩
set_option maxHeartbeats 8000000 in
set_option maxRecDepth 100000 in
theorem decode_any (s : Bs) (w : World) : Calls Tryz.prog 29 #[strV s] w (RetO (decodeD s).1 (decodeD s).2 w) := by
  have hmf : ∀ (fn : Fn) (first cap : Array Value) (w : World), (Instr.makeFunc fn first cap).run Tryz.prog w = .ok (.func fn first cap) w := fun _ _ _ _ => rfl
  have hr : decodeD s = if s.length ≤ 131072 then (match decL s with | some l => (l, (0 : Int)) | none => ([], (145 : Int))) else ([], (145 : Int)) := rfl
  obtain ⟨R, hR⟩ : ∃ R, decodeD s = R := ⟨_, rfl⟩
  rw [hR] at hr ⊢
  by_cases hl : s.length ≤ 131072
  · have g1 : decide (131072 < (s.length : Int)) = false := by simp; omega
    rw [if_pos hl] at hr
    have HR := hid hr
    have HL := hid hl
    have hI : DcI w [] (.slice none 0 0) ((w.alloc (.cells #[.slice none 0 0] 36)).alloc (.cells #[.int .i64 0] 27)) := by
      refine ⟨balloc (balloc (Below.refl _ _) _) _, Lib.cell?_alloc_some _ (cell_new _ _ _ 0 _ rfl), ?_, ?_, oO_nil _ _⟩
      · exact keepf (balloc (Below.refl _ _) _) (cell_new w #[.slice none 0 0] 36 0 _ rfl) (ownc_new w #[.slice none 0 0] 36 0 (by decide)).2
      · have := ownc_new (w.alloc (.cells #[.slice none 0 0] 36)) #[.int .i64 0] 27 0 (by decide)
        rwa [World.size_alloc] at this
    have HI := hid hI
    clear hr hl hI hR
    go_enter_defers Tryz.func29, Tryz.ntmps29
    go_wp2_with fail
    clear g1
    go_loopw [4] (fun v wr => ∃ (r : Bs) (l : List FOp) (u : Value), v = strV r ∧ Hid (decL s = (decL r).map (l ++ ·)) ∧ Hid (DcI w l u wr) ∧ r.length ≤ 131072 ∧ l.length + r.length ≤ 131072) (fun v _ => match v with | .string b => b.size | _ => 0)
    case atStart => exact ⟨s, [], _, rfl, by unfold Hid; simp, HI, HL.out, by have := HL.out; simp; omega⟩
    case round =>
      obtain ⟨r, l, u, rfl, HD, HI, hrl, hll⟩ := hrel
      clear HL
      match r with
      | [] =>
        have HN : Hid (R = (l, 0)) := by unfold Hid; rw [HR.out, HD.out, decL_nil]; simp
        obtain ⟨o1, c1, rfl⟩ : ∃ o c, u = .slice o l.length c := by obtain ⟨o, c, e, -⟩ := HI.out.o.rd; exact ⟨o, c, e⟩
        have x0 := HI.out.x; have f0 := HI.out.fx
        obtain ⟨⟨v1, y1⟩, f1⟩ := HI.out.y
        have hz := HI.out.lt
        go_wp2_with fail
        refine leaves_cons (f := 69) (args := #[.pointer (some ⟨w.heap.size, 0, none⟩), .pointer (some ⟨w.heap.size + 1, 0, none⟩)]) (by simp) (by simp [go_sem]) ?_
        refine (caught_idle w.heap.size (w.heap.size + 1) _).mono ?_
        rintro e u' w9 ⟨rfl, rfl, rfl⟩
        rw [HN.out]
        have hb9 := ((HI.out.b.setCell (p := ⟨w.heap.size, 0, none⟩) (by simp) (.slice o1 l.length c1)).setCell (p := ⟨w.heap.size + 1, 0, none⟩) (by simp) (.int .i64 0))
        have n1 : (Value.slice o1 l.length c1).ownBlock ≠ some w.heap.size := fun e => by have := (World.ownsRow.lt HI.out.o _ e).1; omega
        have n2 : (Value.slice o1 l.length c1).ownBlock ≠ some (w.heap.size + 1) := fun e => by have := (World.ownsRow.lt HI.out.o _ e).1; omega
        have ho8 : OO (wr.setCell ⟨w.heap.size, 0, none⟩ (.slice o1 l.length c1)) (w.heap.size + 2) (.slice o1 l.length c1) l := ownsRow_setCell_other HI.out.o n1 _
        have ho9 : OO ((wr.setCell ⟨w.heap.size, 0, none⟩ (.slice o1 l.length c1)).setCell ⟨w.heap.size + 1, 0, none⟩ (.int .i64 0)) (w.heap.size + 2) (.slice o1 l.length c1) l := ownsRow_setCell_other ho8 n2 _
        simp [Leaves, settle, results, Tryz.results29, go_sem, x0, y1, f0, f1, hz]
        exact ⟨_, rfl, ho9.mono (by omega), hb9⟩
      | [k] =>
        have h0 : decL [k] = none := by rw [decL_cons, dec1_one]
        have HN : Hid (R = ([], 145)) := by unfold Hid; rw [HR.out, HD.out, h0]; rfl
        have HT := hid (fun w => take_short [k] 2 w (by simp))
        clear h0
        go_wp2_with fail
        refine (HT.out _).mono ?_
        rintro e w1 ⟨rfl, hb1⟩
        have HI1 := hid (HI.out.below hb1)
        clear hb1
        show bodyPostD Tryz.prog Tryz.f29 (RetO R.1 R.2 w) (Exit.panic shortP) _ w1
        obtain ⟨⟨v1, y1⟩, f1⟩ := HI1.out.y
        refine leaves_cons (f := 69) (args := #[.pointer (some ⟨w.heap.size, 0, none⟩), .pointer (some ⟨w.heap.size + 1, 0, none⟩)]) (by simp) (by simp [go_sem]) ?_
        refine (caught_panic w.heap.size (w.heap.size + 1) [] _ _ _ HI1.out.x HI1.out.fx y1 f1 (by omega)).mono ?_
        rintro e u' w9 ⟨rfl, rfl, rfl⟩
        rw [HN.out]
        have x0 := Lib.cell?_alloc_some (.cells #[] 125) HI1.out.x
        have y0 := Lib.cell?_alloc_some (.cells #[] 125) y1
        have hz := HI1.out.lt
        simp [Leaves, settle, results, Tryz.results29, go_sem, x0, y0, hz]
        exact ⟨_, rfl, oO_nil _ _, ((balloc HI1.out.b (.cells #[] 125)).setCell (p := ⟨w.heap.size, 0, none⟩) (by simp) _).setCell (p := ⟨w.heap.size + 1, 0, none⟩) (by simp) _⟩
      | k :: f :: t =>
        have HT : Hid (∀ w, Calls Tryz.prog 70 #[strV (k :: f :: t), .int .i64 2] w (Ret (.tuple #[strV [k, f], strV t]) w)) := fun w => take_ok (k :: f :: t) 2 w (by simp)
        have hc0 : ∀ (h : 0 < (ByteArray.mk #[k, f]).size), (ByteArray.mk #[k, f])[0]'h = k := fun _ => rfl
        have hc1 : ∀ (h : 1 < (ByteArray.mk #[k, f]).size), (ByteArray.mk #[k, f])[1]'h = f := fun _ => rfl
        have hk' : wrap64 (k.toNat : Int) = (k.toNat : Int) := by have := k.toNat_lt; unfold wrap64; omega
        have hf' : wrap64 (f.toNat : Int) = (f.toNat : Int) := by have := f.toNat_lt; unfold wrap64; omega
        go_wp2_with fail
        refine (HT.out _).mono ?_
        rintro e w1 ⟨rfl, hb1⟩
        have HI1 := hid (HI.out.below hb1)
        clear hb1
        go_wp2_with fail
        go_region
        have HO0 := hid (fun j (hj : j < 4) => ownc_new w1 #[.int .i64 (k.toNat : Int), .int .i64 (f.toNat : Int), strV [], strV []] 55 j (by simpa using hj))
        have hy0 : (w1.alloc (.cells #[.int .i64 (k.toNat : Int), .int .i64 (f.toNat : Int), strV [], strV []] 55)).drew.cell? ⟨w1.heap.size, 0, none⟩ = some (.int .i64 (k.toNat : Int)) := cell_new w1 #[.int .i64 (k.toNat : Int), .int .i64 (f.toNat : Int), strV [], strV []] 55 0 _ rfl
        have hy1 : (w1.alloc (.cells #[.int .i64 (k.toNat : Int), .int .i64 (f.toNat : Int), strV [], strV []] 55)).drew.cell? ⟨w1.heap.size, 1, none⟩ = some (.int .i64 (f.toNat : Int)) := cell_new w1 #[.int .i64 (k.toNat : Int), .int .i64 (f.toNat : Int), strV [], strV []] 55 1 _ rfl
        have hy2 : OwnC (w1.alloc (.cells #[.int .i64 (k.toNat : Int), .int .i64 (f.toNat : Int), strV [], strV []] 55)).drew ⟨w1.heap.size, 2, none⟩ := keepOwn (drew_below _) (HO0.out 2 (by decide))
        have hy3 : OwnC (w1.alloc (.cells #[.int .i64 (k.toNat : Int), .int .i64 (f.toNat : Int), strV [], strV []] 55)).drew ⟨w1.heap.size, 3, none⟩ := keepOwn (drew_below _) (HO0.out 3 (by decide))
        have hy4 : (w1.alloc (.cells #[.int .i64 (k.toNat : Int), .int .i64 (f.toNat : Int), strV [], strV []] 55)).drew.cell? ⟨w1.heap.size, 3, none⟩ = some (strV []) := cell_new w1 #[.int .i64 (k.toNat : Int), .int .i64 (f.toNat : Int), strV [], strV []] 55 3 _ rfl
        have hfu : u.ownBlock ≠ some w1.heap.size := fun e => by have := (World.ownsRow.lt HI1.out.o _ e).2; omega
        have HI2 := hid (HI1.out.below ((balloc (Below.refl w1.heap.size w1) (.cells #[.int .i64 (k.toNat : Int), .int .i64 (f.toNat : Int), strV [], strV []] 55)).drew))
        have hzZ : w.heap.size + 1 < w1.heap.size := HI1.out.lt
        obtain ⟨W2, hW2⟩ : ∃ W2, W2 = (w1.alloc (.cells #[.int .i64 (k.toNat : Int), .int .i64 (f.toNat : Int), strV [], strV []] 55)).drew := ⟨_, rfl⟩
        obtain ⟨Z, hZ⟩ : ∃ Z, w1.heap.size = Z := ⟨_, rfl⟩
        simp only [← hW2, hZ] at hy0 hy1 hy2 hy3 hy4 HI2 hzZ hfu ⊢
        clear hW2 hZ HO0 HI1 HI HT hc0 hc1 hk' hf'
        have Y0 := hid hy0; have Y1 := hid hy1; have Y2 := hid hy2; have Y3 := hid hy3; have Y4 := hid hy4
        have HFU := hid hfu
        clear hy0 hy1 hy2 hy3 hy4 hfu
        have HDC := hid (dec1_cnt k f t)
        have HDL := hid (decL_cons k (f :: t))
        have HCL := hid (fun a b h => cnt_len (t := t) (a := a) (b := b) h)
        cases hcnt : cntL t with
        | none =>
          have HN : Hid (R = ([], 145)) := by unfold Hid; rw [HR.out, HD.out, HDL.out, HDC.out, hcnt]; rfl
          have HC := hid (fun w => counted_none t w hcnt)
          clear hcnt
          go_wp2_with fail
          refine (HC.out _).mono ?_
          rintro e w3 ⟨rfl, hb3⟩
          have HI3 := hid (HI2.out.below hb3)
          clear hb3
          show bodyPostD Tryz.prog Tryz.f29 (RetO R.1 R.2 w) (Exit.panic shortP) _ w3
          obtain ⟨⟨v1, y1⟩, f1⟩ := HI3.out.y
          refine leaves_cons (f := 69) (args := #[.pointer (some ⟨w.heap.size, 0, none⟩), .pointer (some ⟨w.heap.size + 1, 0, none⟩)]) (by simp) (by simp [go_sem]) ?_
          refine (caught_panic w.heap.size (w.heap.size + 1) [] _ _ _ HI3.out.x HI3.out.fx y1 f1 (by omega)).mono ?_
          rintro e u' w9 ⟨rfl, rfl, rfl⟩
          rw [HN.out]
          have x0 := Lib.cell?_alloc_some (.cells #[] 125) HI3.out.x
          have y0 := Lib.cell?_alloc_some (.cells #[] 125) y1
          have hz := HI3.out.lt
          simp [Leaves, settle, results, Tryz.results29, go_sem, x0, y0, hz]
          exact ⟨_, rfl, oO_nil _ _, ((balloc HI3.out.b (.cells #[] 125)).setCell (p := ⟨w.heap.size, 0, none⟩) (by simp) _).setCell (p := ⟨w.heap.size + 1, 0, none⟩) (by simp) _⟩
        | some p =>
          obtain ⟨key, t2⟩ := p
          have HC := hid (fun w => counted_some t key t2 w hcnt)
          have HLT := hid (HCL.out key t2 hcnt)
          have HDC : Hid (dec1 (k :: f :: t) = if k.toNat = 5 then some (((k.toNat : Int), (f.toNat : Int), key, []), t2) else match cntL t2 with | none => none | some (d, t3) => some (((k.toNat : Int), (f.toNat : Int), key, d), t3)) := by
            unfold Hid; rw [HDC.out, hcnt]
            rfl
          clear hcnt
          go_wp2_with fail
          refine (HC.out _).mono ?_
          rintro e w3 ⟨rfl, hb3⟩
          have HI3 := hid (HI2.out.below hb3)
          have Y0 := hid (keepc hb3 Y0.out); have Y1 := hid (keepc hb3 Y1.out); have Y2 := hid (keepOwn hb3 Y2.out); have Y3 := hid (keepOwn hb3 Y3.out); have Y4 := hid (keepc hb3 Y4.out)
          clear hb3 HC HI2
          obtain ⟨⟨q2, y2⟩, f2⟩ := Y2.out
          go_upto_region 10 with fail
          obtain ⟨W4, hW4⟩ : ∃ W4, W4 = w3.setCell ⟨Z, 2, none⟩ (strV key) := ⟨_, rfl⟩
          rw [← hW4]
          have HI4 : Hid (DcI w l u W4) := by rw [hW4]; exact HI3.out.set Z hzZ HFU.out 2 _
          have y2 : W4.cell? ⟨Z, 2, none⟩ = some (strV key) := by rw [hW4]; exact World.cell?_setCell_same _ _ _ y2
          have y0 : W4.cell? ⟨Z, 0, none⟩ = some (.int .i64 (k.toNat : Int)) := by rw [hW4, World.cell?_setCell_other _ _ _ _ (by simp)]; exact Y0.out
          have y1 : W4.cell? ⟨Z, 1, none⟩ = some (.int .i64 (f.toNat : Int)) := by rw [hW4, World.cell?_setCell_other _ _ _ _ (by simp)]; exact Y1.out
          have y3 : W4.cell? ⟨Z, 3, none⟩ = some (strV []) := by rw [hW4, World.cell?_setCell_other _ _ _ _ (by simp)]; exact Y4.out
          have Y3 : Hid (OwnC W4 ⟨Z, 3, none⟩) := by rw [hW4]; exact Y3.out.set _ _
          clear hW4 Y0 Y1 Y2 Y4 HI3 f2
          by_cases h5 : k.toNat = 5
          · have hk5 : ((k.toNat : Int) != 5) = false := by simp [h5]
            have HD1 : Hid (dec1 (k :: f :: t) = some (((k.toNat : Int), (f.toNat : Int), key, []), t2)) := by unfold Hid; rw [HDC.out, if_pos h5]
            have HLL : Hid (t2.length + 2 ≤ t.length + 2 ∧ t2.length + 1 ≤ (k :: f :: t).length) := by have := HLT.out; unfold Hid; simp; omega
            clear h5 HDC
            have HCH := hid (fun w => changes_any ((k.toNat : Int), (f.toNat : Int), key, ([] : Bs)) w)
            obtain ⟨q, hq⟩ : ∃ q, chg ((k.toNat : Int), (f.toNat : Int), key, ([] : Bs)) = q := ⟨_, rfl⟩
            rw [hq] at HCH
            cases q with
            | false =>
              have HN : Hid (R = ([], 145)) := by unfold Hid; rw [HR.out, HD.out, HDL.out, HD1.out]; simp only [hq]; rfl
              clear hq
              go_wp2_with fail
              refine (HCH.out _).mono ?_
              rintro e w7 ⟨rfl, hb7⟩
              have HI7 := hid (HI4.out.below hb7)
              clear hb7
              go_wp2_with fail
              show bodyPostD Tryz.prog Tryz.f29 (RetO R.1 R.2 w) (Exit.panic shortP) _ w7
              obtain ⟨⟨v1, y1⟩, f1⟩ := HI7.out.y
              refine leaves_cons (f := 69) (args := #[.pointer (some ⟨w.heap.size, 0, none⟩), .pointer (some ⟨w.heap.size + 1, 0, none⟩)]) (by simp) (by simp [go_sem]) ?_
              refine (caught_panic w.heap.size (w.heap.size + 1) [] _ _ _ HI7.out.x HI7.out.fx y1 f1 (by omega)).mono ?_
              rintro e u' w9 ⟨rfl, rfl, rfl⟩
              rw [HN.out]
              have x0 := Lib.cell?_alloc_some (.cells #[] 125) HI7.out.x
              have y0 := Lib.cell?_alloc_some (.cells #[] 125) y1
              have hz := HI7.out.lt
              simp [Leaves, settle, results, Tryz.results29, go_sem, x0, y0, hz]
              exact ⟨_, rfl, oO_nil _ _, ((balloc HI7.out.b (.cells #[] 125)).setCell (p := ⟨w.heap.size, 0, none⟩) (by simp) _).setCell (p := ⟨w.heap.size + 1, 0, none⟩) (by simp) _⟩
            | true =>
              have HDX : Hid (decL s = (decL t2).map ((l ++ [((k.toNat : Int), (f.toNat : Int), key, ([] : Bs))]) ++ ·)) := by
                unfold Hid; rw [HD.out, HDL.out, HD1.out]; simp only [hq, if_true]
                cases decL t2 <;> simp
              clear hq
              go_wp2_with fail
              refine (HCH.out _).mono ?_
              rintro e w7 ⟨rfl, hb7⟩
              have HI7 := hid (HI4.out.below hb7)
              have y0 := keepc hb7 y0; have y1 := keepc hb7 y1; have y2 := keepc hb7 y2; have y3 := keepc hb7 y3
              clear hb7 HI4
              obtain ⟨o1, c1, rfl⟩ : ∃ o c, u = .slice o l.length c := by obtain ⟨o, c, e, -⟩ := HI7.out.o.rd; exact ⟨o, c, e⟩
              have x0 := HI7.out.x; have fx0 := HI7.out.fx
              have hz7 := HI7.out.lt
              have hll7 : l.length ≤ 1000000 := by omega
              have HB7 := hid (balloc (Below.refl w7.heap.size w7) (.cells #[.int .i64 (k.toNat : Int), .int .i64 (f.toNat : Int), strV key, strV ([] : Bs)] 55))
              have HCE := hid (cellsO (w7.alloc (.cells #[.int .i64 (k.toNat : Int), .int .i64 (f.toNat : Int), strV key, strV ([] : Bs)] 55)) w7.heap.size ((k.toNat : Int), (f.toNat : Int), key, ([] : Bs)) (cell_new _ _ _ 0 _ rfl) (cell_new _ _ _ 1 _ rfl) (cell_new _ _ _ 2 _ rfl) (cell_new _ _ _ 3 _ rfl))
              go_wp2_with (at_builtin; refine appO rfl _ _ rfl (w.heap.size + 2) _ l ((k.toNat : Int), (f.toNat : Int), key, ([] : Bs)) _ _ rfl rfl (HI7.out.o.below HB7.out) HCE.out hll7 (by simp; omega) ?_)
              intro v8 w8 ho8 hg8
              have HI8 := hid (DcI.app (HI7.out.below HB7.out) hg8 ho8)
              have xx : OwnC w8 ⟨w.heap.size, 0, none⟩ := own_grown' ⟨⟨_, (HI7.out.below HB7.out).x⟩, (HI7.out.below HB7.out).fx⟩ hg8 (fun e => by have h1 := (World.ownsRow.lt (HI7.out.below HB7.out).o _ e).1; simp only at h1; omega)
              obtain ⟨o8, c8, rfl⟩ : ∃ o c, v8 = .slice o (l ++ [((k.toNat : Int), (f.toNat : Int), key, ([] : Bs))]).length c := by obtain ⟨o, c, e, -⟩ := ho8.rd; exact ⟨o, c, e⟩
              obtain ⟨⟨x8, xx⟩, fx8⟩ := xx
              clear ho8 hg8 x0 fx0 y0 y1 y2 y3 HI7 HB7 HCE
              go_wp2_with fail
              go_roundw
              case rel => exact ⟨t2, _, _, rfl, HDX, by simpa using HI8, by have := HLL.out; simp at hrl; omega, by have := HLL.out; simp at hll ⊢; omega⟩
              case measure => have := HLL.out; simp [ByteArray.size] at this ⊢; omega
          · have hk5 : ((k.toNat : Int) != 5) = true := by simp; omega
            have HDC : Hid (dec1 (k :: f :: t) = match cntL t2 with | none => none | some (d, t3) => some (((k.toNat : Int), (f.toNat : Int), key, d), t3)) := by unfold Hid; rw [HDC.out, if_neg h5]
            clear h5
            have HCL2 := hid (fun a b h => cnt_len (t := t2) (a := a) (b := b) h)
            cases hcnt : cntL t2 with
            | none =>
              have HN : Hid (R = ([], 145)) := by unfold Hid; rw [HR.out, HD.out, HDL.out, HDC.out, hcnt]; rfl
              have HC := hid (fun w => counted_none t2 w hcnt)
              clear hcnt
              go_wp2_with fail
              refine (HC.out _).mono ?_
              rintro e w5 ⟨rfl, hb5⟩
              have HI5 := hid (HI4.out.below hb5)
              clear hb5
              show bodyPostD Tryz.prog Tryz.f29 (RetO R.1 R.2 w) (Exit.panic shortP) _ w5
              obtain ⟨⟨v1, y1⟩, f1⟩ := HI5.out.y
              refine leaves_cons (f := 69) (args := #[.pointer (some ⟨w.heap.size, 0, none⟩), .pointer (some ⟨w.heap.size + 1, 0, none⟩)]) (by simp) (by simp [go_sem]) ?_
              refine (caught_panic w.heap.size (w.heap.size + 1) [] _ _ _ HI5.out.x HI5.out.fx y1 f1 (by omega)).mono ?_
              rintro e u' w9 ⟨rfl, rfl, rfl⟩
              rw [HN.out]
              have x0 := Lib.cell?_alloc_some (.cells #[] 125) HI5.out.x
              have y0 := Lib.cell?_alloc_some (.cells #[] 125) y1
              have hz := HI5.out.lt
              simp [Leaves, settle, results, Tryz.results29, go_sem, x0, y0, hz]
              exact ⟨_, rfl, oO_nil _ _, ((balloc HI5.out.b (.cells #[] 125)).setCell (p := ⟨w.heap.size, 0, none⟩) (by simp) _).setCell (p := ⟨w.heap.size + 1, 0, none⟩) (by simp) _⟩
            | some p =>
              obtain ⟨d, t3⟩ := p
              have HC := hid (fun w => counted_some t2 d t3 w hcnt)
              have HLT2 := hid (HCL2.out d t3 hcnt)
              have HD1 : Hid (dec1 (k :: f :: t) = some (((k.toNat : Int), (f.toNat : Int), key, d), t3)) := by unfold Hid; rw [HDC.out, hcnt]
              have HLL : Hid (t3.length + 2 ≤ t.length + 2 ∧ t3.length + 1 ≤ (k :: f :: t).length) := by have := HLT.out; have := HLT2.out; unfold Hid; simp; omega
              clear hcnt HDC
              go_wp2_with fail
              refine (HC.out _).mono ?_
              rintro e w5 ⟨rfl, hb5⟩
              have HI5 := hid (HI4.out.below hb5)
              have Y0 := hid (keepc hb5 y0); have Y1 := hid (keepc hb5 y1); have Y2 := hid (keepc hb5 y2); have Y3 := hid (keepOwn hb5 Y3.out)
              clear hb5 HC HI4 y0 y1 y2 y3
              obtain ⟨⟨q3, y3⟩, f3⟩ := Y3.out
              go_upto_region 12 with fail
              obtain ⟨W6, hW6⟩ : ∃ W6, W6 = w5.setCell ⟨Z, 3, none⟩ (strV d) := ⟨_, rfl⟩
              rw [← hW6]
              have HI6 : Hid (DcI w l u W6) := by rw [hW6]; exact HI5.out.set Z hzZ HFU.out 3 _
              have y3 : W6.cell? ⟨Z, 3, none⟩ = some (strV d) := by rw [hW6]; exact World.cell?_setCell_same _ _ _ y3
              have y0 : W6.cell? ⟨Z, 0, none⟩ = some (.int .i64 (k.toNat : Int)) := by rw [hW6, World.cell?_setCell_other _ _ _ _ (by simp)]; exact Y0.out
              have y1 : W6.cell? ⟨Z, 1, none⟩ = some (.int .i64 (f.toNat : Int)) := by rw [hW6, World.cell?_setCell_other _ _ _ _ (by simp)]; exact Y1.out
              have y2 : W6.cell? ⟨Z, 2, none⟩ = some (strV key) := by rw [hW6, World.cell?_setCell_other _ _ _ _ (by simp)]; exact Y2.out
              clear hW6 Y0 Y1 Y2 Y3 HI5 f3
              have HCH := hid (fun w => changes_any ((k.toNat : Int), (f.toNat : Int), key, d) w)
              obtain ⟨q, hq⟩ : ∃ q, chg ((k.toNat : Int), (f.toNat : Int), key, d) = q := ⟨_, rfl⟩
              rw [hq] at HCH
              cases q with
              | false =>
                have HN : Hid (R = ([], 145)) := by unfold Hid; rw [HR.out, HD.out, HDL.out, HD1.out]; simp only [hq]; rfl
                clear hq
                go_wp2_with fail
                refine (HCH.out _).mono ?_
                rintro e w7 ⟨rfl, hb7⟩
                have HI7 := hid (HI6.out.below hb7)
                clear hb7
                go_wp2_with fail
                show bodyPostD Tryz.prog Tryz.f29 (RetO R.1 R.2 w) (Exit.panic shortP) _ w7
                obtain ⟨⟨v1, y1⟩, f1⟩ := HI7.out.y
                refine leaves_cons (f := 69) (args := #[.pointer (some ⟨w.heap.size, 0, none⟩), .pointer (some ⟨w.heap.size + 1, 0, none⟩)]) (by simp) (by simp [go_sem]) ?_
                refine (caught_panic w.heap.size (w.heap.size + 1) [] _ _ _ HI7.out.x HI7.out.fx y1 f1 (by omega)).mono ?_
                rintro e u' w9 ⟨rfl, rfl, rfl⟩
                rw [HN.out]
                have x0 := Lib.cell?_alloc_some (.cells #[] 125) HI7.out.x
                have y0 := Lib.cell?_alloc_some (.cells #[] 125) y1
                have hz := HI7.out.lt
                simp [Leaves, settle, results, Tryz.results29, go_sem, x0, y0, hz]
                exact ⟨_, rfl, oO_nil _ _, ((balloc HI7.out.b (.cells #[] 125)).setCell (p := ⟨w.heap.size, 0, none⟩) (by simp) _).setCell (p := ⟨w.heap.size + 1, 0, none⟩) (by simp) _⟩
              | true =>
                have HDX : Hid (decL s = (decL t3).map ((l ++ [((k.toNat : Int), (f.toNat : Int), key, d)]) ++ ·)) := by
                  unfold Hid; rw [HD.out, HDL.out, HD1.out]; simp only [hq, if_true]
                  cases decL t3 <;> simp
                clear hq
                go_wp2_with fail
                refine (HCH.out _).mono ?_
                rintro e w7 ⟨rfl, hb7⟩
                have HI7 := hid (HI6.out.below hb7)
                have y0 := keepc hb7 y0; have y1 := keepc hb7 y1; have y2 := keepc hb7 y2; have y3 := keepc hb7 y3
                clear hb7 HI6
                obtain ⟨o1, c1, rfl⟩ : ∃ o c, u = .slice o l.length c := by obtain ⟨o, c, e, -⟩ := HI7.out.o.rd; exact ⟨o, c, e⟩
                have x0 := HI7.out.x; have fx0 := HI7.out.fx
                have hz7 := HI7.out.lt
                have hll7 : l.length ≤ 1000000 := by omega
                have HB7 := hid (balloc (Below.refl w7.heap.size w7) (.cells #[.int .i64 (k.toNat : Int), .int .i64 (f.toNat : Int), strV key, strV d] 55))
                have HCE := hid (cellsO (w7.alloc (.cells #[.int .i64 (k.toNat : Int), .int .i64 (f.toNat : Int), strV key, strV d] 55)) w7.heap.size ((k.toNat : Int), (f.toNat : Int), key, d) (cell_new _ _ _ 0 _ rfl) (cell_new _ _ _ 1 _ rfl) (cell_new _ _ _ 2 _ rfl) (cell_new _ _ _ 3 _ rfl))
                go_wp2_with (at_builtin; refine appO rfl _ _ rfl (w.heap.size + 2) _ l ((k.toNat : Int), (f.toNat : Int), key, d) _ _ rfl rfl (HI7.out.o.below HB7.out) HCE.out hll7 (by simp; omega) ?_)
                intro v8 w8 ho8 hg8
                have HI8 := hid (DcI.app (HI7.out.below HB7.out) hg8 ho8)
                have xx : OwnC w8 ⟨w.heap.size, 0, none⟩ := own_grown' ⟨⟨_, (HI7.out.below HB7.out).x⟩, (HI7.out.below HB7.out).fx⟩ hg8 (fun e => by have h1 := (World.ownsRow.lt (HI7.out.below HB7.out).o _ e).1; simp only at h1; omega)
                obtain ⟨o8, c8, rfl⟩ : ∃ o c, v8 = .slice o (l ++ [((k.toNat : Int), (f.toNat : Int), key, d)]).length c := by obtain ⟨o, c, e, -⟩ := ho8.rd; exact ⟨o, c, e⟩
                obtain ⟨⟨x8, xx⟩, fx8⟩ := xx
                clear ho8 hg8 x0 fx0 y0 y1 y2 y3 HI7 HB7 HCE
                go_wp2_with fail
                go_roundw
                case rel => exact ⟨t3, _, _, rfl, HDX, by simpa using HI8, by have := HLL.out; simp at hrl; omega, by have := HLL.out; simp at hll ⊢; omega⟩
                case measure => have := HLL.out; simp [ByteArray.size] at this ⊢; omega
  · have g1 : decide (131072 < (s.length : Int)) = true := by simp; omega
    rw [if_neg hl] at hr
    have HR := hid hr
    have ho0 : OO ((w.alloc (.cells #[.slice none 0 0] 36)).alloc (.cells #[.int .i64 145] 27)) w.heap.size (.slice none 0 0) [] := oO_nil _ _
    clear hr hl hR
    go_enter_defers Tryz.func29, Tryz.ntmps29
    go_wp2_with fail
    rw [HR.out]
    simp [bodyPostD, Leaves, settle, results, Tryz.results29, go_sem]
    exact ⟨_, rfl, oO_nil _ _, balloc (balloc (Below.refl _ _) _) _⟩
end Go.Proofs.YtifcgimpgbeocaaGreat
