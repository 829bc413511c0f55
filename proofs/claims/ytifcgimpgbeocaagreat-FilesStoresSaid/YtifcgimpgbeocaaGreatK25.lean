/- Do. -/
import Derived.Test.YtifcgimpgbeocaaGreatK12
import Derived.Test.YtifcgimpgbeocaaGreatK24
set_option linter.unusedVariables false
set_option linter.unusedSimpArgs false
namespace Go.Proofs.YtifcgimpgbeocaaGreat
open Go.RowKit
attribute [local go_sem] Oper.semAt_some
theorem do_end {U U1 : Nat → Prop} {S R : Nat} {st' : St} {w Wn : World} (hso : So Wn U1 S st') (hf : Frm U w Wn) (hU : ∀ k, U1 k → U k ∨ w.heap.size ≤ k) (hR : ¬ U1 R) (hRw : w.heap.size ≤ R) (x y : Value) :
    ∃ U', So ((Wn.setCell ⟨R, 0, none⟩ x).setCell ⟨R, 1, none⟩ y) U' S st' ∧ Frm U w ((Wn.setCell ⟨R, 0, none⟩ x).setCell ⟨R, 1, none⟩ y) ∧ ∀ k, U' k → U k ∨ w.heap.size ≤ k := by
  have hf2 : Frm (fun k => k = R) Wn ((Wn.setCell ⟨R, 0, none⟩ x).setCell ⟨R, 1, none⟩ y) := frm_setCell (frm_setCell (Frm.refl _ _) (by rfl) _) (by rfl) _
  exact ⟨U1, hso.frm hf2 (fun k hk e => hR (e ▸ hk)), hf.trans hf2 (fun i hi e => by omega), hU⟩
/-- What do_ has done to an operation's dataset. -/
theorem doSt_err {st : St} {o : FOp} (h : (doData st.now o).2.2 ≠ 0) : (doSt st o).1 = st ∧ inDo st o = st := by
  unfold doSt inDo
  rw [if_neg h, doData_err h]
  exact ⟨rfl, rfl⟩
theorem doSt_ok {st : St} {o : FOp} (h : (doData st.now o).2.2 = 0) : (doSt st o).1 = { inDo st o with ops := if chg o = true then (inDo st o).ops ++ [o] else (inDo st o).ops } := by
  unfold doSt inDo
  rw [if_pos h]
set_option maxHeartbeats 4000000 in
set_option maxRecDepth 100000 in
theorem do_any (U : Nat → Prop) (S : Nat) (st : St) (o : FOp) (w : World) (h : So w U S st) (hl : st.now.length ≤ 8) (hops : st.ops.length ≤ 1000000) :
    Calls Tryz.prog 18 #[.pointer (some ⟨S, 0, none⟩), opV o] w (StPost U S (.tuple #[.agg #[strV (doData st.now o).2.1.1, strV (doData st.now o).2.1.2], .int .i64 (doData st.now o).2.2]) (doSt st o).1 w) := by
  have HSO := hid h
  have HID := hid (fun w' (hb : Below w.heap.size w w') => indo_any U S st o w' (h.below hb) hl)
  have HER := hid (fun h => doSt_err (st := st) (o := o) h)
  have HOK := hid (fun h => doSt_ok (st := st) (o := o) h)
  have HCH := hid (fun w => changes_any o w)
  have hUl := h.lt
  have s0 : ∃ D, w.cell? ⟨S, 0, none⟩ = some (.pointer (some ⟨D, 0, none⟩)) := by obtain ⟨D, vp, vq, va, vw, vd, vk, us, ks, h⟩ := h; exact ⟨D, h.s0⟩
  obtain ⟨D, s0⟩ := s0
  obtain ⟨q, hq⟩ : ∃ q, chg o = q := ⟨_, rfl⟩
  rw [hq] at HCH
  simp only [hq] at HOK
  have hiops : (inDo st o).ops = st.ops := rfl
  obtain ⟨st1, hst1⟩ : ∃ st1, inDo st o = st1 := ⟨_, rfl⟩
  obtain ⟨x, E, hA⟩ : ∃ x E, (doData st.now o).2 = (x, E) := ⟨_, _, rfl⟩
  simp only [hA] at HID HER HOK ⊢
  simp only [hst1] at HID HER HOK hiops
  have HO1 : Hid (st1.ops.length ≤ 1000000) := by unfold Hid; rw [hiops]; exact hops
  obtain ⟨k, f, a, s⟩ := o
  obtain ⟨W, hW⟩ : ∃ W, W = w.alloc (.cells #[.int .i64 k, .int .i64 f, strV a, strV s] 55) := ⟨_, rfl⟩
  have hzW : W.heap.size = w.heap.size + 1 := by rw [hW]; simp
  have HBW : Hid (Below w.heap.size w W) := by rw [hW]; exact balloc (Below.refl _ _) _
  have HBR := hid (B2.new W 59 (strV []) (strV []))
  have s00 := keepc HBR.out.1 (keepc HBW.out s0)
  have KB : Hid (∀ j v, #[Value.int .i64 k, .int .i64 f, strV a, strV s][j]? = some v → (W.alloc (.cells #[strV [], strV []] 59)).cell? ⟨w.heap.size, j, none⟩ = some v) := fun j v hj => keepc HBR.out.1 (by rw [hW]; exact cell_new _ _ _ j _ hj)
  have HW := hid hW
  have HZW := hid hzW
  have HUL := hid hUl
  clear hW hl hops hq hst1 hA hiops h s0 hUl
  go_enter Tryz.func18, Tryz.ntmps18
  go_upto_region 1 with fail
  have e := HW.out
  simp only [← e, ← hzW]
  clear e HW hzW
  obtain ⟨W', hW'⟩ : ∃ W', W' = W.alloc (.cells #[strV [], strV []] 59) := ⟨_, rfl⟩
  have hW'' : W' = W.alloc (.cells #[.string ⟨#[]⟩, .string ⟨#[]⟩] 59) := hW'
  have HZ' : Hid (W'.heap.size = W.heap.size + 1) := by rw [hW']; unfold Hid; simp
  simp only [← hW', ← hW''] at HBR KB s00 ⊢
  clear hW' hW''
  have kb0 := KB.out 0 _ rfl
  have kb1 := KB.out 1 _ rfl
  have kb2 := KB.out 2 _ rfl
  have kb3 := KB.out 3 _ rfl
  go_wp2_with fail
  refine (HID.out _ (below_step HBR.out.1 HBW.out)).mono ?_
  rintro e w1 ⟨rfl, U1, hso1, hf1, hu1⟩
  obtain ⟨W2, hW2⟩ : ∃ W2, W2 = w1.alloc (.cells #[strV x.1, strV x.2] 59) := ⟨_, rfl⟩
  have HS2 : Hid (So W2 U1 S st1) := by rw [hW2]; exact hso1.below (balloc (Below.refl _ _) _)
  have hbox : ∀ j v, #[Value.int .i64 k, .int .i64 f, strV a, strV s][j]? = some v → W2.cell? ⟨w.heap.size, j, none⟩ = some v := fun j v hj => by
    rw [hW2]; exact keepc (balloc (Below.refl _ _) _) (hf1.cell (fun hk => by have := HUL.out _ hk; simp only at this; omega) (KB.out j v hj))
  have hres : ∀ j, j = 0 ∨ j = 1 → OwnC W2 ⟨W.heap.size, j, none⟩ := fun j hj => by
    rw [hW2]
    have h0 : OwnC W' ⟨W.heap.size, j, none⟩ := by rcases hj with rfl | rfl; exact HBR.out.2.1; exact HBR.out.2.2
    exact keepOwn (balloc (Below.refl _ _) _) (hf1.ownc (fun hk => by have h1 := HUL.out _ hk; have := HZW.out; simp only at h1; omega) h0)
  have B0 := hid (hbox 0 _ rfl); have B1 := hid (hbox 1 _ rfl); have B2' := hid (hbox 2 _ rfl); have B3 := hid (hbox 3 _ rfl)
  have R0 := hid (hres 0 (.inl rfl)); have R1 := hid (hres 1 (.inr rfl))
  have hZ0 : W2.cell? ⟨w1.heap.size, 0, none⟩ = some (strV x.1) := by rw [hW2]; exact cell_new _ _ _ 0 _ rfl
  have hZ1 : W2.cell? ⟨w1.heap.size, 1, none⟩ = some (strV x.2) := by rw [hW2]; exact cell_new _ _ _ 1 _ rfl
  have HF2 : Hid (Frm U w W2) := by
    rw [hW2]
    exact (Frm.of_below (below_step HBR.out.1 HBW.out)).trans (hf1.trans (Frm.of_below (balloc (Below.refl _ _) _)) (fun i _ h => h)) (fun i _ h => h)
  have HU1 : Hid (∀ k, U1 k → U k ∨ w.heap.size ≤ k) := fun k hk => (hu1 k hk).imp id (fun h => by have := HZ'.out; have := HZW.out; omega)
  have HR1 : Hid (¬ U1 W.heap.size) := fun hk => by
    rcases hu1 _ hk with h1 | h1
    · have := HUL.out _ h1; have := HZW.out; omega
    · have := HZ'.out; omega
  obtain ⟨Z, hZ⟩ : ∃ Z, w1.heap.size = Z := ⟨_, rfl⟩
  rw [hZ] at hZ0 hZ1
  have HZR : Hid (W.heap.size < Z) := by rw [← hZ]; have := hf1.size; have := HZ'.out; unfold Hid; omega
  have HZU : Hid (¬ U1 Z) := fun hk => by have := hso1.lt _ hk; omega
  have Z0 := hid hZ0; have Z1 := hid hZ1
  have HW2 := hid hW2; have HZZ := hid hZ
  clear hbox hres hso1 hf1 hu1 hW2 hZ hZ0 hZ1 kb0 kb1 kb2 kb3 s00 KB HBR HID HSO
  go_upto_region 4 with fail
  rw [HZZ.out]
  have e := HW2.out
  rw [← e]
  clear e HW2 HZZ
  have z0 := Z0.out; have z1 := Z1.out; have b0 := B0.out; have b1 := B1.out; have b2 := B2'.out; have b3 := B3.out
  by_cases hE : E = 0
  · subst hE
    have HOKK := hid (HOK.out (by rfl))
    clear HOK HER
    go_wp2_with fail
    refine (HCH.out _).mono ?_
    rintro e w3 ⟨rfl, hb3⟩
    have HS3 := hid (HS2.out.below hb3)
    have HF3 : Hid (Frm U w w3) := HF2.out.trans (Frm.of_below (F := U) hb3) (fun i _ h => h)
    have Z0 := hid (keepc hb3 Z0.out); have Z1 := hid (keepc hb3 Z1.out); have B0 := hid (keepc hb3 B0.out); have B1 := hid (keepc hb3 B1.out); have B2' := hid (keepc hb3 B2'.out); have B3 := hid (keepc hb3 B3.out)
    have R0 := hid (keepOwn hb3 R0.out); have R1 := hid (keepOwn hb3 R1.out)
    clear hb3 z0 z1 b0 b1 b2 b3 HS2 HF2
    have z0 := Z0.out; have z1 := Z1.out; have b0 := B0.out; have b1 := B1.out; have b2 := B2'.out; have b3 := B3.out
    cases q with
    | false =>
      obtain ⟨⟨v0, y0⟩, f0⟩ := R0.out
      obtain ⟨⟨v1, y1⟩, f1⟩ := R1.out
      have hz := World.block_lt_of_cell? _ _ y0
      simp only at hz
      have HE : Hid ((doSt st (k, f, a, s)).1 = st1) := by unfold Hid; rw [HOKK.out]; rfl
      go_wp2_with fail
      rw [HE.out]
      exact bodyPost_ret (v := .tuple #[.agg #[strV x.1, strV x.2], .int .i64 0]) (by simp [results, Tryz.results18, go_sem, y0, y1, f0, f1, hz]) rfl ⟨rfl, do_end HS3.out HF3.out HU1.out HR1.out HBW.out.size _ _⟩
    | true =>
      have HE : Hid ((doSt st (k, f, a, s)).1 = { st1 with ops := st1.ops ++ [(k, f, a, s)] }) := by unfold Hid; rw [HOKK.out]; rfl
      obtain ⟨D', vp, vq, va, vw, vd, vk, us, ks, h3⟩ := HS3.out
      have H3 := hid h3
      have s6 := h3.s6
      have c6 := h3.fz 6
      have hSl := HS3.out.lt S (h3.uF S (.inl rfl))
      have HCA : Hid (∀ j u, (encO [((k, f, a, s) : FOp)])[j]? = some u → (w3.drew.alloc (.cells #[.int .i64 k, .int .i64 f, strV a, strV s] 55)).cell? ⟨w3.heap.size, j, none⟩ = some u) :=
        cellsO _ _ _ (cell_new w3.drew #[.int .i64 k, .int .i64 f, strV a, strV s] 55 0 _ rfl) (cell_new w3.drew #[.int .i64 k, .int .i64 f, strV a, strV s] 55 1 _ rfl) (cell_new w3.drew #[.int .i64 k, .int .i64 f, strV a, strV s] 55 2 _ rfl) (cell_new w3.drew #[.int .i64 k, .int .i64 f, strV a, strV s] 55 3 _ rfl)
      have HBX : Hid (Below w3.heap.size w3 (w3.drew.alloc (.cells #[.int .i64 k, .int .i64 f, strV a, strV s] 55))) := balloc (drew_below w3) _
      have s6a := Lib.cell?_alloc_some (.cells #[.int .i64 k, .int .i64 f, strV a, strV s] 55) s6
      have hn6 := h3.no vw (.inr (.inl rfl))
      have HN6 := hid hn6
      have O6 := hid (keepOwn HBX.out ⟨⟨_, s6⟩, c6⟩)
      have HVW := hid (fun kk (hk : vw.ownBlock = some kk) => H3.out.uF kk (.inr (.inr (.inr (.inl hk)))))
      have HSU := hid (H3.out.uF S (.inl rfl))
      clear h3 hn6
      go_wp2_with fail
      go_region_law (refine step_appO (by rfl) (.tmp 34) (.tmp 36) (by rfl) 0 vw st1.ops (k, f, a, s) w3.heap.size 1 (by simp [Act.eval, Act.put]) (by simp [Act.eval, Act.put]) (H3.out.ow.below HBX.out) HCA.out HO1.out (Nat.zero_le _) ?_; intro v4 w4 ho4 hg4 hat4; obtain ⟨⟨dv, dd6⟩, ee6⟩ := own_grown' O6.out hg4 HN6.out.1; obtain ⟨o4, c4, rfl⟩ : ∃ o c, v4 = .slice o (st1.ops ++ [(k, f, a, s)]).length c := by (obtain ⟨o, c, e, -⟩ := ho4.rd; exact ⟨o, c, e⟩))
      all_goals
        have hX : Below w3.heap.size w3 _ := HBX.out
        have h9 := H3.out.wait HBX.out hg4 ho4 hat4
        have hvo : ∀ kk, (Value.slice o4 (st1.ops ++ [((k, f, a, s) : FOp)]).length c4).ownBlock = some kk → U1 kk ∨ w3.heap.size ≤ kk := fun kk hk => by
          rcases hat4 with h1 | h1
          · exact .inl (HVW.out kk (by rw [← h1]; exact hk))
          · rw [h1] at hk; simp only [Option.some.injEq] at hk; exact .inr (by rw [← hk]; exact HBX.out.size)
        have e4 : (st1.ops ++ [((k, f, a, s) : FOp)]).length = st1.ops.length + 1 := by simp
        rw [e4] at h9 hvo
        obtain ⟨w5, hw5⟩ : ∃ w5, w5 = w4.setCell ⟨S, 6, none⟩ (.slice o4 (st1.ops.length + 1) c4) := ⟨_, rfl⟩
        rw [← hw5] at h9
        have HFX : Hid (Frm U1 w3 w5) := by
          rw [hw5]
          exact frm_setCell ((Frm.of_below (F := U1) HBX.out).trans (Frm.of_grown (F := U1) hg4 HVW.out) (fun i _ h => h)) HSU.out _
        have z0 := HFX.out.cell HZU.out Z0.out; have z1 := HFX.out.cell HZU.out Z1.out
        have R0 := HFX.out.ownc HR1.out R0.out; have R1 := HFX.out.ownc HR1.out R1.out
        obtain ⟨⟨v0, y0⟩, f0⟩ := R0
        obtain ⟨⟨v1, y1⟩, f1⟩ := R1
        have hz := World.block_lt_of_cell? _ _ y0
        simp only at hz
        have HF5 : Hid (Frm U w w5) := HF3.out.trans HFX.out (fun i hi h => (HU1.out i h).elim id (fun h => by omega))
        have HS5 := hid (⟨D', vp, vq, va, _, vd, vk, us, ks, h9⟩ : So w5 _ S _)
        have HU5 : Hid (∀ kk, (U1 kk ∨ (Value.slice o4 (st1.ops.length + 1) c4).ownBlock = some kk) → U kk ∨ w.heap.size ≤ kk) := fun kk hk => by
          rcases hk with hk | hk
          · exact HU1.out kk hk
          · rcases hvo kk hk with h1 | h1
            · exact HU1.out kk h1
            · exact .inr (by have := HF3.out.size; omega)
        have HR5 : Hid (¬ (U1 W.heap.size ∨ (Value.slice o4 (st1.ops.length + 1) c4).ownBlock = some W.heap.size)) := fun hk => by
          rcases hk with hk | hk
          · exact HR1.out hk
          · rcases hvo _ hk with h1 | h1
            · exact HR1.out h1
            · have := HZR.out; have := World.block_lt_of_cell? _ _ Z0.out; simp only at this; omega
        rw [← hw5]
        clear hw5 h9 hvo hX HBX HCA hg4 ho4 hat4 O6 HFX
        go_wp2_with fail
        rw [HE.out]
        exact bodyPost_ret (v := .tuple #[.agg #[strV x.1, strV x.2], .int .i64 0]) (by simp [results, Tryz.results18, go_sem, y0, y1, f0, f1, hz]) rfl ⟨rfl, do_end HS5.out HF5.out HU5.out HR5.out HBW.out.size _ _⟩
  · have HE := hid (HER.out hE)
    have hEb : (E == 0) = false := by simpa using hE
    obtain ⟨⟨v0, y0⟩, f0⟩ := R0.out
    obtain ⟨⟨v1, y1⟩, f1⟩ := R1.out
    have hz := World.block_lt_of_cell? _ _ y0
    simp only at hz
    clear HOK HER
    go_wp2_with fail
    rw [HE.out.1]
    have h2 := HS2.out
    rw [HE.out.2] at h2
    exact bodyPost_ret (v := .tuple #[.agg #[strV x.1, strV x.2], .int .i64 E]) (by simp [results, Tryz.results18, go_sem, y0, y1, f0, f1, hz]) rfl ⟨rfl, do_end h2 HF2.out HU1.out HR1.out HBW.out.size _ _⟩
end Go.Proofs.YtifcgimpgbeocaaGreat
