/- fill (55): the walk. -/
import Derived.Test.YtcfmimfkaabmkaaQ5
import Derived.Test.YtcfmimfkaabmkaaN3
set_option linter.unusedVariables false
set_option linter.unusedSimpArgs false
namespace Go.Proofs.Ytcfmimfkaabmkaa
open Go.RowKit
attribute [local go_sem] Oper.semAt_some
attribute [local irreducible] num
theorem under64 : Try.prog.underlying 64 = some (.slice 3) := by kernel_rfl
theorem info3 : (Try.prog.info? 3).map (fun i => (i.zero, i.size, i.bytes)) = some (some (.int .i64 0), 1, 8) := by kernel_rfl
def encI (xs : List Nat) : List Value := xs.map (fun x : Nat => .int .i64 (x : Int))
/-- The slice v is the call's own, and holds these numbers. -/
def OI (w : World) (B : Nat) (v : Value) (xs : List Nat) : Prop := w.ownsRow B 3 1 v xs.length (encI xs)
theorem OI.below {w w' : World} {B : Nat} {v : Value} {xs : List Nat} (h : OI w B v xs) (hb : Below w.heap.size w w') : OI w' B v xs :=
  World.ownsRow.kept (row := none) h (below_grow hb none) (by cases v.ownBlock <;> simp)
theorem oi_new (w : World) (B : Nat) (hB : B ≤ w.heap.size) : OI (w.alloc (.cells #[] 3)) B (.slice (some ⟨w.heap.size, 0, none⟩) 0 0) [] := World.ownsRow_lit w #[] 0 hB (by decide) rfl
theorem OI.own {w : World} {B : Nat} {v : Value} {xs : List Nat} (h : OI w B v xs) : ∀ k, v.ownBlock = some k → B ≤ k := fun k hk => (World.ownsRow.lt h k hk).1
/-- append(v, a number). -/
theorem app_int {ops : Array Oper} {rest : List Oper} {o : Oper} {a : Act} {Q : Exit → Act → World → Prop} {w : World} (hgd : o.guard = none) (s x : Operand)
    (ho : o.op = .call { callee := .builtin .append, args := #[s, x], argTypes := #[64, 64] }) (B : Nat) (v : Value) (xs : List Nat) (t : Nat) (g c : Nat)
    (hs : a.eval s = v) (hx : a.eval x = .slice (some ⟨g, 0, none⟩) 1 c) (hP : OI w B v xs) (c0 : w.cell? ⟨g, 0, none⟩ = some (.int .i64 (t : Int))) (hn : xs.length ≤ 1000000) (hb : B ≤ w.heap.size)
    (h : ∀ v' w', OI w' B v' (xs ++ [t]) → w.grownBy w' v.ownBlock → wpList Try.prog ops Q rest (a.put o.dst v') w') : wpList Try.prog ops Q (o :: rest) a w := by
  obtain ⟨i0, hi, hz0, hz1, hz2⟩ := info_parts info3
  refine wpList_append_own _ hgd s x 64 ho B 3 i0 (.int .i64 0) 1 8 under64 hi hz0 hz1 hz2 rfl (by decide) v xs.length (encI xs) hs hP ⟨g, 0, none⟩ 1 c [.int .i64 (t : Int)] hx rfl ?_ ?_ (by unfold maxLen; omega) (by omega) hb ?_
  · intro j u hj
    match j, hj with
    | 0, hj => simp at hj; subst hj; exact c0
  · intro u hu; simp at hu; subst hu; rfl
  · intro v' w' hown hg _
    refine h v' w' ?_ hg
    unfold OI encI
    rw [List.map_append, List.length_append]
    exact hown
/-- The own row of numbers is no row of pieces. -/
theorem oi_ne {w : World} {B X : Nat} {v : Value} {xs : List Nat} {o : Obj} {cs : Array Value} (h : OI w B v xs) (hX : w.heap[X]? = some o) (ho : o = .cells cs 37) : some X ≠ v.ownBlock := by
  obtain ⟨-, ⟨rfl, -⟩ | ⟨g, cap, cur, rfl, -, hg, -⟩⟩ := h
  · simp [Value.ownBlock]
  · intro e
    simp [Value.ownBlock] at e
    subst e
    rw [hg] at hX
    cases hX
    cases ho
theorem exO_step : ∀ (k : Nat) (lay : Lay) (e p : Nat) (s : List UInt8), lay[k]? = some (p, s) → exO e (lay.take (k + 1)) = exO e (lay.take k) ++ (if endK e lay k + 24 ≤ p then [endK e lay k + 8] else [])
  | _, [], e, p, s, h => by simp at h
  | 0, (p', s') :: r, e, p, s, h => by
    simp only [List.getElem?_cons_zero, Option.some.injEq, Prod.mk.injEq] at h
    obtain ⟨rfl, rfl⟩ := h
    simp [exO, endK, endOf]
  | k + 1, (p', s') :: r, e, p, s, h => by
    simp only [List.getElem?_cons_succ] at h
    have ih := exO_step k r (p' + upN s'.length) p s h
    rw [List.take_succ_cons, exO, ih, List.take_succ_cons, exO, List.append_assoc]
    rfl
theorem exO_len : ∀ (lay : Lay) (e : Nat), (exO e lay).length ≤ lay.length
  | [], _ => Nat.le_refl _
  | (p, s) :: r, e => by
    have := exO_len r (p + upN s.length)
    rw [exO, List.length_append, List.length_cons]
    split <;> simp <;> omega
theorem pre_rl {l : List UInt8} {lay : Lay} (h : Area l lay) : ∀ {k : Nat}, k ≤ lay.length → (render l.length (preL k 8 lay)).length = l.length
  | 0, _ => render_length (by trivial) (by have := h.1; show 8 ≤ _; omega)
  | k + 1, hk => render_length (pre_area h hk).1.2.2.1 (fill_block.pre_len h hk)
theorem f1_rl {l : List UInt8} {lay : Lay} (h : Area l lay) {k p : Nat} {s : List UInt8} (hx : lay[k]? = some (p, s)) : (render l.length (preL k 8 lay ++ exL (endK 8 lay k) p)).length = l.length := by
  have hlt : k < lay.length := (List.getElem?_eq_some_iff.1 hx).1
  have h1 := fill_block.pre_len h hlt
  have h2 := (pre_area h hlt).1.2.2.1
  rw [pre_step k lay 8 p s hx, ← List.append_assoc] at h1 h2
  obtain ⟨k1, k2⟩ := (ok_append _ _ _ _).1 h2
  have h3 := endOf_ge k2
  rw [endOf_append] at h1
  exact render_length k1 (by omega)
def FillPost (l : List UInt8) (lay : Lay) (w : World) (e : Ending) (w' : World) : Prop :=
  ∃ v, e = .returned (.tuple #[.string ⟨(render l.length (preL lay.length 8 lay)).toArray⟩, v, .bool true]) ∧ OI w' w.heap.size v (exO 8 lay) ∧ Below w.heap.size w w'
set_option maxHeartbeats 8000000 in
set_option maxRecDepth 100000 in
theorem fill_any (l : List UInt8) (lay : Lay) (v : Value) (w : World) (hA : Area l lay) (hR : RP w v (psOf (itsOf lay))) :
    Calls Try.prog 55 #[.int .i64 (l.length : Int), v] w (FillPost l lay w) := by
  obtain ⟨o, cap, rfl, hc⟩ := hR
  have hlen : (psOf (itsOf lay)).length = lay.length := by rw [psOf_its, List.length_map]
  rw [hlen]
  have hl1 := hA.1
  have hl2 := hA.2.1
  have hml := (area_num4 hA).2
  have hnew : ∀ w, Calls Try.prog 27 #[.int .i64 (l.length : Int)] w (fun e w' => e = .returned (.tuple #[.string ⟨(zs l.length).toArray⟩, .int .i64 0]) ∧ Below w.heap.size w w') := fun w => by
    have h1 := new_any l.length w
    have h2 : newS (l.length : Int) = (zs l.length, 0) := by unfold newS; rw [if_neg (by omega), Int.toNat_natCast]
    unfold NewPost at h1
    rw [h2] at h1
    exact h1
  have hal : ∀ (L : Lay) (r : List UInt8 × Int × Int) (n : Int), Area (render l.length L) L → (render l.length L).length = l.length → allocA l.length L n = r → ∀ w, Calls Try.prog 20 #[.string ⟨(render l.length L).toArray⟩, .int .i64 n] w (fun e w' => e = .returned (.tuple #[.string ⟨r.1.toArray⟩, .int .i64 r.2.1, .int .i64 r.2.2]) ∧ Below w.heap.size w w') := fun L r n ha hl hr w => by
    have := alloc_any (render l.length L) n L w ha
    rw [hl, hr] at this
    exact this
  have HFB := hid (fun k p s (hx : lay[k]? = some (p, s)) => fill_block hA hx)
  have HFG := hid (fun k p s (hx : lay[k]? = some (p, s)) hg => fill_gap hA hx hg)
  have HLE := hid (fun k p s (hx : lay[k]? = some (p, s)) => lay_end hA.2.2.1 hx)
  have HPA := hid (fun k hk => (pre_area hA (k := k) hk).1)
  have HAL := hid hal; have HRL := hid (fun k p s (hx : lay[k]? = some (p, s)) => f1_rl hA hx); have HRP := hid (fun k (hk : k ≤ lay.length) => pre_rl hA hk); have HNW := hid hnew
  have hen := hA.2.2.2.1
  have hr0 : render l.length (preL 0 8 lay) = zs l.length := render_nil _ (by omega)
  have HR0 := hid hr0
  obtain ⟨m, hm⟩ : ∃ m, lay.length = m := ⟨_, rfl⟩
  rw [hm] at hml ⊢
  have HM := hid hm
  have HC := hid hc
  have HEN : Hid (endOf 8 lay ≤ 8192) := by unfold Hid; omega
  clear hc hlen hal hnew hr0 hm hen
  go_enter Try.func55, Try.ntmps55
  go_wp2_with fail
  refine (HNW.out _).mono ?_
  rintro e w1 ⟨rfl, hb1⟩
  have HB1 := hid hb1
  have hz1 := hb1.size
  clear hb1
  go_wp2_with fail
  have hos0 : OI (w1.alloc (.cells #[] 3)) w.heap.size (.slice (some ⟨w1.heap.size, 0, none⟩) 0 0) [] := oi_new w1 w.heap.size hz1
  have hbw : Below w.heap.size w (w1.alloc (.cells #[] 3)) := HB1.out.alloc hz1 _
  obtain ⟨W0, hW0⟩ : ∃ W0, w1.alloc (.cells #[] 3) = W0 := ⟨_, rfl⟩
  obtain ⟨vx, hvx⟩ : ∃ vx : Value, (.slice (some ⟨w1.heap.size, 0, none⟩) 0 0) = vx := ⟨_, rfl⟩
  rw [hW0] at hos0 hbw ⊢
  rw [hvx] at hos0 ⊢
  have HOS0 := hid hos0; have HBW := hid hbw
  clear hos0 hbw hW0 hvx
  rw [← HR0.out]
  obtain ⟨B, hB⟩ : ∃ B, w.heap.size = B := ⟨_, rfl⟩
  have HBB := hid hB
  rw [hB] at HOS0 HBW
  have hBz : B ≤ W0.heap.size := by have := HBW.out.size; omega
  go_loopw [7, 9, 10, 31] (fun a x en i wr => ∃ k : Nat, a = .string ⟨(render l.length (preL k 8 lay)).toArray⟩ ∧ en = .int .i64 ((endK 8 lay k : Nat) : Int) ∧ i = .int .i64 k ∧ k ≤ m ∧ B ≤ wr.heap.size ∧ Hid (OI wr B x (exO 8 (lay.take k))) ∧ Hid (Below B w wr)) (fun _ _ _ i _ => m - (intOf i).toNat)
  case atStart => exact ⟨0, rfl, rfl, rfl, Nat.zero_le _, hBz, HOS0, HBW⟩
  case round =>
    clear HOS0 HBW hBz
    obtain ⟨k, rfl, rfl, rfl, hk, hzr, HOI, HBR⟩ := hrel
    by_cases hlt : k < m
    · obtain ⟨⟨p, s⟩, hx⟩ : ∃ x, lay[k]? = some x := ⟨_, List.getElem?_eq_getElem (by have := HM.out; omega)⟩
      have hxp : (psOf (itsOf lay))[k]? = some ((p : Int), (s.length : Int)) := by rw [psOf_its, List.getElem?_map, hx]; rfl
      have hHC := HC.out
      rcases hHC with hc | ⟨b, off, rfl, hbl, hc⟩
      · rw [hc] at hxp; simp at hxp
      obtain ⟨c0, c1⟩ := hc k _ hxp
      have c0 := keepB HBR.out (by simp only; omega) c0
      have c1 := keepB HBR.out (by simp only; omega) c1
      simp only at c0 c1
      obtain ⟨e1, e2, e3, e4, e5, e6, e7⟩ := HLE.out k p s hx
      have e8 := HEN.out
      have hXS := exO_step k lay 8 p s hx
      have hrl := HRL.out k p s hx
      have HX := hid hx
      have HCC := hid hc
      obtain ⟨en, hen⟩ : ∃ en, endK 8 lay k = en := ⟨_, rfl⟩
      have HFBK := hid (HFB.out k p s hx)
      have HFGK := hid (HFG.out k p s hx)
      rw [hen] at e1 e7 hXS HFBK HFGK hrl ⊢
      obtain ⟨b1, b2, b3, b4⟩ := HFBK.out
      have HA1 := hid b4
      have HAB := hid (HAL.out _ _ _ b4 hrl b1)
      obtain ⟨F1, hF1⟩ : ∃ F1, render l.length (preL k 8 lay ++ exL en p) = F1 := ⟨_, rfl⟩
      obtain ⟨sz, hsz⟩ : ∃ sz, szL p s (lay.drop (k + 1)) = sz := ⟨_, rfl⟩
      rw [hF1] at HAB
      rw [hsz] at HAB b2 b3
      have HSZ := hid hsz
      have HXS := hid hXS
      have hub := upN_bd s.length
      have h8 := upN_8 s.length
      obtain ⟨G, hG⟩ : ∃ G : Nat, p - 8 - en = G := ⟨_, rfl⟩
      have hGi : (p : Int) - 8 - (en : Int) = (G : Int) := by omega
      have HE4 := hid e4
      have hxl : (exO 8 (lay.take k)).length ≤ 8192 := Nat.le_trans (exO_len _ _) (by rw [List.length_take]; omega)
      clear b1 b4 hrl hXS hx hxp hc hsz e4 hen HFB HFG HFBK
      go_upto_if 42 with (fail)
      go_cut [7, 9] (fun a x wx => a = .string ⟨F1.toArray⟩ ∧ B ≤ wx.heap.size ∧ Hid (OI wx B x (exO 8 (lay.take (k + 1)))) ∧ Hid (Below B w wx) ∧ wx.cell? ⟨wr.heap.size, 0, none⟩ = some (.int .i64 (p : Int)) ∧ wx.cell? ⟨wr.heap.size, 1, none⟩ = some (.int .i64 (s.length : Int)))
      case first =>
        have T0 : (wr.alloc (.cells #[.int .i64 (p : Int), .int .i64 (s.length : Int)] 37)).cell? ⟨wr.heap.size, 0, none⟩ = some (.int .i64 (p : Int)) := cell_new _ _ _ 0 _ rfl
        have T1 : (wr.alloc (.cells #[.int .i64 (p : Int), .int .i64 (s.length : Int)] 37)).cell? ⟨wr.heap.size, 1, none⟩ = some (.int .i64 (s.length : Int)) := cell_new _ _ _ 1 _ rfl
        have HOIA := hid (HOI.out.below ((Below.refl _ _).alloc (Nat.le_refl _) (.cells #[.int .i64 (p : Int), .int .i64 (s.length : Int)] 37)))
        have HBA := hid (HBR.out.alloc hzr (.cells #[.int .i64 (p : Int), .int .i64 (s.length : Int)] 37))
        have HTT := hid (heap_alloc_new wr (.cells #[.int .i64 (p : Int), .int .i64 (s.length : Int)] 37))
        have hzX : wr.heap.size < (wr.alloc (.cells #[.int .i64 (p : Int), .int .i64 (s.length : Int)] 37)).heap.size := by rw [World.size_alloc]; omega
        obtain ⟨W1, hW1⟩ : ∃ W1, wr.alloc (.cells #[.int .i64 (p : Int), .int .i64 (s.length : Int)] 37) = W1 := ⟨_, rfl⟩
        rw [hW1] at T0 T1 HOIA HBA HTT hzX ⊢
        have hz1 : B ≤ W1.heap.size := by omega
        clear hW1 c0 c1
        by_cases hg : en + 24 ≤ p
        · have g1 : decide (16 ≤ (G : Int)) = true := by simp; omega
          obtain ⟨d1, d2⟩ := HFGK.out hg
          have hPL := HRP.out k (by rw [HM.out]; exact hk)
          have hPA := HPA.out k (by rw [HM.out]; exact hk)
          rw [hF1] at d1
          have hcal := HAL.out _ _ _ hPA hPL d1
          have hgz : ((p - 8 - en - 8 : Nat) : Int) = (G : Int) - 8 := by omega
          rw [hgz] at hcal
          have HCAL := hid hcal
          have HXS2 : Hid (exO 8 (lay.take (k + 1)) = exO 8 (lay.take k) ++ [en + 8]) := by unfold Hid; rw [HXS.out, if_pos hg]
          clear d1 d2 hcal hPA hPL hgz
          go_wp2_with fail
          refine (HCAL.out _).mono ?_
          rintro e w2 ⟨rfl, hb2⟩
          have T0 := keepc hb2 T0; have T1 := keepc hb2 T1
          have HOI2 := hid (HOIA.out.below hb2)
          have HB2 := hid (HBA.out.trans (hb2.mono hz1))
          have hz2 : B ≤ w2.heap.size := by have := hb2.size; omega
          have HT2 : Hid (w2.heap[wr.heap.size]? = some (.cells #[.int .i64 (p : Int), .int .i64 (s.length : Int)] 37)) := by
            unfold Hid; rw [hb2.block _ hzX]; exact HTT.out
          clear hb2
          go_upto_region 16 with (at_builtin; refine app_int rfl _ _ rfl B _ (exO 8 (lay.take k)) (en + 8) _ _ rfl rfl (HOI2.out.below ((Below.refl _ _).alloc (Nat.le_refl _) _)) (cell_new _ _ _ 0 _ rfl) (by omega) (by simp; omega) ?_)
          intro v7 w7 hoi7 hg7
          have T0 := hg7.cell (keep_alloc T0 _) (oi_ne (HOI2.out) HT2.out rfl)
          have T1 := hg7.cell (keep_alloc T1 _) (oi_ne (HOI2.out) HT2.out rfl)
          rw [← HXS2.out] at hoi7
          have hz7 : B ≤ w7.heap.size := by have := hg7.size; simp at this; omega
          have HB7 : Hid (Below B w w7) := (HB2.out.trans ((Below.refl B _).alloc hz2 _)).grown hg7 (by simp; omega) (HOI2.out.own)
          have HOI7 := hid hoi7; clear hoi7 hg7
          go_wp2_with fail
          go_meet
          case rel => exact ⟨rfl, hz7, HOI7, HB7, T0, T1⟩
        · have g1 : decide (16 ≤ (G : Int)) = false := by simp; omega
          have hF0 : render l.length (preL k 8 lay) = F1 := by rw [← hF1, exL_no hg, List.append_nil]
          have HXS2 : Hid (OI W1 B u9 (exO 8 (lay.take (k + 1)))) := by unfold Hid; rw [HXS.out, if_neg hg, List.append_nil]; exact HOIA.out
          rw [hF0]
          go_wp2_with fail
          go_meet
          case rel => exact ⟨rfl, hz1, HXS2, HBA, T0, T1⟩
      case rest =>
        obtain ⟨rfl, hzc, HOIC, HBC, T0, T1⟩ := hcut
        obtain ⟨U, hU⟩ : ∃ U, upN s.length = U := ⟨_, rfl⟩
        rw [hU] at e3 hub h8 HE4
        have hq8 : ((s.length : Int) + 7).tdiv 8 = ((s.length : Int) + 7) / 8 := Int.tdiv_eq_ediv_of_nonneg (by omega)
        have hup : ((s.length : Int) + 7) / 8 * 8 = (U : Int) := by rw [← hU]; unfold upN; omega
        have HU := hid hU
        clear hU
        by_cases hk1 : k + 1 < m
        · obtain ⟨⟨p', s'⟩, hy⟩ : ∃ x, lay[k + 1]? = some x := ⟨_, List.getElem?_eq_getElem (by have := HM.out; omega)⟩
          have hyp : (psOf (itsOf lay))[k + 1]? = some ((p' : Int), (s'.length : Int)) := by rw [psOf_its, List.getElem?_map, hy]; rfl
          obtain ⟨y0, -⟩ := HCC.out (k + 1) _ hyp
          have y0 := keepB HBC.out (by simp only; omega) y0
          simp only at y0
          obtain ⟨f1, f2, f3, -, -, f6, -⟩ := HLE.out (k + 1) p' s' hy
          rw [HE4.out] at f1
          have hsv : sz = if p' = p + U + 16 then U + 8 else s.length := by rw [← HSZ.out, drop_at hy, ← HU.out]; rfl
          have d1 : decide ((k : Int) + 1 < (m : Int)) = true := by simp; omega
          by_cases he8 : p' = p + U + 16
          · rw [if_pos he8] at hsv
            have d2 : ((p' : Int) - 8 - ((p : Int) + (U : Int)) == 8) = true := by rw [beq_iff_eq]; omega
            have hzi : ((sz : Nat) : Int) = (p : Int) + (U : Int) - (p : Int) + 8 := by omega
            have HABX := HAB
            rw [hzi] at HABX
            clear hyp hy hsv hzi he8 HAB
            go_wp2_with fail
            refine (HABX.out _).mono ?_
            rintro e w9 ⟨rfl, hb9⟩
            have T0 := keepc hb9 T0
            have HOI9 := hid (HOIC.out.below hb9)
            have HB9 := hid (HBC.out.trans (hb9.mono hzc))
            have hz9 : B ≤ w9.heap.size := by have := hb9.size; omega
            clear hb9
            go_wp2_with fail
            go_roundw
            case rel => exact ⟨k + 1, rfl, by rw [HE4.out]; congr 1, by first | rfl | go_num, by omega, hz9, HOI9, HB9⟩
            case measure => simp [intOf]; omega
          · rw [if_neg he8] at hsv
            have d2 : ((p' : Int) - 8 - ((p : Int) + (U : Int)) == 8) = false := by rw [beq_eq_false_iff_ne]; omega
            have HABX := HAB
            rw [hsv] at HABX
            clear hyp hy hsv he8 HAB
            go_wp2_with fail
            refine (HABX.out _).mono ?_
            rintro e w9 ⟨rfl, hb9⟩
            have T0 := keepc hb9 T0
            have HOI9 := hid (HOIC.out.below hb9)
            have HB9 := hid (HBC.out.trans (hb9.mono hzc))
            have hz9 : B ≤ w9.heap.size := by have := hb9.size; omega
            clear hb9
            go_wp2_with fail
            go_roundw
            case rel => exact ⟨k + 1, rfl, by rw [HE4.out]; congr 1, by first | rfl | go_num, by omega, hz9, HOI9, HB9⟩
            case measure => simp [intOf]; omega
        · have d1 : decide ((k : Int) + 1 < (m : Int)) = false := by simp; omega
          have hsv : sz = s.length := by rw [← HSZ.out, List.drop_eq_nil_of_le (by have := HM.out; omega)]; rfl
          have HABX := HAB
          rw [hsv] at HABX
          clear hsv HAB
          go_wp2_with fail
          refine (HABX.out _).mono ?_
          rintro e w9 ⟨rfl, hb9⟩
          have T0 := keepc hb9 T0
          have HOI9 := hid (HOIC.out.below hb9)
          have HB9 := hid (HBC.out.trans (hb9.mono hzc))
          have hz9 : B ≤ w9.heap.size := by have := hb9.size; omega
          clear hb9
          go_wp2_with fail
          go_roundw
          case rel => exact ⟨k + 1, rfl, by rw [HE4.out]; congr 1, by first | rfl | go_num, by omega, hz9, HOI9, HB9⟩
          case measure => simp [intOf]; omega
    · have hkm : k = m := by omega
      subst hkm
      have HX1 : Hid (OI wr B u9 (exO 8 lay)) := by have h := HOI.out; rw [List.take_of_length_le (by have := HM.out; omega)] at h; exact h
      go_wp2_with fail
      refine bodyPost_ret (v := .tuple #[.string ⟨(render l.length (preL k 8 lay)).toArray⟩, u9, .bool true]) (by simp [results, Try.results55, go_sem]) rfl ?_
      unfold FillPost
      rw [HBB.out, HM.out]
      exact ⟨_, rfl, HX1.out, HBR.out⟩
end Go.Proofs.Ytcfmimfkaabmkaa
