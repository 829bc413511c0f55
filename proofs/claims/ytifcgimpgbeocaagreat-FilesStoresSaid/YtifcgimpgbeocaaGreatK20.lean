/- copies. -/
import Derived.Test.YtifcgimpgbeocaaGreatK10
import Derived.Test.YtifcgimpgbeocaaGreatK6
import Derived.Test.YtifcgimpgbeocaaGreatK12
import Derived.Test.YtifcgimpgbeocaaGreatK11
import Derived.Test.YtifcgimpgbeocaaGreatK7
import Derived.Test.YtifcgimpgbeocaaGreatK5
set_option linter.unusedVariables false
set_option linter.unusedSimpArgs false
namespace Go.Proofs.YtifcgimpgbeocaaGreat
open Go.RowKit
attribute [local go_sem] Oper.semAt_some
/-- A call that returns datasets, all of it new. -/
def RetD (l : List Ds) (w : World) (e : Ending) (w' : World) : Prop := ∃ v, e = .returned v ∧ OD w' w.heap.size v l ∧ Below w.heap.size w w'
set_option maxHeartbeats 1000000 in
set_option maxRecDepth 100000 in
theorem copies_any (l : List Ds) (v : Value) (w : World) (hR : RdD w v l) (hl : l.length ≤ 1000000) (hl2 : ∀ d ∈ l, d.length ≤ 1000000000) : Calls Tryz.prog 40 #[v] w (RetD l w) := by
  obtain ⟨op, cap, rfl, hcap, hc⟩ := hR
  have HC := hid hc
  have HL := hid hl2
  obtain ⟨M, hM⟩ : ∃ M, l.length = M := ⟨_, rfl⟩
  have HM := hid hM
  rw [hM] at hl hcap ⊢
  have HB0 := hid (Below.refl w.heap.size w)
  have HI0 : Hid (OD w w.heap.size (.slice none 0 0) (l.take 0)) := oD_nil _ _
  clear hc hl2 hM
  go_enter Tryz.func40, Tryz.ntmps40
  go_wp2_with fail
  go_loopw [3, 8] (fun v i wr => ∃ k : Nat, i = .int .i64 k ∧ k ≤ M ∧ Hid (OD wr w.heap.size v (l.take k)) ∧ Hid (Below w.heap.size w wr)) (fun _ i _ => M - (intOf i).toNat)
  case atStart => exact ⟨0, rfl, Nat.zero_le _, HI0, HB0⟩
  case round =>
    obtain ⟨k, rfl, hk, HI, HB⟩ := hrel
    by_cases hlt : k < M
    · obtain ⟨x, hx⟩ : ∃ x, l[k]? = some x := ⟨_, List.getElem?_eq_getElem (by have := HM.out; omega)⟩
      have hHC := HC.out
      rcases hHC with hq | ⟨b, off, rfl, hbq, hq⟩
      · rw [hq] at hx; simp at hx
      obtain ⟨u, c0, hu⟩ := hq k x hx
      have c0 := keepB HB.out (a := ⟨b, off + k, none⟩) hbq c0
      have HCL := hid (fun w' hb => cloneR_any x u w' (hu.below hb) (HL.out x (List.mem_of_getElem? hx)))
      have HST : Hid (l.take (k + 1) = l.take k ++ [x]) := by unfold Hid; rw [List.take_add_one, hx]; rfl
      obtain ⟨us, hU1, hU2, hU3⟩ := HI.out
      have hul : us.length ≤ 1000000 := by rw [hU1, List.length_take]; omega
      have HU2 := hid hU2; have HU3 := hid hU3; have HU1 := hid hU1
      obtain ⟨o2, c2, rfl⟩ : ∃ o c, u3 = .slice o us.length c := by
        obtain ⟨-, ⟨e, h0⟩ | ⟨g, cp, cur, e, -⟩⟩ := hU2
        · exact ⟨none, 0, by rw [h0]; exact e⟩
        · exact ⟨_, _, e⟩
      clear hq hu hx hU1 hU2 hU3
      go_wp2_with fail
      refine (HCL.out _ HB.out).mono ?_
      rintro e w1 ⟨u4, rfl, ho4, hb1⟩
      have HB1 := hid (below_step hb1 HB.out)
      have HO4 := hid (ho4.mono HB.out.size)
      have HU2 := hid (HU2.out.below hb1)
      have HU3 : Hid (∀ (i : Nat) (u : Value) (d : Ds), us[i]? = some u → (l.take k)[i]? = some d → OR w1 w.heap.size u d) := fun i u d h1 h2 => (HU3.out i u d h1 h2).below hb1
      obtain ⟨o4, c4, rfl⟩ : ∃ o c, u4 = .slice o x.length c := by obtain ⟨o, c, e, -⟩ := ho4.rd; exact ⟨o, c, e⟩
      have hz1 := HB1.out.size
      clear hb1 ho4
      have HY := hid (cell_new w1 #[.slice o4 x.length c4] 69 0 _ rfl)
      have HW1 := hid (balloc (Below.refl w1.heap.size w1) (.cells #[.slice o4 x.length c4] 69))
      go_wp2_with (at_builtin; refine appV rfl _ _ rfl w.heap.size _ us (.slice o4 x.length c4) _ _ rfl rfl (HU2.out.below HW1.out) HY.out rfl hul (Nat.le_trans hz1 HW1.out.size) ?_)
      intro v5 w5 hv5 hg5
      have HV5 := hid hv5
      have hw5 : Below w.heap.size w w5 := OV.grown (HU2.out.below HW1.out) (HB1.out.trans (HW1.out.mono hz1)) hg5 (Nat.le_trans hz1 HW1.out.size)
      have HD5 : Hid (OD w5 w.heap.size v5 (l.take (k + 1))) := by
        refine ⟨_, ?_, hv5, ?_⟩
        · rw [HST.out, List.length_append, List.length_append, HU1.out]; rfl
        · have hlt' : us.length = (l.take k).length := HU1.out
          intro i u d hu hd
          rw [HST.out] at hd
          have hrow : ∀ y, OR w1 w.heap.size u y → OR w5 w.heap.size u y := fun y hy => World.ownsRow.kept (hy.below HW1.out) hg5 (rows_apart (hy.below HW1.out) (HU2.out.below HW1.out) (by decide))
          by_cases hi : i < us.length
          · rw [List.getElem?_append_left hi] at hu
            rw [List.getElem?_append_left (by omega)] at hd
            exact hrow _ (HU3.out i u d hu hd)
          · rw [List.getElem?_append_right (by omega)] at hu hd
            rw [← hlt'] at hd
            match hii : i - us.length with
            | 0 => rw [hii] at hu hd; simp only [List.getElem?_cons_zero, Option.some.injEq] at hu hd; subst hu hd; exact hrow _ HO4.out
            | j + 1 => rw [hii] at hu; simp at hu
      have HW5 := hid hw5
      clear hv5 hg5 hw5 HY hz1
      go_wp2_with fail
      go_roundw
      case rel => exact ⟨k + 1, by go_num, by omega, HD5, HW5⟩
      case measure => simp [intOf]; omega
    · have hkM : k = M := by omega
      subst hkM
      have HT : Hid (l.take k = l) := List.take_of_length_le (by rw [HM.out]; exact Nat.le_refl _)
      rw [HT.out] at HI
      go_wp2_with fail
      go_ret
      exact ⟨_, rfl, HI.out, HB.out⟩
end Go.Proofs.YtifcgimpgbeocaaGreat
/- Data, Kept, Disk, Acts, Undo. -/
set_option linter.unusedVariables false
set_option linter.unusedSimpArgs false
namespace Go.Proofs.YtifcgimpgbeocaaGreat
open Go.RowKit
attribute [local go_sem] Oper.semAt_some
theorem allDs_bd {l : List Ds} (h : AllDs l) : ∀ d ∈ l, d.length ≤ 1000000000 := fun d hd => Nat.le_trans (isDs_len (h d hd)) (by decide)
set_option maxRecDepth 100000 in
theorem data_any (U : Nat → Prop) (S : Nat) (st : St) (w : World) (h : So w U S st) (hl : st.now.length ≤ 8) (ha : AllDs st.now) : Calls Tryz.prog 12 #[.pointer (some ⟨S, 0, none⟩)] w (RetD st.now w) := by
  obtain ⟨D, vp, vq, va, vw, vd, vk, us, ks, h⟩ := h
  have HC := hid (copies_any st.now vd w h.rdNow (by omega) (allDs_bd ha))
  have s7 := h.s7
  obtain ⟨od, cd, hvd, -, -⟩ := h.rdNow
  subst hvd
  clear h
  go_enter Tryz.func12, Tryz.ntmps12
  go_wp2_with fail
  refine HC.out.mono ?_
  rintro e w1 ⟨v, rfl, ho, hb⟩
  have HO := hid ho; have HB := hid hb
  clear ho hb
  go_wp2_with fail
  go_ret
  exact ⟨_, rfl, HO.out, HB.out⟩
set_option maxRecDepth 100000 in
theorem kept_any (U : Nat → Prop) (S : Nat) (st : St) (w : World) (h : So w U S st) (hl : st.kept.length ≤ 8) (ha : AllDs st.kept) : Calls Tryz.prog 13 #[.pointer (some ⟨S, 0, none⟩)] w (RetD st.kept w) := by
  obtain ⟨D, vp, vq, va, vw, vd, vk, us, ks, h⟩ := h
  have HC := hid (copies_any st.kept vk w h.rdKept (by omega) (allDs_bd ha))
  have s8 := h.s8
  obtain ⟨od, cd, hvk, -, -⟩ := h.rdKept
  subst hvk
  clear h
  go_enter Tryz.func13, Tryz.ntmps13
  go_wp2_with fail
  refine HC.out.mono ?_
  rintro e w1 ⟨v, rfl, ho, hb⟩
  have HO := hid ho; have HB := hid hb
  clear ho hb
  go_wp2_with fail
  go_ret
  exact ⟨_, rfl, HO.out, HB.out⟩
set_option maxRecDepth 100000 in
theorem undo_any (U : Nat → Prop) (S : Nat) (st : St) (w : World) (h : So w U S st) (hl : st.kept.length ≤ 8) (ha : AllDs st.kept) : Calls Tryz.prog 22 #[.pointer (some ⟨S, 0, none⟩)] w (StPost U S (.tuple #[]) (undoD st) w) := by
  obtain ⟨D, vp, vq, va, vw, vd, vk, us, ks, h⟩ := h
  have HH := hid h
  have HC := hid (copies_any st.kept vk w h.rdKept (by omega) (allDs_bd ha))
  have s8 := h.s8
  have C6 := hid h.s6; have C7 := hid h.s7
  have F6 := hid (h.fz 6); have F7 := hid (h.fz 7)
  obtain ⟨od, cd, hvk, -, -⟩ := h.rdKept
  subst hvk
  clear h
  go_enter Tryz.func22, Tryz.ntmps22
  go_wp2_with fail
  refine HC.out.mono ?_
  rintro e w1 ⟨v, rfl, ho, hb⟩
  have c6 := keepc hb C6.out; have c7 := keepc hb C7.out; have f6 := keepf hb C6.out F6.out; have f7 := keepf hb C7.out F7.out
  have HP := hid (HH.out.undo_post hb ho (Nat.le_refl _))
  obtain ⟨o1, c1, rfl, -, -⟩ := ho.rd
  clear ho hb
  go_wp2_with fail
  go_end0
  exact ⟨rfl, HP.out⟩
/-- A call that returns acts, all of it new. -/
def RetAc (l : List Ac) (w : World) (e : Ending) (w' : World) : Prop := ∃ v, e = .returned v ∧ OA w' w.heap.size v l ∧ Below w.heap.size w w'
set_option maxRecDepth 100000 in
theorem dacts_any (D : Nat) (vp vq va : Value) (dk : Dk) (acts : List Ac) (w : World) (h : DA w D vp vq va dk acts) (hl : acts.length ≤ 1000000) : Calls Tryz.prog 49 #[.pointer (some ⟨D, 0, none⟩)] w (RetAc acts w) := by
  have HC := hid (cloneA_any acts va w h.oa.rd (by omega))
  have c2 := h.c2
  obtain ⟨od, cd, hva, -, -⟩ := h.oa.rd
  subst hva
  clear h
  go_enter Tryz.func49, Tryz.ntmps49
  go_wp2_with fail
  refine HC.out.mono ?_
  rintro e w1 ⟨v, rfl, ho, hb⟩
  have HO := hid ho; have HB := hid hb
  clear ho hb
  go_wp2_with fail
  go_ret
  exact ⟨_, rfl, HO.out, HB.out⟩
set_option maxRecDepth 100000 in
theorem acts_any (U : Nat → Prop) (S : Nat) (st : St) (w : World) (h : So w U S st) (hl : st.acts.length ≤ 1000000) : Calls Tryz.prog 15 #[.pointer (some ⟨S, 0, none⟩)] w (RetAc st.acts w) := by
  obtain ⟨D, vp, vq, va, vw, vd, vk, us, ks, h⟩ := h
  have HC := hid (dacts_any D vp vq va st.dk st.acts w h.dv hl)
  have s0 := h.s0
  clear h
  go_enter Tryz.func15, Tryz.ntmps15
  go_wp2_with fail
  refine HC.out.mono ?_
  rintro e w1 ⟨v, rfl, ho, hb⟩
  have HO := hid ho; have HB := hid hb
  clear ho hb
  go_wp2_with fail
  go_ret
  exact ⟨_, rfl, HO.out, HB.out⟩
set_option maxHeartbeats 1000000 in
set_option maxRecDepth 100000 in
theorem ddisk_any (D : Nat) (vp vq va : Value) (dk : Dk) (acts : List Ac) (w : World) (h : DA w D vp vq va dk acts) (hl1 : dk.1.length ≤ 4096) (hl : dk.2.length ≤ 1000000) : Calls Tryz.prog 48 #[.pointer (some ⟨D, 0, none⟩)] w (RetD1 dk w) := by
  have HS := hid (fun w' (hb : Below w.heap.size w w') => cloneS_any dk.1 vp w' (h.rp.below hb) (by omega))
  have HW := hid (fun w' (hb : Below w.heap.size w w') => cloneW_any dk.2 vq w' (h.rq.below hb) (by omega))
  have C0 := hid h.c0; have C1 := hid h.c1
  obtain ⟨op, cp, hvp, -, -⟩ := h.rp
  obtain ⟨oq, cq, hvq, -, -⟩ := h.rq
  subst hvp hvq
  clear h hl1 hl
  have HBW := hid (B2.new w 25 (.slice none 0 0) (.slice none 0 0))
  go_enter Tryz.func48, Tryz.ntmps48
  go_wp2_with fail
  go_region_held3 (fun w' => B2 w w.heap.size w' ∧ w'.cell? ⟨D, 0, none⟩ = some (.slice op dk.1.length cp) ∧ w'.cell? ⟨D, 1, none⟩ = some (.slice oq dk.2.length cq))
    ((refine (fun hS => ⟨hS, keepc hS.1 C0.out, keepc hS.1 C1.out⟩ : B2 w w.heap.size _ → _) ?_; first | exact HBW.out.drew | exact (hb4.set (Nat.le_refl _) _ _).set (Nat.le_refl _) _ _ | exact hb4))
    (first
      | (go_at_call 36; refine (HS.out _ (And.left (And.left (by assumption)))).mono ?_; rintro e wa ⟨u1, rfl, ho1, hba⟩; obtain ⟨o1, c1, rfl, -, -⟩ := ho1.rd; have HO1 := hid (OS.mono ho1 (B' := w.heap.size + 1) (B2.lt (And.left (by assumption)))); have hb4 : B2 w w.heap.size wa := B2.below (And.left (by assumption)) hba; clear ho1 hba)
      | (go_at_call 37; refine (HW.out _ (And.left (And.left (by assumption)))).mono ?_; rintro e wb ⟨u2, rfl, ho2, hbb⟩; obtain ⟨o2, c2, rfl, -, -⟩ := ho2.rd; have HO2 := hid (OW.mono ho2 (B' := w.heap.size + 1) (B2.lt (And.left (by assumption)))); have HO1 := hid (HO1.out.below hbb); have hb4 : B2 w w.heap.size wb := B2.below (And.left (by assumption)) hbb; obtain ⟨⟨v0, y0⟩, f0⟩ := hb4.2.1; obtain ⟨⟨v1, y1⟩, f1⟩ := hb4.2.2; clear ho2 hbb)
      | (fail "x"))
  all_goals
    go_wp2_with fail
    have hz4 := hb4.lt
    have n1 : (Value.slice o1 dk.1.length c1).ownBlock ≠ some w.heap.size := fun e => by have := (World.ownsRow.lt HO1.out _ e).1; omega
    have n3 : (Value.slice o2 dk.2.length c2).ownBlock ≠ some w.heap.size := fun e => by have := (World.ownsRow.lt HO2.out _ e).1; omega
    exact bodyPost_ret (v := .agg #[.slice o1 dk.1.length c1, .slice o2 dk.2.length c2]) (by simp [results, Tryz.results48, go_sem, y0, y1, f0, f1, hz4]) rfl
      ⟨_, _, rfl, OS.mono (ownsRow_setCell_other (ownsRow_setCell_other HO1.out n1 _) n1 _) (by omega), OW.mono (ownsRow_setCell_other (ownsRow_setCell_other HO2.out n3 _) n3 _) (by omega), (hb4.1.setCell (by simp) _).setCell (by simp) _⟩
set_option maxHeartbeats 1000000 in
set_option maxRecDepth 100000 in
theorem disk_any (U : Nat → Prop) (S : Nat) (st : St) (w : World) (h : So w U S st) (hl1 : st.dk.1.length ≤ 4096) (hl : st.dk.2.length ≤ 1000000) : Calls Tryz.prog 14 #[.pointer (some ⟨S, 0, none⟩)] w (RetD1 st.dk w) := by
  obtain ⟨D, vp, vq, va, vw, vd, vk, us, ks, h⟩ := h
  have HC := hid (fun w' (hb : Below w.heap.size w w') => ddisk_any D vp vq va st.dk st.acts w' (h.below hb).dv hl1 hl)
  have HBW := hid (B2.new w 25 (.slice none 0 0) (.slice none 0 0))
  have s0 := h.s0
  have s00 := keepc HBW.out.1 s0
  clear h hl1 hl
  go_enter Tryz.func14, Tryz.ntmps14
  go_wp2_with fail
  refine (HC.out _ HBW.out.1).mono ?_
  rintro e w1 ⟨u1, u2, rfl, ho1, ho2, hb1⟩
  have HO1 := hid (OS.mono ho1 (B' := w.heap.size + 1) (by simp)); have HO2 := hid (OW.mono ho2 (B' := w.heap.size + 1) (by simp))
  obtain ⟨o1, c1, rfl, -, -⟩ := ho1.rd
  obtain ⟨o2, c2, rfl, -, -⟩ := ho2.rd
  have hb4 : B2 w w.heap.size w1 := HBW.out.below hb1
  have HB4 := hid hb4
  obtain ⟨⟨v0, y0⟩, f0⟩ := hb4.2.1
  obtain ⟨⟨v1, y1⟩, f1⟩ := hb4.2.2
  have hz4 := hb4.lt
  clear ho1 ho2 hb1 hb4
  go_wp2_with fail
  have n1 : (Value.slice o1 st.dk.1.length c1).ownBlock ≠ some w.heap.size := fun e => by have := (World.ownsRow.lt HO1.out _ e).1; omega
  have n3 : (Value.slice o2 st.dk.2.length c2).ownBlock ≠ some w.heap.size := fun e => by have := (World.ownsRow.lt HO2.out _ e).1; omega
  exact bodyPost_ret (v := .agg #[.slice o1 st.dk.1.length c1, .slice o2 st.dk.2.length c2]) (by simp [results, Tryz.results14, go_sem, y0, y1, f0, f1, hz4]) rfl
    ⟨_, _, rfl, OS.mono (ownsRow_setCell_other (ownsRow_setCell_other HO1.out n1 _) n1 _) (by omega), OW.mono (ownsRow_setCell_other (ownsRow_setCell_other HO2.out n3 _) n3 _) (by omega), (HB4.out.1.setCell (by simp) _).setCell (by simp) _⟩
end Go.Proofs.YtifcgimpgbeocaaGreat
/- Check. -/
set_option linter.unusedVariables false
set_option linter.unusedSimpArgs false
namespace Go.Proofs.YtifcgimpgbeocaaGreat
open Go.RowKit
attribute [local go_sem] Oper.semAt_some
def chkTo (d : Ds) (k : Nat) : Bool := (d.take k).all isRec && incr (d.take k)
theorem incr_snoc : ∀ (l : Ds) (x : Rec), incr (l ++ [x]) = (incr l && match l.getLast? with | some y => ltB y.1 x.1 | none => true)
  | [], x => rfl
  | [a], x => by show (ltB a.1 x.1 && true) = (true && ltB a.1 x.1); simp
  | a :: b :: r, x => by
    have ih := incr_snoc (b :: r) x
    show (ltB a.1 b.1 && incr ((b :: r) ++ [x])) = ((ltB a.1 b.1 && incr (b :: r)) && _)
    rw [ih, Bool.and_assoc, List.getLast?_cons_cons]
def prevOk (d : Ds) (r : Rec) : Nat → Bool
  | 0 => true
  | m + 1 => match d[m]? with
    | some p => ltB p.1 r.1
    | none => true
theorem prevOk_pos {d : Ds} {r p : Rec} {k : Nat} (hk : 0 < k) (h : d[k - 1]? = some p) : prevOk d r k = ltB p.1 r.1 := by
  obtain ⟨m, rfl⟩ : ∃ m, k = m + 1 := ⟨k - 1, by omega⟩
  simp only [Nat.add_sub_cancel] at h
  show (match d[m]? with | some p => ltB p.1 r.1 | none => true) = _
  rw [h]
theorem chkTo_succ {d : Ds} {k : Nat} {r : Rec} (h : d[k]? = some r) : chkTo d (k + 1) = (chkTo d k && (isRec r && prevOk d r k)) := by
  obtain ⟨hk, rfl⟩ := List.getElem?_eq_some_iff.1 h
  unfold chkTo
  rw [List.take_succ_eq_append_getElem hk, List.all_append, incr_snoc]
  have e : (match (d.take k).getLast? with | some y => ltB y.1 (d[k]).1 | none => true) = prevOk d d[k] k := by
    cases k with
    | zero => rfl
    | succ m =>
      have : (d.take (m + 1)).getLast? = d[m]? := by rw [List.getLast?_eq_getElem?, List.length_take, List.getElem?_take_of_lt (by omega)]; congr 1; omega
      rw [this]; rfl
  rw [e]
  simp only [List.all_cons, List.all_nil, Bool.and_true]
  cases (d.take k).all isRec <;> cases incr (d.take k) <;> cases isRec (d[k]) <;> rfl
theorem chkTo_full {d : Ds} (h : d.length ≤ 64) : isDs d = chkTo d d.length := by
  unfold isDs chkTo
  rw [List.take_length]
  simp [h]
theorem incr_take {d : Ds} (k : Nat) (h : incr d = true) : incr (d.take k) = true := (incr_sorted _).2 (((incr_sorted d).1 h).sublist (List.take_sublist _ _))
theorem chkTo_bad {d : Ds} {k : Nat} (h : chkTo d k = false) : isDs d = false := by
  cases e : isDs d with
  | false => rfl
  | true =>
    unfold isDs at e
    simp only [Bool.and_eq_true] at e
    unfold chkTo at h
    have h1 : (d.take k).all isRec = true := List.all_eq_true.2 fun x hx => List.all_eq_true.1 e.2.1 x (List.mem_of_mem_take hx)
    rw [h1, incr_take k e.2.2] at h
    cases h
def chkE (b : Bool) : Int := if b = true then 0 else 140
set_option maxHeartbeats 2000000 in
set_option maxRecDepth 100000 in
theorem check_any (d : Ds) (v : Value) (w : World) (hR : RdR w v d) : Calls Tryz.prog 26 #[v] w (Ret (.int .i64 (chkE (isDs d))) w) := by
  obtain ⟨o, cap, rfl, hcap, hc⟩ := hR
  by_cases hl : d.length ≤ 64
  rotate_left
  · have e : isDs d = false := by
      unfold isDs
      have : decide (d.length ≤ 64) = false := by simpa using hl
      rw [this]; rfl
    rw [e]
    have d1 : decide ((64 : Int) < (d.length : Int)) = true := by simp; omega
    clear e hc
    go_enter Tryz.func26, Tryz.ntmps26
    go_wp2_with fail
    go_ret
    exact ⟨rfl, Below.refl _ _⟩
  have HC := hid hc
  have HFULL := hid (chkTo_full hl)
  obtain ⟨N, hN⟩ : ∃ N, d.length = N := ⟨_, rfl⟩
  rw [hN] at hl hcap HFULL ⊢
  have HN := hid hN
  obtain ⟨E, hE⟩ : ∃ E, chkE (isDs d) = E := ⟨_, rfl⟩
  rw [hE]
  have HE := hid hE
  clear hN hc hE
  have d1 : decide ((64 : Int) < (N : Int)) = false := by simp; omega
  go_enter Tryz.func26, Tryz.ntmps26
  go_wp2_with fail
  go_loopw [10] (fun i wr => ∃ k : Nat, i = .int .i64 k ∧ k ≤ N ∧ Hid (chkTo d k = true) ∧ Hid (Below w.heap.size w wr)) (fun i _ => N - (intOf i).toNat)
  case atStart => exact ⟨0, rfl, Nat.zero_le _, rfl, Below.refl _ _⟩
  case round =>
    obtain ⟨k, rfl, hk, HT, HB⟩ := hrel
    by_cases hlt : k < N
    rotate_left
    · have e : isDs d = true := by rw [HFULL.out]; have : k = N := by omega
                                   rw [← this]; exact HT.out
      have HEE : Hid (E = 0) := by unfold Hid; rw [← HE.out, e]; rfl
      clear e
      go_wp2_with fail
      go_ret
      exact ⟨ret_int HEE.out.symm, HB.out⟩
    obtain ⟨r, hr⟩ : ∃ r, d[k]? = some r := ⟨_, List.getElem?_eq_getElem (by have := HN.out; omega)⟩
    have hHC := HC.out
    rcases hHC with hc | ⟨b, off, rfl, hbl, hc⟩
    · rw [hc] at hr; simp at hr
    obtain ⟨c0, c1⟩ := hc k r hr
    have c0 := HB.out.cell (p := ⟨b, off + k * 2, none⟩) hbl |>.trans c0
    have c1 := HB.out.cell (p := ⟨b, off + k * 2 + 1, none⟩) hbl |>.trans c1
    have HST := hid (chkTo_succ hr)
    have HREC := hid (fun w => isrecord_any r w)
    have X0 : (wr.alloc (.cells #[strV r.1, strV r.2] 59)).cell? ⟨wr.heap.size, 0, none⟩ = some (strV r.1) := cell_new _ _ _ 0 _ rfl
    have X1 : (wr.alloc (.cells #[strV r.1, strV r.2] 59)).cell? ⟨wr.heap.size, 1, none⟩ = some (strV r.2) := cell_new _ _ _ 1 _ rfl
    have hz := HB.out.size
    have HB1 := hid (HB.out.alloc hz (.cells #[strV r.1, strV r.2] 59))
    have prev : ∀ m, k = m + 1 → ∃ p, d[m]? = some p ∧ (wr.alloc (.cells #[strV r.1, strV r.2] 59)).cell? ⟨b, off + (k - 1) * 2, none⟩ = some (strV p.1) := fun m hm => by
      obtain ⟨p, hp⟩ : ∃ p, d[m]? = some p := ⟨_, List.getElem?_eq_getElem (by have := HN.out; omega)⟩
      refine ⟨p, hp, ?_⟩
      have := (HB1.out.cell (p := ⟨b, off + m * 2, none⟩) hbl).trans (hc m p hp).1
      rw [show k - 1 = m by omega]; exact this
    have HPREV := hid prev
    clear hc hr prev
    go_upto_region 6 with (fail)
    cases er : isRec r with
    | false =>
      rw [er] at HREC
      have e : isDs d = false := chkTo_bad (k := k + 1) (by rw [HST.out, er]; simp)
      have HEE : Hid (E = 140) := by unfold Hid; rw [← HE.out, e]; rfl
      clear e er
      refine (fun hm hB S hS h => wp_region_freeL S hm hB hS h) (by kernel_rfl) (by kernel_rfl) (fun L w' => Below w.heap.size w w' ∧ w'.cell? ⟨wr.heap.size, 0, none⟩ = some (strV r.1) ∧ w'.cell? ⟨wr.heap.size, 1, none⟩ = some (strV r.2)) ⟨(HB1.out).drew, X0, X1⟩ ?_
      refine wpFreeL_val rfl (fun _ _ _ h => h) (fun K hK => ?_); apply Exists.intro; refine ⟨fun L w' hS => ?_, ?_⟩; (have hb := hS.1; have g0 := hS.2.1; have g1 := hS.2.2; clear hS; go_simp; rfl); (go_simp; refine hK _ ?_; clear hK K)
      refine wpFreeL_gen rfl (fun K hK => ?_); apply Exists.intro; refine ⟨fun L w' hcl hL hdep hS => ?_, ?_⟩
      · have hb := hS.1; have g0 := hS.2.1; have g1 := hS.2.2; go_simp; refine (HREC.out _).mono ?_; rintro e w1 ⟨rfl, hb1⟩; exact ⟨rfl, ⟨hb.trans (hb1.mono (by have := hb.size; omega)), keepc hb1 g0, keepc hb1 g1⟩⟩
      go_simp; refine hK _ ?_; clear hK K
      refine wpFreeL_val rfl (fun _ _ _ h => h) (fun K hK => ?_); apply Exists.intro; refine ⟨fun L w' hS => ?_, ?_⟩; (have hb := hS.1; have g0 := hS.2.1; have g1 := hS.2.2; clear hS; go_simp; rfl); (go_simp; refine hK _ ?_; clear hK K)
      refine wpFreeL_val rfl (fun _ _ _ h => h) (fun K hK => ?_); apply Exists.intro; refine ⟨fun L w' hS => ?_, ?_⟩; (have hb := hS.1; have g0 := hS.2.1; have g1 := hS.2.2; clear hS; go_simp; rfl); (go_simp; refine hK _ ?_; clear hK K)
      refine wpFreeL_skip rfl (fun _ _ _ h => h) (fun K hK => ?_); go_simp; refine hK _ ?_; clear hK K
      refine wpFreeL_skip rfl (fun _ _ _ h => h) (fun K hK => ?_); go_simp; refine hK _ ?_; clear hK K
      refine wpFreeL_skip rfl (fun _ _ _ h => h) (fun K hK => ?_); go_simp; refine hK _ ?_; clear hK K
      refine wpFreeL_skip rfl (fun _ _ _ h => h) (fun K hK => ?_); go_simp; refine hK _ ?_; clear hK K
      refine wpFreeL_skip rfl (fun _ _ _ h => h) (fun K hK => ?_); go_simp; refine hK _ ?_; clear hK K
      refine wpFreeL_skip rfl (fun _ _ _ h => h) (fun K hK => ?_); go_simp; refine hK _ ?_; clear hK K
      refine wpFreeL_skip rfl (fun _ _ _ h => h) (fun K hK => ?_); go_simp; refine hK _ ?_; clear hK K
      refine wpFreeL_skip rfl (fun _ _ _ h => h) (fun K hK => ?_); go_simp; refine hK _ ?_; clear hK K
      refine wpFreeL_skip rfl (fun _ _ _ h => h) (fun K hK => ?_); go_simp; refine hK _ ?_; clear hK K
      refine wpFreeL_skip rfl (fun _ _ _ h => h) (fun K hK => ?_); go_simp; refine hK _ ?_; clear hK K
      refine wpFreeL_skip rfl (fun _ _ _ h => h) (fun K hK => ?_); go_simp; refine hK _ ?_; clear hK K
      refine wpFreeL_skip rfl (fun _ _ _ h => h) (fun K hK => ?_); go_simp; refine hK _ ?_; clear hK K
      refine wpFreeL_skip rfl (fun _ _ _ h => h) (fun K hK => ?_); go_simp; refine hK _ ?_; clear hK K
      refine wpFreeL_val rfl (fun _ _ _ h => h) (fun K hK => ?_); apply Exists.intro; refine ⟨fun L w' hS => ?_, ?_⟩; (have hb := hS.1; have g0 := hS.2.1; have g1 := hS.2.2; clear hS; go_simp; rfl); (go_simp; refine hK _ ?_; clear hK K)
      refine wpFreeL_nil (fun L w' hL hS => ?_)
      have hb := hS.1; have g0 := hS.2.1; have g1 := hS.2.2
      clear hL hS

      go_wp2_with fail
      go_ret
      exact ⟨ret_int HEE.out.symm, hb⟩
    | true =>
      rw [er] at HREC
      by_cases hk0 : k = 0
      · subst hk0
        have HT1 : Hid (chkTo d (0 + 1) = true) := by unfold Hid; rw [HST.out, HT.out, er]; rfl
        clear HST er HPREV HT
        have z0 : decide ((0 : Int) < ((0 : Nat) : Int)) = false := rfl
        refine (fun hm hB S hS h => wp_region_freeL S hm hB hS h) (by kernel_rfl) (by kernel_rfl) (fun L w' => Below w.heap.size w w' ∧ w'.cell? ⟨wr.heap.size, 0, none⟩ = some (strV r.1) ∧ w'.cell? ⟨wr.heap.size, 1, none⟩ = some (strV r.2)) ⟨(HB1.out).drew, X0, X1⟩ ?_
        refine wpFreeL_val rfl (fun _ _ _ h => h) (fun K hK => ?_); apply Exists.intro; refine ⟨fun L w' hS => ?_, ?_⟩; (have hb := hS.1; have g0 := hS.2.1; have g1 := hS.2.2; clear hS; go_simp; rfl); (go_simp; refine hK _ ?_; clear hK K)
        refine wpFreeL_gen rfl (fun K hK => ?_); apply Exists.intro; refine ⟨fun L w' hcl hL hdep hS => ?_, ?_⟩
        · have hb := hS.1; have g0 := hS.2.1; have g1 := hS.2.2; go_simp; refine (HREC.out _).mono ?_; rintro e w1 ⟨rfl, hb1⟩; exact ⟨rfl, ⟨hb.trans (hb1.mono (by have := hb.size; omega)), keepc hb1 g0, keepc hb1 g1⟩⟩
        go_simp; refine hK _ ?_; clear hK K
        refine wpFreeL_val rfl (fun _ _ _ h => h) (fun K hK => ?_); apply Exists.intro; refine ⟨fun L w' hS => ?_, ?_⟩; (have hb := hS.1; have g0 := hS.2.1; have g1 := hS.2.2; clear hS; go_simp; rfl); (go_simp; refine hK _ ?_; clear hK K)
        refine wpFreeL_val rfl (fun _ _ _ h => h) (fun K hK => ?_); apply Exists.intro; refine ⟨fun L w' hS => ?_, ?_⟩; (have hb := hS.1; have g0 := hS.2.1; have g1 := hS.2.2; clear hS; go_simp; rfl); (go_simp; refine hK _ ?_; clear hK K)
        refine wpFreeL_val rfl (fun _ _ _ h => h) (fun K hK => ?_); apply Exists.intro; refine ⟨fun L w' hS => ?_, ?_⟩; (have hb := hS.1; have g0 := hS.2.1; have g1 := hS.2.2; clear hS; go_simp; rfl); (go_simp; refine hK _ ?_; clear hK K)
        refine wpFreeL_val rfl (fun _ _ _ h => h) (fun K hK => ?_); apply Exists.intro; refine ⟨fun L w' hS => ?_, ?_⟩; (have hb := hS.1; have g0 := hS.2.1; have g1 := hS.2.2; clear hS; go_simp; rfl); (go_simp; refine hK _ ?_; clear hK K)
        refine wpFreeL_val rfl (fun _ _ _ h => h) (fun K hK => ?_); apply Exists.intro; refine ⟨fun L w' hS => ?_, ?_⟩; (have hb := hS.1; have g0 := hS.2.1; have g1 := hS.2.2; clear hS; go_simp; rfl); (go_simp; refine hK _ ?_; clear hK K)
        refine wpFreeL_skip rfl (fun _ _ _ h => h) (fun K hK => ?_); go_simp; refine hK _ ?_; clear hK K
        refine wpFreeL_skip rfl (fun _ _ _ h => h) (fun K hK => ?_); go_simp; refine hK _ ?_; clear hK K
        refine wpFreeL_skip rfl (fun _ _ _ h => h) (fun K hK => ?_); go_simp; refine hK _ ?_; clear hK K
        refine wpFreeL_skip rfl (fun _ _ _ h => h) (fun K hK => ?_); go_simp; refine hK _ ?_; clear hK K
        refine wpFreeL_skip rfl (fun _ _ _ h => h) (fun K hK => ?_); go_simp; refine hK _ ?_; clear hK K
        refine wpFreeL_skip rfl (fun _ _ _ h => h) (fun K hK => ?_); go_simp; refine hK _ ?_; clear hK K
        refine wpFreeL_skip rfl (fun _ _ _ h => h) (fun K hK => ?_); go_simp; refine hK _ ?_; clear hK K
        refine wpFreeL_skip rfl (fun _ _ _ h => h) (fun K hK => ?_); go_simp; refine hK _ ?_; clear hK K
        refine wpFreeL_skip rfl (fun _ _ _ h => h) (fun K hK => ?_); go_simp; refine hK _ ?_; clear hK K
        refine wpFreeL_val rfl (fun _ _ _ h => h) (fun K hK => ?_); apply Exists.intro; refine ⟨fun L w' hS => ?_, ?_⟩; (have hb := hS.1; have g0 := hS.2.1; have g1 := hS.2.2; clear hS; go_simp; rfl); (go_simp; refine hK _ ?_; clear hK K)
        refine wpFreeL_val rfl (fun _ _ _ h => h) (fun K hK => ?_); apply Exists.intro; refine ⟨fun L w' hS => ?_, ?_⟩; (have hb := hS.1; have g0 := hS.2.1; have g1 := hS.2.2; clear hS; go_simp; rfl); (go_simp; refine hK _ ?_; clear hK K)
        refine wpFreeL_nil (fun L w' hL hS => ?_)
        have hb := hS.1; have g0 := hS.2.1; have g1 := hS.2.2
        clear hL hS

        go_wp2_with fail
        go_roundw
        case rel => exact ⟨0 + 1, rfl, by omega, HT1, hb⟩
        case measure => simp [intOf]; omega
      · have hkp : 0 < k := by omega
        obtain ⟨p, hp, P0⟩ := HPREV.out (k - 1) (by omega)
        have ep : prevOk d r k = ltB p.1 r.1 := prevOk_pos hkp hp
        have HST2 : Hid (chkTo d (k + 1) = ltB p.1 r.1) := by unfold Hid; rw [HST.out, HT.out, er, ep]; simp
        clear ep er HST hk0 hp HPREV
        have w0 : IntKind.i64.wrap ((k : Int) - 1) = (k : Int) - 1 := IntWalk.i64_in _ ⟨by omega, by omega⟩
        have w1 : (0 : Int) ≤ (k : Int) - 1 := by omega
        have w1' : (1 : Int) ≤ (k : Int) := by omega
        have w2 : (k : Int) - 1 < (N : Int) := by omega
        have w3 : ((k : Int) - 1).toNat = k - 1 := by omega
        have z0 : decide ((0 : Int) < (k : Int)) = true := by simp; omega
        cases el : ltB p.1 r.1 with
        | true =>
          have HT1 : Hid (chkTo d (k + 1) = true) := HST2.out.trans el
          have el' : Op.bytesLess p.1 r.1 = true := el
          clear HST2 el HT
          refine (fun hm hB S hS h => wp_region_freeL S hm hB hS h) (by kernel_rfl) (by kernel_rfl) (fun L w' => Below w.heap.size w w' ∧ w'.cell? ⟨wr.heap.size, 0, none⟩ = some (strV r.1) ∧ w'.cell? ⟨wr.heap.size, 1, none⟩ = some (strV r.2) ∧ w'.cell? ⟨b, off + (k - 1) * 2, none⟩ = some (strV p.1)) ⟨(HB1.out).drew, X0, X1, P0⟩ ?_
          refine wpFreeL_val rfl (fun _ _ _ h => h) (fun K hK => ?_); apply Exists.intro; refine ⟨fun L w' hS => ?_, ?_⟩; (have hb := hS.1; have g0 := hS.2.1; have g1 := hS.2.2.1; have g2 := hS.2.2.2; clear hS; go_simp; rfl); (go_simp; refine hK _ ?_; clear hK K)
          refine wpFreeL_gen rfl (fun K hK => ?_); apply Exists.intro; refine ⟨fun L w' hcl hL hdep hS => ?_, ?_⟩
          · have hb := hS.1; have g0 := hS.2.1; have g1 := hS.2.2.1; have g2 := hS.2.2.2; go_simp; refine (HREC.out _).mono ?_; rintro e w1 ⟨rfl, hb1⟩; exact ⟨rfl, ⟨hb.trans (hb1.mono (by have := hb.size; omega)), keepc hb1 g0, keepc hb1 g1, keepc hb1 g2⟩⟩
          go_simp; refine hK _ ?_; clear hK K
          refine wpFreeL_val rfl (fun _ _ _ h => h) (fun K hK => ?_); apply Exists.intro; refine ⟨fun L w' hS => ?_, ?_⟩; (have hb := hS.1; have g0 := hS.2.1; have g1 := hS.2.2.1; have g2 := hS.2.2.2; clear hS; go_simp; rfl); (go_simp; refine hK _ ?_; clear hK K)
          refine wpFreeL_val rfl (fun _ _ _ h => h) (fun K hK => ?_); apply Exists.intro; refine ⟨fun L w' hS => ?_, ?_⟩; (have hb := hS.1; have g0 := hS.2.1; have g1 := hS.2.2.1; have g2 := hS.2.2.2; clear hS; go_simp; rfl); (go_simp; refine hK _ ?_; clear hK K)
          refine wpFreeL_val rfl (fun _ _ _ h => h) (fun K hK => ?_); apply Exists.intro; refine ⟨fun L w' hS => ?_, ?_⟩; (have hb := hS.1; have g0 := hS.2.1; have g1 := hS.2.2.1; have g2 := hS.2.2.2; clear hS; go_simp; rfl); (go_simp; refine hK _ ?_; clear hK K)
          refine wpFreeL_val rfl (fun _ _ _ h => h) (fun K hK => ?_); apply Exists.intro; refine ⟨fun L w' hS => ?_, ?_⟩; (have hb := hS.1; have g0 := hS.2.1; have g1 := hS.2.2.1; have g2 := hS.2.2.2; clear hS; go_simp; rfl); (go_simp; refine hK _ ?_; clear hK K)
          refine wpFreeL_val rfl (fun _ _ _ h => h) (fun K hK => ?_); apply Exists.intro; refine ⟨fun L w' hS => ?_, ?_⟩; (have hb := hS.1; have g0 := hS.2.1; have g1 := hS.2.2.1; have g2 := hS.2.2.2; clear hS; go_simp; rfl); (go_simp; refine hK _ ?_; clear hK K)
          refine wpFreeL_val rfl (fun _ _ _ h => h) (fun K hK => ?_); apply Exists.intro; refine ⟨fun L w' hS => ?_, ?_⟩; (have hb := hS.1; have g0 := hS.2.1; have g1 := hS.2.2.1; have g2 := hS.2.2.2; clear hS; go_simp; rfl); (go_simp; refine hK _ ?_; clear hK K)
          refine wpFreeL_val rfl (fun _ _ _ h => h) (fun K hK => ?_); apply Exists.intro; refine ⟨fun L w' hS => ?_, ?_⟩; (have hb := hS.1; have g0 := hS.2.1; have g1 := hS.2.2.1; have g2 := hS.2.2.2; clear hS; go_simp; rfl); (go_simp; refine hK _ ?_; clear hK K)
          refine wpFreeL_val rfl (fun _ _ _ h => h) (fun K hK => ?_); apply Exists.intro; refine ⟨fun L w' hS => ?_, ?_⟩; (have hb := hS.1; have g0 := hS.2.1; have g1 := hS.2.2.1; have g2 := hS.2.2.2; clear hS; go_simp; rfl); (go_simp; refine hK _ ?_; clear hK K)
          refine wpFreeL_val rfl (fun _ _ _ h => h) (fun K hK => ?_); apply Exists.intro; refine ⟨fun L w' hS => ?_, ?_⟩; (have hb := hS.1; have g0 := hS.2.1; have g1 := hS.2.2.1; have g2 := hS.2.2.2; clear hS; go_simp; rfl); (go_simp; refine hK _ ?_; clear hK K)
          refine wpFreeL_val rfl (fun _ _ _ h => h) (fun K hK => ?_); apply Exists.intro; refine ⟨fun L w' hS => ?_, ?_⟩; (have hb := hS.1; have g0 := hS.2.1; have g1 := hS.2.2.1; have g2 := hS.2.2.2; clear hS; go_simp; rfl); (go_simp; refine hK _ ?_; clear hK K)
          refine wpFreeL_val rfl (fun _ _ _ h => h) (fun K hK => ?_); apply Exists.intro; refine ⟨fun L w' hS => ?_, ?_⟩; (have hb := hS.1; have g0 := hS.2.1; have g1 := hS.2.2.1; have g2 := hS.2.2.2; clear hS; go_simp; rfl); (go_simp; refine hK _ ?_; clear hK K)
          refine wpFreeL_val rfl (fun _ _ _ h => h) (fun K hK => ?_); apply Exists.intro; refine ⟨fun L w' hS => ?_, ?_⟩; (have hb := hS.1; have g0 := hS.2.1; have g1 := hS.2.2.1; have g2 := hS.2.2.2; clear hS; go_simp; rfl); (go_simp; refine hK _ ?_; clear hK K)
          refine wpFreeL_val rfl (fun _ _ _ h => h) (fun K hK => ?_); apply Exists.intro; refine ⟨fun L w' hS => ?_, ?_⟩; (have hb := hS.1; have g0 := hS.2.1; have g1 := hS.2.2.1; have g2 := hS.2.2.2; clear hS; go_simp; rfl); (go_simp; refine hK _ ?_; clear hK K)
          refine wpFreeL_val rfl (fun _ _ _ h => h) (fun K hK => ?_); apply Exists.intro; refine ⟨fun L w' hS => ?_, ?_⟩; (have hb := hS.1; have g0 := hS.2.1; have g1 := hS.2.2.1; have g2 := hS.2.2.2; clear hS; go_simp; rfl); (go_simp; refine hK _ ?_; clear hK K)
          refine wpFreeL_val rfl (fun _ _ _ h => h) (fun K hK => ?_); apply Exists.intro; refine ⟨fun L w' hS => ?_, ?_⟩; (have hb := hS.1; have g0 := hS.2.1; have g1 := hS.2.2.1; have g2 := hS.2.2.2; clear hS; go_simp; rfl); (go_simp; refine hK _ ?_; clear hK K)
          refine wpFreeL_val rfl (fun _ _ _ h => h) (fun K hK => ?_); apply Exists.intro; refine ⟨fun L w' hS => ?_, ?_⟩; (have hb := hS.1; have g0 := hS.2.1; have g1 := hS.2.2.1; have g2 := hS.2.2.2; clear hS; go_simp; rfl); (go_simp; refine hK _ ?_; clear hK K)
          refine wpFreeL_nil (fun L w' hL hS => ?_)
          have hb := hS.1; have g0 := hS.2.1; have g1 := hS.2.2.1; have g2 := hS.2.2.2
          clear hL hS

          go_wp2_with fail
          go_roundw
          case rel => exact ⟨k + 1, by go_num, by omega, HT1, hb⟩
          case measure => simp [intOf]; omega
        | false =>
          have e : isDs d = false := chkTo_bad (k := k + 1) (HST2.out.trans el)
          have HEE : Hid (E = 140) := by unfold Hid; rw [← HE.out, e]; rfl
          have el' : Op.bytesLess p.1 r.1 = false := el
          clear HST2 el HT e
          refine (fun hm hB S hS h => wp_region_freeL S hm hB hS h) (by kernel_rfl) (by kernel_rfl) (fun L w' => Below w.heap.size w w' ∧ w'.cell? ⟨wr.heap.size, 0, none⟩ = some (strV r.1) ∧ w'.cell? ⟨wr.heap.size, 1, none⟩ = some (strV r.2) ∧ w'.cell? ⟨b, off + (k - 1) * 2, none⟩ = some (strV p.1)) ⟨(HB1.out).drew, X0, X1, P0⟩ ?_
          refine wpFreeL_val rfl (fun _ _ _ h => h) (fun K hK => ?_); apply Exists.intro; refine ⟨fun L w' hS => ?_, ?_⟩; (have hb := hS.1; have g0 := hS.2.1; have g1 := hS.2.2.1; have g2 := hS.2.2.2; clear hS; go_simp; rfl); (go_simp; refine hK _ ?_; clear hK K)
          refine wpFreeL_gen rfl (fun K hK => ?_); apply Exists.intro; refine ⟨fun L w' hcl hL hdep hS => ?_, ?_⟩
          · have hb := hS.1; have g0 := hS.2.1; have g1 := hS.2.2.1; have g2 := hS.2.2.2; go_simp; refine (HREC.out _).mono ?_; rintro e w1 ⟨rfl, hb1⟩; exact ⟨rfl, ⟨hb.trans (hb1.mono (by have := hb.size; omega)), keepc hb1 g0, keepc hb1 g1, keepc hb1 g2⟩⟩
          go_simp; refine hK _ ?_; clear hK K
          refine wpFreeL_val rfl (fun _ _ _ h => h) (fun K hK => ?_); apply Exists.intro; refine ⟨fun L w' hS => ?_, ?_⟩; (have hb := hS.1; have g0 := hS.2.1; have g1 := hS.2.2.1; have g2 := hS.2.2.2; clear hS; go_simp; rfl); (go_simp; refine hK _ ?_; clear hK K)
          refine wpFreeL_val rfl (fun _ _ _ h => h) (fun K hK => ?_); apply Exists.intro; refine ⟨fun L w' hS => ?_, ?_⟩; (have hb := hS.1; have g0 := hS.2.1; have g1 := hS.2.2.1; have g2 := hS.2.2.2; clear hS; go_simp; rfl); (go_simp; refine hK _ ?_; clear hK K)
          refine wpFreeL_val rfl (fun _ _ _ h => h) (fun K hK => ?_); apply Exists.intro; refine ⟨fun L w' hS => ?_, ?_⟩; (have hb := hS.1; have g0 := hS.2.1; have g1 := hS.2.2.1; have g2 := hS.2.2.2; clear hS; go_simp; rfl); (go_simp; refine hK _ ?_; clear hK K)
          refine wpFreeL_val rfl (fun _ _ _ h => h) (fun K hK => ?_); apply Exists.intro; refine ⟨fun L w' hS => ?_, ?_⟩; (have hb := hS.1; have g0 := hS.2.1; have g1 := hS.2.2.1; have g2 := hS.2.2.2; clear hS; go_simp; rfl); (go_simp; refine hK _ ?_; clear hK K)
          refine wpFreeL_val rfl (fun _ _ _ h => h) (fun K hK => ?_); apply Exists.intro; refine ⟨fun L w' hS => ?_, ?_⟩; (have hb := hS.1; have g0 := hS.2.1; have g1 := hS.2.2.1; have g2 := hS.2.2.2; clear hS; go_simp; rfl); (go_simp; refine hK _ ?_; clear hK K)
          refine wpFreeL_val rfl (fun _ _ _ h => h) (fun K hK => ?_); apply Exists.intro; refine ⟨fun L w' hS => ?_, ?_⟩; (have hb := hS.1; have g0 := hS.2.1; have g1 := hS.2.2.1; have g2 := hS.2.2.2; clear hS; go_simp; rfl); (go_simp; refine hK _ ?_; clear hK K)
          refine wpFreeL_val rfl (fun _ _ _ h => h) (fun K hK => ?_); apply Exists.intro; refine ⟨fun L w' hS => ?_, ?_⟩; (have hb := hS.1; have g0 := hS.2.1; have g1 := hS.2.2.1; have g2 := hS.2.2.2; clear hS; go_simp; rfl); (go_simp; refine hK _ ?_; clear hK K)
          refine wpFreeL_val rfl (fun _ _ _ h => h) (fun K hK => ?_); apply Exists.intro; refine ⟨fun L w' hS => ?_, ?_⟩; (have hb := hS.1; have g0 := hS.2.1; have g1 := hS.2.2.1; have g2 := hS.2.2.2; clear hS; go_simp; rfl); (go_simp; refine hK _ ?_; clear hK K)
          refine wpFreeL_val rfl (fun _ _ _ h => h) (fun K hK => ?_); apply Exists.intro; refine ⟨fun L w' hS => ?_, ?_⟩; (have hb := hS.1; have g0 := hS.2.1; have g1 := hS.2.2.1; have g2 := hS.2.2.2; clear hS; go_simp; rfl); (go_simp; refine hK _ ?_; clear hK K)
          refine wpFreeL_val rfl (fun _ _ _ h => h) (fun K hK => ?_); apply Exists.intro; refine ⟨fun L w' hS => ?_, ?_⟩; (have hb := hS.1; have g0 := hS.2.1; have g1 := hS.2.2.1; have g2 := hS.2.2.2; clear hS; go_simp; rfl); (go_simp; refine hK _ ?_; clear hK K)
          refine wpFreeL_val rfl (fun _ _ _ h => h) (fun K hK => ?_); apply Exists.intro; refine ⟨fun L w' hS => ?_, ?_⟩; (have hb := hS.1; have g0 := hS.2.1; have g1 := hS.2.2.1; have g2 := hS.2.2.2; clear hS; go_simp; rfl); (go_simp; refine hK _ ?_; clear hK K)
          refine wpFreeL_val rfl (fun _ _ _ h => h) (fun K hK => ?_); apply Exists.intro; refine ⟨fun L w' hS => ?_, ?_⟩; (have hb := hS.1; have g0 := hS.2.1; have g1 := hS.2.2.1; have g2 := hS.2.2.2; clear hS; go_simp; rfl); (go_simp; refine hK _ ?_; clear hK K)
          refine wpFreeL_val rfl (fun _ _ _ h => h) (fun K hK => ?_); apply Exists.intro; refine ⟨fun L w' hS => ?_, ?_⟩; (have hb := hS.1; have g0 := hS.2.1; have g1 := hS.2.2.1; have g2 := hS.2.2.2; clear hS; go_simp; rfl); (go_simp; refine hK _ ?_; clear hK K)
          refine wpFreeL_val rfl (fun _ _ _ h => h) (fun K hK => ?_); apply Exists.intro; refine ⟨fun L w' hS => ?_, ?_⟩; (have hb := hS.1; have g0 := hS.2.1; have g1 := hS.2.2.1; have g2 := hS.2.2.2; clear hS; go_simp; rfl); (go_simp; refine hK _ ?_; clear hK K)
          refine wpFreeL_val rfl (fun _ _ _ h => h) (fun K hK => ?_); apply Exists.intro; refine ⟨fun L w' hS => ?_, ?_⟩; (have hb := hS.1; have g0 := hS.2.1; have g1 := hS.2.2.1; have g2 := hS.2.2.2; clear hS; go_simp; rfl); (go_simp; refine hK _ ?_; clear hK K)
          refine wpFreeL_val rfl (fun _ _ _ h => h) (fun K hK => ?_); apply Exists.intro; refine ⟨fun L w' hS => ?_, ?_⟩; (have hb := hS.1; have g0 := hS.2.1; have g1 := hS.2.2.1; have g2 := hS.2.2.2; clear hS; go_simp; rfl); (go_simp; refine hK _ ?_; clear hK K)
          refine wpFreeL_nil (fun L w' hL hS => ?_)
          have hb := hS.1; have g0 := hS.2.1; have g1 := hS.2.2.1; have g2 := hS.2.2.2
          clear hL hS

          go_wp2_with fail
          go_ret
          exact ⟨ret_int HEE.out.symm, hb⟩
end Go.Proofs.YtifcgimpgbeocaaGreat
/- at: the place of the first record whose key is not less. -/
set_option linter.unusedVariables false
set_option linter.unusedSimpArgs false
namespace Go.Proofs.YtifcgimpgbeocaaGreat
open Go.RowKit
attribute [local go_sem] Oper.semAt_some
theorem at1_any (r : Rec) (X : Nat) (k : Bs) (w : World) (hX : w.cell? ⟨X, 0, none⟩ = some (strV k)) : Calls Tryz.prog 102 #[recV r, .pointer (some ⟨X, 0, none⟩)] w (Ret (.bool (!ltB r.1 k)) w) := by
  have X0 : (w.alloc (.cells #[strV r.1, strV r.2] 59)).cell? ⟨w.heap.size, 0, none⟩ = some (strV r.1) := cell_new _ _ _ 0 _ rfl
  have X1 := keepc ((Below.refl w.heap.size w).alloc (Nat.le_refl _) (.cells #[strV r.1, strV r.2] 59)) hX
  obtain ⟨R, hR⟩ : ∃ R, (!Op.bytesLess r.1 k) = R := ⟨_, rfl⟩
  have e : (!ltB r.1 k) = R := hR
  rw [e]
  have HR := hid hR
  clear hR e
  go_enter Tryz.func102, Tryz.ntmps102
  go_wp2_with fail
  go_ret
  exact ⟨ret_bool HR.out, (Below.refl _ _).alloc (Nat.le_refl _) _⟩
theorem atD_step {d : Ds} {key : Bs} {k : Nat} {r : Rec} (h : d[k]? = some r) (hk : k ≤ atD d key) : (ltB r.1 key = true → k + 1 ≤ atD d key) ∧ (ltB r.1 key = false → atD d key = k) := by
  obtain ⟨hlt, rfl⟩ := List.getElem?_eq_some_iff.1 h
  constructor
  · intro hl
    rcases Nat.lt_or_ge k (atD d key) with h1 | h1
    · omega
    · have e : atD d key = k := by omega
      have hlt' : atD d key < d.length := by omega
      have := List.findIdx_getElem (p := fun r : Rec => !ltB r.1 key) (xs := d) (w := hlt')
      simp only [show List.findIdx (fun r : Rec => !ltB r.1 key) d = k from e] at this
      rw [hl] at this
      cases this
  · intro hl
    rcases Nat.lt_or_ge k (atD d key) with h1 | h1
    · have := List.not_of_lt_findIdx (p := fun r : Rec => !ltB r.1 key) (xs := d) (i := k) h1
      rw [hl] at this
      simp at this
    · omega
def idxE (d : Ds) (k : Bs) : Int := if atD d k < d.length then (atD d k : Int) else -1
set_option maxRecDepth 100000 in
theorem idxr_any (d : Ds) (v : Value) (X : Nat) (key : Bs) (w : World) (hR : RdR w v d) (hl : d.length ≤ 64) (hX : w.cell? ⟨X, 0, none⟩ = some (strV key)) :
    Calls Tryz.prog 101 #[v, .func (.func 102) #[] #[.pointer (some ⟨X, 0, none⟩)]] w (Ret (.int .i64 (idxE d key)) w) := by
  obtain ⟨o, cap, rfl, hcap, hc⟩ := hR
  have HC := hid hc
  obtain ⟨N, hN⟩ : ∃ N, d.length = N := ⟨_, rfl⟩
  obtain ⟨E, hE⟩ : ∃ E, idxE d key = E := ⟨_, rfl⟩
  rw [hN] at hl hcap ⊢
  rw [hE]
  have HN := hid hN; have HE := hid hE; have HX := hid hX
  clear hN hc hE hX
  go_enter Tryz.func101, Tryz.ntmps101
  go_wp2_with fail
  go_loopw [8] (fun i wr => ∃ k : Nat, i = .int .i64 k ∧ k ≤ N ∧ Hid (k ≤ atD d key) ∧ Hid (Below w.heap.size w wr)) (fun i _ => N - (intOf i).toNat)
  case atStart => exact ⟨0, rfl, Nat.zero_le _, Nat.zero_le _, Below.refl _ _⟩
  case round =>
    obtain ⟨k, rfl, hk, HT, HB⟩ := hrel
    by_cases hlt : k < N
    rotate_left
    · have HEE : Hid (E = -1) := by
        unfold Hid
        rw [← HE.out]
        unfold idxE
        have := HT.out; have := HN.out
        rw [if_neg (by omega)]
      go_wp2_with fail
      go_ret
      exact ⟨ret_int HEE.out.symm, HB.out⟩
    obtain ⟨r, hr⟩ : ∃ r, d[k]? = some r := ⟨_, List.getElem?_eq_getElem (by have := HN.out; omega)⟩
    have hHC := HC.out
    rcases hHC with hc | ⟨b, off, rfl, hbl, hc⟩
    · rw [hc] at hr; simp at hr
    obtain ⟨c0, c1⟩ := hc k r hr
    have c0 := HB.out.cell (p := ⟨b, off + k * 2, none⟩) hbl |>.trans c0
    have c1 := HB.out.cell (p := ⟨b, off + k * 2 + 1, none⟩) hbl |>.trans c1
    obtain ⟨s1, s2⟩ := atD_step hr HT.out
    have HAT := hid (at1_any r X key wr (keepc HB.out HX.out))
    cases el : ltB r.1 key with
    | true =>
      have HT1 := hid (s1 el)
      rw [el] at HAT
      clear s1 s2 el hc hr HT
      go_wp2_with fail
      refine (HAT.out).mono ?_
      rintro e w2 ⟨rfl, hb2⟩
      have HB2 := hid (HB.out.trans (hb2.mono HB.out.size))
      clear hb2
      go_wp2_with fail
      go_roundw
      case rel => exact ⟨k + 1, by go_num, by omega, HT1, HB2⟩
      case measure => simp [intOf]; omega
    | false =>
      have HEE : Hid (E = (k : Int)) := by
        unfold Hid
        rw [← HE.out]
        unfold idxE
        have h1 := s2 el; have h2 := HN.out
        rw [h1, if_pos (by omega)]
      rw [el] at HAT
      clear s1 s2 el hc hr HT
      go_wp2_with fail
      refine (HAT.out).mono ?_
      rintro e w2 ⟨rfl, hb2⟩
      have HB2 := hid (HB.out.trans (hb2.mono HB.out.size))
      clear hb2
      go_wp2_with fail
      go_ret
      exact ⟨ret_int HEE.out.symm, HB2.out⟩
set_option maxRecDepth 100000 in
theorem at_any (d : Ds) (v : Value) (key : Bs) (w : World) (hR : RdR w v d) (hl : d.length ≤ 64) :
    Calls Tryz.prog 65 #[v, strV key] w (Ret (.tuple #[.int .i64 (atD d key : Int), .bool (hasD d key)]) w) := by
  have hX : (w.alloc (.cells #[strV key] 9)).cell? ⟨w.heap.size, 0, none⟩ = some (strV key) := cell_new _ _ _ 0 _ rfl
  have hB := (Below.refl w.heap.size w).alloc (Nat.le_refl _) (.cells #[strV key] 9)
  have HI := hid (idxr_any d v w.heap.size key _ (hR.below hB) hl hX)
  have HB := hid hB
  have HX := hid hX
  clear hX hB
  by_cases hlt : atD d key < d.length
  · have ei : idxE d key = (atD d key : Int) := by unfold idxE; rw [if_pos hlt]
    rw [ei] at HI
    obtain ⟨r, hr⟩ : ∃ r, d[atD d key]? = some r := ⟨_, List.getElem?_eq_getElem hlt⟩
    have eh : hasD d key = (r.1 == key) := by unfold hasD keyAt; rw [hr]
    rw [eh]
    obtain ⟨o, cap, rfl, hcap, hc⟩ := hR
    rcases hc with hc | ⟨b, off, rfl, hbl, hc⟩
    · rw [hc] at hr; simp at hr
    obtain ⟨c0, c1⟩ := hc _ r hr
    obtain ⟨J, hJ⟩ : ∃ J, atD d key = J := ⟨_, rfl⟩
    obtain ⟨N, hN⟩ : ∃ N, d.length = N := ⟨_, rfl⟩
    rw [hJ] at hlt c0 c1 HI ⊢
    rw [hN] at hlt hcap hl HI ⊢
    clear hc hJ hN eh ei hr
    have b1 := keepc HB.out c0
    have HC0 := hid c0
    clear c0 c1 b1
    go_enter Tryz.func65, Tryz.ntmps65
    go_wp2_with fail
    refine (HI.out).mono ?_
    rintro e w2 ⟨rfl, hb2⟩
    have HB2 := hid (below_step hb2 HB.out)
    have c0 := keepc HB2.out HC0.out
    have x0 := keepc hb2 HX.out
    clear hb2
    go_wp2_with fail
    go_quiet (fail)
    go_wp2_with fail
    go_ret2
    exact ⟨rfl, below_drewN HB2.out _⟩
  · have ei : idxE d key = -1 := by unfold idxE; rw [if_neg hlt]
    have ej : atD d key = d.length := by have := atD_le d key; omega
    have eh : hasD d key = false := by unfold hasD keyAt; rw [ej, List.getElem?_eq_none (Nat.le_refl _)]
    rw [ei] at HI
    rw [ej, eh]
    obtain ⟨o, cap, rfl, hcap, hc⟩ := hR
    obtain ⟨N, hN⟩ : ∃ N, d.length = N := ⟨_, rfl⟩
    rw [hN] at HI ⊢
    clear ei ej eh hc hlt hl hcap hN
    go_enter Tryz.func65, Tryz.ntmps65
    go_wp2_with fail
    refine (HI.out).mono ?_
    rintro e w2 ⟨rfl, hb2⟩
    have HB2 := hid (below_step hb2 HB.out)
    clear hb2
    go_wp2_with fail
    go_ret2
    exact ⟨rfl, HB2.out⟩
theorem ask_any (d : Ds) (v : Value) (q : Bool) (w : World) (hR : RdR w v d) : Calls Tryz.prog 63 #[v, .bool q] w (Ret (.int .i64 (if isDs d = true then (if q = true then 0 else 1) else 140)) w) := by
  have HC := hid (check_any d v w hR)
  cases e : isDs d with
  | false =>
    rw [e] at HC
    have HC2 : Hid (Calls Tryz.prog 26 #[v] w (Ret (.int .i64 140) w)) := HC.out
    clear HC e hR
    go_enter Tryz.func63, Tryz.ntmps63
    go_wp2_with fail
    refine (HC2.out).mono ?_
    rintro e w2 ⟨rfl, hb2⟩
    have HB2 := hid hb2
    clear hb2
    go_wp2_with fail
    go_ret
    exact ⟨rfl, HB2.out⟩
  | true =>
    rw [e] at HC
    have HC2 : Hid (Calls Tryz.prog 26 #[v] w (Ret (.int .i64 0) w)) := HC.out
    clear HC e hR
    cases q with
    | true =>
      go_enter Tryz.func63, Tryz.ntmps63
      go_wp2_with fail
      refine (HC2.out).mono ?_
      rintro e w2 ⟨rfl, hb2⟩
      have HB2 := hid hb2
      clear hb2
      go_wp2_with fail
      go_ret
      exact ⟨rfl, HB2.out⟩
    | false =>
      go_enter Tryz.func63, Tryz.ntmps63
      go_wp2_with fail
      refine (HC2.out).mono ?_
      rintro e w2 ⟨rfl, hb2⟩
      have HB2 := hid hb2
      clear hb2
      go_wp2_with fail
      go_ret
      exact ⟨rfl, HB2.out⟩
end Go.Proofs.YtifcgimpgbeocaaGreat
/- Read, Next. -/
set_option linter.unusedVariables false
set_option linter.unusedSimpArgs false
namespace Go.Proofs.YtifcgimpgbeocaaGreat
open Go.RowKit
attribute [local go_sem] Oper.semAt_some
def askE (d : Ds) (q : Bool) : Int := if isDs d = true then (if q = true then 0 else 1) else 140
theorem askE_ok {d : Ds} {q : Bool} (h : isDs d = true) (hq : q = true) : askE d q = 0 := by unfold askE; rw [if_pos h, if_pos hq]
theorem askE_ne {d : Ds} {q : Bool} (h : ¬ (isDs d = true ∧ q = true)) : (askE d q == 0) = false := by
  unfold askE
  rw [beq_eq_false_iff_ne]
  split
  · rename_i h1
    rw [if_neg (fun h2 => h ⟨h1, h2⟩)]; decide
  · decide
theorem ask_any' (d : Ds) (v : Value) (q : Bool) (w : World) (hR : RdR w v d) : Calls Tryz.prog 63 #[v, .bool q] w (Ret (.int .i64 (askE d q)) w) := ask_any d v q w hR
set_option maxRecDepth 100000 in
theorem read_any (d : Ds) (v : Value) (k : Bs) (w : World) (hR : RdR w v d) : Calls Tryz.prog 25 #[v, strV k] w (Ret (.tuple #[strV (readD d k).1, .int .i64 (readD d k).2]) w) := by
  have HK := hid (fun w => iskey_any k w)
  have HA := hid (fun w' (hb : Below w.heap.size w w') => ask_any' d v (isKey k) w' (hR.below hb))
  by_cases hok : isDs d = true ∧ isKey k = true
  rotate_left
  · have hr : readD d k = ([], askE d (isKey k)) := by
      unfold readD askE
      split
      · rename_i h1
        have h2 : ¬ isKey k = true := fun h2 => hok ⟨h1, h2⟩
        rw [if_neg h2, if_neg h2]
      · rfl
    rw [hr]
    have g := askE_ne hok
    obtain ⟨E, hE⟩ : ∃ E, askE d (isKey k) = E := ⟨_, rfl⟩
    rw [hE] at HA g ⊢
    clear hE hr hok hR
    go_enter Tryz.func25, Tryz.ntmps25
    go_wp2_with fail
    refine (HK.out _).mono ?_
    rintro e w1 ⟨rfl, hb1⟩
    have HB1 := hid hb1
    clear hb1
    go_wp2_with fail
    refine (HA.out _ HB1.out).mono ?_
    rintro e w2 ⟨rfl, hb2⟩
    have HB2 := hid (below_step hb2 HB1.out)
    clear hb2
    go_wp2_with fail
    go_ret2
    exact ⟨rfl, HB2.out⟩
  · obtain ⟨hd, hk⟩ := hok
    rw [askE_ok hd hk] at HA
    have HAT := hid (fun w' (hb : Below w.heap.size w w') => at_any d v k w' (hR.below hb) (isDs_len hd))
    cases hh : hasD d k with
    | false =>
      have hr : readD d k = ([], 4) := by unfold readD; rw [if_pos hd, if_pos hk, hh]; rfl
      rw [hr]
      rw [hh] at HAT
      obtain ⟨J, hJ⟩ : ∃ J, atD d k = J := ⟨_, rfl⟩
      rw [hJ] at HAT
      clear hr hh hJ hd hk hR
      go_enter Tryz.func25, Tryz.ntmps25
      go_wp2_with fail
      refine (HK.out _).mono ?_
      rintro e w1 ⟨rfl, hb1⟩
      have HB1 := hid hb1
      clear hb1
      go_wp2_with fail
      refine (HA.out _ HB1.out).mono ?_
      rintro e w2 ⟨rfl, hb2⟩
      have HB2 := hid (below_step hb2 HB1.out)
      clear hb2
      go_wp2_with fail
      refine (HAT.out _ HB2.out).mono ?_
      rintro e w3 ⟨rfl, hb3⟩
      have HB3 := hid (below_step hb3 HB2.out)
      clear hb3
      go_wp2_with fail
      go_ret2
      exact ⟨rfl, HB3.out⟩
    | true =>
      obtain ⟨s, hs⟩ := hasD_at hh
      have hr : readD d k = (s, 0) := by unfold readD; rw [if_pos hd, if_pos hk, hh, hs]; rfl
      rw [hr]
      rw [hh] at HAT
      have hlt : atD d k < d.length := (List.getElem?_eq_some_iff.1 hs).1
      have hl := isDs_len hd
      obtain ⟨o, cap, rfl, hcap, hc⟩ := hR
      rcases hc with hc | ⟨b, off, rfl, hbl, hc⟩
      · rw [hc] at hs; simp at hs
      obtain ⟨c0, c1⟩ := hc _ _ hs
      obtain ⟨J, hJ⟩ : ∃ J, atD d k = J := ⟨_, rfl⟩
      obtain ⟨N, hN⟩ : ∃ N, d.length = N := ⟨_, rfl⟩
      rw [hJ] at HAT hlt c1
      rw [hN] at HAT HA hlt hl
      simp only at c1
      have HC1 := hid c1
      rw [hN]
      clear hr hh hJ hd hk hc hs c0 hN hcap c1
      go_enter Tryz.func25, Tryz.ntmps25
      go_wp2_with fail
      refine (HK.out _).mono ?_
      rintro e w1 ⟨rfl, hb1⟩
      have HB1 := hid hb1
      clear hb1
      go_wp2_with fail
      refine (HA.out _ HB1.out).mono ?_
      rintro e w2 ⟨rfl, hb2⟩
      have HB2 := hid (below_step hb2 HB1.out)
      clear hb2
      go_wp2_with fail
      refine (HAT.out _ HB2.out).mono ?_
      rintro e w3 ⟨rfl, hb3⟩
      have HB3 := hid (below_step hb3 HB2.out)
      have c1 := keepc HB3.out HC1.out
      clear hb3
      go_wp2_with fail
      go_ret2
      exact ⟨rfl, HB3.out⟩
end Go.Proofs.YtifcgimpgbeocaaGreat
