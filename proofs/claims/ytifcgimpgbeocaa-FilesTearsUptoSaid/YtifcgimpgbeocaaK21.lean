/- Data, Kept, Disk, Acts, Undo. -/
import Derived.Test.YtifcgimpgbeocaaK6
import Derived.Test.YtifcgimpgbeocaaK17
import Derived.Test.YtifcgimpgbeocaaK9
set_option linter.unusedVariables false
set_option linter.unusedSimpArgs false
namespace Go.Proofs.Ytifcgimpgbeocaa
open Go.RowKit
attribute [local go_sem] Oper.semAt_some
theorem allDs_bd {l : List Ds} (h : AllDs l) : ∀ d ∈ l, d.length ≤ 1000000000 := fun d hd => Nat.le_trans (isDs_len (h d hd)) (by decide)
set_option maxRecDepth 100000 in
theorem data_any (U : Nat → Prop) (S : Nat) (st : St) (w : World) (h : So w U S st) (hl : st.now.length ≤ 8) (ha : AllDs st.now) : Calls Try.prog 25 #[.pointer (some ⟨S, 0, none⟩)] w (RetD st.now w) := by
  obtain ⟨D, vp, vq, va, vw, vd, vk, us, ks, h⟩ := h
  have HC := hid (copies_any st.now vd w h.rdNow (by omega) (allDs_bd ha))
  have s7 := h.s7
  obtain ⟨od, cd, hvd, -, -⟩ := h.rdNow
  subst hvd
  clear h
  go_enter Try.func25, Try.ntmps25
  go_wp2_with fail
  refine HC.out.mono ?_
  rintro e w1 ⟨v, rfl, ho, hb⟩
  have HO := hid ho; have HB := hid hb
  clear ho hb
  go_wp2_with fail
  go_ret
  exact ⟨_, rfl, HO.out, HB.out⟩
set_option maxRecDepth 100000 in
theorem kept_any (U : Nat → Prop) (S : Nat) (st : St) (w : World) (h : So w U S st) (hl : st.kept.length ≤ 8) (ha : AllDs st.kept) : Calls Try.prog 28 #[.pointer (some ⟨S, 0, none⟩)] w (RetD st.kept w) := by
  obtain ⟨D, vp, vq, va, vw, vd, vk, us, ks, h⟩ := h
  have HC := hid (copies_any st.kept vk w h.rdKept (by omega) (allDs_bd ha))
  have s8 := h.s8
  obtain ⟨od, cd, hvk, -, -⟩ := h.rdKept
  subst hvk
  clear h
  go_enter Try.func28, Try.ntmps28
  go_wp2_with fail
  refine HC.out.mono ?_
  rintro e w1 ⟨v, rfl, ho, hb⟩
  have HO := hid ho; have HB := hid hb
  clear ho hb
  go_wp2_with fail
  go_ret
  exact ⟨_, rfl, HO.out, HB.out⟩
set_option maxRecDepth 100000 in
theorem undo_any (U : Nat → Prop) (S : Nat) (st : St) (w : World) (h : So w U S st) (hl : st.kept.length ≤ 8) (ha : AllDs st.kept) : Calls Try.prog 59 #[.pointer (some ⟨S, 0, none⟩)] w (StPost U S (.tuple #[]) (undoD st) w) := by
  obtain ⟨D, vp, vq, va, vw, vd, vk, us, ks, h⟩ := h
  have HH := hid h
  have HC := hid (copies_any st.kept vk w h.rdKept (by omega) (allDs_bd ha))
  have s8 := h.s8
  have C6 := hid h.s6; have C7 := hid h.s7
  have F6 := hid (h.fz 6); have F7 := hid (h.fz 7)
  obtain ⟨od, cd, hvk, -, -⟩ := h.rdKept
  subst hvk
  clear h
  go_enter Try.func59, Try.ntmps59
  go_wp2_with fail
  refine HC.out.mono ?_
  rintro e w1 ⟨v, rfl, ho, hb⟩
  have c6 := keepc hb C6.out; have c7 := keepc hb C7.out; have f6 := keepf hb C6.out F6.out; have f7 := keepf hb C7.out F7.out
  have HP := hid (HH.out.undo_post hb ho (Nat.le_refl _))
  obtain ⟨o1, c1, rfl, -, -⟩ := ho.rd
  clear ho hb
  go_wp2_with fail
  go_end0
  exact ⟨rfl, HP.out⟩
/-- A call that returns acts, all of it new. -/
def RetAc (l : List Ac) (w : World) (e : Ending) (w' : World) : Prop := ∃ v, e = .returned v ∧ OA w' w.heap.size v l ∧ Below w.heap.size w w'
set_option maxRecDepth 100000 in
theorem dacts_any (D : Nat) (vp vq va : Value) (dk : Dk) (acts : List Ac) (w : World) (h : DA w D vp vq va dk acts) (hl : acts.length ≤ 1000000) : Calls Try.prog 81 #[.pointer (some ⟨D, 0, none⟩)] w (RetAc acts w) := by
  have HC := hid (cloneA_any acts va w h.oa.rd (by omega))
  have c2 := h.c2
  obtain ⟨od, cd, hva, -, -⟩ := h.oa.rd
  subst hva
  clear h
  go_enter Try.func81, Try.ntmps81
  go_wp2_with fail
  refine HC.out.mono ?_
  rintro e w1 ⟨v, rfl, ho, hb⟩
  have HO := hid ho; have HB := hid hb
  clear ho hb
  go_wp2_with fail
  go_ret
  exact ⟨_, rfl, HO.out, HB.out⟩
set_option maxRecDepth 100000 in
theorem acts_any (U : Nat → Prop) (S : Nat) (st : St) (w : World) (h : So w U S st) (hl : st.acts.length ≤ 1000000) : Calls Try.prog 22 #[.pointer (some ⟨S, 0, none⟩)] w (RetAc st.acts w) := by
  obtain ⟨D, vp, vq, va, vw, vd, vk, us, ks, h⟩ := h
  have HC := hid (dacts_any D vp vq va st.dk st.acts w h.dv hl)
  have s0 := h.s0
  clear h
  go_enter Try.func22, Try.ntmps22
  go_wp2_with fail
  refine HC.out.mono ?_
  rintro e w1 ⟨v, rfl, ho, hb⟩
  have HO := hid ho; have HB := hid hb
  clear ho hb
  go_wp2_with fail
  go_ret
  exact ⟨_, rfl, HO.out, HB.out⟩
set_option maxHeartbeats 1000000 in
set_option maxRecDepth 100000 in
theorem ddisk_any (D : Nat) (vp vq va : Value) (dk : Dk) (acts : List Ac) (w : World) (h : DA w D vp vq va dk acts) (hl1 : dk.1.length ≤ 4096) (hl : dk.2.length ≤ 1000000) : Calls Try.prog 84 #[.pointer (some ⟨D, 0, none⟩)] w (RetD1 dk w) := by
  have HS := hid (fun w' (hb : Below w.heap.size w w') => cloneS_any dk.1 vp w' (h.rp.below hb) (by omega))
  have HW := hid (fun w' (hb : Below w.heap.size w w') => cloneW_any dk.2 vq w' (h.rq.below hb) (by omega))
  have C0 := hid h.c0; have C1 := hid h.c1
  obtain ⟨op, cp, hvp, -, -⟩ := h.rp
  obtain ⟨oq, cq, hvq, -, -⟩ := h.rq
  subst hvp hvq
  clear h hl1 hl
  have HBW := hid (B2.new w 27 (.slice none 0 0) (.slice none 0 0))
  go_enter Try.func84, Try.ntmps84
  go_wp2_with fail
  go_region_held3 (fun w' => B2 w w.heap.size w' ∧ w'.cell? ⟨D, 0, none⟩ = some (.slice op dk.1.length cp) ∧ w'.cell? ⟨D, 1, none⟩ = some (.slice oq dk.2.length cq))
    ((refine (fun hS => ⟨hS, keepc hS.1 C0.out, keepc hS.1 C1.out⟩ : B2 w w.heap.size _ → _) ?_; first | exact HBW.out.drew | exact (hb4.set (Nat.le_refl _) _ _).set (Nat.le_refl _) _ _ | exact hb4))
    (first
      | (go_at_call 76; refine (HS.out _ (And.left (And.left (by assumption)))).mono ?_; rintro e wa ⟨u1, rfl, ho1, hba⟩; obtain ⟨o1, c1, rfl, -, -⟩ := ho1.rd; have HO1 := hid (OS.mono ho1 (B' := w.heap.size + 1) (B2.lt (And.left (by assumption)))); have hb4 : B2 w w.heap.size wa := B2.below (And.left (by assumption)) hba; clear ho1 hba)
      | (go_at_call 77; refine (HW.out _ (And.left (And.left (by assumption)))).mono ?_; rintro e wb ⟨u2, rfl, ho2, hbb⟩; obtain ⟨o2, c2, rfl, -, -⟩ := ho2.rd; have HO2 := hid (OW.mono ho2 (B' := w.heap.size + 1) (B2.lt (And.left (by assumption)))); have HO1 := hid (HO1.out.below hbb); have hb4 : B2 w w.heap.size wb := B2.below (And.left (by assumption)) hbb; obtain ⟨⟨v0, y0⟩, f0⟩ := hb4.2.1; obtain ⟨⟨v1, y1⟩, f1⟩ := hb4.2.2; clear ho2 hbb)
      | (fail "x"))
  all_goals
    go_wp2_with fail
    have hz4 := hb4.lt
    have n1 : (Value.slice o1 dk.1.length c1).ownBlock ≠ some w.heap.size := fun e => by have := (World.ownsRow.lt HO1.out _ e).1; omega
    have n3 : (Value.slice o2 dk.2.length c2).ownBlock ≠ some w.heap.size := fun e => by have := (World.ownsRow.lt HO2.out _ e).1; omega
    exact bodyPost_ret (v := .agg #[.slice o1 dk.1.length c1, .slice o2 dk.2.length c2]) (by simp [results, Try.results84, go_sem, y0, y1, f0, f1, hz4]) rfl
      ⟨_, _, rfl, OS.mono (ownsRow_setCell_other (ownsRow_setCell_other HO1.out n1 _) n1 _) (by omega), OW.mono (ownsRow_setCell_other (ownsRow_setCell_other HO2.out n3 _) n3 _) (by omega), (hb4.1.setCell (by simp) _).setCell (by simp) _⟩
set_option maxHeartbeats 1000000 in
set_option maxRecDepth 100000 in
theorem disk_any (U : Nat → Prop) (S : Nat) (st : St) (w : World) (h : So w U S st) (hl1 : st.dk.1.length ≤ 4096) (hl : st.dk.2.length ≤ 1000000) : Calls Try.prog 31 #[.pointer (some ⟨S, 0, none⟩)] w (RetD1 st.dk w) := by
  obtain ⟨D, vp, vq, va, vw, vd, vk, us, ks, h⟩ := h
  have HC := hid (fun w' (hb : Below w.heap.size w w') => ddisk_any D vp vq va st.dk st.acts w' (h.below hb).dv hl1 hl)
  have HBW := hid (B2.new w 27 (.slice none 0 0) (.slice none 0 0))
  have s0 := h.s0
  have s00 := keepc HBW.out.1 s0
  clear h hl1 hl
  go_enter Try.func31, Try.ntmps31
  go_wp2_with fail
  refine (HC.out _ HBW.out.1).mono ?_
  rintro e w1 ⟨u1, u2, rfl, ho1, ho2, hb1⟩
  have HO1 := hid (OS.mono ho1 (B' := w.heap.size + 1) (by simp)); have HO2 := hid (OW.mono ho2 (B' := w.heap.size + 1) (by simp))
  obtain ⟨o1, c1, rfl, -, -⟩ := ho1.rd
  obtain ⟨o2, c2, rfl, -, -⟩ := ho2.rd
  have hb4 : B2 w w.heap.size w1 := HBW.out.below hb1
  have HB4 := hid hb4
  obtain ⟨⟨v0, y0⟩, f0⟩ := hb4.2.1
  obtain ⟨⟨v1, y1⟩, f1⟩ := hb4.2.2
  have hz4 := hb4.lt
  clear ho1 ho2 hb1 hb4
  go_wp2_with fail
  have n1 : (Value.slice o1 st.dk.1.length c1).ownBlock ≠ some w.heap.size := fun e => by have := (World.ownsRow.lt HO1.out _ e).1; omega
  have n3 : (Value.slice o2 st.dk.2.length c2).ownBlock ≠ some w.heap.size := fun e => by have := (World.ownsRow.lt HO2.out _ e).1; omega
  exact bodyPost_ret (v := .agg #[.slice o1 st.dk.1.length c1, .slice o2 st.dk.2.length c2]) (by simp [results, Try.results31, go_sem, y0, y1, f0, f1, hz4]) rfl
    ⟨_, _, rfl, OS.mono (ownsRow_setCell_other (ownsRow_setCell_other HO1.out n1 _) n1 _) (by omega), OW.mono (ownsRow_setCell_other (ownsRow_setCell_other HO2.out n3 _) n3 _) (by omega), (HB4.out.1.setCell (by simp) _).setCell (by simp) _⟩
end Go.Proofs.Ytifcgimpgbeocaa
