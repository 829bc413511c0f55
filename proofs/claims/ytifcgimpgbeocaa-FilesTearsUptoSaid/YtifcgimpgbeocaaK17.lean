/- Create. -/
import Derived.Test.YtifcgimpgbeocaaK14
import Derived.Test.YtifcgimpgbeocaaK15
import Derived.Test.YtifcgimpgbeocaaK9
import Derived.Test.YtifcgimpgbeocaaK6
import Derived.Test.YtifcgimpgbeocaaK7
import Derived.Recover
import Derived.Defers
set_option linter.unusedVariables false
set_option linter.unusedSimpArgs false
namespace Go.Proofs.Ytifcgimpgbeocaa
open Go.RowKit
attribute [local go_sem] Oper.semAt_some
set_option maxHeartbeats 1000000 in
set_option maxRecDepth 100000 in
theorem create_any (n f : Int) (w : World) : Calls Try.prog 19 #[.int .i64 n, .int .i64 f] w (RetDk (createD n f).1 (createD n f).2 w) := by
  have HBW := hid (B2.new w 27 (.slice none 0 0) (.slice none 0 0))
  have HN := hid (fun w' => newdisk_any n w')
  by_cases hn : 4 ≤ n ∧ n ≤ 4096
  · obtain ⟨m, rfl⟩ : ∃ m : Nat, n = (m : Int) := ⟨n.toNat, by omega⟩
    have hr : newDk (m : Int) = ((List.replicate m (zs 64), []), 0) := by unfold newDk; rw [if_pos hn]; rfl
    rw [hr] at HN
    go_enter Try.func19, Try.ntmps19
    go_wp2_with fail
    refine (HN.out _).mono ?_
    rintro e w1 ⟨up, uq, rfl, ho1, ho2, hb1⟩
    obtain ⟨o1, c1, rfl, -, -⟩ := ho1.rd
    obtain ⟨o2, c2, rfl, -, -⟩ := ho2.rd
    have hB1 : B2 w w.heap.size w1 := HBW.out.below hb1
    have HB1 := hid hB1
    have HLT := hid (fun k (hk : (Value.slice o1 (List.replicate m (zs 64)).length c1).ownBlock = some k) => (World.ownsRow.lt ho1 k hk).2)
    have HO1 := hid (OS.mono ho1 (B' := w.heap.size + 1) (by simp)); have HO2 := hid (OW.mono ho2 (B' := w.heap.size + 1) (by simp))
    clear hb1 ho1 ho2 HN
    simp only [List.length_replicate] at HO1 HO2 HLT
    have hB2 : B2 w w.heap.size (w1.alloc (.cells #[.slice o1 m c1, .slice o2 0 c2] 27)) := HB1.out.alloc _
    have d0 : (w1.alloc (.cells #[.slice o1 m c1, .slice o2 0 c2] 27)).cell? ⟨w1.heap.size, 0, none⟩ = some (.slice o1 m c1) := cell_new _ _ _ 0 _ rfl
    have d1 : (w1.alloc (.cells #[.slice o1 m c1, .slice o2 0 c2] 27)).cell? ⟨w1.heap.size, 1, none⟩ = some (.slice o2 0 c2) := cell_new _ _ _ 1 _ rfl
    have HO1 : Hid (OS (w1.alloc (.cells #[.slice o1 m c1, .slice o2 0 c2] 27)) (w.heap.size + 1) (.slice o1 m c1) (List.replicate m (zs 64))) := HO1.out.below ((Below.refl _ _).alloc (Nat.le_refl _) _)
    have HO2 : Hid (OW (w1.alloc (.cells #[.slice o1 m c1, .slice o2 0 c2] 27)) (w.heap.size + 1) (.slice o2 0 c2) []) := HO2.out.below ((Below.refl _ _).alloc (Nat.le_refl _) _)
    have hzD : w.heap.size < w1.heap.size := HB1.out.lt
    have HB2 := hid hB2
    have HD0 := hid d0; have HD1 := hid d1
    have HC := hid hB1
    clear hB1 HB1 hB2 d0 d1
    go_upto_region 2 with fail
    obtain ⟨W2, hW2⟩ : ∃ W2, W2 = (w1.alloc (.cells #[.slice o1 m c1, .slice o2 0 c2] 27)) := ⟨_, rfl⟩
    obtain ⟨D, hD⟩ : ∃ D, w1.heap.size = D := ⟨_, rfl⟩
    simp only [← hW2, hD] at HB2 HD0 HD1 HO1 HO2 hzD HLT ⊢
    clear hW2 hD HC
    have d0 := HD0.out; have d1 := HD1.out
    obtain ⟨⟨v0, y0⟩, f0⟩ := HB2.out.2.1
    obtain ⟨⟨v1, y1⟩, f1⟩ := HB2.out.2.2
    have hz := HB2.out.lt
    by_cases hf1 : f < 1
    · have g1 : decide (f < 1) = true := by simpa using hf1
      have HR : Hid (createD (m : Int) f = (([], []), 1)) := by unfold Hid createD; rw [if_neg (by omega)]
      go_wp2_with fail
      rw [HR.out]
      exact bodyPost_ret (v := .tuple #[.agg #[.slice none 0 0, .slice none 0 0], .int .i64 1]) (by simp [results, Try.results19, go_sem, y0, y1, f0, f1, hz]) rfl ⟨_, _, rfl, oS_nil _ _, oW_nil _ _, ((HB2.out.set (Nat.le_refl _) _ _).set (Nat.le_refl _) _ _).1⟩
    have g1 : decide (f < 1) = false := by simpa using hf1
    by_cases hf8 : 8 < f
    · have g2 : decide (8 < f) = true := by simpa using hf8
      have HR : Hid (createD (m : Int) f = (([], []), 1)) := by unfold Hid createD; rw [if_neg (by omega)]
      go_wp2_with fail
      rw [HR.out]
      exact bodyPost_ret (v := .tuple #[.agg #[.slice none 0 0, .slice none 0 0], .int .i64 1]) (by simp [results, Try.results19, go_sem, y0, y1, f0, f1, hz]) rfl ⟨_, _, rfl, oS_nil _ _, oW_nil _ _, ((HB2.out.set (Nat.le_refl _) _ _).set (Nat.le_refl _) _ _).1⟩
    have g2 : decide (8 < f) = false := by simpa using hf8
    obtain ⟨q, rfl⟩ : ∃ q : Nat, f = (q : Int) := ⟨f.toNat, by omega⟩
    have HR : Hid (createD (m : Int) (q : Int) = (((List.replicate m (zs 64)).set 1 (headPg (1, 0, q, 0)), []), 0)) := by unfold Hid createD; rw [if_pos (by omega)]; rfl
    obtain ⟨g, cg, hv, hgB, hgl, hgc, hgf, hgcell⟩ := OS.cells HO1.out (by simp; omega)
    simp only [Value.slice.injEq, List.length_replicate, true_and] at hv
    obtain ⟨rfl, rfl⟩ := hv
    have HP := hid (fun w' => page_any (1, 0, q, 0) w' (by simp only; omega) (by simp only; omega) (by simp only; omega) (by simp only; omega))
    obtain ⟨P, hP⟩ : ∃ P, headPg (1, 0, q, 0) = P := ⟨_, rfl⟩
    rw [hP] at HP HR
    have hm4 : (1 : Int) < (m : Int) := by omega
    have og : OwnC W2 ⟨g, 1, none⟩ := ⟨⟨_, hgcell 1 _ (encS_at _ 1 (zs 64) (by rw [List.getElem?_replicate]; simp; omega))⟩, hgf 1⟩
    have HOG := hid og
    clear hP hgcell hgf hgc y0 y1 f0 f1 hz HBW og
    obtain ⟨⟨vg, yg⟩, fg⟩ := HOG.out
    go_wp2_with fail
    go_region_with (go_at_call 74; refine (HP.out _).mono ?_; rintro e w3 ⟨rfl, hb3⟩; have hb3 := below_step hb3 (drew_below W2); have d0 := keepc hb3 HD0.out; obtain ⟨⟨vg, yg⟩, fg⟩ := keepOwn hb3 HOG.out)
    all_goals
      have HB3 : Hid (Below W2.heap.size W2 w3) := (by assumption)
      have hB3 : B2 w w.heap.size w3 := HB2.out.below HB3.out
      have HO13 := hid (HO1.out.below HB3.out)
      have HO23 := hid (HO2.out.below HB3.out)
      have HSET := hid (OS.set (s := P) HO13.out (by simp) (show 1 < m by omega))
      obtain ⟨W4, hW4⟩ : ∃ W4, W4 = w3.setCell ⟨g, 1, none⟩ (strV P) := ⟨_, rfl⟩
      rw [← hW4] at HSET ⊢
      have hs3 := (hgB : w.heap.size + 1 ≤ g)
      have hgD : g < D := HLT.out g rfl
      have d0 : W4.cell? ⟨D, 0, none⟩ = some (.slice (some ⟨g, 0, none⟩) m c1) := grown_cell HSET.out.2 (by simp; omega) (keepc HB3.out HD0.out)
      have d1 : W4.cell? ⟨D, 1, none⟩ = some (.slice o2 0 c2) := grown_cell HSET.out.2 (by simp; omega) (keepc HB3.out HD1.out)
      have hB4 : B2 w w.heap.size W4 := hB3.grown HSET.out.2 (fun k hk => by cases hk; omega) (by simp; omega)
      have HO24 : Hid (OW W4 (w.heap.size + 1) (.slice o2 0 c2) []) := World.ownsRow.kept HO23.out HSET.out.2 (rows_apart HO23.out HO13.out (by decide))
      obtain ⟨⟨v0, y0⟩, f0⟩ := hB4.2.1
      obtain ⟨⟨v1, y1⟩, f1⟩ := hB4.2.2
      have hz := hB4.lt
      have HO14 := hid HSET.out.1
      have HB4 := hid hB4
      clear hW4 hB4 hB3 HSET HB3 HLT
      go_wp2_with fail
      rw [HR.out]
      have n1 : (Value.slice (some ⟨g, 0, none⟩) m c1).ownBlock ≠ some w.heap.size := fun e => by have := (World.ownsRow.lt HO14.out _ e).1; omega
      have n3 : (Value.slice o2 0 c2).ownBlock ≠ some w.heap.size := fun e => by have := (World.ownsRow.lt HO24.out _ e).1; omega
      exact bodyPost_ret (v := .tuple #[.agg #[.slice (some ⟨g, 0, none⟩) m c1, .slice o2 0 c2], .int .i64 0]) (by simp [results, Try.results19, go_sem, y0, y1, f0, f1, hz]) rfl
        ⟨_, _, rfl, OS.mono (ownsRow_setCell_other (ownsRow_setCell_other HO14.out n1 _) n1 _) (by omega), OW.mono (ownsRow_setCell_other (ownsRow_setCell_other HO24.out n3 _) n3 _) (by omega), ((HB4.out.set (Nat.le_refl _) _ _).set (Nat.le_refl _) _ _).1⟩
  · have hr : newDk n = (([], []), 1) := by unfold newDk; rw [if_neg hn]
    rw [hr] at HN
    have HR : Hid (createD n f = (([], []), 1)) := by unfold Hid createD; rw [if_neg (by omega)]
    clear hn hr
    go_enter Try.func19, Try.ntmps19
    go_wp2_with fail
    refine (HN.out _).mono ?_
    rintro e w1 ⟨up, uq, rfl, ho1, ho2, hb1⟩
    obtain ⟨o1, c1, rfl, -, -⟩ := ho1.rd
    obtain ⟨o2, c2, rfl, -, -⟩ := ho2.rd
    have hB1 : B2 w w.heap.size w1 := HBW.out.below hb1
    have HB1 := hid hB1
    have HB2 : Hid (B2 w w.heap.size (w1.alloc (.cells #[.slice o1 0 c1, .slice o2 0 c2] 27))) := HB1.out.alloc _
    have HC := hid hB1
    clear hb1 ho1 ho2 hB1 HB1 HN HBW
    go_upto_region 2 with fail
    obtain ⟨W2, hW2⟩ : ∃ W2, W2 = (w1.alloc (.cells #[.slice o1 0 c1, .slice o2 0 c2] 27)) := ⟨_, rfl⟩
    obtain ⟨D, hD⟩ : ∃ D, w1.heap.size = D := ⟨_, rfl⟩
    simp only [← hW2, hD] at HB2 ⊢
    clear hW2 hD HC
    obtain ⟨⟨v0, y0⟩, f0⟩ := HB2.out.2.1
    obtain ⟨⟨v1, y1⟩, f1⟩ := HB2.out.2.2
    have hz := HB2.out.lt
    go_wp2_with fail
    rw [HR.out]
    exact bodyPost_ret (v := .tuple #[.agg #[.slice none 0 0, .slice none 0 0], .int .i64 1]) (by simp [results, Try.results19, go_sem, y0, y1, f0, f1, hz]) rfl ⟨_, _, rfl, oS_nil _ _, oW_nil _ _, ((HB2.out.set (Nat.le_refl _) _ _).set (Nat.le_refl _) _ _).1⟩
end Go.Proofs.Ytifcgimpgbeocaa
/- copies. -/
set_option linter.unusedVariables false
set_option linter.unusedSimpArgs false
namespace Go.Proofs.Ytifcgimpgbeocaa
open Go.RowKit
attribute [local go_sem] Oper.semAt_some
/-- A call that returns datasets, all of it new. -/
def RetD (l : List Ds) (w : World) (e : Ending) (w' : World) : Prop := ∃ v, e = .returned v ∧ OD w' w.heap.size v l ∧ Below w.heap.size w w'
set_option maxHeartbeats 1000000 in
set_option maxRecDepth 100000 in
theorem copies_any (l : List Ds) (v : Value) (w : World) (hR : RdD w v l) (hl : l.length ≤ 1000000) (hl2 : ∀ d ∈ l, d.length ≤ 1000000000) : Calls Try.prog 80 #[v] w (RetD l w) := by
  obtain ⟨op, cap, rfl, hcap, hc⟩ := hR
  have HC := hid hc
  have HL := hid hl2
  obtain ⟨M, hM⟩ : ∃ M, l.length = M := ⟨_, rfl⟩
  have HM := hid hM
  rw [hM] at hl hcap ⊢
  have HB0 := hid (Below.refl w.heap.size w)
  have HI0 : Hid (OD w w.heap.size (.slice none 0 0) (l.take 0)) := oD_nil _ _
  clear hc hl2 hM
  go_enter Try.func80, Try.ntmps80
  go_wp2_with fail
  go_loopw [3, 8] (fun v i wr => ∃ k : Nat, i = .int .i64 k ∧ k ≤ M ∧ Hid (OD wr w.heap.size v (l.take k)) ∧ Hid (Below w.heap.size w wr)) (fun _ i _ => M - (intOf i).toNat)
  case atStart => exact ⟨0, rfl, Nat.zero_le _, HI0, HB0⟩
  case round =>
    obtain ⟨k, rfl, hk, HI, HB⟩ := hrel
    by_cases hlt : k < M
    · obtain ⟨x, hx⟩ : ∃ x, l[k]? = some x := ⟨_, List.getElem?_eq_getElem (by have := HM.out; omega)⟩
      have hHC := HC.out
      rcases hHC with hq | ⟨b, off, rfl, hbq, hq⟩
      · rw [hq] at hx; simp at hx
      obtain ⟨u, c0, hu⟩ := hq k x hx
      have c0 := keepB HB.out (a := ⟨b, off + k, none⟩) hbq c0
      have HCL := hid (fun w' hb => cloneR_any x u w' (hu.below hb) (HL.out x (List.mem_of_getElem? hx)))
      have HST : Hid (l.take (k + 1) = l.take k ++ [x]) := by unfold Hid; rw [List.take_add_one, hx]; rfl
      obtain ⟨us, hU1, hU2, hU3⟩ := HI.out
      have hul : us.length ≤ 1000000 := by rw [hU1, List.length_take]; omega
      have HU2 := hid hU2; have HU3 := hid hU3; have HU1 := hid hU1
      obtain ⟨o2, c2, rfl⟩ : ∃ o c, u3 = .slice o us.length c := by
        obtain ⟨-, ⟨e, h0⟩ | ⟨g, cp, cur, e, -⟩⟩ := hU2
        · exact ⟨none, 0, by rw [h0]; exact e⟩
        · exact ⟨_, _, e⟩
      clear hq hu hx hU1 hU2 hU3
      go_wp2_with fail
      refine (HCL.out _ HB.out).mono ?_
      rintro e w1 ⟨u4, rfl, ho4, hb1⟩
      have HB1 := hid (below_step hb1 HB.out)
      have HO4 := hid (ho4.mono HB.out.size)
      have HU2 := hid (HU2.out.below hb1)
      have HU3 : Hid (∀ (i : Nat) (u : Value) (d : Ds), us[i]? = some u → (l.take k)[i]? = some d → OR w1 w.heap.size u d) := fun i u d h1 h2 => (HU3.out i u d h1 h2).below hb1
      obtain ⟨o4, c4, rfl⟩ : ∃ o c, u4 = .slice o x.length c := by obtain ⟨o, c, e, -⟩ := ho4.rd; exact ⟨o, c, e⟩
      have hz1 := HB1.out.size
      clear hb1 ho4
      have HY := hid (cell_new w1 #[.slice o4 x.length c4] 69 0 _ rfl)
      have HW1 := hid (balloc (Below.refl w1.heap.size w1) (.cells #[.slice o4 x.length c4] 69))
      go_wp2_with (at_builtin; refine appV rfl _ _ rfl w.heap.size _ us (.slice o4 x.length c4) _ _ rfl rfl (HU2.out.below HW1.out) HY.out rfl hul (Nat.le_trans hz1 HW1.out.size) ?_)
      intro v5 w5 hv5 hg5
      have HV5 := hid hv5
      have hw5 : Below w.heap.size w w5 := OV.grown (HU2.out.below HW1.out) (HB1.out.trans (HW1.out.mono hz1)) hg5 (Nat.le_trans hz1 HW1.out.size)
      have HD5 : Hid (OD w5 w.heap.size v5 (l.take (k + 1))) := by
        refine ⟨_, ?_, hv5, ?_⟩
        · rw [HST.out, List.length_append, List.length_append, HU1.out]; rfl
        · have hlt' : us.length = (l.take k).length := HU1.out
          intro i u d hu hd
          rw [HST.out] at hd
          have hrow : ∀ y, OR w1 w.heap.size u y → OR w5 w.heap.size u y := fun y hy => World.ownsRow.kept (hy.below HW1.out) hg5 (rows_apart (hy.below HW1.out) (HU2.out.below HW1.out) (by decide))
          by_cases hi : i < us.length
          · rw [List.getElem?_append_left hi] at hu
            rw [List.getElem?_append_left (by omega)] at hd
            exact hrow _ (HU3.out i u d hu hd)
          · rw [List.getElem?_append_right (by omega)] at hu hd
            rw [← hlt'] at hd
            match hii : i - us.length with
            | 0 => rw [hii] at hu hd; simp only [List.getElem?_cons_zero, Option.some.injEq] at hu hd; subst hu hd; exact hrow _ HO4.out
            | j + 1 => rw [hii] at hu; simp at hu
      have HW5 := hid hw5
      clear hv5 hg5 hw5 HY hz1
      go_wp2_with fail
      go_roundw
      case rel => exact ⟨k + 1, by go_num, by omega, HD5, HW5⟩
      case measure => simp [intOf]; omega
    · have hkM : k = M := by omega
      subst hkM
      have HT : Hid (l.take k = l) := List.take_of_length_le (by rw [HM.out]; exact Nat.le_refl _)
      rw [HT.out] at HI
      go_wp2_with fail
      go_ret
      exact ⟨_, rfl, HI.out, HB.out⟩
end Go.Proofs.Ytifcgimpgbeocaa
/- Decode$1: the deferred call of Decode. -/
set_option linter.unusedVariables false
set_option linter.unusedSimpArgs false
namespace Go.Proofs.Ytifcgimpgbeocaa
open Go.RowKit
attribute [local go_sem] Oper.semAt_some
theorem assert_short (W : World) (v : Value) : (Instr.typeAssert (.iface 148 v) 20 148 true).run Try.prog W = .ok (.tuple #[v, .bool true]) W := by kernel_rfl
set_option maxRecDepth 100000 in
theorem caught_panic (X Y : Nat) (older : List PanicEntry) (w : World) (v0 v1 : Value) (hx : w.cell? ⟨X, 0, none⟩ = some v0) (fx : w.frozen? ⟨X, 0, none⟩ = false) (hy : w.cell? ⟨Y, 0, none⟩ = some v1) (fy : w.frozen? ⟨Y, 0, none⟩ = false) (hne : ¬ Y = X) :
    CallsD Try.prog 103 #[.pointer (some ⟨X, 0, none⟩), .pointer (some ⟨Y, 0, none⟩)] (.panicking ({ v := .iface 148 (.agg #[]), recovered := false } :: older)) w fun e u' w' =>
      e = .returned (.tuple #[]) ∧ u' = .panicking ({ v := .iface 148 (.agg #[]), recovered := true } :: older) ∧ w' = (((w.alloc (.cells #[] 148)).setCell ⟨X, 0, none⟩ (.slice none 0 0)).setCell ⟨Y, 0, none⟩ (.int .i64 145)) := by
  have ha := fun W => assert_short W (.agg #[])
  have hx2 : (w.alloc (.cells #[] 148)).cell? ⟨X, 0, none⟩ = some v0 := Lib.cell?_alloc_some _ hx
  have hy2 : (w.alloc (.cells #[] 148)).cell? ⟨Y, 0, none⟩ = some v1 := Lib.cell?_alloc_some _ hy
  have fx2 : (w.alloc (.cells #[] 148)).frozen? ⟨X, 0, none⟩ = false := keepf (balloc (Below.refl _ _) _) hx fx
  have fy2 : (w.alloc (.cells #[] 148)).frozen? ⟨Y, 0, none⟩ = false := keepf (balloc (Below.refl _ _) _) hy fy
  refine callsD_of_wpS Try.func103 rfl fun c₀ cs hu => ?_
  apply wpS_seq
  apply wpS_region
  simp [wpOpsS, go_sem, recoverD, hu, Try.ntmps103, Exit.thenS]
  refine wpS_of_wp ?_
  go_wp2
  cases c₀
  simp_all [bodyPostS, results, Try.results103]
theorem caught_idle (X Y : Nat) (w : World) :
    CallsD Try.prog 103 #[.pointer (some ⟨X, 0, none⟩), .pointer (some ⟨Y, 0, none⟩)] .returning w fun e u' w' => e = .returned (.tuple #[]) ∧ u' = .returning ∧ w' = w := by
  refine callsD_of_wpS Try.func103 rfl fun c₀ cs hu => ?_
  apply wpS_seq
  apply wpS_region
  simp [wpOpsS, go_sem, recoverD, hu, Try.ntmps103, Exit.thenS]
  refine wpS_of_wp ?_
  go_wp2
  cases c₀
  simp_all [bodyPostS, results, Try.results103]
/-- What counted takes off. -/
def cntL : Bs → Option (Bs × Bs)
  | [] => none
  | c :: s => if c.toNat ≤ s.length then some (s.take c.toNat, s.drop c.toNat) else none
theorem cntL_cons (c : UInt8) (s : Bs) : cntL (c :: s) = if c.toNat ≤ s.length then some (s.take c.toNat, s.drop c.toNat) else none := rfl
theorem cntL_nil : cntL [] = none := rfl
theorem dec1_cnt (k f : UInt8) (t : Bs) : dec1 (k :: f :: t) = match cntL t with
    | none => none
    | some (key, t2) => if k.toNat = 5 then some (((k.toNat : Int), (f.toNat : Int), key, []), t2) else match cntL t2 with
      | none => none
      | some (d, t3) => some (((k.toNat : Int), (f.toNat : Int), key, d), t3) := by
  cases t with
  | nil => rfl
  | cons n r =>
    rw [dec1_cons, cntL_cons]
    by_cases hn : n.toNat ≤ r.length
    · rw [if_pos hn, if_pos hn]
      simp only
      by_cases h5 : k.toNat = 5
      · rw [if_pos h5, if_pos h5]
      · rw [if_neg h5, if_neg h5]
        cases hr : r.drop n.toNat with
        | nil => rfl
        | cons m q =>
          simp only [cntL_cons]
          by_cases hm : m.toNat ≤ q.length
          · rw [if_pos hm, if_pos hm]
          · rw [if_neg hm, if_neg hm]
    · rw [if_neg hn, if_neg hn]
theorem cnt_len {t a b : Bs} (h : cntL t = some (a, b)) : a.length + b.length < t.length := by
  cases t with
  | nil => cases h
  | cons c q =>
    rw [cntL_cons] at h
    split at h
    · simp only [Option.some.injEq, Prod.mk.injEq] at h
      obtain ⟨rfl, rfl⟩ := h
      simp; omega
    · cases h
theorem dec1_one (k : UInt8) : dec1 [k] = none := rfl
theorem counted_none (t : Bs) (w : World) (h : cntL t = none) : Calls Try.prog 105 #[strV t] w (fun e w' => e = .panicked shortP ∧ Below w.heap.size w w') := by
  cases t with
  | nil =>
    have H1 := hid (fun w => take_short [] 1 w (by simp))
    go_enter Try.func105, Try.ntmps105
    go_wp2_with fail
    refine (H1.out _).mono ?_
    rintro e w1 ⟨rfl, hb1⟩
    exact ⟨rfl, rfl, hb1⟩
  | cons c s =>
    have hs : s.length < c.toNat := by
      rw [cntL_cons] at h
      split at h
      · cases h
      · omega
    have H1 := hid (fun w => take_ok (c :: s) 1 w (by simp))
    have H2 := hid (fun w => take_short s c.toNat w hs)
    have x0 := fun w => strv_at ((c :: s).take 1) 0 .i64 (by simp) w
    have hc : byt ((c :: s).take 1) 0 = (c.toNat : Int) := rfl
    rw [hc] at x0
    have hw : IntKind.i64.wrap (c.toNat : Int) = (c.toNat : Int) := IntWalk.i64_in _ ⟨by omega, by have := c.toNat_lt; omega⟩
    have hc0 : ∀ (h : 0 < (ByteArray.mk #[c]).size), (ByteArray.mk #[c])[0]'h = c := fun _ => rfl
    have hw' : wrap64 (c.toNat : Int) = (c.toNat : Int) := by have := c.toNat_lt; unfold wrap64; omega
    clear hc h hs
    go_enter Try.func105, Try.ntmps105
    go_wp2_with fail
    refine (H1.out _).mono ?_
    rintro e w1 ⟨rfl, hb1⟩
    have HB1 := hid hb1
    clear hb1
    go_wp2_with fail
    refine (H2.out _).mono ?_
    rintro e w2 ⟨rfl, hb2⟩
    exact ⟨rfl, rfl, below_step hb2 HB1.out⟩
theorem counted_some (t a b : Bs) (w : World) (h : cntL t = some (a, b)) : Calls Try.prog 105 #[strV t] w (Ret (.tuple #[strV a, strV b]) w) := by
  cases t with
  | nil => cases h
  | cons c s =>
    rw [cntL_cons] at h
    split at h
    · rename_i hs
      simp only [Option.some.injEq, Prod.mk.injEq] at h
      obtain ⟨rfl, rfl⟩ := h
      exact counted_ok c s w hs
    · cases h
end Go.Proofs.Ytifcgimpgbeocaa
