/- Create. -/
import Derived.Test.YtifcgimpgbeocaaGreatK11
import Derived.Test.YtifcgimpgbeocaaGreatK9
set_option linter.unusedVariables false
set_option linter.unusedSimpArgs false
namespace Go.Proofs.YtifcgimpgbeocaaGreat
open Go.RowKit
attribute [local go_sem] Oper.semAt_some
set_option maxHeartbeats 1000000 in
set_option maxRecDepth 100000 in
theorem create_any (n f : Int) (w : World) : Calls Tryz.prog 6 #[.int .i64 n, .int .i64 f] w (RetDk (createD n f).1 (createD n f).2 w) := by
  have HBW := hid (B2.new w 25 (.slice none 0 0) (.slice none 0 0))
  have HN := hid (fun w' => newdisk_any n w')
  by_cases hn : 4 ≤ n ∧ n ≤ 4096
  · obtain ⟨m, rfl⟩ : ∃ m : Nat, n = (m : Int) := ⟨n.toNat, by omega⟩
    have hr : newDk (m : Int) = ((List.replicate m (zs 64), []), 0) := by unfold newDk; rw [if_pos hn]; rfl
    rw [hr] at HN
    go_enter Tryz.func6, Tryz.ntmps6
    go_wp2_with fail
    refine (HN.out _).mono ?_
    rintro e w1 ⟨up, uq, rfl, ho1, ho2, hb1⟩
    obtain ⟨o1, c1, rfl, -, -⟩ := ho1.rd
    obtain ⟨o2, c2, rfl, -, -⟩ := ho2.rd
    have hB1 : B2 w w.heap.size w1 := HBW.out.below hb1
    have HB1 := hid hB1
    have HLT := hid (fun k (hk : (Value.slice o1 (List.replicate m (zs 64)).length c1).ownBlock = some k) => (World.ownsRow.lt ho1 k hk).2)
    have HO1 := hid (OS.mono ho1 (B' := w.heap.size + 1) (by simp)); have HO2 := hid (OW.mono ho2 (B' := w.heap.size + 1) (by simp))
    clear hb1 ho1 ho2 HN
    simp only [List.length_replicate] at HO1 HO2 HLT
    have hB2 : B2 w w.heap.size (w1.alloc (.cells #[.slice o1 m c1, .slice o2 0 c2] 25)) := HB1.out.alloc _
    have d0 : (w1.alloc (.cells #[.slice o1 m c1, .slice o2 0 c2] 25)).cell? ⟨w1.heap.size, 0, none⟩ = some (.slice o1 m c1) := cell_new _ _ _ 0 _ rfl
    have d1 : (w1.alloc (.cells #[.slice o1 m c1, .slice o2 0 c2] 25)).cell? ⟨w1.heap.size, 1, none⟩ = some (.slice o2 0 c2) := cell_new _ _ _ 1 _ rfl
    have HO1 : Hid (OS (w1.alloc (.cells #[.slice o1 m c1, .slice o2 0 c2] 25)) (w.heap.size + 1) (.slice o1 m c1) (List.replicate m (zs 64))) := HO1.out.below ((Below.refl _ _).alloc (Nat.le_refl _) _)
    have HO2 : Hid (OW (w1.alloc (.cells #[.slice o1 m c1, .slice o2 0 c2] 25)) (w.heap.size + 1) (.slice o2 0 c2) []) := HO2.out.below ((Below.refl _ _).alloc (Nat.le_refl _) _)
    have hzD : w.heap.size < w1.heap.size := HB1.out.lt
    have HB2 := hid hB2
    have HD0 := hid d0; have HD1 := hid d1
    have HC := hid hB1
    clear hB1 HB1 hB2 d0 d1
    go_upto_region 2 with fail
    obtain ⟨W2, hW2⟩ : ∃ W2, W2 = (w1.alloc (.cells #[.slice o1 m c1, .slice o2 0 c2] 25)) := ⟨_, rfl⟩
    obtain ⟨D, hD⟩ : ∃ D, w1.heap.size = D := ⟨_, rfl⟩
    simp only [← hW2, hD] at HB2 HD0 HD1 HO1 HO2 hzD HLT ⊢
    clear hW2 hD HC
    have d0 := HD0.out; have d1 := HD1.out
    obtain ⟨⟨v0, y0⟩, f0⟩ := HB2.out.2.1
    obtain ⟨⟨v1, y1⟩, f1⟩ := HB2.out.2.2
    have hz := HB2.out.lt
    by_cases hf1 : f < 1
    · have g1 : decide (f < 1) = true := by simpa using hf1
      have HR : Hid (createD (m : Int) f = (([], []), 1)) := by unfold Hid createD; rw [if_neg (by omega)]
      go_wp2_with fail
      rw [HR.out]
      exact bodyPost_ret (v := .tuple #[.agg #[.slice none 0 0, .slice none 0 0], .int .i64 1]) (by simp [results, Tryz.results6, go_sem, y0, y1, f0, f1, hz]) rfl ⟨_, _, rfl, oS_nil _ _, oW_nil _ _, ((HB2.out.set (Nat.le_refl _) _ _).set (Nat.le_refl _) _ _).1⟩
    have g1 : decide (f < 1) = false := by simpa using hf1
    by_cases hf8 : 8 < f
    · have g2 : decide (8 < f) = true := by simpa using hf8
      have HR : Hid (createD (m : Int) f = (([], []), 1)) := by unfold Hid createD; rw [if_neg (by omega)]
      go_wp2_with fail
      rw [HR.out]
      exact bodyPost_ret (v := .tuple #[.agg #[.slice none 0 0, .slice none 0 0], .int .i64 1]) (by simp [results, Tryz.results6, go_sem, y0, y1, f0, f1, hz]) rfl ⟨_, _, rfl, oS_nil _ _, oW_nil _ _, ((HB2.out.set (Nat.le_refl _) _ _).set (Nat.le_refl _) _ _).1⟩
    have g2 : decide (8 < f) = false := by simpa using hf8
    obtain ⟨q, rfl⟩ : ∃ q : Nat, f = (q : Int) := ⟨f.toNat, by omega⟩
    have HR : Hid (createD (m : Int) (q : Int) = (((List.replicate m (zs 64)).set 1 (headPg (1, 0, q, 0)), []), 0)) := by unfold Hid createD; rw [if_pos (by omega)]; rfl
    obtain ⟨g, cg, hv, hgB, hgl, hgc, hgf, hgcell⟩ := OS.cells HO1.out (by simp; omega)
    simp only [Value.slice.injEq, List.length_replicate, true_and] at hv
    obtain ⟨rfl, rfl⟩ := hv
    have HP := hid (fun w' => page_any (1, 0, q, 0) w' (by simp only; omega) (by simp only; omega) (by simp only; omega) (by simp only; omega))
    obtain ⟨P, hP⟩ : ∃ P, headPg (1, 0, q, 0) = P := ⟨_, rfl⟩
    rw [hP] at HP HR
    have hm4 : (1 : Int) < (m : Int) := by omega
    have og : OwnC W2 ⟨g, 1, none⟩ := ⟨⟨_, hgcell 1 _ (encS_at _ 1 (zs 64) (by rw [List.getElem?_replicate]; simp; omega))⟩, hgf 1⟩
    have HOG := hid og
    clear hP hgcell hgf hgc y0 y1 f0 f1 hz HBW og
    obtain ⟨⟨vg, yg⟩, fg⟩ := HOG.out
    go_wp2_with fail
    go_region_with (go_at_call 31; refine (HP.out _).mono ?_; rintro e w3 ⟨rfl, hb3⟩; have hb3 := below_step hb3 (drew_below W2); have d0 := keepc hb3 HD0.out; obtain ⟨⟨vg, yg⟩, fg⟩ := keepOwn hb3 HOG.out)
    all_goals
      have HB3 : Hid (Below W2.heap.size W2 w3) := (by assumption)
      have hB3 : B2 w w.heap.size w3 := HB2.out.below HB3.out
      have HO13 := hid (HO1.out.below HB3.out)
      have HO23 := hid (HO2.out.below HB3.out)
      have HSET := hid (OS.set (s := P) HO13.out (by simp) (show 1 < m by omega))
      obtain ⟨W4, hW4⟩ : ∃ W4, W4 = w3.setCell ⟨g, 1, none⟩ (strV P) := ⟨_, rfl⟩
      rw [← hW4] at HSET ⊢
      have hs3 := (hgB : w.heap.size + 1 ≤ g)
      have hgD : g < D := HLT.out g rfl
      have d0 : W4.cell? ⟨D, 0, none⟩ = some (.slice (some ⟨g, 0, none⟩) m c1) := grown_cell HSET.out.2 (by simp; omega) (keepc HB3.out HD0.out)
      have d1 : W4.cell? ⟨D, 1, none⟩ = some (.slice o2 0 c2) := grown_cell HSET.out.2 (by simp; omega) (keepc HB3.out HD1.out)
      have hB4 : B2 w w.heap.size W4 := hB3.grown HSET.out.2 (fun k hk => by cases hk; omega) (by simp; omega)
      have HO24 : Hid (OW W4 (w.heap.size + 1) (.slice o2 0 c2) []) := World.ownsRow.kept HO23.out HSET.out.2 (rows_apart HO23.out HO13.out (by decide))
      obtain ⟨⟨v0, y0⟩, f0⟩ := hB4.2.1
      obtain ⟨⟨v1, y1⟩, f1⟩ := hB4.2.2
      have hz := hB4.lt
      have HO14 := hid HSET.out.1
      have HB4 := hid hB4
      clear hW4 hB4 hB3 HSET HB3 HLT
      go_wp2_with fail
      rw [HR.out]
      have n1 : (Value.slice (some ⟨g, 0, none⟩) m c1).ownBlock ≠ some w.heap.size := fun e => by have := (World.ownsRow.lt HO14.out _ e).1; omega
      have n3 : (Value.slice o2 0 c2).ownBlock ≠ some w.heap.size := fun e => by have := (World.ownsRow.lt HO24.out _ e).1; omega
      exact bodyPost_ret (v := .tuple #[.agg #[.slice (some ⟨g, 0, none⟩) m c1, .slice o2 0 c2], .int .i64 0]) (by simp [results, Tryz.results6, go_sem, y0, y1, f0, f1, hz]) rfl
        ⟨_, _, rfl, OS.mono (ownsRow_setCell_other (ownsRow_setCell_other HO14.out n1 _) n1 _) (by omega), OW.mono (ownsRow_setCell_other (ownsRow_setCell_other HO24.out n3 _) n3 _) (by omega), ((HB4.out.set (Nat.le_refl _) _ _).set (Nat.le_refl _) _ _).1⟩
  · have hr : newDk n = (([], []), 1) := by unfold newDk; rw [if_neg hn]
    rw [hr] at HN
    have HR : Hid (createD n f = (([], []), 1)) := by unfold Hid createD; rw [if_neg (by omega)]
    clear hn hr
    go_enter Tryz.func6, Tryz.ntmps6
    go_wp2_with fail
    refine (HN.out _).mono ?_
    rintro e w1 ⟨up, uq, rfl, ho1, ho2, hb1⟩
    obtain ⟨o1, c1, rfl, -, -⟩ := ho1.rd
    obtain ⟨o2, c2, rfl, -, -⟩ := ho2.rd
    have hB1 : B2 w w.heap.size w1 := HBW.out.below hb1
    have HB1 := hid hB1
    have HB2 : Hid (B2 w w.heap.size (w1.alloc (.cells #[.slice o1 0 c1, .slice o2 0 c2] 25))) := HB1.out.alloc _
    have HC := hid hB1
    clear hb1 ho1 ho2 hB1 HB1 HN HBW
    go_upto_region 2 with fail
    obtain ⟨W2, hW2⟩ : ∃ W2, W2 = (w1.alloc (.cells #[.slice o1 0 c1, .slice o2 0 c2] 25)) := ⟨_, rfl⟩
    obtain ⟨D, hD⟩ : ∃ D, w1.heap.size = D := ⟨_, rfl⟩
    simp only [← hW2, hD] at HB2 ⊢
    clear hW2 hD HC
    obtain ⟨⟨v0, y0⟩, f0⟩ := HB2.out.2.1
    obtain ⟨⟨v1, y1⟩, f1⟩ := HB2.out.2.2
    have hz := HB2.out.lt
    go_wp2_with fail
    rw [HR.out]
    exact bodyPost_ret (v := .tuple #[.agg #[.slice none 0 0, .slice none 0 0], .int .i64 1]) (by simp [results, Tryz.results6, go_sem, y0, y1, f0, f1, hz]) rfl ⟨_, _, rfl, oS_nil _ _, oW_nil _ _, ((HB2.out.set (Nat.le_refl _) _ _).set (Nat.le_refl _) _ _).1⟩
end Go.Proofs.YtifcgimpgbeocaaGreat
