/- The reference's Create. -/
import Derived.Test.YtifcgimpgbeocaaGreatK11
import Derived.Test.YtifcgimpgbeocaaGreatK9
import Derived.Test.YtifcgimpgbeocaaGreatK14
import Derived.Test.YtifcgimpgbeocaaGreatK2
import Derived.Laws.StructEq
import Derived.Test.YtifcgimpgbeocaaGreatK6
import Derived.Test.YtifcgimpgbeocaaGreatK18
set_option linter.unusedVariables false
set_option linter.unusedSimpArgs false
namespace Go.Proofs.YtifcgimpgbeocaaGreat
open Go.RowKit
attribute [local go_sem] Oper.semAt_some
set_option maxHeartbeats 1000000 in
set_option maxRecDepth 100000 in
theorem rcreate_any (n f : Int) (w : World) : Calls Tryz.prog 7 #[.int .i64 n, .int .i64 f] w (RetDk (createD n f).1 (createD n f).2 w) := by
  have HBW := hid (B2.new w 25 (.slice none 0 0) (.slice none 0 0))
  have HN := hid (fun w' => rnewdisk_any n w')
  by_cases hn : 4 ≤ n ∧ n ≤ 4096
  · obtain ⟨m, rfl⟩ : ∃ m : Nat, n = (m : Int) := ⟨n.toNat, by omega⟩
    have hr : newDk (m : Int) = ((List.replicate m (zs 64), []), 0) := by unfold newDk; rw [if_pos hn]; rfl
    rw [hr] at HN
    go_enter Tryz.func7, Tryz.ntmps7
    go_wp2_with fail
    refine (HN.out _).mono ?_
    rintro e w1 ⟨up, uq, rfl, ho1, ho2, hb1⟩
    obtain ⟨o1, c1, rfl, -, -⟩ := ho1.rd
    obtain ⟨o2, c2, rfl, -, -⟩ := ho2.rd
    have hB1 : B2 w w.heap.size w1 := HBW.out.below hb1
    have HB1 := hid hB1
    have HLT := hid (fun k (hk : (Value.slice o1 (List.replicate m (zs 64)).length c1).ownBlock = some k) => (World.ownsRow.lt ho1 k hk).2)
    have HO1 := hid (OS.mono ho1 (B' := w.heap.size + 1) (by simp)); have HO2 := hid (OW.mono ho2 (B' := w.heap.size + 1) (by simp))
    clear hb1 ho1 ho2 HN
    simp only [List.length_replicate] at HO1 HO2 HLT
    have hB2 : B2 w w.heap.size (w1.alloc (.cells #[.slice o1 m c1, .slice o2 0 c2] 25)) := HB1.out.alloc _
    have d0 : (w1.alloc (.cells #[.slice o1 m c1, .slice o2 0 c2] 25)).cell? ⟨w1.heap.size, 0, none⟩ = some (.slice o1 m c1) := cell_new _ _ _ 0 _ rfl
    have d1 : (w1.alloc (.cells #[.slice o1 m c1, .slice o2 0 c2] 25)).cell? ⟨w1.heap.size, 1, none⟩ = some (.slice o2 0 c2) := cell_new _ _ _ 1 _ rfl
    have HO1 : Hid (OS (w1.alloc (.cells #[.slice o1 m c1, .slice o2 0 c2] 25)) (w.heap.size + 1) (.slice o1 m c1) (List.replicate m (zs 64))) := HO1.out.below ((Below.refl _ _).alloc (Nat.le_refl _) _)
    have HO2 : Hid (OW (w1.alloc (.cells #[.slice o1 m c1, .slice o2 0 c2] 25)) (w.heap.size + 1) (.slice o2 0 c2) []) := HO2.out.below ((Below.refl _ _).alloc (Nat.le_refl _) _)
    have hzD : w.heap.size < w1.heap.size := HB1.out.lt
    have HB2 := hid hB2
    have HD0 := hid d0; have HD1 := hid d1
    have HC := hid hB1
    clear hB1 HB1 hB2 d0 d1
    go_upto_region 2 with fail
    obtain ⟨W2, hW2⟩ : ∃ W2, W2 = (w1.alloc (.cells #[.slice o1 m c1, .slice o2 0 c2] 25)) := ⟨_, rfl⟩
    obtain ⟨D, hD⟩ : ∃ D, w1.heap.size = D := ⟨_, rfl⟩
    simp only [← hW2, hD] at HB2 HD0 HD1 HO1 HO2 hzD HLT ⊢
    clear hW2 hD HC
    have d0 := HD0.out; have d1 := HD1.out
    obtain ⟨⟨v0, y0⟩, f0⟩ := HB2.out.2.1
    obtain ⟨⟨v1, y1⟩, f1⟩ := HB2.out.2.2
    have hz := HB2.out.lt
    by_cases hf1 : f < 1
    · have g1 : decide (f < 1) = true := by simpa using hf1
      have HR : Hid (createD (m : Int) f = (([], []), 1)) := by unfold Hid createD; rw [if_neg (by omega)]
      go_wp2_with fail
      rw [HR.out]
      exact bodyPost_ret (v := .tuple #[.agg #[.slice none 0 0, .slice none 0 0], .int .i64 1]) (by simp [results, Tryz.results7, go_sem, y0, y1, f0, f1, hz]) rfl ⟨_, _, rfl, oS_nil _ _, oW_nil _ _, ((HB2.out.set (Nat.le_refl _) _ _).set (Nat.le_refl _) _ _).1⟩
    have g1 : decide (f < 1) = false := by simpa using hf1
    by_cases hf8 : 8 < f
    · have g2 : decide (8 < f) = true := by simpa using hf8
      have HR : Hid (createD (m : Int) f = (([], []), 1)) := by unfold Hid createD; rw [if_neg (by omega)]
      go_wp2_with fail
      rw [HR.out]
      exact bodyPost_ret (v := .tuple #[.agg #[.slice none 0 0, .slice none 0 0], .int .i64 1]) (by simp [results, Tryz.results7, go_sem, y0, y1, f0, f1, hz]) rfl ⟨_, _, rfl, oS_nil _ _, oW_nil _ _, ((HB2.out.set (Nat.le_refl _) _ _).set (Nat.le_refl _) _ _).1⟩
    have g2 : decide (8 < f) = false := by simpa using hf8
    obtain ⟨q, rfl⟩ : ∃ q : Nat, f = (q : Int) := ⟨f.toNat, by omega⟩
    have HR : Hid (createD (m : Int) (q : Int) = (((List.replicate m (zs 64)).set 1 (headPg (1, 0, q, 0)), []), 0)) := by unfold Hid createD; rw [if_pos (by omega)]; rfl
    obtain ⟨g, cg, hv, hgB, hgl, hgc, hgf, hgcell⟩ := OS.cells HO1.out (by simp; omega)
    simp only [Value.slice.injEq, List.length_replicate, true_and] at hv
    obtain ⟨rfl, rfl⟩ := hv
    have HP := hid (fun w' => rheadpage_any (1, 0, q, 0) w' (by simp only; omega) (by simp only; omega) (by simp only; omega) (by simp only; omega))
    obtain ⟨P, hP⟩ : ∃ P, headPg (1, 0, q, 0) = P := ⟨_, rfl⟩
    rw [hP] at HP HR
    have hm4 : (1 : Int) < (m : Int) := by omega
    have og : OwnC W2 ⟨g, 1, none⟩ := ⟨⟨_, hgcell 1 _ (encS_at _ 1 (zs 64) (by rw [List.getElem?_replicate]; simp; omega))⟩, hgf 1⟩
    have HOG := hid og
    clear hP hgcell hgf hgc y0 y1 f0 f1 hz HBW og
    obtain ⟨⟨vg, yg⟩, fg⟩ := HOG.out
    go_wp2_with fail
    go_region_with (go_at_call 33; refine (HP.out _).mono ?_; rintro e w3 ⟨rfl, hb3⟩; have hb3 := below_step hb3 (drew_below W2); have d0 := keepc hb3 HD0.out; obtain ⟨⟨vg, yg⟩, fg⟩ := keepOwn hb3 HOG.out)
    all_goals
      have HB3 : Hid (Below W2.heap.size W2 w3) := (by assumption)
      have hB3 : B2 w w.heap.size w3 := HB2.out.below HB3.out
      have HO13 := hid (HO1.out.below HB3.out)
      have HO23 := hid (HO2.out.below HB3.out)
      have HSET := hid (OS.set (s := P) HO13.out (by simp) (show 1 < m by omega))
      obtain ⟨W4, hW4⟩ : ∃ W4, W4 = w3.setCell ⟨g, 1, none⟩ (strV P) := ⟨_, rfl⟩
      rw [← hW4] at HSET ⊢
      have hs3 := (hgB : w.heap.size + 1 ≤ g)
      have hgD : g < D := HLT.out g rfl
      have d0 : W4.cell? ⟨D, 0, none⟩ = some (.slice (some ⟨g, 0, none⟩) m c1) := grown_cell HSET.out.2 (by simp; omega) (keepc HB3.out HD0.out)
      have d1 : W4.cell? ⟨D, 1, none⟩ = some (.slice o2 0 c2) := grown_cell HSET.out.2 (by simp; omega) (keepc HB3.out HD1.out)
      have hB4 : B2 w w.heap.size W4 := hB3.grown HSET.out.2 (fun k hk => by cases hk; omega) (by simp; omega)
      have HO24 : Hid (OW W4 (w.heap.size + 1) (.slice o2 0 c2) []) := World.ownsRow.kept HO23.out HSET.out.2 (rows_apart HO23.out HO13.out (by decide))
      obtain ⟨⟨v0, y0⟩, f0⟩ := hB4.2.1
      obtain ⟨⟨v1, y1⟩, f1⟩ := hB4.2.2
      have hz := hB4.lt
      have HO14 := hid HSET.out.1
      have HB4 := hid hB4
      clear hW4 hB4 hB3 HSET HB3 HLT
      go_wp2_with fail
      rw [HR.out]
      have n1 : (Value.slice (some ⟨g, 0, none⟩) m c1).ownBlock ≠ some w.heap.size := fun e => by have := (World.ownsRow.lt HO14.out _ e).1; omega
      have n3 : (Value.slice o2 0 c2).ownBlock ≠ some w.heap.size := fun e => by have := (World.ownsRow.lt HO24.out _ e).1; omega
      exact bodyPost_ret (v := .tuple #[.agg #[.slice (some ⟨g, 0, none⟩) m c1, .slice o2 0 c2], .int .i64 0]) (by simp [results, Tryz.results7, go_sem, y0, y1, f0, f1, hz]) rfl
        ⟨_, _, rfl, OS.mono (ownsRow_setCell_other (ownsRow_setCell_other HO14.out n1 _) n1 _) (by omega), OW.mono (ownsRow_setCell_other (ownsRow_setCell_other HO24.out n3 _) n3 _) (by omega), ((HB4.out.set (Nat.le_refl _) _ _).set (Nat.le_refl _) _ _).1⟩
  · have hr : newDk n = (([], []), 1) := by unfold newDk; rw [if_neg hn]
    rw [hr] at HN
    have HR : Hid (createD n f = (([], []), 1)) := by unfold Hid createD; rw [if_neg (by omega)]
    clear hn hr
    go_enter Tryz.func7, Tryz.ntmps7
    go_wp2_with fail
    refine (HN.out _).mono ?_
    rintro e w1 ⟨up, uq, rfl, ho1, ho2, hb1⟩
    obtain ⟨o1, c1, rfl, -, -⟩ := ho1.rd
    obtain ⟨o2, c2, rfl, -, -⟩ := ho2.rd
    have hB1 : B2 w w.heap.size w1 := HBW.out.below hb1
    have HB1 := hid hB1
    have HB2 : Hid (B2 w w.heap.size (w1.alloc (.cells #[.slice o1 0 c1, .slice o2 0 c2] 25))) := HB1.out.alloc _
    have HC := hid hB1
    clear hb1 ho1 ho2 hB1 HB1 HN HBW
    go_upto_region 2 with fail
    obtain ⟨W2, hW2⟩ : ∃ W2, W2 = (w1.alloc (.cells #[.slice o1 0 c1, .slice o2 0 c2] 25)) := ⟨_, rfl⟩
    obtain ⟨D, hD⟩ : ∃ D, w1.heap.size = D := ⟨_, rfl⟩
    simp only [← hW2, hD] at HB2 ⊢
    clear hW2 hD HC
    obtain ⟨⟨v0, y0⟩, f0⟩ := HB2.out.2.1
    obtain ⟨⟨v1, y1⟩, f1⟩ := HB2.out.2.2
    have hz := HB2.out.lt
    go_wp2_with fail
    rw [HR.out]
    exact bodyPost_ret (v := .tuple #[.agg #[.slice none 0 0, .slice none 0 0], .int .i64 1]) (by simp [results, Tryz.results7, go_sem, y0, y1, f0, f1, hz]) rfl ⟨_, _, rfl, oS_nil _ _, oW_nil _ _, ((HB2.out.set (Nat.le_refl _) _ _).set (Nat.le_refl _) _ _).1⟩
end Go.Proofs.YtifcgimpgbeocaaGreat
/- The reference's Same. -/
set_option linter.unusedVariables false
set_option linter.unusedSimpArgs false
namespace Go.Proofs.YtifcgimpgbeocaaGreat
open Go.RowKit
attribute [local go_sem] Oper.semAt_some
theorem run_neqR (x y : Rec) (w : World) : (binOp .neq 59 (.agg #[strV x.1, strV x.2]) (.agg #[strV y.1, strV y.2])).run Tryz.prog w = .ok (.bool (!decide (x = y))) w := by
  have e : decide (x = y) = ((x.1 == y.1) && (x.2 == y.2)) := by
    obtain ⟨a, b⟩ := x; obtain ⟨c, d⟩ := y
    by_cases h1 : a = c <;> by_cases h2 : b = d <;> simp [h1, h2]
  rw [run_neq_struct, run_equalIn_agg (ht := by kernel_rfl) (hp := by kernel_rfl)]
  have hf : (Tryz.prog.fieldsOf 59).toList = (match Tryz.prog.underlying 59 with | some (.struct fs) => fs.toList | _ => []) := by kernel_rfl
  rw [hf, Tryz.underlying59]
  simp [go_sem, Op.eqFields, run_equalIn_string (h := Tryz.underlying9), e]
  by_cases h1 : x.1 = y.1 <;> by_cases h2 : x.2 = y.2 <;> simp [h1, h2]
/-- All records ahead of k are the same. -/
def SameTo (a b : Ds) (k : Nat) : Prop := a.take k = b.take k
theorem sameTo_succ {a b : Ds} {k : Nat} {x y : Rec} (h : SameTo a b k) (ha : a[k]? = some x) (hb : b[k]? = some y) : SameTo a b (k + 1) ↔ x = y := by
  obtain ⟨h1, rfl⟩ := List.getElem?_eq_some_iff.1 ha
  obtain ⟨h2, rfl⟩ := List.getElem?_eq_some_iff.1 hb
  unfold SameTo at *
  rw [List.take_succ_eq_append_getElem h1, List.take_succ_eq_append_getElem h2, h, List.append_right_inj]
  simp
set_option maxHeartbeats 1000000 in
set_option maxRecDepth 100000 in
theorem rsame_any (a b : Ds) (u v : Value) (w : World) (hA : RdR w u a) (hB : RdR w v b) (hl : a.length ≤ maxLen) : Calls Tryz.prog 47 #[u, v] w (Ret (.bool (decide (a = b))) w) := by
  unfold maxLen at hl
  obtain ⟨oa, ca, rfl, hca, hac⟩ := hA
  obtain ⟨ob, cb, rfl, hcb, hbc⟩ := hB
  by_cases hlen : a.length = b.length
  rotate_left
  · have e : decide (a = b) = false := by simp; rintro rfl; exact hlen rfl
    rw [e]
    have g1 : ((a.length : Int) == (b.length : Int)) = false := by rw [beq_eq_false_iff_ne]; omega
    obtain ⟨N, hN⟩ : ∃ N, a.length = N := ⟨_, rfl⟩
    obtain ⟨M, hM⟩ : ∃ M, b.length = M := ⟨_, rfl⟩
    rw [hN, hM] at g1 ⊢
    clear e hac hbc hN hM hlen hl hca hcb
    go_enter Tryz.func47, Tryz.ntmps47
    go_wp2_with fail
    go_ret
    exact ⟨rfl, Below.refl _ _⟩
  have HAC := hid hac; have HBC := hid hbc
  obtain ⟨E, hE⟩ : ∃ E, decide (a = b) = E := ⟨_, rfl⟩
  rw [hE]
  have HE := hid hE
  obtain ⟨N, hN⟩ : ∃ N, a.length = N := ⟨_, rfl⟩
  rw [← hlen] at hcb ⊢
  have hM : b.length = N := by omega
  rw [hN] at hl hca hcb ⊢
  have HN := hid hN; have HM := hid hM
  clear hac hbc hE hN hM hlen
  go_enter Tryz.func47, Tryz.ntmps47
  go_wp2_with fail
  go_loopw [5] (fun i wr => ∃ k : Nat, i = .int .i64 k ∧ k ≤ N ∧ Hid (SameTo a b k) ∧ Hid (Below w.heap.size w wr)) (fun i _ => N - (intOf i).toNat)
  case atStart => exact ⟨0, rfl, Nat.zero_le _, rfl, Below.refl _ _⟩
  case round =>
    obtain ⟨k, rfl, hk, HT, HB⟩ := hrel
    by_cases hlt : k < N
    rotate_left
    · have e : E = true := by
        have h1 := HT.out
        unfold SameTo at h1
        rw [List.take_of_length_le (by have := HN.out; omega), List.take_of_length_le (by have := HM.out; omega)] at h1
        rw [← HE.out]; simpa using h1
      subst e
      go_wp2_with fail
      go_ret
      exact ⟨rfl, HB.out⟩
    obtain ⟨x, hx⟩ : ∃ r, a[k]? = some r := ⟨_, List.getElem?_eq_getElem (by have := HN.out; omega)⟩
    obtain ⟨y, hy⟩ : ∃ r, b[k]? = some r := ⟨_, List.getElem?_eq_getElem (by have := HM.out; omega)⟩
    have hAC := HAC.out; have hBC := HBC.out
    rcases hAC with hc | ⟨b1, off1, rfl, hbl1, hac⟩
    · rw [hc] at hx; simp at hx
    rcases hBC with hc | ⟨b2, off2, rfl, hbl2, hbc⟩
    · rw [hc] at hy; simp at hy
    obtain ⟨c0, c1⟩ := hac k x hx
    obtain ⟨d0, d1⟩ := hbc k y hy
    have c0 := HB.out.cell (p := ⟨b1, off1 + k * 2, none⟩) hbl1 |>.trans c0
    have c1 := HB.out.cell (p := ⟨b1, off1 + k * 2 + 1, none⟩) hbl1 |>.trans c1
    have d0 := HB.out.cell (p := ⟨b2, off2 + k * 2, none⟩) hbl2 |>.trans d0
    have d1 := HB.out.cell (p := ⟨b2, off2 + k * 2 + 1, none⟩) hbl2 |>.trans d1
    have hst := sameTo_succ HT.out hx hy
    have hneq := fun w => run_neqR x y w
    have HBD := hid (fun n => below_drewN HB.out n)
    by_cases hxy : x = y
    · have HT1 := hid (hst.2 hxy)
      have e1 : decide (x = y) = true := by simpa using hxy
      rw [e1] at hneq
      clear hst hx hy hac hbc hxy e1
      go_wp2_with fail
      go_quiet (fail)
      go_wp2_with fail
      go_roundw
      case rel => exact ⟨k + 1, by go_num, by omega, HT1, HBD.out _⟩
      case measure => simp [intOf]; omega
    · have e : E = false := by
        rw [← HE.out]
        simp only [decide_eq_false_iff_not]
        rintro rfl
        rw [hx] at hy
        cases hy
        exact hxy rfl
      have e1 : decide (x = y) = false := by simpa using hxy
      rw [e1] at hneq
      subst e
      clear hst hx hy hac hbc hxy e1
      go_wp2_with fail
      go_quiet (fail)
      go_wp2_with fail
      go_ret
      exact ⟨rfl, HBD.out _⟩
end Go.Proofs.YtifcgimpgbeocaaGreat
/- == at operations, writes and acts; the reference's SameOps. -/
set_option linter.unusedVariables false
set_option linter.unusedSimpArgs false
namespace Go.Proofs.YtifcgimpgbeocaaGreat
open Go.RowKit
attribute [local go_sem] Oper.semAt_some
set_option maxRecDepth 100000 in
theorem run_neqO (x y : FOp) (w : World) : (binOp .neq 55 (.agg #[.int .i64 x.1, .int .i64 x.2.1, strV x.2.2.1, strV x.2.2.2]) (.agg #[.int .i64 y.1, .int .i64 y.2.1, strV y.2.2.1, strV y.2.2.2])).run Tryz.prog w = .ok (.bool (!decide (x = y))) w := by
  obtain ⟨x0, x1, x2, x3⟩ := x
  obtain ⟨y0, y1, y2, y3⟩ := y
  rw [run_neq_struct, run_equalIn_agg (ht := by kernel_rfl) (hp := by kernel_rfl)]
  have hf : (Tryz.prog.fieldsOf 55).toList = (match Tryz.prog.underlying 55 with | some (.struct fs) => fs.toList | _ => []) := by kernel_rfl
  rw [hf, Tryz.underlying55]
  simp [go_sem, Op.eqFields, run_equalIn_string (h := Tryz.underlying9), run_equalIn_int (h := Tryz.underlying3), run_equalIn_bool (h := Tryz.underlying4)]
  by_cases h0 : x0 = y0 <;> by_cases h1 : x1 = y1 <;> by_cases h2 : x2 = y2 <;> by_cases h3 : x3 = y3 <;> simp [h0, h1, h2, h3]
set_option maxRecDepth 100000 in
theorem run_eqO (x y : FOp) (w : World) : (binOp .eql 55 (.agg #[.int .i64 x.1, .int .i64 x.2.1, strV x.2.2.1, strV x.2.2.2]) (.agg #[.int .i64 y.1, .int .i64 y.2.1, strV y.2.2.1, strV y.2.2.2])).run Tryz.prog w = .ok (.bool (decide (x = y))) w := by
  obtain ⟨x0, x1, x2, x3⟩ := x
  obtain ⟨y0, y1, y2, y3⟩ := y
  rw [run_eql_struct, run_equalIn_agg (ht := by kernel_rfl) (hp := by kernel_rfl)]
  have hf : (Tryz.prog.fieldsOf 55).toList = (match Tryz.prog.underlying 55 with | some (.struct fs) => fs.toList | _ => []) := by kernel_rfl
  rw [hf, Tryz.underlying55]
  simp [go_sem, Op.eqFields, run_equalIn_string (h := Tryz.underlying9), run_equalIn_int (h := Tryz.underlying3), run_equalIn_bool (h := Tryz.underlying4)]
  by_cases h0 : x0 = y0 <;> by_cases h1 : x1 = y1 <;> by_cases h2 : x2 = y2 <;> by_cases h3 : x3 = y3 <;> simp [h0, h1, h2, h3]
set_option maxRecDepth 100000 in
theorem run_neqW (x y : Wt) (w : World) : (binOp .neq 92 (.agg #[.int .i64 x.1, strV x.2]) (.agg #[.int .i64 y.1, strV y.2])).run Tryz.prog w = .ok (.bool (!decide (x = y))) w := by
  obtain ⟨x0, x1⟩ := x
  obtain ⟨y0, y1⟩ := y
  rw [run_neq_struct, run_equalIn_agg (ht := by kernel_rfl) (hp := by kernel_rfl)]
  have hf : (Tryz.prog.fieldsOf 92).toList = (match Tryz.prog.underlying 92 with | some (.struct fs) => fs.toList | _ => []) := by kernel_rfl
  rw [hf, Tryz.underlying92]
  simp [go_sem, Op.eqFields, run_equalIn_string (h := Tryz.underlying9), run_equalIn_int (h := Tryz.underlying3), run_equalIn_bool (h := Tryz.underlying4)]
  by_cases h0 : x0 = y0 <;> by_cases h1 : x1 = y1 <;> simp [h0, h1]
set_option maxRecDepth 100000 in
theorem run_eqW (x y : Wt) (w : World) : (binOp .eql 92 (.agg #[.int .i64 x.1, strV x.2]) (.agg #[.int .i64 y.1, strV y.2])).run Tryz.prog w = .ok (.bool (decide (x = y))) w := by
  obtain ⟨x0, x1⟩ := x
  obtain ⟨y0, y1⟩ := y
  rw [run_eql_struct, run_equalIn_agg (ht := by kernel_rfl) (hp := by kernel_rfl)]
  have hf : (Tryz.prog.fieldsOf 92).toList = (match Tryz.prog.underlying 92 with | some (.struct fs) => fs.toList | _ => []) := by kernel_rfl
  rw [hf, Tryz.underlying92]
  simp [go_sem, Op.eqFields, run_equalIn_string (h := Tryz.underlying9), run_equalIn_int (h := Tryz.underlying3), run_equalIn_bool (h := Tryz.underlying4)]
  by_cases h0 : x0 = y0 <;> by_cases h1 : x1 = y1 <;> simp [h0, h1]
set_option maxRecDepth 100000 in
theorem run_neqA (x y : Ac) (w : World) : (binOp .neq 77 (.agg #[.bool x.1, .int .i64 x.2.1, strV x.2.2]) (.agg #[.bool y.1, .int .i64 y.2.1, strV y.2.2])).run Tryz.prog w = .ok (.bool (!decide (x = y))) w := by
  obtain ⟨x0, x1, x2⟩ := x
  obtain ⟨y0, y1, y2⟩ := y
  rw [run_neq_struct, run_equalIn_agg (ht := by kernel_rfl) (hp := by kernel_rfl)]
  have hf : (Tryz.prog.fieldsOf 77).toList = (match Tryz.prog.underlying 77 with | some (.struct fs) => fs.toList | _ => []) := by kernel_rfl
  rw [hf, Tryz.underlying77]
  simp [go_sem, Op.eqFields, run_equalIn_string (h := Tryz.underlying9), run_equalIn_int (h := Tryz.underlying3), run_equalIn_bool (h := Tryz.underlying4)]
  by_cases h0 : x0 = y0 <;> by_cases h1 : x1 = y1 <;> by_cases h2 : x2 = y2 <;> simp [h0, h1, h2]
set_option maxRecDepth 100000 in
theorem run_eqA (x y : Ac) (w : World) : (binOp .eql 77 (.agg #[.bool x.1, .int .i64 x.2.1, strV x.2.2]) (.agg #[.bool y.1, .int .i64 y.2.1, strV y.2.2])).run Tryz.prog w = .ok (.bool (decide (x = y))) w := by
  obtain ⟨x0, x1, x2⟩ := x
  obtain ⟨y0, y1, y2⟩ := y
  rw [run_eql_struct, run_equalIn_agg (ht := by kernel_rfl) (hp := by kernel_rfl)]
  have hf : (Tryz.prog.fieldsOf 77).toList = (match Tryz.prog.underlying 77 with | some (.struct fs) => fs.toList | _ => []) := by kernel_rfl
  rw [hf, Tryz.underlying77]
  simp [go_sem, Op.eqFields, run_equalIn_string (h := Tryz.underlying9), run_equalIn_int (h := Tryz.underlying3), run_equalIn_bool (h := Tryz.underlying4)]
  by_cases h0 : x0 = y0 <;> by_cases h1 : x1 = y1 <;> by_cases h2 : x2 = y2 <;> simp [h0, h1, h2]
/-- All records ahead of k are the same. -/
def SameToO (a b : List FOp) (k : Nat) : Prop := a.take k = b.take k
theorem sameToO_succ {a b : List FOp} {k : Nat} {x y : FOp} (h : SameToO a b k) (ha : a[k]? = some x) (hb : b[k]? = some y) : SameToO a b (k + 1) ↔ x = y := by
  obtain ⟨h1, rfl⟩ := List.getElem?_eq_some_iff.1 ha
  obtain ⟨h2, rfl⟩ := List.getElem?_eq_some_iff.1 hb
  unfold SameToO at *
  rw [List.take_succ_eq_append_getElem h1, List.take_succ_eq_append_getElem h2, h, List.append_right_inj]
  simp
end Go.Proofs.YtifcgimpgbeocaaGreat
/- sameActs. -/
set_option linter.unusedVariables false
set_option linter.unusedSimpArgs false
namespace Go.Proofs.YtifcgimpgbeocaaGreat
open Go.RowKit
attribute [local go_sem] Oper.semAt_some
/-- All records ahead of k are the same. -/
def SameToA (a b : List Ac) (k : Nat) : Prop := a.take k = b.take k
theorem sameToA_succ {a b : List Ac} {k : Nat} {x y : Ac} (h : SameToA a b k) (ha : a[k]? = some x) (hb : b[k]? = some y) : SameToA a b (k + 1) ↔ x = y := by
  obtain ⟨h1, rfl⟩ := List.getElem?_eq_some_iff.1 ha
  obtain ⟨h2, rfl⟩ := List.getElem?_eq_some_iff.1 hb
  unfold SameToA at *
  rw [List.take_succ_eq_append_getElem h1, List.take_succ_eq_append_getElem h2, h, List.append_right_inj]
  simp
set_option maxHeartbeats 1000000 in
set_option maxRecDepth 100000 in
theorem lsameacts_any (a b : List Ac) (u v : Value) (w : World) (hA : RdA w u a) (hB : RdA w v b) (hl : a.length ≤ maxLen) : Calls Tryz.prog 24 #[u, v] w (Ret (.bool (decide (a = b))) w) := by
  unfold maxLen at hl
  obtain ⟨oa, ca, rfl, hca, hac⟩ := hA
  obtain ⟨ob, cb, rfl, hcb, hbc⟩ := hB
  by_cases hlen : a.length = b.length
  rotate_left
  · have e : decide (a = b) = false := by simp; rintro rfl; exact hlen rfl
    rw [e]
    have g1 : ((a.length : Int) == (b.length : Int)) = false := by rw [beq_eq_false_iff_ne]; omega
    obtain ⟨N, hN⟩ : ∃ N, a.length = N := ⟨_, rfl⟩
    obtain ⟨M, hM⟩ : ∃ M, b.length = M := ⟨_, rfl⟩
    rw [hN, hM] at g1 ⊢
    clear e hac hbc hN hM hlen hl hca hcb
    go_enter Tryz.func24, Tryz.ntmps24
    go_wp2_with fail
    go_ret
    exact ⟨rfl, Below.refl _ _⟩
  have HAC := hid hac; have HBC := hid hbc
  obtain ⟨E, hE⟩ : ∃ E, decide (a = b) = E := ⟨_, rfl⟩
  rw [hE]
  have HE := hid hE
  obtain ⟨N, hN⟩ : ∃ N, a.length = N := ⟨_, rfl⟩
  rw [← hlen] at hcb ⊢
  have hM : b.length = N := by omega
  rw [hN] at hl hca hcb ⊢
  have HN := hid hN; have HM := hid hM
  clear hac hbc hE hN hM hlen
  go_enter Tryz.func24, Tryz.ntmps24
  go_wp2_with fail
  go_loopw [13] (fun i wr => ∃ k : Nat, i = .int .i64 k ∧ k ≤ N ∧ Hid (SameToA a b k) ∧ Hid (Below w.heap.size w wr)) (fun i _ => N - (intOf i).toNat)
  case atStart => exact ⟨0, rfl, Nat.zero_le _, rfl, Below.refl _ _⟩
  case round =>
    obtain ⟨k, rfl, hk, HT, HB⟩ := hrel
    by_cases hlt : k < N
    rotate_left
    · have e : E = true := by
        have h1 := HT.out
        unfold SameToA at h1
        rw [List.take_of_length_le (by have := HN.out; omega), List.take_of_length_le (by have := HM.out; omega)] at h1
        rw [← HE.out]; simpa using h1
      subst e
      go_wp2_with fail
      go_ret
      exact ⟨rfl, HB.out⟩
    obtain ⟨x, hx⟩ : ∃ r, a[k]? = some r := ⟨_, List.getElem?_eq_getElem (by have := HN.out; omega)⟩
    obtain ⟨y, hy⟩ : ∃ r, b[k]? = some r := ⟨_, List.getElem?_eq_getElem (by have := HM.out; omega)⟩
    have hAC := HAC.out; have hBC := HBC.out
    rcases hAC with hc | ⟨b1, off1, rfl, hbl1, hac⟩
    · rw [hc] at hx; simp at hx
    rcases hBC with hc | ⟨b2, off2, rfl, hbl2, hbc⟩
    · rw [hc] at hy; simp at hy
    obtain ⟨c0, c1, c2⟩ := hac k x hx
    obtain ⟨d0, d1, d2⟩ := hbc k y hy
    have c0 := HB.out.cell (p := ⟨b1, off1 + k * 3, none⟩) hbl1 |>.trans c0
    have c1 := HB.out.cell (p := ⟨b1, off1 + k * 3 + 1, none⟩) hbl1 |>.trans c1
    have c2 := HB.out.cell (p := ⟨b1, off1 + k * 3 + 2, none⟩) hbl1 |>.trans c2
    have d0 := HB.out.cell (p := ⟨b2, off2 + k * 3, none⟩) hbl2 |>.trans d0
    have d1 := HB.out.cell (p := ⟨b2, off2 + k * 3 + 1, none⟩) hbl2 |>.trans d1
    have d2 := HB.out.cell (p := ⟨b2, off2 + k * 3 + 2, none⟩) hbl2 |>.trans d2
    have hst := sameToA_succ HT.out hx hy
    have hneq := fun w => run_neqA x y w
    have HBD := hid (fun n => below_drewN HB.out n)
    by_cases hxy : x = y
    · have HT1 := hid (hst.2 hxy)
      have e1 : decide (x = y) = true := by simpa using hxy
      rw [e1] at hneq
      clear hst hx hy hac hbc hxy e1
      go_wp2_with fail
      go_quiet (fail)
      go_wp2_with fail
      go_roundw
      case rel => exact ⟨k + 1, by go_num, by omega, HT1, HBD.out _⟩
      case measure => simp [intOf]; omega
    · have e : E = false := by
        rw [← HE.out]
        simp only [decide_eq_false_iff_not]
        rintro rfl
        rw [hx] at hy
        cases hy
        exact hxy rfl
      have e1 : decide (x = y) = false := by simpa using hxy
      rw [e1] at hneq
      subst e
      clear hst hx hy hac hbc hxy e1
      go_wp2_with fail
      go_quiet (fail)
      go_wp2_with fail
      go_ret
      exact ⟨rfl, HBD.out _⟩
end Go.Proofs.YtifcgimpgbeocaaGreat
/- The reference's SameDisk, at a disk and itself; acts from some index on. -/
set_option linter.unusedVariables false
set_option linter.unusedSimpArgs false
namespace Go.Proofs.YtifcgimpgbeocaaGreat
open Go.RowKit
attribute [local go_sem] Oper.semAt_some
theorem below_drw (w : World) : Below w.heap.size w w.drew := (Below.refl _ _).drew
set_option maxHeartbeats 4000000 in
set_option maxRecDepth 100000 in
theorem rsamedisk_self (d : Dk) (ap aq bp bq : Value) (w : World) (hap : RdS w ap d.1) (haq : RdW w aq d.2) (hbp : RdS w bp d.1) (hbq : RdW w bq d.2) (hl1 : d.1.length ≤ 1000000000) (hl2 : d.2.length ≤ 1000000000) :
    Calls Tryz.prog 10 #[.agg #[ap, aq], .agg #[bp, bq]] w (Ret (.bool true) w) := by
  obtain ⟨o1, c1, rfl, hc1, h1⟩ := hap
  obtain ⟨o2, c2, rfl, hc2, h2⟩ := haq
  obtain ⟨o3, c3, rfl, hc3, h3⟩ := hbp
  obtain ⟨o4, c4, rfl, hc4, h4⟩ := hbq
  have H1 := hid h1; have H2 := hid h2; have H3 := hid h3; have H4 := hid h4
  obtain ⟨N, hN⟩ : ∃ N, d.1.length = N := ⟨_, rfl⟩
  obtain ⟨M, hM⟩ : ∃ M, d.2.length = M := ⟨_, rfl⟩
  rw [hN] at hl1 hc1 hc3 ⊢
  rw [hM] at hl2 hc2 hc4 ⊢
  have HN := hid hN; have HM := hid hM
  obtain ⟨W, hW⟩ : ∃ W, W = (w.alloc (.cells #[.slice o1 N c1, .slice o2 M c2] 25)).alloc (.cells #[.slice o3 N c3, .slice o4 M c4] 25) := ⟨_, rfl⟩
  have hb1 := balloc (Below.refl w.heap.size w) (.cells #[.slice o1 N c1, .slice o2 M c2] 25)
  have hb2 := balloc (Below.refl (w.alloc (.cells #[.slice o1 N c1, .slice o2 M c2] 25)).heap.size (w.alloc (.cells #[.slice o1 N c1, .slice o2 M c2] 25))) (.cells #[.slice o3 N c3, .slice o4 M c4] 25)
  have HBW : Hid (Below w.heap.size w W) := by rw [hW]; exact below_step hb2 hb1
  have hs : (w.alloc (.cells #[.slice o1 N c1, .slice o2 M c2] 25)).heap.size = w.heap.size + 1 := by simp
  have a0 : W.cell? ⟨w.heap.size, 0, none⟩ = some (.slice o1 N c1) := by rw [hW]; exact keepc hb2 (cell_new _ _ _ 0 _ rfl)
  have a1 : W.cell? ⟨w.heap.size, 1, none⟩ = some (.slice o2 M c2) := by rw [hW]; exact keepc hb2 (cell_new _ _ _ 1 _ rfl)
  have b0 : W.cell? ⟨w.heap.size + 1, 0, none⟩ = some (.slice o3 N c3) := by rw [hW, ← hs]; exact cell_new _ _ _ 0 _ rfl
  have b1 : W.cell? ⟨w.heap.size + 1, 1, none⟩ = some (.slice o4 M c4) := by rw [hW, ← hs]; exact cell_new _ _ _ 1 _ rfl
  have HW := hid hW
  clear hW hb1 hb2 hs h1 h2 h3 h4 hN hM
  go_enter Tryz.func10, Tryz.ntmps10
  go_upto_region 1 with fail
  have e := HW.out
  rw [← e]
  clear e HW
  obtain ⟨Z, hZ⟩ : ∃ Z, w.heap.size = Z := ⟨_, rfl⟩
  simp only [hZ] at a0 a1 b0 b1 ⊢
  clear hZ
  have A0 := hid a0; have A1 := hid a1; have B0 := hid b0; have B1 := hid b1
  go_wp2_with fail
  go_loopw [5] (fun i wr => ∃ k : Nat, i = .int .i64 (k : Int) ∧ k ≤ N ∧ Hid (Below W.heap.size W wr)) (fun i _ => N - (intOf i).toNat)
  case atStart => exact ⟨0, rfl, Nat.zero_le _, Below.refl _ _⟩
  case round =>
    obtain ⟨k, rfl, hk, HB⟩ := hrel
    have a0 := keepc HB.out A0.out; have b0 := keepc HB.out B0.out
    by_cases hlt : k < N
    · obtain ⟨x, hx⟩ : ∃ r, d.1[k]? = some r := ⟨_, List.getElem?_eq_getElem (by have := HN.out; omega)⟩
      have hA := H1.out; have hB := H3.out
      rcases hA with hq | ⟨e1, f1, rfl, -, hA⟩
      · rw [hq] at hx; simp at hx
      rcases hB with hq | ⟨e3, f3, rfl, -, hB⟩
      · rw [hq] at hx; simp at hx
      have x0 := keepc (below_step HB.out HBW.out) (hA k x hx)
      have x1 := keepc (below_step HB.out HBW.out) (hB k x hx)
      have HBD := hid (fun n => below_drewN HB.out n)
      have hlti : (k : Int) < (N : Int) := by omega
      clear hA hB hx
      go_wp2_with fail
      go_quiet (fail)
      go_wp2_with fail
      go_roundw
      case rel => exact ⟨k + 1, by go_num, by omega, HBD.out _⟩
      case measure => simp [intOf]; omega
    · have hge : ¬ (k : Int) < (N : Int) := by omega
      have HB1 := HB
      clear HB
      obtain ⟨W1, hW1⟩ : ∃ W1, W1 = wr := ⟨_, rfl⟩
      subst hW1
      go_wp2_with fail
      go_loopw [6] (fun i wr => ∃ k : Nat, i = .int .i64 (k : Int) ∧ k ≤ M ∧ Hid (Below W.heap.size W wr)) (fun i _ => M - (intOf i).toNat)
      case atStart => exact ⟨0, rfl, Nat.zero_le _, HB1⟩
      case round =>
        obtain ⟨k, rfl, hk, HB⟩ := hrel
        have a1 := keepc HB.out A1.out; have b1 := keepc HB.out B1.out
        by_cases hlt : k < M
        · obtain ⟨x, hx⟩ : ∃ r, d.2[k]? = some r := ⟨_, List.getElem?_eq_getElem (by have := HM.out; omega)⟩
          have hA := H2.out; have hB := H4.out
          rcases hA with hq | ⟨e1, f1, rfl, -, hA⟩
          · rw [hq] at hx; simp at hx
          rcases hB with hq | ⟨e3, f3, rfl, -, hB⟩
          · rw [hq] at hx; simp at hx
          obtain ⟨x0, x1⟩ := hA k x hx
          obtain ⟨x2, x3⟩ := hB k x hx
          have x0 := keepc (below_step HB.out HBW.out) x0; have x1 := keepc (below_step HB.out HBW.out) x1
          have x2 := keepc (below_step HB.out HBW.out) x2; have x3 := keepc (below_step HB.out HBW.out) x3
          have HBD := hid (fun n => below_drewN HB.out n)
          have hneq := fun w => run_neqW x x w
          simp only [decide_true, Bool.not_true] at hneq
          have hlti : (k : Int) < (M : Int) := by omega
          clear hA hB hx
          go_wp2_with fail
          go_quiet (fail)
          go_wp2_with fail
          go_roundw
          case rel => exact ⟨k + 1, by go_num, by omega, HBD.out _⟩
          case measure => simp [intOf]; omega
        · have hge : ¬ (k : Int) < (M : Int) := by omega
          go_wp2_with fail
          go_ret
          exact ⟨rfl, below_step HB.out HBW.out⟩
theorem elemAc2 : Tryz.prog.elem 37 = 77 := by kernel_rfl
theorem sliceAc2 : Tryz.prog.underlying 37 = some (.slice (Tryz.prog.elem 37)) := by kernel_rfl
theorem sizeOfAc2 (w : World) : (sizeOf 77).run Tryz.prog w = .ok 3 w := by kernel_rfl
/-- acts[l:]. -/
theorem run_cutl_ex (o : Option Addr) (len cap l : Nat) (h1 : l ≤ len) (h2 : len ≤ cap) : ∃ o', (∀ w, (Instr.slice 37 (.slice o len cap) (some (.int .i64 (l : Int))) none none).run Tryz.prog w = .ok (.slice o' (len - l) (cap - l)) w) ∧ ∀ b off, o = some ⟨b, off, none⟩ → l < cap → o' = some ⟨b, off + l * 3, none⟩ := by
  have hr := fun w : World => run_slice_l (P := Tryz.prog) (t := 37) (ht := sliceAc2) (kl := .i64) (l := (l : Int)) (h0 := by omega) (h1 := by omega) (w := w) (a := o) (len := len) (cap := cap)
  cases o with
  | none =>
    refine ⟨none, fun w => ?_, fun b off e => by cases e⟩
    rw [hr w, elemAc2, sizeOfAc2]
    simp only [Result.andThen, sliced]
    split <;> simp
  | some x =>
    by_cases hlc : l < cap
    · refine ⟨some (x.add (l * 3)), fun w => ?_, fun b off e _ => by cases e; rw [addr_add]⟩
      rw [hr w, elemAc2, sizeOfAc2]
      simp only [Result.andThen, sliced]
      rw [Int.toNat_natCast]
      split
      · rename_i h; exfalso; omega
      · rfl
    · refine ⟨some x, fun w => ?_, fun b off e h => absurd h hlc⟩
      rw [hr w, elemAc2, sizeOfAc2]
      simp only [Result.andThen, sliced]
      rw [Int.toNat_natCast]
      split
      · rfl
      · rename_i h; exfalso; omega
theorem RdA.cut {w : World} {o o' : Option Addr} {n c m : Nat} {L : List Ac} (h : RdA w (.slice o n c) L) (hm : m ≤ L.length) (ho : ∀ b off, o = some ⟨b, off, none⟩ → m < c → o' = some ⟨b, off + m * 3, none⟩) : RdA w (.slice o' (n - m) (c - m)) (L.drop m) := by
  obtain ⟨o2, c2, e, hc, h⟩ := h
  cases e
  refine ⟨o', c - m, by rw [List.length_drop], by rw [List.length_drop]; omega, ?_⟩
  rcases h with h | ⟨b, off, e1, e2, h⟩
  · exact .inl (by rw [h]; simp)
  · rcases Nat.lt_or_ge m L.length with hlt | hge
    · refine .inr ⟨b, off + m * 3, ho b off e1 (by omega), e2, fun i r hi => ?_⟩
      rw [List.getElem?_drop] at hi
      have h3 := h (m + i) r hi
      have e : off + (m + i) * 3 = off + m * 3 + i * 3 := by omega
      rw [e] at h3
      exact h3
    · exact .inl (List.drop_of_length_le hge)
end Go.Proofs.YtifcgimpgbeocaaGreat
/- The reference's SameDisk, at any two disks. -/
set_option linter.unusedVariables false
set_option linter.unusedSimpArgs false
namespace Go.Proofs.YtifcgimpgbeocaaGreat
open Go.RowKit
attribute [local go_sem] Oper.semAt_some
theorem takeL_succ {α : Type} {a b : List α} {k : Nat} {x y : α} (h : a.take k = b.take k) (ha : a[k]? = some x) (hb : b[k]? = some y) : a.take (k + 1) = b.take (k + 1) ↔ x = y := by
  obtain ⟨h1, rfl⟩ := List.getElem?_eq_some_iff.1 ha
  obtain ⟨h2, rfl⟩ := List.getElem?_eq_some_iff.1 hb
  rw [List.take_succ_eq_append_getElem h1, List.take_succ_eq_append_getElem h2, h, List.append_right_inj]
  simp
set_option maxHeartbeats 4000000 in
set_option maxRecDepth 100000 in
theorem rsamedisk_any (d e : Dk) (ap aq bp bq : Value) (w : World) (hap : RdS w ap d.1) (haq : RdW w aq d.2) (hbp : RdS w bp e.1) (hbq : RdW w bq e.2) (hl1 : d.1.length ≤ 1000000000) (hl2 : d.2.length ≤ 1000000000) (hl3 : e.1.length ≤ 1000000000) (hl4 : e.2.length ≤ 1000000000) :
    Calls Tryz.prog 10 #[.agg #[ap, aq], .agg #[bp, bq]] w (Ret (.bool (decide (d = e))) w) := by
  obtain ⟨o1, c1, rfl, hc1, h1⟩ := hap
  obtain ⟨o2, c2, rfl, hc2, h2⟩ := haq
  obtain ⟨o3, c3, rfl, hc3, h3⟩ := hbp
  obtain ⟨o4, c4, rfl, hc4, h4⟩ := hbq
  have H1 := hid h1; have H2 := hid h2; have H3 := hid h3; have H4 := hid h4
  obtain ⟨N, hN⟩ : ∃ N, d.1.length = N := ⟨_, rfl⟩
  obtain ⟨M, hM⟩ : ∃ M, d.2.length = M := ⟨_, rfl⟩
  obtain ⟨N2, hN2⟩ : ∃ N2, e.1.length = N2 := ⟨_, rfl⟩
  obtain ⟨M2, hM2⟩ : ∃ M2, e.2.length = M2 := ⟨_, rfl⟩
  simp only [hN, hN2, hM, hM2] at hl1 hl2 hl3 hl4 hc1 hc2 hc3 hc4 ⊢
  have HN := hid hN; have HM := hid hM; have HN2 := hid hN2; have HM2 := hid hM2
  obtain ⟨E, hE⟩ : ∃ E, decide (d = e) = E := ⟨_, rfl⟩
  rw [hE]
  have HE := hid hE
  obtain ⟨W, hW⟩ : ∃ W, W = (w.alloc (.cells #[.slice o1 N c1, .slice o2 M c2] 25)).alloc (.cells #[.slice o3 N2 c3, .slice o4 M2 c4] 25) := ⟨_, rfl⟩
  have hb1 := balloc (Below.refl w.heap.size w) (.cells #[.slice o1 N c1, .slice o2 M c2] 25)
  have hb2 := balloc (Below.refl (w.alloc (.cells #[.slice o1 N c1, .slice o2 M c2] 25)).heap.size (w.alloc (.cells #[.slice o1 N c1, .slice o2 M c2] 25))) (.cells #[.slice o3 N2 c3, .slice o4 M2 c4] 25)
  have HBW : Hid (Below w.heap.size w W) := by rw [hW]; exact below_step hb2 hb1
  have hs : (w.alloc (.cells #[.slice o1 N c1, .slice o2 M c2] 25)).heap.size = w.heap.size + 1 := by simp
  have a0 : W.cell? ⟨w.heap.size, 0, none⟩ = some (.slice o1 N c1) := by rw [hW]; exact keepc hb2 (cell_new _ _ _ 0 _ rfl)
  have a1 : W.cell? ⟨w.heap.size, 1, none⟩ = some (.slice o2 M c2) := by rw [hW]; exact keepc hb2 (cell_new _ _ _ 1 _ rfl)
  have b0 : W.cell? ⟨w.heap.size + 1, 0, none⟩ = some (.slice o3 N2 c3) := by rw [hW, ← hs]; exact cell_new _ _ _ 0 _ rfl
  have b1 : W.cell? ⟨w.heap.size + 1, 1, none⟩ = some (.slice o4 M2 c4) := by rw [hW, ← hs]; exact cell_new _ _ _ 1 _ rfl
  have HW := hid hW
  clear hW hb1 hb2 hs h1 h2 h3 h4 hN hM hN2 hM2 hE
  go_enter Tryz.func10, Tryz.ntmps10
  go_upto_region 1 with fail
  have ew := HW.out
  rw [← ew]
  clear ew HW
  obtain ⟨Z, hZ⟩ : ∃ Z, w.heap.size = Z := ⟨_, rfl⟩
  simp only [hZ] at a0 a1 b0 b1 ⊢
  clear hZ
  have A0 := hid a0; have A1 := hid a1; have B0 := hid b0; have B1 := hid b1
  by_cases hn : N = N2
  rotate_left
  · have e0 : E = false := by
      rw [← HE.out]; simp only [decide_eq_false_iff_not]; rintro rfl; exact hn (HN.out.symm.trans HN2.out)
    subst e0
    have g1 : ((N : Int) == (N2 : Int)) = false := by rw [beq_eq_false_iff_ne]; omega
    have g2 : ¬ ((N : Int) = (N2 : Int)) := by omega
    go_wp2_with fail
    go_ret
    exact ⟨rfl, HBW.out⟩
  subst hn
  by_cases hm : M = M2
  rotate_left
  · have e0 : E = false := by
      rw [← HE.out]; simp only [decide_eq_false_iff_not]; rintro rfl; exact hm (HM.out.symm.trans HM2.out)
    subst e0
    have g1 : ((M : Int) == (M2 : Int)) = false := by rw [beq_eq_false_iff_ne]; omega
    have g2 : ¬ ((M : Int) = (M2 : Int)) := by omega
    go_wp2_with fail
    go_ret
    exact ⟨rfl, HBW.out⟩
  subst hm
  clear hl3 hl4
  go_wp2_with fail
  go_loopw [5] (fun i wr => ∃ k : Nat, i = .int .i64 (k : Int) ∧ k ≤ N ∧ Hid (d.1.take k = e.1.take k) ∧ Hid (Below W.heap.size W wr)) (fun i _ => N - (intOf i).toNat)
  case atStart => exact ⟨0, rfl, Nat.zero_le _, rfl, Below.refl _ _⟩
  case round =>
    obtain ⟨k, rfl, hk, HT, HB⟩ := hrel
    have a0 := keepc HB.out A0.out; have b0 := keepc HB.out B0.out
    by_cases hlt : k < N
    · obtain ⟨x, hx⟩ : ∃ r, d.1[k]? = some r := ⟨_, List.getElem?_eq_getElem (by have := HN.out; omega)⟩
      obtain ⟨y, hy⟩ : ∃ r, e.1[k]? = some r := ⟨_, List.getElem?_eq_getElem (by have := HN2.out; omega)⟩
      have hA := H1.out; have hB := H3.out
      rcases hA with hq | ⟨e1, f1, rfl, -, hA⟩
      · rw [hq] at hx; simp at hx
      rcases hB with hq | ⟨e3, f3, rfl, -, hB⟩
      · rw [hq] at hy; simp at hy
      have x0 := keepc (below_step HB.out HBW.out) (hA k x hx)
      have x1 := keepc (below_step HB.out HBW.out) (hB k y hy)
      have hst := takeL_succ HT.out hx hy
      have HBD := hid (fun n => below_drewN HB.out n)
      have hlti : (k : Int) < (N : Int) := by omega
      by_cases hxy : x = y
      · have HT1 := hid (hst.2 hxy)
        subst hxy
        clear hst hx hy hA hB
        go_wp2_with fail
        go_quiet (fail)
        go_wp2_with fail
        go_roundw
        case rel => exact ⟨k + 1, by go_num, by omega, HT1, HBD.out _⟩
        case measure => simp [intOf]; omega
      · have e0 : E = false := by
          rw [← HE.out]; simp only [decide_eq_false_iff_not]; rintro rfl; rw [hx] at hy; cases hy; exact hxy rfl
        subst e0
        have g1 : (x == y) = false := by rw [beq_eq_false_iff_ne]; exact hxy
        clear hst hx hy hA hB
        go_wp2_with fail
        go_quiet (fail)
        go_wp2_with fail
        go_ret
        exact ⟨rfl, below_step (HBD.out _) HBW.out⟩
    · have hge : ¬ (k : Int) < (N : Int) := by omega
      have HB1 := HB
      have HT0 : Hid (d.1 = e.1) := by
        have h1 := HT.out
        rw [List.take_of_length_le (by have := HN.out; omega), List.take_of_length_le (by have := HN2.out; omega)] at h1
        exact h1
      clear HB HT
      obtain ⟨W1, hW1⟩ : ∃ W1, W1 = wr := ⟨_, rfl⟩
      subst hW1
      go_wp2_with fail
      go_loopw [6] (fun i wr => ∃ k : Nat, i = .int .i64 (k : Int) ∧ k ≤ M ∧ Hid (d.2.take k = e.2.take k) ∧ Hid (Below W.heap.size W wr)) (fun i _ => M - (intOf i).toNat)
      case atStart => exact ⟨0, rfl, Nat.zero_le _, rfl, HB1⟩
      case round =>
        obtain ⟨k, rfl, hk, HT, HB⟩ := hrel
        have a1 := keepc HB.out A1.out; have b1 := keepc HB.out B1.out
        by_cases hlt : k < M
        · obtain ⟨x, hx⟩ : ∃ r, d.2[k]? = some r := ⟨_, List.getElem?_eq_getElem (by have := HM.out; omega)⟩
          obtain ⟨y, hy⟩ : ∃ r, e.2[k]? = some r := ⟨_, List.getElem?_eq_getElem (by have := HM2.out; omega)⟩
          have hA := H2.out; have hB := H4.out
          rcases hA with hq | ⟨e1, f1, rfl, -, hA⟩
          · rw [hq] at hx; simp at hx
          rcases hB with hq | ⟨e3, f3, rfl, -, hB⟩
          · rw [hq] at hy; simp at hy
          obtain ⟨x0, x1⟩ := hA k x hx
          obtain ⟨x2, x3⟩ := hB k y hy
          have hst := takeL_succ HT.out hx hy
          have x0 := keepc (below_step HB.out HBW.out) x0; have x1 := keepc (below_step HB.out HBW.out) x1
          have x2 := keepc (below_step HB.out HBW.out) x2; have x3 := keepc (below_step HB.out HBW.out) x3
          have HBD := hid (fun n => below_drewN HB.out n)
          have hneq := fun w => run_neqW x y w
          have hlti : (k : Int) < (M : Int) := by omega
          by_cases hxy : x = y
          · have e1 : decide (x = y) = true := by simpa using hxy
            rw [e1] at hneq
            simp only [Bool.not_true] at hneq
            have HT1 := hid (hst.2 hxy)
            clear hst hx hy hA hB hxy e1
            go_wp2_with fail
            go_quiet (fail)
            go_wp2_with fail
            go_roundw
            case rel => exact ⟨k + 1, by go_num, by omega, HT1, HBD.out _⟩
            case measure => simp [intOf]; omega
          · have e0 : E = false := by
              rw [← HE.out]; simp only [decide_eq_false_iff_not]; rintro rfl; rw [hx] at hy; cases hy; exact hxy rfl
            subst e0
            have e1 : decide (x = y) = false := by simpa using hxy
            rw [e1] at hneq
            simp only [Bool.not_false] at hneq
            clear hst hx hy hA hB hxy e1
            go_wp2_with fail
            go_quiet (fail)
            go_wp2_with fail
            go_ret
            exact ⟨rfl, below_step (HBD.out _) HBW.out⟩
        · have hge : ¬ (k : Int) < (M : Int) := by omega
          have e0 : E = true := by
            have h1 := HT.out
            rw [List.take_of_length_le (by have := HM.out; omega), List.take_of_length_le (by have := HM2.out; omega)] at h1
            rw [← HE.out]; simp only [decide_eq_true_eq]; exact Prod.ext HT0.out h1
          subst e0
          go_wp2_with fail
          go_ret
          exact ⟨rfl, below_step HB.out HBW.out⟩
end Go.Proofs.YtifcgimpgbeocaaGreat
/- The reference's SameAll. -/
set_option linter.unusedVariables false
set_option linter.unusedSimpArgs false
namespace Go.Proofs.YtifcgimpgbeocaaGreat
open Go.RowKit
attribute [local go_sem] Oper.semAt_some
/-- All records ahead of k are the same. -/
def SameToD (a b : List Ds) (k : Nat) : Prop := a.take k = b.take k
theorem sameToD_succ {a b : List Ds} {k : Nat} {x y : Ds} (h : SameToD a b k) (ha : a[k]? = some x) (hb : b[k]? = some y) : SameToD a b (k + 1) ↔ x = y := by
  obtain ⟨h1, rfl⟩ := List.getElem?_eq_some_iff.1 ha
  obtain ⟨h2, rfl⟩ := List.getElem?_eq_some_iff.1 hb
  unfold SameToD at *
  rw [List.take_succ_eq_append_getElem h1, List.take_succ_eq_append_getElem h2, h, List.append_right_inj]
  simp
set_option maxHeartbeats 1000000 in
set_option maxRecDepth 100000 in
theorem rsameall_any (a b : List Ds) (u v : Value) (w : World) (hA : RdD w u a) (hB : RdD w v b) (hl : a.length ≤ maxLen) (hl2 : ∀ d ∈ a, d.length ≤ maxLen) : Calls Tryz.prog 11 #[u, v] w (Ret (.bool (decide (a = b))) w) := by
  have hl2 := hid hl2
  unfold maxLen at hl
  obtain ⟨oa, ca, rfl, hca, hac⟩ := hA
  obtain ⟨ob, cb, rfl, hcb, hbc⟩ := hB
  by_cases hlen : a.length = b.length
  rotate_left
  · have e : decide (a = b) = false := by simp; rintro rfl; exact hlen rfl
    rw [e]
    have g1 : ((a.length : Int) == (b.length : Int)) = false := by rw [beq_eq_false_iff_ne]; omega
    obtain ⟨N, hN⟩ : ∃ N, a.length = N := ⟨_, rfl⟩
    obtain ⟨M, hM⟩ : ∃ M, b.length = M := ⟨_, rfl⟩
    rw [hN, hM] at g1 ⊢
    clear e hac hbc hN hM hlen hl hca hcb
    go_enter Tryz.func11, Tryz.ntmps11
    go_wp2_with fail
    go_ret
    exact ⟨rfl, Below.refl _ _⟩
  have HAC := hid hac; have HBC := hid hbc
  obtain ⟨E, hE⟩ : ∃ E, decide (a = b) = E := ⟨_, rfl⟩
  rw [hE]
  have HE := hid hE
  obtain ⟨N, hN⟩ : ∃ N, a.length = N := ⟨_, rfl⟩
  rw [← hlen] at hcb ⊢
  have hM : b.length = N := by omega
  rw [hN] at hl hca hcb ⊢
  have HN := hid hN; have HM := hid hM
  clear hac hbc hE hN hM hlen
  go_enter Tryz.func11, Tryz.ntmps11
  go_wp2_with fail
  go_loopw [5] (fun i wr => ∃ k : Nat, i = .int .i64 k ∧ k ≤ N ∧ Hid (SameToD a b k) ∧ Hid (Below w.heap.size w wr)) (fun i _ => N - (intOf i).toNat)
  case atStart => exact ⟨0, rfl, Nat.zero_le _, rfl, Below.refl _ _⟩
  case round =>
    obtain ⟨k, rfl, hk, HT, HB⟩ := hrel
    by_cases hlt : k < N
    rotate_left
    · have e : E = true := by
        have h1 := HT.out
        unfold SameToD at h1
        rw [List.take_of_length_le (by have := HN.out; omega), List.take_of_length_le (by have := HM.out; omega)] at h1
        rw [← HE.out]; simpa using h1
      subst e
      go_wp2_with fail
      go_ret
      exact ⟨rfl, HB.out⟩
    obtain ⟨x, hx⟩ : ∃ r, a[k]? = some r := ⟨_, List.getElem?_eq_getElem (by have := HN.out; omega)⟩
    obtain ⟨y, hy⟩ : ∃ r, b[k]? = some r := ⟨_, List.getElem?_eq_getElem (by have := HM.out; omega)⟩
    have hAC := HAC.out; have hBC := HBC.out
    rcases hAC with hc | ⟨b1, off1, rfl, hbl1, hac⟩
    · rw [hc] at hx; simp at hx
    rcases hBC with hc | ⟨b2, off2, rfl, hbl2, hbc⟩
    · rw [hc] at hy; simp at hy
    obtain ⟨ux, c0, hux⟩ := hac k x hx
    obtain ⟨uy, d0, huy⟩ := hbc k y hy
    have c0 := HB.out.cell (p := ⟨b1, off1 + k, none⟩) hbl1 |>.trans c0
    have d0 := HB.out.cell (p := ⟨b2, off2 + k, none⟩) hbl2 |>.trans d0
    have HSM := hid (fun w' (hb : Below w.heap.size w w') => rsame_any x y ux uy w' (hux.below hb) (huy.below hb) (hl2.out x (List.mem_of_getElem? hx)))
    have hst := sameToD_succ HT.out hx hy
    by_cases hxy : x = y
    · have HT1 := hid (hst.2 hxy)
      have e1 : decide (x = y) = true := by simpa using hxy
      rw [e1] at HSM
      clear hst hx hy hac hbc hux huy hxy e1
      go_wp2_with fail
      go_region_with (go_at_call 47; refine (HSM.out _ HB.out.drew).mono ?_; rintro e w1 ⟨rfl, hb1⟩; have HB1 := hid (below_step (below_step hb1 ((Below.refl wr.heap.size wr).drew)) HB.out); clear hb1)
      all_goals
        go_wp2_with fail
        go_roundw
        case rel => exact ⟨k + 1, by go_num, by omega, HT1, HB1.out⟩
        case measure => simp [intOf]; omega
    · have e : E = false := by
        rw [← HE.out]
        simp only [decide_eq_false_iff_not]
        rintro rfl
        rw [hx] at hy
        cases hy
        exact hxy rfl
      have e1 : decide (x = y) = false := by simpa using hxy
      rw [e1] at HSM
      subst e
      clear hst hx hy hac hbc hux huy hxy e1
      go_wp2_with fail
      go_region_with (go_at_call 47; refine (HSM.out _ HB.out.drew).mono ?_; rintro e w1 ⟨rfl, hb1⟩; have HB1 := hid (below_step (below_step hb1 ((Below.refl wr.heap.size wr).drew)) HB.out); clear hb1)
      all_goals
        go_wp2_with fail
        go_ret
        exact ⟨rfl, HB1.out⟩
end Go.Proofs.YtifcgimpgbeocaaGreat
/- Plain: a new disk; the examples that the laws begin with. -/
set_option linter.unusedVariables false
set_option linter.unusedSimpArgs false
namespace Go.Proofs.YtifcgimpgbeocaaGreat
open Go.RowKit
theorem createD_ok {n f : Int} (hn : 4 ≤ n ∧ n ≤ 4096) (hf : 1 ≤ f ∧ f ≤ 8) : createD n f = (((List.replicate n.toNat (zs 64)).set 1 (headPg (1, 0, f.toNat, 0)), []), 0) := by unfold createD; rw [if_pos ⟨hn, hf⟩]
theorem create_as {n f : Nat} (hn : 4 ≤ n ∧ n ≤ 4096) (hf : 1 ≤ f ∧ f ≤ 8) : OpenAs ((List.replicate n (zs 64)).set 1 (headPg (1, 0, f, 0)), []) (1, 0, f, 0) [] (empties f) := by
  refine ⟨isDk_mk (by simp; omega) (by simp; omega) ?_ (fun w hw => by cases hw), rfl, hdOk_mk ⟨Nat.le_refl _, rfl, by simp, hf.1, hf.2, by simp⟩, by simp, ?_, ⟨zs 64, ?_, torn_start⟩, rfl, ?_, ⟨[], rfl, rfl⟩⟩
  · intro s hs
    rcases List.mem_or_eq_of_mem_set hs with h | h
    · rw [(List.mem_replicate.1 h).2, zs_len]
    · rw [h, headPg_len]
  · show ((List.replicate n (zs 64)).set 1 (headPg (1, 0, f, 0)))[1 % 2]? = some (headPg (1, 0, f, 0))
    rw [show 1 % 2 = 1 from rfl]
    rw [List.getElem?_set_self (by simp; omega)]
  · show ((List.replicate n (zs 64)).set 1 (headPg (1, 0, f, 0)))[(1 + 1) % 2]? = some (zs 64)
    rw [show (1 + 1) % 2 = 0 from rfl]
    rw [List.getElem?_set_ne (by omega), List.getElem?_replicate, if_pos (by omega)]
  · unfold content
    exact List.take_zero
theorem create_open {n f : Int} (hn : 4 ≤ n ∧ n ≤ 4096) (hf : 1 ≤ f ∧ f ≤ 8) : OpenAs (createD n f).1 (1, 0, f.toNat, 0) [] (empties f.toNat) := by
  rw [createD_ok hn hf]
  exact create_as (by omega) (by omega)
/-! ### The examples -/
def sD : Ds := [([65], [111, 110, 101]), ([67], [116, 119, 111])]
theorem sD_is : isDs sD = true := by decide +kernel
theorem sD_read : readD sD [65] = ([111, 110, 101], 0) := by decide +kernel
theorem sD_next : nextD sD [65] = (([67], [116, 119, 111]), 0) := by decide +kernel
theorem sD_write : writeD sD ([65], [120]) = ([], 141) := by decide +kernel
def sDk : Dk := ((List.replicate 6 (zs 64)).set 1 (headPg (1, 0, 2, 0)), [])
theorem sCreate : createD 6 2 = (sDk, 0) := createD_ok (by omega) (by omega)
def sSt0 : St := ⟨sDk, (1, 0, 2, 0), [], [], [[], []], [[], []], []⟩
theorem sOpenAs : OpenAs sDk (1, 0, 2, 0) [] [[], []] := create_as (n := 6) (f := 2) (by omega) (by omega)
theorem sOpen : openD sDk = (some sSt0, 0) := open_as sOpenAs
def sOp : FOp := (3, 1, [65], [104, 105])
def sSt1 : St := ⟨sDk, (1, 0, 2, 0), [], [sOp], [[], [([65], [104, 105])]], [[], []], []⟩
theorem sDo : doSt sSt0 sOp = (sSt1, ([], []), 0) := by
  have h : doData [[], []] sOp = ([[], [([65], [104, 105])]], ([], []), 0) := by decide +kernel
  have hc : chg sOp = true := by decide +kernel
  unfold doSt
  show (if (doData [[], []] sOp).2.2 = 0 then _ else _) = _
  rw [show sSt0.now = [[], []] from rfl, h, if_pos rfl, if_pos hc]
  rfl
theorem sLive : Live sSt1 := by
  have h := do_live (live_open sOpenAs) sOp
  have e : (⟨sDk, (1, 0, 2, 0), [], [], [[], []], [[], []], []⟩ : St) = sSt0 := rfl
  rw [e, sDo] at h
  exact h
theorem sCommit : (commitD sSt1).2 = 0 := by decide +kernel
theorem sActs : ∃ q p1 q1 s2 q2 p3 q3, (commitD sSt1).1.acts = [(false, 2, q), (true, p1, q1), (s2, 0, q2), (true, p3, q3)] ∧ q.length = 64 ∧ q.take 8 = [3, 1, 1, 65, 2, 104, 105, 0] := by
  have h : (commitD sSt1).1.acts = [(false, 2, pageOf (encL [sOp]) 0), (true, 0, []), (false, 0, headPg (2, 0, 2, 7)), (true, 0, [])] := by decide +kernel
  exact ⟨_, _, _, _, _, _, _, h, by decide +kernel, by decide +kernel⟩
theorem sPage : ((sDk.1[1]?).getD []).length = 64 ∧ ((sDk.1[1]?).getD []).take 8 = [0, 0, 0, 1, 0, 2, 0, 0] := by decide +kernel
theorem sDecode : decodeD [5, 0, 1] = ([], 145) := by
  decide +kernel
end Go.Proofs.YtifcgimpgbeocaaGreat
