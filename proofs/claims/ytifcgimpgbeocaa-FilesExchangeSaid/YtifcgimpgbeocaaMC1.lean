/- The law FilesReads, walked. -/
import Derived.Test.YtifcgimpgbeocaaK27
import Derived.Test.YtifcgimpgbeocaaK28
import Derived.Test.YtifcgimpgbeocaaK30
set_option linter.unusedVariables false
set_option linter.unusedSimpArgs false
namespace Go.Proofs.Ytifcgimpgbeocaa
open Go.RowKit
attribute [local go_sem] Oper.semAt_some
theorem spanD_len (d : Ds) (a b : Bs) : (spanD d a b).1.length ≤ 64 := by
  unfold spanD
  split
  · rename_i h
    have := isDs_len h
    have h2 := List.length_filter_le (fun r : Rec => !ltB r.1 a && !ltB b r.1) d
    simp only
    omega
  · exact Nat.zero_le _
theorem run_eqR (x y : Rec) (w : World) : (binOp .eql 59 (.agg #[strV x.1, strV x.2]) (.agg #[strV y.1, strV y.2])).run Try.prog w = .ok (.bool (decide (x = y))) w := by
  have e : decide (x = y) = ((x.1 == y.1) && (x.2 == y.2)) := by
    obtain ⟨a, b⟩ := x; obtain ⟨c, d⟩ := y
    by_cases h1 : a = c <;> by_cases h2 : b = d <;> simp [h1, h2]
  rw [run_eql_struct, run_equalIn_agg (ht := by kernel_rfl) (hp := by kernel_rfl)]
  have hf : (Try.prog.fieldsOf 59).toList = (match Try.prog.underlying 59 with | some (.struct fs) => fs.toList | _ => []) := by kernel_rfl
  rw [hf, Try.underlying59]
  simp [go_sem, Op.eqFields, run_equalIn_string (h := Try.underlying9), e]
  by_cases h1 : x.1 = y.1 <;> by_cases h2 : x.2 = y.2 <;> simp [h1, h2]
set_option maxHeartbeats 4000000 in
set_option maxRecDepth 100000 in
theorem reads_law (d : Ds) (v : Value) (k tq : Bs) (r : Rec) (o : FOp) (w : World) (hR : RdR w v d) : Calls Try.prog 9 #[.agg #[v, strV k, strV tq, strV r.1, strV r.2, .int .i64 o.1, .int .i64 o.2.1, strV o.2.2.1, strV o.2.2.2]] w (Ret (.bool true) w) := by
  have HS := hid (fun w' => sane_any w')
  have H1 := hid (fun w' (hb : Below w.heap.size w w') => read_any d v k w' (hR.below hb))
  have H2 := hid (fun w' (hb : Below w.heap.size w w') => rread_any d v k w' (hR.below hb))
  have H3 := hid (fun w' (hb : Below w.heap.size w w') => next_any d v k w' (hR.below hb))
  have H4 := hid (fun w' (hb : Below w.heap.size w w') => rnext_any d v k w' (hR.below hb))
  have H5 := hid (fun w' (hb : Below w.heap.size w w') => span_any d v k tq w' (hR.below hb))
  have H6 := hid (fun w' (hb : Below w.heap.size w w') => rspan_any d v k tq w' (hR.below hb))
  have H7 := hid (fun w' (hb : Below w.heap.size w w') => check_any d v w' (hR.below hb))
  have H8 := hid (fun w' (hb : Below w.heap.size w w') => rcheck_any d v w' (hR.below hb))
  have HL := spanD_len d k tq
  generalize readD d k = R1 at *
  generalize nextD d k = R2 at *
  generalize spanD d k tq = R3 at *
  obtain ⟨a1, e1⟩ := R1
  obtain ⟨a2, e2⟩ := R2
  obtain ⟨l, e3⟩ := R3
  generalize chkE (isDs d) = e4 at *
  simp only at H1 H2 H3 H4 H5 H6 HL
  obtain ⟨oo, cap, rfl, -, -⟩ := hR
  generalize d.length = N at *
  obtain ⟨r1, r2⟩ := r
  obtain ⟨o1, o2, o3, o4⟩ := o
  obtain ⟨W, hW⟩ : ∃ W, W = w.alloc (.cells #[.slice oo N cap, strV k, strV tq, strV r1, strV r2, .int .i64 o1, .int .i64 o2, strV o3, strV o4] 71) := ⟨_, rfl⟩
  have HBW : Hid (Below w.heap.size w W) := by rw [hW]; exact balloc (Below.refl _ _) _
  have k0 : W.cell? ⟨w.heap.size, 0, none⟩ = some (.slice oo N cap) := by rw [hW]; exact cell_new _ _ _ 0 _ rfl
  have k1 : W.cell? ⟨w.heap.size, 1, none⟩ = some (strV k) := by rw [hW]; exact cell_new _ _ _ 1 _ rfl
  have k2 : W.cell? ⟨w.heap.size, 2, none⟩ = some (strV tq) := by rw [hW]; exact cell_new _ _ _ 2 _ rfl
  have hn := run_neqR
  have HW := hid hW
  have HLL := hid HL
  clear hW HL
  go_enter Try.func9, Try.ntmps9
  go_upto_region 1 with fail
  have e := HW.out
  simp only [← e]
  clear e HW
  go_wp2_with fail
  refine (HS.out _).mono ?_
  rintro e w1 ⟨rfl, hb1⟩
  have HB1 := hid (below_step hb1 (Below.refl W.heap.size W))
  have k0 := keepc hb1 k0; have k1 := keepc hb1 k1; have k2 := keepc hb1 k2
  have HT1 : Hid (Below w.heap.size w w1) := below_step HB1.out HBW.out
  clear hb1
  go_wp2_with fail
  refine (H1.out _ HT1.out).mono ?_
  rintro e w2 ⟨rfl, hb⟩
  have HT2 := hid (below_step hb HT1.out)
  have k0 := keepc hb k0; have k1 := keepc hb k1; have k2 := keepc hb k2
  clear hb
  go_wp2_with fail
  refine (H2.out _ HT2.out).mono ?_
  rintro e w3 ⟨rfl, hb⟩
  have HT3 := hid (below_step hb HT2.out)
  have k0 := keepc hb k0; have k1 := keepc hb k1; have k2 := keepc hb k2
  clear hb
  go_wp2_with fail
  refine (H3.out _ HT3.out).mono ?_
  rintro e w4 ⟨rfl, hb⟩
  have HT4 := hid (below_step hb HT3.out)
  have k0 := keepc hb k0; have k1 := keepc hb k1; have k2 := keepc hb k2
  clear hb
  obtain ⟨w5, hw5⟩ : ∃ w5, w5 = w4.alloc (.cells #[strV a2.1, strV a2.2] 59) := ⟨_, rfl⟩
  have hb5 : Below w4.heap.size w4 w5 := by rw [hw5]; exact balloc (Below.refl _ _) _
  have y0 : w5.cell? ⟨w4.heap.size, 0, none⟩ = some (strV a2.1) := by rw [hw5]; exact cell_new _ _ _ 0 _ rfl
  have y1 : w5.cell? ⟨w4.heap.size, 1, none⟩ = some (strV a2.2) := by rw [hw5]; exact cell_new _ _ _ 1 _ rfl
  have HT5 := hid (below_step hb5 HT4.out)
  have k0 := keepc hb5 k0; have k1 := keepc hb5 k1; have k2 := keepc hb5 k2
  have HW5 := hid hw5
  clear hb5 hw5
  go_upto_region 6 with fail
  have e := HW5.out
  simp only [← e]
  clear e HW5
  go_wp2_with fail
  refine (H4.out _ HT5.out).mono ?_
  rintro e w6 ⟨rfl, hb⟩
  have HT6 := hid (below_step hb HT5.out)
  have k0 := keepc hb k0; have k1 := keepc hb k1; have k2 := keepc hb k2
  have y0 := keepc hb y0; have y1 := keepc hb y1
  clear hb
  obtain ⟨w7, hw7⟩ : ∃ w7, w7 = w6.alloc (.cells #[strV a2.1, strV a2.2] 59) := ⟨_, rfl⟩
  have hb7 : Below w6.heap.size w6 w7 := by rw [hw7]; exact balloc (Below.refl _ _) _
  have z0 : w7.cell? ⟨w6.heap.size, 0, none⟩ = some (strV a2.1) := by rw [hw7]; exact cell_new _ _ _ 0 _ rfl
  have z1 : w7.cell? ⟨w6.heap.size, 1, none⟩ = some (strV a2.2) := by rw [hw7]; exact cell_new _ _ _ 1 _ rfl
  have HT7 := hid (below_step hb7 HT6.out)
  have k0 := keepc hb7 k0; have k1 := keepc hb7 k1; have k2 := keepc hb7 k2
  have y0 := keepc hb7 y0; have y1 := keepc hb7 y1
  have HW7 := hid hw7
  clear hb7 hw7
  go_upto_region 7 with fail
  have e := HW7.out
  simp only [← e]
  clear e HW7
  go_wp2_with fail
  refine (H5.out _ HT7.out).mono ?_
  rintro e w8 ⟨v8, rfl, ho8, hb⟩
  have HO8 := hid ho8
  obtain ⟨o8, c8, rfl, -, -⟩ := ho8.rd
  have HT8 := hid (below_step hb HT7.out)
  have k0 := keepc hb k0; have k1 := keepc hb k1; have k2 := keepc hb k2
  have y0 := keepc hb y0; have y1 := keepc hb y1; have z0 := keepc hb z0; have z1 := keepc hb z1
  clear hb ho8
  go_wp2_with fail
  refine (H6.out _ HT8.out).mono ?_
  rintro e w9 ⟨v9, rfl, ho9, hb⟩
  have HO9 := hid ho9
  have HO8 := hid (HO8.out.below hb)
  obtain ⟨o9, c9, rfl, -, -⟩ := ho9.rd
  have HT9 := hid (below_step hb HT8.out)
  have k0 := keepc hb k0
  have y0 := keepc hb y0; have y1 := keepc hb y1; have z0 := keepc hb z0; have z1 := keepc hb z1
  clear hb ho9 k1 k2
  have HSM := hid (fun w' (hb : Below w9.heap.size w9 w') => rsame_any l l _ _ w' (HO8.out.rd.below hb) (HO9.out.rd.below hb) (by have := HLL.out; unfold maxLen; omega))
  have hqe := fun w => run_eqR a2 a2 w
  simp only [decide_true] at hqe
  go_upto_region 9 with fail
  go_region_held3 (fun w' => Below w9.heap.size w9 w' ∧ w'.cell? ⟨w.heap.size, 0, none⟩ = some (.slice oo N cap) ∧ w'.cell? ⟨w4.heap.size, 0, none⟩ = some (strV a2.1) ∧ w'.cell? ⟨w4.heap.size, 1, none⟩ = some (strV a2.2) ∧ w'.cell? ⟨w6.heap.size, 0, none⟩ = some (strV a2.1) ∧ w'.cell? ⟨w6.heap.size, 1, none⟩ = some (strV a2.2))
    ((refine (fun hS => ⟨hS, keepc hS k0, keepc hS y0, keepc hS y1, keepc hS z0, keepc hS z1⟩ : Below w9.heap.size w9 _ → _) ?_; first | exact (Below.refl _ _).drew | exact hbq))
    (first
      | (go_at_call 43; refine (H7.out _ (below_step (And.left (by assumption)) HT9.out)).mono ?_; rintro e w10 ⟨rfl, hb'⟩; have hbq : Below w9.heap.size w9 w10 := below_step hb' (And.left (by assumption)); clear hb')
      | (go_at_call 42; refine (H8.out _ (below_step (And.left (by assumption)) HT9.out)).mono ?_; rintro e w11 ⟨rfl, hb'⟩; have hbq : Below w9.heap.size w9 w11 := below_step hb' (And.left (by assumption)); clear hb')
      | (go_at_call 41; refine (HSM.out _ (And.left (by assumption))).mono ?_; rintro e w12 ⟨rfl, hb'⟩; have hbq : Below w9.heap.size w9 w12 := below_step hb' (And.left (by assumption)); clear hb'))
  all_goals
    go_wp2_with fail
    go_ret
    exact ⟨rfl, below_step (And.left (by assumption)) HT9.out⟩
end Go.Proofs.Ytifcgimpgbeocaa
