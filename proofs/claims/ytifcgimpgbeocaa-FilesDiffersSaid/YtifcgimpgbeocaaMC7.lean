/- The law FilesDiffs, walked. -/
import Derived.Test.YtifcgimpgbeocaaK27
import Derived.Test.YtifcgimpgbeocaaMB15
import Derived.Test.YtifcgimpgbeocaaMB16
set_option linter.unusedVariables false
set_option linter.unusedSimpArgs false
namespace Go.Proofs.Ytifcgimpgbeocaa
open Go.RowKit
attribute [local go_sem] Oper.semAt_some
theorem diffD_len (a b : Ds) : (diffD a b).1.length ≤ 128 := by
  unfold diffD
  split
  · rename_i h
    simp only [Bool.and_eq_true] at h
    have h1 := isDs_len h.1
    have h2 := isDs_len h.2
    have h3 := dels_len a b
    have h4 := ups_len1 a b
    simp only [List.length_append]
    omega
  · simp
set_option maxHeartbeats 4000000 in
set_option maxRecDepth 100000 in
theorem diffs_law (a b : Ds) (va vb : Value) (w : World) (hA : RdR w va a) (hB : RdR w vb b) : Calls Try.prog 12 #[va, vb] w (Ret (.bool true) w) := by
  have HS := hid (fun w' => sane_any w')
  have H1 := hid (fun w' (hb : Below w.heap.size w w') => diff_any a b va vb w' (hA.below hb) (hB.below hb))
  have H2 := hid (fun w' (hb : Below w.heap.size w w') => rdiff_any a b va vb w' (hA.below hb) (hB.below hb))
  have HL := hid (diffD_len a b)
  obtain ⟨oa, ca, rfl, -, -⟩ := hA
  obtain ⟨ob, cb, rfl, -, -⟩ := hB
  generalize diffD a b = D at *
  obtain ⟨l, n⟩ := D
  simp only at H1 H2 HL
  generalize a.length = N at *
  generalize b.length = M at *
  go_enter Try.func12, Try.ntmps12
  go_wp2_with fail
  refine (HS.out _).mono ?_
  rintro e w1 ⟨rfl, hb⟩
  have HB1 := hid (below_step hb (Below.refl _ _))
  clear hb
  go_wp2_with fail
  refine (H1.out _ HB1.out).mono ?_
  rintro e w4 ⟨v4, rfl, ho4, hb⟩
  have HO4 := hid ho4
  obtain ⟨o4, c4, rfl, -, -⟩ := ho4.rd
  have HB4 := hid (below_step hb HB1.out)
  clear hb ho4
  go_wp2_with fail
  refine (H2.out _ HB4.out).mono ?_
  rintro e w5 ⟨v5, rfl, ho5, hb⟩
  have HSM := hid (rsameops_any l l _ _ w5 (HO4.out.below hb).rd ho5.rd (by have := HL.out; unfold maxLen; omega))
  obtain ⟨o5, c5, rfl, -, -⟩ := ho5.rd
  have HB5 := hid (below_step hb HB4.out)
  clear hb ho5 HO4
  go_wp2_with fail
  refine HSM.out.mono ?_
  rintro e w6 ⟨rfl, hb⟩
  have HB6 := hid (below_step hb HB5.out)
  clear hb
  go_wp2_with fail
  go_ret
  exact ⟨rfl, HB6.out⟩
end Go.Proofs.Ytifcgimpgbeocaa
