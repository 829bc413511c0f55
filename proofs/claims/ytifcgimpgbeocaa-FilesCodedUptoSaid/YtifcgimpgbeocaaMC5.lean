/- The law FilesCodes, walked. -/
import Derived.Test.YtifcgimpgbeocaaK27
import Derived.Test.YtifcgimpgbeocaaMA44
import Derived.Test.YtifcgimpgbeocaaMB14
import Derived.Test.YtifcgimpgbeocaaMB15
set_option linter.unusedVariables false
set_option linter.unusedSimpArgs false
namespace Go.Proofs.Ytifcgimpgbeocaa
open Go.RowKit
attribute [local go_sem] Oper.semAt_some
theorem decodeD_len (s : Bs) : (decodeD s).1.length ≤ maxLen := by
  unfold decodeD maxLen
  split
  · cases h : decL s with
    | none => simp
    | some l => have := decL_count h; simp only; omega
  · simp
set_option maxHeartbeats 4000000 in
set_option maxRecDepth 100000 in
theorem codes_law (l : List FOp) (v : Value) (s : Bs) (w : World) (hR : RdO w v l) (hl : l.length ≤ 1000000) (hs : s.length ≤ maxLen) : Calls Try.prog 7 #[v, strV s] w (Ret (.bool true) w) := by
  have HS := hid (fun w' => sane_any w')
  have H1 := hid (fun w' (hb : Below w.heap.size w w') => encode2_any l v w' (hR.below hb) hl)
  have H2 := hid (fun w' (hb : Below w.heap.size w w') => rencode_any l v w' (hR.below hb) hl)
  have H3 := hid (fun w' => decode_any s w')
  have H4 := hid (fun w' => rdecode_any s w' hs)
  have HL := hid (decodeD_len s)
  obtain ⟨o, cap, rfl, -, -⟩ := hR
  generalize encodeD l = E at *
  generalize decodeD s = D at *
  obtain ⟨e1, n1⟩ := E
  obtain ⟨d1, m1⟩ := D
  generalize l.length = N at *
  simp only at H1 H2 H3 H4 HL
  go_enter Try.func7, Try.ntmps7
  go_wp2_with fail
  refine (HS.out _).mono ?_
  rintro e w1 ⟨rfl, hb⟩
  have HB1 := hid (below_step hb (Below.refl _ _))
  clear hb
  go_wp2_with fail
  refine (H1.out _ HB1.out).mono ?_
  rintro e w2 ⟨rfl, hb⟩
  have HB2 := hid (below_step hb HB1.out)
  clear hb
  go_wp2_with fail
  refine (H2.out _ HB2.out).mono ?_
  rintro e w3 ⟨rfl, hb⟩
  have HB3 := hid (below_step hb HB2.out)
  clear hb
  go_wp2_with fail
  refine (H3.out _).mono ?_
  rintro e w4 ⟨v4, rfl, ho4, hb⟩
  have HO4 := hid ho4
  obtain ⟨o4, c4, rfl, -, -⟩ := ho4.rd
  have HB4 := hid (below_step hb HB3.out)
  clear hb ho4
  go_wp2_with fail
  refine (H4.out _).mono ?_
  rintro e w5 ⟨v5, rfl, ho5, hb⟩
  have HSM := hid (rsameops_any d1 d1 _ _ w5 (HO4.out.below hb).rd ho5.rd HL.out)
  obtain ⟨o5, c5, rfl, -, -⟩ := ho5.rd
  have HB5 := hid (below_step hb HB4.out)
  clear hb ho5 HO4
  go_wp2_with fail
  refine HSM.out.mono ?_
  rintro e w6 ⟨rfl, hb⟩
  have HB6 := hid (below_step hb HB5.out)
  clear hb
  go_wp2_with fail
  go_ret
  exact ⟨rfl, HB6.out⟩
end Go.Proofs.Ytifcgimpgbeocaa
