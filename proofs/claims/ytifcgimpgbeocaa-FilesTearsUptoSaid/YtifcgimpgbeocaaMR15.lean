/- Proved here: FilesTears: what Crash leaves is what stands there byte by byte; a sync is a crash that lets all through; ReadPage reads what a sync leaves. Condition: what comes in is of bulk at most 1048576. -/
import Derived.Test.YtifcgimpgbeocaaMC16
import Derived.Test.YtifcgimpgbeocaaK36
import Derived.Test.YtifcgimpgbeocaaChecked
set_option linter.unusedVariables false
set_option linter.unusedSimpArgs false
namespace Go.Proofs.Ytifcgimpgbeocaa
open Go.ChangeShapes Go.WideShapes Go.ChangeAt Go.RowKit Go.Joins Go.ChangeMaps Go.Deep
set_option maxRecDepth 100000 in
theorem tears_lifted (os : Os) (started : os.Started) (H : Type) (enc : TypeId × Value → H) (F : Stop.Interp) :
    ReturnsInHanded {} Try.checked os 15 .any ((Rows.OpenSpec.upto Rows.filesTearsSpec).pre6 enc Try.prog Try.f15 Rows.filesTearsUptoRow.domain false) (((Rows.OpenSpec.upto Rows.filesTearsSpec).at F).post enc Try.prog Try.f15 false true false false) := by
  refine returnsInHanded_of_cond (C := Try.checked) (s := Rows.OpenSpec.upto Rows.filesTearsSpec) (k := Rows.uptoSmall) rfl Try.own started (by kernel_rfl) Try.func15
    (OpenSpec.witness (enc := enc) (C := Try.checked) (s := Rows.OpenSpec.upto Rows.filesTearsSpec) (k := Rows.uptoSmall) rfl false ⟨#[], #[.agg #[.slice none 0 0, .slice none 0 0], .slice none 0 0], []⟩ 8 (by kernel_rfl) (by kernel_rfl) (by kernel_rfl)
      (x := ([.agg [.nil, .nil], .nil], [], [])) (by kernel_rfl) rfl (by kernel_rfl)) ?_
  intro W base args ds gs before hval0 hW hcnd hk _
  have hval : ∀ (j : Nat) t v, Try.f15.params[j]? = some t → args[j]? = some v → Value.okWide Try.prog W .any base t v := hval0
  have hW' := hW
  obtain ⟨p, q, hA0, hV, rfl, hfz, hnd⟩ := hW
  have hA : DataW.TrodAll enc Try.prog W 0 (fun _ => true) true Try.f15.params.toList args.toList ds p := hA0
  rw [Try.params15] at hA hval
  obtain ⟨v0, v1, d0, d1, p0, p1, rfl, rfl, rfl, h0, h1⟩ := trodAll_two hA
  obtain ⟨rfl, rfl⟩ := trodVars_none hV
  have hk := bulk_bound hk
  rw [List.append_nil] at hk
  simp only [Rows.uptoBulkAll] at hk
  obtain ⟨k, vp, vq, rfl, hp, hq, hk1, hk2, -, -⟩ := disk_arg (hval 0 27 v0 rfl rfl) h0
  obtain ⟨cuts, hr, hc, -⟩ := ints_arg (hval 1 34 v1 rfl rfl) h1
  refine (tears_law k cuts vp vq v1 W hp hq hr (by omega) (by omega) (by unfold maxLen; omega)).mono fun e W' ⟨he, hb⟩ => ?_
  subst he
  exact ⟨_, rfl, law_post Try.laidOut rfl rfl Try.underlying4 (by rw [Try.params15]; decide +kernel) hW' rfl hb⟩
theorem tears_holds : Rows.FilesTearsUptoSaid :=
  OpenClaim.holds_of_cond 15 Try.f15 rfl rfl rfl rfl rfl rfl rfl ⟨rfl, rfl, rfl, rfl, rfl⟩ rfl rfl rfl rfl rfl (by kernel_rfl) Try.func15 (by kernel_rfl)
    (of_decide_eq_true (by kernel_rfl)) (by unfold Func.isWrapper; first | (rw [if_pos (by decide +kernel)]; kernel_rfl) | (rw [if_neg (by decide +kernel)]; exact ⟨rfl, rfl⟩))
    (fun os started H enc _ F => tears_lifted os started H enc F)
#print axioms tears_holds
end Go.Proofs.Ytifcgimpgbeocaa
