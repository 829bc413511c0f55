/- Proved here: FilesAcknowledged: behind commits without an error, and whatever is done without another commit, Open of the disk behind a crash with any cuts finds Kept. No conditions. -/
import Derived.Test.YtifcgimpgbeocaaMC12
import Derived.Test.YtifcgimpgbeocaaK36
import Derived.Test.YtifcgimpgbeocaaChecked
set_option linter.unusedVariables false
set_option linter.unusedSimpArgs false
namespace Go.Proofs.Ytifcgimpgbeocaa
open Go.ChangeShapes Go.WideShapes Go.ChangeAt Go.RowKit Go.Joins Go.ChangeMaps Go.Deep
set_option maxRecDepth 100000 in
theorem acknowledged_lifted (os : Os) (started : os.Started) (H : Type) (enc : TypeId × Value → H) :
    ReturnsInHanded {} Try.checked os 4 .any (Rows.filesAcknowledgedSpec.pre6 enc Try.prog Try.f4 Rows.filesAcknowledgedRow.domain false) (Rows.filesAcknowledgedSpec.post enc Try.prog Try.f4 false true false false) := by
  refine returnsInHanded_of_change (C := Try.checked) Try.own started (by kernel_rfl) Try.func4
    (ChangeSpec.witness6 (enc := enc) (C := Try.checked) false ⟨#[], #[.agg #[.int .i64 0, .int .i64 0, .slice none 0 0, .int .i64 0, .slice none 0 0], .slice none 0 0], []⟩ 8 (by kernel_rfl) (by kernel_rfl) (by kernel_rfl) (by kernel_rfl)) ?_
  intro W base args ds gs before hval0 hW hcnd _
  have hval : ∀ (j : Nat) t v, Try.f4.params[j]? = some t → args[j]? = some v → Value.okWide Try.prog W .any base t v := hval0
  have hW' := hW
  obtain ⟨p, q, hA0, hV, rfl, hfz, hnd⟩ := hW
  have hA : DataW.TrodAll enc Try.prog W 0 (fun _ => true) true Try.f4.params.toList args.toList ds p := hA0
  rw [Try.params4] at hA hval
  obtain ⟨v0, v1, d0, d1, p0, p1, rfl, rfl, rfl, h0, h1⟩ := trodAll_two hA
  obtain ⟨q, rfl, hr, hr2⟩ := fail_arg (hval 0 44 v0 rfl rfl) h0
  obtain ⟨l, hr3, -⟩ := ops_arg (hval 1 54 v1 rfl rfl) h1
  obtain ⟨rfl, rfl⟩ := trodVars_none hV
  refine (acknowledged_law q.1.1 q.1.2.1 q.1.2.2.1 q.2.1 q.1.2.2.2.1 q.1.2.2.2.2 q.2.2 v1 l W hr hr2 hr3).mono fun e W' ⟨he, hb⟩ => ?_
  subst he
  exact ⟨_, rfl, law_post Try.laidOut rfl rfl Try.underlying4 (by rw [Try.params4]; decide +kernel) hW' rfl hb⟩
theorem acknowledged_holds : Rows.FilesAcknowledgedSaid :=
  OpenClaim.holds_of_wide 4 Try.f4 rfl rfl rfl rfl rfl rfl rfl ⟨rfl, rfl, rfl, rfl, rfl⟩ rfl rfl rfl rfl rfl (by kernel_rfl) Try.func4 (by kernel_rfl)
    (of_decide_eq_true (by kernel_rfl)) (by unfold Func.isWrapper; first | (rw [if_pos (by decide +kernel)]; kernel_rfl) | (rw [if_neg (by decide +kernel)]; exact ⟨rfl, rfl⟩))
    (fun os started H enc _ => acknowledged_lifted os started H enc)
#print axioms acknowledged_holds
end Go.Proofs.Ytifcgimpgbeocaa
