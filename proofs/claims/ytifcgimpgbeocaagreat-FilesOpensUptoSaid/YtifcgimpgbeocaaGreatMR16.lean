/- Proved here: FilesOpens: Create and Open return what the chapter says, for all numbers and every disk. Condition: what comes in is of bulk at most 1048576. -/
import Derived.Test.YtifcgimpgbeocaaGreatK39
import Derived.Test.YtifcgimpgbeocaaGreatK40
import Derived.Test.YtifcgimpgbeocaaGreatChecked
set_option linter.unusedVariables false
set_option linter.unusedSimpArgs false
namespace Go.Proofs.YtifcgimpgbeocaaGreat
open Go.ChangeShapes Go.WideShapes Go.ChangeAt Go.RowKit Go.Joins Go.ChangeMaps Go.Deep
set_option maxRecDepth 100000 in
theorem opens_lifted (os : Os) (started : os.Started) (H : Type) (enc : TypeId × Value → H) (F : Stop.Interp) :
    ReturnsInHanded {} Tryz.checked os 3 .any ((Rows.OpenSpec.upto Rows.filesOpensSpec).pre6 enc Tryz.prog Tryz.f3 Rows.filesOpensUptoRow.domain false) (((Rows.OpenSpec.upto Rows.filesOpensSpec).at F).post enc Tryz.prog Tryz.f3 false true false false) := by
  refine returnsInHanded_of_cond (C := Tryz.checked) (s := Rows.OpenSpec.upto Rows.filesOpensSpec) (k := Rows.uptoSmall) rfl Tryz.own started (by kernel_rfl) Tryz.func3
    (OpenSpec.witness (enc := enc) (C := Tryz.checked) (s := Rows.OpenSpec.upto Rows.filesOpensSpec) (k := Rows.uptoSmall) rfl false ⟨#[], #[.agg #[.slice none 0 0, .slice none 0 0], .int .i64 0, .int .i64 0], []⟩ 8 (by kernel_rfl) (by kernel_rfl) (by kernel_rfl)
      (x := ([.agg [.nil, .nil], .lit (.int .i64 0), .lit (.int .i64 0)], [], [])) (by kernel_rfl) rfl (by kernel_rfl)) ?_
  intro W base args ds gs before hval0 hW hcnd hk _
  have hval : ∀ (j : Nat) t v, Tryz.f3.params[j]? = some t → args[j]? = some v → Value.okWide Tryz.prog W .any base t v := hval0
  have hW' := hW
  obtain ⟨p, q, hA0, hV, rfl, hfz, hnd⟩ := hW
  have hA : DataW.TrodAll enc Tryz.prog W 0 (fun _ => true) true Tryz.f3.params.toList args.toList ds p := hA0
  rw [Tryz.params3] at hA hval
  obtain ⟨v0, v1, v2, d0, d1, d2, p0, p1, p2, rfl, rfl, rfl, h0, h1, h2⟩ := trodAll_three hA
  obtain ⟨rfl, rfl⟩ := trodVars_none hV
  have hk := bulk_bound hk
  rw [List.append_nil] at hk
  simp only [Rows.uptoBulkAll] at hk
  obtain ⟨k, vp, vq, rfl, hp, hq, hk1, hk2, -, -⟩ := disk_arg (hval 0 25 v0 rfl rfl) h0
  obtain ⟨n1, rfl, -⟩ := int_arg (hval 1 3 v1 rfl rfl) h1
  obtain ⟨n2, rfl, -⟩ := int_arg (hval 2 3 v2 rfl rfl) h2
  refine (opens_law k n1 n2 vp vq W hp hq (by omega) (by omega)).mono fun e W' ⟨he, hb⟩ => ?_
  subst he
  exact ⟨_, rfl, law_post Tryz.laidOut rfl rfl Tryz.underlying4 (by rw [Tryz.params3]; decide +kernel) hW' rfl hb⟩
theorem opens_holds : Rows.FilesOpensUptoSaid :=
  OpenClaim.holds_of_cond 3 Tryz.f3 rfl rfl rfl rfl rfl rfl rfl ⟨rfl, rfl, rfl, rfl, rfl⟩ rfl rfl rfl rfl rfl (by kernel_rfl) Tryz.func3 (by kernel_rfl)
    (of_decide_eq_true (by kernel_rfl)) (by unfold Func.isWrapper; first | (rw [if_pos (by decide +kernel)]; kernel_rfl) | (rw [if_neg (by decide +kernel)]; exact ⟨rfl, rfl⟩))
    (fun os started H enc _ F => opens_lifted os started H enc F)
#print axioms opens_holds
end Go.Proofs.YtifcgimpgbeocaaGreat
