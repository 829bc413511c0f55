/- Proved here: FilesDisks: NewDisk, ReadPage, Act, Crash and CheckDisk answer as the chapter says. Condition: what comes in is of bulk at most 1048576. -/
import Derived.Test.YtifcgimpgbeocaaMC15
import Derived.Test.YtifcgimpgbeocaaMF4
import Derived.Test.YtifcgimpgbeocaaChecked
set_option linter.unusedVariables false
set_option linter.unusedSimpArgs false
namespace Go.Proofs.Ytifcgimpgbeocaa
open Go.ChangeShapes Go.WideShapes Go.ChangeAt Go.RowKit Go.Joins Go.ChangeMaps Go.Deep
set_option maxRecDepth 100000 in
theorem disks_lifted (os : Os) (started : os.Started) (H : Type) (enc : TypeId × Value → H) (F : Stop.Interp) :
    ReturnsInHanded {} Try.checked os 14 .any ((Rows.OpenSpec.upto Rows.filesDisksSpec).pre6 enc Try.prog Try.f14 Rows.filesDisksUptoRow.domain false) (((Rows.OpenSpec.upto Rows.filesDisksSpec).at F).post enc Try.prog Try.f14 false true false false) := by
  refine returnsInHanded_of_cond (C := Try.checked) (s := Rows.OpenSpec.upto Rows.filesDisksSpec) (k := Rows.uptoSmall) rfl Try.own started (by kernel_rfl) Try.func14
    (OpenSpec.witness (enc := enc) (C := Try.checked) (s := Rows.OpenSpec.upto Rows.filesDisksSpec) (k := Rows.uptoSmall) rfl false ⟨#[], #[.agg #[.slice none 0 0, .slice none 0 0], .agg #[.bool false, .int .i64 0, .string ⟨#[]⟩], .slice none 0 0], []⟩ 8 (by kernel_rfl) (by kernel_rfl) (by kernel_rfl)
      (x := ([.agg [.nil, .nil], .agg [.lit (.bool false), .lit (.int .i64 0), .lit (.string [])], .nil], [], [])) (by kernel_rfl) rfl (by kernel_rfl)) ?_
  intro W base args ds gs before hval0 hW hcnd hk _
  have hval : ∀ (j : Nat) t v, Try.f14.params[j]? = some t → args[j]? = some v → Value.okWide Try.prog W .any base t v := hval0
  have hW' := hW
  obtain ⟨p, q, hA0, hV, rfl, hfz, hnd⟩ := hW
  have hA : DataW.TrodAll enc Try.prog W 0 (fun _ => true) true Try.f14.params.toList args.toList ds p := hA0
  rw [Try.params14] at hA hval
  obtain ⟨v0, v1, v2, d0, d1, d2, p0, p1, p2, rfl, rfl, rfl, h0, h1, h2⟩ := trodAll_three hA
  obtain ⟨rfl, rfl⟩ := trodVars_none hV
  have hk := bulk_bound hk
  rw [List.append_nil] at hk
  simp only [Rows.uptoBulkAll] at hk
  obtain ⟨k, vp, vq, rfl, hp, hq, hk1, hk2, -, -⟩ := disk_arg (hval 0 27 v0 rfl rfl) h0
  obtain ⟨b, n, s, rfl, hs⟩ := act_arg2 (hval 1 104 v1 rfl rfl) h1
  obtain ⟨cuts, hr, hc, -⟩ := ints_arg (hval 2 34 v2 rfl rfl) h2
  refine (disks_law k b n s cuts vp vq v2 W hp hq hr (by omega) (by omega) (by unfold maxLen; omega) hs).mono fun e W' ⟨he, hb⟩ => ?_
  subst he
  exact ⟨_, rfl, law_post Try.laidOut rfl rfl Try.underlying4 (by rw [Try.params14]; decide +kernel) hW' rfl hb⟩
theorem disks_holds : Rows.FilesDisksUptoSaid :=
  OpenClaim.holds_of_cond 14 Try.f14 rfl rfl rfl rfl rfl rfl rfl ⟨rfl, rfl, rfl, rfl, rfl⟩ rfl rfl rfl rfl rfl (by kernel_rfl) Try.func14 (by kernel_rfl)
    (of_decide_eq_true (by kernel_rfl)) (by unfold Func.isWrapper; first | (rw [if_pos (by decide +kernel)]; kernel_rfl) | (rw [if_neg (by decide +kernel)]; exact ⟨rfl, rfl⟩))
    (fun os started H enc _ F => disks_lifted os started H enc F)
#print axioms disks_holds
end Go.Proofs.Ytifcgimpgbeocaa
