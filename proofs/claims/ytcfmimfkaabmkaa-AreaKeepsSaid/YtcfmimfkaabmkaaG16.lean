/- Proved here: AreaKeeps: whatever is allocated, freed, put elsewhere, assigned and resized, an allocation that has not been freed has its offset, its size, and the bytes that were put there last. No conditions. -/
import Derived.Test.YtcfmimfkaabmkaaS4
import Derived.Test.YtcfmimfkaabmkaaOpenS
import Derived.Test.YtcfmimfkaabmkaaF3
set_option linter.unusedVariables false
set_option linter.unusedSimpArgs false
namespace Go.Proofs.Ytcfmimfkaabmkaa
open Go.ChangeShapes Go.WideShapes Go.ChangeAt Go.RowKit Go.Joins Go.ChangeMaps
set_option maxRecDepth 100000 in
theorem keeps_lifted (os : Os) (started : os.Started) (H : Type) (enc : TypeId × Value → H) :
    ReturnsInHanded {} Try.checked os 16 .any (Rows.areaKeepsSpec.pre6 enc Try.prog Try.f16 Rows.areaKeepsRow.domain false) (Rows.areaKeepsSpec.post enc Try.prog Try.f16 false true false false) := by
  refine returnsInHanded_of_change (C := Try.checked) Try.own started (by kernel_rfl) Try.func16
    (ChangeSpec.witness6 (enc := enc) (C := Try.checked) false ⟨#[], #[.int .i64 0, .slice none 0 0], []⟩ 8 (by kernel_rfl) (by kernel_rfl) (by kernel_rfl) (by kernel_rfl)) ?_
  intro W base args ds gs before hval0 hW hcnd _
  have hval : ∀ (j : Nat) t v, Try.f16.params[j]? = some t → args[j]? = some v → Value.okWide Try.prog W .any base t v := hval0
  have hW' := hW
  obtain ⟨p, q, hA0, hV, rfl, hfz, hnd⟩ := hW
  have hA : DataW.TrodAll enc Try.prog W 0 (fun _ => true) true Try.f16.params.toList args.toList ds p := hA0
  rw [Try.params16] at hA hval
  obtain ⟨v0, v1, d0, d1, p0, p1, rfl, rfl, rfl, h0, h1⟩ := trodAll_two hA
  obtain ⟨n, rfl, rfl, rfl, wn⟩ := open_int Try.underlying3 (hval 0 3 _ rfl rfl) h0
  obtain ⟨ss, hlen, hss, hst⟩ : ∃ (ss : List StepT), ss.length ≤ maxLen ∧ RSt W v1 ss ∧ ∀ q ∈ ss, q.2.2.2.length ≤ maxLen := by
    obtain ⟨a1, len, cap, rfl⟩ := okWide_slice Try.underlying71 (hval 1 71 _ rfl rfl)
    obtain ⟨fuel, hf⟩ := h1
    obtain ⟨v, ss, e, k1, k2, k3⟩ := opened_steps hf
    have e : Value.slice a1 len cap = v := by simpa [Value.cells] using e
    subst e
    exact ⟨ss, k1, k2, k3⟩
  obtain ⟨rfl, rfl⟩ := trodVars_none hV
  refine (keeps_law n _ ss W hss hlen hst).mono fun e W' ⟨he, hb⟩ => ?_
  subst he
  exact ⟨_, rfl, law_post Try.laidOut rfl rfl Try.underlying4 (by rw [Try.params16]; decide +kernel) hW' rfl hb⟩
theorem keeps_holds : Rows.AreaKeepsSaid :=
  OpenClaim.holds_of_wide 16 Try.f16 rfl rfl rfl rfl rfl rfl rfl ⟨rfl, rfl, rfl, rfl, rfl⟩ rfl rfl rfl rfl rfl (by kernel_rfl) Try.func16 (by kernel_rfl)
    (of_decide_eq_true (by kernel_rfl)) (by unfold Func.isWrapper; first | (rw [if_pos (by decide +kernel)]; kernel_rfl) | (rw [if_neg (by decide +kernel)]; exact ⟨rfl, rfl⟩))
    (fun os started H enc _ => keeps_lifted os started H enc)
#print axioms keeps_holds
end Go.Proofs.Ytcfmimfkaabmkaa
