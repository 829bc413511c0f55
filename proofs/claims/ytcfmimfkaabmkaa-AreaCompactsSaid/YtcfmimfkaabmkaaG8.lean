/- Proved here: AreaCompacts: Compact and Relocate return what the reference returns, for every string, list of moves and index. No conditions. -/
import Derived.Test.YtcfmimfkaabmkaaO7
import Derived.Test.YtcfmimfkaabmkaaOpenM
set_option linter.unusedVariables false
set_option linter.unusedSimpArgs false
namespace Go.Proofs.Ytcfmimfkaabmkaa
open Go.ChangeShapes Go.WideShapes Go.ChangeAt Go.RowKit Go.Joins Go.ChangeMaps
set_option maxRecDepth 100000 in
theorem compacts_lifted (os : Os) (started : os.Started) (H : Type) (enc : TypeId × Value → H) :
    ReturnsInHanded {} Try.checked os 6 .any (Rows.areaCompactsSpec.pre6 enc Try.prog Try.f6 Rows.areaCompactsRow.domain false) (Rows.areaCompactsSpec.post enc Try.prog Try.f6 false true false false) := by
  refine returnsInHanded_of_change (C := Try.checked) Try.own started (by kernel_rfl) Try.func6
    (ChangeSpec.witness6 (enc := enc) (C := Try.checked) false ⟨#[], #[.string ⟨#[]⟩, .slice none 0 0, .int .i64 0], []⟩ 8 (by kernel_rfl) (by kernel_rfl) (by kernel_rfl) (by kernel_rfl)) ?_
  intro W base args ds gs before hval0 hW hcnd _
  have hval : ∀ (j : Nat) t v, Try.f6.params[j]? = some t → args[j]? = some v → Value.okWide Try.prog W .any base t v := hval0
  have hW' := hW
  obtain ⟨p, q, hA0, hV, rfl, hfz, hnd⟩ := hW
  have hA : DataW.TrodAll enc Try.prog W 0 (fun _ => true) true Try.f6.params.toList args.toList ds p := hA0
  rw [Try.params6] at hA hval
  obtain ⟨v0, v1, v2, d0, d1, d2, p0, p1, p2, rfl, rfl, rfl, h0, h1, h2⟩ := trodAll_three hA
  obtain ⟨a, rfl, rfl, rfl, wa⟩ := open_string Try.underlying9 (hval 0 9 _ rfl rfl) h0
  obtain ⟨n, rfl, rfl, rfl, wn⟩ := open_int Try.underlying3 (hval 2 3 _ rfl rfl) h2
  obtain ⟨ms, hlen, hms⟩ : ∃ (ms : List Mv), ms.length ≤ maxLen ∧ RM W v1 ms := by
    obtain ⟨a1, len, cap, rfl⟩ := okWide_slice Try.underlying42 (hval 1 42 _ rfl rfl)
    obtain ⟨fuel, hf⟩ := h1
    obtain ⟨v, ms, e, k1, k2⟩ := opened_moves hf
    have e : Value.slice a1 len cap = v := by simpa [Value.cells] using e
    subst e
    exact ⟨ms, k1, k2⟩
  obtain ⟨rfl, rfl⟩ := trodVars_none hV
  refine (compacts_law a.data.toList _ ms n W (by rw [Array.length_toList]; exact wa) hms hlen).mono fun e W' ⟨he, hb⟩ => ?_
  subst he
  exact ⟨_, rfl, law_post Try.laidOut rfl rfl Try.underlying4 (by rw [Try.params6]; decide +kernel) hW' rfl hb⟩
theorem compacts_holds : Rows.AreaCompactsSaid :=
  OpenClaim.holds_of_wide 6 Try.f6 rfl rfl rfl rfl rfl rfl rfl ⟨rfl, rfl, rfl, rfl, rfl⟩ rfl rfl rfl rfl rfl (by kernel_rfl) Try.func6 (by kernel_rfl)
    (of_decide_eq_true (by kernel_rfl)) (by unfold Func.isWrapper; first | (rw [if_pos (by decide +kernel)]; kernel_rfl) | (rw [if_neg (by decide +kernel)]; exact ⟨rfl, rfl⟩))
    (fun os started H enc _ => compacts_lifted os started H enc)
#print axioms compacts_holds
end Go.Proofs.Ytcfmimfkaabmkaa
