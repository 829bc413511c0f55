/- Plain: Diff, one record more. -/
import Derived.Test.YtifcgimpgbeocaaK0
set_option linter.unusedVariables false
set_option linter.unusedSimpArgs false
namespace Go.Proofs.Ytifcgimpgbeocaa
open Go.RowKit
theorem dels_succ {a b : Ds} {k : Nat} {r : Rec} (h : a[k]? = some r) : delsD (a.take (k + 1)) b = delsD (a.take k) b ++ (if hasD b r.1 = true then [] else [((5 : Int), (0 : Int), r.1, ([] : Bs))]) := by
  unfold delsD
  obtain ⟨hk, rfl⟩ := List.getElem?_eq_some_iff.1 h
  rw [List.take_succ_eq_append_getElem hk, List.filter_append, List.map_append]
  congr 1
  cases hh : hasD b a[k].1 <;> simp [hh]
/-- What a record of b asks for. -/
def upOf (a : Ds) (r : Rec) : List FOp := upsD a [r]
theorem ups_succ {a b : Ds} {k : Nat} {r : Rec} (h : b[k]? = some r) : upsD a (b.take (k + 1)) = upsD a (b.take k) ++ upOf a r := by
  obtain ⟨hk, rfl⟩ := List.getElem?_eq_some_iff.1 h
  rw [List.take_succ_eq_append_getElem hk, upsD_append]
  rfl
theorem upOf_new {a : Ds} {r : Rec} (h : hasD a r.1 = false) : upOf a r = [(3, 0, r.1, r.2)] := by
  unfold upOf upsD
  simp [h, upsD]
theorem upOf_same {a : Ds} {r : Rec} (h : hasD a r.1 = true) (h2 : a[atD a r.1]? = some r) : upOf a r = [] := by
  unfold upOf upsD
  simp [h, h2, upsD]
theorem upOf_other {a : Ds} {r : Rec} (h : hasD a r.1 = true) (h2 : a[atD a r.1]? ≠ some r) : upOf a r = [(4, 0, r.1, r.2)] := by
  unfold upOf upsD
  simp [h, h2, upsD]
theorem dels_len (a b : Ds) : (delsD a b).length ≤ a.length := by
  unfold delsD
  rw [List.length_map]
  exact List.length_filter_le _ _
theorem upOf_len (a : Ds) (r : Rec) : (upOf a r).length ≤ 1 := by
  cases h : hasD a r.1 with
  | false => rw [upOf_new h]; exact Nat.le_refl _
  | true =>
    by_cases h2 : a[atD a r.1]? = some r
    · rw [upOf_same h h2]; exact Nat.zero_le _
    · rw [upOf_other h h2]; exact Nat.le_refl _
theorem ups_len1 (a : Ds) : ∀ b : Ds, (upsD a b).length ≤ b.length
  | [] => by simp [upsD]
  | r :: b => by
    have e : upsD a (r :: b) = upOf a r ++ upsD a b := by
      have := upsD_append a [r] b
      simpa [upOf] using this
    rw [e, List.length_append, List.length_cons]
    have := upOf_len a r
    have := ups_len1 a b
    omega
theorem diffD_bad {a b : Ds} (h : (isDs a && isDs b) = false) : diffD a b = ([], 140) := by unfold diffD; rw [h]; rfl
theorem diffD_ok {a b : Ds} (h : (isDs a && isDs b) = true) : diffD a b = (delsD a b ++ upsD a b, 0) := by unfold diffD; rw [if_pos h]
theorem at_lt {d : Ds} {k : Bs} (h : hasD d k = true) : atD d k < d.length := by
  unfold hasD keyAt at h
  cases hx : d[atD d k]? with
  | none => rw [hx] at h; cases h
  | some x => exact (List.getElem?_eq_some_iff.1 hx).1
theorem at_key {d : Ds} {k : Bs} {x : Rec} (h : hasD d k = true) (hx : d[atD d k]? = some x) : x.1 = k := by
  unfold hasD keyAt at h
  rw [hx] at h
  simpa using h
theorem up_none {a : Ds} {r : Rec} (ha : isDs a = true) (h : look a r.1 = none) : upOf a r = [(3, 0, r.1, r.2)] := upOf_new (by rw [look_has (isDs_sorted ha), h]; rfl)
theorem up_same {a : Ds} {r : Rec} (ha : isDs a = true) (h : look a r.1 = some r.2) : upOf a r = [] :=
  upOf_same (by rw [look_has (isDs_sorted ha), h]; rfl) ((look_at (isDs_sorted ha)).2 h)
theorem up_other {a : Ds} {r : Rec} {s : Bs} (ha : isDs a = true) (h : look a r.1 = some s) (h2 : s ≠ r.2) : upOf a r = [(4, 0, r.1, r.2)] :=
  upOf_other (by rw [look_has (isDs_sorted ha), h]; rfl) (fun e => by
    have e2 := (look_at (isDs_sorted ha)).1 (show a[atD a r.1]? = some (r.1, r.2) from e)
    rw [h] at e2
    exact h2 (Option.some.inj e2))
theorem read_none {a : Ds} {k : Bs} (ha : isDs a = true) (hk : isKey k = true) (h : look a k = none) : readD a k = ([], 4) := by rw [readD_look ha hk, h]
theorem read_some {a : Ds} {k s : Bs} (ha : isDs a = true) (hk : isKey k = true) (h : look a k = some s) : readD a k = (s, 0) := by rw [readD_look ha hk, h]
end Go.Proofs.Ytifcgimpgbeocaa
