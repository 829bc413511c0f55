/- What R.walk reads: a plain function, and its answer at the units of an area. -/
import Derived.Test.YtcfmimfkaabmkaaD2
set_option linter.unusedVariables false
set_option linter.unusedSimpArgs false
namespace Go.Proofs.Ytcfmimfkaabmkaa
open Go.RowKit
attribute [local irreducible] num
def walkS (l : List UInt8) (en : Int) : Nat → Int → List (Int × List UInt8)
  | 0, _ => []
  | f + 1, a =>
    if 0 ≤ a ∧ a + 8 ≤ en ∧ en ≤ l.length then
      if num l a.toNat > l.length then []
      else if num l (a.toNat + 4) = 1 then
        if a + 8 + num l a.toNat > l.length then [] else (a + 8, sl l (a.toNat + 8) (a.toNat + 8 + (num l a.toNat).toNat)) :: walkS l en f (a + 8 + upZ (num l a.toNat))
      else walkS l en f (a + 8 + upZ (num l a.toNat))
    else []
def usedOf (l : List UInt8) (us : List (Int × Int × Int)) : List (Int × List UInt8) := (us.filter (fun u => u.2.2 == 1)).map (fun u => (u.1 + 8, sl l (u.1.toNat + 8) (u.1.toNat + 8 + u.2.1.toNat)))
theorem walkS_units {l : List UInt8} {en a : Int} {us : List (Int × Int × Int)} (h : UL l en a us) (hen : en ≤ l.length) : ∀ (f : Nat), (en - a).toNat < f → walkS l en f a = usedOf l us := by
  induction h with
  | nil h =>
    intro f hf
    obtain ⟨f, rfl⟩ : ∃ g, f = g + 1 := ⟨f - 1, by omega⟩
    unfold walkS
    rw [if_neg (by omega)]
    rfl
  | @cons a r h h0 h1 hr ih =>
    intro f hf
    obtain ⟨f, rfl⟩ : ∃ g, f = g + 1 := ⟨f - 1, by omega⟩
    have hb := num_bd l a.toNat
    have hp := upZ_bd (num l a.toNat) hb.1
    have hi := ih f (by omega)
    unfold walkS
    rw [if_pos ⟨by omega, by omega, hen⟩, if_neg (by omega)]
    by_cases hm : num l (a.toNat + 4) = 1
    · rw [if_pos hm, if_neg (by omega), hi]
      unfold usedOf
      rw [List.filter_cons_of_pos (by simp [hm]), List.map_cons]
    · rw [if_neg hm, hi]
      unfold usedOf
      rw [List.filter_cons_of_neg (by simp [hm])]
theorem usedOf_lay {l : List UInt8} : ∀ (lay : Lay) (b : Bool) (e : Nat) (pre post : List UInt8), e % 8 = 0 → pre.length = e → ok b e lay → l = pre ++ (enc e lay ++ post) → usedOf l (unitsOf e lay) = lay.map (fun x => ((x.1 : Int), x.2))
  | [], _, _, _, _, _, _, _, _ => rfl
  | (p, s) :: r, b, e, pre, post, he, hp, hok, hl => by
    have hg := gap_ok he hok
    have hu8 := upN_8 s.length
    have hub := upN_bd s.length
    obtain ⟨h1, h2, h3, h4, h5⟩ := hok
    have hpre : (pre ++ (gapB (p - 8 - e) ++ usedB s)).length = p + upN s.length := by
      rw [List.length_append, List.length_append, gapB_length _ hg, usedB_length]; omega
    have hl2 : l = (pre ++ (gapB (p - 8 - e) ++ usedB s)) ++ (enc (p + upN s.length) r ++ post) := by rw [hl, enc]; simp only [List.append_assoc]
    have ih := usedOf_lay (l := l) r false (p + upN s.length) (pre ++ (gapB (p - 8 - e) ++ usedB s)) post (by omega) hpre h5 hl2
    have hs : sl l p (p + s.length) = s := by
      have e1 : l = (pre ++ (gapB (p - 8 - e) ++ (four s.length ++ four 1))) ++ (s ++ (zs (upN s.length - s.length) ++ (enc (p + upN s.length) r ++ post))) := by
        rw [hl, enc]; unfold usedB; simp only [List.append_assoc]
      rw [e1]
      exact sl_mid (by simp only [List.length_append, four_length, gapB_length _ hg]; omega) rfl
    have hsplit : usedOf l (unitsOf e ((p, s) :: r)) = ((p : Int), s) :: usedOf l (unitsOf (p + upN s.length) r) := by
      have hcons : usedOf l ((((p - 8 : Nat) : Int), (s.length : Int), 1) :: unitsOf (p + upN s.length) r) = ((p : Int), s) :: usedOf l (unitsOf (p + upN s.length) r) := by
        unfold usedOf
        rw [List.filter_cons_of_pos (by simp), List.map_cons]
        simp only [Int.toNat_natCast]
        rw [show p - 8 + 8 = p by omega, hs, show ((p - 8 : Nat) : Int) + 8 = (p : Int) by omega]
      rw [unitsOf]
      split
      · exact hcons
      · rw [← hcons]; unfold usedOf; rw [List.singleton_append, List.filter_cons_of_neg (by simp)]
    rw [hsplit, ih, List.map_cons]
/-- R.walk at an area: its allocations. -/
theorem walkS_area {l : List UInt8} {lay : Lay} (h : Area l lay) (f : Nat) (hf : 8192 < f) : walkS l (8 + num l 0) f 8 = lay.map (fun x => ((x.1 : Int), x.2)) := by
  have hu := area_units h
  obtain ⟨h16, h81, hok, hend, ha⟩ := h
  rw [walkS_units hu.1 (by rw [hu.2]; omega) f (by rw [hu.2]; omega)]
  exact usedOf_lay lay true 8 (four (endOf 8 lay - 8) ++ four lay.length) (zs (l.length - endOf 8 lay)) rfl (by simp [four_length]) hok (ha.trans (by unfold render; simp only [List.append_assoc]))
end Go.Proofs.Ytcfmimfkaabmkaa
