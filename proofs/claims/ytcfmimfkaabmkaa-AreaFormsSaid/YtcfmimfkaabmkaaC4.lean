/- area.Free on areas: the contract. -/
import Derived.Test.YtcfmimfkaabmkaaC3
set_option linter.unusedVariables false
set_option linter.unusedSimpArgs false
namespace Go.Proofs.Ytcfmimfkaabmkaa
open Go.RowKit
attribute [local irreducible] num
theorem over_at {P M S Z : List UInt8} {k : Nat} (hk : P.length = k) (hz : Z.length = M.length) : over (P ++ (M ++ S)) k Z = P ++ (Z ++ S) := by
  subst hk
  unfold over
  rw [List.take_left, hz, ← List.append_assoc P M S, show P.length + M.length = (P ++ M).length by simp, List.drop_left, List.append_assoc]
theorem offs_lt : ∀ (A : Lay) (b : Bool) (e : Nat), ok b e A → ∀ x ∈ A, x.1 < endOf e A
  | [], _, _, _, x, hx => by cases hx
  | (q, s) :: r, b, e, ⟨o1, o2, o3, o4, o5⟩, x, hx => by
    have := endOf_ge o5
    have := upN_bd s.length
    unfold endOf
    rcases List.mem_cons.1 hx with rfl | hx
    · simp only; omega
    · exact offs_lt r _ _ o5 x hx
def gapX (e : Nat) : Lay → List UInt8
  | [] => []
  | (p, _) :: _ => gapB (p - 8 - e)
def tailY : Lay → List UInt8
  | [] => []
  | (p, s) :: r => usedB s ++ enc (p + upN s.length) r
theorem enc_xy (e : Nat) (R : Lay) : enc e R = gapX e R ++ tailY R := by cases R <;> rfl
theorem free_area {l : List UInt8} {lay : Lay} (h : Area l lay) (p : Int) : freeRaw l (unitsOf 8 lay) p = freeA l.length lay p := by
  have hA := h
  obtain ⟨h16, h81, hok, hend, ha⟩ := h
  obtain ⟨h4, hlen⟩ := area_num4 hA
  have h0 := (area_units hA).2
  unfold freeA
  by_cases hany : lay.any (fun x => decide ((x.1 : Int) = p)) = true
  · rw [if_pos hany]
    obtain ⟨x, hx, hxp⟩ := List.any_eq_true.1 hany
    have hxp : (x.1 : Int) = p := by simpa using hxp
    obtain ⟨A, R, hAR⟩ := List.append_of_mem hx
    obtain ⟨q, s⟩ := x
    simp only at hxp
    subst hxp
    subst hAR
    have hspl := (ok_append A ((q, s) :: R) true 8).1 hok
    obtain ⟨hoA, hoR⟩ := hspl
    have heA := endOf_ge hoA
    have he8 := endOf_8 (e := 8) rfl hoA
    obtain ⟨e, he⟩ : ∃ e, e = endOf 8 A := ⟨_, rfl⟩
    rw [← he] at hoR heA he8
    have hgq := gap_ok he8 hoR
    have hoR' := hoR
    obtain ⟨o1, o2, o3, o4, o5⟩ := hoR'
    have hub := upN_bd s.length
    have hu8 := upN_8 s.length
    have hneA : ∀ x ∈ A, (x.1 : Int) ≠ (q : Int) := fun x hx => by have := offs_lt A _ _ hoA x hx; omega
    have hneR : ∀ x ∈ R, (x.1 : Int) ≠ (q : Int) := fun x hx => by have := offs_ge R _ _ o5 x hx; omega
    have hfilt : (A ++ (q, s) :: R).filter (fun x => !decide ((x.1 : Int) = (q : Int))) = A ++ R := by
      rw [List.filter_append, List.filter_cons]
      have e1 : A.filter (fun x => !decide ((x.1 : Int) = (q : Int))) = A := List.filter_eq_self.2 (fun x hx => by have := hneA x hx; simp only [this]; rfl)
      have e2 : R.filter (fun x => !decide ((x.1 : Int) = (q : Int))) = R := List.filter_eq_self.2 (fun x hx => by have := hneR x hx; simp only [this]; rfl)
      rw [e1, e2]
      simp
    rw [hfilt]
    have hb := freeS_before (q : Int) A true 8 (-1, -1, false, 0, 0, 0) hoA hneA rfl (by simp)
    have hh := freeS_hit q s R _ e _ hoR hb.1 hb.2
    rw [he, ← List.foldl_append, ← unitsOf_append] at hh
    rw [← he] at hh
    unfold freeRaw
    rw [show freeS (q : Int) (unitsOf 8 (A ++ (q, s) :: R)) = (unitsOf 8 (A ++ (q, s) :: R)).foldl (freeStep q) (-1, -1, false, 0, 0, 0) from rfl]
    rw [if_pos hh.2.2, hh.1, hh.2.1]
    simp only
    obtain ⟨t, ht⟩ : ∃ t, t = nextAt (q + upN s.length) R := ⟨_, rfl⟩
    have htb : q + upN s.length ≤ t := by
      rw [ht]
      match R, o5 with
      | [], _ => exact Nat.le_refl _
      | (p2, s2) :: R2, ⟨r1, r2, r3, r4, r5⟩ => simp only [nextAt]; omega
    have hxl : (gapX (q + upN s.length) R).length = t - (q + upN s.length) := by
      rw [ht]
      match R, o5 with
      | [], _ => simp [gapX, nextAt]
      | (p2, s2) :: R2, hr => simp only [nextAt, gapX]; rw [gapB_length _ (gap_ok (by omega) hr)]
    have hE : endOf 8 (A ++ (q, s) :: R) = endOf (q + upN s.length) R := by rw [endOf_append, endOf]
    have hencA : (enc 8 A).length = e - 8 := by rw [enc_length (e := 8) rfl hoA, ← he]
    rw [← ht, Int.toNat_natCast, Int.toNat_natCast]
    have hl : l = (four (endOf 8 (A ++ (q, s) :: R) - 8) ++ (four (A ++ (q, s) :: R).length ++ enc 8 A)) ++ ((gapB (q - 8 - e) ++ (usedB s ++ gapX (q + upN s.length) R)) ++ (tailY R ++ zs (l.length - endOf 8 (A ++ (q, s) :: R)))) := by
      conv => lhs; rw [ha]
      unfold render
      rw [enc_append, ← he, enc, enc_xy (q + upN s.length) R]
      simp only [List.append_assoc]
    have hov : over l e (List.replicate (t - e) 0) = four (endOf 8 (A ++ (q, s) :: R) - 8) ++ (four (A ++ (q, s) :: R).length ++ (enc 8 A ++ (zs (t - e) ++ (tailY R ++ zs (l.length - endOf 8 (A ++ (q, s) :: R)))))) := by
      rw [congrArg (fun z => over z e (List.replicate (t - e) 0)) hl]
      rw [over_at (by simp only [List.length_append, four_length, hencA]; omega) (by simp only [List.length_append, List.length_replicate, gapB_length _ hgq, usedB_length, hxl]; omega)]
      simp only [List.append_assoc]
      rfl
    have hs4 : setL (over l e (List.replicate (t - e) 0)) 4 (num l 4 - 1).toNat = four (endOf 8 (A ++ (q, s) :: R) - 8) ++ (four (A ++ R).length ++ (enc 8 A ++ (zs (t - e) ++ (tailY R ++ zs (l.length - endOf 8 (A ++ (q, s) :: R)))))) := by
      rw [hov, h4, setL_at (q := 4) rfl (four_length _)]
      congr 3
      simp only [List.length_append, List.length_cons]
      omega
    have hend' : endOf (q + upN s.length) R ≤ l.length := by rw [← hE]; exact hend
    rw [hs4, h0, hE]
    match R, o5, ht, hend', hE with
    | [], _, ht, hend', hE =>
      simp only [nextAt] at ht
      rw [if_pos (show (t : Int) = ((endOf (q + upN s.length) ([] : Lay) : Nat) : Int) by simp only [endOf]; omega)]
      simp only [endOf] at hE hend' ⊢
      have := setL_at (pre := []) (m := four (q + upN s.length - 8)) (post := four (A ++ ([] : Lay)).length ++ (enc 8 A ++ (zs (t - e) ++ (tailY [] ++ zs (l.length - (q + upN s.length)))))) (q := 0) (y := ((e : Int) - 8).toNat) rfl (four_length _)
      rw [List.nil_append] at this
      rw [this, List.nil_append, List.append_nil, show ((e : Int) - 8).toNat = e - 8 by omega]
      unfold render
      rw [← he]
      simp only [tailY, List.nil_append]
      rw [← zs_add, show t - e + (l.length - (q + upN s.length)) = l.length - e by omega]
    | (p2, s2) :: R2, hr, ht, hend', hE =>
      have hr' := hr
      obtain ⟨r1, r2, r3, r4, r5⟩ := hr'
      have hge := endOf_ge r5
      simp only [nextAt] at ht
      have hub2 := upN_bd s2.length
      rw [if_neg (show ¬ (t : Int) = ((endOf (q + upN s.length) ((p2, s2) :: R2) : Nat) : Int) by simp only [endOf]; omega)]
      have e1 : four (endOf (q + upN s.length) ((p2, s2) :: R2) - 8) ++ (four (A ++ (p2, s2) :: R2).length ++ (enc 8 A ++ (zs (t - e) ++ (tailY ((p2, s2) :: R2) ++ zs (l.length - endOf (q + upN s.length) ((p2, s2) :: R2)))))) =
          (four (endOf (q + upN s.length) ((p2, s2) :: R2) - 8) ++ (four (A ++ (p2, s2) :: R2).length ++ enc 8 A)) ++ (zs 8 ++ (zs (t - e - 8) ++ (tailY ((p2, s2) :: R2) ++ zs (l.length - endOf (q + upN s.length) ((p2, s2) :: R2))))) := by
        rw [show zs (t - e) = zs 8 ++ zs (t - e - 8) by rw [← zs_add]; congr 1; omega]
        simp only [List.append_assoc]
      rw [e1, putHead_at (by simp only [List.length_append, four_length, hencA]; omega) (zs_length 8)]
      unfold render
      rw [enc_append, endOf_append, ← he, enc_xy e]
      simp only [gapX, endOf]
      have eg : gapB (p2 - 8 - e) = four (t - e - 8) ++ (four 2 ++ zs (t - e - 8)) := by
        unfold gapB; rw [if_neg (by omega), ht, List.append_assoc]
      rw [eg, show ((t : Int) - (e : Int) - 8).toNat = t - e - 8 by omega]
      simp only [List.append_assoc]
      rfl
  · rw [if_neg hany]
    have hne : ∀ x ∈ lay, (x.1 : Int) ≠ p := fun x hx hxp => hany (List.any_eq_true.2 ⟨x, hx, by simpa using hxp⟩)
    have hb := freeS_before p lay true 8 (-1, -1, false, 0, 0, 0) hok hne rfl (by simp)
    unfold freeRaw
    rw [if_neg (by rw [show freeS p (unitsOf 8 lay) = (unitsOf 8 lay).foldl (freeStep p) (-1, -1, false, 0, 0, 0) from rfl, hb.1]; simp)]
/-- The contract of area.Free. -/
theorem free_lay (s : ByteArray) (p : Int) (lay : Lay) (w : World) (hs : s.size ≤ maxLen) (h : Area s.data.toList lay) : Calls Try.prog 22 #[.string s, .int .i64 p] w (DuoPost (freeA s.data.toList.length lay p) w) := by
  have ho : openS s.data.toList = true := (openS_iff _).2 ⟨lay, h⟩
  rw [← free_area h p]
  have hu := area_units h
  have h4 := area_num4 h
  have hend := h.2.2.2.1
  refine free_main s p _ _ w hs rfl ho hu.1 h.1 h.2.1 (by rw [hu.2]; omega) (by omega) (fun hd => ?_)
  rw [h4.1]
  cases lay with
  | nil => simp [unitsOf, freeS] at hd
  | cons a r => simp only [List.length_cons]; omega
end Go.Proofs.Ytcfmimfkaabmkaa
