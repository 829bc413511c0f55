/- area.Alloc on areas: the contract. -/
import Derived.Test.YtcfmimfkaabmkaaC1
set_option linter.unusedVariables false
set_option linter.unusedSimpArgs false
namespace Go.Proofs.Ytcfmimfkaabmkaa
open Go.RowKit
attribute [local irreducible] num
theorem ok_len : ∀ (lay : Lay) (b : Bool) (e : Nat), ok b e lay → e + 9 * lay.length ≤ endOf e lay
  | [], _, _, _ => Nat.le_refl _
  | (p, s) :: r, b, e, ⟨h1, h2, h3, h4, h5⟩ => by
    have := ok_len r _ _ h5
    have := upN_bd s.length
    simp only [endOf, List.length_cons]
    omega
theorem area_num4 {a : List UInt8} {lay : Lay} (h : Area a lay) : num a 4 = (lay.length : Int) ∧ lay.length ≤ 8192 := by
  obtain ⟨h16, h81, hok, hend, ha⟩ := h
  have := ok_len lay _ _ hok
  refine ⟨?_, by omega⟩
  exact num_at (pre := four (endOf 8 lay - 8)) (t := enc 8 lay ++ zs (a.length - endOf 8 lay)) ha rfl (by omega)
theorem area_render {lay : Lay} {n : Nat} (h : ok true 8 lay) (h0 : 16 ≤ n) (h1 : n ≤ 8192) (he : endOf 8 lay ≤ n) : Area (render n lay) lay := by
  have := render_length h he
  exact ⟨by omega, by omega, h, by omega, by rw [this]⟩
/-- What Alloc answers at an area of n0 bytes with the allocations lay. -/
def allocA (n0 : Nat) (lay : Lay) (n : Int) : List UInt8 × Int × Int :=
  if n < 1 ∨ 8192 < n then ([], 0, 1)
  else if endOf 8 (allocL n.toNat 8 lay).1 ≤ n0 then (render n0 (allocL n.toNat 8 lay).1, ((allocL n.toNat 8 lay).2 : Int), 0) else ([], 0, 121)
theorem allocL_ok {n : Nat} (hn : 1 ≤ n) {lay : Lay} (hok : ok true 8 lay) : ok true 8 (allocL n 8 lay).1 := by
  cases hf : (unitsOf 8 lay).find? (allocFit n) with
  | some u => exact (allocL_fit n hn lay true 8 (zs 8) [] u rfl (by simp [zs_length]) hok hf).2.2.2.2
  | none => rw [allocL_none n hn lay true 8 rfl hok hf]; exact ok_snoc n hn lay true 8 rfl hok
theorem alloc_area {l : List UInt8} {lay : Lay} (h : Area l lay) (n : Nat) (hn : 1 ≤ n) (hn2 : n ≤ 8192) : allocRaw l (unitsOf 8 lay) n = allocA l.length lay n := by
  have hA := h
  obtain ⟨h16, h81, hok, hend, ha⟩ := h
  obtain ⟨h4, hlen⟩ := area_num4 hA
  have h0 := (area_units hA).2
  have hge := endOf_ge hok
  have henl := enc_length (e := 8) rfl hok
  have hrl := render_length hok hend
  have hl4 : setL l 4 (num l 4 + 1).toNat = (four (endOf 8 lay - 8) ++ four (lay.length + 1)) ++ (enc 8 lay ++ zs (l.length - endOf 8 lay)) := by
    rw [h4, show ((lay.length : Int) + 1).toNat = lay.length + 1 by omega]
    conv => lhs; rw [ha]
    unfold render
    rw [setL_at (by simp [four_length]) (four_length _), List.append_assoc]
  have hn0 : ¬ ((n : Int) < 1 ∨ (8192 : Int) < n) := by omega
  unfold allocA
  rw [if_neg hn0, Int.toNat_natCast]
  cases hf : (unitsOf 8 lay).find? (allocFit n) with
  | some u =>
    obtain ⟨i1, i2, i3, i4, i5⟩ := allocL_fit n hn lay true 8 (four (endOf 8 lay - 8) ++ four (lay.length + 1)) (zs (l.length - endOf 8 lay)) u rfl (by simp [four_length]) hok hf
    rw [if_pos (by rw [i3]; exact hend)]
    unfold allocRaw
    rw [hf]
    simp only
    rw [hl4]
    have i1' := i1
    unfold cutGap at i1'
    rw [i1', i2]
    unfold render
    rw [i3, i4]
    simp only [List.append_assoc]
  | none =>
    have hal := allocL_none n hn lay true 8 rfl hok hf
    obtain ⟨j1, j2⟩ := enc_snoc n lay 8
    rw [hal]
    simp only [j2]
    unfold allocRaw
    rw [hf]
    simp only
    rw [hl4, h0, upZ_nat]
    have hnb := upN_bd n
    by_cases hfit : endOf 8 lay + 8 + upN n ≤ l.length
    · rw [if_neg (by omega), if_pos hfit]
      have e1 : (four (endOf 8 lay - 8) ++ four (lay.length + 1)) ++ (enc 8 lay ++ zs (l.length - endOf 8 lay)) =
          (four (endOf 8 lay - 8) ++ four (lay.length + 1) ++ enc 8 lay) ++ (zs 8 ++ (zs (upN n) ++ zs (l.length - (endOf 8 lay + 8 + upN n)))) := by
        rw [← zs_add, ← zs_add, show 8 + (upN n + (l.length - (endOf 8 lay + 8 + upN n))) = l.length - endOf 8 lay by omega]
        simp only [List.append_assoc]
      rw [e1, putHead_at (by simp only [List.length_append, four_length, henl]; omega) (zs_length 8)]
      have e2 : four (endOf 8 lay - 8) ++ four (lay.length + 1) ++ enc 8 lay ++ (four (n : Int).toNat ++ (four (1 : Int).toNat ++ (zs (upN n) ++ zs (l.length - (endOf 8 lay + 8 + upN n))))) =
          [] ++ (four (endOf 8 lay - 8) ++ (four (lay.length + 1) ++ (enc 8 lay ++ (usedB (zs n) ++ zs (l.length - (endOf 8 lay + 8 + upN n)))))) := by
        rw [usedB_zs, List.nil_append]
        simp only [List.append_assoc, Int.toNat_natCast]
        rfl
      rw [e2, setL_at (q := 0) rfl (four_length _)]
      unfold render
      have hX : num l 0 = ((endOf 8 lay - 8 : Nat) : Int) := by omega
      rw [j1, j2, List.nil_append, hX, show (((endOf 8 lay - 8 : Nat) : Int) + 8 + (upN n : Int)).toNat = endOf 8 lay + 8 + upN n - 8 by clear hX h0 h4; omega]
      simp only [List.append_assoc, List.length_append, List.length_cons, List.length_nil, Nat.zero_add]
      rw [show (((endOf 8 lay : Int) + 8 : Int)) = ((endOf 8 lay + 8 : Nat) : Int) by omega]
    · rw [if_pos (by omega), if_neg hfit]
/-- The contract of area.Alloc. -/
theorem alloc_lay (s : ByteArray) (n : Int) (lay : Lay) (w : World) (hs : s.size ≤ maxLen) (h : Area s.data.toList lay) : Calls Try.prog 20 #[.string s, .int .i64 n] w (TriPost (allocA s.data.toList.length lay n) w) := by
  have ho : openS s.data.toList = true := (openS_iff _).2 ⟨lay, h⟩
  by_cases hn : n < 1 ∨ 8192 < n
  · unfold allocA; rw [if_pos hn]; exact alloc_arg s n w hs ho hn
  · obtain ⟨k, rfl⟩ := Int.eq_ofNat_of_zero_le (show 0 ≤ n by omega)
    rw [← alloc_area h k (by omega) (by omega)]
    have hu := area_units h
    have h4 := area_num4 h
    have hend := h.2.2.2.1
    exact alloc_main s k _ _ w hs rfl ho (by omega) (by omega) hu.1 h.1 h.2.1 (by rw [hu.2]; omega) (by omega)
end Go.Proofs.Ytcfmimfkaabmkaa
