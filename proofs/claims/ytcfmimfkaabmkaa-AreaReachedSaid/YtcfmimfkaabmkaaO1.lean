/- What add makes of the bytes of an area: one allocation more, behind all. -/
import Derived.Test.YtcfmimfkaabmkaaN3
set_option linter.unusedVariables false
set_option linter.unusedSimpArgs false
namespace Go.Proofs.Ytcfmimfkaabmkaa
open Go.RowKit
attribute [local irreducible] num
theorem over_mid {pre x post m : List UInt8} {q : Nat} (hq : pre.length = q) (hx : x.length = m.length) : over (pre ++ (x ++ post)) q m = pre ++ (m ++ post) := by
  subst hq
  unfold over
  rw [List.take_left', List.append_assoc]
  · congr 2
    rw [← hx, ← List.append_assoc, List.drop_left' (by rw [List.length_append])]
  · rfl
theorem zs_take {n k : Nat} (h : k ≤ n) : zs n = zs k ++ zs (n - k) := by rw [← zs_add, show k + (n - k) = n by omega]
/-- The bytes behind the heads that add writes. -/
def addHeads (l : List UInt8) (e p n : Nat) : List UInt8 :=
  putHead (if p - 8 - e = 0 then l else putHead l e ((p : Int) - 8 - e - 8) 2) ((p : Int) - 8) n 1
def addRaw (l : List UInt8) (e p n : Nat) (m : List UInt8) : List UInt8 :=
  let l4 := setL (over (addHeads l e p n) p m) 0 (p + upN n - 8)
  setL l4 4 (num l4 4 + 1).toNat
theorem add_render {N : Nat} {lay : Lay} {p : Nat} {s m : List UInt8} (hok : ok true 8 lay) (hp8 : p % 8 = 0) (hpe : endOf 8 lay + 8 ≤ p) (hend : p + upN s.length ≤ N) (hN : N ≤ 8192)
    (hm : m = s ++ zs (m.length - s.length)) (hml : m.length ≤ upN s.length) (hc : lay.length ≤ 8192) : addRaw (render N lay) (endOf 8 lay) p s.length m = render N (lay ++ [(p, s)]) ∧ num (setL (over (addHeads (render N lay) (endOf 8 lay) p s.length) p m) 0 (p + upN s.length - 8)) 4 = lay.length := by
  have he8 := endOf_8 (e := 8) rfl hok
  have hge := endOf_ge hok
  have hel := enc_length (e := 8) rfl hok
  have hub := upN_bd s.length
  obtain ⟨e, he⟩ : ∃ e, endOf 8 lay = e := ⟨_, rfl⟩
  have hsl : s.length ≤ m.length := by
    have h := congrArg List.length hm
    rw [List.length_append, zs_length] at h; omega
  have hen : enc 8 (lay ++ [(p, s)]) = enc 8 lay ++ (gapB (p - 8 - e) ++ usedB s) := by
    rw [enc_append, he]; simp only [enc, List.append_nil]
  have heo := endOf_snoc lay 8 p s
  rw [he] at he8 hge hel hpe
  -- behind the first head
  have h1 : (if p - 8 - e = 0 then render N lay else putHead (render N lay) e ((p : Int) - 8 - e - 8) 2) = (four (e - 8) ++ (four lay.length ++ (enc 8 lay ++ gapB (p - 8 - e)))) ++ (zs 8 ++ zs (N - p)) := by
    have hr : render N lay = (four (e - 8) ++ (four lay.length ++ enc 8 lay)) ++ zs (N - e) := by
      unfold render; rw [he]; simp only [List.append_assoc]
    by_cases hg : p - 8 - e = 0
    · rw [if_pos hg, hr, ← zs_add, hg]
      unfold gapB
      rw [if_pos rfl, List.append_nil]
      congr 2; omega
    · rw [if_neg hg, hr, zs_take (show 8 ≤ N - e by omega), putHead_at (by simp only [List.length_append, four_length]; omega) (zs_length 8)]
      unfold gapB
      rw [if_neg hg, show N - e - 8 = (p - 8 - e - 8) + (8 + (N - p)) by omega, zs_add, zs_add, show ((p : Int) - 8 - e - 8).toNat = p - 8 - e - 8 by omega]
      simp only [List.append_assoc]
      rfl
  have h2 : addHeads (render N lay) e p s.length = (four (e - 8) ++ (four lay.length ++ (enc 8 lay ++ (gapB (p - 8 - e) ++ (four s.length ++ four 1))))) ++ (zs m.length ++ zs (N - p - m.length)) := by
    unfold addHeads
    have hgl := gapB_length (p - 8 - e) (by omega)
    rw [h1, putHead_at (by simp only [List.length_append, four_length]; omega) (zs_length 8), ← zs_add, show m.length + (N - p - m.length) = N - p by omega]
    simp only [List.append_assoc, Int.toNat_natCast]
    rfl
  have hgl := gapB_length (p - 8 - e) (by omega)
  have h3 : over (addHeads (render N lay) e p s.length) p m = four (e - 8) ++ (four lay.length ++ (enc 8 lay ++ (gapB (p - 8 - e) ++ (usedB s ++ zs (N - (p + upN s.length)))))) := by
    rw [h2, over_mid (by simp only [List.length_append, four_length]; omega) (zs_length _)]
    have : m ++ zs (N - p - m.length) = s ++ (zs (upN s.length - s.length) ++ zs (N - (p + upN s.length))) := by
      conv => lhs; rw [hm]
      rw [List.append_assoc]
      congr 1
      rw [← zs_add, ← zs_add]
      congr 1
      rw [← hm]
      omega
    rw [this]
    unfold usedB
    simp only [List.append_assoc]
  have h4 : setL (over (addHeads (render N lay) e p s.length) p m) 0 (p + upN s.length - 8) = four (p + upN s.length - 8) ++ (four lay.length ++ (enc 8 lay ++ (gapB (p - 8 - e) ++ (usedB s ++ zs (N - (p + upN s.length)))))) := by
    rw [h3]
    exact setL_at (pre := []) (q := 0) rfl (four_length _)
  have h5 : num (setL (over (addHeads (render N lay) e p s.length) p m) 0 (p + upN s.length - 8)) 4 = lay.length := by
    rw [h4]
    exact num_at (pre := four (p + upN s.length - 8)) (t := enc 8 lay ++ (gapB (p - 8 - e) ++ (usedB s ++ zs (N - (p + upN s.length))))) rfl rfl (by omega)
  rw [he]
  refine ⟨?_, h5⟩
  unfold addRaw
  simp only
  rw [h5, h4, setL_at (q := 4) (four_length _) (four_length _), show ((lay.length : Int) + 1).toNat = lay.length + 1 by omega]
  unfold render
  rw [hen, heo, List.length_append]
  simp only [List.append_assoc, List.length_singleton]
theorem ok_end : ∀ (lay : Lay) (b : Bool) (e p : Nat) (s : List UInt8), ok b e lay → p % 8 = 0 → endOf e lay + 8 ≤ p → (lay = [] → b = true → p ≠ e + 16) → 1 ≤ s.length → ok b e (lay ++ [(p, s)])
  | [], b, e, p, s, _, h1, h2, h3, h4 => ⟨h1, h2, fun hb => h3 rfl hb, h4, trivial⟩
  | (q, t) :: r, b, e, p, s, ⟨o1, o2, o3, o4, o5⟩, h1, h2, h3, h4 => ⟨o1, o2, o3, o4, ok_end r false _ p s o5 h1 h2 (fun _ h => by cases h) h4⟩
end Go.Proofs.Ytcfmimfkaabmkaa
