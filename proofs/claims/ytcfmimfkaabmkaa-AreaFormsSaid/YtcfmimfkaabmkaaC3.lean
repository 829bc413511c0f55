/- The plain law of Free. -/
import Derived.Test.YtcfmimfkaabmkaaC2
set_option linter.unusedVariables false
set_option linter.unusedSimpArgs false
namespace Go.Proofs.Ytcfmimfkaabmkaa
open Go.RowKit
attribute [local irreducible] num
theorem unitsOf_append : ∀ (A B : Lay) (e : Nat), unitsOf e (A ++ B) = unitsOf e A ++ unitsOf (endOf e A) B
  | [], B, e => rfl
  | (p, s) :: r, B, e => by rw [List.cons_append, unitsOf, unitsOf, unitsOf_append r B, endOf]; simp only [List.append_assoc, List.cons_append]
theorem enc_append : ∀ (A B : Lay) (e : Nat), enc e (A ++ B) = enc e A ++ enc (endOf e A) B
  | [], B, e => rfl
  | (p, s) :: r, B, e => by rw [List.cons_append, enc, enc, enc_append r B, endOf]; simp only [List.append_assoc]
theorem endOf_append : ∀ (A B : Lay) (e : Nat), endOf e (A ++ B) = endOf (endOf e A) B
  | [], B, e => rfl
  | (p, s) :: r, B, e => by rw [List.cons_append, endOf, endOf_append r B, endOf]
theorem ok_append : ∀ (A B : Lay) (b : Bool) (e : Nat), ok b e (A ++ B) ↔ ok b e A ∧ ok (b && A.isEmpty) (endOf e A) B
  | [], B, b, e => by simp [ok, endOf]
  | (p, s) :: r, B, b, e => by
    have := ok_append r B false (p + upN s.length)
    simp only [List.cons_append, ok, endOf, List.isEmpty_cons, Bool.and_false, Bool.false_and] at this ⊢
    rw [this]
    constructor
    · rintro ⟨h1, h2, h3, h4, h5, h6⟩; exact ⟨⟨h1, h2, h3, h4, h5⟩, h6⟩
    · rintro ⟨⟨h1, h2, h3, h4, h5⟩, h6⟩; exact ⟨h1, h2, h3, h4, h5, h6⟩
/-- What Free answers at an area of n0 bytes with the allocations lay. -/
def freeA (n0 : Nat) (lay : Lay) (p : Int) : List UInt8 × Int :=
  if lay.any (fun x => decide ((x.1 : Int) = p)) then (render n0 (lay.filter (fun x => !decide ((x.1 : Int) = p))), 0) else ([], 122)
/-- Before the allocation is met. -/
theorem freeS_before (p : Int) : ∀ (A : Lay) (b : Bool) (e : Nat) (st : Int × Int × Bool × Int × Int × Int), ok b e A → (∀ x ∈ A, (x.1 : Int) ≠ p) → st.2.2.1 = false → st.2.2.2.2.2 ≠ 2 →
    ((unitsOf e A).foldl (freeStep p) st).2.2.1 = false ∧ ((unitsOf e A).foldl (freeStep p) st).2.2.2.2.2 ≠ 2
  | [], _, _, _, _, _, h1, h2 => ⟨h1, h2⟩
  | (q, s) :: r, b, e, st, ⟨o1, o2, o3, o4, o5⟩, hne, h1, h2 => by
    have hq := hne (q, s) (List.mem_cons_self ..)
    simp only at hq
    rw [unitsOf, List.foldl_append, List.foldl_cons]
    have key : ∀ st' : Int × Int × Bool × Int × Int × Int, st'.2.2.1 = false → (freeStep p st' (((q - 8 : Nat) : Int), (s.length : Int), 1)).2.2.1 = false ∧ (freeStep p st' (((q - 8 : Nat) : Int), (s.length : Int), 1)).2.2.2.2.2 ≠ 2 := fun st' h => by
      unfold freeStep
      rw [if_neg (by simp only; omega), if_neg (by rw [h]; simp)]
      exact ⟨h, by simp⟩
    have hst : ((if q - 8 - e = 0 then ([] : List (Int × Int × Int)) else [((e : Int), ((q - 8 - e - 8 : Nat) : Int), 2)]).foldl (freeStep p) st).2.2.1 = false := by
      split
      · exact h1
      · simp only [List.foldl_cons, List.foldl_nil]
        unfold freeStep
        rw [if_neg (by simp), if_neg (by rw [h1]; simp)]
        exact h1
    obtain ⟨k1, k2⟩ := key _ hst
    exact freeS_before p r false _ _ o5 (fun x hx => hne x (List.mem_cons_of_mem _ hx)) k1 k2
/-- Behind it: nothing changes where no gap begins at to. -/
theorem freeS_after (p f t : Int) : ∀ (us : List (Int × Int × Int)) (st : Int × Int × Bool × Int × Int × Int), (∀ u ∈ us, (u.2.2 = 1 → u.1 + 8 ≠ p) ∧ (u.2.2 = 2 → u.1 ≠ t)) → st.1 = f ∧ st.2.1 = t ∧ st.2.2.1 = true →
    (us.foldl (freeStep p) st).1 = f ∧ (us.foldl (freeStep p) st).2.1 = t ∧ (us.foldl (freeStep p) st).2.2.1 = true
  | [], _, _, h => h
  | u :: us, st, hu, h => by
    rw [List.foldl_cons]
    obtain ⟨u1, u2⟩ := hu u (List.mem_cons_self ..)
    refine freeS_after p f t us _ (fun v hv => hu v (List.mem_cons_of_mem _ hv)) ?_
    unfold freeStep
    rw [if_neg (fun hh => u1 hh.1 hh.2), if_neg (fun hh => u2 hh.2.1 (by rw [hh.2.2]; exact h.2.1))]
    exact h
theorem units_ge : ∀ (A : Lay) (b : Bool) (e : Nat), ok b e A → ∀ u ∈ unitsOf e A, (e : Int) ≤ u.1
  | [], _, _, _, u, hu => by simp [unitsOf] at hu
  | (q, s) :: r, b, e, ⟨o1, o2, o3, o4, o5⟩, u, hu => by
    rw [unitsOf] at hu
    rcases List.mem_append.1 hu with hu | hu
    · split at hu
      · cases hu
      · rw [List.mem_singleton] at hu; subst hu; exact Int.le_refl _
    · rcases List.mem_cons.1 hu with rfl | hu
      · simp only; omega
      · have := units_ge r _ _ o5 u hu
        omega
theorem units_used : ∀ (A : Lay) (b : Bool) (e : Nat), ok b e A → ∀ u ∈ unitsOf e A, u.2.2 = 1 → ∃ x ∈ A, (x.1 : Int) = u.1 + 8
  | [], _, _, _, u, hu, _ => by simp [unitsOf] at hu
  | (q, s) :: r, b, e, ⟨o1, o2, o3, o4, o5⟩, u, hu, hm => by
    rw [unitsOf] at hu
    rcases List.mem_append.1 hu with hu | hu
    · split at hu
      · cases hu
      · rw [List.mem_singleton] at hu; subst hu; simp at hm
    · rcases List.mem_cons.1 hu with rfl | hu
      · exact ⟨(q, s), List.mem_cons_self .., by simp only; omega⟩
      · obtain ⟨x, hx, he⟩ := units_used r _ _ o5 u hu hm
        exact ⟨x, List.mem_cons_of_mem _ hx, he⟩
theorem offs_ge : ∀ (A : Lay) (b : Bool) (e : Nat), ok b e A → ∀ x ∈ A, e + 8 ≤ x.1
  | [], _, _, _, x, hx => by cases hx
  | (q, s) :: r, b, e, ⟨o1, o2, o3, o4, o5⟩, x, hx => by
    rcases List.mem_cons.1 hx with rfl | hx
    · exact o2
    · have := offs_ge r _ _ o5 x hx; omega
/-- Where what is free behind the freed one ends. -/
def nextAt (e : Nat) : Lay → Nat
  | [] => e
  | (p, _) :: _ => p - 8
/-- The allocation is met and freed: from and to. -/
theorem freeS_hit (q : Nat) (s : List UInt8) (R : Lay) (b : Bool) (e : Nat) (st : Int × Int × Bool × Int × Int × Int) (hok : ok b e ((q, s) :: R)) (h1 : st.2.2.1 = false) (h2 : st.2.2.2.2.2 ≠ 2) :
    ((unitsOf e ((q, s) :: R)).foldl (freeStep q) st).1 = (e : Int) ∧ ((unitsOf e ((q, s) :: R)).foldl (freeStep q) st).2.1 = (nextAt (q + upN s.length) R : Int) ∧ ((unitsOf e ((q, s) :: R)).foldl (freeStep q) st).2.2.1 = true := by
  obtain ⟨o1, o2, o3, o4, o5⟩ := hok
  rw [unitsOf, List.foldl_append, List.foldl_cons]
  have hub := upN_bd s.length
  have k : ∀ st' : Int × Int × Bool × Int × Int × Int, (st'.2.2.2.2.2 = 2 → st'.2.2.2.1 = (e : Int)) → (st'.2.2.2.2.2 ≠ 2 → q - 8 = e) →
      freeStep q st' (((q - 8 : Nat) : Int), (s.length : Int), 1) = ((e : Int), ((q + upN s.length : Nat) : Int), true, ((q - 8 : Nat) : Int), (s.length : Int), 1) := fun st' g1 g2 => by
    unfold freeStep
    rw [if_pos ⟨rfl, by simp only; omega⟩]
    simp only [upZ_nat]
    split
    · rename_i hh; rw [g1 hh, show ((q - 8 : Nat) : Int) + 8 + (upN s.length : Int) = ((q + upN s.length : Nat) : Int) by omega]
    · rename_i hh; rw [g2 hh, show (e : Int) + 8 + (upN s.length : Int) = ((q + upN s.length : Nat) : Int) by have := g2 hh; omega]
  have hst : freeStep q ((if q - 8 - e = 0 then ([] : List (Int × Int × Int)) else [((e : Int), ((q - 8 - e - 8 : Nat) : Int), 2)]).foldl (freeStep q) st) (((q - 8 : Nat) : Int), (s.length : Int), 1) = ((e : Int), ((q + upN s.length : Nat) : Int), true, ((q - 8 : Nat) : Int), (s.length : Int), 1) := by
    apply k
    · split
      · intro hh; exact absurd hh h2
      · intro _; simp only [List.foldl_cons, List.foldl_nil]; unfold freeStep; rw [if_neg (by simp), if_neg (by rw [h1]; simp)]
    · split
      · intro _; omega
      · intro hh; exfalso; apply hh; simp only [List.foldl_cons, List.foldl_nil]; unfold freeStep; rw [if_neg (by simp), if_neg (by rw [h1]; simp)]
  rw [hst]
  match R, o5 with
  | [], _ => exact ⟨rfl, rfl, rfl⟩
  | (p2, s2) :: R2, ⟨r1, r2, r3, r4, r5⟩ =>
    have hq8 := upN_8 s.length
    have hub2 := upN_bd s2.length
    rw [unitsOf, List.foldl_append, List.foldl_cons]
    have hrest : ∀ u ∈ ((((p2 - 8 : Nat) : Int), (s2.length : Int), 1) :: unitsOf (p2 + upN s2.length) R2 : List (Int × Int × Int)), (u.2.2 = 1 → u.1 + 8 ≠ (q : Int)) ∧ (u.2.2 = 2 → u.1 ≠ ((p2 - 8 : Nat) : Int)) := by
      intro u hu
      rcases List.mem_cons.1 hu with rfl | hu
      · exact ⟨fun _ => by simp only; omega, fun h => by simp at h⟩
      · have hge := units_ge R2 _ _ r5 u hu
        exact ⟨fun _ => by omega, fun _ => by omega⟩
    have := freeS_after (q : Int) (e : Int) ((p2 - 8 : Nat) : Int) ((((p2 - 8 : Nat) : Int), (s2.length : Int), 1) :: unitsOf (p2 + upN s2.length) R2)
    rw [← List.foldl_cons]
    refine this _ hrest ?_
    split
    · rename_i hz; exact ⟨rfl, by simp only [List.foldl_nil]; omega, rfl⟩
    · rename_i hz
      simp only [List.foldl_cons, List.foldl_nil]
      unfold freeStep
      rw [if_neg (by simp), if_pos ⟨rfl, rfl, rfl⟩]
      have hu : upZ ((p2 - 8 - (q + upN s.length) - 8 : Nat) : Int) = ((p2 - 8 - (q + upN s.length) - 8 : Nat) : Int) := by
        rw [upZ_nat]; unfold upN at *; omega
      refine ⟨rfl, ?_, rfl⟩
      simp only
      rw [hu]; omega
end Go.Proofs.Ytcfmimfkaabmkaa
