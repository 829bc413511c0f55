/- Write. -/
import Derived.Test.YtifcgimpgbeocaaGreatK20
import Derived.Test.YtifcgimpgbeocaaGreatK21
import Derived.Test.YtifcgimpgbeocaaGreatK10
set_option linter.unusedVariables false
set_option linter.unusedSimpArgs false
namespace Go.Proofs.YtifcgimpgbeocaaGreat
open Go.RowKit
attribute [local go_sem] Oper.semAt_some
/-- A call that returns records, and turns nothing that was there when another world stood. -/
def RetV (A : Nat) (w0 : World) (l : Ds) (e : Ending) (w' : World) : Prop := ∃ v, e = .returned v ∧ OR w' A v l ∧ Below A w0 w'
theorem ins_call {w0 W : World} {A B vb i : Nat} {u : Value} {d : Ds} {r : Rec} (h0 : Below A w0 W) (hA : A ≤ B) (hO : OR W B u d) (hi : i ≤ d.length) (hl : d.length ≤ 64) (hB : B ≤ W.heap.size) (hV : W.heap[vb]? = some (.cells #[strV r.1, strV r.2] 59 (0, 0))) (hne : u.ownBlock ≠ some vb) :
    Calls Tryz.prog 67 #[u, .int .i64 (i : Int), .slice (some ⟨vb, 0, none⟩) 1 1] W (RetV A w0 (d.take i ++ r :: d.drop i)) :=
  (insR_any d r u i vb B W hO hi hl hB hV hne).mono fun e w' ⟨v, h1, h2, h3⟩ => ⟨v, h1, h2.mono hA, h0.grown h3 (Nat.le_trans hA hB) (fun k hk => Nat.le_trans hA (hO.own k hk))⟩
/-- The row has been made before the record is laid beside it .. -/
theorem ins_late {w0 w5 : World} {A B i : Nat} {u : Value} {d : Ds} {r : Rec} (h0 : Below A w0 w5) (hA : A ≤ B) (hO : OR w5 B u d) (hi : i ≤ d.length) (hl : d.length ≤ 64) (hB : B ≤ w5.heap.size) :
    Calls Tryz.prog 67 #[u, .int .i64 (i : Int), .slice (some ⟨w5.heap.size, 0, none⟩) 1 1] (w5.alloc (.cells #[strV r.1, strV r.2] 59)) (RetV A w0 (d.take i ++ r :: d.drop i)) :=
  ins_call (h0.alloc (Nat.le_trans hA hB) _) hA (hO.below ((Below.refl _ _).alloc (Nat.le_refl _) _)) hi hl (by rw [World.size_alloc]; omega) (heap_alloc_new _ _) (fun e => by have := (World.ownsRow.lt hO _ e).2; omega)
/-- .. or behind it. -/
theorem ins_early {w0 w4 w5 : World} {A i : Nat} {u : Value} {d : Ds} {r : Rec} (h0 : Below A w0 w4) (hA : A ≤ w4.heap.size) (hb : Below (w4.alloc (.cells #[strV r.1, strV r.2] 59)).heap.size (w4.alloc (.cells #[strV r.1, strV r.2] 59)) w5)
    (hO : OR w5 (w4.alloc (.cells #[strV r.1, strV r.2] 59)).heap.size u d) (hi : i ≤ d.length) (hl : d.length ≤ 64) :
    Calls Tryz.prog 67 #[u, .int .i64 (i : Int), .slice (some ⟨w4.heap.size, 0, none⟩) 1 1] w5 (RetV A w0 (d.take i ++ r :: d.drop i)) :=
  ins_call ((h0.alloc hA _).trans (hb.mono (by rw [World.size_alloc]; omega))) (by rw [World.size_alloc]; omega) hO hi hl hb.size
    ((hb.block _ (by rw [World.size_alloc]; omega)).trans (heap_alloc_new _ _)) (fun e => by have := (World.ownsRow.lt hO _ e).1; rw [World.size_alloc] at this; omega)
set_option maxHeartbeats 2000000 in
set_option maxRecDepth 100000 in
theorem write_any (d : Ds) (v : Value) (r : Rec) (w : World) (hR : RdR w v d) : Calls Tryz.prog 28 #[v, recV r] w (RetR (writeD d r).1 (writeD d r).2 w) := by
  have hB0 := (Below.refl w.heap.size w).alloc (Nat.le_refl _) (.cells #[strV r.1, strV r.2] 59)
  have x0 : (w.alloc (.cells #[strV r.1, strV r.2] 59)).cell? ⟨w.heap.size, 0, none⟩ = some (strV r.1) := cell_new _ _ _ 0 _ rfl
  have x1 : (w.alloc (.cells #[strV r.1, strV r.2] 59)).cell? ⟨w.heap.size, 1, none⟩ = some (strV r.2) := cell_new _ _ _ 1 _ rfl
  have HB0 := hid hB0; have HX0 := hid x0; have HX1 := hid x1
  have HK := hid (fun w => isrecord_any r w)
  have HA := hid (fun w' (hb : Below w.heap.size w w') => ask_any' d v (isRec r) w' (hR.below hb))
  by_cases hok : isDs d = true ∧ isRec r = true
  rotate_left
  · have hr : writeD d r = ([], askE d (isRec r)) := by
      unfold writeD askE
      split
      · rename_i h1
        have h2 : ¬ isRec r = true := fun h2 => hok ⟨h1, h2⟩
        rw [if_neg h2, if_neg h2]
      · rfl
    rw [hr]
    have g := askE_ne hok
    obtain ⟨E, hE⟩ : ∃ E, askE d (isRec r) = E := ⟨_, rfl⟩
    rw [hE] at HA g ⊢
    clear hE hr hok hR hB0
    go_enter Tryz.func28, Tryz.ntmps28
    go_wp2_with fail
    refine (HK.out _).mono ?_
    rintro e w1 ⟨rfl, hb1⟩
    have HB1 := hid (below_step hb1 HB0.out)
    clear hb1
    go_wp2_with fail
    refine (HA.out _ HB1.out).mono ?_
    rintro e w2 ⟨rfl, hb2⟩
    have HB2 := hid (below_step hb2 HB1.out)
    clear hb2
    go_wp2_with fail
    go_ret2
    exact ⟨_, rfl, oR_nil _ _, HB2.out⟩
  obtain ⟨hd, hk⟩ := hok
  rw [askE_ok hd hk] at HA
  have HAT := hid (fun w' (hb : Below w.heap.size w w') => at_any d v r.1 w' (hR.below hb) (isDs_len hd))
  have hl := isDs_len hd
  have hle := atD_le d r.1
  cases hh : hasD d r.1 with
  | true =>
    have hr : writeD d r = ([], 141) := by unfold writeD; rw [if_pos hd, if_pos hk, hh]; rfl
    rw [hr]
    rw [hh] at HAT
    obtain ⟨J, hJ⟩ : ∃ J, atD d r.1 = J := ⟨_, rfl⟩
    rw [hJ] at HAT
    clear hr hh hJ hd hk hR hle hl hB0 x0 x1
    go_enter Tryz.func28, Tryz.ntmps28
    have x1 := HX1.out; have x0 := HX0.out
    go_wp2_with fail
    refine (HK.out _).mono ?_
    rintro e w1 ⟨rfl, hb1⟩
    have HB1 := hid (below_step hb1 HB0.out)
    have x0 := keepc hb1 HX0.out
    clear hb1
    go_wp2_with fail
    refine (HA.out _ HB1.out).mono ?_
    rintro e w2 ⟨rfl, hb2⟩
    have HB2 := hid (below_step hb2 HB1.out)
    have x0 := keepc hb2 x0
    clear hb2
    go_wp2_with fail
    refine (HAT.out _ HB2.out).mono ?_
    rintro e w3 ⟨rfl, hb3⟩
    have HB3 := hid (below_step hb3 HB2.out)
    clear hb3
    go_wp2_with fail
    go_ret2
    exact ⟨_, rfl, oR_nil _ _, HB3.out⟩
  | false =>
    rw [hh] at HAT
    obtain ⟨o, cap, hv, hcap, -⟩ := id hR
    by_cases h64 : d.length = 64
    · have hr : writeD d r = ([], 2) := by unfold writeD; rw [if_pos hd, if_pos hk, hh, if_pos h64]; rfl
      rw [hr]
      obtain ⟨J, hJ⟩ : ∃ J, atD d r.1 = J := ⟨_, rfl⟩
      rw [hJ] at HAT
      rw [h64] at hv
      subst hv
      clear hr hh hJ hd hk hR hle hl hB0 x0 x1 h64
      go_enter Tryz.func28, Tryz.ntmps28
      have x1 := HX1.out; have x0 := HX0.out
      go_wp2_with fail
      refine (HK.out _).mono ?_
      rintro e w1 ⟨rfl, hb1⟩
      have HB1 := hid (below_step hb1 HB0.out)
      have x0 := keepc hb1 HX0.out
      have x1 := keepc hb1 HX1.out
      clear hb1
      go_wp2_with fail
      refine (HA.out _ HB1.out).mono ?_
      rintro e w2 ⟨rfl, hb2⟩
      have HB2 := hid (below_step hb2 HB1.out)
      have x0 := keepc hb2 x0
      have x1 := keepc hb2 x1
      clear hb2
      go_wp2_with fail
      refine (HAT.out _ HB2.out).mono ?_
      rintro e w3 ⟨rfl, hb3⟩
      have HB3 := hid (below_step hb3 HB2.out)
      have x0 := keepc hb3 x0
      have x1 := keepc hb3 x1
      clear hb3
      go_wp2_with fail
      go_ret2
      exact ⟨_, rfl, oR_nil _ _, HB3.out⟩
    · have hr : writeD d r = (insD d r, 0) := by unfold writeD; rw [if_pos hd, if_pos hk, hh, if_neg h64]; rfl
      rw [hr]
      have HCL := hid (fun w' (hb : Below w.heap.size w w') => cloneR_any d v w' (hR.below hb) (by omega))
      have hins : insD d r = d.take (atD d r.1) ++ r :: d.drop (atD d r.1) := rfl
      have HLATE := hid (fun (w5 : World) (B : Nat) (u : Value) (h0 : Below w.heap.size w w5) (hA : w.heap.size ≤ B) (hO : OR w5 B u d) (hB : B ≤ w5.heap.size) => ins_late (r := r) h0 hA hO hle hl hB)
      have HEARLY := hid (fun (w4 w5 : World) (u : Value) (h0 : Below w.heap.size w w4) (hb : Below (w4.alloc (.cells #[strV r.1, strV r.2] 59)).heap.size (w4.alloc (.cells #[strV r.1, strV r.2] 59)) w5) (hO : OR w5 (w4.alloc (.cells #[strV r.1, strV r.2] 59)).heap.size u d) => ins_early (r := r) h0 h0.size hb hO hle hl)
      rw [← hins] at HLATE HEARLY
      obtain ⟨I, hI⟩ : ∃ I, insD d r = I := ⟨_, rfl⟩
      obtain ⟨J, hJ⟩ : ∃ J, atD d r.1 = J := ⟨_, rfl⟩
      obtain ⟨N, hN⟩ : ∃ N, d.length = N := ⟨_, rfl⟩
      rw [hJ] at HAT HLATE HEARLY
      rw [hI] at HLATE HEARLY ⊢
      rw [hN] at hv h64 hl
      subst hv
      have g1 : ((N : Int) == 64) = false := by rw [beq_eq_false_iff_ne]; omega
      clear hr hh hJ hd hk hR hle hl hB0 x0 x1 h64 hins hI hN
      go_enter Tryz.func28, Tryz.ntmps28
      have x1 := HX1.out; have x0 := HX0.out
      go_wp2_with fail
      refine (HK.out _).mono ?_
      rintro e w1 ⟨rfl, hb1⟩
      have HB1 := hid (below_step hb1 HB0.out)
      have x0 := keepc hb1 HX0.out
      have x1 := keepc hb1 HX1.out
      clear hb1
      go_wp2_with fail
      refine (HA.out _ HB1.out).mono ?_
      rintro e w2 ⟨rfl, hb2⟩
      have HB2 := hid (below_step hb2 HB1.out)
      have x0 := keepc hb2 x0
      have x1 := keepc hb2 x1
      clear hb2
      go_wp2_with fail
      refine (HAT.out _ HB2.out).mono ?_
      rintro e w3 ⟨rfl, hb3⟩
      have HB3 := hid (below_step hb3 HB2.out)
      have x0 := keepc hb3 x0
      have x1 := keepc hb3 x1
      clear hb3
      go_wp2_with fail
      have HD := hid HB3.out.drew
      have hzz := HB3.out.size
      have HEARLY2 : Hid (∀ (w5 : World) (u : Value), Below ((w3.alloc (.cells #[strV r.1, strV r.2] 59)).drew).heap.size ((w3.alloc (.cells #[strV r.1, strV r.2] 59)).drew) w5 → OR w5 ((w3.alloc (.cells #[strV r.1, strV r.2] 59)).drew).heap.size u d → Calls Tryz.prog 67 #[u, .int .i64 (J : Int), .slice (some ⟨w3.heap.size, 0, none⟩) 1 1] w5 (RetV w.heap.size w I)) := fun w5 u hb hO => HEARLY.out w3.drew w5 u HB3.out.drew hb hO
      go_region_with (first
        | (go_at_call 68; refine (HCL.out _ (by first | exact HD.out | exact (HB3.out.alloc hzz _).drew)).mono ?_; rintro e w5 ⟨u5, rfl, ho5, hb5⟩; have x0 : w5.cell? ⟨w.heap.size, 0, none⟩ = some (strV r.1) := (by first | exact keepc hb5 x0 | exact keepc hb5 (Lib.cell?_alloc_some _ x0)); have x1 : w5.cell? ⟨w.heap.size, 1, none⟩ = some (strV r.2) := (by first | exact keepc hb5 x1 | exact keepc hb5 (Lib.cell?_alloc_some _ x1)); have HO5 := hid ho5; have HB5 := hid hb5; clear ho5 hb5)
        | (go_at_call 67; refine (by first | exact HLATE.out _ _ _ (HD.out.trans (HB5.out.mono hzz)) hzz HO5.out HB5.out.size | exact HEARLY2.out _ _ HB5.out HO5.out : Calls Tryz.prog _ _ _ (RetV w.heap.size w I)).mono ?_; rintro e w6 ⟨u6, rfl, ho6, hb6⟩; have HO6 := hid ho6; have HB6 := hid hb6; clear ho6 hb6))
      all_goals
        go_wp2_with fail
        go_ret2
        exact ⟨_, rfl, HO6.out, HB6.out⟩
end Go.Proofs.YtifcgimpgbeocaaGreat
