/- The walk of the law AreaFirstFit. -/
import Derived.Test.YtcfmimfkaabmkaaW6
import Derived.Test.YtcfmimfkaabmkaaR4
set_option linter.unusedVariables false
set_option linter.unusedSimpArgs false
namespace Go.Proofs.Ytcfmimfkaabmkaa
open Go.RowKit
attribute [local go_sem] Oper.semAt_some
attribute [local irreducible] num
set_option maxHeartbeats 4000000 in
set_option maxRecDepth 100000 in
theorem firstfit_no (l : List UInt8) (n : Int) (w : World) (hl : l.length ≤ maxLen) (h : openS l = false ∨ n < 1 ∨ 8192 < n) : Calls Try.prog 15 #[.string ⟨l.toArray⟩, .int .i64 n] w (SanePost w) := by
  obtain ⟨c, hc⟩ : ∃ c, chkS l = c := ⟨_, rfl⟩
  have h1 : ∀ w, Calls Try.prog 24 #[.string ⟨l.toArray⟩] w (fun e w' => e = .returned (.int .i64 c) ∧ Below w.heap.size w w') := fun w => by rw [← hc]; exact rcheck_any l w hl
  have h2 : ∀ w, Calls Try.prog 25 #[.string ⟨l.toArray⟩] w (fun e w' => e = .returned (.int .i64 c) ∧ Below w.heap.size w w') := fun w => by rw [← hc]; exact check_l l w hl
  have H1 := hid h1; have H2 := hid h2
  have hcc : c ≠ 0 ∨ n < 1 ∨ 8192 < n := h.imp_left fun h => by rw [← hc]; unfold chkS; rw [h]; decide
  clear h1 h2 hc h
  go_enter Try.func15, Try.ntmps15
  go_wp2_with fail
  refine (sane_any _).mono ?_
  rintro e w1 ⟨rfl, hb1⟩
  have HB1 := hid hb1; clear hb1
  go_wp2_with fail
  refine (H1.out _).mono ?_
  rintro e w2 ⟨rfl, hb2⟩
  have HB2 := hid hb2; clear hb2
  by_cases hc : c = 0
  · subst hc
    have hn : n < 1 ∨ 8192 < n := by omega
    clear hcc
    by_cases hn1 : n < 1
    · go_wp2_with fail
      refine (H2.out _).mono ?_
      rintro e w3 ⟨rfl, hb3⟩
      have HB3 := hid hb3; clear hb3
      go_wp2_with fail
      refine (H1.out _).mono ?_
      rintro e w4 ⟨rfl, hb4⟩
      have HB4 := hid hb4; clear hb4
      go_wp2_with fail
      go_ret
      exact ⟨rfl, below_step HB4.out (below_step HB3.out (below_step HB2.out HB1.out))⟩
    · have hn2 : 8192 < n := by omega
      clear hn
      go_wp2_with fail
      refine (H2.out _).mono ?_
      rintro e w3 ⟨rfl, hb3⟩
      have HB3 := hid hb3; clear hb3
      go_wp2_with fail
      refine (H1.out _).mono ?_
      rintro e w4 ⟨rfl, hb4⟩
      have HB4 := hid hb4; clear hb4
      go_wp2_with fail
      go_ret
      exact ⟨rfl, below_step HB4.out (below_step HB3.out (below_step HB2.out HB1.out))⟩
  · have g1 : (c == 0) = false := by rw [beq_eq_false_iff_ne]; exact hc
    clear hcc
    go_wp2_with fail
    refine (H2.out _).mono ?_
    rintro e w3 ⟨rfl, hb3⟩
    have HB3 := hid hb3; clear hb3
    go_wp2_with fail
    refine (H1.out _).mono ?_
    rintro e w4 ⟨rfl, hb4⟩
    have HB4 := hid hb4; clear hb4
    go_wp2_with fail
    go_ret
    exact ⟨rfl, below_step HB4.out (below_step HB3.out (below_step HB2.out HB1.out))⟩
theorem offs_mod8 : ∀ (lay : Lay) (b : Bool) (e : Nat), ok b e lay → ∀ x ∈ lay, x.1 % 8 = 0
  | [], _, _, _, x, hx => by cases hx
  | (q, t) :: r, b, e, ⟨o1, o2, o3, o4, o5⟩, x, hx => by
    rcases List.mem_cons.1 hx with rfl | hx
    · exact o1
    · exact offs_mod8 r _ _ o5 x hx
/-- What Build answers where the allocations do not lie beside each other. -/
theorem build_not {n : Nat} (h0 : 16 ≤ n) (h1 : n ≤ 8192) {L : Lay} (h : ¬ (ok true 8 L ∧ endOf 8 L ≤ n)) : (buildS n (psOf (itsOf L)) (bsOf (itsOf L))).2 ≠ 0 := by
  rw [buildS_its n h0 h1, layOf_itsOf]
  split
  · simp
  · split
    · rename_i hk
      rw [if_neg (fun he => h ⟨hk.1, he⟩)]
      simp
    · simp
theorem insW_mem {x : Nat × List UInt8} : ∀ {lay : Lay} {y : Nat × List UInt8}, y ∈ insW x lay → y = x ∨ y ∈ lay
  | [], y, h => by simp [insW] at h; exact .inl h
  | z :: r, y, h => by
    simp only [insW] at h
    split at h
    · rcases List.mem_cons.1 h with rfl | h
      · exact .inr (List.mem_cons_self ..)
      · exact (insW_mem h).imp id (List.mem_cons_of_mem _)
    · rcases List.mem_cons.1 h with rfl | h
      · exact .inl rfl
      · exact .inr h
theorem insW_length (x : Nat × List UInt8) : ∀ lay : Lay, (insW x lay).length = lay.length + 1
  | [] => rfl
  | z :: r => by
    simp only [insW]
    split
    · rw [List.length_cons, insW_length x r]; rfl
    · rfl
/-- with, and Build behind it. -/
theorem with_build {l : List UInt8} {lay : Lay} (hA : Area l lay) (N : Nat) (hN : N ≤ 8192) (x : Nat) (v1 v2 : Value) (w : World) (h1 : RP w v1 (psOf (itsOf (insW (x, zs N) lay)))) (h2 : RS w v2 (bsOf (itsOf (insW (x, zs N) lay)))) :
    Calls Try.prog 37 #[.int .i64 (l.length : Int), v1, v2] w (StrPost (buildS l.length (psOf (itsOf (insW (x, zs N) lay))) (bsOf (itsOf (insW (x, zs N) lay)))) w) := by
  have hn := (area_num4 hA).2
  refine abuild_any (l.length : Int) v1 v2 _ _ w h1 h2 (by rw [psOf_its, List.length_map, insW_length]; omega) (by rw [bsOf_its, List.length_map, insW_length]; omega) (fun t ht => ?_)
  rw [bsOf_its, List.mem_map] at ht
  obtain ⟨y, hy, rfl⟩ := ht
  rcases insW_mem hy with rfl | hy
  · simp only [zs_length]; omega
  · exact bs_small hA _ (by rw [bsOf_its]; exact List.mem_map.2 ⟨y, hy, rfl⟩)
set_option maxHeartbeats 8000000 in
set_option maxRecDepth 100000 in
theorem firstfit_yes (l : List UInt8) (N : Nat) (w : World) (hl : l.length ≤ maxLen) (h : openS l = true) (hN1 : 1 ≤ N) (hN2 : N ≤ 8192) : Calls Try.prog 15 #[.string ⟨l.toArray⟩, .int .i64 (N : Int)] w (SanePost w) := by
  obtain ⟨lay, hA⟩ := (openS_iff l).1 h
  have hD : layD l = lay := layD_area hA
  have HA := hid hA
  have hl1 := hA.1
  have hl2 := hA.2.1
  have hlay := (area_num4 hA).2
  have g24 : ∀ w, Calls Try.prog 24 #[.string ⟨l.toArray⟩] w (fun e w' => e = .returned (.int .i64 0) ∧ Below w.heap.size w w') := (areaC hA).chk
  have g26 : ∀ w, Calls Try.prog 26 #[.string ⟨l.toArray⟩] w (fun e w' => ∃ v, e = .returned (.tuple #[v, .int .i64 0]) ∧ OP w' w.heap.size v (psOf (itsOf lay)) ∧ Below w.heap.size w w') := fun w => by
    have := blocks_any l w hl
    unfold PiecesPost blocksS at this
    rw [if_pos h, hD] at this
    exact this
  have g54 := fun (v : Value) (w : World) (hR : RP w v (psOf (itsOf lay))) => texts_any l lay v w hA hR
  have g20 := fun w => alloc_any l N lay w hA
  have gw := fun (B1 B2 : Nat) (v1 v2 : Value) (x : Nat) (w : World) hP hS hx => with_any B1 B2 v1 v2 lay x N w hP hS hlay hx hN2
  have gb := fun (x : Nat) (v1 v2 : Value) (w : World) h1 h2 => with_build hA N hN2 x v1 v2 w h1 h2
  have hleast := fun (x : Nat) (hx : x < (allocL N 8 lay).2 ∨ l.length < endOf 8 (allocL N 8 lay).1) => build_not hl1 hl2 (insW_least N hN1 x l.length lay true 8 rfl hA.2.2.1 hx)
  have hal : allocA l.length lay N = if endOf 8 (allocL N 8 lay).1 ≤ l.length then (render l.length (allocL N 8 lay).1, ((allocL N 8 lay).2 : Int), 0) else ([], 0, 121) := by
    unfold allocA; rw [if_neg (by omega), Int.toNat_natCast]
  have H24 := hid g24; have H26 := hid g26; have H54 := hid g54; have HW := hid gw; have HBd := hid gb; have HL := hid hleast
  clear g24 g26 g54 gw gb hleast hD
  unfold maxLen at hl
  by_cases hfit : endOf 8 (allocL N 8 lay).1 ≤ l.length
  · rw [if_pos hfit] at hal
    have k3 := ends_le (allocL N 8 lay).1 true 8 (allocL_ok hN1 hA.2.2.1) _ (alloc_rm N lay true 8 hA.2.2.1).2
    have k8 := offs_mod8 (allocL N 8 lay).1 true 8 (allocL_ok hN1 hA.2.2.1) _ (alloc_rm N lay true 8 hA.2.2.1).2
    have hbd : buildS l.length (psOf (itsOf (insW ((allocL N 8 lay).2, zs N) lay))) (bsOf (itsOf (insW ((allocL N 8 lay).2, zs N) lay))) = (render l.length (allocL N 8 lay).1, 0) := by
      rw [insW_alloc N lay true 8 hA.2.2.1, buildS_lay l.length hl1 hl2 _ (allocL_ok hN1 hA.2.2.1) (by omega), if_pos hfit]
    simp only [zs_length] at k3 k8
    obtain ⟨at0, hat⟩ : ∃ a, (allocL N 8 lay).2 = a := ⟨_, rfl⟩
    obtain ⟨b1, hb1⟩ : ∃ b, render l.length (allocL N 8 lay).1 = b := ⟨_, rfl⟩
    rw [hat, hb1] at hal hbd
    rw [hat] at k3 k8 HL
    rw [hal] at g20
    have H20 : Hid (∀ w, Calls Try.prog 20 #[.string ⟨l.toArray⟩, .int .i64 (N : Int)] w (fun e w' => e = .returned (.tuple #[.string ⟨b1.toArray⟩, .int .i64 (at0 : Int), .int .i64 0]) ∧ Below w.heap.size w w')) := g20
    have HBD := hid hbd
    have HLL : Hid (∀ x : Nat, x < at0 → (buildS l.length (psOf (itsOf (insW (x, zs N) lay))) (bsOf (itsOf (insW (x, zs N) lay)))).2 ≠ 0) := fun x hx => HL.out x (.inl hx)
    have kat : at0 ≤ l.length := by omega
    clear hal hbd g20 hat hb1 hfit h hA k3 HL
    have i1 : decide ((at0 : Int) < 0) = false := by simp
    have i2 : decide ((l.length : Int) < (at0 : Int)) = false := by simp; omega
    have i3 : (!b1 == b1) = false := by simp
    have i4 : (at0 : Int).tmod 8 = 0 := by rw [Int.tmod_eq_emod_of_nonneg (by omega)]; omega
    go_enter Try.func15, Try.ntmps15
    go_wp2_with fail
    refine (sane_any _).mono ?_
    rintro e w1 ⟨rfl, hb1⟩
    have HB1 := hid hb1; clear hb1
    go_wp2_with fail
    refine (H24.out _).mono ?_
    rintro e w2 ⟨rfl, hb2⟩
    have HB2 := hid (below_step hb2 HB1.out); clear hb2
    go_wp2_with fail
    refine (H20.out _).mono ?_
    rintro e w3 ⟨rfl, hb3⟩
    have HB3 := hid (below_step hb3 HB2.out); clear hb3
    go_wp2_with fail
    refine (H26.out _).mono ?_
    rintro e w4 ⟨v4, rfl, hop, hb4⟩
    have HOP := hid hop
    have HB4 := hid (below_step hb4 HB3.out); clear hb4 hop
    go_wp2_with fail
    refine (H54.out v4 _ HOP.out.rp).mono ?_
    rintro e w5 ⟨v5, rfl, hos, hb5⟩
    have HOS := hid hos
    have HOP := hid (HOP.out.below hb5)
    have HB5 := hid (below_step hb5 HB4.out); clear hb5 hos
    go_wp2_with fail
    refine (HW.out _ _ v4 v5 at0 _ HOP.out HOS.out (by omega)).mono ?_
    rintro e w6 ⟨v6, v7, rfl, hp6, hs6, hb6⟩
    have HP6 := hid hp6.rp; have HS6 := hid hs6.rs
    have HOP := hid (HOP.out.below hb6); have HOS := hid (HOS.out.below hb6)
    have HB6 := hid (below_step hb6 HB5.out); clear hb6 hp6 hs6
    go_wp2_with fail
    refine (HBd.out at0 v6 v7 _ HP6.out HS6.out).mono ?_
    rintro e w7 ⟨rfl, hb7⟩
    rw [HBD.out]
    have HOP := hid (HOP.out.below hb7); have HOS := hid (HOS.out.below hb7)
    have HBS := hid (below_step hb7 HB6.out); clear hb7
    unfold strV
    go_wp2_with fail
    go_loopw [17] (fun o wr => ∃ k : Nat, o = .int .i64 ((8 * k : Nat) : Int) ∧ 8 * k ≤ at0 + 8 ∧ Hid (Below w7.heap.size w7 wr)) (fun o _ => at0 + 8 - (intOf o).toNat)
    case atStart => exact ⟨0, rfl, by omega, Below.refl _ _⟩
    case round =>
      obtain ⟨k, rfl, hk, HB⟩ := hrel
      obtain ⟨x, hx⟩ : ∃ x, 8 * k = x := ⟨_, rfl⟩
      have HX := hid hx
      rw [hx] at hk ⊢
      clear hx
      by_cases hlt : x < at0
      · have j1 : decide ((x : Int) < (at0 : Int)) = true := by simp; omega
        have hne := HLL.out x hlt
        have hbd := fun v1 v2 w h1 h2 => HBd.out x v1 v2 w h1 h2
        obtain ⟨⟨r1, r2⟩, hr⟩ : ∃ r, buildS l.length (psOf (itsOf (insW (x, zs N) lay))) (bsOf (itsOf (insW (x, zs N) lay))) = r := ⟨_, rfl⟩
        rw [hr] at hne hbd
        have HBX : Hid (∀ v1 v2 w, RP w v1 (psOf (itsOf (insW (x, zs N) lay))) → RS w v2 (bsOf (itsOf (insW (x, zs N) lay))) → Calls Try.prog 37 #[.int .i64 (l.length : Int), v1, v2] w (fun e w' => e = .returned (.tuple #[.string ⟨r1.toArray⟩, .int .i64 r2]) ∧ Below w.heap.size w w')) := hbd
        have j2 : (r2 == 0) = false := by rw [beq_eq_false_iff_ne]; exact hne
        clear hne hbd hr
        go_wp2_with fail
        refine (HW.out _ _ v4 v5 x _ (HOP.out.below HB.out) (HOS.out.below HB.out) (by omega)).mono ?_
        rintro e w8 ⟨v6, v7, rfl, hp8, hs8, hb8⟩
        have HP8 := hid hp8.rp; have HS8 := hid hs8.rs
        have HB8 := hid (below_step hb8 HB.out); clear hb8 hp8 hs8
        go_wp2_with fail
        refine (HBX.out v6 v7 _ HP8.out HS8.out).mono ?_
        rintro e w9 ⟨rfl, hb9⟩
        have HB9 := hid (below_step hb9 HB8.out); clear hb9
        go_wp2_with fail
        go_roundw
        case rel => exact ⟨k + 1, by have := HX.out; congr 1; omega, by have := HX.out; omega, HB9.out⟩
        case measure => simp [intOf]; omega
      · have j1 : decide ((x : Int) < (at0 : Int)) = false := by simp; omega
        go_wp2_with fail
        go_ret
        exact ⟨rfl, below_step HB.out HBS.out⟩
  · rw [if_neg hfit] at hal
    rw [hal] at g20
    have H20 : Hid (∀ w, Calls Try.prog 20 #[.string ⟨l.toArray⟩, .int .i64 (N : Int)] w (fun e w' => e = .returned (.tuple #[.string ⟨#[]⟩, .int .i64 0, .int .i64 121]) ∧ Below w.heap.size w w')) := g20
    have HLL : Hid (∀ x : Nat, x < l.length → (buildS l.length (psOf (itsOf (insW (x, zs N) lay))) (bsOf (itsOf (insW (x, zs N) lay)))).2 ≠ 0) := fun x hx => HL.out x (.inr (by omega))
    clear hal g20 hfit h hA HL
    go_enter Try.func15, Try.ntmps15
    go_wp2_with fail
    refine (sane_any _).mono ?_
    rintro e w1 ⟨rfl, hb1⟩
    have HB1 := hid hb1; clear hb1
    go_wp2_with fail
    refine (H24.out _).mono ?_
    rintro e w2 ⟨rfl, hb2⟩
    have HB2 := hid (below_step hb2 HB1.out); clear hb2
    go_wp2_with fail
    refine (H20.out _).mono ?_
    rintro e w3 ⟨rfl, hb3⟩
    have HB3 := hid (below_step hb3 HB2.out); clear hb3
    go_wp2_with fail
    refine (H26.out _).mono ?_
    rintro e w4 ⟨v4, rfl, hop, hb4⟩
    have HOP := hid hop
    have HB4 := hid (below_step hb4 HB3.out); clear hb4 hop
    go_wp2_with fail
    refine (H54.out v4 _ HOP.out.rp).mono ?_
    rintro e w5 ⟨v5, rfl, hos, hb5⟩
    have HOS := hid hos
    have HOP := hid (HOP.out.below hb5)
    have HB5 := hid (below_step hb5 HB4.out); clear hb5 hos
    go_wp2_with fail
    have HBS := HB5
    go_loopw [17] (fun o wr => ∃ k : Nat, o = .int .i64 ((8 * k : Nat) : Int) ∧ 8 * k ≤ l.length + 8 ∧ Hid (Below w5.heap.size w5 wr)) (fun o _ => l.length + 8 - (intOf o).toNat)
    case atStart => exact ⟨0, rfl, by omega, Below.refl _ _⟩
    case round =>
      obtain ⟨k, rfl, hk, HB⟩ := hrel
      obtain ⟨x, hx⟩ : ∃ x, 8 * k = x := ⟨_, rfl⟩
      have HX := hid hx
      rw [hx] at hk ⊢
      clear hx
      by_cases hlt : x < l.length
      · have j1 : decide ((x : Int) < (l.length : Int)) = true := by simp; omega
        have hne := HLL.out x hlt
        have hbd := fun v1 v2 w h1 h2 => HBd.out x v1 v2 w h1 h2
        obtain ⟨⟨r1, r2⟩, hr⟩ : ∃ r, buildS l.length (psOf (itsOf (insW (x, zs N) lay))) (bsOf (itsOf (insW (x, zs N) lay))) = r := ⟨_, rfl⟩
        rw [hr] at hne hbd
        have HBX : Hid (∀ v1 v2 w, RP w v1 (psOf (itsOf (insW (x, zs N) lay))) → RS w v2 (bsOf (itsOf (insW (x, zs N) lay))) → Calls Try.prog 37 #[.int .i64 (l.length : Int), v1, v2] w (fun e w' => e = .returned (.tuple #[.string ⟨r1.toArray⟩, .int .i64 r2]) ∧ Below w.heap.size w w')) := hbd
        have j2 : (r2 == 0) = false := by rw [beq_eq_false_iff_ne]; exact hne
        clear hne hbd hr
        go_wp2_with fail
        refine (HW.out _ _ v4 v5 x _ (HOP.out.below HB.out) (HOS.out.below HB.out) (by omega)).mono ?_
        rintro e w8 ⟨v6, v7, rfl, hp8, hs8, hb8⟩
        have HP8 := hid hp8.rp; have HS8 := hid hs8.rs
        have HB8 := hid (below_step hb8 HB.out); clear hb8 hp8 hs8
        go_wp2_with fail
        refine (HBX.out v6 v7 _ HP8.out HS8.out).mono ?_
        rintro e w9 ⟨rfl, hb9⟩
        have HB9 := hid (below_step hb9 HB8.out); clear hb9
        go_wp2_with fail
        go_roundw
        case rel => exact ⟨k + 1, by have := HX.out; congr 1; omega, by have := HX.out; omega, HB9.out⟩
        case measure => simp [intOf]; omega
      · have j1 : decide ((x : Int) < (l.length : Int)) = false := by simp; omega
        go_wp2_with fail
        go_ret
        exact ⟨rfl, below_step HB.out HBS.out⟩
theorem firstfit_law (l : List UInt8) (n : Int) (w : World) (hl : l.length ≤ maxLen) : Calls Try.prog 15 #[.string ⟨l.toArray⟩, .int .i64 n] w (SanePost w) := by
  rcases h : openS l with _ | _
  · exact firstfit_no l n w hl (.inl h)
  · by_cases h1 : n < 1
    · exact firstfit_no l n w hl (.inr (.inl h1))
    · by_cases h2 : 8192 < n
      · exact firstfit_no l n w hl (.inr (.inr h2))
      · have := firstfit_yes l n.toNat w hl h (by omega) (by omega)
        rw [Int.toNat_of_nonneg (by omega)] at this
        exact this
end Go.Proofs.Ytcfmimfkaabmkaa
