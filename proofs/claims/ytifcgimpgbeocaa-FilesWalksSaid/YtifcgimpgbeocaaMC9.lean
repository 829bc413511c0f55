/- The law FilesWalks, walked. -/
import Derived.Test.YtifcgimpgbeocaaK27
import Derived.Test.YtifcgimpgbeocaaMA45
import Derived.Test.YtifcgimpgbeocaaK28
import Derived.Test.YtifcgimpgbeocaaK26
import Derived.Test.YtifcgimpgbeocaaMB18
import Derived.Maps.AppendAt
import Derived.Test.YtifcgimpgbeocaaMP21
set_option linter.unusedVariables false
set_option linter.unusedSimpArgs false
namespace Go.Proofs.Ytifcgimpgbeocaa
open Go.RowKit
attribute [local go_sem] Oper.semAt_some
theorem run_cuthG (o : Option Addr) (len cap : Nat) (w : World) (kh : IntKind) (h : Int) (h0 : 0 ≤ h) (h1 : h ≤ cap) :
    (Instr.slice 69 (.slice o len cap) none (some (.int kh h)) none).run Try.prog w = .ok (.slice o h.toNat cap) w := by
  rw [run_slice_h (t := 69) (ht := sliceR) (kh := kh) (h := h) (h0 := h0) (h2 := h1), elemR, sizeOfR]
  simp only [Result.andThen, sliced, Nat.zero_mul, Nat.sub_zero]
  cases o with
  | none => split <;> simp
  | some x =>
    have e : x.add 0 = x := by cases x; simp [Addr.add]
    split <;> simp [e]
theorem RdR.take {w : World} {o : Option Addr} {n c : Nat} {l : Ds} (h : RdR w (.slice o n c) l) (m : Nat) (hm : m ≤ l.length) : RdR w (.slice o m c) (l.take m) := by
  obtain ⟨o', c', e, hc, h⟩ := h
  cases e
  refine ⟨o, c, by rw [List.length_take, Nat.min_eq_left hm], by rw [List.length_take]; omega, ?_⟩
  rcases h with h | ⟨b, off, e1, e2, h⟩
  · exact .inl (by rw [h]; simp)
  · refine .inr ⟨b, off, e1, e2, fun i r hi => h i r ?_⟩
    rw [List.getElem?_take] at hi
    split at hi
    · exact hi
    · cases hi
theorem RdR.drop {w : World} {g n c : Nat} {l : Ds} (h : RdR w (.slice (some ⟨g, 0, none⟩) n c) l) (m : Nat) (hm : m ≤ l.length) : RdR w (.slice (some (cutR g m c)) (n - m) (c - m)) (l.drop m) := by
  obtain ⟨o', c', e, hc, h⟩ := h
  cases e
  refine ⟨_, _, by rw [List.length_drop], by rw [List.length_drop]; omega, ?_⟩
  rcases h with h | ⟨b, off, e1, e2, h⟩
  · exact .inl (by rw [h]; simp)
  · cases e1
    rcases Nat.lt_or_ge m l.length with hlt | hge
    · refine .inr ⟨g, m * 2, by rw [cutR_lt (by omega)], e2, fun i r hi => ?_⟩
      rw [List.getElem?_drop] at hi
      obtain ⟨h1, h2⟩ := h (m + i) r hi
      have e : 0 + (m + i) * 2 = m * 2 + i * 2 := by omega
      rw [e] at h1 h2
      exact ⟨h1, h2⟩
    · exact .inl (List.drop_of_length_le hge)
theorem OR.some {w : World} {B : Nat} {v : Value} {l : Ds} {r : Rec} (h : OR w B v (l ++ [r])) : ∃ g c, v = .slice (some ⟨g, 0, none⟩) (l.length + 1) c := by
  obtain ⟨g, cap, e, -⟩ := h.cells (by simp)
  exact ⟨g, cap, by rw [e]; simp⟩
/-- append that also says where the new row lies. -/
theorem appRat {ops : Array Oper} {rest : List Oper} {o : Oper} {a : Act} {Q : Exit → Act → World → Prop} {w : World} (hgd : o.guard = none) (s x : Operand)
    (ho : o.op = .call { callee := .builtin .append, args := #[s, x], argTypes := #[69, 69] }) (B : Nat) (v : Value) (l : Ds) (y : Rec) (g c : Nat)
    (hs : a.eval s = v) (hx : a.eval x = .slice (some ⟨g, 0, none⟩) 1 c) (hP : OR w B v l) (hc : ∀ j u, (encR [y])[j]? = some u → w.cell? ⟨g, j, none⟩ = some u) (hn : l.length ≤ 1000000) (hb : B ≤ w.heap.size)
    (h : ∀ v' w', OR w' B v' (l ++ [y]) → w.grownBy w' v.ownBlock → (v'.ownBlock = v.ownBlock ∨ v'.ownBlock = some w.heap.size) → wpList Try.prog ops Q rest (a.put o.dst v') w') : wpList Try.prog ops Q (o :: rest) a w := by
  obtain ⟨i0, hi, hz0, hz1, hz2⟩ := info_parts infoR
  refine wpList_append_own_at _ hgd s x 69 ho B 59 i0 (.agg #[.string ⟨#[]⟩, .string ⟨#[]⟩]) 2 32 underR hi hz0 hz1 hz2 rfl (by decide) v l.length (encR l) hs hP ⟨g, 0, none⟩ 1 c (encR [y]) hx rfl ?_ ?_ (by unfold maxLen; omega) (by omega) hb ?_
  · intro j u hj
    rw [addr_add, Nat.zero_add]
    exact hc j u hj
  · intro u hu
    obtain ⟨z, hz, hu⟩ := List.mem_flatMap.1 hu
    simp only [List.mem_cons, List.not_mem_nil, or_false] at hu
    rcases hu with rfl | rfl <;> rfl
  · intro v' w' hown hg _ hat
    refine h v' w' ?_ hg hat
    unfold OR
    rw [encR_append, List.length_append]
    exact hown
/-- v reads as records that lie outside the block g. -/
def RdN (w : World) (v : Value) (d : Ds) (g : Nat) : Prop := RdR w v d ∧ (d = [] ∨ ∃ b off n c, v = .slice (some ⟨b, off, none⟩) n c ∧ b ≠ g ∧ b < w.heap.size)
theorem RdN.below {w w' : World} {v : Value} {d : Ds} {g : Nat} (h : RdN w v d g) (hb : Below w.heap.size w w') : RdN w' v d g := by
  obtain ⟨h1, h2⟩ := h
  refine ⟨h1.below hb, ?_⟩
  rcases h2 with h2 | ⟨b, off, n, c, e, h3, h4⟩
  · exact .inl h2
  · exact .inr ⟨b, off, n, c, e, h3, Nat.lt_of_lt_of_le h4 hb.size⟩
theorem RdN.of_old {w w' : World} {v : Value} {d : Ds} {g : Nat} (h : RdR w v d) (hb : Below w.heap.size w w') (hg : w.heap.size ≤ g) : RdN w' v d g := by
  refine ⟨h.below hb, ?_⟩
  obtain ⟨o, c, rfl, -, h | ⟨b, off, rfl, hlt, -⟩⟩ := h
  · exact .inl h
  · exact .inr ⟨b, off, _, c, rfl, by omega, Nat.lt_of_lt_of_le hlt hb.size⟩
theorem RdN.of_own {w : World} {B g : Nat} {v : Value} {d : Ds} (h : OR w B v d) (hg : g < B) : RdN w v d g := by
  refine ⟨h.rd, ?_⟩
  rcases Nat.eq_zero_or_pos d.length with h0 | h0
  · exact .inl (List.eq_nil_of_length_eq_zero h0)
  · obtain ⟨b, c, e, h1, h2, -⟩ := h.cells h0
    exact .inr ⟨b, 0, _, c, e, by omega, h2⟩
theorem RdN.grown {w w' : World} {v : Value} {d : Ds} {g g' : Nat} (h : RdN w v d g) (hg : w.grownBy w' (some g)) (hat : g' = g ∨ g' = w.heap.size) : RdN w' v d g' := by
  have hsz : w.heap.size ≤ w'.heap.size := hg.size
  obtain ⟨⟨o, c, rfl, hc, h1⟩, h2⟩ := h
  rcases h2 with rfl | ⟨b, off, n, c', e, h3, h4⟩
  · exact ⟨⟨o, c, rfl, hc, .inl rfl⟩, .inl rfl⟩
  · cases e
    refine ⟨⟨_, c, rfl, hc, ?_⟩, .inr ⟨b, off, _, c, rfl, by omega, by omega⟩⟩
    rcases h1 with h1 | ⟨b', off', e, h5, h6⟩
    · exact .inl h1
    · cases e
      exact .inr ⟨b, off, rfl, by omega, fun i r hi => ⟨grown_cell hg (fun e => h3 (Option.some.inj e).symm) (h6 i r hi).1, grown_cell hg (fun e => h3 (Option.some.inj e).symm) (h6 i r hi).2⟩⟩
set_option maxHeartbeats 8000000 in
set_option maxRecDepth 100000 in
theorem walks_law (D0 : Ds) (v : Value) (k tq : Bs) (r : Rec) (o : FOp) (a : Int) (w : World) (hR : RdR w v D0) : Calls Try.prog 10 #[.agg #[v, strV k, strV tq, strV r.1, strV r.2, .int .i64 o.1, .int .i64 o.2.1, strV o.2.2.1, strV o.2.2.2], .int .i64 a] w (Ret (.bool true) w) := by
  have HS := hid (fun w' => sane_any w')
  have HCA := hid (fun w' (hb : Below w.heap.size w w') => rcheck_any D0 v w' (hR.below hb))
  have HCB := hid (fun w' (hb : Below w.heap.size w w') => check_any D0 v w' (hR.below hb))
  have HRD := hid hR
  obtain ⟨oo, cap, rfl, hcap, -⟩ := hR
  obtain ⟨N, hN⟩ : ∃ N, D0.length = N := ⟨_, rfl⟩
  simp only [hN] at HCA HCB HRD hcap ⊢
  have HN := hid hN
  clear hN
  obtain ⟨r1, r2⟩ := r
  obtain ⟨o1, o2, o3, o4⟩ := o
  obtain ⟨W, hW⟩ : ∃ W, W = w.alloc (.cells #[.slice oo N cap, strV k, strV tq, strV r1, strV r2, .int .i64 o1, .int .i64 o2, strV o3, strV o4] 71) := ⟨_, rfl⟩
  have HBW : Hid (Below w.heap.size w W) := by rw [hW]; exact balloc (Below.refl _ _) _
  have KK : Hid (∀ j u, #[.slice oo N cap, strV k, strV tq, strV r1, strV r2, .int .i64 o1, .int .i64 o2, strV o3, strV o4][j]? = some u → W.cell? ⟨w.heap.size, j, none⟩ = some u) := fun j u hj => by rw [hW]; exact cell_new _ _ _ j _ hj
  have HW := hid hW
  clear hW
  cases hd : isDs D0 with
  | false =>
    rw [hd] at HCA HCB
    have HC1 : Hid (∀ w', Below w.heap.size w w' → Calls Try.prog 42 #[.slice oo N cap] w' (Ret (.int .i64 140) w')) := HCA.out
    have HC2 : Hid (∀ w', Below w.heap.size w w' → Calls Try.prog 43 #[.slice oo N cap] w' (Ret (.int .i64 140) w')) := HCB.out
    clear HCA HCB HRD hd
    go_enter Try.func10, Try.ntmps10
    go_upto_region 1 with fail
    have e := HW.out
    simp only [← e]
    clear e HW
    go_wp2_with fail
    refine (HS.out _).mono ?_
    rintro e w1 ⟨rfl, hb1⟩
    have c0 := keepc hb1 (KK.out 0 _ rfl)
    have HT1 : Hid (Below w.heap.size w w1) := below_step hb1 HBW.out
    clear hb1
    go_wp2_with fail
    refine (HC1.out _ HT1.out).mono ?_
    rintro e w2 ⟨rfl, hb⟩
    have c0 := keepc hb c0
    have HT2 : Hid (Below w.heap.size w w2) := below_step hb HT1.out
    clear hb
    go_wp2_with fail
    refine (HC2.out _ HT2.out).mono ?_
    rintro e w3 ⟨rfl, hb⟩
    have HT3 : Hid (Below w.heap.size w w3) := below_step hb HT2.out
    clear hb
    go_wp2_with fail
    go_ret
    exact ⟨rfl, HT3.out⟩
  | true =>
  rw [hd] at HCA
  have HC1 : Hid (∀ w', Below w.heap.size w w' → Calls Try.prog 42 #[.slice oo N cap] w' (Ret (.int .i64 0) w')) := HCA.out
  have HD0 := hid hd
  clear HCA HCB hd
  go_enter Try.func10, Try.ntmps10
  go_upto_region 1 with fail
  have e := HW.out
  simp only [← e]
  clear e HW
  obtain ⟨Z, hZ⟩ : ∃ Z, w.heap.size = Z := ⟨_, rfl⟩
  have HZ := hid hZ
  simp only [hZ] at KK ⊢
  clear hZ
  go_wp2_with fail
  refine (HS.out _).mono ?_
  rintro e w1 ⟨rfl, hb1⟩
  have HB1 : Hid (Below W.heap.size W w1) := hb1
  have c0 := keepc HB1.out (KK.out 0 _ rfl)
  clear hb1
  go_wp2_with fail
  refine (HC1.out _ (below_step HB1.out HBW.out)).mono ?_
  rintro e w2 ⟨rfl, hb⟩
  have HB2 : Hid (Below W.heap.size W w2) := below_step hb HB1.out
  have c0 := keepc hb c0
  have HO2 := hid (oR_new w2 W.heap.size HB2.out.size)
  have HB3 := hid (below_step (balloc (Below.refl w2.heap.size w2) (.cells #[] 59)) HB2.out)
  have HR3 := hid (RdN.of_old (g := w2.heap.size) HRD.out (below_step HB3.out HBW.out) (Nat.le_trans HBW.out.size HB2.out.size))
  clear hb
  go_wp2_with fail
  go_loopw [5, 6, 7, 8] (fun u5 u6 u7 u8 wr => ∃ (D S : Ds) (n g c : Nat) (o' : Option Addr) (c' : Nat), u8 = .int .i64 (n : Int) ∧ u6 = strV (lastK S) ∧ u5 = .slice o' D.length c' ∧ u7 = .slice (some ⟨g, 0, none⟩) n c ∧ Hid (S.length = n) ∧ Hid (RdN wr u5 D g) ∧ Hid (OR wr W.heap.size u7 S) ∧ Hid (isDs D = true) ∧ Hid (WH D0 D S a) ∧ Hid ((lastK S).length ≤ 16) ∧ Hid (Below W.heap.size W wr)) (fun _ _ _ i _ => 129 - (intOf i).toNat)
  case atStart => exact ⟨D0, [], 0, _, _, _, _, rfl, rfl, by rw [HN.out], rfl, rfl, HR3.out, HO2.out, HD0.out, wh_start HD0.out a, Nat.zero_le _, HB3.out⟩
  case round =>
    obtain ⟨D, S, n, g, c, o', c', rfl, rfl, rfl, rfl, HSL, HR, HO, HD, HWH, HKL, HB⟩ := hrel
    obtain ⟨K, hK⟩ : ∃ K, lastK S = K := ⟨_, rfl⟩
    have HK := hid hK
    simp only [hK] at HKL ⊢
    clear hK HO2 HB3 HR3
    have h128 : (n : Int) ≤ 128 := by have := wv_len HD0.out HD.out (wh_wv HWH.out); have := HSL.out; omega
    obtain ⟨ND, hND⟩ : ∃ ND, D.length = ND := ⟨_, rfl⟩
    simp only [hND] at HR ⊢
    have HND := hid hND
    clear hND
    go_upto_if 44 with (fail)
    go_cut [5] (fun u5 wx => ∃ (D' : Ds) (o' : Option Addr) (n' c' : Nat), u5 = .slice o' n' c' ∧ Hid (D'.length = n') ∧ Hid (RdN wx u5 D' g) ∧ Hid (OR wx W.heap.size (.slice (some ⟨g, 0, none⟩) n c) S) ∧ Hid (isDs D' = true) ∧ Hid (WV D0 D' S a) ∧ Hid (Below W.heap.size W wx))
    case first =>
      by_cases ha : a = (n : Int)
      rotate_left
      · have ga : ((n : Int) == a) = false := by simpa using fun e => ha e.symm
        go_wp2_with fail
        go_meet
        case rel => exact ⟨D, o', ND, c', rfl, HND, HR, HO, HD, wh_wv HWH.out, HB⟩
      have ga : ((n : Int) == a) = true := by simp [ha]
      rw [ga]
      have HWU := hid (wh_at HWH.out (by rw [HSL.out]; exact ha))
      have HA := hid ha
      have HAP := hid (fun w' (hb : Below wr.heap.size wr w') => apply_any D _ (o1, o2, o3, o4) w' (HR.out.1.below hb))
      have HAI := hid (fun he => apply_isDs HD.out (o := (o1, o2, o3, o4)) he)
      have c5 := keepc HB.out (KK.out 5 _ rfl); have c6 := keepc HB.out (KK.out 6 _ rfl); have c7 := keepc HB.out (KK.out 7 _ rfl); have c8 := keepc HB.out (KK.out 8 _ rfl)
      clear ha
      go_wp2_with fail
      refine (HAP.out _ (Below.refl _ _)).mono ?_
      rintro e w6 ⟨v6, rfl, ho6, hb6⟩
      obtain ⟨R6, hR6⟩ : ∃ R6, applyD D (o1, o2, o3, o4) = R6 := ⟨_, rfl⟩
      rw [hR6] at ho6 HAI
      simp only [hR6]
      obtain ⟨D6, r6, e6⟩ := R6
      simp only at ho6 HAI
      have HO6 := hid ho6
      obtain ⟨o6, c6', rfl, -, -⟩ := ho6.rd
      obtain ⟨w7, hw7⟩ : ∃ w7, w7 = w6.alloc (.cells #[strV r6.1, strV r6.2] 59) := ⟨_, rfl⟩
      have hba : Below w6.heap.size w6 w7 := by rw [hw7]; exact balloc (Below.refl _ _) _
      have hb7 := below_step hba (below_step hb6 (Below.refl wr.heap.size wr))
      have HB7 := hid (below_step hb7 HB.out)
      have hgw : g < wr.heap.size := (World.ownsRow.lt HO.out g rfl).2
      have HN7 := hid ((RdN.of_own HO6.out hgw).below hba)
      have HR7 := hid HN7.out.1
      have HO7 := hid (HO.out.below hb7)
      have HRO7 := hid (HR.out.below hb7)
      have HW7 := hid hw7
      clear hgw hw7 hba hb6 hb7 ho6 HO6 c5 c6 c7 c8 hR6
      go_upto_region 13 with fail
      have e := HW7.out
      rw [← e]
      clear e HW7
      by_cases he : e6 = 0
      rotate_left
      · have ge : (e6 == 0) = false := by simpa using he
        go_wp2_with fail
        go_meet
        case rel => exact ⟨D, o', ND, c', rfl, HND, HRO7, HO7, HD, wh_wv HWH.out, HB7⟩
      have ge : (e6 == 0) = true := by simpa using he
      have HD6 := hid (HAI.out he)
      obtain ⟨N6, hN6⟩ : ∃ N6, D6.length = N6 := ⟨_, rfl⟩
      simp only [hN6] at HR7 HN7 ⊢
      have HN6 := hid hN6
      have h64 : N6 ≤ 64 := by rw [← hN6]; exact isDs_len HD6.out
      clear HAI he hN6 HR HO HRO7 HB
      have HBS := hid (balloc (Below.refl w7.heap.size w7) (.cells #[] 59))
      have HOS := hid (oR_new w7 w7.heap.size (Nat.le_refl _))
      obtain ⟨_, _, eS, -, hcS⟩ := HO7.out.rd
      rw [HSL.out] at eS
      cases eS
      have HCS := hid hcS
      obtain ⟨_, _, e6', -, hc6⟩ := HR7.out
      rw [HN6.out] at e6'
      cases e6'
      have HC6 := hid hc6
      clear hcS hc6
      go_wp2_with fail
      have HLL := hid HSL.out
      have HCL := hid HCS.out
      go_loopw [12, 58] (fun u i wr => ∃ j : Nat, i = .int .i64 j ∧ j ≤ n ∧ Hid (OR wr w7.heap.size u (S.take j)) ∧ Hid (Below w7.heap.size w7 wr)) (fun _ i _ => n - (intOf i).toNat)
      case atStart => exact ⟨0, rfl, Nat.zero_le _, HOS.out, HBS.out⟩
      case round =>
        obtain ⟨j, rfl, hj, HOJ, HBJ⟩ := hrel
        by_cases hltj0 : j < n
        · clear hj
          obtain ⟨x, hx⟩ : ∃ x, S[j]? = some x := ⟨_, List.getElem?_eq_getElem (by have := HLL.out; omega)⟩
          have hHC := HCL.out
          rcases hHC with hq | ⟨b1, off, e1, hbq, hq⟩
          · rw [hq] at hx; simp at hx
          cases e1
          obtain ⟨c0, c1⟩ := hq j x hx
          try simp only [Nat.zero_add] at c0 c1
          have c0 := keepc HBJ.out c0; have c1 := keepc HBJ.out c1
          have HF : Hid (S.take (j + 1) = S.take j ++ [x]) := by obtain ⟨hk, rfl⟩ := List.getElem?_eq_some_iff.1 hx; exact List.take_succ_eq_append_getElem hk
          obtain ⟨wx, hwx⟩ : ∃ wx, wx = wr.alloc (.cells #[strV x.1, strV x.2] 59) := ⟨_, rfl⟩
          have hba : Below wr.heap.size wr wx := by rw [hwx]; exact balloc (Below.refl _ _) _
          have y0 : wx.cell? ⟨wr.heap.size, 0, none⟩ = some (strV x.1) := by rw [hwx]; exact cell_new _ _ _ 0 _ rfl
          have y1 : wx.cell? ⟨wr.heap.size, 1, none⟩ = some (strV x.2) := by rw [hwx]; exact cell_new _ _ _ 1 _ rfl
          have HOX := hid (HOJ.out.below hba)
          have HBX := hid (below_step hba HBJ.out)
          have HWX := hid hwx
          have hltj : (j : Int) < (n : Int) := by omega
          clear hwx hba hq hbq HOJ hx
          go_upto_region 18 with fail
          have e := HWX.out
          rw [← e]
          clear e HWX c0 c1
          have HF2 := HF
          have HLF : Hid ((S.take j).length ≤ 1000000) := by
            unfold Hid
            have := HLL.out
            have := HSL.out
            try rw [List.length_append]
            have := List.length_take_le j S
            omega
          have HY1 := hid (laid_one wx x)
          have hbb := balloc (Below.refl wx.heap.size wx) (.cells #[strV x.1, strV x.2] 59)
          have HO3 := hid (HOX.out.below hbb)
          have HB3 := hid (below_step hbb HBX.out)
          have HZ3 := hid HB3.out.size
          clear hbb
          go_wp2_with (at_builtin; refine appR rfl _ _ rfl w7.heap.size _ (S.take j) x _ _ rfl rfl HO3.out HY1.out HLF.out HZ3.out ?_)
          intro v7 w9 hop7 hg7
          have HB9 := hid (HO3.out.grown HB3.out hg7 HZ3.out)
          have HO9 : Hid (OR w9 w7.heap.size v7 (S.take (j + 1))) := by unfold Hid; rw [HF2.out]; first | exact hop7 | (rw [List.append_assoc]; exact hop7)
          clear hop7 hg7
          go_wp2_with fail
          go_roundw
          case rel => exact ⟨j + 1, by go_num, by omega, HO9, HB9⟩
          case measure => simp [intOf]; omega
        · have hj2 : j = n := by omega
          have hge : ¬ (j : Int) < (n : Int) := by omega
          have HOE : Hid (OR wr w7.heap.size u12 (S ++ (D6.take 0).filter (fun r => ltB K r.1))) := by
            have h := HOJ.out
            rw [hj2, List.take_of_length_le (by have := HSL.out; omega)] at h
            have h2 : S ++ (D6.take 0).filter (fun r => ltB K r.1) = S := by simp
            unfold Hid
            rw [h2]
            exact h
          have HBE := HBJ
          clear hj hltj0 hj2 HOJ HBJ HLL HCL
          go_wp2_with fail
          have HLL := hid HN6.out
          have HCL := hid HC6.out
          go_loopw [12, 69] (fun u i wr => ∃ j : Nat, i = .int .i64 j ∧ j ≤ N6 ∧ Hid (OR wr w7.heap.size u (S ++ (D6.take j).filter (fun r => ltB K r.1))) ∧ Hid (Below w7.heap.size w7 wr)) (fun _ i _ => N6 - (intOf i).toNat)
          case atStart => exact ⟨0, rfl, Nat.zero_le _, HOE, HBE⟩
          case round =>
            obtain ⟨j, rfl, hj, HOJ, HBJ⟩ := hrel
            by_cases hltj0 : j < N6
            · clear hj
              obtain ⟨x, hx⟩ : ∃ x, D6[j]? = some x := ⟨_, List.getElem?_eq_getElem (by have := HLL.out; omega)⟩
              have hHC := HCL.out
              rcases hHC with hq | ⟨b1, off, e1, hbq, hq⟩
              · rw [hq] at hx; simp at hx
              cases e1
              obtain ⟨c0, c1⟩ := hq j x hx
              try simp only [Nat.zero_add] at c0 c1
              have c0 := keepc HBJ.out c0; have c1 := keepc HBJ.out c1
              have HF := hid (filter_succ hx (fun r => ltB K r.1))
              obtain ⟨wx, hwx⟩ : ∃ wx, wx = wr.alloc (.cells #[strV x.1, strV x.2] 59) := ⟨_, rfl⟩
              have hba : Below wr.heap.size wr wx := by rw [hwx]; exact balloc (Below.refl _ _) _
              have y0 : wx.cell? ⟨wr.heap.size, 0, none⟩ = some (strV x.1) := by rw [hwx]; exact cell_new _ _ _ 0 _ rfl
              have y1 : wx.cell? ⟨wr.heap.size, 1, none⟩ = some (strV x.2) := by rw [hwx]; exact cell_new _ _ _ 1 _ rfl
              have HOX := hid (HOJ.out.below hba)
              have HBX := hid (below_step hba HBJ.out)
              have HWX := hid hwx
              have hltj : (j : Int) < (N6 : Int) := by omega
              clear hwx hba hq hbq HOJ hx
              go_upto_region 23 with fail
              have e := HWX.out
              rw [← e]
              clear e HWX c0 c1
              cases hlk : ltB K x.1 with
              | true =>
                obtain ⟨g1, g2⟩ := gtr_yes hlk
                have HF2 : Hid (S ++ (D6.take (j + 1)).filter (fun r => ltB K r.1) = S ++ (D6.take j).filter (fun r => ltB K r.1) ++ [x]) := by unfold Hid; rw [HF.out, hlk, if_pos rfl]; first | done | rw [List.append_assoc]
                clear HF hlk
                have HLF : Hid ((S ++ (D6.take j).filter (fun r => ltB K r.1)).length ≤ 1000000) := by
                  unfold Hid
                  have := HLL.out
                  have := HSL.out
                  try rw [List.length_append]
                  have := List.length_filter_le (fun r : Rec => ltB K r.1) (D6.take j); have := List.length_take_le j D6
                  omega
                have HY1 := hid (laid_one wx x)
                have hbb := balloc (Below.refl wx.heap.size wx) (.cells #[strV x.1, strV x.2] 59)
                have HO3 := hid (HOX.out.below hbb)
                have HB3 := hid (below_step hbb HBX.out)
                have HZ3 := hid HB3.out.size
                clear hbb
                go_wp2_with (at_builtin; refine appR rfl _ _ rfl w7.heap.size _ (S ++ (D6.take j).filter (fun r => ltB K r.1)) x _ _ rfl rfl HO3.out HY1.out HLF.out HZ3.out ?_)
                intro v7 w9 hop7 hg7
                have HB9 := hid (HO3.out.grown HB3.out hg7 HZ3.out)
                have HO9 : Hid (OR w9 w7.heap.size v7 (S ++ (D6.take (j + 1)).filter (fun r => ltB K r.1))) := by unfold Hid; rw [HF2.out]; first | exact hop7 | (rw [List.append_assoc]; exact hop7)
                clear hop7 hg7
                go_wp2_with fail
                go_roundw
                case rel => exact ⟨j + 1, by go_num, by omega, HO9, HB9⟩
                case measure => simp [intOf]; omega
              | false =>
                have HF2 : Hid (S ++ (D6.take (j + 1)).filter (fun r => ltB K r.1) = S ++ (D6.take j).filter (fun r => ltB K r.1)) := by unfold Hid; rw [HF.out, hlk, if_neg (by simp), List.append_nil]
                have HO9 : Hid (OR wx w7.heap.size u12 (S ++ (D6.take (j + 1)).filter (fun r => ltB K r.1))) := by rw [HF2.out]; exact HOX.out
                obtain hh | hh := le_cases hlk
                · obtain ⟨g1, -⟩ := hh
                  clear HF HF2 hlk
                  go_wp2_with fail
                  go_roundw
                  case rel => exact ⟨j + 1, by go_num, by omega, HO9, HBX⟩
                  case measure => simp [intOf]; omega
                · obtain ⟨g1, g2⟩ := hh
                  clear HF HF2 hlk
                  go_wp2_with fail
                  go_roundw
                  case rel => exact ⟨j + 1, by go_num, by omega, HO9, HBX⟩
                  case measure => simp [intOf]; omega
            · have hj2 : j = N6 := by omega
              have hge : ¬ (j : Int) < (N6 : Int) := by omega
              have HOF : Hid (OR wr w7.heap.size u12 (S ++ gtD K D6)) := by
                have h := HOJ.out
                rw [hj2, List.take_of_length_le (by have := HN6.out; omega)] at h
                exact h
              have HBF := HBJ
              clear hj hltj0 hj2 HOJ HBJ HLL HCL
              have HSP := span_any D6 _ K hiK wr (HR7.out.below HBF.out)
              obtain ⟨L, hL, hcase⟩ := span_gt K HD6.out
              rw [hL] at HSP
              have HSP2 : Hid (Calls Try.prog 54 #[.slice o6 N6 c6', strV K, .string ⟨#[255, 255, 255, 255, 255, 255, 255, 255, 255, 255, 255, 255, 255, 255, 255, 255]⟩] wr (RetR L 0 wr)) := HSP
              obtain ⟨oF, cF, eF, -, -⟩ := HOF.out.rd
              obtain ⟨G, hG⟩ : ∃ G, (gtD K D6).length = G := ⟨_, rfl⟩
              rw [List.length_append, HSL.out, hG] at eF
              subst eF
              have hG64 : G ≤ 64 := by have := gtD_len K D6; have := HN6.out; omega
              have fsum : IntKind.i64.wrap ((n : Int) + (G : Int)) = (n : Int) + (G : Int) := IntWalk.i64_in _ ⟨by omega, by omega⟩
              have HWVX : Hid (WV D0 D6 S a) := by have h := wv_change D6 HWU.out.2; rw [HSL.out] at h; rw [HA.out]; exact h
              clear HSP hL HOF HWU
              go_wp2_with fail
              refine HSP2.out.mono ?_
              rintro e wy ⟨vy, rfl, hoy, hby⟩
              have hby7 := below_step hby HBF.out
              have HRX := hid (HN7.out.below hby7)
              have HOX := hid (HO7.out.below hby7)
              have HBX := hid (below_step hby7 HB7.out)
              rcases hcase with ⟨x, C, hLx, hx, hC⟩ | ⟨hL0, hG0⟩ | ⟨x, C, hLx, hx, hLG⟩
              · obtain ⟨gy, cy, rfl, -, -, hcy, -, hcc⟩ := hoy.cells (by rw [hLx]; simp)
                have c0 : wy.cell? ⟨gy, 0, none⟩ = some (strV x.1) := hcc 0 _ (by rw [hLx]; rfl)
                have hLn : L.length = G + 1 := by rw [hLx, List.length_cons, hC, hG]
                rw [hLn] at hcy ⊢
                have g1 : (x.1 == K) = true := by rw [beq_iff_eq]; exact hx
                have hpos : (0 : Int) < (G : Int) + 1 := by omega
                have hone : (1 : Int) ≤ (G : Int) + 1 := by omega
                clear hcc hLn hLx hC hx hG hby hby7 hoy HSP2
                go_wp2_with fail
                go_meet
                case rel => exact ⟨D6, o6, N6, c6', rfl, HN6, HRX, HOX, HD6, HWVX, HBX⟩
              · obtain ⟨oy, cy, rfl, -, -⟩ := hoy.rd
                have hG00 : G = 0 := by rw [← hG, hG0]; rfl
                subst hL0
                subst hG00
                clear hG0 hG hby hby7 hoy HSP2
                go_wp2_with fail
                go_meet
                case rel => exact ⟨D6, o6, N6, c6', rfl, HN6, HRX, HOX, HD6, HWVX, HBX⟩
              · obtain ⟨gy, cy, rfl, -, -, hcy, -, hcc⟩ := hoy.cells (by rw [hLx]; simp)
                have c0 : wy.cell? ⟨gy, 0, none⟩ = some (strV x.1) := hcc 0 _ (by rw [hLx]; rfl)
                have hLn : L.length = G := by rw [hLG, hG]
                have hG1 : 0 < G := by rw [← hLn, hLx]; simp
                rw [hLn] at hcy ⊢
                have g1 : (x.1 == K) = false := by rw [beq_eq_false_iff_ne]; exact hx
                have hpos : (0 : Int) < (G : Int) := by omega
                clear hcc hLn hLx hLG hx hG hby hby7 hoy HSP2
                go_wp2_with fail
                go_meet
                case rel => exact ⟨D6, o6, N6, c6', rfl, HN6, HRX, HOX, HD6, HWVX, HBX⟩
    case rest =>
      obtain ⟨D1, o1', N1, c1', rfl, HL1, HR1, HO1, HD1, HWV, HB1x⟩ := hcut
      clear HR HO HD HWH HB HND
      have HTx := hid (below_step HB1x.out HBW.out)
      cases hg : gtD K D1 with
      | nil =>
        have HNX : Hid (Calls Try.prog 52 #[.slice o1' N1 c1', strV K] wc (Ret (.tuple #[recV ([], []), .int .i64 4]) wc)) := by
          have h := next_any D1 _ K wc HR1.out.1
          rw [next_no HD1.out HKL.out hg] at h
          exact h
        have HEND := hid (wv_end HD0.out HWV.out (by rw [HK.out]; exact hg))
        clear hg HWV
        go_wp2_with fail
        refine HNX.out.mono ?_
        rintro e w8 ⟨rfl, hb8⟩
        obtain ⟨w9, hw9⟩ : ∃ w9, w9 = w8.alloc (.cells #[strV [], strV []] 59) := ⟨_, rfl⟩
        have hba : Below w8.heap.size w8 w9 := by rw [hw9]; exact balloc (Below.refl _ _) _
        have hb9 := below_step hba (below_step hb8 (Below.refl wc.heap.size wc))
        have HT9 := hid (below_step hb9 HTx.out)
        have HR9 := hid (HR1.out.below hb9)
        have HO9 := hid (HO1.out.below hb9)
        have HW9 := hid hw9
        have K0 : Hid (w9.cell? ⟨Z, 0, none⟩ = some (.slice oo N cap)) := keepc (below_step hb9 HB1x.out) (KK.out 0 _ rfl)
        clear hw9 hba hb9 hb8 HR1 HO1 HNX
        go_upto_region 35 with fail
        have e := HW9.out
        rw [← e]
        clear e HW9
        have c0 := K0.out
        by_cases h1 : a < 0
        · have hS := HEND.out.1 (.inl h1)
          have HV := hid (rsame_any S D0 _ _ w9 HO9.out.rd (HRD.out.below HT9.out) (by have := HSL.out; unfold maxLen; omega))
          rw [hS, decide_eq_true rfl] at HV
          clear hS
          go_wp2_with fail
          refine HV.out.mono ?_
          rintro e w10 ⟨rfl, hb10⟩
          have HT10 := hid (below_step hb10 HT9.out)
          clear hb10
          go_wp2_with fail
          go_ret
          exact ⟨rfl, HT10.out⟩
        by_cases h2 : (n : Int) < a
        · have hS := HEND.out.1 (.inr (by rw [HSL.out]; exact h2))
          have HV := hid (rsame_any S D0 _ _ w9 HO9.out.rd (HRD.out.below HT9.out) (by have := HSL.out; unfold maxLen; omega))
          rw [hS, decide_eq_true rfl] at HV
          clear hS
          go_wp2_with fail
          refine HV.out.mono ?_
          rintro e w10 ⟨rfl, hb10⟩
          have HT10 := hid (below_step hb10 HT9.out)
          clear hb10
          go_wp2_with fail
          go_ret
          exact ⟨rfl, HT10.out⟩
        obtain ⟨m, hm⟩ : ∃ m : Nat, a = (m : Int) := ⟨a.toNat, by omega⟩
        have hEE := HEND.out.2 m hm (by rw [HSL.out]; omega)
        obtain ⟨hE1, hE2, hE3⟩ := hEE
        have hmn : m ≤ n := by omega
        rw [HN.out] at hE2
        have HE1 := hid hE1
        have HE3 := hid hE3
        clear HEND hE1 hE3
        subst hm
        have hcn : n ≤ c := by obtain ⟨_, _, e, h, -⟩ := HO9.out.rd; rw [HSL.out] at e h; cases e; exact h
        have hneg : ¬ (m : Int) < 0 := by omega
        have hgt : ¬ (n : Int) < (m : Int) := by omega
        go_upto_if 149 with (fail)
        go_cut [21] (fun x21 wc => x21 = strV (lastK (S.take m)) ∧ Hid (Below w9.heap.size w9 wc))
        case first =>
          by_cases hm0 : m = 0
          · have g0 : ¬ (0 : Int) < (m : Int) := by omega
            have HM := hid hm0
            clear hm0
            go_wp2_with fail
            go_meet
            case rel => exact ⟨by rw [HM.out]; rfl, Below.refl _ _⟩
          · have g0 : (0 : Int) < (m : Int) := by omega
            obtain ⟨j, hj⟩ : ∃ j, m = j + 1 := ⟨m - 1, by omega⟩
            obtain ⟨x, hx⟩ : ∃ x, S[j]? = some x := ⟨_, List.getElem?_eq_getElem (by have := HSL.out; omega)⟩
            obtain ⟨_, _, e, -, hq⟩ := HO9.out.rd
            rw [HSL.out] at e
            cases e
            rcases hq with hq | ⟨b1, off, e1, hbq, hq⟩
            · rw [hq] at hx; simp at hx
            cases e1
            obtain ⟨x0, x1⟩ := hq j x hx
            simp only [Nat.zero_add] at x0 x1
            have fsub : IntKind.i64.wrap ((m : Int) - 1) = (j : Int) := by rw [IntWalk.i64_in _ ⟨by omega, by omega⟩]; omega
            have hjl : (j : Int) < (n : Int) := by omega
            have HLT : Hid (lastK (S.take m) = x.1) := by rw [hj]; exact lastK_take hx
            clear hq hbq hx hj
            go_wp2_with fail
            go_meet
            case rel => exact ⟨by rw [HLT.out], Below.refl _ _⟩
        case rest =>
          obtain ⟨rfl, HBC⟩ := hcut
          obtain ⟨LK, hLK⟩ : ∃ LK, lastK (S.take m) = LK := ⟨_, rfl⟩
          rw [hLK] at HE3
          simp only [hLK]
          clear hLK
          have HTC := hid (below_step HBC.out HT9.out)
          have HOC := hid (HO9.out.below HBC.out)
          have HRC := hid (HR9.out.below HBC.out)
          have K0 : Hid (wc.cell? ⟨Z, 0, none⟩ = some (.slice oo N cap)) := keepc HBC.out K0.out
          have HBS := hid (balloc (Below.refl wc.heap.size wc) (.cells #[] 59))
          have HOS := hid (oR_new wc wc.heap.size (Nat.le_refl _))
          obtain ⟨_, _, e, -, hq⟩ := HRC.out.1
          rw [HL1.out] at e
          cases e
          have HCL1 := hid hq
          have hN64 : N1 ≤ 64 := by rw [← HL1.out]; exact isDs_len HD1.out
          clear hq c0 HO9 HR9 HBC HRC
          go_wp2_with fail
          have HLL := hid HL1.out
          have HCL := hid HCL1.out
          go_loopw [22, 159] (fun u i wr => ∃ j : Nat, i = .int .i64 j ∧ j ≤ N1 ∧ Hid (OR wr wc.heap.size u ((D1.take j).filter (fun r => ltB LK r.1))) ∧ Hid (Below wc.heap.size wc wr)) (fun _ i _ => N1 - (intOf i).toNat)
          case atStart => exact ⟨0, rfl, Nat.zero_le _, HOS.out, HBS.out⟩
          case round =>
            obtain ⟨j, rfl, hj, HOJ, HBJ⟩ := hrel
            by_cases hltj0 : j < N1
            · clear hj
              obtain ⟨x, hx⟩ : ∃ x, D1[j]? = some x := ⟨_, List.getElem?_eq_getElem (by have := HLL.out; omega)⟩
              have hHC := HCL.out
              rcases hHC with hq | ⟨b1, off, e1, hbq, hq⟩
              · rw [hq] at hx; simp at hx
              cases e1
              obtain ⟨c0, c1⟩ := hq j x hx
              try simp only [Nat.zero_add] at c0 c1
              have c0 := keepc HBJ.out c0; have c1 := keepc HBJ.out c1
              have HF := hid (filter_succ hx (fun r => ltB LK r.1))
              obtain ⟨wx, hwx⟩ : ∃ wx, wx = wr.alloc (.cells #[strV x.1, strV x.2] 59) := ⟨_, rfl⟩
              have hba : Below wr.heap.size wr wx := by rw [hwx]; exact balloc (Below.refl _ _) _
              have y0 : wx.cell? ⟨wr.heap.size, 0, none⟩ = some (strV x.1) := by rw [hwx]; exact cell_new _ _ _ 0 _ rfl
              have y1 : wx.cell? ⟨wr.heap.size, 1, none⟩ = some (strV x.2) := by rw [hwx]; exact cell_new _ _ _ 1 _ rfl
              have HOX := hid (HOJ.out.below hba)
              have HBX := hid (below_step hba HBJ.out)
              have HWX := hid hwx
              have hltj : (j : Int) < (N1 : Int) := by omega
              clear hwx hba hq hbq HOJ hx
              go_upto_region 49 with fail
              have e := HWX.out
              rw [← e]
              clear e HWX c0 c1
              cases hlk : ltB LK x.1 with
              | true =>
                obtain ⟨g1, g2⟩ := gtr_yes hlk
                have HF2 : Hid ((D1.take (j + 1)).filter (fun r => ltB LK r.1) = (D1.take j).filter (fun r => ltB LK r.1) ++ [x]) := by unfold Hid; rw [HF.out, hlk, if_pos rfl]; first | done | rw [List.append_assoc]
                clear HF hlk
                have HLF : Hid (((D1.take j).filter (fun r => ltB LK r.1)).length ≤ 1000000) := by
                  unfold Hid
                  have := HLL.out
                  have := HSL.out
                  try rw [List.length_append]
                  have := List.length_filter_le (fun r : Rec => ltB LK r.1) (D1.take j); have := List.length_take_le j D1
                  omega
                have HY1 := hid (laid_one wx x)
                have hbb := balloc (Below.refl wx.heap.size wx) (.cells #[strV x.1, strV x.2] 59)
                have HO3 := hid (HOX.out.below hbb)
                have HB3 := hid (below_step hbb HBX.out)
                have HZ3 := hid HB3.out.size
                clear hbb
                go_wp2_with (at_builtin; refine appR rfl _ _ rfl wc.heap.size _ ((D1.take j).filter (fun r => ltB LK r.1)) x _ _ rfl rfl HO3.out HY1.out HLF.out HZ3.out ?_)
                intro v7 w9 hop7 hg7
                have HB9 := hid (HO3.out.grown HB3.out hg7 HZ3.out)
                have HO9 : Hid (OR w9 wc.heap.size v7 ((D1.take (j + 1)).filter (fun r => ltB LK r.1))) := by unfold Hid; rw [HF2.out]; first | exact hop7 | (rw [List.append_assoc]; exact hop7)
                clear hop7 hg7
                go_wp2_with fail
                go_roundw
                case rel => exact ⟨j + 1, by go_num, by omega, HO9, HB9⟩
                case measure => simp [intOf]; omega
              | false =>
                have HF2 : Hid ((D1.take (j + 1)).filter (fun r => ltB LK r.1) = (D1.take j).filter (fun r => ltB LK r.1)) := by unfold Hid; rw [HF.out, hlk, if_neg (by simp), List.append_nil]
                have HO9 : Hid (OR wx wc.heap.size u22 ((D1.take (j + 1)).filter (fun r => ltB LK r.1))) := by rw [HF2.out]; exact HOX.out
                obtain hh | hh := le_cases hlk
                · obtain ⟨g1, -⟩ := hh
                  clear HF HF2 hlk
                  go_wp2_with fail
                  go_roundw
                  case rel => exact ⟨j + 1, by go_num, by omega, HO9, HBX⟩
                  case measure => simp [intOf]; omega
                · obtain ⟨g1, g2⟩ := hh
                  clear HF HF2 hlk
                  go_wp2_with fail
                  go_roundw
                  case rel => exact ⟨j + 1, by go_num, by omega, HO9, HBX⟩
                  case measure => simp [intOf]; omega
            · have hj2 : j = N1 := by omega
              have hge : ¬ (j : Int) < (N1 : Int) := by omega
              have HOR : Hid (OR wr wc.heap.size u22 (S.drop m)) := by
                have h := HOJ.out
                rw [hj2, List.take_of_length_le (by have := HL1.out; omega)] at h
                rw [HE3.out]
                exact h
              have HBR := HBJ
              clear hj hltj0 hj2 HOJ HBJ HLL HCL
              have HTR := hid (below_step HBR.out HTC.out)
              have HRS := HOC.out.rd.below HBR.out
              have HRZ := HRD.out.below HTR.out
              obtain ⟨oR, cR, eR, -, -⟩ := HOR.out.rd
              rw [List.length_drop, HSL.out] at eR
              subst eR
              have HV1 := hid (fun w' (hb : Below wr.heap.size wr w') => rsame_any (S.drop m) (S.drop m) _ _ w' ((HRS.drop m (by have := HSL.out; omega)).below hb) (HOR.out.rd.below hb) (by rw [List.length_drop]; have := HSL.out; unfold maxLen; omega))
              have HV2 := hid (fun w' (hb : Below wr.heap.size wr w') => rsame_any (S.take m) (D0.take m) _ _ w' ((HRS.take m (by have := HSL.out; omega)).below hb) ((HRZ.take m (by have := HN.out; omega)).below hb) (by rw [List.length_take]; have := HSL.out; unfold maxLen; omega))
              rw [HE1.out] at HV2
              simp only [decide_true] at HV1 HV2
              have c0 := keepc HBR.out K0.out
              have hcut1 := fun w => run_cutlR g n c w .i64 (m : Int) (by omega) (by omega)
              have hcut2 := fun w => run_cuthR g n c w .i64 (m : Int) (by omega) (by omega)
              have hcut3 := fun w => run_cuthG oo N cap w .i64 (m : Int) (by omega) (by omega)
              simp only [Int.toNat_natCast] at hcut1 hcut2 hcut3
              have hmN' : (m : Int) ≤ (N : Int) := by omega
              clear HRS HRZ
              go_wp2_with fail
              refine (fun hm hB S hS h => wp_region_freeL S hm hB hS h) (by kernel_rfl) (by kernel_rfl) (fun L w' => Below wr.heap.size wr w' ∧ w'.cell? ⟨Z, 0, none⟩ = some (.slice oo N cap)) ⟨((Below.refl wr.heap.size wr)).drew, c0⟩ ?_
              refine wpFreeL_val rfl (fun _ _ _ h => h) (fun K hK => ?_); apply Exists.intro; refine ⟨fun L w' hS => ?_, ?_⟩; (have hb := hS.1; have g0 := hS.2; clear hS; go_simp; rfl); (go_simp; refine hK _ ?_; clear hK K)
              refine wpFreeL_val rfl (fun _ _ _ h => h) (fun K hK => ?_); apply Exists.intro; refine ⟨fun L w' hS => ?_, ?_⟩; (have hb := hS.1; have g0 := hS.2; clear hS; go_simp; rfl); (go_simp; refine hK _ ?_; clear hK K)
              refine wpFreeL_val rfl (fun _ _ _ h => h) (fun K hK => ?_); apply Exists.intro; refine ⟨fun L w' hS => ?_, ?_⟩; (have hb := hS.1; have g0 := hS.2; clear hS; go_simp; rfl); (go_simp; refine hK _ ?_; clear hK K)
              refine wpFreeL_val rfl (fun _ _ _ h => h) (fun K hK => ?_); apply Exists.intro; refine ⟨fun L w' hS => ?_, ?_⟩; (have hb := hS.1; have g0 := hS.2; clear hS; go_simp; rfl); (go_simp; refine hK _ ?_; clear hK K)
              refine wpFreeL_gen rfl (fun K hK => ?_); apply Exists.intro; refine ⟨fun L w' hcl hL hdep hS => ?_, ?_⟩
              · have hb := hS.1; have g0 := hS.2; go_simp; refine (HV1.out _ hb).mono ?_; rintro e w1 ⟨rfl, hb1⟩; exact ⟨rfl, ⟨hb.trans (hb1.mono (by have := hb.size; omega)), keepc hb1 g0⟩⟩
              go_simp; refine hK _ ?_; clear hK K
              refine wpFreeL_val rfl (fun _ _ _ h => h) (fun K hK => ?_); apply Exists.intro; refine ⟨fun L w' hS => ?_, ?_⟩; (have hb := hS.1; have g0 := hS.2; clear hS; go_simp; rfl); (go_simp; refine hK _ ?_; clear hK K)
              refine wpFreeL_val rfl (fun _ _ _ h => h) (fun K hK => ?_); apply Exists.intro; refine ⟨fun L w' hS => ?_, ?_⟩; (have hb := hS.1; have g0 := hS.2; clear hS; go_simp; rfl); (go_simp; refine hK _ ?_; clear hK K)
              refine wpFreeL_val rfl (fun _ _ _ h => h) (fun K hK => ?_); apply Exists.intro; refine ⟨fun L w' hS => ?_, ?_⟩; (have hb := hS.1; have g0 := hS.2; clear hS; go_simp; rfl); (go_simp; refine hK _ ?_; clear hK K)
              refine wpFreeL_val rfl (fun _ _ _ h => h) (fun K hK => ?_); apply Exists.intro; refine ⟨fun L w' hS => ?_, ?_⟩; (have hb := hS.1; have g0 := hS.2; clear hS; go_simp; rfl); (go_simp; refine hK _ ?_; clear hK K)
              refine wpFreeL_val rfl (fun _ _ _ h => h) (fun K hK => ?_); apply Exists.intro; refine ⟨fun L w' hS => ?_, ?_⟩; (have hb := hS.1; have g0 := hS.2; clear hS; go_simp; rfl); (go_simp; refine hK _ ?_; clear hK K)
              refine wpFreeL_val rfl (fun _ _ _ h => h) (fun K hK => ?_); apply Exists.intro; refine ⟨fun L w' hS => ?_, ?_⟩; (have hb := hS.1; have g0 := hS.2; clear hS; go_simp; rfl); (go_simp; refine hK _ ?_; clear hK K)
              refine wpFreeL_val rfl (fun _ _ _ h => h) (fun K hK => ?_); apply Exists.intro; refine ⟨fun L w' hS => ?_, ?_⟩; (have hb := hS.1; have g0 := hS.2; clear hS; go_simp; rfl); (go_simp; refine hK _ ?_; clear hK K)
              refine wpFreeL_val rfl (fun _ _ _ h => h) (fun K hK => ?_); apply Exists.intro; refine ⟨fun L w' hS => ?_, ?_⟩; (have hb := hS.1; have g0 := hS.2; clear hS; go_simp; rfl); (go_simp; refine hK _ ?_; clear hK K)
              refine wpFreeL_val rfl (fun _ _ _ h => h) (fun K hK => ?_); apply Exists.intro; refine ⟨fun L w' hS => ?_, ?_⟩; (have hb := hS.1; have g0 := hS.2; clear hS; go_simp; rfl); (go_simp; refine hK _ ?_; clear hK K)
              refine wpFreeL_val rfl (fun _ _ _ h => h) (fun K hK => ?_); apply Exists.intro; refine ⟨fun L w' hS => ?_, ?_⟩; (have hb := hS.1; have g0 := hS.2; clear hS; go_simp; rfl); (go_simp; refine hK _ ?_; clear hK K)
              refine wpFreeL_val rfl (fun _ _ _ h => h) (fun K hK => ?_); apply Exists.intro; refine ⟨fun L w' hS => ?_, ?_⟩; (have hb := hS.1; have g0 := hS.2; clear hS; go_simp; rfl); (go_simp; refine hK _ ?_; clear hK K)
              refine wpFreeL_val rfl (fun _ _ _ h => h) (fun K hK => ?_); apply Exists.intro; refine ⟨fun L w' hS => ?_, ?_⟩; (have hb := hS.1; have g0 := hS.2; clear hS; go_simp; rfl); (go_simp; refine hK _ ?_; clear hK K)
              refine wpFreeL_val rfl (fun _ _ _ h => h) (fun K hK => ?_); apply Exists.intro; refine ⟨fun L w' hS => ?_, ?_⟩; (have hb := hS.1; have g0 := hS.2; clear hS; go_simp; rfl); (go_simp; refine hK _ ?_; clear hK K)
              refine wpFreeL_val rfl (fun _ _ _ h => h) (fun K hK => ?_); apply Exists.intro; refine ⟨fun L w' hS => ?_, ?_⟩; (have hb := hS.1; have g0 := hS.2; clear hS; go_simp; rfl); (go_simp; refine hK _ ?_; clear hK K)
              refine wpFreeL_val rfl (fun _ _ _ h => h) (fun K hK => ?_); apply Exists.intro; refine ⟨fun L w' hS => ?_, ?_⟩; (have hb := hS.1; have g0 := hS.2; clear hS; go_simp; rfl); (go_simp; refine hK _ ?_; clear hK K)
              refine wpFreeL_gen rfl (fun K hK => ?_); apply Exists.intro; refine ⟨fun L w' hcl hL hdep hS => ?_, ?_⟩
              · have hb := hS.1; have g0 := hS.2; go_simp; refine (HV2.out _ hb).mono ?_; rintro e w1 ⟨rfl, hb1⟩; exact ⟨rfl, ⟨hb.trans (hb1.mono (by have := hb.size; omega)), keepc hb1 g0⟩⟩
              go_simp; refine hK _ ?_; clear hK K
              refine wpFreeL_val rfl (fun _ _ _ h => h) (fun K hK => ?_); apply Exists.intro; refine ⟨fun L w' hS => ?_, ?_⟩; (have hb := hS.1; have g0 := hS.2; clear hS; go_simp; rfl); (go_simp; refine hK _ ?_; clear hK K)
              refine wpFreeL_val rfl (fun _ _ _ h => h) (fun K hK => ?_); apply Exists.intro; refine ⟨fun L w' hS => ?_, ?_⟩; (have hb := hS.1; have g0 := hS.2; clear hS; go_simp; rfl); (go_simp; refine hK _ ?_; clear hK K)
              refine wpFreeL_nil (fun L w' hL hS => ?_)
              have hb := hS.1; have g0 := hS.2
              clear hL hS
              have HTE := hid (below_step hb HTR.out)
              go_wp2_with fail
              go_ret
              exact ⟨rfl, HTE.out⟩

      | cons x C =>
        obtain ⟨hlt, hmem, -⟩ := gtD_step (isDs_sorted HD1.out) hg
        have HNX : Hid (Calls Try.prog 52 #[.slice o1' N1 c1', strV K] wc (Ret (.tuple #[recV x, .int .i64 0]) wc)) := by
          have h := next_any D1 _ K wc HR1.out.1
          rw [next_yes HD1.out HKL.out hg] at h
          exact h
        have HWS := hid (wv_step HD1.out HWV.out (by rw [HK.out]; exact hg))
        have HL128 : n + 1 ≤ 128 := by have h := wv_len1 HD0.out HD1.out HWV.out (by rw [HK.out]; exact hg); rw [HSL.out] at h; exact h
        have HKX := hid (key_le (rec_key' (isDs_rec HD1.out hmem)))
        have HME := hid hmem
        have hN64 : N1 ≤ 64 := by rw [← HL1.out]; exact isDs_len HD1.out
        obtain ⟨g1, g2⟩ := gtr_yes hlt
        clear hg hlt hmem HWV
        go_wp2_with fail
        refine HNX.out.mono ?_
        rintro e w8 ⟨rfl, hb8⟩
        obtain ⟨w9, hw9⟩ : ∃ w9, w9 = w8.alloc (.cells #[strV x.1, strV x.2] 59) := ⟨_, rfl⟩
        have hba : Below w8.heap.size w8 w9 := by rw [hw9]; exact balloc (Below.refl _ _) _
        have hb9 := below_step hba (below_step hb8 (Below.refl wc.heap.size wc))
        have HB9 := hid (below_step hb9 HB1x.out)
        have HR9 := hid (HR1.out.below hb9)
        have HO9 := hid (HO1.out.below hb9)
        have y0 : w9.cell? ⟨w8.heap.size, 0, none⟩ = some (strV x.1) := by rw [hw9]; exact cell_new _ _ _ 0 _ rfl
        have y1 : w9.cell? ⟨w8.heap.size, 1, none⟩ = some (strV x.2) := by rw [hw9]; exact cell_new _ _ _ 1 _ rfl
        have hg8 : g < w8.heap.size := Nat.lt_of_lt_of_le (World.ownsRow.lt HO1.out g rfl).2 hb8.size
        have HG8 := hid hg8
        have HW9 := hid hw9
        have HTH := hid (lthere_any D1 _ x w9 HR9.out.1 (by rw [HL1.out]; exact hN64) HME.out)
        clear hw9 hba hb9 hb8 hg8 HR1 HO1 HNX HME
        go_upto_region 35 with fail
        have e := HW9.out
        rw [← e]
        clear e HW9
        obtain ⟨Y, hY⟩ : ∃ Y, w8.heap.size = Y := ⟨_, rfl⟩
        simp only [hY] at y0 y1 HG8 ⊢
        clear hY
        go_wp2_with fail
        refine HTH.out.mono ?_
        rintro e w10 ⟨rfl, hb10⟩
        have y0 := keepc hb10 y0
        have y1 := keepc hb10 y1
        have hbb := balloc (Below.refl w10.heap.size w10) (.cells #[strV x.1, strV x.2] 59)
        have hb11 := below_step hbb hb10
        have HO11 := hid (HO9.out.below hb11)
        have HR11 := hid (HR9.out.below hb11)
        have HB11 := hid (below_step hb11 HB9.out)
        have Y0 := hid (keepc hbb y0)
        have HY1 := hid (laid_one w10 x)
        have HLF : Hid (S.length ≤ 1000000) := by unfold Hid; rw [HSL.out]; omega
        have HZ3 := hid HB11.out.size
        clear hbb hb10 hb11 HTH HR9 HO9
        go_wp2_with (at_builtin; refine appRat rfl _ _ rfl W.heap.size _ S x _ _ rfl rfl HO11.out HY1.out HLF.out HZ3.out ?_)
        intro v7 w11 hop hgr hat
        have HB12 := hid (HO11.out.grown HB11.out hgr HZ3.out)
        have z0 := grown_cell hgr (fun e => by have h := Option.some.inj e; have := HG8.out; simp only at h; omega) Y0.out
        obtain ⟨g', c', e⟩ := hop.some
        rw [HSL.out] at e
        subst e
        have HR12 := hid (HR11.out.grown hgr (by rcases hat with h | h <;> (have h := Option.some.inj h; first | exact .inl h | exact .inr (by rw [World.size_alloc]; exact h))))
        have HO12 := hid hop
        clear hop hgr hat
        go_wp2_with fail
        go_roundw
        case rel => exact ⟨D1, S ++ [x], n + 1, g', c', o1', c1', by go_num, by rw [lastK_snoc], by rw [HL1.out], rfl, by rw [List.length_append, HSL.out]; rfl, HR12.out, HO12.out, HD1.out, HWS.out, by rw [lastK_snoc]; exact HKX.out, HB12.out⟩
        case measure => simp [intOf]; omega
end Go.Proofs.Ytifcgimpgbeocaa
