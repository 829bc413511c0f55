/- Next. -/
import Derived.Test.YtifcgimpgbeocaaGreatK20
import Derived.Test.YtifcgimpgbeocaaGreatK3
import Derived.Test.YtifcgimpgbeocaaGreatK10
import Derived.Deep.RegionLaw
set_option linter.unusedVariables false
set_option linter.unusedSimpArgs false
namespace Go.Proofs.YtifcgimpgbeocaaGreat
open Go.RowKit
attribute [local go_sem] Oper.semAt_some
set_option maxRecDepth 100000 in
theorem next_any (d : Ds) (v : Value) (k : Bs) (w : World) (hR : RdR w v d) : Calls Tryz.prog 27 #[v, strV k] w (Ret (.tuple #[recV (nextD d k).1, .int .i64 (nextD d k).2]) w) := by
  have HA := hid (fun w' (hb : Below w.heap.size w w') => ask_any' d v (decide ((k.length : Int) ≤ 16)) w' (hR.below hb))
  have hB0 := (Below.refl w.heap.size w).alloc (Nat.le_refl _) (.cells #[strV [], strV []] 59)
  have HB0 := hid hB0
  have hx := ownc_new w #[strV [], strV []] 59 0 (by decide)
  have hy := ownc_new w #[strV [], strV []] 59 1 (by decide)
  have HX := hid hx; have HY := hid hy
  clear hx hy hB0
  by_cases hok : isDs d = true ∧ decide ((k.length : Int) ≤ 16) = true
  rotate_left
  · have hr : nextD d k = (([], []), askE d (decide ((k.length : Int) ≤ 16))) := by
      unfold nextD askE
      rw [dec_le16] at hok ⊢
      split
      · rename_i h1
        have h2 : ¬ k.length ≤ 16 := fun h2 => hok ⟨h1, by simpa using h2⟩
        rw [if_neg h2, if_neg (by simpa using h2)]
      · rfl
    rw [hr]
    have g := askE_ne hok
    obtain ⟨E, hE⟩ : ∃ E, askE d (decide ((k.length : Int) ≤ 16)) = E := ⟨_, rfl⟩
    rw [hE] at HA g ⊢
    clear hE hr hok hR
    go_enter Tryz.func27, Tryz.ntmps27
    go_wp2_with fail
    refine (HA.out _ HB0.out).mono ?_
    rintro e w2 ⟨rfl, hb2⟩
    have HB2 := hid (below_step hb2 HB0.out)
    obtain ⟨⟨u0, x0⟩, f0⟩ := keepOwn hb2 HX.out
    obtain ⟨⟨u1, x1⟩, f1⟩ := keepOwn hb2 HY.out
    have hz := HB2.out.size
    clear hb2
    go_wp2_with fail
    exact bodyPost_ret (v := .tuple #[.agg #[strV [], strV []], .int .i64 E]) (by simp [results, Tryz.results27, go_sem, x0, x1, hz]) rfl ⟨rfl, (HB2.out.setCell (Nat.le_refl _) _).setCell (Nat.le_refl _) _⟩
  · obtain ⟨hd, hk⟩ := hok
    rw [askE_ok hd hk] at HA
    have hk' : k.length ≤ 16 := by rw [dec_le16] at hk; simpa using hk
    have HAT := hid (fun w' (hb : Below w.heap.size w w') => at_any d v k w' (hR.below hb) (isDs_len hd))
    have hl := isDs_len hd
    have hle := atD_le d k
    by_cases hlt : nextI d k < d.length
    · obtain ⟨r, hs⟩ : ∃ r, d[nextI d k]? = some r := ⟨_, List.getElem?_eq_getElem hlt⟩
      have hr : nextD d k = (r, 0) := by unfold nextD; rw [if_pos hd, if_pos hk', if_pos hlt, hs]; rfl
      rw [hr]
      obtain ⟨o, cap, rfl, hcap, hc⟩ := hR
      rcases hc with hc | ⟨b, off, rfl, hbl, hc⟩
      · rw [hc] at hs; simp at hs
      obtain ⟨c0, c1⟩ := hc _ _ hs
      obtain ⟨J, hJ⟩ : ∃ J, atD d k = J := ⟨_, rfl⟩
      obtain ⟨N, hN⟩ : ∃ N, d.length = N := ⟨_, rfl⟩
      unfold nextI at c0 c1 hlt
      rw [hJ] at HAT c0 c1 hle hlt
      rw [hN] at HAT HA hlt hl hle
      rw [hN]
      cases hh : hasD d k with
      | true =>
        rw [hh] at HAT c0 c1 hlt
        simp only [if_true] at c0 c1 hlt
        have HC0 := hid c0; have HC1 := hid c1
        have w0 : IntKind.i64.wrap ((J : Int) + 1) = (J : Int) + 1 := IntWalk.i64_in _ ⟨by omega, by omega⟩
        have w1 : (0 : Int) ≤ (J : Int) + 1 := by omega
        have w2' : (J : Int) + 1 < (N : Int) := by omega
        have w3' : ((J : Int) + 1).toNat = J + 1 := by omega
        have g1 : (((J : Int) + 1) == (N : Int)) = false := by rw [beq_eq_false_iff_ne]; omega
        clear hr hh hJ hd hk hk' hc hs c0 hN hcap c1 hle
        go_enter Tryz.func27, Tryz.ntmps27
        go_wp2_with fail
        refine (HA.out _ HB0.out).mono ?_
        rintro e w2 ⟨rfl, hb2⟩
        have HB2 := hid (below_step hb2 HB0.out)
        have HX2 := hid (keepOwn hb2 HX.out)
        have HY2 := hid (keepOwn hb2 HY.out)
        clear hb2
        go_wp2_with fail
        refine (HAT.out _ HB2.out).mono ?_
        rintro e w3 ⟨rfl, hb3⟩
        have HB3 := hid (below_step hb3 HB2.out)
        obtain ⟨⟨u0, x0⟩, f0⟩ := keepOwn hb3 HX2.out
        obtain ⟨⟨u1, x1⟩, f1⟩ := keepOwn hb3 HY2.out
        have hz := HB3.out.size
        have c0 := keepc HB3.out HC0.out
        have c1 := keepc HB3.out HC1.out
        clear hb3
        go_wp2_with fail
        exact bodyPost_ret (v := .tuple #[.agg #[strV r.1, strV r.2], .int .i64 0]) (by simp [results, Tryz.results27, go_sem, x0, x1, hz]) rfl ⟨rfl, (HB3.out.setCell (Nat.le_refl _) _).setCell (Nat.le_refl _) _⟩

      | false =>
        rw [hh] at HAT c0 c1 hlt
        simp only [Bool.false_eq_true, if_false, Nat.add_zero] at c0 c1 hlt
        have HC0 := hid c0; have HC1 := hid c1
        have g1 : ((J : Int) == (N : Int)) = false := by rw [beq_eq_false_iff_ne]; omega
        clear hr hh hJ hd hk hk' hc hs c0 hN hcap c1 hle
        go_enter Tryz.func27, Tryz.ntmps27
        go_wp2_with fail
        refine (HA.out _ HB0.out).mono ?_
        rintro e w2 ⟨rfl, hb2⟩
        have HB2 := hid (below_step hb2 HB0.out)
        have HX2 := hid (keepOwn hb2 HX.out)
        have HY2 := hid (keepOwn hb2 HY.out)
        clear hb2
        go_wp2_with fail
        refine (HAT.out _ HB2.out).mono ?_
        rintro e w3 ⟨rfl, hb3⟩
        have HB3 := hid (below_step hb3 HB2.out)
        obtain ⟨⟨u0, x0⟩, f0⟩ := keepOwn hb3 HX2.out
        obtain ⟨⟨u1, x1⟩, f1⟩ := keepOwn hb3 HY2.out
        have hz := HB3.out.size
        have c0 := keepc HB3.out HC0.out
        have c1 := keepc HB3.out HC1.out
        clear hb3
        go_wp2_with fail
        exact bodyPost_ret (v := .tuple #[.agg #[strV r.1, strV r.2], .int .i64 0]) (by simp [results, Tryz.results27, go_sem, x0, x1, hz]) rfl ⟨rfl, (HB3.out.setCell (Nat.le_refl _) _).setCell (Nat.le_refl _) _⟩

    · have hr : nextD d k = (([], []), 4) := by unfold nextD; rw [if_pos hd, if_pos hk', if_neg hlt]
      rw [hr]
      obtain ⟨o, cap, rfl, hcap, hc⟩ := hR
      obtain ⟨J, hJ⟩ : ∃ J, atD d k = J := ⟨_, rfl⟩
      obtain ⟨N, hN⟩ : ∃ N, d.length = N := ⟨_, rfl⟩
      unfold nextI at hlt
      have hh2 : hasD d k = true → J < N := fun h => by
        obtain ⟨s, hs⟩ := hasD_at h
        have := (List.getElem?_eq_some_iff.1 hs).1
        omega
      rw [hJ] at HAT hle hlt
      rw [hN] at HAT HA hlt hl hle
      rw [hN]
      cases hh : hasD d k with
      | true =>
        have hjn := hh2 hh
        rw [hh] at HAT hlt
        simp only [if_true] at hlt
        have w0 : IntKind.i64.wrap ((J : Int) + 1) = (J : Int) + 1 := IntWalk.i64_in _ ⟨by omega, by omega⟩
        have g1 : (((J : Int) + 1) == (N : Int)) = true := by rw [beq_iff_eq]; omega
        clear hr hh hJ hd hk hk' hc hN hcap hle hh2
        go_enter Tryz.func27, Tryz.ntmps27
        go_wp2_with fail
        refine (HA.out _ HB0.out).mono ?_
        rintro e w2 ⟨rfl, hb2⟩
        have HB2 := hid (below_step hb2 HB0.out)
        have HX2 := hid (keepOwn hb2 HX.out)
        have HY2 := hid (keepOwn hb2 HY.out)
        clear hb2
        go_wp2_with fail
        refine (HAT.out _ HB2.out).mono ?_
        rintro e w3 ⟨rfl, hb3⟩
        have HB3 := hid (below_step hb3 HB2.out)
        obtain ⟨⟨u0, x0⟩, f0⟩ := keepOwn hb3 HX2.out
        obtain ⟨⟨u1, x1⟩, f1⟩ := keepOwn hb3 HY2.out
        have hz := HB3.out.size
        clear hb3
        go_wp2_with fail
        exact bodyPost_ret (v := .tuple #[.agg #[strV [], strV []], .int .i64 4]) (by simp [results, Tryz.results27, go_sem, x0, x1, hz]) rfl ⟨rfl, (HB3.out.setCell (Nat.le_refl _) _).setCell (Nat.le_refl _) _⟩

      | false =>
        rw [hh] at HAT hlt
        simp only [Bool.false_eq_true, if_false, Nat.add_zero] at hlt
        have g1 : ((J : Int) == (N : Int)) = true := by rw [beq_iff_eq]; omega
        clear hr hh hJ hd hk hk' hc hN hcap hle hh2
        go_enter Tryz.func27, Tryz.ntmps27
        go_wp2_with fail
        refine (HA.out _ HB0.out).mono ?_
        rintro e w2 ⟨rfl, hb2⟩
        have HB2 := hid (below_step hb2 HB0.out)
        have HX2 := hid (keepOwn hb2 HX.out)
        have HY2 := hid (keepOwn hb2 HY.out)
        clear hb2
        go_wp2_with fail
        refine (HAT.out _ HB2.out).mono ?_
        rintro e w3 ⟨rfl, hb3⟩
        have HB3 := hid (below_step hb3 HB2.out)
        obtain ⟨⟨u0, x0⟩, f0⟩ := keepOwn hb3 HX2.out
        obtain ⟨⟨u1, x1⟩, f1⟩ := keepOwn hb3 HY2.out
        have hz := HB3.out.size
        clear hb3
        go_wp2_with fail
        exact bodyPost_ret (v := .tuple #[.agg #[strV [], strV []], .int .i64 4]) (by simp [results, Tryz.results27, go_sem, x0, x1, hz]) rfl ⟨rfl, (HB3.out.setCell (Nat.le_refl _) _).setCell (Nat.le_refl _) _⟩
end Go.Proofs.YtifcgimpgbeocaaGreat
/- Span. -/
set_option linter.unusedVariables false
set_option linter.unusedSimpArgs false
namespace Go.Proofs.YtifcgimpgbeocaaGreat
open Go.RowKit
attribute [local go_sem] Oper.semAt_some
/-- A call that returns records and an error. -/
def RetR (l : Ds) (n : Int) (w : World) (e : Ending) (w' : World) : Prop := ∃ v, e = .returned (.tuple #[v, .int .i64 n]) ∧ OR w' w.heap.size v l ∧ Below w.heap.size w w'
theorem leq_eq (x b : Bs) : (Op.bytesLess x b || x == b) = !ltB b x := by
  cases e : ltB b x with
  | true =>
    have h1 : Op.bytesLess x b = false := ltB_asymm e
    have h2 : (x == b) = false := by
      rw [beq_eq_false_iff_ne]
      rintro rfl
      rw [ltB_irrefl] at e; cases e
    rw [h1, h2]; rfl
  | false =>
    cases e2 : ltB x b with
    | true => have h1 : Op.bytesLess x b = true := e2; rw [h1]; rfl
    | false => rw [ltB_tri e2 e]; simp
theorem filter_succ {d : Ds} {k : Nat} {r : Rec} (h : d[k]? = some r) (p : Rec → Bool) : (d.take (k + 1)).filter p = (d.take k).filter p ++ (if p r = true then [r] else []) := by
  obtain ⟨hk, rfl⟩ := List.getElem?_eq_some_iff.1 h
  rw [List.take_succ_eq_append_getElem hk, List.filter_append]
  congr 1
  by_cases hp : p d[k] = true
  · rw [if_pos hp, List.filter_cons, if_pos hp]; rfl
  · rw [if_neg hp, List.filter_cons, if_neg hp]; rfl
end Go.Proofs.YtifcgimpgbeocaaGreat
/- slices.Insert at records: one put in between. -/
set_option linter.unusedVariables false
set_option linter.unusedSimpArgs false
namespace Go.Proofs.YtifcgimpgbeocaaGreat
open Go.RowKit
attribute [local go_sem] Oper.semAt_some
/-- A call that returns a row of its own out of a row of its own. -/
def InsP (B : Nat) (row : Option Nat) (l : Ds) (w : World) (e : Ending) (w' : World) : Prop := ∃ v, e = .returned v ∧ OR w' B v l ∧ w.grownBy w' row
theorem run_app_own {w : World} {B : Nat} {v : Value} {d : Ds} {r : Rec} {vb : Nat} (hO : OR w B v d) (hl : d.length ≤ 1000000) (hB : B ≤ w.heap.size) (hV : w.heap[vb]? = some (.cells #[strV r.1, strV r.2] 59 (0, 0))) :
    ∃ v' w', (∀ ty, (Builtin.append_ #[69, 68] ty #[v, .slice (some ⟨vb, 0, none⟩) 1 1]).run Tryz.prog w = .ok v' w') ∧ OR w' B v' (d ++ [r]) ∧ w.grownBy w' v.ownBlock := by
  obtain ⟨i0, hi, hz0, hz1, hz2⟩ := info_parts infoR
  have hcc : ∀ j u, (encR [r])[j]? = some u → w.cell? ((⟨vb, 0, none⟩ : Addr).add j) = some u := fun j u hj => by
    rw [addr_add, Nat.zero_add]
    unfold World.cell?
    simp only [hV]
    match j, hj with
    | 0, hj => simpa [encR_cons] using hj
    | 1, hj => simpa [encR_cons] using hj
    | j + 2, hj => simp [encR_cons, encR_nil] at hj
  have key := fun ty => run_append_own (P := Tryz.prog) (w := w) B 69 ty 59 i0 zR 2 32 underR hi hz0 hz1 hz2 rfl (by decide) v d.length (encR d) hO ⟨vb, 0, none⟩ 1 1 (encR [r]) (encR_length _) hcc (encR_one _) (by unfold maxLen; omega) (by omega) hB
  obtain ⟨v', w', h1, h2, h3, -⟩ := key 0
  obtain ⟨base, l0, c0, hv⟩ : ∃ base l c, v = .slice base l c := by
    obtain ⟨o, cap, e, -⟩ := hO.rd
    exact ⟨_, _, _, e⟩
  refine ⟨v', w', fun ty => ?_, ?_, h3⟩
  · rw [hv, append_types, ← hv]
    exact h1
  · unfold OR
    rw [encR_append, List.length_append]
    exact h2
set_option maxRecDepth 100000 in
theorem insR_end (d : Ds) (r : Rec) (v : Value) (vb B : Nat) (w : World) (hO : OR w B v d) (hl : d.length ≤ 64) (hB : B ≤ w.heap.size) (hV : w.heap[vb]? = some (.cells #[strV r.1, strV r.2] 59 (0, 0))) :
    Calls Tryz.prog 67 #[v, .int .i64 (d.length : Int), .slice (some ⟨vb, 0, none⟩) 1 1] w (InsP B v.ownBlock (d ++ [r]) w) := by
  obtain ⟨v', w', h1, h2, h3⟩ := run_app_own hO (by omega) hB hV
  obtain ⟨row, hrow⟩ : ∃ row, v.ownBlock = row := ⟨_, rfl⟩
  rw [hrow] at h3 ⊢
  have hsl : ∀ w : World, ∃ u, (Instr.slice 69 v (some (.int .i64 (d.length : Int))) none none).run Tryz.prog w = .ok u w := fun w => by
    obtain ⟨-, ⟨rfl, hn⟩ | ⟨g, cap, cur, rfl, hb, hg, hnc, -⟩⟩ := hO
    · rw [hn]
      refine ⟨.slice none 0 0, ?_⟩
      rw [run_slice_l (t := 69) (ht := sliceR) (kl := .i64) (l := ((0 : Nat) : Int)) (h0 := by omega) (h1 := by omega), elemR, sizeOfR]
      rfl
    · exact ⟨_, run_cutlR g _ cap w .i64 _ (by omega) (by omega)⟩
  obtain ⟨base, c0, hv⟩ : ∃ base c, v = .slice base d.length c := by
    obtain ⟨o, cap, e, -⟩ := hO.rd
    exact ⟨_, _, e⟩
  rw [hv] at h1 hsl ⊢
  obtain ⟨u, hu⟩ := hsl w
  obtain ⟨N, hN⟩ : ∃ N, d.length = N := ⟨_, rfl⟩
  rw [hN] at h1 hu ⊢
  have H1 := hid h1; have H2 := hid h2; have H3 := hid h3
  clear h1 h2 h3 hsl hN hO hl hB hV hv hrow
  go_enter Tryz.func67, Tryz.ntmps67
  go_wp2_with (at_builtin; refine Lib.wpList_append_run _ rfl _ _ _ _ rfl _ _ rfl rfl _ _ (H1.out _) ?_)
  go_ret
  exact ⟨_, rfl, H2.out, H3.out⟩
theorem overlaps_no (w : World) (a b : Addr) (la ca lb cb : Nat) (hne : a.block ≠ b.block) (tA tB : TypeId) (kA kB : Nat) (hsa : w.shape? a.block = some (tA, kA)) (hsb : w.shape? b.block = some (tB, kB)) (hkB : kB ≠ 0)
    (hfa : w.frozen? a = false) (hfe : w.frozen? { block := a.block, off := kA } = false) : (callFunc 104 #[.slice (some a) la ca, .slice (some b) lb cb]).run Tryz.prog w = .ok (.value (.bool false)) w := by
  rw [run_callFunc_extern Tryz.func104 (by kernel_rfl) (by kernel_rfl) (by kernel_rfl) (e := Extern.SlicesOverlaps.overlaps #[68, 68] #[4]) (by kernel_rfl),
    Lib.run_overlaps_apart w 68 4 59 underRR 2 sizeOfR a b la ca lb cb hne tA tB kA kB hsa hsb hkB hfa hfe]
  rfl
theorem shape_cells {w : World} {b : Nat} {cs : Array Value} {t : TypeId} {f : Nat × Nat} (h : w.heap[b]? = some (.cells cs t f)) : w.shape? b = some (t, cs.size) := by
  unfold World.shape?
  rw [h]
theorem frozen_cells {w : World} {b j : Nat} {cs : Array Value} {t : TypeId} (h : w.heap[b]? = some (.cells cs t (0, 0))) : w.frozen? ⟨b, j, none⟩ = false := by
  unfold World.frozen?
  rw [h]; simp
set_option maxRecDepth 100000 in
theorem insR_room (d : Ds) (r : Rec) (g cap i vb B : Nat) (w : World) (hO : OR w B (.slice (some ⟨g, 0, none⟩) d.length cap) d) (hi : i < d.length) (hl : d.length ≤ 64) (hc : d.length + 1 ≤ cap) (hB : B ≤ w.heap.size) (hV : w.heap[vb]? = some (.cells #[strV r.1, strV r.2] 59 (0, 0))) (hne : vb ≠ g) :
    Calls Tryz.prog 67 #[.slice (some ⟨g, 0, none⟩) d.length cap, .int .i64 (i : Int), .slice (some ⟨vb, 0, none⟩) 1 1] w (InsP B (some g) (d.take i ++ r :: d.drop i) w) := by
  have hg : ∃ cur, w.heap[g]? = some (.cells cur 59 (0, 0)) ∧ cur.size = cap * 2 ∧ cap ≤ maxLen := by
    obtain ⟨-, ⟨hv, -⟩ | ⟨g', cap', cur, hv, hb, hg, hnc, hcm, hcs, ht⟩⟩ := hO
    · cases hv
    · simp only [Value.slice.injEq, Option.some.injEq, Addr.mk.injEq] at hv
      obtain ⟨⟨rfl, -, -⟩, -, rfl⟩ := hv
      exact ⟨cur, hg, hcs, hcm⟩
  obtain ⟨cur, hg, hcs, hcm⟩ := hg
  have hov := fun (lb cb : Nat) => overlaps_no w ⟨vb, 0, none⟩ ⟨g, (i + 1) * 2, none⟩ 1 1 lb cb hne _ _ _ _ (shape_cells hV) (shape_cells hg) (by rw [hcs]; omega) (frozen_cells hV) (frozen_cells hV)
  obtain ⟨N, hN⟩ : ∃ N, d.length = N := ⟨_, rfl⟩
  rw [hN] at hO hi hl hc ⊢
  obtain ⟨w1, w2, h1, h2, h3, h4⟩ := exec_shiftR hO hN hi hc hV hne
  rw [show N + 1 - (i + 1) = N - i by omega] at h1
  have H1 := hid h1; have H2 := hid h2; have H3 := hid h3; have H4 := hid h4
  have hcm' : cap ≤ 9223372036854775807 := by unfold maxLen at hcm; omega
  clear h1 h2 h3 h4 hg hcs hO hV hN hcm
  have z1 : ((i : Int) == (N : Int)) = false := by rw [beq_eq_false_iff_ne]; omega
  have z2 : (i : Int) ≤ (N : Int) := by omega
  have z3 : ¬ ((cap : Int) < (N : Int) + 1) := by omega
  have z4 : (0 : Int) ≤ (N : Int) + 1 := by omega
  have z5 : (N : Int) + 1 ≤ (cap : Int) := by omega
  have z6 : ((N : Int) + 1).toNat = N + 1 := by omega
  have z7 : (0 : Int) ≤ (i : Int) + 1 := by omega
  have z8 : (i : Int) + 1 ≤ ((N + 1 : Nat) : Int) := by omega
  have z8' : (i : Int) + 1 ≤ (N : Int) + 1 := by omega
  have z9 : ((i : Int) + 1).toNat = i + 1 := by omega
  have z10 : (i : Int) ≤ (N : Int) + 1 := by omega
  have c1 : cutR g (i + 1) cap = ⟨g, (i + 1) * 2, none⟩ := cutR_lt (by omega)
  have c2 : cutR g i cap = ⟨g, i * 2, none⟩ := cutR_lt (by omega)
  have w0 : IntKind.i64.wrap ((i : Int) + 1) = (i : Int) + 1 := IntWalk.i64_in _ ⟨by omega, by omega⟩
  go_enter Tryz.func67, Tryz.ntmps67
  go_wp2_with (simp only [hov])
  go_region_law (refine step_copy_runI rfl _ _ 69 69 rfl (.slice (some ⟨g, (i + 1) * 2, none⟩) (N - i) (cap - (i + 1))) (.slice (some ⟨g, i * 2, none⟩) (N + 1 - i) (cap - i)) (by simp [Act.eval, Act.put]) (by simp [Act.eval, Act.put]) (H1.out _ _ _) ?_)
  have hcp := H2.out 3 (cap - i)
  go_wp2_with (simp only [hcp])
  go_ret
  exact ⟨_, rfl, H3.out, H4.out⟩
set_option maxRecDepth 100000 in
theorem insR_grow (d : Ds) (r : Rec) (g cap i vb B : Nat) (w : World) (hO : OR w B (.slice (some ⟨g, 0, none⟩) d.length cap) d) (hi : i < d.length) (hl : d.length ≤ 64) (hc : ¬ d.length + 1 ≤ cap) (hB : B ≤ w.heap.size) (hV : w.heap[vb]? = some (.cells #[strV r.1, strV r.2] 59 (0, 0))) :
    Calls Tryz.prog 67 #[.slice (some ⟨g, 0, none⟩) d.length cap, .int .i64 (i : Int), .slice (some ⟨vb, 0, none⟩) 1 1] w (InsP B (some g) (d.take i ++ r :: d.drop i) w) := by
  obtain ⟨g', cap', hv, hgB, hgl, hgc, -, -⟩ := hO.cells (by omega)
  simp only [Value.slice.injEq, Option.some.injEq, Addr.mk.injEq, true_and, and_true] at hv
  obtain ⟨rfl, rfl⟩ := hv
  obtain ⟨N, hN⟩ : ∃ N, d.length = N := ⟨_, rfl⟩
  rw [hN] at hO hi hl hc hgc ⊢
  have hcN : cap = N := by omega
  subst hcN
  obtain ⟨G, w1, w2, w3, hG, h1, h2, h3, h4, h5⟩ := exec_growR hO hN hi (by omega) (by omega) hB hV
  rw [show cap + 1 - (i + 1) = cap - i by omega] at h3
  have hGm : G ≤ 9223372036854775807 := by
    obtain ⟨-, ⟨hv, -⟩ | ⟨g', cap', cur, hv, hb, hg, hnc, hcm, hcs, ht⟩⟩ := h4
    · cases hv
    · simp only [Value.slice.injEq] at hv
      obtain ⟨-, -, rfl⟩ := hv
      unfold maxLen at hcm; omega
  have H1 := hid h1; have H2 := hid h2; have H3 := hid h3; have H4 := hid h4; have H5 := hid (below_grow h5 (some g))
  clear h1 h2 h3 h4 h5 hO hV hN hgc
  obtain ⟨S, hS⟩ : ∃ S, w.heap.size = S := ⟨_, rfl⟩
  rw [hS] at H1 H2 H3 H4
  clear hS
  have z1 : ((i : Int) == (cap : Int)) = false := by rw [beq_eq_false_iff_ne]; omega
  have z2 : (i : Int) ≤ (cap : Int) := by omega
  have z3 : (cap : Int) < (cap : Int) + 1 := by omega
  have z6 : (cap : Int) + 1 - (i : Int) = ((cap + 1 - i : Nat) : Int) := by omega
  have z7 : (0 : Int) ≤ (i : Int) + 1 := by omega
  have z8 : (i : Int) + 1 ≤ ((cap + 1 : Nat) : Int) := by omega
  have z8' : (i : Int) + 1 ≤ (cap : Int) + 1 := by omega
  have z9 : ((i : Int) + 1).toNat = i + 1 := by omega
  have z10 : (i : Int) ≤ (cap : Int) + 1 := by omega
  have z11 : (i : Int) ≤ ((cap + 1 : Nat) : Int) := by omega
  have c1 : cutR S (i + 1) G = ⟨S, (i + 1) * 2, none⟩ := cutR_lt (by omega)
  have c2 : cutR S i G = ⟨S, i * 2, none⟩ := cutR_lt (by omega)
  have c3 : cutR g i cap = ⟨g, i * 2, none⟩ := cutR_lt (by omega)
  have w0 : IntKind.i64.wrap ((i : Int) + 1) = (i : Int) + 1 := IntWalk.i64_in _ ⟨by omega, by omega⟩
  have hap := H1.out 69
  have hcp := H2.out 3 (G - i)
  go_enter Tryz.func67, Tryz.ntmps67
  go_wp2_with (first | (at_builtin; refine Lib.wpList_append_run _ rfl _ _ _ _ rfl _ _ rfl rfl _ _ hap ?_) | simp only [hcp])
  go_region_law (refine step_copy_runI rfl _ _ 69 69 rfl (.slice (some ⟨S, (i + 1) * 2, none⟩) (cap - i) (G - (i + 1))) (.slice (some ⟨g, i * 2, none⟩) (cap - i) (cap - i)) (by simp [Act.eval, Act.put]) (by simp [Act.eval, Act.put]) (H3.out _ _ _) ?_)
  go_wp2_with fail
  go_ret
  exact ⟨_, rfl, H4.out, H5.out⟩
/-- One record put in between. -/
theorem insR_any (d : Ds) (r : Rec) (v : Value) (i vb B : Nat) (w : World) (hO : OR w B v d) (hi : i ≤ d.length) (hl : d.length ≤ 64) (hB : B ≤ w.heap.size) (hV : w.heap[vb]? = some (.cells #[strV r.1, strV r.2] 59 (0, 0))) (hne : v.ownBlock ≠ some vb) :
    Calls Tryz.prog 67 #[v, .int .i64 (i : Int), .slice (some ⟨vb, 0, none⟩) 1 1] w (InsP B v.ownBlock (d.take i ++ r :: d.drop i) w) := by
  by_cases h : i = d.length
  · subst h
    rw [List.take_length, List.drop_length]
    exact insR_end d r v vb B w hO hl hB hV
  · obtain ⟨g, cap, rfl, -⟩ := hO.cells (by omega)
    have hb : (Value.slice (some ⟨g, 0, none⟩) d.length cap).ownBlock = some g := rfl
    rw [hb] at hne ⊢
    by_cases hc : d.length + 1 ≤ cap
    · exact insR_room d r g cap i vb B w hO (by omega) hl hc hB hV (fun e => hne (by rw [e]))
    · exact insR_grow d r g cap i vb B w hO (by omega) hl hc hB hV
end Go.Proofs.YtifcgimpgbeocaaGreat
