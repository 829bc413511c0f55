/- The walk of (heap).add at an area. -/
import Derived.Test.YtcfmimfkaabmkaaO1
set_option linter.unusedVariables false
set_option linter.unusedSimpArgs false
namespace Go.Proofs.Ytcfmimfkaabmkaa
open Go.RowKit
attribute [local go_sem] Oper.semAt_some
attribute [local irreducible] num
set_option maxHeartbeats 4000000 in
set_option maxRecDepth 100000 in
theorem add_any (b g off mcap : Nat) (l : List UInt8) (lay : Lay) (p : Nat) (s m : List UInt8) (w : World) (hA : Area l lay) (hB : Bytes w b l) (hp8 : p % 8 = 0) (hpe : endOf 8 lay + 8 ≤ p) (hend : p + upN s.length ≤ l.length) (hs1 : 1 ≤ s.length)
    (hm : m = s ++ zs (m.length - s.length)) (hml : m.length ≤ upN s.length) (hgb : g ≠ b) (hgl : g < w.heap.size) (hcm : ∀ i, i < m.length → w.cell? ⟨g, off + i, none⟩ = some (.int .u8 (byt m i))) :
    Calls Try.prog 73 #[.slice (some ⟨b, 0, none⟩) l.length l.length, .agg #[.int .i64 ((p : Int) - 8), .int .i64 s.length, .int .i64 1], .slice (some ⟨g, off, none⟩) m.length mcap] w (fun e w' => e = .returned (.tuple #[]) ∧ Bytes w' b (render l.length (lay ++ [(p, s)])) ∧ w.grownBy w' (some b)) := by
  have hlen := (area_num4 hA).2
  obtain ⟨hres, hnum⟩ := add_render (N := l.length) (m := m) hA.2.2.1 hp8 hpe hend hA.2.1 hm hml hlen
  rw [← hA.2.2.2.2] at hres hnum
  obtain ⟨h0, h8⟩ := area_num0 hA
  have hl1 := hA.1
  have hl2 := hA.2.1
  have hge := hA.2.2.2.1
  have HN := fun (W : World) (h : Bytes W b l) => hend_any b l.length l.length l W h rfl (by omega) (Nat.le_refl _) (by omega)
  obtain ⟨en, hen⟩ : ∃ en, endOf 8 lay = en := ⟨_, rfl⟩
  rw [hen] at h0 h8 hge hpe hres hnum
  rw [h0, show (8 : Int) + ((en - 8 : Nat) : Int) = (en : Int) by omega] at HN
  have HN := hid HN
  have HRES := hid hres; have HNUM := hid hnum
  have hub := upN_bd s.length
  have huz : upZ (s.length : Int) = (upN s.length : Int) := upZ_nat _
  have hsl : s.length ≤ m.length := by
    have h := congrArg List.length hm
    rw [List.length_append, zs_length] at h; omega
  have hbl := hB.lt
  have hne : some w.heap.size ≠ some b := fun e => by cases e; omega
  have hpart0 : ∀ W, w.grownBy W (some b) → Part W (some ⟨g, off, none⟩) m := fun W hg => .inr ⟨_, rfl, fun j v hj => by
    have hjl : j < m.length := by
      have := (List.getElem?_eq_some_iff.1 hj).1
      rwa [cellsB_length] at this
    rw [addr_add, hg.cell (hcm j hjl) (fun e => hgb (Option.some.inj e)), ← hj]
    simp [cellsB, byt, List.getElem?_eq_getElem hjl]⟩
  have HPART := hid hpart0
  have hg8 : p - 8 - en = 0 ∨ 8 ≤ p - 8 - en := by
    have := endOf_8 (e := 8) rfl hA.2.2.1
    rw [hen] at this
    omega
  have hB0 : Bytes (w.alloc (.cells #[.int .i64 ((p : Int) - 8), .int .i64 s.length, .int .i64 1] 88)) b l := hB.below ((Below.refl _ _).alloc (Nat.le_refl _) _) hbl
  have HB0 := hid hB0
  have HG0 : Hid (w.grownBy (w.alloc (.cells #[.int .i64 ((p : Int) - 8), .int .i64 s.length, .int .i64 1] 88)) (some b)) := below_grow ((Below.refl _ _).alloc (Nat.le_refl _) _) _
  have c0 : (w.alloc (.cells #[.int .i64 ((p : Int) - 8), .int .i64 s.length, .int .i64 1] 88)).cell? ⟨w.heap.size, 0, none⟩ = some (.int .i64 ((p : Int) - 8)) := cell_new _ _ _ 0 _ rfl
  have c1 : (w.alloc (.cells #[.int .i64 ((p : Int) - 8), .int .i64 s.length, .int .i64 1] 88)).cell? ⟨w.heap.size, 1, none⟩ = some (.int .i64 s.length) := cell_new _ _ _ 1 _ rfl
  have c2 : (w.alloc (.cells #[.int .i64 ((p : Int) - 8), .int .i64 s.length, .int .i64 1] 88)).cell? ⟨w.heap.size, 2, none⟩ = some (.int .i64 1) := cell_new _ _ _ 2 _ rfl
  clear hA h0 hen hres hnum hB hpart0 hm hcm hB0
  go_enter Try.func73, Try.ntmps73
  go_wp2_with fail
  obtain ⟨W0, hW0⟩ : ∃ W0, w.alloc (.cells #[.int .i64 ((p : Int) - 8), .int .i64 s.length, .int .i64 1] 88) = W0 := ⟨_, rfl⟩
  rw [hW0] at c0 c1 c2 HB0 HG0 ⊢
  clear hW0
  go_quiet ((go_at_call 65; exact Calls.quiet_of_same (((show ∀ (n : Nat), Calls Try.prog 65 #[.slice (some ⟨b, 0, none⟩) l.length l.length] (W0.drewN n) _ from fun n => HN.out (W0.drewN n) HB0.out) _).mono (fun _ _ h => ⟨h.1, h.2.symm⟩))))
  have HBA0 : Hid (Bytes (W0.drewN nq) b l) := HB0.out
  have HGA0 : Hid (w.grownBy (W0.drewN nq) (some b)) := grown_trans HG0.out (below_grow (below_drewN (Below.refl _ _) _) _)
  have c0 : (W0.drewN nq).cell? ⟨w.heap.size, 0, none⟩ = some (.int .i64 ((p : Int) - 8)) := c0
  have c1 : (W0.drewN nq).cell? ⟨w.heap.size, 1, none⟩ = some (.int .i64 s.length) := c1
  have c2 : (W0.drewN nq).cell? ⟨w.heap.size, 2, none⟩ = some (.int .i64 1) := c2
  obtain ⟨W1, hW1⟩ : ∃ W1, W0.drewN nq = W1 := ⟨_, rfl⟩
  rw [hW1] at c0 c1 c2 HBA0 HGA0 ⊢
  clear hW1
  by_cases hgap : p - 8 - en = 0
  · have hd : decide ((0 : Int) < (p : Int) - 8 - en) = false := by simp; omega
    obtain ⟨l1, hl1⟩ : ∃ l1, (if p - 8 - en = 0 then l else putHead l en ((p : Int) - 8 - en - 8) 2) = l1 := ⟨_, rfl⟩
    have hll : l1 = l := by rw [← hl1, if_pos hgap]
    have hl1l : l1.length = l.length := by rw [hll]
    have HL1 := hid hl1
    have HBA : Hid (Bytes W1 b l1) := by unfold Hid; rw [hll]; exact HBA0.out
    have HGA := HGA0
    clear hll hl1

    go_wp2_with fail
    refine (head_any b l.length l.length l1 ((p : Int) - 8) s.length 1 _ HBA.out (by omega) (by omega) (by omega) (Nat.le_refl _) (by omega) (by omega) (by omega) (by omega) (by omega)).mono ?_
    rintro e2 wB ⟨rfl, hBB, hgB⟩
    have hBB : Bytes wB b (putHead l1 ((p : Int) - 8) s.length 1) := hBB
    obtain ⟨l2, hl2⟩ : ∃ l2, putHead l1 ((p : Int) - 8) s.length 1 = l2 := ⟨_, rfl⟩
    rw [hl2] at hBB
    have hl2l : l2.length = l.length := by rw [← hl2]; simp only [putHead, setL_length]; omega
    have c0 := hgB.cell c0 hne; have c1 := hgB.cell c1 hne; have c2 := hgB.cell c2 hne
    have HGB := hid (grown_trans HGA.out hgB)
    have HBB := hid hBB; have HL2 := hid hl2
    clear hBB hgB hl2
    go_wp2_with fail
    refine (bytes_any (upN s.length) b l.length l.length ((p : Int) - 8) s.length 1 _ huz (by omega) (by omega) (by omega) (by omega) (by omega) (Nat.le_refl _)).mono ?_
    rintro e3 wC ⟨⟨o', rfl, ho'⟩, hbC⟩
    have c0 := keepc hbC c0; have c1 := keepc hbC c1; have c2 := keepc hbC c2
    have ho2 := ho' (by omega)
    rw [show ((p : Int) - 8 + 8).toNat = p by omega] at ho2
    subst ho2
    have hBC := HBB.out.below hbC HBB.out.lt
    have HGC := hid (grown_trans HGB.out (below_grow hbC (some b)))
    have hpart : Part wC (some ⟨g, off, none⟩) m := HPART.out wC HGC.out
    obtain ⟨wD, hcp, hBD, hgD⟩ := run_copy_sl 31 31 under31 wC b p (upN s.length) (upN s.length) m.length mcap (some ⟨g, off, none⟩) l2 m hBC (Nat.min_eq_left hml).symm (by omega) hpart (some ⟨b, p, none⟩) (fun _ => rfl) (fun _ => .inr ⟨_, rfl⟩)
    have c0 := hgD.cell c0 hne; have c1 := hgD.cell c1 hne; have c2 := hgD.cell c2 hne
    obtain ⟨l3, hl3⟩ : ∃ l3, over l2 p m = l3 := ⟨_, rfl⟩
    rw [hl3] at hBD
    have hl3l : l3.length = l.length := by rw [← hl3, over_length _ _ _ (by omega)]; omega
    have HBD := hid hBD; have HGD := hid (grown_trans HGC.out hgD); have HL3 := hid hl3
    clear hbC ho' hBC hpart hBD hgD hl3
    go_wp2_with fail
    refine (end_any ((p : Int) - 8) s.length 1 _ (by omega) (by omega) (by omega) (by omega)).mono ?_
    rintro e4 wE ⟨rfl, hbE⟩
    have HBE := hid (HBD.out.below hbE HBD.out.lt)
    have HGE := hid (grown_trans HGD.out (below_grow hbE (some b)))
    clear hbE
    have hwE : IntKind.i64.wrap ((p : Int) - 8 + 8 + upZ (s.length : Int) - 8) = ((p + upN s.length - 8 : Nat) : Int) := by rw [huz, IntWalk.i64_in _ ⟨by omega, by omega⟩]; omega
    go_wp2_with fail
    clear hwE
    refine (set_any b l.length l.length l3 0 ((p : Int) + (upN s.length : Int) - 8) _ HBE.out hl3l (by omega) (by omega) (Nat.le_refl _) (by omega) (by omega) (by omega)).mono ?_
    rintro e5 wF ⟨rfl, hBF, hgF, -⟩
    rw [show ((p : Int) + (upN s.length : Int) - 8).toNat = p + upN s.length - 8 by omega, show (0 : Int).toNat = 0 from rfl] at hBF
    obtain ⟨l4, hl4⟩ : ∃ l4, setL l3 0 (p + upN s.length - 8) = l4 := ⟨_, rfl⟩
    rw [hl4] at hBF
    have hl4l : l4.length = l.length := by rw [← hl4, setL_length]; omega
    have HGF := hid (grown_trans HGE.out hgF)
    have HBF := hid hBF; have HL4 := hid hl4
    clear hBF hgF hl4
    have hn4 : num l4 4 = (lay.length : Int) := by rw [← HL4.out, ← HL3.out, ← HL2.out, ← HL1.out]; exact HNUM.out
    have HGA4 := get_any b l.length l.length l4 4 wF HBF.out hl4l (by omega) (by omega) (Nat.le_refl _) (by omega)
    rw [show (4 : Int).toNat = 4 from rfl, hn4] at HGA4
    have HGA4 := hid HGA4
    go_wp2_with fail
    refine HGA4.out.mono ?_
    rintro e6 w6 ⟨rfl, rfl⟩
    go_wp2_with fail
    refine (set_any b l.length l.length l4 4 ((lay.length : Int) + 1) _ HBF.out hl4l (by omega) (by omega) (Nat.le_refl _) (by omega) (by omega) (by omega)).mono ?_
    rintro e7 wG ⟨rfl, hBG, hgG, -⟩
    have hfin : setL l4 4 ((lay.length : Int) + 1).toNat = render l.length (lay ++ [(p, s)]) := by
      rw [← HRES.out, ← hn4, ← HL4.out, ← HL3.out, ← HL2.out, ← HL1.out]; rfl
    rw [show (4 : Int).toNat = 4 from rfl, hfin] at hBG
    have HBG := hid hBG; have HGG := hid (grown_trans HGF.out hgG)
    clear hBG hgG hfin
    go_wp2_with fail
    go_end0
    exact ⟨rfl, HBG.out, HGG.out⟩
  · have hd : decide ((0 : Int) < (p : Int) - 8 - en) = true := by simp; omega
    obtain ⟨l1, hl1⟩ : ∃ l1, (if p - 8 - en = 0 then l else putHead l en ((p : Int) - 8 - en - 8) 2) = l1 := ⟨_, rfl⟩
    have hll : l1 = putHead l en ((p : Int) - 8 - en - 8) 2 := by rw [← hl1, if_neg hgap]
    have hl1l : l1.length = l.length := by rw [hll]; simp only [putHead, setL_length]
    have HL1 := hid hl1
    have HLL := hid hll
    clear hll hl1
    go_wp2_with fail
    refine (HN.out _ HBA0.out).mono ?_
    rintro e0 wx ⟨rfl, rfl⟩
    go_wp2_with fail
    refine (head_any b l.length l.length l en ((p : Int) - 8 - en - 8) 2 _ HBA0.out rfl (by omega) (by omega) (Nat.le_refl _) (by omega) (by omega) (by omega) (by omega) (by omega)).mono ?_
    rintro e1 wA ⟨rfl, hBA, hgA⟩
    have HBA : Hid (Bytes wA b l1) := by unfold Hid; rw [HLL.out]; exact hBA
    have c0 := hgA.cell c0 hne; have c1 := hgA.cell c1 hne; have c2 := hgA.cell c2 hne
    have HGA := hid (grown_trans HGA0.out hgA)
    clear hBA hgA

    go_wp2_with fail
    refine (head_any b l.length l.length l1 ((p : Int) - 8) s.length 1 _ HBA.out (by omega) (by omega) (by omega) (Nat.le_refl _) (by omega) (by omega) (by omega) (by omega) (by omega)).mono ?_
    rintro e2 wB ⟨rfl, hBB, hgB⟩
    have hBB : Bytes wB b (putHead l1 ((p : Int) - 8) s.length 1) := hBB
    obtain ⟨l2, hl2⟩ : ∃ l2, putHead l1 ((p : Int) - 8) s.length 1 = l2 := ⟨_, rfl⟩
    rw [hl2] at hBB
    have hl2l : l2.length = l.length := by rw [← hl2]; simp only [putHead, setL_length]; omega
    have c0 := hgB.cell c0 hne; have c1 := hgB.cell c1 hne; have c2 := hgB.cell c2 hne
    have HGB := hid (grown_trans HGA.out hgB)
    have HBB := hid hBB; have HL2 := hid hl2
    clear hBB hgB hl2
    go_wp2_with fail
    refine (bytes_any (upN s.length) b l.length l.length ((p : Int) - 8) s.length 1 _ huz (by omega) (by omega) (by omega) (by omega) (by omega) (Nat.le_refl _)).mono ?_
    rintro e3 wC ⟨⟨o', rfl, ho'⟩, hbC⟩
    have c0 := keepc hbC c0; have c1 := keepc hbC c1; have c2 := keepc hbC c2
    have ho2 := ho' (by omega)
    rw [show ((p : Int) - 8 + 8).toNat = p by omega] at ho2
    subst ho2
    have hBC := HBB.out.below hbC HBB.out.lt
    have HGC := hid (grown_trans HGB.out (below_grow hbC (some b)))
    have hpart : Part wC (some ⟨g, off, none⟩) m := HPART.out wC HGC.out
    obtain ⟨wD, hcp, hBD, hgD⟩ := run_copy_sl 31 31 under31 wC b p (upN s.length) (upN s.length) m.length mcap (some ⟨g, off, none⟩) l2 m hBC (Nat.min_eq_left hml).symm (by omega) hpart (some ⟨b, p, none⟩) (fun _ => rfl) (fun _ => .inr ⟨_, rfl⟩)
    have c0 := hgD.cell c0 hne; have c1 := hgD.cell c1 hne; have c2 := hgD.cell c2 hne
    obtain ⟨l3, hl3⟩ : ∃ l3, over l2 p m = l3 := ⟨_, rfl⟩
    rw [hl3] at hBD
    have hl3l : l3.length = l.length := by rw [← hl3, over_length _ _ _ (by omega)]; omega
    have HBD := hid hBD; have HGD := hid (grown_trans HGC.out hgD); have HL3 := hid hl3
    clear hbC ho' hBC hpart hBD hgD hl3
    go_wp2_with fail
    refine (end_any ((p : Int) - 8) s.length 1 _ (by omega) (by omega) (by omega) (by omega)).mono ?_
    rintro e4 wE ⟨rfl, hbE⟩
    have HBE := hid (HBD.out.below hbE HBD.out.lt)
    have HGE := hid (grown_trans HGD.out (below_grow hbE (some b)))
    clear hbE
    have hwE : IntKind.i64.wrap ((p : Int) - 8 + 8 + upZ (s.length : Int) - 8) = ((p + upN s.length - 8 : Nat) : Int) := by rw [huz, IntWalk.i64_in _ ⟨by omega, by omega⟩]; omega
    go_wp2_with fail
    clear hwE
    refine (set_any b l.length l.length l3 0 ((p : Int) + (upN s.length : Int) - 8) _ HBE.out hl3l (by omega) (by omega) (Nat.le_refl _) (by omega) (by omega) (by omega)).mono ?_
    rintro e5 wF ⟨rfl, hBF, hgF, -⟩
    rw [show ((p : Int) + (upN s.length : Int) - 8).toNat = p + upN s.length - 8 by omega, show (0 : Int).toNat = 0 from rfl] at hBF
    obtain ⟨l4, hl4⟩ : ∃ l4, setL l3 0 (p + upN s.length - 8) = l4 := ⟨_, rfl⟩
    rw [hl4] at hBF
    have hl4l : l4.length = l.length := by rw [← hl4, setL_length]; omega
    have HGF := hid (grown_trans HGE.out hgF)
    have HBF := hid hBF; have HL4 := hid hl4
    clear hBF hgF hl4
    have hn4 : num l4 4 = (lay.length : Int) := by rw [← HL4.out, ← HL3.out, ← HL2.out, ← HL1.out]; exact HNUM.out
    have HGA4 := get_any b l.length l.length l4 4 wF HBF.out hl4l (by omega) (by omega) (Nat.le_refl _) (by omega)
    rw [show (4 : Int).toNat = 4 from rfl, hn4] at HGA4
    have HGA4 := hid HGA4
    go_wp2_with fail
    refine HGA4.out.mono ?_
    rintro e6 w6 ⟨rfl, rfl⟩
    go_wp2_with fail
    refine (set_any b l.length l.length l4 4 ((lay.length : Int) + 1) _ HBF.out hl4l (by omega) (by omega) (Nat.le_refl _) (by omega) (by omega) (by omega)).mono ?_
    rintro e7 wG ⟨rfl, hBG, hgG, -⟩
    have hfin : setL l4 4 ((lay.length : Int) + 1).toNat = render l.length (lay ++ [(p, s)]) := by
      rw [← HRES.out, ← hn4, ← HL4.out, ← HL3.out, ← HL2.out, ← HL1.out]; rfl
    rw [show (4 : Int).toNat = 4 from rfl, hfin] at hBG
    have HBG := hid hBG; have HGG := hid (grown_trans HGF.out hgG)
    clear hBG hgG hfin
    go_wp2_with fail
    go_end0
    exact ⟨rfl, HBG.out, HGG.out⟩
end Go.Proofs.Ytcfmimfkaabmkaa
