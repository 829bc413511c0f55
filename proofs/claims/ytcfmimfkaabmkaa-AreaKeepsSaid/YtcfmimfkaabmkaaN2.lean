/- The walk of area.Gaps. -/
import Derived.Test.YtcfmimfkaabmkaaN1
import Derived.Test.YtcfmimfkaabmkaaL1
set_option linter.unusedVariables false
set_option linter.unusedSimpArgs false
namespace Go.Proofs.Ytcfmimfkaabmkaa
open Go.RowKit
attribute [local go_sem] Oper.semAt_some
attribute [local irreducible] num
def gapsAct (l : List UInt8) (B X : Nat) (Bx : Nat) (u : Int × Int × Int) : Act := { defers := [], tmps := #[.string ⟨l.toArray⟩, undef, .slice none 0 0, .int .i64 0, .slice (some ⟨B, 0, none⟩) l.length l.length, .bool true, .pointer (some ⟨X, 0, none⟩), .pointer (some ⟨Bx, 0, none⟩), undef,
  .tuple #[.slice (some ⟨B, 0, none⟩) l.length l.length, .bool true], .string ⟨l.toArray⟩, .tuple #[.slice (some ⟨B, 0, none⟩) l.length l.length, .bool true], .slice (some ⟨B, 0, none⟩) l.length l.length, .bool true, .bool true, .bool false,
  .slice (some ⟨B, 0, none⟩) l.length l.length, .func (.func 84) #[] #[.pointer (some ⟨X + 1, 0, none⟩)], .agg #[.int .i64 u.1, .int .i64 u.2.1, .int .i64 u.2.2],
  undef, undef, undef, undef, undef, undef, undef, undef, undef, undef, undef, undef, undef, undef, undef, undef, undef, undef, undef, undef, undef, undef, undef, undef, undef, undef] }
def gapsCfg (l : List UInt8) (B X D : Nat) (W0 : World) (en : Nat) (gp : Int) (v : Value) (n : Nat) (xs : List Value) (hX : X < W0.heap.size) (hD : W0.heap.size ≤ D) (hBX : B < X) : AppCfg where
  X := X
  n0 := W0.heap.size
  ty := 37
  sz := 2
  fx := fun i => match i with
    | 0 => some v
    | 1 => some (.slice (some ⟨B, 0, none⟩) l.length l.length)
    | 2 => some (.int .i64 (en : Int))
    | 3 => some (.int .i64 ((en : Int) + 8))
    | 4 => some (.int .i64 ((l.length : Int) - en))
    | 5 => some (.int .i64 ((l.length : Int) - en - 8))
    | 6 => some (.int .i64 gp)
    | 7 => some (.agg #[.int .i64 ((en : Int) + 8), .int .i64 gp])
    | _ => none
  is := 8
  ia := 9
  it := 10
  v := v
  n := n
  xs := xs
  es := [.int .i64 ((en : Int) + 8), .int .i64 gp]
  R := fun W => Below X W0 W ∧ W.heap[D]? = some (.deferred (some [])) ∧ Bytes W B l
  hX := hX
  hle := fun W h => h.1.size
  rB := fun W W' h hb => ⟨h.1.trans (hb.mono (by have := h.1.size; omega)), (hb.block D (Array.getElem?_eq_some_iff.1 h.2.1).1).trans h.2.1, h.2.2.below hb h.2.2.lt⟩
  rG := fun W W' h ho hg => by
    have hown : ∀ k, v.ownBlock = some k → W0.heap.size ≤ k := fun k hk => (World.ownsRow.lt ho k hk).1
    refine ⟨h.1.grown hg (by have := h.1.size; omega) (fun k hk => by have := hown k hk; omega), (hg.block D (Array.getElem?_eq_some_iff.1 h.2.1).1 (row_put ho h.2.1 rfl)).trans h.2.1, h.2.2.grown hg (fun e => by have := hown _ e; omega)⟩
  rS := fun W x h => ⟨h.1.setCell (Nat.le_refl _) x, (Below.heap_setCell _ _ _ _ (by show D ≠ X; omega)).trans h.2.1, (Below.heap_setCell _ _ _ _ (by show B ≠ X; omega)).trans h.2.2⟩
  his := rfl
  hia := rfl
  hit := rfl
  h1 := by decide
  h2 := by decide
  h3 := by decide
set_option maxHeartbeats 2000000 in
set_option maxRecDepth 100000 in
theorem gaps_main (l : List UInt8) (w : World) (hl : l.length ≤ maxLen) (h : openS l = true) : Calls Try.prog 48 #[.string ⟨l.toArray⟩] w (PiecesPost (gapsL l.length (layD l), 0) w) := by
  have hA := area_D h
  have hu := (area_units hA).1
  have hue := (area_units hA).2
  have hend := hA.2.2.2.1
  have h1 := hA.1
  have h2 := hA.2.1
  have hmk := markP_gaps (layD l) true 8 hA.2.2.1
  obtain ⟨us, hus⟩ : ∃ us, unitsOf 8 (layD l) = us := ⟨_, rfl⟩
  rw [hus] at hu hmk
  unfold gapsL
  rw [← hmk]
  have HBD := hid (us_bd hu (by omega))
  have h3 : 8 + num l 0 ≤ l.length := by omega
  have HO := hid (fun w => open_l l w hl)
  have HH := hid h
  have HU := hid hu
  have HUL := hid (ul_length hu (by omega))
  have H3 := hid h3
  have HNE := fun W (hB : ∀ B, Bytes W B l → True) => True
  obtain ⟨h0n, h8n⟩ := area_num0 hA
  obtain ⟨en, hen⟩ : ∃ en, endOf 8 (layD l) = en := ⟨_, rfl⟩
  rw [hen] at h0n h8n hend
  rw [hen]
  have HN := fun (W : World) (B : Nat) (hB : Bytes W B l) => hend_any B l.length l.length l W hB rfl (by omega) (Nat.le_refl _) (by omega)
  rw [h0n, show (8 : Int) + ((en - 8 : Nat) : Int) = (en : Int) by omega] at HN
  have HN := hid HN
  clear HNE h0n hen h8n
  clear h hA hue hus hmk hu h3
  refine (callsIn_wide (n := 0)).1 (callsIn_of_wp_marks Try.func48 rfl trivial ?_ rfl)
  simp only [Try.ntmps48, List.size_toArray, List.length_cons, List.length_nil, Nat.reduceAdd, Nat.reduceSub, Array.replicate_succ, Array.replicate_zero, List.push_toArray, List.append_toArray, List.nil_append, List.cons_append]
  gi_wp2_with fail
  refine ⟨trivial, rfl, ?_⟩
  refine (callsIn_wide.2 (HO.out _)).mono ?_
  rintro e w1 ⟨hb1, hx⟩
  rw [HH.out, if_pos rfl] at hx
  obtain ⟨B, rfl, hB, hBl⟩ := hx
  have HB1 := hid hb1; have HB := hid hB
  have hBlt : B < w1.heap.size := hB.lt
  have hz1 := hb1.size
  clear hb1 hB
  gi_wp2_with fail
  refine ⟨trivial, rfl, ?_⟩
  refine (callsIn_wide.2 (units_any _ _ _ _ rfl _)).mono ?_
  rintro e w' ⟨rfl, rfl⟩
  gi_wp2_with fail
  obtain ⟨X, hX⟩ : ∃ X, w1.heap.size = X := ⟨_, rfl⟩
  obtain ⟨W0, hW0⟩ : ∃ W0, W0 = (w1.alloc (.cells #[.slice none 0 0] 33)).alloc (.cells #[.slice (some ⟨B, 0, none⟩) l.length l.length] 79) := ⟨_, rfl⟩
  rw [← hW0]
  rw [hX]
  have hz0 : W0.heap.size = X + 2 := by rw [hW0, ← hX]; simp
  have hb0 : Below X w1 W0 := by rw [hW0, ← hX]; exact ((Below.refl w1.heap.size w1).alloc (Nat.le_refl _) _).alloc (by simp) _
  have c0 : W0.cell? ⟨X, 0, none⟩ = some (.slice none 0 0) := by rw [hW0, ← hX]; go_simp
  have o0 : OwnC W0 ⟨X, 0, none⟩ := by rw [hW0, ← hX]; exact own_alloc (ownc_new _ _ _ 0 (by decide)) _
  have c1 : W0.cell? ⟨X + 1, 0, none⟩ = some (.slice (some ⟨B, 0, none⟩) l.length l.length) := by rw [hW0, ← hX]; go_simp
  have hBX : B < X := by omega
  have HI0 : Hid (BlkI 2 us W0 X (.slice (some ⟨B, 0, none⟩) l.length l.length) 0 W0) := ⟨_, c0, o0, World.ownsRow_nil _ _ _ _, Below.refl _ _, c1⟩
  have HB0 := hid hb0
  have HX := hid hX
  have HWX : Hid (Below w.heap.size w W0) := HB1.out.trans (hb0.mono (by omega))
  have hBytes : ∀ W, Below X W0 W → Bytes W B l := fun W h => ((HB.out.below (hX ▸ hb0) (by omega)).below h hBX)
  have HBY := hid hBytes
  have hwX : w.heap.size ≤ X := by omega
  clear hW0 hb0 c0 o0 c1 hBytes hX
  have hn0 : X ≤ W0.heap.size := by omega
  have hz0a : X + 2 ≤ W0.heap.size := by omega
  clear hz0
  refine wp_rangeP (us := us.map encU) (R := Reads B (X + 1) l) rfl (enters_of Try.func84 (by kernel_rfl) rfl) (units_seqP B (X + 1) l us HU.out h1 h2 H3.out) ?hps
    (BlkI 2 us W0 X (.slice (some ⟨B, 0, none⟩) l.length l.length)) (fun _ _ _ => False) (UBoxP W0.heap.size us (gapsAct l B X) (BlkI 2 us W0 X (.slice (some ⟨B, 0, none⟩) l.length l.length)))
    ?hI ?hIx ?hAx ?hR ?h0 ?hassign ?hbody ?hdone ?hstop
  case hps =>
    intro k x hx
    obtain ⟨u, _, rfl⟩ := map_some hx
    rfl
  case hI => exact blkI_own _ _ _ _ _ _ hn0 (Nat.le_refl _)
  case hIx => exact fun c => ownF_pure _
  case hAx => exact uboxP_own (blkI_own _ _ _ _ _ _ hn0 (Nat.le_refl _))
  case hR => exact fun k W ⟨v, i1, i2, i3, i4, i5⟩ => ⟨HBY.out W i4, i5⟩
  case h0 => exact HI0.out
  case hassign =>
    intro lp k x W hx hi hsz
    obtain ⟨u, hu1, rfl⟩ := map_some hx
    simp only [encU]
    go_simp
    gi_wp2_with fail
    refine uboxP_new hu1 (by omega) rfl ?_
    obtain ⟨v, i1, i2, i3, i4, i5⟩ := hi
    exact ⟨v, keep_alloc i1 _, own_alloc i2 _, i3.below ((Below.refl _ _).alloc (Nat.le_refl _) _), i4.alloc (by omega) _, keep_alloc i5 _⟩
  case hbody =>
    rintro lp k x a₁ W hx ⟨Bx, u, ⟨hu1, hBx, rfl⟩, q0, q1, q2, qb, v, i1, i2, i3, i4, i5⟩ hsz
    have HSN := hid (markP_snoc 2 hu1)
    have hub := HBD.out u (List.mem_of_getElem? hu1)
    have hkl : k < us.length := (List.getElem?_eq_some_iff.1 hu1).1
    clear hx hu1
    obtain ⟨a, s, m⟩ := u
    simp only at q0 q1 q2 hub
    obtain ⟨hub0, hub1, hub2⟩ := hub
    have hup := upZ_bd s hub1
    have QB := hid qb; have I1 := hid i1; have I2 := hid i2; have I3 := hid i3; have I4 := hid i4; have I5 := hid i5
    clear qb i1 i2 i3 i4 i5
    unfold gapsAct
    by_cases hm : m = 2
    · have g0 : (m == 2) = true := by simpa using hm
      subst hm
      have HS2 : Hid (markP 2 (us.take (k + 1)) = markP 2 (us.take k) ++ [(a + 8, s)]) := by unfold Hid; rw [HSN.out, if_pos rfl]
      have hps : (markP 2 (us.take k)).length ≤ 1000000 := by
        have h := HUL.out
        have h2 := List.length_filter_le (fun u : Int × Int × Int => u.2.2 == 2) (us.take k)
        have h3 := List.length_take_le k us
        unfold markP
        rw [List.length_map]
        omega
      obtain ⟨ps, hpe⟩ : ∃ ps, markP 2 (us.take k) = ps := ⟨_, rfl⟩
      rw [hpe] at HS2 hps
      have I3 : Hid (OP W W0.heap.size v ps) := by have h := I3.out; rw [hpe] at h; exact h
      clear hpe HSN
      gi_wp2_with fail
      refine wpIn_region_freeX (open_round lp) (by kernel_rfl) (by kernel_rfl) (BlkS X W0.heap.size Bx (.slice (some ⟨B, 0, none⟩) l.length l.length) v (a, s, 2) ps W0 W) ?_ ?_
      · intro vals
        refine ⟨(RndP.refl _ _).drew, I4.out.drew, I5.out, I2.out, ⟨q0, q1, q2, QB.out⟩, fun h => by simp at h, fun h => by simp at h, fun h => by simp at h, fun h => by simp at h, fun _ => I3.out.below (Below.refl _ _).drew, fun h => by simp at h, fun _ => I1.out, fun h => by simp at h⟩
      intro vals
      have hX2 : X + 1 < W0.heap.size := by omega
      have hnW : W0.heap.size ≤ W.heap.size := by omega
      clear g0
      refine wpX_op rfl ?_ (fun K hK => ?_)
      · intro L w' hC hL hdep hS
        have h4 : L 4 = false := by
          cases h4 : L 4 with
          | false => rfl
          | true => have := hC 4 _ rfl h4 ⟨0, .data⟩ (by simp) rfl; rw [hL] at this; cases this
        have h5 : L 5 = false := by
          cases h5 : L 5 with
          | false => rfl
          | true => have := hC 5 _ rfl h5 ⟨4, .data⟩ (by simp) rfl; rw [h4] at this; cases this
        have c0 := hS.2.2.2.2.2.2.2.2.2.2.2.1 h5
        have HS := hid hS; clear hS
        go_simp
        exact blkS_0 HS.out
      go_simp; refine hK _ ?_; clear hK K
      refine wpX_op rfl ?_ (fun K hK => ?_)
      · intro L w' hC hL hdep hS
        obtain ⟨p0, p1, p2, -⟩ := hS.2.2.2.2.1
        have HS := hid hS; clear hS
        simp only at p0 p1 p2
        go_simp
        exact blkS_1 HS.out
      go_simp; refine hK _ ?_; clear hK K
      refine wpX_op rfl ?_ (fun K hK => ?_)
      · intro L w' hC hL hdep hS
        have e1 := hS.2.2.2.2.2.2.1 (hdep ⟨1, .data⟩ (by simp) rfl)
        have hz := hS.1.size
        have HS := hid hS; clear hS
        simp only at e1
        go_simp
        refine (piece_any a s 2 w' (by omega) (by have := H3.out; omega)).mono ?_
        rintro e w2 ⟨rfl, hb2⟩
        exact ⟨_, rfl, blkS_2 HS.out hb2 (by omega)⟩
      go_simp; refine hK _ ?_; clear hK K
      refine wpX_op rfl ?_ (fun K hK => ?_)
      · intro L w' hC hL hdep hS
        have e1 := hS.2.2.2.2.2.2.2.1 (hdep ⟨2, .data⟩ (by simp) rfl)
        have hz := hS.1.size
        have HS := hid hS; clear hS
        simp only at e1
        go_simp
        exact blkS_3 HS.out (by omega)
      go_simp; refine hK _ ?_; clear hK K
      refine wpX_op rfl ?_ (fun K hK => ?_)
      · intro L w' hC hL hdep hS
        have h5 : L 5 = false := by
          cases h5 : L 5 with
          | false => rfl
          | true => have := hC 5 _ rfl h5 ⟨4, .data⟩ (by simp) rfl; rw [hL] at this; cases this
        have e0 := hS.2.2.2.2.2.1 (hdep ⟨0, .data⟩ (by simp) rfl)
        obtain ⟨g, e3, g0, g1⟩ := hS.2.2.2.2.2.2.2.2.1 (hdep ⟨3, .data⟩ (by simp) rfl) hL
        have hop := hS.2.2.2.2.2.2.2.2.2.1 hL
        have hz := hS.1.size
        refine uponX_app (.tmp 22) (.tmp 25) rfl W0.heap.size v ps (a + 8, s) g 1 e0 e3 hop g0 g1 hps (by omega) ?_
        exact fun v1 w2 hop2 hg2 => blkS_4 hS hL h5 (by omega) hnW hop2 hg2 (fun b hb => .inr (op_row I3.out b hb))
      go_simp; refine hK _ ?_; clear hK K
      refine wpX_op rfl ?_ (fun K hK => ?_)
      · intro L w' hC hL hdep hS
        have h4 := hdep ⟨4, .data⟩ (by simp) rfl
        have c0 := hS.2.2.2.1
        obtain ⟨⟨x, c0⟩, f0⟩ := c0
        obtain ⟨o, cap, e4, -⟩ := (hS.2.2.2.2.2.2.2.2.2.2.1 h4).rp
        have HF := blkS_5 hS h4 (by omega) hBx
        rw [e4] at HF
        simp only [List.length_append, List.length_cons, List.length_nil, Nat.zero_add] at HF
        have HF := hid HF; clear hS
        go_simp
        exact HF.out
      go_simp; refine hK _ ?_; clear hK K
      refine wpX_nil (fun L w' hL hS => ?_)
      obtain ⟨r1, r2, r3, r4, -, -, -, -, -, -, r14, -, r16⟩ := hS
      have k4 := hL 4 (by decide)
      have k5 := hL 5 (by decide)
      gi_wp2_with fail
      exact ⟨r1, vals 4, r16 k5, r4, by rw [HS2.out]; exact r14 k4, r2, r3⟩
    · have g0 : (m == 2) = false := by simpa using hm
      have HS2 : Hid (markP 2 (us.take (k + 1)) = markP 2 (us.take k)) := by unfold Hid; rw [HSN.out, if_neg hm, List.append_nil]
      clear hm
      gi_wp2_with fail
      exact ⟨RndP.refl _ _, v, I1.out, I2.out, by rw [HS2.out]; exact I3.out, I4.out, I5.out⟩
  case hdone =>
    rintro D W hD ⟨v, i1, i2, i3, i4, i5⟩ hK
    rw [List.length_map, List.take_length] at i3
    have hpn : (markP 2 us).length ≤ 1000000 := by
      have h := HUL.out
      have h2 := List.length_filter_le (fun u : Int × Int × Int => u.2.2 == 2) us
      unfold markP
      rw [List.length_map]
      omega
    obtain ⟨ps, hps⟩ : ∃ ps, markP 2 us = ps := ⟨_, rfl⟩
    rw [hps] at i3 hpn
    have HPS := hid hps
    have HBW := hid (HBY.out W i4)
    have HK := hid hK; have I1 := hid i1; have I2 := hid i2; have I3 := hid i3; have I4 := hid i4
    clear hK i1 i2 i3 i4 i5 hps
    gi_wp2_with fail
    refine ⟨trivial, rfl, ?_⟩
    refine (callsIn_wide.2 (HN.out _ _ HBW.out)).mono ?_
    rintro e w' ⟨rfl, rfl⟩
    by_cases hrest : (16 : Int) ≤ (l.length : Int) - en
    · have hd : decide ((16 : Int) ≤ (l.length : Int) - en) = true := by simpa using hrest
      have hTP : Hid (tailP l.length en = [((en : Int) + 8, (((l.length - en - 8) / 8 * 8 : Nat) : Int))]) := by unfold Hid tailP; rw [if_pos (by omega)]; congr 2
      have hbits : bits BinOp.andNot IntKind.i64 ((l.length : Int) - en - 8) 7 = (((l.length - en - 8) / 8 * 8 : Nat) : Int) := by
        have := up_bits ((l.length : Int) - en - 8 - 7) (by omega) (by omega)
        rw [show (l.length : Int) - en - 8 - 7 + 7 = (l.length : Int) - en - 8 by omega] at this
        rw [this]; unfold upZ; omega
      obtain ⟨gp, hgp⟩ : ∃ gp, (((l.length - en - 8) / 8 * 8 : Nat) : Int) = gp := ⟨_, rfl⟩
      rw [hgp] at hbits hTP
      clear hgp
      gi_wp2_with fail
      have hXW : X < W0.heap.size := by omega
      have hDW : W0.heap.size ≤ D := hD
      refine wpIn_region_freeX open_wide (by kernel_rfl) (by kernel_rfl) (gapsCfg l B X D W0 en gp v ps.length (encP ps) hXW hDW hBX).S ?_ ?_
      · intro vals
        exact AppCfg.start ⟨I4.out.drew, HK.out, HBW.out⟩ I2.out (I3.out.below (Below.refl _ _).drew) I1.out
      intro vals
      refine wpX_op rfl ?_ (fun K hK => ?_)
      · intro L w' hC hL hdep hS
        have h10 : L 10 = false := by
          cases h10 : L 10 with
          | false => rfl
          | true => have := hC 10 _ rfl h10 ⟨0, .phase⟩ (by simp) rfl; rw [hL] at this; cases this
        have c0 := hS.load h10
        simp only [gapsCfg] at c0
        have HS := hid hS; clear hS
        go_simp
        exact HS.out.val rfl
      go_simp; refine hK _ ?_; clear hK K
      refine wpX_op rfl ?_ (fun K hK => ?_)
      · intro L w' hC hL hdep hS
        have HS := hid hS; clear hS
        go_simp
        exact HS.out.val rfl
      go_simp; refine hK _ ?_; clear hK K
      refine wpX_op rfl ?_ (fun K hK => ?_)
      · intro L w' hC hL hdep hS
        have e1 := hS.fix (i := 1) rfl (hdep ⟨1, .data⟩ (by simp) rfl)
        have HS := hid hS; clear hS
        go_simp
        refine (HN.out _ _ HS.out.1.2.2).mono ?_
        rintro e w2 ⟨rfl, rfl⟩
        exact ⟨_, rfl, HS.out.val rfl⟩
      go_simp; refine hK _ ?_; clear hK K
      refine wpX_op rfl ?_ (fun K hK => ?_)
      · intro L w' hC hL hdep hS
        have e2 := hS.fix (i := 2) rfl (hdep ⟨2, .data⟩ (by simp) rfl)
        have hw : IntKind.i64.wrap ((en : Int) + 8) = (en : Int) + 8 := IntWalk.i64_in _ ⟨by omega, by omega⟩
        have HS := hid hS; clear hS
        go_simp
        exact HS.out.val rfl
      go_simp; refine hK _ ?_; clear hK K
      refine wpX_op rfl ?_ (fun K hK => ?_)
      · intro L w' hC hL hdep hS
        have HS := hid hS; clear hS
        go_simp
        exact HS.out.val rfl
      go_simp; refine hK _ ?_; clear hK K
      refine wpX_op rfl ?_ (fun K hK => ?_)
      · intro L w' hC hL hdep hS
        have e4 := hS.fix (i := 4) rfl (hdep ⟨4, .data⟩ (by simp) rfl)
        have hw : IntKind.i64.wrap ((l.length : Int) - en - 8) = (l.length : Int) - en - 8 := IntWalk.i64_in _ ⟨by omega, by omega⟩
        have HS := hid hS; clear hS
        go_simp
        exact HS.out.val rfl
      go_simp; refine hK _ ?_; clear hK K
      refine wpX_op rfl ?_ (fun K hK => ?_)
      · intro L w' hC hL hdep hS
        have e5 := hS.fix (i := 5) rfl (hdep ⟨5, .data⟩ (by simp) rfl)
        have HS := hid hS; clear hS
        go_simp
        exact HS.out.val rfl
      go_simp; refine hK _ ?_; clear hK K
      refine wpX_op rfl ?_ (fun K hK => ?_)
      · intro L w' hC hL hdep hS
        have e3 := hS.fix (i := 3) rfl (hdep ⟨3, .data⟩ (by simp) rfl)
        have e6 := hS.fix (i := 6) rfl (hdep ⟨6, .data⟩ (by simp) rfl)
        have HS := hid hS; clear hS
        go_simp
        exact HS.out.val rfl
      go_simp; refine hK _ ?_; clear hK K
      refine wpX_op rfl ?_ (fun K hK => ?_)
      · intro L w' hC hL hdep hS
        have e7 := hS.fix (i := 7) rfl (hdep ⟨7, .data⟩ (by simp) rfl)
        have HS := hid hS; clear hS
        go_simp
        exact HS.out.slice hL rfl (fun j u h => by simpa [gapsCfg] using h)
      go_simp; refine hK _ ?_; clear hK K
      refine wpX_op rfl ?_ (fun K hK => ?_)
      · intro L w' hC hL hdep hS
        have h10 : L 10 = false := by
          cases h10 : L 10 with
          | false => rfl
          | true => have := hC 10 _ rfl h10 ⟨9, .data⟩ (by simp) rfl; rw [hL] at this; cases this
        obtain ⟨g, e1, e2⟩ := hS.2.2.2.1 (hdep ⟨8, .data⟩ (by simp) rfl) hL
        have e0_ := hS.fix (i := 0) rfl (hdep ⟨0, .data⟩ (by simp) rfl)
        exact uponX_row (.tmp 34) (.tmp 42) 33 37 (.agg #[.int .i64 0, .int .i64 0]) 2 16 under33 info37 rfl (by decide) rfl W0.heap.size v _ (encP ps) _ g 1 e0_ e1 (hS.2.2.2.2.1 hL) rfl e2 (by intro u hu; simp [gapsCfg] at hu; rcases hu with rfl | rfl <;> rfl) hpn (by omega) ((gapsCfg l B X D W0 en gp v ps.length (encP ps) hXW hDW hBX).hle _ hS.1) (fun v1 w2 hr hg => hS.app hL h10 hr hg)
      go_simp; refine hK _ ?_; clear hK K
      refine wpX_op rfl ?_ (fun K hK => ?_)
      · intro L w' hC hL hdep hS
        have ha := hdep ⟨9, .data⟩ (by simp) rfl
        obtain ⟨⟨x, c0⟩, f0⟩ := hS.2.1
        obtain ⟨o, cap, e4⟩ := row_slice (hS.2.2.2.2.2.1 ha)
        have HF := hS.store ha
        simp only [gapsCfg] at c0 f0 HF e4
        rw [e4] at HF
        have HF := hid HF; clear hS
        go_simp
        exact HF.out
      go_simp; refine hK _ ?_; clear hK K
      refine wpX_nil (fun L w' hL hS => ?_)
      obtain ⟨r1, r2, -, -, -, r6, -, r8⟩ := hS
      have r6 := r6 (hL 9 (by decide))
      have r8 := r8 (hL 10 (by decide))
      simp only [gapsCfg] at r1 r6 r8
      obtain ⟨s1, s2, s3⟩ := r1
      obtain ⟨o, cap, hv9⟩ := row_slice r6
      have HR6 : Hid (OP w' W0.heap.size (.slice o (ps.length + 1) cap) (ps ++ [((en : Int) + 8, gp)])) := by
        unfold Hid OP; rw [← hv9, encP_append, List.length_append]; exact r6
      rw [hv9] at r8
      have S1 := hid s1; have S2 := hid s2
      clear s1 s2 s3 r2 r6 hv9
      gi_wp2_with fail
      have HE : (ps ++ [((en : Int) + 8, gp)]).length = ps.length + 1 := by rw [List.length_append]; rfl
      refine ⟨by simp, .inl ⟨_, _, rfl, run_takeDeferred S2.out, .tuple #[.slice o (ps.length + 1) cap, .int .i64 0], by simp [results, Try.results48, go_sem], ⟨_, rfl, ?_, below_put (HWX.out.trans (S1.out.mono hwX)) (by omega) _⟩⟩⟩
      show OP _ _ _ (markP 2 us ++ tailP l.length en)
      rw [HPS.out, hTP.out]
      exact (op_putObj HR6.out S2.out rfl _).mono (by omega)
    · have hd : decide ((16 : Int) ≤ (l.length : Int) - en) = false := by simpa using hrest
      have hTP : Hid (tailP l.length en = []) := by unfold Hid tailP; rw [if_neg (by omega)]
      obtain ⟨o, cap, rfl, -⟩ := I3.out.rp
      have c0 := I1.out
      gi_wp2_with fail
      refine ⟨by simp, .inl ⟨_, _, rfl, run_takeDeferred HK.out, .tuple #[.slice o ps.length cap, .int .i64 0], by simp [results, Try.results48, go_sem], ⟨_, rfl, ?_, below_put (HWX.out.trans (I4.out.mono hwX)) (by omega) _⟩⟩⟩
      show OP _ _ _ (markP 2 us ++ tailP l.length en)
      rw [HPS.out, hTP.out, List.append_nil]
      exact (op_putObj I3.out HK.out rfl _).mono (by omega)
  case hstop => exact fun D c k W hD h => h.elim
theorem gaps_any (l : List UInt8) (w : World) (hl : l.length ≤ maxLen) : Calls Try.prog 48 #[.string ⟨l.toArray⟩] w (PiecesPost (gapsS l) w) := by
  cases h : openS l with
  | true =>
    have HX : gapsS l = (gapsL l.length (layD l), 0) := by unfold gapsS; rw [h]; exact if_pos rfl
    rw [HX]; exact gaps_main l w hl h
  | false =>
    have HX : gapsS l = ([], 120) := by unfold gapsS; rw [h]; exact if_neg (by simp)
    rw [HX]
    refine (refuse_gaps l hl h w).mono fun e w' ⟨h1, h2⟩ => ⟨_, h1, World.ownsRow_nil _ _ _ _, h2⟩
end Go.Proofs.Ytcfmimfkaabmkaa
