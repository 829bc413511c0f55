/- area.Build. -/
import Derived.Test.YtcfmimfkaabmkaaO6
import Derived.Lib.ConvBytes
set_option linter.unusedVariables false
set_option linter.unusedSimpArgs false
namespace Go.Proofs.Ytcfmimfkaabmkaa
open Go.RowKit
attribute [local go_sem] Oper.semAt_some
attribute [local irreducible] num
theorem buildS_good {n : Int} {ps : List (Int × Int)} {bs : List (List UInt8)} (h0 : 16 ≤ n) (h1 : n ≤ 8192) (hl : ps.length = bs.length) (hbad : badSizes ps bs = false) :
    buildS n ps bs = if ok true 8 (layOf (itemsOf ps bs)) ∧ endOf 8 (layOf (itemsOf ps bs)) ≤ 8192 then resizeA (layOf (itemsOf ps bs)) n else ([], 122) := by
  unfold buildS
  rw [if_neg (by omega), if_neg (by rw [hbad]; simp)]
  have hs : ∀ x ∈ itemsOf ps bs, 1 ≤ x.2.length := fun x hx => by
    obtain ⟨y, hy, rfl⟩ := List.mem_map.1 hx
    have := List.any_eq_false.1 hbad y hy
    simp only [Bool.or_eq_true, decide_eq_true_eq, Bool.not_eq_true', decide_eq_false_iff_not] at this
    show 1 ≤ y.2.length
    omega
  rw [buildUnits_spec _ true [] 8 rfl rfl (by omega) hs]
  by_cases hok : ok true 8 (layOf (itemsOf ps bs)) ∧ endOf 8 (layOf (itemsOf ps bs)) ≤ 8192
  · rw [if_pos hok, if_pos hok]
    have hlen := enc_length (e := 8) rfl hok.1
    have hge := endOf_ge hok.1
    have hll : (layOf (itemsOf ps bs)).length = ps.length := by simp [layOf, itemsOf, hl]
    simp only [buildF, List.nil_append, hlen]
    have h8 : endOf 8 (layOf (itemsOf ps bs)) - 8 + 8 = endOf 8 (layOf (itemsOf ps bs)) := by omega
    unfold resizeA
    rw [if_neg (show ¬ (n < 16 ∨ 8192 < n) by omega)]
    by_cases hn : (endOf 8 (layOf (itemsOf ps bs)) : Int) ≤ n
    · rw [if_neg (by omega), if_pos (by omega)]
      unfold render
      rw [show (n - 8 - ((endOf 8 (layOf (itemsOf ps bs)) - 8 : Nat) : Int)).toNat = n.toNat - endOf 8 (layOf (itemsOf ps bs)) by omega, hll]
    · rw [if_pos (by omega), if_neg (by omega)]
  · rw [if_neg hok, if_neg hok]; rfl
theorem lay_item {ps : List (Int × Int)} {bs : List (List UInt8)} {k : Nat} {p0 p1 : Int} {t : List UInt8} (hp : ps[k]? = some (p0, p1)) (ht : bs[k]? = some t) : (layOf (itemsOf ps bs))[k]? = some (p0.toNat, t) := by
  unfold layOf itemsOf
  rw [List.map_map, List.getElem?_map, zip_at hp ht]; rfl
/-- What a bad allocation makes of the answer. -/
theorem build_no {n : Int} {ps : List (Int × Int)} {bs : List (List UInt8)} (h0 : 16 ≤ n) (h1 : n ≤ 8192) (hl : ps.length = bs.length) (hbad : badSizes ps bs = false) {k : Nat} {p0 p1 : Int} {t : List UInt8} (hp : ps[k]? = some (p0, p1)) (ht : bs[k]? = some t)
    (h : ¬ (p0 % 8 = 0 ∧ (endOf 8 ((layOf (itemsOf ps bs)).take k) : Int) + 8 ≤ p0 ∧ p0 + upN t.length ≤ 8192 ∧ (k = 0 → p0 ≠ 24))) : buildS n ps bs = ([], 122) := by
  rw [buildS_good h0 h1 hl hbad, if_neg]
  rintro ⟨hok, he⟩
  obtain ⟨k1, k2, k3, k4, k5, k6⟩ := lay_at hok (lay_item hp ht)
  refine h ⟨by omega, by omega, by omega, fun hk => ?_⟩
  subst hk
  have h2 := drop_at (lay_item hp ht)
  rw [List.drop_zero] at h2
  rw [h2] at hok
  have := hok.2.2.1 rfl
  omega
theorem build_step {ps : List (Int × Int)} {bs : List (List UInt8)} {k : Nat} {p0 p1 : Int} {t : List UInt8} (hp : ps[k]? = some (p0, p1)) (ht : bs[k]? = some t) (hok : ok true 8 ((layOf (itemsOf ps bs)).take k)) (hs : 1 ≤ t.length)
    (h : p0 % 8 = 0 ∧ (endOf 8 ((layOf (itemsOf ps bs)).take k) : Int) + 8 ≤ p0 ∧ p0 + upN t.length ≤ 8192 ∧ (k = 0 → p0 ≠ 24)) :
    ok true 8 ((layOf (itemsOf ps bs)).take (k + 1)) ∧ endOf 8 ((layOf (itemsOf ps bs)).take (k + 1)) = p0.toNat + upN t.length ∧ (layOf (itemsOf ps bs)).take (k + 1) = (layOf (itemsOf ps bs)).take k ++ [(p0.toNat, t)] := by
  have hi := lay_item hp ht
  rw [take_snoc hi]
  refine ⟨ok_end _ true 8 _ _ hok (by omega) (by omega) (fun he _ => ?_) hs, endOf_snoc _ _ _ _, rfl⟩
  have hk : k = 0 := by
    rcases List.take_eq_nil_iff.1 he with h1 | h1
    · exact h1
    · rw [h1] at hi; simp at hi
  have := h.2.2.2 hk
  omega
/-- add behind the allocations so far, of a slice that holds just the bytes. -/
theorem add_build (T g : Nat) (lay : Lay) (p : Nat) (t : List UInt8) (mcap : Nat) (w : World) (hok : ok true 8 lay) (hend : endOf 8 lay ≤ 8192) (hT : Bytes w T (render 8192 lay)) (hp8 : p % 8 = 0) (hpe : endOf 8 lay + 8 ≤ p) (hpend : p + upN t.length ≤ 8192) (hs1 : 1 ≤ t.length)
    (hgT : g ≠ T) (hg : g < w.heap.size) (hcm : ∀ i, i < t.length → w.cell? ⟨g, i, none⟩ = some (.int .u8 (byt t i))) :
    Calls Try.prog 73 #[.slice (some ⟨T, 0, none⟩) 8192 8192, .agg #[.int .i64 ((p : Int) - 8), .int .i64 t.length, .int .i64 1], .slice (some ⟨g, 0, none⟩) t.length mcap] w
      (fun e w' => e = .returned (.tuple #[]) ∧ Bytes w' T (render 8192 (lay ++ [(p, t)])) ∧ w.grownBy w' (some T)) := by
  have hA : Area (render 8192 lay) lay := area_render hok (by decide) (Nat.le_refl _) hend
  have hrl := render_length (n := 8192) hok hend
  have hub := upN_bd t.length
  have h := add_any T g 0 mcap (render 8192 lay) lay p t t w hA hT hp8 hpe (by rw [hrl]; exact hpend) hs1 (by rw [Nat.sub_self]; exact (List.append_nil t).symm) (by omega) hgT hg (fun i hi => by rw [Nat.zero_add]; exact hcm i hi)
  rw [hrl] at h
  exact h
theorem fit_build (T : Nat) (lay : Lay) (n : Int) (w : World) (hok : ok true 8 lay) (hend : endOf 8 lay ≤ 8192) (hT : Bytes w T (render 8192 lay)) (h0 : 16 ≤ n) (h1 : n ≤ 8192) :
    Calls Try.prog 72 #[.slice (some ⟨T, 0, none⟩) 8192 8192, .int .i64 n] w (StrPost (resizeA lay n) w) := by
  have hA : Area (render 8192 lay) lay := area_render hok (by decide) (Nat.le_refl _) hend
  have hrl := render_length (n := 8192) hok hend
  have h := fit_any T (render 8192 lay) lay n w hA hT h0 h1
  rw [hrl] at h
  exact h
theorem hend_build (T : Nat) (lay : Lay) (w : World) (hok : ok true 8 lay) (hend : endOf 8 lay ≤ 8192) (hT : Bytes w T (render 8192 lay)) : Calls Try.prog 65 #[.slice (some ⟨T, 0, none⟩) 8192 8192] w fun e w' => e = .returned (.int .i64 (endOf 8 lay : Nat)) ∧ w = w' := by
  have hA : Area (render 8192 lay) lay := area_render hok (by decide) (Nat.le_refl _) hend
  have hrl := render_length (n := 8192) hok hend
  obtain ⟨h0, h8⟩ := area_num0 hA
  have h := hend_any T 8192 8192 (render 8192 lay) w hT hrl (by omega) (Nat.le_refl _) (by omega)
  rw [h0, show (8 : Int) + ((endOf 8 lay - 8 : Nat) : Int) = (endOf 8 lay : Nat) by omega] at h
  exact h
theorem under31u : Try.prog.underlying 31 = some (.slice 5) := by kernel_rfl
theorem under9u : Try.prog.underlying 9 = some .string := by kernel_rfl
theorem under5u : Try.prog.underlying 5 = some (.int .u8) := by kernel_rfl
theorem below_bytesW (W : World) (e : TypeId) (s : ByteArray) : Below W.heap.size W (Lib.bytesWorld W e s) :=
  ⟨by simp [Lib.bytesWorld, World.freeze]; try rfl, by simp [Lib.bytesWorld, World.freeze]; try rfl, by simp [Lib.bytesWorld, World.freeze]; try rfl, by rw [Lib.bytesWorld_size]; omega, fun k hk => Lib.bytesWorld_at_old W e s k hk⟩
/-- []byte(t): a new row with the bytes. -/
theorem run_newbytes (W : World) (t : List UInt8) : ∃ cap W', (convert 9 31 (.string ⟨t.toArray⟩)).run Try.prog W = .ok (.slice (some ⟨W.heap.size, 0, none⟩) t.length cap) W' ∧ Below W.heap.size W W' ∧ W.heap.size < W'.heap.size ∧
    ∀ i, i < t.length → W'.cell? ⟨W.heap.size, i, none⟩ = some (.int .u8 (byt t i)) := by
  refine ⟨_, _, Lib.run_convert_string_bytes W 9 31 5 ⟨t.toArray⟩ under9u under31u under5u, below_bytesW W 5 _, by rw [Lib.bytesWorld_size]; omega, fun i hi => ?_⟩
  rw [Lib.bytesWorld_cell W 5 ⟨t.toArray⟩ i hi]
  simp [byt, List.getD]
/-- The state within the region that adds an allocation: the operations are 0: the heap, 1: the unit, 2..5: its bytes, 6: a new row of them, 7: add. -/
def BldS (w : World) (T ux : Nat) (R0 R1 : List UInt8) (a s : Int) (t : List UInt8) (fx : Nat → Option Value) (L : Nat → Bool) (vals : Nat → Value) (W : World) : Prop :=
  Below w.heap.size w W ∧ (∀ i x, fx i = some x → L i = true → vals i = x) ∧
  (L 7 = false → Bytes W T R0 ∧ W.cell? ⟨ux, 0, none⟩ = some (.int .i64 a) ∧ W.cell? ⟨ux, 1, none⟩ = some (.int .i64 s) ∧ W.cell? ⟨ux, 2, none⟩ = some (.int .i64 1)) ∧ (L 7 = true → Bytes W T R1) ∧
  (L 6 = true → L 7 = false → ∃ g cap, vals 6 = .slice (some ⟨g, 0, none⟩) t.length cap ∧ g ≠ T ∧ g < W.heap.size ∧ ∀ i, i < t.length → W.cell? ⟨g, i, none⟩ = some (.int .u8 (byt t i)))
section
variable {w : World} {T ux : Nat} {R0 R1 : List UInt8} {a s : Int} {t : List UInt8} {fx : Nat → Option Value} {L : Nat → Bool} {vals : Nat → Value} {W W' : World}
theorem BldS.val {i : Nat} {x : Value} (h : BldS w T ux R0 R1 a s t fx L vals W) (hx : fx i = some x) (h6 : i ≠ 6) (h7 : i ≠ 7) : BldS w T ux R0 R1 a s t fx (addTo L i) (upd vals i x) W := by
  obtain ⟨r1, r2, r3, r4, r5⟩ := h
  refine ⟨r1, fun j y hy hl => ?_, ?_, ?_, ?_⟩
  · by_cases hj : j = i
    · subst hj; rw [hx] at hy; cases hy; exact upd_self _ _ _
    · rw [upd_ne _ _ hj]; rw [addTo_ne _ hj] at hl; exact r2 j y hy hl
  · rw [addTo_ne _ (Ne.symm h7)]; exact r3
  · rw [addTo_ne _ (Ne.symm h7)]; exact r4
  · rw [addTo_ne _ (Ne.symm h6), addTo_ne _ (Ne.symm h7), upd_ne _ _ (Ne.symm h6)]; exact r5
theorem BldS.conv {cap : Nat} (h : BldS w T ux R0 R1 a s t fx L vals W) (h6 : fx 6 = none) (hb : Below W.heap.size W W') (hz : W.heap.size < W'.heap.size) (hT : T < W.heap.size) (hc : ∀ i, i < t.length → W'.cell? ⟨W.heap.size, i, none⟩ = some (.int .u8 (byt t i))) (hR1 : L 7 = false) :
    BldS w T ux R0 R1 a s t fx (addTo L 6) (upd vals 6 (.slice (some ⟨W.heap.size, 0, none⟩) t.length cap)) W' := by
  obtain ⟨r1, r2, r3, r4, r5⟩ := h
  have hzw := r1.size
  refine ⟨r1.trans (hb.mono hzw), fun j y hy hl => ?_, fun _ => ?_, fun hl => ?_, fun _ _ => ⟨_, cap, upd_self _ _ _, by omega, hz, hc⟩⟩
  · have hj : j ≠ 6 := fun e => by subst e; rw [h6] at hy; cases hy
    rw [upd_ne _ _ hj]; rw [addTo_ne _ hj] at hl; exact r2 j y hy hl
  · obtain ⟨k1, k2, k3, k4⟩ := r3 hR1
    exact ⟨k1.below hb k1.lt, keepc hb k2, keepc hb k3, keepc hb k4⟩
  · rw [addTo_ne _ (by decide), hR1] at hl; cases hl
theorem BldS.add {x : Value} (h : BldS w T ux R0 R1 a s t fx L vals W) (h7 : fx 7 = none) (hB : Bytes W' T R1) (hg : W.grownBy W' (some T)) (hT : w.heap.size ≤ T) : BldS w T ux R0 R1 a s t fx (addTo L 7) (upd vals 7 x) W' := by
  obtain ⟨r1, r2, r3, r4, r5⟩ := h
  refine ⟨r1.grown hg r1.size (fun k e => by cases e; exact hT), fun j y hy hl => ?_, fun hl => (by rw [addTo_self] at hl; cases hl), fun _ => hB, fun _ hl => (by rw [addTo_self] at hl; cases hl)⟩
  have hj : j ≠ 7 := fun e => by subst e; rw [h7] at hy; cases hy
  rw [upd_ne _ _ hj]; rw [addTo_ne _ hj] at hl; exact r2 j y hy hl
end
set_option maxHeartbeats 2000000 in
set_option maxRecDepth 100000 in
theorem abuild_args (n : Int) (v1 v2 : Value) (ps : List (Int × Int)) (bs : List (List UInt8)) (w : World) (hR : RP w v1 ps) (hT : RS w v2 bs) (hl1 : ps.length ≤ 10000000) (hl2 : bs.length ≤ 10000000)
    (hn : n < 16 ∨ 8192 < n ∨ ps.length ≠ bs.length) : Calls Try.prog 37 #[.int .i64 n, v1, v2] w (StrPost (buildS n ps bs) w) := by
  have hS : buildS n ps bs = ([], 1) := by unfold buildS; rw [if_pos hn]
  obtain ⟨o, cap, rfl, -⟩ := hR
  obtain ⟨o2, cap2, rfl, -⟩ := hT
  have HS := hid hS; clear hS
  by_cases h1 : n < 16
  · have d1 : decide (n < 16) = true := by simpa using h1
    go_enter Try.func37, Try.ntmps37
    go_wp2_with fail
    go_ret2
    exact ⟨by rw [HS.out]; rfl, Below.refl _ _⟩
  have d1 : decide (n < 16) = false := by simpa using h1
  by_cases h2 : 8192 < n
  · have d2 : decide (8192 < n) = true := by simpa using h2
    go_enter Try.func37, Try.ntmps37
    go_wp2_with fail
    go_ret2
    exact ⟨by rw [HS.out]; rfl, Below.refl _ _⟩
  have d2 : decide (8192 < n) = false := by simpa using h2
  have d3 : ((ps.length : Int) == (bs.length : Int)) = false := by rw [beq_eq_false_iff_ne]; omega
  have d4 : ((ps.length : Int) != (bs.length : Int)) = true := by rw [bne_iff_ne]; omega
  go_enter Try.func37, Try.ntmps37
  go_wp2_with fail
  go_ret2
  exact ⟨by rw [HS.out]; rfl, Below.refl _ _⟩
def BldI (lay : Lay) (k T : Nat) (w : World) (wr : World) : Prop := ok true 8 (lay.take k) ∧ endOf 8 (lay.take k) ≤ 8192 ∧ Bytes wr T (render 8192 (lay.take k)) ∧ Below w.heap.size w wr
set_option maxHeartbeats 4000000 in
set_option maxRecDepth 100000 in
theorem abuild_rest (n : Int) (v1 v2 : Value) (ps : List (Int × Int)) (bs : List (List UInt8)) (m : Nat) (w : World) (hR : RP w v1 ps) (hT : RS w v2 bs) (hl1 : ps.length = m) (hl2 : bs.length = m) (hm : m ≤ 10000000)
    (hn1 : 16 ≤ n) (hn2 : n ≤ 8192) (hts : ∀ t ∈ bs, t.length ≤ 10000000) : Calls Try.prog 37 #[.int .i64 n, v1, v2] w (StrPost (buildS n ps bs) w) := by
  obtain ⟨o, cap, rfl, hc⟩ := hR
  obtain ⟨o2, cap2, rfl, hc2⟩ := hT
  have HC := hid hc; clear hc
  have HC2 := hid hc2; clear hc2
  have HT := hid hts; clear hts
  have HLL := hid (hl1.trans hl2.symm)
  rw [hl1, hl2]
  have HL1 := hid hl1; clear hl1
  have HL2 := hid hl2; clear hl2
  have HS : Hid (badSizes ps bs = true → buildS n ps bs = ([], 1)) := fun h => by
    unfold buildS; rw [if_neg (by have := HL1.out; have := HL2.out; omega), if_pos h]
  have d1 : decide (n < 16) = false := by simp; omega
  have d2 : decide (8192 < n) = false := by simp; omega
  go_enter Try.func37, Try.ntmps37
  go_wp2_with fail
  go_loopw [29] (fun i wr => ∃ k : Nat, i = .int .i64 k ∧ k ≤ m ∧ Hid (((ps.zip bs).take k).any badAt = false) ∧ Hid (Below w.heap.size w wr)) (fun i _ => m - (intOf i).toNat)
  case atStart => exact ⟨0, by first | rfl | go_num, Nat.zero_le _, rfl, Below.refl _ _⟩
  case round =>
    obtain ⟨k, rfl, hk, HA, HBW⟩ := hrel
    by_cases hlt : k < m
    · obtain ⟨p, hp⟩ : ∃ p, ps[k]? = some p := ⟨_, List.getElem?_eq_getElem (by have := HL1.out; omega)⟩
      obtain ⟨t, ht⟩ : ∃ t, bs[k]? = some t := ⟨_, List.getElem?_eq_getElem (by have := HL2.out; omega)⟩
      have hc := HC.out
      have hc2 := HC2.out
      rcases hc with hc | ⟨b, off, rfl, hbl, hc⟩
      · rw [hc] at hp; simp at hp
      rcases hc2 with hc2 | ⟨bb, off2, rfl, hbl2, hc2⟩
      · rw [hc2] at ht; simp at ht
      have e0 := keepc HBW.out (hc k _ hp).1
      have e1 := keepc HBW.out (hc k _ hp).2
      have e2 := keepc HBW.out (hc2 k _ ht)
      unfold strV at e2
      have e3 : ∀ o, (wr.alloc o).cell? ⟨bb, off2 + k, none⟩ = some (.string ⟨t.toArray⟩) := fun o => keep_alloc e2 o
      have hz2 := HBW.out.size
      have htl := HT.out t (List.mem_of_getElem? ht)
      have HP := hid hp
      have HTT := hid ht
      clear hp ht hc hc2
      have HBad := fun h => hid (badSizes_at HP.out HTT.out h)
      have HGood := fun h => hid (any_snoc badAt (ps.zip bs) k (p, t) (zip_at HP.out HTT.out) HA.out h)
      obtain ⟨p0, p1⟩ := p
      simp only at e0 e1
      have HB2 : ∀ o, Hid (Below w.heap.size w (wr.alloc o)) := fun o => HBW.out.alloc hz2 _
      by_cases h1 : p1 < 1
      · have g1 : decide (p1 < 1) = true := by simpa using h1
        have HF := HBad (by unfold badAt; simp only; rw [g1]; rfl)
        clear HBad HGood
        go_wp2_with fail
        go_quiet (fail)
        go_wp2_with fail
        go_ret2
        exact ⟨by rw [HS.out HF.out]; rfl, below_drewN (HB2 _).out _⟩
      have g1 : decide (p1 < 1) = false := by simpa using h1
      by_cases h2 : (t.length : Int) = p1
      · have g2 : (p1 == (t.length : Int)) = true := by simpa using h2.symm
        have g3 : (p1 != (t.length : Int)) = false := by rw [bne_eq_false_iff_eq]; exact h2.symm
        have HF := HGood (by unfold badAt; simp only; rw [g1, decide_eq_true h2]; rfl)
        clear HBad HGood h2
        go_wp2_with fail
        go_quiet (fail)
        go_wp2_with fail
        go_roundw
        case rel => exact ⟨k + 1, by first | rfl | go_num, by omega, HF.out, below_drewN (HB2 _).out _⟩
        case measure => simp [intOf]; omega
      · have g2 : (p1 == (t.length : Int)) = false := by rw [beq_eq_false_iff_ne]; exact fun h => h2 h.symm
        have g3 : (p1 != (t.length : Int)) = true := by rw [bne_iff_ne]; exact fun h => h2 h.symm
        have HF := HBad (by unfold badAt; simp only; rw [g1, decide_eq_false h2]; rfl)
        clear HBad HGood h2
        go_wp2_with fail
        go_quiet (fail)
        go_wp2_with fail
        go_ret2
        exact ⟨by rw [HS.out HF.out]; rfl, below_drewN (HB2 _).out _⟩
    · have hX : badSizes ps bs = false := by
        have h := HA.out
        rw [List.take_of_length_le (by simp only [List.length_zip]; have := HL1.out; have := HL2.out; omega)] at h
        exact h
      have HX := hid hX
      have HGOOD := hid (buildS_good hn1 hn2 HLL.out hX)
      clear hX HA HS
      have hmk79 := run_make79 wr 8192 (by decide)
      rw [show ((8192 : Nat) : Int) = 8192 from rfl] at hmk79
      obtain ⟨Z, hZ⟩ : ∃ Z : Array Value, Z = (cellsB (List.replicate 8192 0)).toArray := ⟨_, rfl⟩
      rw [← hZ] at hmk79
      obtain ⟨lay, hlay⟩ : ∃ lay, layOf (itemsOf ps bs) = lay := ⟨_, rfl⟩
      have HLAY := hid hlay
      have hI0 : Hid (BldI lay 0 wr.heap.size w (wr.alloc (.cells Z 5))) := by
        refine ⟨trivial, by rw [List.take_zero]; decide, ?_, HBW.out.alloc HBW.out.size _⟩
        rw [hZ, List.take_zero, render_zs _ (by decide)]
        exact bytes_new wr (zs 8192)
      have HPos : Hid (∀ (k : Nat) (p : Int × Int) (t : List UInt8), ps[k]? = some p → bs[k]? = some t → 1 ≤ p.2 ∧ (t.length : Int) = p.2) := fun k p t hp ht => by
        have h := List.any_eq_false.1 HX.out (p, t) (List.mem_of_getElem? (zip_at hp ht))
        simp only [badAt, Bool.or_eq_true, decide_eq_true_eq, Bool.not_eq_true', decide_eq_false_iff_not] at h
        omega
      rw [hlay] at HGOOD
      clear hZ hlay
      have hz0 := HBW.out.size
      go_wp2_with fail
      obtain ⟨T, hT⟩ : ∃ T, wr.heap.size = T := ⟨_, rfl⟩
      rw [hT] at hI0 ⊢
      clear hlt hk
      go_loopw [51] (fun i wq => ∃ k : Nat, i = .int .i64 k ∧ k ≤ m ∧ Hid (BldI lay k T w wq)) (fun i _ => m - (intOf i).toNat)
      case atStart => exact ⟨0, by first | rfl | go_num, Nat.zero_le _, hI0⟩
      case round =>
        clear hI0
        obtain ⟨k, rfl, hk, HI⟩ := hrel
        obtain ⟨hok, hend, hB, hbw⟩ := HI.out
        have HOK := hid hok; have HB := hid hB; have HBW := hid hbw
        have hz2 := hbw.size
        have hTl := hB.lt
        clear hok hB hbw HI
        by_cases hlt : k < m
        · obtain ⟨⟨p0, p1⟩, hp⟩ : ∃ p, ps[k]? = some p := ⟨_, List.getElem?_eq_getElem (by have := HL1.out; omega)⟩
          obtain ⟨t, ht⟩ : ∃ t, bs[k]? = some t := ⟨_, List.getElem?_eq_getElem (by have := HL2.out; omega)⟩
          have hc := HC.out
          have hc2 := HC2.out
          rcases hc with hc | ⟨b, off, rfl, hbl, hc⟩
          · rw [hc] at hp; simp at hp
          rcases hc2 with hc2 | ⟨bb, off2, rfl, hbl2, hc2⟩
          · rw [hc2] at ht; simp at ht
          have e0 := keepc HBW.out (hc k _ hp).1
          have e1 := keepc HBW.out (hc k _ hp).2
          have e2 := hc2 k _ ht
          unfold strV at e2
          have htl := HT.out t (List.mem_of_getElem? ht)
          obtain ⟨hp1, hp2⟩ := HPos.out k _ t hp ht
          simp only at hp1 hp2 e0 e1
          have HNO := hid (build_no hn1 hn2 HLL.out HX.out hp ht)
          have HST := hid (fun hok hs => build_step hp ht hok hs)
          rw [HLAY.out] at HNO HST
          have HE2 := hid e2
          obtain ⟨en, hen⟩ : ∃ en, endOf 8 (lay.take k) = en := ⟨_, rfl⟩
          have HHE := hid (fun W hT => hend_build T (lay.take k) W HOK.out hend hT)
          have HAD := hid (fun (g p mcap : Nat) (W : World) hT => add_build T g (lay.take k) p t mcap W HOK.out hend hT)
          have hge := endOf_ge HOK.out
          rw [hen] at HHE HNO HST hge hend HAD
          clear hp ht hc hc2 hen e2
          have hub := upN_bd t.length
          have hub8 := upN_8 t.length
          have huz : upZ p1 = (upN t.length : Int) := by rw [← hp2]; exact upZ_nat _
          obtain ⟨un, hun⟩ : ∃ un, upN t.length = un := ⟨_, rfl⟩
          rw [hun] at HNO HST hub hub8 huz HAD
          have HPT := hid hp2
          have hts1 : 1 ≤ t.length := by omega
          clear hun
          have hlen2 : (t.length : Int) = p1 := hp2
          clear hp2
          by_cases h0 : p0 < 0
          · have g0 : decide (p0 < 0) = true := by simpa using h0
            have HF := hid (HNO.out (by omega))
            go_wp2_with fail
            go_ret2
            exact ⟨by rw [HF.out]; rfl, HBW.out.alloc hz2 _⟩
          have g0 : decide (p0 < 0) = false := by simpa using h0
          by_cases h1 : 8192 < p0
          · have g1 : decide (8192 < p0) = true := by simpa using h1
            have HF := hid (HNO.out (by omega))
            go_wp2_with fail
            go_ret2
            exact ⟨by rw [HF.out]; rfl, HBW.out.alloc hz2 _⟩
          have g1 : decide (8192 < p0) = false := by simpa using h1
          by_cases h2 : 8192 < p1
          · have g2 : decide (8192 < p1) = true := by simpa using h2
            have HF := hid (HNO.out (by omega))
            go_wp2_with fail
            go_ret2
            exact ⟨by rw [HF.out]; rfl, HBW.out.alloc hz2 _⟩
          have g2 : decide (8192 < p1) = false := by simpa using h2
          have hw1 : IntKind.i64.wrap (p0 - 8) = p0 - 8 := IntWalk.i64_in _ ⟨by omega, by omega⟩
          go_upto_region 16 with fail
          clear hw1 g0 g1 g2
          obtain ⟨W, hW⟩ : ∃ W, W = (wr.alloc (.cells #[.int .i64 p0, .int .i64 p1] 37)).alloc (.cells #[.int .i64 (p0 - 8), .int .i64 p1, .int .i64 1] 88) := ⟨_, rfl⟩
          have hzW : W.heap.size = wr.heap.size + 2 := by rw [hW]; simp
          obtain ⟨ux, hux⟩ : ∃ ux, wr.heap.size + 1 = ux := ⟨_, rfl⟩
          have u0 : W.cell? ⟨ux, 0, none⟩ = some (.int .i64 (p0 - 8)) := by rw [hW, ← hux]; have h := cell_new (wr.alloc (.cells #[.int .i64 p0, .int .i64 p1] 37)) #[.int .i64 (p0 - 8), .int .i64 p1, .int .i64 1] 88 0 _ rfl; rw [World.size_alloc] at h; exact h
          have u1 : W.cell? ⟨ux, 1, none⟩ = some (.int .i64 p1) := by rw [hW, ← hux]; have h := cell_new (wr.alloc (.cells #[.int .i64 p0, .int .i64 p1] 37)) #[.int .i64 (p0 - 8), .int .i64 p1, .int .i64 1] 88 1 _ rfl; rw [World.size_alloc] at h; exact h
          have u2 : W.cell? ⟨ux, 2, none⟩ = some (.int .i64 1) := by rw [hW, ← hux]; have h := cell_new (wr.alloc (.cells #[.int .i64 p0, .int .i64 p1] 37)) #[.int .i64 (p0 - 8), .int .i64 p1, .int .i64 1] 88 2 _ rfl; rw [World.size_alloc] at h; exact h
          have hBW : Bytes W T (render 8192 (lay.take k)) := by rw [hW]; exact (HB.out.grow1 _).grow1 _
          have hbW : Below w.heap.size w W := by rw [hW]; exact (HBW.out.alloc hz2 _).alloc (by simp; omega) _
          try simp only [World.size_alloc]
          rw [← hW, hux]
          have HBY := hid hBW; have HBO := hid hbW
          have hzw := hbW.size
          obtain ⟨R0, hR0⟩ : ∃ R0, render 8192 (lay.take k) = R0 := ⟨_, rfl⟩
          rw [hR0] at HBY HHE HAD
          clear hW hBW hbW hR0 e0 e1 HB HBW
          have hE : IntKind.i64.wrap ((p0 - 8).tmod 8) = (p0 - 8).tmod 8 := IntWalk.i64_in _ ⟨by have := Int.tmod_lt_of_pos (p0 - 8) (show (0 : Int) < 8 by decide); have := Int.lt_tmod_of_pos (p0 - 8) (show (0 : Int) < 8 by decide); omega, by have := Int.tmod_lt_of_pos (p0 - 8) (show (0 : Int) < 8 by decide); omega⟩
          have hmod : ((p0 - 8).tmod 8 = 0) ↔ (p0 % 8 = 0) := by
            rw [← Int.dvd_iff_tmod_eq_zero, Int.dvd_iff_emod_eq_zero]; omega
          have HHM := hid hmod; have HHW := hid hE
          clear hmod hE
          by_cases h3 : p0 % 8 = 0
          rotate_left
          · have hm3 : ¬ (p0 - 8).tmod 8 = 0 := fun h => h3 (HHM.out.1 h)
            have g3 : ((p0 - 8).tmod 8 == 0) = false := by rw [beq_eq_false_iff_ne]; exact hm3
            have g3' : ((p0 - 8).tmod 8 != 0) = true := by rw [bne_iff_ne]; exact hm3
            have hE := HHW.out
            have HF := hid (HNO.out (by omega))
            refine wp_region_freeL (fun L w' => Below w.heap.size w w' ∧ Bytes w' T (R0) ∧ w'.cell? ⟨ux, 0, none⟩ = some (.int .i64 (p0 - 8)) ∧ w'.cell? ⟨ux, 1, none⟩ = some (.int .i64 p1) ∧ w'.cell? ⟨ux, 2, none⟩ = some (.int .i64 1)) (by kernel_rfl) (by kernel_rfl) ⟨(HBO.out).drew, HBY.out, u0, u1, u2⟩ ?_
            refine wpFreeL_val rfl (fun _ _ _ h => h) (fun K hK => ?_); apply Exists.intro; refine ⟨fun L w' hS => ?_, ?_⟩; (have hb := hS.1; have hB := hS.2.1; have g0 := hS.2.2.1; have g1 := hS.2.2.2.1; have g2 := hS.2.2.2.2; clear hS; go_simp; rfl); (go_simp; refine hK _ ?_; clear hK K)
            refine wpFreeL_val rfl (fun _ _ _ h => h) (fun K hK => ?_); apply Exists.intro; refine ⟨fun L w' hS => ?_, ?_⟩; (have hb := hS.1; have hB := hS.2.1; have g0 := hS.2.2.1; have g1 := hS.2.2.2.1; have g2 := hS.2.2.2.2; clear hS; go_simp; rfl); (go_simp; refine hK _ ?_; clear hK K)
            refine wpFreeL_val rfl (fun _ _ _ h => h) (fun K hK => ?_); apply Exists.intro; refine ⟨fun L w' hS => ?_, ?_⟩; (have hb := hS.1; have hB := hS.2.1; have g0 := hS.2.2.1; have g1 := hS.2.2.2.1; have g2 := hS.2.2.2.2; clear hS; go_simp; rfl); (go_simp; refine hK _ ?_; clear hK K)
            refine wpFreeL_val rfl (fun _ _ _ h => h) (fun K hK => ?_); apply Exists.intro; refine ⟨fun L w' hS => ?_, ?_⟩; (have hb := hS.1; have hB := hS.2.1; have g0 := hS.2.2.1; have g1 := hS.2.2.2.1; have g2 := hS.2.2.2.2; clear hS; go_simp; rfl); (go_simp; refine hK _ ?_; clear hK K)
            refine wpFreeL_val rfl (fun _ _ _ h => h) (fun K hK => ?_); apply Exists.intro; refine ⟨fun L w' hS => ?_, ?_⟩; (have hb := hS.1; have hB := hS.2.1; have g0 := hS.2.2.1; have g1 := hS.2.2.2.1; have g2 := hS.2.2.2.2; clear hS; go_simp; rfl); (go_simp; refine hK _ ?_; clear hK K)
            refine wpFreeL_skip rfl (fun _ _ _ h => h) (fun K hK => ?_); go_simp; refine hK _ ?_; clear hK K
            refine wpFreeL_skip rfl (fun _ _ _ h => h) (fun K hK => ?_); go_simp; refine hK _ ?_; clear hK K
            refine wpFreeL_skip rfl (fun _ _ _ h => h) (fun K hK => ?_); go_simp; refine hK _ ?_; clear hK K
            refine wpFreeL_skip rfl (fun _ _ _ h => h) (fun K hK => ?_); go_simp; refine hK _ ?_; clear hK K
            refine wpFreeL_skip rfl (fun _ _ _ h => h) (fun K hK => ?_); go_simp; refine hK _ ?_; clear hK K
            refine wpFreeL_val rfl (fun _ _ _ h => h) (fun K hK => ?_); apply Exists.intro; refine ⟨fun L w' hS => ?_, ?_⟩; (have hb := hS.1; have hB := hS.2.1; have g0 := hS.2.2.1; have g1 := hS.2.2.2.1; have g2 := hS.2.2.2.2; clear hS; go_simp; rfl); (go_simp; refine hK _ ?_; clear hK K)
            refine wpFreeL_val rfl (fun _ _ _ h => h) (fun K hK => ?_); apply Exists.intro; refine ⟨fun L w' hS => ?_, ?_⟩; (have hb := hS.1; have hB := hS.2.1; have g0 := hS.2.2.1; have g1 := hS.2.2.2.1; have g2 := hS.2.2.2.2; clear hS; go_simp; rfl); (go_simp; refine hK _ ?_; clear hK K)
            refine wpFreeL_skip rfl (fun _ _ _ h => h) (fun K hK => ?_); go_simp; refine hK _ ?_; clear hK K
            refine wpFreeL_skip rfl (fun _ _ _ h => h) (fun K hK => ?_); go_simp; refine hK _ ?_; clear hK K
            refine wpFreeL_skip rfl (fun _ _ _ h => h) (fun K hK => ?_); go_simp; refine hK _ ?_; clear hK K
            refine wpFreeL_skip rfl (fun _ _ _ h => h) (fun K hK => ?_); go_simp; refine hK _ ?_; clear hK K
            refine wpFreeL_skip rfl (fun _ _ _ h => h) (fun K hK => ?_); go_simp; refine hK _ ?_; clear hK K
            refine wpFreeL_val rfl (fun _ _ _ h => h) (fun K hK => ?_); apply Exists.intro; refine ⟨fun L w' hS => ?_, ?_⟩; (have hb := hS.1; have hB := hS.2.1; have g0 := hS.2.2.1; have g1 := hS.2.2.2.1; have g2 := hS.2.2.2.2; clear hS; go_simp; rfl); (go_simp; refine hK _ ?_; clear hK K)
            refine wpFreeL_val rfl (fun _ _ _ h => h) (fun K hK => ?_); apply Exists.intro; refine ⟨fun L w' hS => ?_, ?_⟩; (have hb := hS.1; have hB := hS.2.1; have g0 := hS.2.2.1; have g1 := hS.2.2.2.1; have g2 := hS.2.2.2.2; clear hS; go_simp; rfl); (go_simp; refine hK _ ?_; clear hK K)
            refine wpFreeL_skip rfl (fun _ _ _ h => h) (fun K hK => ?_); go_simp; refine hK _ ?_; clear hK K
            refine wpFreeL_skip rfl (fun _ _ _ h => h) (fun K hK => ?_); go_simp; refine hK _ ?_; clear hK K
            refine wpFreeL_skip rfl (fun _ _ _ h => h) (fun K hK => ?_); go_simp; refine hK _ ?_; clear hK K
            refine wpFreeL_skip rfl (fun _ _ _ h => h) (fun K hK => ?_); go_simp; refine hK _ ?_; clear hK K
            refine wpFreeL_skip rfl (fun _ _ _ h => h) (fun K hK => ?_); go_simp; refine hK _ ?_; clear hK K
            refine wpFreeL_skip rfl (fun _ _ _ h => h) (fun K hK => ?_); go_simp; refine hK _ ?_; clear hK K
            refine wpFreeL_skip rfl (fun _ _ _ h => h) (fun K hK => ?_); go_simp; refine hK _ ?_; clear hK K
            refine wpFreeL_val rfl (fun _ _ _ h => h) (fun K hK => ?_); apply Exists.intro; refine ⟨fun L w' hS => ?_, ?_⟩; (have hb := hS.1; have hB := hS.2.1; have g0 := hS.2.2.1; have g1 := hS.2.2.2.1; have g2 := hS.2.2.2.2; clear hS; go_simp; rfl); (go_simp; refine hK _ ?_; clear hK K)
            refine wpFreeL_nil (fun L w' hL hS => ?_)
            have hb := hS.1; have hB := hS.2.1; have g0 := hS.2.2.1; have g1 := hS.2.2.2.1; have g2 := hS.2.2.2.2
            clear hL hS
            go_wp2_with fail
            go_ret2
            exact ⟨by rw [HF.out]; rfl, hb⟩
          have hm3 : (p0 - 8).tmod 8 = 0 := HHM.out.2 h3
          have g3 : ((p0 - 8).tmod 8 == 0) = true := by simpa using hm3
          have g3' : ((p0 - 8).tmod 8 != 0) = false := by rw [bne_eq_false_iff_eq]; exact hm3
          have hE := HHW.out
          clear hm3
          by_cases h4 : p0 - 8 < (en : Int)
          · have g4 : decide (p0 - 8 < (en : Int)) = true := by simpa using h4
            have HF := hid (HNO.out (by omega))
            refine wp_region_freeL (fun L w' => Below w.heap.size w w' ∧ Bytes w' T (R0) ∧ w'.cell? ⟨ux, 0, none⟩ = some (.int .i64 (p0 - 8)) ∧ w'.cell? ⟨ux, 1, none⟩ = some (.int .i64 p1) ∧ w'.cell? ⟨ux, 2, none⟩ = some (.int .i64 1)) (by kernel_rfl) (by kernel_rfl) ⟨(HBO.out).drew, HBY.out, u0, u1, u2⟩ ?_
            refine wpFreeL_val rfl (fun _ _ _ h => h) (fun K hK => ?_); apply Exists.intro; refine ⟨fun L w' hS => ?_, ?_⟩; (have hb := hS.1; have hB := hS.2.1; have g0 := hS.2.2.1; have g1 := hS.2.2.2.1; have g2 := hS.2.2.2.2; clear hS; go_simp; rfl); (go_simp; refine hK _ ?_; clear hK K)
            refine wpFreeL_val rfl (fun _ _ _ h => h) (fun K hK => ?_); apply Exists.intro; refine ⟨fun L w' hS => ?_, ?_⟩; (have hb := hS.1; have hB := hS.2.1; have g0 := hS.2.2.1; have g1 := hS.2.2.2.1; have g2 := hS.2.2.2.2; clear hS; go_simp; rfl); (go_simp; refine hK _ ?_; clear hK K)
            refine wpFreeL_val rfl (fun _ _ _ h => h) (fun K hK => ?_); apply Exists.intro; refine ⟨fun L w' hS => ?_, ?_⟩; (have hb := hS.1; have hB := hS.2.1; have g0 := hS.2.2.1; have g1 := hS.2.2.2.1; have g2 := hS.2.2.2.2; clear hS; go_simp; rfl); (go_simp; refine hK _ ?_; clear hK K)
            refine wpFreeL_val rfl (fun _ _ _ h => h) (fun K hK => ?_); apply Exists.intro; refine ⟨fun L w' hS => ?_, ?_⟩; (have hb := hS.1; have hB := hS.2.1; have g0 := hS.2.2.1; have g1 := hS.2.2.2.1; have g2 := hS.2.2.2.2; clear hS; go_simp; rfl); (go_simp; refine hK _ ?_; clear hK K)
            refine wpFreeL_val rfl (fun _ _ _ h => h) (fun K hK => ?_); apply Exists.intro; refine ⟨fun L w' hS => ?_, ?_⟩; (have hb := hS.1; have hB := hS.2.1; have g0 := hS.2.2.1; have g1 := hS.2.2.2.1; have g2 := hS.2.2.2.2; clear hS; go_simp; rfl); (go_simp; refine hK _ ?_; clear hK K)
            refine wpFreeL_val rfl (fun _ _ _ h => h) (fun K hK => ?_); apply Exists.intro; refine ⟨fun L w' hS => ?_, ?_⟩; (have hb := hS.1; have hB := hS.2.1; have g0 := hS.2.2.1; have g1 := hS.2.2.2.1; have g2 := hS.2.2.2.2; clear hS; go_simp; rfl); (go_simp; refine hK _ ?_; clear hK K)
            refine wpFreeL_val rfl (fun _ _ _ h => h) (fun K hK => ?_); apply Exists.intro; refine ⟨fun L w' hS => ?_, ?_⟩; (have hb := hS.1; have hB := hS.2.1; have g0 := hS.2.2.1; have g1 := hS.2.2.2.1; have g2 := hS.2.2.2.2; clear hS; go_simp; rfl); (go_simp; refine hK _ ?_; clear hK K)
            refine wpFreeL_val rfl (fun _ _ _ h => h) (fun K hK => ?_); apply Exists.intro; refine ⟨fun L w' hS => ?_, ?_⟩; (have hb := hS.1; have hB := hS.2.1; have g0 := hS.2.2.1; have g1 := hS.2.2.2.1; have g2 := hS.2.2.2.2; clear hS; go_simp; rfl); (go_simp; refine hK _ ?_; clear hK K)
            refine wpFreeL_gen rfl (fun K hK => ?_); apply Exists.intro; refine ⟨fun L w' hcl hL hdep hS => ?_, ?_⟩
            · have hb := hS.1; have hB := hS.2.1; have g0 := hS.2.2.1; have g1 := hS.2.2.2.1; have g2 := hS.2.2.2.2; go_simp; refine (HHE.out _ hB).mono ?_; rintro e w1 ⟨rfl, rfl⟩; exact ⟨rfl, hS⟩
            go_simp; refine hK _ ?_; clear hK K
            refine wpFreeL_val rfl (fun _ _ _ h => h) (fun K hK => ?_); apply Exists.intro; refine ⟨fun L w' hS => ?_, ?_⟩; (have hb := hS.1; have hB := hS.2.1; have g0 := hS.2.2.1; have g1 := hS.2.2.2.1; have g2 := hS.2.2.2.2; clear hS; go_simp; rfl); (go_simp; refine hK _ ?_; clear hK K)
            refine wpFreeL_val rfl (fun _ _ _ h => h) (fun K hK => ?_); apply Exists.intro; refine ⟨fun L w' hS => ?_, ?_⟩; (have hb := hS.1; have hB := hS.2.1; have g0 := hS.2.2.1; have g1 := hS.2.2.2.1; have g2 := hS.2.2.2.2; clear hS; go_simp; rfl); (go_simp; refine hK _ ?_; clear hK K)
            refine wpFreeL_val rfl (fun _ _ _ h => h) (fun K hK => ?_); apply Exists.intro; refine ⟨fun L w' hS => ?_, ?_⟩; (have hb := hS.1; have hB := hS.2.1; have g0 := hS.2.2.1; have g1 := hS.2.2.2.1; have g2 := hS.2.2.2.2; clear hS; go_simp; rfl); (go_simp; refine hK _ ?_; clear hK K)
            refine wpFreeL_skip rfl (fun _ _ _ h => h) (fun K hK => ?_); go_simp; refine hK _ ?_; clear hK K
            refine wpFreeL_skip rfl (fun _ _ _ h => h) (fun K hK => ?_); go_simp; refine hK _ ?_; clear hK K
            refine wpFreeL_skip rfl (fun _ _ _ h => h) (fun K hK => ?_); go_simp; refine hK _ ?_; clear hK K
            refine wpFreeL_skip rfl (fun _ _ _ h => h) (fun K hK => ?_); go_simp; refine hK _ ?_; clear hK K
            refine wpFreeL_skip rfl (fun _ _ _ h => h) (fun K hK => ?_); go_simp; refine hK _ ?_; clear hK K
            refine wpFreeL_val rfl (fun _ _ _ h => h) (fun K hK => ?_); apply Exists.intro; refine ⟨fun L w' hS => ?_, ?_⟩; (have hb := hS.1; have hB := hS.2.1; have g0 := hS.2.2.1; have g1 := hS.2.2.2.1; have g2 := hS.2.2.2.2; clear hS; go_simp; rfl); (go_simp; refine hK _ ?_; clear hK K)
            refine wpFreeL_val rfl (fun _ _ _ h => h) (fun K hK => ?_); apply Exists.intro; refine ⟨fun L w' hS => ?_, ?_⟩; (have hb := hS.1; have hB := hS.2.1; have g0 := hS.2.2.1; have g1 := hS.2.2.2.1; have g2 := hS.2.2.2.2; clear hS; go_simp; rfl); (go_simp; refine hK _ ?_; clear hK K)
            refine wpFreeL_skip rfl (fun _ _ _ h => h) (fun K hK => ?_); go_simp; refine hK _ ?_; clear hK K
            refine wpFreeL_skip rfl (fun _ _ _ h => h) (fun K hK => ?_); go_simp; refine hK _ ?_; clear hK K
            refine wpFreeL_skip rfl (fun _ _ _ h => h) (fun K hK => ?_); go_simp; refine hK _ ?_; clear hK K
            refine wpFreeL_skip rfl (fun _ _ _ h => h) (fun K hK => ?_); go_simp; refine hK _ ?_; clear hK K
            refine wpFreeL_skip rfl (fun _ _ _ h => h) (fun K hK => ?_); go_simp; refine hK _ ?_; clear hK K
            refine wpFreeL_skip rfl (fun _ _ _ h => h) (fun K hK => ?_); go_simp; refine hK _ ?_; clear hK K
            refine wpFreeL_skip rfl (fun _ _ _ h => h) (fun K hK => ?_); go_simp; refine hK _ ?_; clear hK K
            refine wpFreeL_val rfl (fun _ _ _ h => h) (fun K hK => ?_); apply Exists.intro; refine ⟨fun L w' hS => ?_, ?_⟩; (have hb := hS.1; have hB := hS.2.1; have g0 := hS.2.2.1; have g1 := hS.2.2.2.1; have g2 := hS.2.2.2.2; clear hS; go_simp; rfl); (go_simp; refine hK _ ?_; clear hK K)
            refine wpFreeL_nil (fun L w' hL hS => ?_)
            have hb := hS.1; have hB := hS.2.1; have g0 := hS.2.2.1; have g1 := hS.2.2.2.1; have g2 := hS.2.2.2.2
            clear hL hS
            go_wp2_with fail
            go_ret2
            exact ⟨by rw [HF.out]; rfl, hb⟩
          have g4 : decide (p0 - 8 < (en : Int)) = false := by simpa using h4
          have hw2 : IntKind.i64.wrap (p0 - 8 + 8) = p0 - 8 + 8 := IntWalk.i64_in _ ⟨by omega, by omega⟩
          have HW2 := hid hw2; clear hw2
          by_cases h5 : (8192 : Int) < p0 - 8 + 8 + upZ p1
          · have g5 : decide ((8192 : Int) < p0 - 8 + 8 + upZ p1) = true := by simpa using h5
            have g5' : decide ((8192 : Int) < p0 + (un : Int)) = true := by simp; omega
            have HF := hid (HNO.out (by omega))
            refine wp_region_freeL (fun L w' => Below w.heap.size w w' ∧ Bytes w' T (R0) ∧ w'.cell? ⟨ux, 0, none⟩ = some (.int .i64 (p0 - 8)) ∧ w'.cell? ⟨ux, 1, none⟩ = some (.int .i64 p1) ∧ w'.cell? ⟨ux, 2, none⟩ = some (.int .i64 1)) (by kernel_rfl) (by kernel_rfl) ⟨(HBO.out).drew, HBY.out, u0, u1, u2⟩ ?_
            refine wpFreeL_val rfl (fun _ _ _ h => h) (fun K hK => ?_); apply Exists.intro; refine ⟨fun L w' hS => ?_, ?_⟩; (have hb := hS.1; have hB := hS.2.1; have g0 := hS.2.2.1; have g1 := hS.2.2.2.1; have g2 := hS.2.2.2.2; clear hS; go_simp; rfl); (go_simp; refine hK _ ?_; clear hK K)
            refine wpFreeL_val rfl (fun _ _ _ h => h) (fun K hK => ?_); apply Exists.intro; refine ⟨fun L w' hS => ?_, ?_⟩; (have hb := hS.1; have hB := hS.2.1; have g0 := hS.2.2.1; have g1 := hS.2.2.2.1; have g2 := hS.2.2.2.2; clear hS; go_simp; rfl); (go_simp; refine hK _ ?_; clear hK K)
            refine wpFreeL_val rfl (fun _ _ _ h => h) (fun K hK => ?_); apply Exists.intro; refine ⟨fun L w' hS => ?_, ?_⟩; (have hb := hS.1; have hB := hS.2.1; have g0 := hS.2.2.1; have g1 := hS.2.2.2.1; have g2 := hS.2.2.2.2; clear hS; go_simp; rfl); (go_simp; refine hK _ ?_; clear hK K)
            refine wpFreeL_val rfl (fun _ _ _ h => h) (fun K hK => ?_); apply Exists.intro; refine ⟨fun L w' hS => ?_, ?_⟩; (have hb := hS.1; have hB := hS.2.1; have g0 := hS.2.2.1; have g1 := hS.2.2.2.1; have g2 := hS.2.2.2.2; clear hS; go_simp; rfl); (go_simp; refine hK _ ?_; clear hK K)
            refine wpFreeL_val rfl (fun _ _ _ h => h) (fun K hK => ?_); apply Exists.intro; refine ⟨fun L w' hS => ?_, ?_⟩; (have hb := hS.1; have hB := hS.2.1; have g0 := hS.2.2.1; have g1 := hS.2.2.2.1; have g2 := hS.2.2.2.2; clear hS; go_simp; rfl); (go_simp; refine hK _ ?_; clear hK K)
            refine wpFreeL_val rfl (fun _ _ _ h => h) (fun K hK => ?_); apply Exists.intro; refine ⟨fun L w' hS => ?_, ?_⟩; (have hb := hS.1; have hB := hS.2.1; have g0 := hS.2.2.1; have g1 := hS.2.2.2.1; have g2 := hS.2.2.2.2; clear hS; go_simp; rfl); (go_simp; refine hK _ ?_; clear hK K)
            refine wpFreeL_val rfl (fun _ _ _ h => h) (fun K hK => ?_); apply Exists.intro; refine ⟨fun L w' hS => ?_, ?_⟩; (have hb := hS.1; have hB := hS.2.1; have g0 := hS.2.2.1; have g1 := hS.2.2.2.1; have g2 := hS.2.2.2.2; clear hS; go_simp; rfl); (go_simp; refine hK _ ?_; clear hK K)
            refine wpFreeL_val rfl (fun _ _ _ h => h) (fun K hK => ?_); apply Exists.intro; refine ⟨fun L w' hS => ?_, ?_⟩; (have hb := hS.1; have hB := hS.2.1; have g0 := hS.2.2.1; have g1 := hS.2.2.2.1; have g2 := hS.2.2.2.2; clear hS; go_simp; rfl); (go_simp; refine hK _ ?_; clear hK K)
            refine wpFreeL_gen rfl (fun K hK => ?_); apply Exists.intro; refine ⟨fun L w' hcl hL hdep hS => ?_, ?_⟩
            · have hb := hS.1; have hB := hS.2.1; have g0 := hS.2.2.1; have g1 := hS.2.2.2.1; have g2 := hS.2.2.2.2; go_simp; refine (HHE.out _ hB).mono ?_; rintro e w1 ⟨rfl, rfl⟩; exact ⟨rfl, hS⟩
            go_simp; refine hK _ ?_; clear hK K
            refine wpFreeL_val rfl (fun _ _ _ h => h) (fun K hK => ?_); apply Exists.intro; refine ⟨fun L w' hS => ?_, ?_⟩; (have hb := hS.1; have hB := hS.2.1; have g0 := hS.2.2.1; have g1 := hS.2.2.2.1; have g2 := hS.2.2.2.2; clear hS; go_simp; rfl); (go_simp; refine hK _ ?_; clear hK K)
            refine wpFreeL_val rfl (fun _ _ _ h => h) (fun K hK => ?_); apply Exists.intro; refine ⟨fun L w' hS => ?_, ?_⟩; (have hb := hS.1; have hB := hS.2.1; have g0 := hS.2.2.1; have g1 := hS.2.2.2.1; have g2 := hS.2.2.2.2; clear hS; go_simp; rfl); (go_simp; refine hK _ ?_; clear hK K)
            refine wpFreeL_val rfl (fun _ _ _ h => h) (fun K hK => ?_); apply Exists.intro; refine ⟨fun L w' hS => ?_, ?_⟩; (have hb := hS.1; have hB := hS.2.1; have g0 := hS.2.2.1; have g1 := hS.2.2.2.1; have g2 := hS.2.2.2.2; clear hS; go_simp; rfl); (go_simp; refine hK _ ?_; clear hK K)
            refine wpFreeL_val rfl (fun _ _ _ h => h) (fun K hK => ?_); apply Exists.intro; refine ⟨fun L w' hS => ?_, ?_⟩; (have hb := hS.1; have hB := hS.2.1; have g0 := hS.2.2.1; have g1 := hS.2.2.2.1; have g2 := hS.2.2.2.2; clear hS; go_simp; rfl); (go_simp; refine hK _ ?_; clear hK K)
            refine wpFreeL_gen rfl (fun K hK => ?_); apply Exists.intro; refine ⟨fun L w' hcl hL hdep hS => ?_, ?_⟩
            · have hb := hS.1; have hB := hS.2.1; have g0 := hS.2.2.1; have g1 := hS.2.2.2.1; have g2 := hS.2.2.2.2; go_simp; refine (end_any (p0 - 8) p1 1 _ (by omega) (by omega) (by omega) (by omega)).mono ?_; rintro e w1 ⟨rfl, hb1⟩; exact ⟨rfl, ⟨hb.trans (hb1.mono (by have := hb.size; omega)), hB.below hb1 hB.lt, keepc hb1 g0, keepc hb1 g1, keepc hb1 g2⟩⟩
            go_simp; refine hK _ ?_; clear hK K
            refine wpFreeL_val rfl (fun _ _ _ h => h) (fun K hK => ?_); apply Exists.intro; refine ⟨fun L w' hS => ?_, ?_⟩; (have hb := hS.1; have hB := hS.2.1; have g0 := hS.2.2.1; have g1 := hS.2.2.2.1; have g2 := hS.2.2.2.2; clear hS; go_simp; rfl); (go_simp; refine hK _ ?_; clear hK K)
            refine wpFreeL_val rfl (fun _ _ _ h => h) (fun K hK => ?_); apply Exists.intro; refine ⟨fun L w' hS => ?_, ?_⟩; (have hb := hS.1; have hB := hS.2.1; have g0 := hS.2.2.1; have g1 := hS.2.2.2.1; have g2 := hS.2.2.2.2; clear hS; go_simp; rfl); (go_simp; refine hK _ ?_; clear hK K)
            refine wpFreeL_val rfl (fun _ _ _ h => h) (fun K hK => ?_); apply Exists.intro; refine ⟨fun L w' hS => ?_, ?_⟩; (have hb := hS.1; have hB := hS.2.1; have g0 := hS.2.2.1; have g1 := hS.2.2.2.1; have g2 := hS.2.2.2.2; clear hS; go_simp; rfl); (go_simp; refine hK _ ?_; clear hK K)
            refine wpFreeL_val rfl (fun _ _ _ h => h) (fun K hK => ?_); apply Exists.intro; refine ⟨fun L w' hS => ?_, ?_⟩; (have hb := hS.1; have hB := hS.2.1; have g0 := hS.2.2.1; have g1 := hS.2.2.2.1; have g2 := hS.2.2.2.2; clear hS; go_simp; rfl); (go_simp; refine hK _ ?_; clear hK K)
            refine wpFreeL_val rfl (fun _ _ _ h => h) (fun K hK => ?_); apply Exists.intro; refine ⟨fun L w' hS => ?_, ?_⟩; (have hb := hS.1; have hB := hS.2.1; have g0 := hS.2.2.1; have g1 := hS.2.2.2.1; have g2 := hS.2.2.2.2; clear hS; go_simp; rfl); (go_simp; refine hK _ ?_; clear hK K)
            refine wpFreeL_skip rfl (fun _ _ _ h => h) (fun K hK => ?_); go_simp; refine hK _ ?_; clear hK K
            refine wpFreeL_skip rfl (fun _ _ _ h => h) (fun K hK => ?_); go_simp; refine hK _ ?_; clear hK K
            refine wpFreeL_skip rfl (fun _ _ _ h => h) (fun K hK => ?_); go_simp; refine hK _ ?_; clear hK K
            refine wpFreeL_skip rfl (fun _ _ _ h => h) (fun K hK => ?_); go_simp; refine hK _ ?_; clear hK K
            refine wpFreeL_skip rfl (fun _ _ _ h => h) (fun K hK => ?_); go_simp; refine hK _ ?_; clear hK K
            refine wpFreeL_skip rfl (fun _ _ _ h => h) (fun K hK => ?_); go_simp; refine hK _ ?_; clear hK K
            refine wpFreeL_skip rfl (fun _ _ _ h => h) (fun K hK => ?_); go_simp; refine hK _ ?_; clear hK K
            refine wpFreeL_val rfl (fun _ _ _ h => h) (fun K hK => ?_); apply Exists.intro; refine ⟨fun L w' hS => ?_, ?_⟩; (have hb := hS.1; have hB := hS.2.1; have g0 := hS.2.2.1; have g1 := hS.2.2.2.1; have g2 := hS.2.2.2.2; clear hS; go_simp; rfl); (go_simp; refine hK _ ?_; clear hK K)
            refine wpFreeL_nil (fun L w' hL hS => ?_)
            have hb := hS.1; have hB := hS.2.1; have g0 := hS.2.2.1; have g1 := hS.2.2.2.1; have g2 := hS.2.2.2.2
            clear hL hS
            go_wp2_with fail
            go_ret2
            exact ⟨by rw [HF.out]; rfl, hb⟩
          have g5 : decide ((8192 : Int) < p0 - 8 + 8 + upZ p1) = false := by simpa using h5
          have g5' : decide ((8192 : Int) < p0 + (un : Int)) = false := by simp; omega
          by_cases h6 : k = 0 ∧ p0 - 8 = 16
          · have g6 : ((k : Int) == 0) = true := by rw [beq_iff_eq]; omega
            have g7 : (p0 - 8 == 16) = true := by rw [beq_iff_eq]; omega
            have HF := hid (HNO.out (by omega))
            clear h6
            refine wp_region_freeL (fun L w' => Below w.heap.size w w' ∧ Bytes w' T (R0) ∧ w'.cell? ⟨ux, 0, none⟩ = some (.int .i64 (p0 - 8)) ∧ w'.cell? ⟨ux, 1, none⟩ = some (.int .i64 p1) ∧ w'.cell? ⟨ux, 2, none⟩ = some (.int .i64 1)) (by kernel_rfl) (by kernel_rfl) ⟨(HBO.out).drew, HBY.out, u0, u1, u2⟩ ?_
            refine wpFreeL_val rfl (fun _ _ _ h => h) (fun K hK => ?_); apply Exists.intro; refine ⟨fun L w' hS => ?_, ?_⟩; (have hb := hS.1; have hB := hS.2.1; have g0 := hS.2.2.1; have g1 := hS.2.2.2.1; have g2 := hS.2.2.2.2; clear hS; go_simp; rfl); (go_simp; refine hK _ ?_; clear hK K)
            refine wpFreeL_val rfl (fun _ _ _ h => h) (fun K hK => ?_); apply Exists.intro; refine ⟨fun L w' hS => ?_, ?_⟩; (have hb := hS.1; have hB := hS.2.1; have g0 := hS.2.2.1; have g1 := hS.2.2.2.1; have g2 := hS.2.2.2.2; clear hS; go_simp; rfl); (go_simp; refine hK _ ?_; clear hK K)
            refine wpFreeL_val rfl (fun _ _ _ h => h) (fun K hK => ?_); apply Exists.intro; refine ⟨fun L w' hS => ?_, ?_⟩; (have hb := hS.1; have hB := hS.2.1; have g0 := hS.2.2.1; have g1 := hS.2.2.2.1; have g2 := hS.2.2.2.2; clear hS; go_simp; rfl); (go_simp; refine hK _ ?_; clear hK K)
            refine wpFreeL_val rfl (fun _ _ _ h => h) (fun K hK => ?_); apply Exists.intro; refine ⟨fun L w' hS => ?_, ?_⟩; (have hb := hS.1; have hB := hS.2.1; have g0 := hS.2.2.1; have g1 := hS.2.2.2.1; have g2 := hS.2.2.2.2; clear hS; go_simp; rfl); (go_simp; refine hK _ ?_; clear hK K)
            refine wpFreeL_val rfl (fun _ _ _ h => h) (fun K hK => ?_); apply Exists.intro; refine ⟨fun L w' hS => ?_, ?_⟩; (have hb := hS.1; have hB := hS.2.1; have g0 := hS.2.2.1; have g1 := hS.2.2.2.1; have g2 := hS.2.2.2.2; clear hS; go_simp; rfl); (go_simp; refine hK _ ?_; clear hK K)
            refine wpFreeL_val rfl (fun _ _ _ h => h) (fun K hK => ?_); apply Exists.intro; refine ⟨fun L w' hS => ?_, ?_⟩; (have hb := hS.1; have hB := hS.2.1; have g0 := hS.2.2.1; have g1 := hS.2.2.2.1; have g2 := hS.2.2.2.2; clear hS; go_simp; rfl); (go_simp; refine hK _ ?_; clear hK K)
            refine wpFreeL_val rfl (fun _ _ _ h => h) (fun K hK => ?_); apply Exists.intro; refine ⟨fun L w' hS => ?_, ?_⟩; (have hb := hS.1; have hB := hS.2.1; have g0 := hS.2.2.1; have g1 := hS.2.2.2.1; have g2 := hS.2.2.2.2; clear hS; go_simp; rfl); (go_simp; refine hK _ ?_; clear hK K)
            refine wpFreeL_val rfl (fun _ _ _ h => h) (fun K hK => ?_); apply Exists.intro; refine ⟨fun L w' hS => ?_, ?_⟩; (have hb := hS.1; have hB := hS.2.1; have g0 := hS.2.2.1; have g1 := hS.2.2.2.1; have g2 := hS.2.2.2.2; clear hS; go_simp; rfl); (go_simp; refine hK _ ?_; clear hK K)
            refine wpFreeL_gen rfl (fun K hK => ?_); apply Exists.intro; refine ⟨fun L w' hcl hL hdep hS => ?_, ?_⟩
            · have hb := hS.1; have hB := hS.2.1; have g0 := hS.2.2.1; have g1 := hS.2.2.2.1; have g2 := hS.2.2.2.2; go_simp; refine (HHE.out _ hB).mono ?_; rintro e w1 ⟨rfl, rfl⟩; exact ⟨rfl, hS⟩
            go_simp; refine hK _ ?_; clear hK K
            refine wpFreeL_val rfl (fun _ _ _ h => h) (fun K hK => ?_); apply Exists.intro; refine ⟨fun L w' hS => ?_, ?_⟩; (have hb := hS.1; have hB := hS.2.1; have g0 := hS.2.2.1; have g1 := hS.2.2.2.1; have g2 := hS.2.2.2.2; clear hS; go_simp; rfl); (go_simp; refine hK _ ?_; clear hK K)
            refine wpFreeL_val rfl (fun _ _ _ h => h) (fun K hK => ?_); apply Exists.intro; refine ⟨fun L w' hS => ?_, ?_⟩; (have hb := hS.1; have hB := hS.2.1; have g0 := hS.2.2.1; have g1 := hS.2.2.2.1; have g2 := hS.2.2.2.2; clear hS; go_simp; rfl); (go_simp; refine hK _ ?_; clear hK K)
            refine wpFreeL_val rfl (fun _ _ _ h => h) (fun K hK => ?_); apply Exists.intro; refine ⟨fun L w' hS => ?_, ?_⟩; (have hb := hS.1; have hB := hS.2.1; have g0 := hS.2.2.1; have g1 := hS.2.2.2.1; have g2 := hS.2.2.2.2; clear hS; go_simp; rfl); (go_simp; refine hK _ ?_; clear hK K)
            refine wpFreeL_val rfl (fun _ _ _ h => h) (fun K hK => ?_); apply Exists.intro; refine ⟨fun L w' hS => ?_, ?_⟩; (have hb := hS.1; have hB := hS.2.1; have g0 := hS.2.2.1; have g1 := hS.2.2.2.1; have g2 := hS.2.2.2.2; clear hS; go_simp; rfl); (go_simp; refine hK _ ?_; clear hK K)
            refine wpFreeL_gen rfl (fun K hK => ?_); apply Exists.intro; refine ⟨fun L w' hcl hL hdep hS => ?_, ?_⟩
            · have hb := hS.1; have hB := hS.2.1; have g0 := hS.2.2.1; have g1 := hS.2.2.2.1; have g2 := hS.2.2.2.2; go_simp; refine (end_any (p0 - 8) p1 1 _ (by omega) (by omega) (by omega) (by omega)).mono ?_; rintro e w1 ⟨rfl, hb1⟩; exact ⟨rfl, ⟨hb.trans (hb1.mono (by have := hb.size; omega)), hB.below hb1 hB.lt, keepc hb1 g0, keepc hb1 g1, keepc hb1 g2⟩⟩
            go_simp; refine hK _ ?_; clear hK K
            refine wpFreeL_val rfl (fun _ _ _ h => h) (fun K hK => ?_); apply Exists.intro; refine ⟨fun L w' hS => ?_, ?_⟩; (have hb := hS.1; have hB := hS.2.1; have g0 := hS.2.2.1; have g1 := hS.2.2.2.1; have g2 := hS.2.2.2.2; clear hS; go_simp; rfl); (go_simp; refine hK _ ?_; clear hK K)
            refine wpFreeL_val rfl (fun _ _ _ h => h) (fun K hK => ?_); apply Exists.intro; refine ⟨fun L w' hS => ?_, ?_⟩; (have hb := hS.1; have hB := hS.2.1; have g0 := hS.2.2.1; have g1 := hS.2.2.2.1; have g2 := hS.2.2.2.2; clear hS; go_simp; rfl); (go_simp; refine hK _ ?_; clear hK K)
            refine wpFreeL_val rfl (fun _ _ _ h => h) (fun K hK => ?_); apply Exists.intro; refine ⟨fun L w' hS => ?_, ?_⟩; (have hb := hS.1; have hB := hS.2.1; have g0 := hS.2.2.1; have g1 := hS.2.2.2.1; have g2 := hS.2.2.2.2; clear hS; go_simp; rfl); (go_simp; refine hK _ ?_; clear hK K)
            refine wpFreeL_val rfl (fun _ _ _ h => h) (fun K hK => ?_); apply Exists.intro; refine ⟨fun L w' hS => ?_, ?_⟩; (have hb := hS.1; have hB := hS.2.1; have g0 := hS.2.2.1; have g1 := hS.2.2.2.1; have g2 := hS.2.2.2.2; clear hS; go_simp; rfl); (go_simp; refine hK _ ?_; clear hK K)
            refine wpFreeL_val rfl (fun _ _ _ h => h) (fun K hK => ?_); apply Exists.intro; refine ⟨fun L w' hS => ?_, ?_⟩; (have hb := hS.1; have hB := hS.2.1; have g0 := hS.2.2.1; have g1 := hS.2.2.2.1; have g2 := hS.2.2.2.2; clear hS; go_simp; rfl); (go_simp; refine hK _ ?_; clear hK K)
            refine wpFreeL_val rfl (fun _ _ _ h => h) (fun K hK => ?_); apply Exists.intro; refine ⟨fun L w' hS => ?_, ?_⟩; (have hb := hS.1; have hB := hS.2.1; have g0 := hS.2.2.1; have g1 := hS.2.2.2.1; have g2 := hS.2.2.2.2; clear hS; go_simp; rfl); (go_simp; refine hK _ ?_; clear hK K)
            refine wpFreeL_val rfl (fun _ _ _ h => h) (fun K hK => ?_); apply Exists.intro; refine ⟨fun L w' hS => ?_, ?_⟩; (have hb := hS.1; have hB := hS.2.1; have g0 := hS.2.2.1; have g1 := hS.2.2.2.1; have g2 := hS.2.2.2.2; clear hS; go_simp; rfl); (go_simp; refine hK _ ?_; clear hK K)
            refine wpFreeL_val rfl (fun _ _ _ h => h) (fun K hK => ?_); apply Exists.intro; refine ⟨fun L w' hS => ?_, ?_⟩; (have hb := hS.1; have hB := hS.2.1; have g0 := hS.2.2.1; have g1 := hS.2.2.2.1; have g2 := hS.2.2.2.2; clear hS; go_simp; rfl); (go_simp; refine hK _ ?_; clear hK K)
            refine wpFreeL_val rfl (fun _ _ _ h => h) (fun K hK => ?_); apply Exists.intro; refine ⟨fun L w' hS => ?_, ?_⟩; (have hb := hS.1; have hB := hS.2.1; have g0 := hS.2.2.1; have g1 := hS.2.2.2.1; have g2 := hS.2.2.2.2; clear hS; go_simp; rfl); (go_simp; refine hK _ ?_; clear hK K)
            refine wpFreeL_val rfl (fun _ _ _ h => h) (fun K hK => ?_); apply Exists.intro; refine ⟨fun L w' hS => ?_, ?_⟩; (have hb := hS.1; have hB := hS.2.1; have g0 := hS.2.2.1; have g1 := hS.2.2.2.1; have g2 := hS.2.2.2.2; clear hS; go_simp; rfl); (go_simp; refine hK _ ?_; clear hK K)
            refine wpFreeL_val rfl (fun _ _ _ h => h) (fun K hK => ?_); apply Exists.intro; refine ⟨fun L w' hS => ?_, ?_⟩; (have hb := hS.1; have hB := hS.2.1; have g0 := hS.2.2.1; have g1 := hS.2.2.2.1; have g2 := hS.2.2.2.2; clear hS; go_simp; rfl); (go_simp; refine hK _ ?_; clear hK K)
            refine wpFreeL_val rfl (fun _ _ _ h => h) (fun K hK => ?_); apply Exists.intro; refine ⟨fun L w' hS => ?_, ?_⟩; (have hb := hS.1; have hB := hS.2.1; have g0 := hS.2.2.1; have g1 := hS.2.2.2.1; have g2 := hS.2.2.2.2; clear hS; go_simp; rfl); (go_simp; refine hK _ ?_; clear hK K)
            refine wpFreeL_val rfl (fun _ _ _ h => h) (fun K hK => ?_); apply Exists.intro; refine ⟨fun L w' hS => ?_, ?_⟩; (have hb := hS.1; have hB := hS.2.1; have g0 := hS.2.2.1; have g1 := hS.2.2.2.1; have g2 := hS.2.2.2.2; clear hS; go_simp; rfl); (go_simp; refine hK _ ?_; clear hK K)
            refine wpFreeL_nil (fun L w' hL hS => ?_)
            have hb := hS.1; have hB := hS.2.1; have g0 := hS.2.2.1; have g1 := hS.2.2.2.1; have g2 := hS.2.2.2.2
            clear hL hS
            go_wp2_with fail
            go_ret2
            exact ⟨by rw [HF.out]; rfl, hb⟩
          have hgd : p0 % 8 = 0 ∧ (en : Int) + 8 ≤ p0 ∧ p0 + (un : Int) ≤ 8192 ∧ (k = 0 → p0 ≠ 24) := ⟨h3, by omega, by omega, fun h => by omega⟩
          obtain ⟨q1, q2, q3⟩ := HST.out HOK.out hts1 hgd
          have HQ1 := hid q1; have HQ2 := hid q2; have HQ3 := hid q3
          clear q1 q2 q3
          obtain ⟨P, hP⟩ : ∃ P : Nat, p0.toNat = P := ⟨_, rfl⟩
          have hPz : p0 = (P : Int) := by omega
          rw [hP] at HQ2 HQ3
          obtain ⟨R1, hR1⟩ : ∃ R1, render 8192 (lay.take k ++ [(P, t)]) = R1 := ⟨_, rfl⟩
          have HAD2 := hid (fun (g mcap : Nat) (W' : World) (h1 : Bytes W' T R0) h2 h3 h4 => HAD.out g P mcap W' h1 (by omega) (by omega) (by omega) hts1 h2 h3 h4)
          rw [hR1] at HAD2
          have HR1 : Hid (render 8192 (lay.take (k + 1)) = R1) := by unfold Hid; rw [HQ3.out]; exact hR1
          rw [← hPz, HPT.out] at HAD2
          have HPB : Hid (P + un ≤ 8192) := by unfold Hid; omega
          clear hR1 HAD hP hPz HNO HST
          by_cases h7 : k = 0
          · have g6 : ((k : Int) == 0) = true := by rw [beq_iff_eq]; omega
            have g7 : (p0 - 8 == 16) = false := by rw [beq_eq_false_iff_ne]; omega
            clear h7
            refine wp_region_freeL (fun L w' => Below w.heap.size w w' ∧ Bytes w' T (R0) ∧ w'.cell? ⟨ux, 0, none⟩ = some (.int .i64 (p0 - 8)) ∧ w'.cell? ⟨ux, 1, none⟩ = some (.int .i64 p1) ∧ w'.cell? ⟨ux, 2, none⟩ = some (.int .i64 1)) (by kernel_rfl) (by kernel_rfl) ⟨(HBO.out).drew, HBY.out, u0, u1, u2⟩ ?_
            refine wpFreeL_val rfl (fun _ _ _ h => h) (fun K hK => ?_); apply Exists.intro; refine ⟨fun L w' hS => ?_, ?_⟩; (have hb := hS.1; have hB := hS.2.1; have g0 := hS.2.2.1; have g1 := hS.2.2.2.1; have g2 := hS.2.2.2.2; clear hS; go_simp; rfl); (go_simp; refine hK _ ?_; clear hK K)
            refine wpFreeL_val rfl (fun _ _ _ h => h) (fun K hK => ?_); apply Exists.intro; refine ⟨fun L w' hS => ?_, ?_⟩; (have hb := hS.1; have hB := hS.2.1; have g0 := hS.2.2.1; have g1 := hS.2.2.2.1; have g2 := hS.2.2.2.2; clear hS; go_simp; rfl); (go_simp; refine hK _ ?_; clear hK K)
            refine wpFreeL_val rfl (fun _ _ _ h => h) (fun K hK => ?_); apply Exists.intro; refine ⟨fun L w' hS => ?_, ?_⟩; (have hb := hS.1; have hB := hS.2.1; have g0 := hS.2.2.1; have g1 := hS.2.2.2.1; have g2 := hS.2.2.2.2; clear hS; go_simp; rfl); (go_simp; refine hK _ ?_; clear hK K)
            refine wpFreeL_val rfl (fun _ _ _ h => h) (fun K hK => ?_); apply Exists.intro; refine ⟨fun L w' hS => ?_, ?_⟩; (have hb := hS.1; have hB := hS.2.1; have g0 := hS.2.2.1; have g1 := hS.2.2.2.1; have g2 := hS.2.2.2.2; clear hS; go_simp; rfl); (go_simp; refine hK _ ?_; clear hK K)
            refine wpFreeL_val rfl (fun _ _ _ h => h) (fun K hK => ?_); apply Exists.intro; refine ⟨fun L w' hS => ?_, ?_⟩; (have hb := hS.1; have hB := hS.2.1; have g0 := hS.2.2.1; have g1 := hS.2.2.2.1; have g2 := hS.2.2.2.2; clear hS; go_simp; rfl); (go_simp; refine hK _ ?_; clear hK K)
            refine wpFreeL_val rfl (fun _ _ _ h => h) (fun K hK => ?_); apply Exists.intro; refine ⟨fun L w' hS => ?_, ?_⟩; (have hb := hS.1; have hB := hS.2.1; have g0 := hS.2.2.1; have g1 := hS.2.2.2.1; have g2 := hS.2.2.2.2; clear hS; go_simp; rfl); (go_simp; refine hK _ ?_; clear hK K)
            refine wpFreeL_val rfl (fun _ _ _ h => h) (fun K hK => ?_); apply Exists.intro; refine ⟨fun L w' hS => ?_, ?_⟩; (have hb := hS.1; have hB := hS.2.1; have g0 := hS.2.2.1; have g1 := hS.2.2.2.1; have g2 := hS.2.2.2.2; clear hS; go_simp; rfl); (go_simp; refine hK _ ?_; clear hK K)
            refine wpFreeL_val rfl (fun _ _ _ h => h) (fun K hK => ?_); apply Exists.intro; refine ⟨fun L w' hS => ?_, ?_⟩; (have hb := hS.1; have hB := hS.2.1; have g0 := hS.2.2.1; have g1 := hS.2.2.2.1; have g2 := hS.2.2.2.2; clear hS; go_simp; rfl); (go_simp; refine hK _ ?_; clear hK K)
            refine wpFreeL_gen rfl (fun K hK => ?_); apply Exists.intro; refine ⟨fun L w' hcl hL hdep hS => ?_, ?_⟩
            · have hb := hS.1; have hB := hS.2.1; have g0 := hS.2.2.1; have g1 := hS.2.2.2.1; have g2 := hS.2.2.2.2; go_simp; refine (HHE.out _ hB).mono ?_; rintro e w1 ⟨rfl, rfl⟩; exact ⟨rfl, hS⟩
            go_simp; refine hK _ ?_; clear hK K
            refine wpFreeL_val rfl (fun _ _ _ h => h) (fun K hK => ?_); apply Exists.intro; refine ⟨fun L w' hS => ?_, ?_⟩; (have hb := hS.1; have hB := hS.2.1; have g0 := hS.2.2.1; have g1 := hS.2.2.2.1; have g2 := hS.2.2.2.2; clear hS; go_simp; rfl); (go_simp; refine hK _ ?_; clear hK K)
            refine wpFreeL_val rfl (fun _ _ _ h => h) (fun K hK => ?_); apply Exists.intro; refine ⟨fun L w' hS => ?_, ?_⟩; (have hb := hS.1; have hB := hS.2.1; have g0 := hS.2.2.1; have g1 := hS.2.2.2.1; have g2 := hS.2.2.2.2; clear hS; go_simp; rfl); (go_simp; refine hK _ ?_; clear hK K)
            refine wpFreeL_val rfl (fun _ _ _ h => h) (fun K hK => ?_); apply Exists.intro; refine ⟨fun L w' hS => ?_, ?_⟩; (have hb := hS.1; have hB := hS.2.1; have g0 := hS.2.2.1; have g1 := hS.2.2.2.1; have g2 := hS.2.2.2.2; clear hS; go_simp; rfl); (go_simp; refine hK _ ?_; clear hK K)
            refine wpFreeL_val rfl (fun _ _ _ h => h) (fun K hK => ?_); apply Exists.intro; refine ⟨fun L w' hS => ?_, ?_⟩; (have hb := hS.1; have hB := hS.2.1; have g0 := hS.2.2.1; have g1 := hS.2.2.2.1; have g2 := hS.2.2.2.2; clear hS; go_simp; rfl); (go_simp; refine hK _ ?_; clear hK K)
            refine wpFreeL_gen rfl (fun K hK => ?_); apply Exists.intro; refine ⟨fun L w' hcl hL hdep hS => ?_, ?_⟩
            · have hb := hS.1; have hB := hS.2.1; have g0 := hS.2.2.1; have g1 := hS.2.2.2.1; have g2 := hS.2.2.2.2; go_simp; refine (end_any (p0 - 8) p1 1 _ (by omega) (by omega) (by omega) (by omega)).mono ?_; rintro e w1 ⟨rfl, hb1⟩; exact ⟨rfl, ⟨hb.trans (hb1.mono (by have := hb.size; omega)), hB.below hb1 hB.lt, keepc hb1 g0, keepc hb1 g1, keepc hb1 g2⟩⟩
            go_simp; refine hK _ ?_; clear hK K
            refine wpFreeL_val rfl (fun _ _ _ h => h) (fun K hK => ?_); apply Exists.intro; refine ⟨fun L w' hS => ?_, ?_⟩; (have hb := hS.1; have hB := hS.2.1; have g0 := hS.2.2.1; have g1 := hS.2.2.2.1; have g2 := hS.2.2.2.2; clear hS; go_simp; rfl); (go_simp; refine hK _ ?_; clear hK K)
            refine wpFreeL_val rfl (fun _ _ _ h => h) (fun K hK => ?_); apply Exists.intro; refine ⟨fun L w' hS => ?_, ?_⟩; (have hb := hS.1; have hB := hS.2.1; have g0 := hS.2.2.1; have g1 := hS.2.2.2.1; have g2 := hS.2.2.2.2; clear hS; go_simp; rfl); (go_simp; refine hK _ ?_; clear hK K)
            refine wpFreeL_val rfl (fun _ _ _ h => h) (fun K hK => ?_); apply Exists.intro; refine ⟨fun L w' hS => ?_, ?_⟩; (have hb := hS.1; have hB := hS.2.1; have g0 := hS.2.2.1; have g1 := hS.2.2.2.1; have g2 := hS.2.2.2.2; clear hS; go_simp; rfl); (go_simp; refine hK _ ?_; clear hK K)
            refine wpFreeL_val rfl (fun _ _ _ h => h) (fun K hK => ?_); apply Exists.intro; refine ⟨fun L w' hS => ?_, ?_⟩; (have hb := hS.1; have hB := hS.2.1; have g0 := hS.2.2.1; have g1 := hS.2.2.2.1; have g2 := hS.2.2.2.2; clear hS; go_simp; rfl); (go_simp; refine hK _ ?_; clear hK K)
            refine wpFreeL_val rfl (fun _ _ _ h => h) (fun K hK => ?_); apply Exists.intro; refine ⟨fun L w' hS => ?_, ?_⟩; (have hb := hS.1; have hB := hS.2.1; have g0 := hS.2.2.1; have g1 := hS.2.2.2.1; have g2 := hS.2.2.2.2; clear hS; go_simp; rfl); (go_simp; refine hK _ ?_; clear hK K)
            refine wpFreeL_val rfl (fun _ _ _ h => h) (fun K hK => ?_); apply Exists.intro; refine ⟨fun L w' hS => ?_, ?_⟩; (have hb := hS.1; have hB := hS.2.1; have g0 := hS.2.2.1; have g1 := hS.2.2.2.1; have g2 := hS.2.2.2.2; clear hS; go_simp; rfl); (go_simp; refine hK _ ?_; clear hK K)
            refine wpFreeL_val rfl (fun _ _ _ h => h) (fun K hK => ?_); apply Exists.intro; refine ⟨fun L w' hS => ?_, ?_⟩; (have hb := hS.1; have hB := hS.2.1; have g0 := hS.2.2.1; have g1 := hS.2.2.2.1; have g2 := hS.2.2.2.2; clear hS; go_simp; rfl); (go_simp; refine hK _ ?_; clear hK K)
            refine wpFreeL_val rfl (fun _ _ _ h => h) (fun K hK => ?_); apply Exists.intro; refine ⟨fun L w' hS => ?_, ?_⟩; (have hb := hS.1; have hB := hS.2.1; have g0 := hS.2.2.1; have g1 := hS.2.2.2.1; have g2 := hS.2.2.2.2; clear hS; go_simp; rfl); (go_simp; refine hK _ ?_; clear hK K)
            refine wpFreeL_val rfl (fun _ _ _ h => h) (fun K hK => ?_); apply Exists.intro; refine ⟨fun L w' hS => ?_, ?_⟩; (have hb := hS.1; have hB := hS.2.1; have g0 := hS.2.2.1; have g1 := hS.2.2.2.1; have g2 := hS.2.2.2.2; clear hS; go_simp; rfl); (go_simp; refine hK _ ?_; clear hK K)
            refine wpFreeL_val rfl (fun _ _ _ h => h) (fun K hK => ?_); apply Exists.intro; refine ⟨fun L w' hS => ?_, ?_⟩; (have hb := hS.1; have hB := hS.2.1; have g0 := hS.2.2.1; have g1 := hS.2.2.2.1; have g2 := hS.2.2.2.2; clear hS; go_simp; rfl); (go_simp; refine hK _ ?_; clear hK K)
            refine wpFreeL_val rfl (fun _ _ _ h => h) (fun K hK => ?_); apply Exists.intro; refine ⟨fun L w' hS => ?_, ?_⟩; (have hb := hS.1; have hB := hS.2.1; have g0 := hS.2.2.1; have g1 := hS.2.2.2.1; have g2 := hS.2.2.2.2; clear hS; go_simp; rfl); (go_simp; refine hK _ ?_; clear hK K)
            refine wpFreeL_val rfl (fun _ _ _ h => h) (fun K hK => ?_); apply Exists.intro; refine ⟨fun L w' hS => ?_, ?_⟩; (have hb := hS.1; have hB := hS.2.1; have g0 := hS.2.2.1; have g1 := hS.2.2.2.1; have g2 := hS.2.2.2.2; clear hS; go_simp; rfl); (go_simp; refine hK _ ?_; clear hK K)
            refine wpFreeL_val rfl (fun _ _ _ h => h) (fun K hK => ?_); apply Exists.intro; refine ⟨fun L w' hS => ?_, ?_⟩; (have hb := hS.1; have hB := hS.2.1; have g0 := hS.2.2.1; have g1 := hS.2.2.2.1; have g2 := hS.2.2.2.2; clear hS; go_simp; rfl); (go_simp; refine hK _ ?_; clear hK K)
            refine wpFreeL_nil (fun L w' hL hS => ?_)
            have hb := hS.1; have hB := hS.2.1; have g0 := hS.2.2.1; have g1 := hS.2.2.2.1; have g2 := hS.2.2.2.2
            clear hL hS
            have HB1 := hid hB; clear hB HBY
            have HBO1 := hid hb; clear hb HBO
            go_wp2_with fail
            refine wp_region_freeX (by kernel_rfl) (by kernel_rfl) (BldS w T ux R0 R1 (p0 - 8) p1 t (fun i => match i with | 0 => some (.slice (some ⟨T, 0, none⟩) 8192 8192) | 1 => some (.agg #[.int .i64 (p0 - 8), .int .i64 p1, .int .i64 1]) | 2 => some (.slice (some ⟨bb, off2, none⟩) m cap2) | 3 => some (.int .i64 k) | 4 => some (.pointer (some ⟨bb, off2 + k, none⟩)) | 5 => some (.string ⟨t.toArray⟩) | _ => none)) ?_ ?_
            · intro vals
              exact ⟨HBO1.out.drew, fun i x _ h => (by simp at h), fun _ => ⟨HB1.out, g0, g1, g2⟩, fun h => (by simp at h), fun h => (by simp at h)⟩
            intro vals
            refine wpX_op rfl ?_ (fun K hK => ?_)
            · intro L w' hC hL hdep hS
              have HS := hid hS; clear hS
              go_simp
              exact HS.out.val (i := 0) rfl (by decide) (by decide)
            go_simp; refine hK _ ?_; clear hK K
            refine wpX_op rfl ?_ (fun K hK => ?_)
            · intro L w' hC hL hdep hS
              have h7 : L 7 = false := by
                cases h7 : L 7 with
                | false => rfl
                | true => have := hC 7 _ rfl h7 ⟨1, .data⟩ (by simp) rfl; rw [hL] at this; cases this
              obtain ⟨-, q0, q1, q2⟩ := hS.2.2.1 h7
              have HS := hid hS; clear hS
              go_simp
              exact HS.out.val (i := 1) rfl (by decide) (by decide)
            go_simp; refine hK _ ?_; clear hK K
            refine wpX_op rfl ?_ (fun K hK => ?_)
            · intro L w' hC hL hdep hS
              have HS := hid hS; clear hS
              go_simp
              exact HS.out.val (i := 2) rfl (by decide) (by decide)
            go_simp; refine hK _ ?_; clear hK K
            refine wpX_op rfl ?_ (fun K hK => ?_)
            · intro L w' hC hL hdep hS
              have HS := hid hS; clear hS
              go_simp
              exact HS.out.val (i := 3) rfl (by decide) (by decide)
            go_simp; refine hK _ ?_; clear hK K
            refine wpX_op rfl ?_ (fun K hK => ?_)
            · intro L w' hC hL hdep hS
              have e2_ := hS.2.1 2 _ rfl (hdep ⟨2, .data⟩ (by simp) rfl)
              have e3_ := hS.2.1 3 _ rfl (hdep ⟨3, .data⟩ (by simp) rfl)
              have HS := hid hS; clear hS
              go_simp
              exact HS.out.val (i := 4) rfl (by decide) (by decide)
            go_simp; refine hK _ ?_; clear hK K
            refine wpX_op rfl ?_ (fun K hK => ?_)
            · intro L w' hC hL hdep hS
              have e4_ := hS.2.1 4 _ rfl (hdep ⟨4, .data⟩ (by simp) rfl)
              have e2 := keepB hS.1 (by dsimp only; omega) HE2.out
              have HS := hid hS; clear hS
              go_simp
              exact HS.out.val (i := 5) rfl (by decide) (by decide)
            go_simp; refine hK _ ?_; clear hK K
            refine wpX_op rfl ?_ (fun K hK => ?_)
            · intro L w' hC hL hdep hS
              have e5_ := hS.2.1 5 _ rfl (hdep ⟨5, .data⟩ (by simp) rfl)
              have h7 : L 7 = false := by
                cases h7 : L 7 with
                | false => rfl
                | true => have := hC 7 _ rfl h7 ⟨6, .data⟩ (by simp) rfl; rw [hL] at this; cases this
              obtain ⟨cap, W', hrun, hb1, hz1, hc1⟩ := run_newbytes w' t
              have HS := hid hS; have HB1 := hid hb1; have HC1 := hid hc1; clear hS hb1 hc1
              have htT : T < w'.heap.size := (HS.out.2.2.1 h7).1.lt
              go_simp
              exact HS.out.conv rfl HB1.out hz1 htT HC1.out h7
            go_simp; refine hK _ ?_; clear hK K
            refine wpX_op rfl ?_ (fun K hK => ?_)
            · intro L w' hC hL hdep hS
              have e0_ := hS.2.1 0 _ rfl (hdep ⟨0, .data⟩ (by simp) rfl)
              have e1_ := hS.2.1 1 _ rfl (hdep ⟨1, .data⟩ (by simp) rfl)
              obtain ⟨g, cap, e6_, hgT, hgz, hgc⟩ := hS.2.2.2.2 (hdep ⟨6, .data⟩ (by simp) rfl) hL
              have HAW := hid (HAD2.out g cap w' (hS.2.2.1 hL).1 hgT hgz hgc)
              have HS := hid hS; clear hS hgc
              go_simp
              refine HAW.out.mono ?_
              rintro e w2 ⟨rfl, hB2, hg2⟩
              exact ⟨_, rfl, HS.out.add rfl hB2 hg2 (by omega)⟩
            go_simp; refine hK _ ?_; clear hK K
            refine wpX_nil (fun L w' hL hS => ?_)
            obtain ⟨r1, -, -, r4, -⟩ := hS
            have hI2 : Hid (BldI lay (k + 1) T w w') := ⟨HQ1.out, by rw [HQ2.out]; exact HPB.out, by rw [HR1.out]; exact r4 (hL 7 (by decide)), r1⟩
            clear r1 r4
            go_wp2_with fail
            go_roundw
            case rel => exact ⟨k + 1, by first | rfl | go_num, by omega, hI2⟩
            case measure => simp [intOf]; omega
          · have g6 : ((k : Int) == 0) = false := by rw [beq_eq_false_iff_ne]; omega
            refine wp_region_freeL (fun L w' => Below w.heap.size w w' ∧ Bytes w' T (R0) ∧ w'.cell? ⟨ux, 0, none⟩ = some (.int .i64 (p0 - 8)) ∧ w'.cell? ⟨ux, 1, none⟩ = some (.int .i64 p1) ∧ w'.cell? ⟨ux, 2, none⟩ = some (.int .i64 1)) (by kernel_rfl) (by kernel_rfl) ⟨(HBO.out).drew, HBY.out, u0, u1, u2⟩ ?_
            refine wpFreeL_val rfl (fun _ _ _ h => h) (fun K hK => ?_); apply Exists.intro; refine ⟨fun L w' hS => ?_, ?_⟩; (have hb := hS.1; have hB := hS.2.1; have g0 := hS.2.2.1; have g1 := hS.2.2.2.1; have g2 := hS.2.2.2.2; clear hS; go_simp; rfl); (go_simp; refine hK _ ?_; clear hK K)
            refine wpFreeL_val rfl (fun _ _ _ h => h) (fun K hK => ?_); apply Exists.intro; refine ⟨fun L w' hS => ?_, ?_⟩; (have hb := hS.1; have hB := hS.2.1; have g0 := hS.2.2.1; have g1 := hS.2.2.2.1; have g2 := hS.2.2.2.2; clear hS; go_simp; rfl); (go_simp; refine hK _ ?_; clear hK K)
            refine wpFreeL_val rfl (fun _ _ _ h => h) (fun K hK => ?_); apply Exists.intro; refine ⟨fun L w' hS => ?_, ?_⟩; (have hb := hS.1; have hB := hS.2.1; have g0 := hS.2.2.1; have g1 := hS.2.2.2.1; have g2 := hS.2.2.2.2; clear hS; go_simp; rfl); (go_simp; refine hK _ ?_; clear hK K)
            refine wpFreeL_val rfl (fun _ _ _ h => h) (fun K hK => ?_); apply Exists.intro; refine ⟨fun L w' hS => ?_, ?_⟩; (have hb := hS.1; have hB := hS.2.1; have g0 := hS.2.2.1; have g1 := hS.2.2.2.1; have g2 := hS.2.2.2.2; clear hS; go_simp; rfl); (go_simp; refine hK _ ?_; clear hK K)
            refine wpFreeL_val rfl (fun _ _ _ h => h) (fun K hK => ?_); apply Exists.intro; refine ⟨fun L w' hS => ?_, ?_⟩; (have hb := hS.1; have hB := hS.2.1; have g0 := hS.2.2.1; have g1 := hS.2.2.2.1; have g2 := hS.2.2.2.2; clear hS; go_simp; rfl); (go_simp; refine hK _ ?_; clear hK K)
            refine wpFreeL_val rfl (fun _ _ _ h => h) (fun K hK => ?_); apply Exists.intro; refine ⟨fun L w' hS => ?_, ?_⟩; (have hb := hS.1; have hB := hS.2.1; have g0 := hS.2.2.1; have g1 := hS.2.2.2.1; have g2 := hS.2.2.2.2; clear hS; go_simp; rfl); (go_simp; refine hK _ ?_; clear hK K)
            refine wpFreeL_val rfl (fun _ _ _ h => h) (fun K hK => ?_); apply Exists.intro; refine ⟨fun L w' hS => ?_, ?_⟩; (have hb := hS.1; have hB := hS.2.1; have g0 := hS.2.2.1; have g1 := hS.2.2.2.1; have g2 := hS.2.2.2.2; clear hS; go_simp; rfl); (go_simp; refine hK _ ?_; clear hK K)
            refine wpFreeL_val rfl (fun _ _ _ h => h) (fun K hK => ?_); apply Exists.intro; refine ⟨fun L w' hS => ?_, ?_⟩; (have hb := hS.1; have hB := hS.2.1; have g0 := hS.2.2.1; have g1 := hS.2.2.2.1; have g2 := hS.2.2.2.2; clear hS; go_simp; rfl); (go_simp; refine hK _ ?_; clear hK K)
            refine wpFreeL_gen rfl (fun K hK => ?_); apply Exists.intro; refine ⟨fun L w' hcl hL hdep hS => ?_, ?_⟩
            · have hb := hS.1; have hB := hS.2.1; have g0 := hS.2.2.1; have g1 := hS.2.2.2.1; have g2 := hS.2.2.2.2; go_simp; refine (HHE.out _ hB).mono ?_; rintro e w1 ⟨rfl, rfl⟩; exact ⟨rfl, hS⟩
            go_simp; refine hK _ ?_; clear hK K
            refine wpFreeL_val rfl (fun _ _ _ h => h) (fun K hK => ?_); apply Exists.intro; refine ⟨fun L w' hS => ?_, ?_⟩; (have hb := hS.1; have hB := hS.2.1; have g0 := hS.2.2.1; have g1 := hS.2.2.2.1; have g2 := hS.2.2.2.2; clear hS; go_simp; rfl); (go_simp; refine hK _ ?_; clear hK K)
            refine wpFreeL_val rfl (fun _ _ _ h => h) (fun K hK => ?_); apply Exists.intro; refine ⟨fun L w' hS => ?_, ?_⟩; (have hb := hS.1; have hB := hS.2.1; have g0 := hS.2.2.1; have g1 := hS.2.2.2.1; have g2 := hS.2.2.2.2; clear hS; go_simp; rfl); (go_simp; refine hK _ ?_; clear hK K)
            refine wpFreeL_val rfl (fun _ _ _ h => h) (fun K hK => ?_); apply Exists.intro; refine ⟨fun L w' hS => ?_, ?_⟩; (have hb := hS.1; have hB := hS.2.1; have g0 := hS.2.2.1; have g1 := hS.2.2.2.1; have g2 := hS.2.2.2.2; clear hS; go_simp; rfl); (go_simp; refine hK _ ?_; clear hK K)
            refine wpFreeL_val rfl (fun _ _ _ h => h) (fun K hK => ?_); apply Exists.intro; refine ⟨fun L w' hS => ?_, ?_⟩; (have hb := hS.1; have hB := hS.2.1; have g0 := hS.2.2.1; have g1 := hS.2.2.2.1; have g2 := hS.2.2.2.2; clear hS; go_simp; rfl); (go_simp; refine hK _ ?_; clear hK K)
            refine wpFreeL_gen rfl (fun K hK => ?_); apply Exists.intro; refine ⟨fun L w' hcl hL hdep hS => ?_, ?_⟩
            · have hb := hS.1; have hB := hS.2.1; have g0 := hS.2.2.1; have g1 := hS.2.2.2.1; have g2 := hS.2.2.2.2; go_simp; refine (end_any (p0 - 8) p1 1 _ (by omega) (by omega) (by omega) (by omega)).mono ?_; rintro e w1 ⟨rfl, hb1⟩; exact ⟨rfl, ⟨hb.trans (hb1.mono (by have := hb.size; omega)), hB.below hb1 hB.lt, keepc hb1 g0, keepc hb1 g1, keepc hb1 g2⟩⟩
            go_simp; refine hK _ ?_; clear hK K
            refine wpFreeL_val rfl (fun _ _ _ h => h) (fun K hK => ?_); apply Exists.intro; refine ⟨fun L w' hS => ?_, ?_⟩; (have hb := hS.1; have hB := hS.2.1; have g0 := hS.2.2.1; have g1 := hS.2.2.2.1; have g2 := hS.2.2.2.2; clear hS; go_simp; rfl); (go_simp; refine hK _ ?_; clear hK K)
            refine wpFreeL_val rfl (fun _ _ _ h => h) (fun K hK => ?_); apply Exists.intro; refine ⟨fun L w' hS => ?_, ?_⟩; (have hb := hS.1; have hB := hS.2.1; have g0 := hS.2.2.1; have g1 := hS.2.2.2.1; have g2 := hS.2.2.2.2; clear hS; go_simp; rfl); (go_simp; refine hK _ ?_; clear hK K)
            refine wpFreeL_val rfl (fun _ _ _ h => h) (fun K hK => ?_); apply Exists.intro; refine ⟨fun L w' hS => ?_, ?_⟩; (have hb := hS.1; have hB := hS.2.1; have g0 := hS.2.2.1; have g1 := hS.2.2.2.1; have g2 := hS.2.2.2.2; clear hS; go_simp; rfl); (go_simp; refine hK _ ?_; clear hK K)
            refine wpFreeL_val rfl (fun _ _ _ h => h) (fun K hK => ?_); apply Exists.intro; refine ⟨fun L w' hS => ?_, ?_⟩; (have hb := hS.1; have hB := hS.2.1; have g0 := hS.2.2.1; have g1 := hS.2.2.2.1; have g2 := hS.2.2.2.2; clear hS; go_simp; rfl); (go_simp; refine hK _ ?_; clear hK K)
            refine wpFreeL_val rfl (fun _ _ _ h => h) (fun K hK => ?_); apply Exists.intro; refine ⟨fun L w' hS => ?_, ?_⟩; (have hb := hS.1; have hB := hS.2.1; have g0 := hS.2.2.1; have g1 := hS.2.2.2.1; have g2 := hS.2.2.2.2; clear hS; go_simp; rfl); (go_simp; refine hK _ ?_; clear hK K)
            refine wpFreeL_val rfl (fun _ _ _ h => h) (fun K hK => ?_); apply Exists.intro; refine ⟨fun L w' hS => ?_, ?_⟩; (have hb := hS.1; have hB := hS.2.1; have g0 := hS.2.2.1; have g1 := hS.2.2.2.1; have g2 := hS.2.2.2.2; clear hS; go_simp; rfl); (go_simp; refine hK _ ?_; clear hK K)
            refine wpFreeL_val rfl (fun _ _ _ h => h) (fun K hK => ?_); apply Exists.intro; refine ⟨fun L w' hS => ?_, ?_⟩; (have hb := hS.1; have hB := hS.2.1; have g0 := hS.2.2.1; have g1 := hS.2.2.2.1; have g2 := hS.2.2.2.2; clear hS; go_simp; rfl); (go_simp; refine hK _ ?_; clear hK K)
            refine wpFreeL_val rfl (fun _ _ _ h => h) (fun K hK => ?_); apply Exists.intro; refine ⟨fun L w' hS => ?_, ?_⟩; (have hb := hS.1; have hB := hS.2.1; have g0 := hS.2.2.1; have g1 := hS.2.2.2.1; have g2 := hS.2.2.2.2; clear hS; go_simp; rfl); (go_simp; refine hK _ ?_; clear hK K)
            refine wpFreeL_skip rfl (fun _ _ _ h => h) (fun K hK => ?_); go_simp; refine hK _ ?_; clear hK K
            refine wpFreeL_skip rfl (fun _ _ _ h => h) (fun K hK => ?_); go_simp; refine hK _ ?_; clear hK K
            refine wpFreeL_skip rfl (fun _ _ _ h => h) (fun K hK => ?_); go_simp; refine hK _ ?_; clear hK K
            refine wpFreeL_val rfl (fun _ _ _ h => h) (fun K hK => ?_); apply Exists.intro; refine ⟨fun L w' hS => ?_, ?_⟩; (have hb := hS.1; have hB := hS.2.1; have g0 := hS.2.2.1; have g1 := hS.2.2.2.1; have g2 := hS.2.2.2.2; clear hS; go_simp; rfl); (go_simp; refine hK _ ?_; clear hK K)
            refine wpFreeL_val rfl (fun _ _ _ h => h) (fun K hK => ?_); apply Exists.intro; refine ⟨fun L w' hS => ?_, ?_⟩; (have hb := hS.1; have hB := hS.2.1; have g0 := hS.2.2.1; have g1 := hS.2.2.2.1; have g2 := hS.2.2.2.2; clear hS; go_simp; rfl); (go_simp; refine hK _ ?_; clear hK K)
            refine wpFreeL_nil (fun L w' hL hS => ?_)
            have hb := hS.1; have hB := hS.2.1; have g0 := hS.2.2.1; have g1 := hS.2.2.2.1; have g2 := hS.2.2.2.2
            clear hL hS
            have HB1 := hid hB; clear hB HBY
            have HBO1 := hid hb; clear hb HBO
            go_wp2_with fail
            refine wp_region_freeX (by kernel_rfl) (by kernel_rfl) (BldS w T ux R0 R1 (p0 - 8) p1 t (fun i => match i with | 0 => some (.slice (some ⟨T, 0, none⟩) 8192 8192) | 1 => some (.agg #[.int .i64 (p0 - 8), .int .i64 p1, .int .i64 1]) | 2 => some (.slice (some ⟨bb, off2, none⟩) m cap2) | 3 => some (.int .i64 k) | 4 => some (.pointer (some ⟨bb, off2 + k, none⟩)) | 5 => some (.string ⟨t.toArray⟩) | _ => none)) ?_ ?_
            · intro vals
              exact ⟨HBO1.out.drew, fun i x _ h => (by simp at h), fun _ => ⟨HB1.out, g0, g1, g2⟩, fun h => (by simp at h), fun h => (by simp at h)⟩
            intro vals
            refine wpX_op rfl ?_ (fun K hK => ?_)
            · intro L w' hC hL hdep hS
              have HS := hid hS; clear hS
              go_simp
              exact HS.out.val (i := 0) rfl (by decide) (by decide)
            go_simp; refine hK _ ?_; clear hK K
            refine wpX_op rfl ?_ (fun K hK => ?_)
            · intro L w' hC hL hdep hS
              have h7 : L 7 = false := by
                cases h7 : L 7 with
                | false => rfl
                | true => have := hC 7 _ rfl h7 ⟨1, .data⟩ (by simp) rfl; rw [hL] at this; cases this
              obtain ⟨-, q0, q1, q2⟩ := hS.2.2.1 h7
              have HS := hid hS; clear hS
              go_simp
              exact HS.out.val (i := 1) rfl (by decide) (by decide)
            go_simp; refine hK _ ?_; clear hK K
            refine wpX_op rfl ?_ (fun K hK => ?_)
            · intro L w' hC hL hdep hS
              have HS := hid hS; clear hS
              go_simp
              exact HS.out.val (i := 2) rfl (by decide) (by decide)
            go_simp; refine hK _ ?_; clear hK K
            refine wpX_op rfl ?_ (fun K hK => ?_)
            · intro L w' hC hL hdep hS
              have HS := hid hS; clear hS
              go_simp
              exact HS.out.val (i := 3) rfl (by decide) (by decide)
            go_simp; refine hK _ ?_; clear hK K
            refine wpX_op rfl ?_ (fun K hK => ?_)
            · intro L w' hC hL hdep hS
              have e2_ := hS.2.1 2 _ rfl (hdep ⟨2, .data⟩ (by simp) rfl)
              have e3_ := hS.2.1 3 _ rfl (hdep ⟨3, .data⟩ (by simp) rfl)
              have HS := hid hS; clear hS
              go_simp
              exact HS.out.val (i := 4) rfl (by decide) (by decide)
            go_simp; refine hK _ ?_; clear hK K
            refine wpX_op rfl ?_ (fun K hK => ?_)
            · intro L w' hC hL hdep hS
              have e4_ := hS.2.1 4 _ rfl (hdep ⟨4, .data⟩ (by simp) rfl)
              have e2 := keepB hS.1 (by dsimp only; omega) HE2.out
              have HS := hid hS; clear hS
              go_simp
              exact HS.out.val (i := 5) rfl (by decide) (by decide)
            go_simp; refine hK _ ?_; clear hK K
            refine wpX_op rfl ?_ (fun K hK => ?_)
            · intro L w' hC hL hdep hS
              have e5_ := hS.2.1 5 _ rfl (hdep ⟨5, .data⟩ (by simp) rfl)
              have h7 : L 7 = false := by
                cases h7 : L 7 with
                | false => rfl
                | true => have := hC 7 _ rfl h7 ⟨6, .data⟩ (by simp) rfl; rw [hL] at this; cases this
              obtain ⟨cap, W', hrun, hb1, hz1, hc1⟩ := run_newbytes w' t
              have HS := hid hS; have HB1 := hid hb1; have HC1 := hid hc1; clear hS hb1 hc1
              have htT : T < w'.heap.size := (HS.out.2.2.1 h7).1.lt
              go_simp
              exact HS.out.conv rfl HB1.out hz1 htT HC1.out h7
            go_simp; refine hK _ ?_; clear hK K
            refine wpX_op rfl ?_ (fun K hK => ?_)
            · intro L w' hC hL hdep hS
              have e0_ := hS.2.1 0 _ rfl (hdep ⟨0, .data⟩ (by simp) rfl)
              have e1_ := hS.2.1 1 _ rfl (hdep ⟨1, .data⟩ (by simp) rfl)
              obtain ⟨g, cap, e6_, hgT, hgz, hgc⟩ := hS.2.2.2.2 (hdep ⟨6, .data⟩ (by simp) rfl) hL
              have HAW := hid (HAD2.out g cap w' (hS.2.2.1 hL).1 hgT hgz hgc)
              have HS := hid hS; clear hS hgc
              go_simp
              refine HAW.out.mono ?_
              rintro e w2 ⟨rfl, hB2, hg2⟩
              exact ⟨_, rfl, HS.out.add rfl hB2 hg2 (by omega)⟩
            go_simp; refine hK _ ?_; clear hK K
            refine wpX_nil (fun L w' hL hS => ?_)
            obtain ⟨r1, -, -, r4, -⟩ := hS
            have hI2 : Hid (BldI lay (k + 1) T w w') := ⟨HQ1.out, by rw [HQ2.out]; exact HPB.out, by rw [HR1.out]; exact r4 (hL 7 (by decide)), r1⟩
            clear r1 r4
            go_wp2_with fail
            go_roundw
            case rel => exact ⟨k + 1, by first | rfl | go_num, by omega, hI2⟩
            case measure => simp [intOf]; omega
        · have hkm : k = m := by omega
          have hT2 : lay.take k = lay := List.take_of_length_le (by rw [← HLAY.out]; simp only [layOf, itsOf, itemsOf, List.length_map, List.length_zip]; have := HL1.out; have := HL2.out; omega)
          rw [hT2] at HOK HB hend
          have HF := hid (fit_build T lay n wr HOK.out hend HB.out hn1 hn2)
          have HX2 : Hid (buildS n ps bs = resizeA lay n) := by unfold Hid; rw [HGOOD.out, if_pos ⟨HOK.out, hend⟩]
          clear hT2 hkm
          go_wp2_with fail
          refine HF.out.mono ?_
          rintro e w5 ⟨rfl, hb5⟩
          have HB5 := hid (below_step hb5 HBW.out); clear hb5
          go_wp2_with fail
          go_ret2
          exact ⟨by rw [HX2.out]; rfl, HB5.out⟩
theorem abuild_any (n : Int) (v1 v2 : Value) (ps : List (Int × Int)) (bs : List (List UInt8)) (w : World) (hR : RP w v1 ps) (hT : RS w v2 bs) (hl1 : ps.length ≤ 10000000) (hl2 : bs.length ≤ 10000000) (hts : ∀ t ∈ bs, t.length ≤ 10000000) :
    Calls Try.prog 37 #[.int .i64 n, v1, v2] w (StrPost (buildS n ps bs) w) := by
  by_cases h : n < 16 ∨ 8192 < n ∨ ps.length ≠ bs.length
  · exact abuild_args n v1 v2 ps bs w hR hT hl1 hl2 h
  · exact abuild_rest n v1 v2 ps bs bs.length w hR hT (by omega) rfl hl2 (by omega) (by omega) hts
end Go.Proofs.Ytcfmimfkaabmkaa
