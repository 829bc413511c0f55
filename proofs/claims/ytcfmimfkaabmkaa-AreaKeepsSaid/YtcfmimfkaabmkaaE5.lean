/- The walk of R.Build. -/
import Derived.Test.YtcfmimfkaabmkaaXE
import Derived.Deep.DeepCutAuto
set_option linter.unusedVariables false
set_option linter.unusedSimpArgs false
namespace Go.Proofs.Ytcfmimfkaabmkaa
open Go.RowKit
attribute [local go_sem] Oper.semAt_some
def StrPost (r : List UInt8 × Int) (w : World) (e : Ending) (w' : World) : Prop := e = .returned (.tuple #[strV r.1, .int .i64 r.2]) ∧ Below w.heap.size w w'
def badAt (x : (Int × Int) × List UInt8) : Bool := decide (x.1.2 < 1) || !decide ((x.2.length : Int) = x.1.2)
theorem zip_at {α β : Type} {l : List α} {m : List β} {k : Nat} {x : α} {y : β} (h : l[k]? = some x) (h' : m[k]? = some y) : (l.zip m)[k]? = some (x, y) := by
  simp [List.zip, List.getElem?_zipWith, h, h']
theorem badSizes_at {ps : List (Int × Int)} {bs : List (List UInt8)} {k : Nat} {p : Int × Int} {t : List UInt8} (h : ps[k]? = some p) (h' : bs[k]? = some t) (hb : badAt (p, t) = true) : badSizes ps bs = true :=
  List.any_eq_true.2 ⟨(p, t), List.mem_of_getElem? (zip_at h h'), hb⟩
set_option maxHeartbeats 2000000 in
set_option maxRecDepth 100000 in
theorem build_args (n : Int) (v1 v2 : Value) (ps : List (Int × Int)) (bs : List (List UInt8)) (w : World) (hR : RP w v1 ps) (hT : RS w v2 bs) (hl1 : ps.length ≤ 10000000) (hl2 : bs.length ≤ 10000000)
    (hn : n < 16 ∨ 8192 < n ∨ ps.length ≠ bs.length) : Calls Try.prog 38 #[.int .i64 n, v1, v2] w (StrPost (buildS n ps bs) w) := by
  have hS : buildS n ps bs = ([], 1) := by unfold buildS; rw [if_pos hn]
  have HS := hid hS; clear hS
  obtain ⟨o, cap, rfl, hc⟩ := hR
  obtain ⟨o2, cap2, rfl, hc2⟩ := hT
  clear hc hc2
  by_cases h1 : n < 16
  · have d1 : decide (n < 16) = true := by simpa using h1
    clear hn
    go_enter Try.func38, Try.ntmps38
    go_wp2_with fail
    go_ret2
    exact ⟨by rw [HS.out]; rfl, Below.refl _ _⟩
  have d1 : decide (n < 16) = false := by simpa using h1
  by_cases h2 : 8192 < n
  · have d2 : decide (8192 < n) = true := by simpa using h2
    clear hn
    go_enter Try.func38, Try.ntmps38
    go_wp2_with fail
    go_ret2
    exact ⟨by rw [HS.out]; rfl, Below.refl _ _⟩
  have d2 : decide (8192 < n) = false := by simpa using h2
  have h3 : ps.length ≠ bs.length := by omega
  have d3 : ((ps.length : Int) != (bs.length : Int)) = true := by rw [bne_iff_ne]; omega
  have d3' : ((ps.length : Int) == (bs.length : Int)) = false := by rw [beq_eq_false_iff_ne]; omega
  clear hn h3
  go_enter Try.func38, Try.ntmps38
  go_wp2_with fail
  go_ret2
  exact ⟨by rw [HS.out]; rfl, Below.refl _ _⟩
theorem rzeros_int (n : Int) (w : World) (h0 : 0 ≤ n) (h1 : n ≤ 1000000) : Calls Try.prog 70 #[.int .i64 n] w fun e w' => e = .returned (strV (zs n.toNat)) ∧ Below w.heap.size w w' := by
  obtain ⟨m, rfl⟩ := Int.eq_ofNat_of_zero_le h0
  exact rzeros_any m w (by omega)
theorem rfour_str (n : Int) (w : World) (h0 : 0 ≤ n) (h1 : n ≤ 1000000000) : Calls Try.prog 77 #[.int .i64 n] w fun e w' => e = .returned (.string ⟨(four n.toNat).toArray⟩) ∧ Below w.heap.size w w' := rfour_any n w h0 h1
theorem rzeros_str (n : Int) (w : World) (h0 : 0 ≤ n) (h1 : n ≤ 1000000) : Calls Try.prog 70 #[.int .i64 n] w fun e w' => e = .returned (.string ⟨(zs n.toNat).toArray⟩) ∧ Below w.heap.size w w' := rzeros_int n w h0 h1
theorem rup_below (n : Int) (w : World) (h0 : 0 ≤ n) (h1 : n ≤ 100000000000) : Calls Try.prog 67 #[.int .i64 n] w fun e w' => e = .returned (.int .i64 (upZ n)) ∧ Below w.heap.size w w' :=
  (rup_any n w h0 h1).mono fun _ _ h => ⟨h.1, by rw [← h.2]; exact Below.refl _ _⟩
theorem items_at {ps : List (Int × Int)} {bs : List (List UInt8)} {k : Nat} {p : Int × Int} {t : List UInt8} (h : ps[k]? = some p) (h' : bs[k]? = some t) : (itemsOf ps bs)[k]? = some (p.1, t) := by
  unfold itemsOf; rw [List.getElem?_map, zip_at h h']; rfl
/-- Between two rounds of Build's second loop. -/
def BuildI (ps : List (Int × Int)) (bs : List (List UInt8)) (k : Nat) (u : List UInt8) : Prop :=
  buildUnits true [] (itemsOf ps bs) = buildUnits (decide (k = 0)) u ((itemsOf ps bs).drop k) ∧ u.length ≤ 8184 ∧ u.length % 8 = 0
set_option maxHeartbeats 4000000 in
set_option maxRecDepth 100000 in
theorem build_rest (n : Int) (v1 v2 : Value) (ps : List (Int × Int)) (bs : List (List UInt8)) (m : Nat) (w : World) (hR : RP w v1 ps) (hT : RS w v2 bs) (hl1 : ps.length = m) (hl2 : bs.length = m) (hm : m ≤ 10000000)
    (hn1 : 16 ≤ n) (hn2 : n ≤ 8192) (hts : ∀ t ∈ bs, t.length ≤ 10000000) : Calls Try.prog 38 #[.int .i64 n, v1, v2] w (StrPost (buildS n ps bs) w) := by
  obtain ⟨o, cap, rfl, hc⟩ := hR
  obtain ⟨o2, cap2, rfl, hc2⟩ := hT
  have HC := hid hc; clear hc
  have HC2 := hid hc2; clear hc2
  have HT := hid hts; clear hts
  rw [hl1, hl2]
  have HL1 := hid hl1; clear hl1
  have HL2 := hid hl2; clear hl2
  have HS : Hid (buildS n ps bs = if badSizes ps bs = true then (([], 1) : List UInt8 × Int) else buildF n ps.length (buildUnits true [] (itemsOf ps bs))) := by
    unfold buildS Hid; rw [if_neg (by have := HL1.out; have := HL2.out; omega)]
  have d1 : decide (n < 16) = false := by simp; omega
  have d2 : decide (8192 < n) = false := by simp; omega
  go_enter Try.func38, Try.ntmps38
  go_wp2_with fail
  go_loopw [8] (fun i wr => ∃ k : Nat, i = .int .i64 k ∧ k ≤ m ∧ ((ps.zip bs).take k).any badAt = false ∧ Below w.heap.size w wr) (fun i _ => m - (intOf i).toNat)
  case atStart => exact ⟨0, rfl, Nat.zero_le _, rfl, Below.refl _ _⟩
  case round =>
    obtain ⟨k, rfl, hk, hany, hbw⟩ := hrel
    have HBW := hid hbw; clear hbw
    have HA := hid hany; clear hany
    by_cases hlt : k < m
    · obtain ⟨p, hp⟩ : ∃ p, ps[k]? = some p := ⟨_, List.getElem?_eq_getElem (by have := HL1.out; omega)⟩
      obtain ⟨t, ht⟩ : ∃ t, bs[k]? = some t := ⟨_, List.getElem?_eq_getElem (by have := HL2.out; omega)⟩
      have hc := HC.out
      have hc2 := HC2.out
      rcases hc with hc | ⟨b, off, rfl, hbl, hc⟩
      · rw [hc] at hp; simp at hp
      rcases hc2 with hc2 | ⟨bb, off2, rfl, hbl2, hc2⟩
      · rw [hc2] at ht; simp at ht
      have e0 := keepc HBW.out (hc k _ hp).1
      have e1 := keepc HBW.out (hc k _ hp).2
      have e2 := keepc HBW.out (hc2 k _ ht)
      unfold strV at e2
      have htl := HT.out t (List.mem_of_getElem? ht)
      have HP := hid hp
      have HTT := hid ht
      clear hp ht hc hc2
      have HBad := fun h => hid (badSizes_at HP.out HTT.out h)
      have HGood := fun h => hid (any_snoc badAt (ps.zip bs) k (p, t) (zip_at HP.out HTT.out) HA.out h)
      obtain ⟨p0, p1⟩ := p
      simp only at e0 e1
      by_cases h1 : p1 < 1
      · have g1 : decide (p1 < 1) = true := by simpa using h1
        have HF := HBad (by unfold badAt; simp only; rw [g1]; rfl)
        clear HBad HGood
        go_wp2_with fail
        go_quiet (fail)
        go_wp2_with fail
        go_ret2
        exact ⟨by rw [HS.out, if_pos HF.out]; rfl, below_drewN HBW.out _⟩
      have g1 : decide (p1 < 1) = false := by simpa using h1
      by_cases h2 : (t.length : Int) = p1
      · have g2 : ((t.length : Int) == p1) = true := by simpa using h2
        have g3 : ((t.length : Int) != p1) = false := by rw [bne_eq_false_iff_eq]; exact h2
        have HF := HGood (by unfold badAt; simp only; rw [g1, decide_eq_true h2]; rfl)
        clear HBad HGood h2
        go_wp2_with fail
        go_quiet (fail)
        go_wp2_with fail
        go_roundw
        case rel => exact ⟨k + 1, by go_num, by omega, HF.out, below_drewN HBW.out _⟩
        case measure => simp [intOf]; omega
      · have g2 : ((t.length : Int) == p1) = false := by simpa using h2
        have g3 : ((t.length : Int) != p1) = true := by rw [bne_iff_ne]; exact h2
        have HF := HBad (by unfold badAt; simp only; rw [g1, decide_eq_false h2]; rfl)
        clear HBad HGood h2
        go_wp2_with fail
        go_quiet (fail)
        go_wp2_with fail
        go_ret2
        exact ⟨by rw [HS.out, if_pos HF.out]; rfl, below_drewN HBW.out _⟩
    · have HX : Hid (badSizes ps bs = false) := by
        have h := HA.out
        rw [List.take_of_length_le (by simp only [List.length_zip]; have := HL1.out; have := HL2.out; omega)] at h
        exact h
      have HS2 : Hid (buildS n ps bs = buildF n ps.length (buildUnits true [] (itemsOf ps bs))) := by
        unfold Hid; rw [HS.out, if_neg (by rw [HX.out]; simp)]
      clear HS
      go_wp2_with fail
      have HI0 : Hid (BuildI ps bs 0 []) := ⟨rfl, by decide, by decide⟩
      have HPos : Hid (∀ (k : Nat) (p : Int × Int) (t : List UInt8), ps[k]? = some p → bs[k]? = some t → 1 ≤ p.2 ∧ (t.length : Int) = p.2) := fun k p t hp ht => by
        have h := List.any_eq_false.1 HX.out (p, t) (List.mem_of_getElem? (zip_at hp ht))
        simp only [badAt, Bool.or_eq_true, decide_eq_true_eq, Bool.not_eq_true', decide_eq_false_iff_not] at h
        omega
      go_loopw [9, 10] (fun us i wr => ∃ (k : Nat) (u : List UInt8), us = .string ⟨u.toArray⟩ ∧ i = .int .i64 k ∧ k ≤ m ∧ u.length ≤ 8184 ∧ Hid (BuildI ps bs k u) ∧ Hid (Below w.heap.size w wr)) (fun _ i _ => m - (intOf i).toNat)
      case atStart => exact ⟨0, [], rfl, rfl, Nat.zero_le _, by decide, HI0, HBW⟩
      case round =>
        clear HBW HI0
        obtain ⟨k, u, rfl, rfl, hk, hul, HI, HBW⟩ := hrel
        by_cases hlt : k < m
        · obtain ⟨p, hp⟩ : ∃ p, ps[k]? = some p := ⟨_, List.getElem?_eq_getElem (by have := HL1.out; omega)⟩
          obtain ⟨t, ht⟩ : ∃ t, bs[k]? = some t := ⟨_, List.getElem?_eq_getElem (by have := HL2.out; omega)⟩
          obtain ⟨hpos, hpl⟩ := HPos.out k p t hp ht
          have hc := HC.out
          have hc2 := HC2.out
          rcases hc with hc | ⟨b, off, rfl, hbl, hc⟩
          · rw [hc] at hp; simp at hp
          rcases hc2 with hc2 | ⟨bb, off2, rfl, hbl2, hc2⟩
          · rw [hc2] at ht; simp at ht
          have e0 := keepc HBW.out (hc k _ hp).1
          have e1 := keepc HBW.out (hc k _ hp).2
          have e2 := keepc HBW.out (hc2 k _ ht)
          have E1 := hid (hc k _ hp).2
          have E2 := hid (hc2 k _ ht)
          unfold strV at e2 E2
          have htl := HT.out t (List.mem_of_getElem? ht)
          obtain ⟨hi1, hi2, hi3⟩ := HI.out
          rw [drop_at (items_at hp ht)] at hi1
          clear hp ht hc hc2
          obtain ⟨a, s⟩ := p
          simp only at e0 e1 E1 hpos hpl hi1
          have HH := hid hi1
          have H8 := hid hi3
          clear hi1 hi2 hi3
          have HPL := hid hpl
          have hpl1 : (t.length : Int) ≤ s := by omega
          have hpl2 : s ≤ (t.length : Int) := by omega
          clear hpl
          have hfail : (a < 16 ∨ 8192 < a ∨ a % 8 ≠ 0 ∨ a - 16 - (u.length : Int) < 0 ∨ (decide (k = 0) = true ∧ a - 16 - (u.length : Int) = 8)) → Hid (buildS n ps bs = ([], 122)) := fun h => by
            unfold Hid; rw [HS2.out, HH.out, buildUnits, if_pos h]; rfl
          have HFL := hid hfail
          clear hfail
          by_cases h1 : a < 16
          · have g1 : decide (a < 16) = true := by simpa using h1
            have HF := HFL.out (.inl h1)
            go_wp2_with fail
            go_ret2
            exact ⟨by rw [HF.out]; rfl, HBW.out⟩
          have g1 : decide (a < 16) = false := by simpa using h1
          by_cases h2 : 8192 < a
          · have g2 : decide (8192 < a) = true := by simpa using h2
            have HF := HFL.out (.inr (.inl h2))
            go_wp2_with fail
            go_ret2
            exact ⟨by rw [HF.out]; rfl, HBW.out⟩
          have g2 : decide (8192 < a) = false := by simpa using h2
          by_cases h3 : a % 8 = 0
          · go_upto_region 13 with (fail)
            obtain ⟨gp, hgp⟩ : ∃ gp, a - 16 - (u.length : Int) = gp := ⟨_, rfl⟩
            rw [hgp]
            have hgb1 : gp ≤ 8192 := by omega
            have hgb2 : -8192 ≤ gp := by omega
            have hgb3 : u.length + gp ≤ 8176 := by omega
            have hg8 : gp % 8 = 0 := by have := H8.out; omega
            have HGP := hid hgp
            clear hgp
            have g3 : (a % 8 != 0) = false := by rw [bne_eq_false_iff_eq]; exact h3
            have g3' : (a % 8 == 0) = true := by simpa using h3
            have H3 := hid h3
            have HG8 := hid hg8
            clear h3 hg8
            by_cases h4 : gp < 0
            · have g4 : decide (gp < 0) = true := by simpa using h4
              have HF := HFL.out (.inr (.inr (.inr (.inl (by rw [HGP.out]; exact h4)))))
              go_wp2_with fail
              go_ret2
              exact ⟨by rw [HF.out]; rfl, HBW.out⟩
            have g4 : decide (gp < 0) = false := by simpa using h4
            have hk0 : Hid (k = 0 → gp = 8 → buildS n ps bs = ([], 122)) := fun h5 h6 => (HFL.out (.inr (.inr (.inr (.inr (by rw [HGP.out]; exact ⟨decide_eq_true h5, h6⟩)))))).out
            by_cases h58 : k = 0 ∧ gp = 8
            · obtain ⟨h5, h6⟩ := h58
              have g5 : ((k : Int) == 0) = true := by rw [beq_iff_eq]; omega
              have g5' : (k == 0) = true := by rw [beq_iff_eq]; omega
              have g6 : (gp == 8) = true := by rw [beq_iff_eq]; omega
              have HF := hid (hk0.out h5 h6)
              clear h5 h6
              go_wp2_with fail
              go_ret2
              exact ⟨by rw [HF.out]; rfl, HBW.out⟩
            have g58 : (((k : Int) == 0) = false ∧ (k == 0) = false) ∨ (((k : Int) == 0) = true ∧ (k == 0) = true ∧ (gp == 8) = false) := by
              by_cases h5 : k = 0
              · right; exact ⟨by rw [beq_iff_eq]; omega, by rw [beq_iff_eq]; omega, by rw [beq_eq_false_iff_ne]; omega⟩
              · left; exact ⟨by rw [beq_eq_false_iff_ne]; omega, by rw [beq_eq_false_iff_ne]; omega⟩
            have HN5 := hid h58
            clear h58
            go_cut [99] (fun s wx => s = .bool false ∧ wx = wr)
            case first =>
              rcases g58 with ⟨g5, g5'⟩ | ⟨g5, g5', g6⟩
              · go_wp2_with fail
                go_meet
                case rel => exact ⟨rfl, rfl⟩
              · go_wp2_with fail
                go_meet
                case rel => exact ⟨rfl, rfl⟩
            case rest =>
              obtain ⟨rfl, rfl⟩ := hcut
              go_upto_if 101 with (fail)
              go_cut [9] (fun us wx => us = .string ⟨(u ++ gapB gp.toNat).toArray⟩ ∧ Hid (Below w.heap.size w wx))
              case first =>
                by_cases h6 : 0 < gp
                · have g6 : decide (0 < gp) = true := by simpa using h6
                  have hge : 8 ≤ gp := by have := HG8.out; omega
                  have hf1 : (four (gp - 8).toNat).length ≤ 4 := by rw [four_length]; omega
                  have hf2 : (four 2).length ≤ 4 := by decide
                  have hz1 : (zs (gp - 8).toNat).length ≤ 8200 := by rw [zs_length]; omega
                  have HGB : Hid (gapB gp.toNat = four (gp - 8).toNat ++ four 2 ++ zs (gp - 8).toNat) := by unfold Hid gapB; rw [if_neg (by omega), show gp.toNat - 8 = (gp - 8).toNat by omega]
                  go_wp2_with fail
                  refine (rfour_str (gp - 8) _ (by omega) (by omega)).mono ?_
                  rintro e w1 ⟨rfl, hb1⟩
                  have HB1 := hid hb1; clear hb1
                  go_wp2_with fail
                  refine (rfour_str 2 _ (by omega) (by omega)).mono ?_
                  rintro e w2 ⟨rfl, hb2⟩
                  have HB2 := hid hb2; clear hb2
                  go_wp2_with fail
                  refine (rzeros_str (gp - 8) _ (by omega) (by omega)).mono ?_
                  rintro e w3 ⟨rfl, hb3⟩
                  have HB3 := hid hb3; clear hb3
                  go_wp2_with fail
                  go_meet
                  case rel => exact ⟨by rw [HGB.out]; simp, below_step HB3.out (below_step HB2.out (below_step HB1.out HBW.out))⟩
                · have g6 : decide (0 < gp) = false := by simpa using h6
                  have HGB : Hid (gapB gp.toNat = []) := by unfold Hid gapB; rw [if_pos (by omega)]
                  go_wp2_with fail
                  go_meet
                  case rel => exact ⟨by rw [HGB.out, List.append_nil], HBW⟩
              case rest =>
                obtain ⟨rfl, HBX⟩ := hcut
                go_upto_region 17 with (fail)
                have e1 := keepc HBX.out E1.out
                have e2 := keepc HBX.out E2.out
                clear e0
                have hup := upZ_bd s (by omega)
                obtain ⟨hup1, hup2⟩ := hup
                have hf1 : (four s.toNat).length ≤ 4 := by rw [four_length]; omega
                have hf2 : (four 1).length ≤ 4 := by decide
                have hz1 : (zs (upZ s - s).toNat).length ≤ 8 := by rw [zs_length]; omega
                have hz2 : (u ++ gapB gp.toNat).length ≤ 30000 := by rw [List.length_append, gapB_length _ (by have := HG8.out; omega)]; omega
                have q1 : (four s.toNat).length + (four 1).length ≤ 9223372036854775807 := by omega
                have q2 : (four s.toNat).length + (four 1).length + t.length ≤ 9223372036854775807 := by omega
                have q3 : (four s.toNat).length + ((four 1).length + t.length) + (zs (upZ s - s).toNat).length ≤ 9223372036854775807 := by omega
                have q4 : u.length + (gapB gp.toNat).length + ((four s.toNat).length + ((four 1).length + (t.length + (zs (upZ s - s).toNat).length))) ≤ 9223372036854775807 := by rw [List.length_append] at hz2; omega
                have hw1 : IntKind.i64.wrap (upZ s - s) = upZ s - s := IntWalk.i64_in _ ⟨by omega, by omega⟩
                go_region_held3 (fun w' => Below wc.heap.size wc w' ∧ w'.cell? ⟨b, off + k * 2 + 1, none⟩ = some (.int .i64 s) ∧ w'.cell? ⟨bb, off2 + k, none⟩ = some (.string ⟨t.toArray⟩))
                  ((refine (fun hS => ⟨hS, keepc hS e1, keepc hS e2⟩ : Below wc.heap.size wc _ → _) ?_; first | exact (Below.refl _ _).drew | exact below_step hb1 (And.left (by assumption)) | exact below_step hb1 (by assumption)))
                  (first
                    | (go_at_call 77; refine (rfour_str _ _ (by omega) (by omega)).mono ?_; rintro e w1 ⟨rfl, hb1⟩)
                    | (go_at_call 67; refine (rup_below _ _ (by omega) (by omega)).mono ?_; rintro e w1 ⟨rfl, hb1⟩)
                    | (go_at_call 70; refine (rzeros_str _ _ (by omega) (by omega)).mono ?_; rintro e w1 ⟨rfl, hb1⟩))
                have hS : Below wc.heap.size wc w1 := And.left (by assumption)
                have HW2 : Hid (Below w.heap.size w w1) := below_step hS HBX.out
                clear hS e1 e2 q1 q2 q3 q4 hw1 hf1 hf2 hz1 hz2
                obtain ⟨u2, hu2⟩ : ∃ u2, u2 = u ++ (gapB gp.toNat ++ usedB t) := ⟨_, rfl⟩
                have hform : u ++ (gapB gp.toNat ++ (four s.toNat ++ (four 1 ++ (t ++ zs (upZ s - s).toNat)))) = u2 := by
                  rw [hu2]; unfold usedB
                  have e1 : s.toNat = t.length := by omega
                  have e2 : (upZ s - s).toNat = upN t.length - t.length := by
                    have e3 : s = ((t.length : Nat) : Int) := by omega
                    rw [e3, upZ_nat]; omega
                  rw [e1, e2]; simp only [List.append_assoc]
                rw [hform]
                have hl2 : u2.length = u.length + gp.toNat + 8 + upN t.length := by
                  rw [hu2, List.length_append, List.length_append, usedB_length, gapB_length _ (by have := HG8.out; omega)]; omega
                have hun := upN_bd t.length
                have hb2 : u2.length ≤ 30000000 := by omega
                have H28 : Hid (u2.length % 8 = 0) := by have h8 := H8.out; have hu8 := upN_8 t.length; have hg := HG8.out; show u2.length % 8 = 0; omega
                have HST : Hid (buildUnits true [] (itemsOf ps bs) = if 8192 < 8 + u2.length then none else buildUnits false u2 ((itemsOf ps bs).drop (k + 1))) := by
                  unfold Hid
                  rw [HH.out, buildUnits, if_neg, HGP.out, ← hu2]
                  have := HN5.out
                  have := H3.out
                  rw [HGP.out]
                  simp only [decide_eq_true_eq]
                  omega
                clear hform hl2 hu2 hun
                by_cases h9 : 8192 < 8 + u2.length
                · have g9 : decide (8192 < 8 + (u2.length : Int)) = true := by simp; omega
                  have HF : Hid (buildS n ps bs = ([], 122)) := by unfold Hid; rw [HS2.out, HST.out, if_pos h9]; rfl
                  go_wp2_with fail
                  go_ret2
                  exact ⟨by rw [HF.out]; rfl, HW2.out⟩
                · have g9 : decide (8192 < 8 + (u2.length : Int)) = false := by simp; omega
                  have HN : Hid (BuildI ps bs (k + 1) u2) := ⟨by rw [HST.out, if_neg h9]; rfl, by omega, H28.out⟩
                  go_wp2_with fail
                  go_roundw
                  case rel => exact ⟨k + 1, u2, rfl, by go_num, by omega, by omega, HN, HW2⟩
                  case measure => simp [intOf]; omega
          · have g3 : (a % 8 != 0) = true := by rw [bne_iff_ne]; exact h3
            have g3' : (a % 8 == 0) = false := by simpa using h3
            have HF := HFL.out (.inr (.inr (.inl h3)))
            go_wp2_with fail
            go_ret2
            exact ⟨by rw [HF.out]; rfl, HBW.out⟩
        · have hkm : k = m := by omega
          obtain ⟨hi1, hi2, hi3⟩ := HI.out
          rw [List.drop_eq_nil_of_le (by unfold itemsOf; simp only [List.length_map, List.length_zip]; have := HL1.out; have := HL2.out; omega)] at hi1
          have HF : Hid (buildS n ps bs = buildF n m (some u)) := by unfold Hid; rw [HS2.out, hi1, HL1.out]; rfl
          clear hi1 hi2 hi3 hkm
          by_cases h9 : n < 8 + (u.length : Int)
          · have g9 : decide (n < 8 + (u.length : Int)) = true := by simpa using h9
            have HF2 : Hid (buildS n ps bs = ([], 121)) := by unfold Hid; rw [HF.out]; simp only [buildF]; rw [if_pos h9]
            go_wp2_with fail
            go_ret2
            exact ⟨by rw [HF2.out]; rfl, HBW.out⟩
          · have g9 : decide (n < 8 + (u.length : Int)) = false := by simpa using h9
            have HF2 : Hid (buildS n ps bs = (four u.length ++ (four m ++ (u ++ zs (n - 8 - (u.length : Int)).toNat)), 0)) := by unfold Hid; rw [HF.out]; simp only [buildF]; rw [if_neg h9]
            have hf1 : (four u.length).length ≤ 4 := by rw [four_length]; omega
            have hf2 : (four m).length ≤ 4 := by rw [four_length]; omega
            have hz1 : (zs (n - 8 - (u.length : Int)).toNat).length ≤ 8200 := by rw [zs_length]; omega
            go_wp2_with fail
            refine (rfour_str _ _ (by omega) (by omega)).mono ?_
            rintro e w1 ⟨rfl, hb1⟩
            have HB1 := hid hb1; clear hb1
            go_wp2_with fail
            refine (rfour_str _ _ (by omega) (by omega)).mono ?_
            rintro e w2 ⟨rfl, hb2⟩
            have HB2 := hid hb2; clear hb2
            go_wp2_with fail
            refine (rzeros_str _ _ (by omega) (by omega)).mono ?_
            rintro e w3 ⟨rfl, hb3⟩
            have HB3 := hid hb3; clear hb3
            generalize zs (n - 8 - (u.length : Int)).toNat = z at *
            go_wp2_with fail
            go_ret2
            exact ⟨by rw [HF2.out]; simp [strV], below_step HB3.out (below_step HB2.out (below_step HB1.out HBW.out))⟩
/-- The contract of R.Build. -/
theorem build_any (n : Int) (v1 v2 : Value) (ps : List (Int × Int)) (bs : List (List UInt8)) (w : World) (hR : RP w v1 ps) (hT : RS w v2 bs) (hl1 : ps.length ≤ 10000000) (hl2 : bs.length ≤ 10000000) (hts : ∀ t ∈ bs, t.length ≤ 10000000) :
    Calls Try.prog 38 #[.int .i64 n, v1, v2] w (StrPost (buildS n ps bs) w) := by
  by_cases h : n < 16 ∨ 8192 < n ∨ ps.length ≠ bs.length
  · exact build_args n v1 v2 ps bs w hR hT hl1 hl2 h
  · exact build_rest n v1 v2 ps bs bs.length w hR hT (by omega) rfl hl2 (by omega) (by omega) hts
end Go.Proofs.Ytcfmimfkaabmkaa
