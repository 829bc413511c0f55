/- The walks of area.New, area.Check, area.Extent, (heap).units. -/
import Derived.Test.YtcfmimfkaabmkaaXL
import Derived.Test.YtcfmimfkaabmkaaShelf
set_option linter.unusedVariables false
set_option linter.unusedSimpArgs false
namespace Go.Proofs.Ytcfmimfkaabmkaa
open Go.RowKit
attribute [local go_sem] Oper.semAt_some
/-- A string of these bytes. -/
def strV (l : List UInt8) : Value := .string ⟨l.toArray⟩
theorem strV_nil : strV [] = .string ⟨#[]⟩ := rfl
theorem strV_of (s : ByteArray) : strV s.data.toList = .string s := by unfold strV; rw [Array.toArray_toList]
def newS (n : Int) : List UInt8 × Int := if n < 16 ∨ 8192 < n then ([], 1) else (zs n.toNat, 0)
theorem repeat_zero (n : Nat) : Lib.repeatL [0] n = zs n := by
  induction n with
  | zero => rfl
  | succ n ih => unfold Lib.repeatL; rw [ih]; simp [zs, List.replicate_succ]
def NewPost (n : Int) (w : World) (e : Ending) (w' : World) : Prop := e = .returned (.tuple #[strV (newS n).1, .int .i64 (newS n).2]) ∧ Below w.heap.size w w'
set_option maxHeartbeats 1000000 in
theorem new_any (n : Int) (w : World) : Calls Try.prog 27 #[.int .i64 n] w (NewPost n w) := by
  by_cases h1 : n < 16
  · have e : newS n = ([], 1) := by unfold newS; rw [if_pos (.inl h1)]
    go_enter Try.func27, Try.ntmps27
    go_wp2_with fail
    refine bodyPost_ret (v := .tuple #[.string ⟨#[]⟩, .int .i64 1]) (by simp [results, Try.results27, go_sem]) rfl ⟨by rw [e]; rfl, Below.refl _ _⟩
  · by_cases h2 : 8192 < n
    · have e : newS n = ([], 1) := by unfold newS; rw [if_pos (.inr h2)]
      go_enter Try.func27, Try.ntmps27
      go_wp2_with fail
      refine bodyPost_ret (v := .tuple #[.string ⟨#[]⟩, .int .i64 1]) (by simp [results, Try.results27, go_sem]) rfl ⟨by rw [e]; rfl, Below.refl _ _⟩
    · have e : newS n = (zs n.toNat, 0) := by unfold newS; rw [if_neg (by omega)]
      obtain ⟨m, rfl⟩ := Int.eq_ofNat_of_zero_le (show 0 ≤ n by omega)
      have hc := Try.strings_Repeat ⟨#[0]⟩ m w (by omega) (by rw [show (⟨#[0]⟩ : ByteArray).size = 1 from rfl]; omega)
      have he : (⟨#[0]⟩ : ByteArray).data.toList = [0] := rfl
      rw [he, repeat_zero] at hc
      have HC := hid hc; clear hc
      have HE := hid e; clear e
      go_enter Try.func27, Try.ntmps27
      go_wp2_with fail
      refine HC.out.mono ?_
      rintro e w' ⟨rfl, hb⟩
      have HB := hid hb; clear hb
      go_wp2_with fail
      refine bodyPost_ret (v := .tuple #[.string ⟨(zs m).toArray⟩, .int .i64 0]) (by simp [results, Try.results27, go_sem]) rfl ⟨by rw [HE.out]; rfl, HB.out⟩
def CheckPost (a : List UInt8) (w : World) (e : Ending) (w' : World) : Prop := e = .returned (.int .i64 (if openS a then 0 else 120)) ∧ Below w.heap.size w w'
set_option maxHeartbeats 1000000 in
theorem check_any (s : ByteArray) (w : World) (hs : s.size ≤ maxLen) : Calls Try.prog 25 #[.string s] w (CheckPost s.data.toList w) := by
  have HO := hid (open_any s w hs)
  cases h : openS s.data.toList with
  | true =>
    have HH := hid h; clear h
    go_enter Try.func25, Try.ntmps25
    go_wp2_with fail
    refine HO.out.mono ?_
    rintro e w' ⟨hb, hx⟩
    rw [HH.out, if_pos rfl] at hx
    obtain ⟨B, rfl, hB, hBl⟩ := hx
    have HB := hid hb; clear hb hB
    go_wp2_with fail
    go_ret
    exact ⟨by rw [HH.out]; rfl, HB.out⟩
  | false =>
    have HH := hid h; clear h
    go_enter Try.func25, Try.ntmps25
    go_wp2_with fail
    refine HO.out.mono ?_
    rintro e w' ⟨hb, hx⟩
    rw [HH.out, if_neg (by simp)] at hx
    obtain ⟨o, n, c, rfl⟩ := hx
    have HB := hid hb; clear hb
    go_wp2_with fail
    go_ret
    exact ⟨by rw [HH.out]; rfl, HB.out⟩
set_option maxHeartbeats 1000000 in
theorem units_any (v : Value) (o : Option Addr) (n c : Nat) (hv : v = .slice o n c) (w : World) : Calls Try.prog 61 #[v] w fun e w' => e = .returned (.func (.func 84) #[] #[.pointer (some ⟨w.heap.size, 0, none⟩)]) ∧ w' = w.alloc (.cells #[v] 79) := by
  subst hv
  go_enter Try.func61, Try.ntmps61
  go_wp2_with fail
  go_ret
  exact ⟨rfl, rfl⟩
end Go.Proofs.Ytcfmimfkaabmkaa
/- The walk of (heap).find: the first allocation that has a byte. -/
set_option linter.unusedVariables false
set_option linter.unusedSimpArgs false
namespace Go.Proofs.Ytcfmimfkaabmkaa
open Go.RowKit
attribute [local go_sem] Oper.semAt_some
/-- Does the unit hold the byte at_? -/
def hits (at_ : Int) (u : Int × Int × Int) : Bool := u.2.2 == 1 && decide (u.1 + 8 ≤ at_) && decide (at_ < u.1 + 8 + u.2.1)
def findU (at_ : Int) (us : List (Int × Int × Int)) : Int × Int := match us.find? (hits at_) with | some u => (u.1 + 8, u.2.1) | none => (0, 0)
theorem us_bd {l : List UInt8} {en a : Int} {us : List (Int × Int × Int)} (h : UL l en a us) (hen : en ≤ 8192) : ∀ u ∈ us, 8 ≤ u.1 ∧ 0 ≤ u.2.1 ∧ u.1 + 8 + upZ u.2.1 ≤ en := by
  induction h with
  | nil _ => intro u hu; cases hu
  | cons h h0 h1 hr ih =>
    intro u hu
    rcases List.mem_cons.1 hu with rfl | hu
    · exact ⟨h0, (num_bd l _).1, h1⟩
    · exact ih u hu
def FindPost (at_ : Int) (us : List (Int × Int × Int)) (w : World) (e : Ending) (w' : World) : Prop := e = .returned (.agg #[.int .i64 (findU at_ us).1, .int .i64 (findU at_ us).2]) ∧ Below w.heap.size w w'
theorem map_some {us : List (Int × Int × Int)} {k : Nat} {x : Array Value} (h : (us.map encU)[k]? = some x) : ∃ u, us[k]? = some u ∧ x = encU u := by
  rw [List.getElem?_map] at h
  cases hu : us[k]? with
  | none => rw [hu] at h; cases h
  | some u => rw [hu] at h; cases h; exact ⟨u, rfl, rfl⟩
/-- Between two rounds of find: nothing has changed, no unit so far has the byte. -/
def FindI (at_ : Int) (us : List (Int × Int × Int)) (W0 : World) (k : Nat) (W : World) : Prop := Below W0.heap.size W0 W ∧ (us.take k).find? (hits at_) = none
def FindX (at_ : Int) (us : List (Int × Int × Int)) (w : World) (c : Code) (_ : Nat) (W : World) : Prop :=
  c = .ret ∧ Below w.heap.size w W ∧ W.cell? ⟨w.heap.size + 1, 0, none⟩ = some (.int .i64 (findU at_ us).1) ∧ W.cell? ⟨w.heap.size + 1, 1, none⟩ = some (.int .i64 (findU at_ us).2)
theorem findI_own (at_ : Int) (us : List (Int × Int × Int)) (W0 : World) (B : Nat) (h : W0.heap.size ≤ B) : OwnFrom B (FindI at_ us W0) :=
  OwnFrom.and (ownFrom_below (Nat.le_refl _) h) (ownF_pure _)
def findAct (b len : Nat) (at_ : Int) (N : Nat) (Bx : Nat) (u : Int × Int × Int) : Act := { tmps := #[.slice (some ⟨b, 0, none⟩) len len, .int .i64 at_, undef, .pointer (some ⟨N, 0, none⟩), .pointer (some ⟨N + 1, 0, none⟩), .pointer (some ⟨Bx, 0, none⟩), undef,
  .slice (some ⟨b, 0, none⟩) len len, .func (.func 84) #[] #[.pointer (some ⟨N + 1 + 1, 0, none⟩)], .agg #[.int .i64 u.1, .int .i64 u.2.1, .int .i64 u.2.2],
  undef, undef, undef, undef, undef, undef, undef, undef, undef, undef, undef, undef, undef, undef, undef, undef, undef, undef, undef, undef, undef, undef], defers := [] }
set_option maxHeartbeats 1000000 in
set_option maxRecDepth 100000 in
theorem find_raw (b : Nat) (l : List UInt8) (us : List (Int × Int × Int)) (at_ : Int) (w : World) (hB : Bytes w b l) (hu : UL l (8 + num l 0) 8 us) (h1 : 16 ≤ l.length) (h2 : l.length ≤ 8192) (h3 : 8 + num l 0 ≤ l.length) :
    Calls Try.prog 78 #[.slice (some ⟨b, 0, none⟩) l.length l.length, .int .i64 at_] w (FindPost at_ us w) := by
  have HBD := hid (us_bd hu (by omega))
  have hblt := hB.lt
  refine (callsIn_wide (n := 0)).1 (callsIn_of_wp_marks Try.func78 rfl trivial ?_ rfl)
  simp only [Try.ntmps78, List.size_toArray, List.length_cons, List.length_nil, Nat.reduceAdd, Nat.reduceSub, Array.replicate_succ, Array.replicate_zero, List.push_toArray, List.append_toArray, List.nil_append, List.cons_append]
  gi_wp2_with fail
  refine ⟨trivial, rfl, ?_⟩
  refine (callsIn_wide.2 (units_any _ _ _ _ rfl _)).mono ?_
  rintro e w' ⟨rfl, rfl⟩
  gi_wp2_with fail
  obtain ⟨W0, hW0⟩ : ∃ W0, W0 = ((w.alloc (.cells #[.int .i64 at_] 3)).alloc (.cells #[.int .i64 0, .int .i64 0] 37)).alloc (.cells #[.slice (some ⟨b, 0, none⟩) l.length l.length] 79) := ⟨_, rfl⟩
  rw [← hW0]
  have hz0 : W0.heap.size = w.heap.size + 3 := by rw [hW0]; simp
  have hb0 : Below w.heap.size w W0 := by rw [hW0]; exact (((Below.refl w.heap.size w).alloc (Nat.le_refl _) _).alloc (by simp) _).alloc (by simp; omega) _
  have c0 : W0.cell? ⟨w.heap.size, 0, none⟩ = some (.int .i64 at_) := by rw [hW0]; go_simp
  have c1 : W0.cell? ⟨w.heap.size + 1, 0, none⟩ = some (.int .i64 0) := by rw [hW0]; go_simp
  have c2 : W0.cell? ⟨w.heap.size + 1, 1, none⟩ = some (.int .i64 0) := by rw [hW0]; go_simp
  have f1 : W0.frozen? ⟨w.heap.size + 1, 0, none⟩ = false := by rw [hW0]; go_simp
  have f2 : W0.frozen? ⟨w.heap.size + 1, 1, none⟩ = false := by rw [hW0]; go_simp
  have c3 : W0.cell? ⟨w.heap.size + 2, 0, none⟩ = some (.slice (some ⟨b, 0, none⟩) l.length l.length) := by rw [hW0]; go_simp
  have hB0 : Bytes W0 b l := hB.below hb0 hblt
  clear hW0
  have HW0 := hid hb0
  refine wp_range (us := us.map encU) (R := Reads b (w.heap.size + 2) l) rfl (enters_of Try.func84 (by kernel_rfl) rfl) (units_seq b (w.heap.size + 2) l us hu h1 h2 h3) ?hps
    (FindI at_ us W0) (FindX at_ us w) (UBox W0.heap.size us (findAct b l.length at_ w.heap.size) (FindI at_ us W0))
    ?hI ?hIx ?hAx ?hR ?h0 ?hassign ?hbody ?hdone ?hstop
  case hps =>
    intro k x hx
    obtain ⟨u, _, rfl⟩ := map_some hx
    rfl
  case hI => exact findI_own _ _ _ _ (by omega)
  case hIx => exact fun c => OwnFrom.and (ownF_pure _) (OwnFrom.and (ownFrom_below (Nat.le_refl _) (by omega)) (OwnFrom.and (ownF_cell _ _) (ownF_cell _ _)))
  case hAx => exact ubox_own (findI_own _ _ _ _ (by omega))
  case hR => exact fun k W hi => ⟨hB0.below hi.1 hB0.lt, keepc hi.1 c3⟩
  case h0 => exact ⟨Below.refl _ _, rfl⟩
  case hassign =>
    intro lp k x W hx hi hsz
    obtain ⟨u, hu1, rfl⟩ := map_some hx
    simp only [encU]
    go_simp
    gi_wp2_with fail
    rw [← hz0]
    exact ubox_new hu1 (by omega) rfl ⟨hi.1.alloc (by omega) _, hi.2⟩
  case hbody =>
    rintro lp k x a₁ W hx ⟨Bx, u, ⟨hu1, hBx, rfl⟩, q0, q1, q2, hbw, hno⟩ hsz
    have HNO := hid hno
    have HBW := hid hbw
    have d0 := keepc hbw c0
    have d1 := keepc hbw c1
    have d2 := keepc hbw c2
    have e1 := keepf hbw c1 f1
    have e2 := keepf hbw c2 f2
    have hub := HBD.out u (List.mem_of_getElem? hu1)
    have HU1 := hid hu1
    clear hx hu1 hbw hno hb0 c0 c1 c2 c3 f1 f2 hB0 hB hu
    obtain ⟨a, s, m⟩ := u
    simp only at q0 q1 q2 hub
    obtain ⟨hub0, hub1, hub2⟩ := hub
    have hup := upZ_bd s hub1
    have hlt1 : Bx < W.heap.size := World.block_lt_of_cell? _ _ q0
    unfold findAct
    gi_wp2_with fail
    refine ⟨trivial, rfl, ?_⟩
    refine ((open_round lp).calls (piece_any a s m W (by omega) (by omega))).mono ?_
    rintro e W1 ⟨rfl, hb1⟩
    have HB1 := hid hb1
    have q0 := keepc hb1 q0
    have q1 := keepc hb1 q1
    have q2 := keepc hb1 q2
    have e1 := keepf hb1 d1 e1
    have e2 := keepf hb1 d2 e2
    have d0 := keepc hb1 d0
    have d1 := keepc hb1 d1
    have d2 := keepc hb1 d2
    have hlt2 : Bx < W1.heap.size := World.block_lt_of_cell? _ _ q0
    have hlt3 : w.heap.size + 1 < W1.heap.size := World.block_lt_of_cell? _ _ d1
    have hlt4 : w.heap.size < W1.heap.size := by omega
    have hsz1 : W0.heap.size + 2 ≤ W1.heap.size := by have := HB1.out.size; omega
    clear hb1
    have hnext : hits at_ (a, s, m) = false → (us.take (k + 1)).find? (hits at_) = none := fun h => by
      rw [List.take_add_one, HU1.out, List.find?_append, HNO.out]; simp [h]
    have HNX := hid hnext; clear hnext
    have hfin : ∀ W2, Below W1.heap.size W1 W2 → Rnd W0.heap.size W W2 ∧ FindI at_ us W0 k W2 := fun W2 h2 => ⟨((Rnd.refl _ _).below HB1.out).below h2, below_step h2 (below_step HB1.out HBW.out), HNO.out⟩
    have HF := hid hfin; clear hfin
    by_cases hm : m = 1
    · subst hm
      by_cases h1 : a + 8 ≤ at_
      · have g1 : decide (a + 8 ≤ at_) = true := by simpa using h1
        by_cases h2 : at_ < a + 8 + s
        · have g2 : decide (at_ < a + 8 + s) = true := by simpa using h2
          have hh : findU at_ us = (a + 8, s) := by
            have hhit : hits at_ (a, s, 1) = true := by unfold hits; simp [g1, g2]
            unfold findU
            have hsp : us = us.take k ++ ((a, s, 1) :: us.drop (k + 1)) := by
              have := List.take_append_drop k us
              rw [List.drop_eq_getElem_cons (by have := (List.getElem?_eq_some_iff.1 HU1.out).1; exact this)] at this
              have he : us[k]'((List.getElem?_eq_some_iff.1 HU1.out).1) = (a, s, 1) := (List.getElem?_eq_some_iff.1 HU1.out).2
              rw [he] at this
              exact this.symm
            rw [hsp, List.find?_append, HNO.out]
            simp [hhit]
          have HH := hid hh; clear hh
          gi_wp2_with fail
          refine ⟨((((Rnd.refl _ _).below HB1.out).setCell (p := ⟨w.heap.size + 1, 0, none⟩) (.inl (by show w.heap.size + 1 < W0.heap.size; omega)) _).setCell (p := ⟨w.heap.size + 1, 1, none⟩) (.inl (by show w.heap.size + 1 < W0.heap.size; omega)) _).alloc _, rfl, ?_, ?_, ?_⟩
          · exact ((((HW0.out.trans (HBW.out.mono (by omega))).trans (HB1.out.mono (by omega))).setCell (p := ⟨w.heap.size + 1, 0, none⟩) (by show w.heap.size ≤ w.heap.size + 1; omega) _).setCell (p := ⟨w.heap.size + 1, 1, none⟩) (by show w.heap.size ≤ w.heap.size + 1; omega) _).alloc (by simp [World.setCell]; omega) _
          · rw [HH.out]; go_simp
          · rw [HH.out]; go_simp
        · have g2 : decide (at_ < a + 8 + s) = false := by simpa using h2
          have HI := HNX.out (by unfold hits; simp [g2])
          gi_wp2_with fail
          exact ⟨((Rnd.refl _ _).below HB1.out).alloc _, (below_step HB1.out HBW.out).alloc (by omega) _, HI⟩
      · have g1 : decide (a + 8 ≤ at_) = false := by simpa using h1
        have HI := HNX.out (by unfold hits; simp [g1])
        gi_wp2_with fail
        exact ⟨((Rnd.refl _ _).below HB1.out).alloc _, (below_step HB1.out HBW.out).alloc (by omega) _, HI⟩
    · have g0 : (m == 1) = false := by simpa using hm
      have HI := HNX.out (by unfold hits; simp [g0])
      clear hm
      gi_wp2_with fail
      exact ⟨((Rnd.refl _ _).below HB1.out).alloc _, (below_step HB1.out HBW.out).alloc (by omega) _, HI⟩
  case hdone =>
    rintro D W hD ⟨hbw, hno⟩ hK
    have hh : findU at_ us = (0, 0) := by
      unfold findU; rw [List.length_map, List.take_length] at hno; rw [hno]
    have HH := hid hh; clear hh hno
    have HBW := hid hbw
    have d1 := keepc hbw c1
    have d2 := keepc hbw c2
    have e1 := keepf hbw c1 f1
    have e2 := keepf hbw c2 f2
    have HK := hid hK
    have hlt3 : w.heap.size + 1 < W.heap.size := World.block_lt_of_cell? _ _ d1
    clear hbw hb0 c0 c1 c2 c3 f1 f2 hB0 hB hu hK
    gi_wp2_with fail
    have HK2 : ((W.setCell ⟨w.heap.size + 1, 0, none⟩ (.int .i64 0)).setCell ⟨w.heap.size + 1, 1, none⟩ (.int .i64 0)).heap[D]? = some (.deferred (some [])) := by
      rw [Below.heap_setCell _ _ _ _ (by show D ≠ w.heap.size + 1; omega), Below.heap_setCell _ _ _ _ (by show D ≠ w.heap.size + 1; omega)]; exact HK.out
    refine ⟨by simp, .inl ⟨_, _, rfl, run_takeDeferred HK2, .agg #[.int .i64 0, .int .i64 0], ?_, by rw [HH.out], ?_⟩⟩
    · have p1 := cell_put (o' := .deferred none) HK2 rfl (show ((W.setCell ⟨w.heap.size + 1, 0, none⟩ (.int .i64 0)).setCell ⟨w.heap.size + 1, 1, none⟩ (.int .i64 0)).cell? ⟨w.heap.size + 1, 0, none⟩ = some (.int .i64 0) by go_simp)
      have p2 := cell_put (o' := .deferred none) HK2 rfl (show ((W.setCell ⟨w.heap.size + 1, 0, none⟩ (.int .i64 0)).setCell ⟨w.heap.size + 1, 1, none⟩ (.int .i64 0)).cell? ⟨w.heap.size + 1, 1, none⟩ = some (.int .i64 0) by go_simp)
      simp [results, Try.results78, go_sem, p1, p2]
    · exact below_put (((HW0.out.trans (HBW.out.mono (by omega))).setCell (p := ⟨w.heap.size + 1, 0, none⟩) (by show w.heap.size ≤ w.heap.size + 1; omega) _).setCell (p := ⟨w.heap.size + 1, 1, none⟩) (by show w.heap.size ≤ w.heap.size + 1; omega) _) (by omega) _
  case hstop =>
    rintro D c k W hD ⟨rfl, hbw, d1, d2⟩ hK
    have HBW := hid hbw; clear hbw
    have hlt3 : w.heap.size + 1 < W.heap.size := World.block_lt_of_cell? _ _ d1
    have HK := hid hK; clear hK
    clear hb0 c0 c1 c2 c3 f1 f2 hB0 hB hu
    gi_wp2_with fail
    refine ⟨by simp, .inl ⟨_, _, rfl, run_takeDeferred HK.out, .agg #[.int .i64 (findU at_ us).1, .int .i64 (findU at_ us).2], ?_, rfl, below_put HBW.out (by omega) _⟩⟩
    have p1 := cell_put (o' := .deferred none) HK.out rfl d1
    have p2 := cell_put (o' := .deferred none) HK.out rfl d2
    simp [results, Try.results78, go_sem, p1, p2]
end Go.Proofs.Ytcfmimfkaabmkaa
/- The walk of area.Alloc: what it refuses. Helpers for the printed regions. -/
set_option linter.unusedVariables false
set_option linter.unusedSimpArgs false
namespace Go.Proofs.Ytcfmimfkaabmkaa
open Go.RowKit
attribute [local go_sem] Oper.semAt_some
theorem keep_alloc {w : World} {a : Addr} {v : Value} (h : w.cell? a = some v) (o : Obj) : (w.alloc o).cell? a = some v := keepc ((Below.refl w.heap.size w).alloc (Nat.le_refl _) o) h
theorem own_alloc {w : World} {a : Addr} (h : OwnC w a) (o : Obj) : OwnC (w.alloc o) a := keepOwn ((Below.refl w.heap.size w).alloc (Nat.le_refl _) o) h
theorem Bytes.grow1 {w : World} {b : Nat} {l : List UInt8} (h : Bytes w b l) (o : Obj) : Bytes (w.alloc o) b l := h.below ((Below.refl w.heap.size w).alloc (Nat.le_refl _) o) h.lt
theorem bytes_other {w : World} {b : Nat} {l : List UInt8} (h : Bytes w b l) {p : Addr} (hp : b ≠ p.block) (v : Value) : Bytes (w.setCell p v) b l := (Below.heap_setCell _ _ _ _ hp).trans h
theorem below_grown {b : Nat} {w A B : World} (h : Below w.heap.size w A) (hg : A.grownBy B (some b)) (hb : w.heap.size ≤ b) : Below w.heap.size w B :=
  ⟨hg.os.trans h.os, hg.tape.trans h.tape, hg.output.trans h.output, Nat.le_trans h.size hg.size, fun k hk => (hg.block k (by have := h.size; omega) (by simp; omega)).trans (h.block k hk)⟩
theorem own_grown {A B : World} {b : Nat} {a : Addr} (h : OwnC A a) (hg : A.grownBy B (some b)) (hne : a.block ≠ b) : OwnC B a := by
  obtain ⟨⟨v, hv⟩, hf⟩ := h
  have hk := hg.block a.block (World.block_lt_of_cell? A a hv) (by simp; omega)
  exact ⟨⟨v, hg.cell hv (by simp; omega)⟩, (World.frozen?_of_block hk).trans hf⟩
/-- The answer of area.Alloc at an area's raw bytes l, with the units us. -/
def allocFit (n : Int) (u : Int × Int × Int) : Bool := !(u.2.2 == 1) && decide (upZ n ≤ upZ u.2.1)
def putHead (l : List UInt8) (a s m : Int) : List UInt8 := setL (setL l a.toNat s.toNat) (a.toNat + 4) m.toNat
def allocRaw (l : List UInt8) (us : List (Int × Int × Int)) (n : Int) : List UInt8 × Int × Int :=
  match us.find? (allocFit n) with
  | some u =>
    let l1 := putHead (setL l 4 (num l 4 + 1).toNat) u.1 n 1
    (if upZ n < upZ u.2.1 then putHead l1 (u.1 + 8 + upZ n) (upZ u.2.1 - upZ n - 8) 2 else l1, u.1 + 8, 0)
  | none =>
    if 8 + num l 0 + 8 + upZ n > l.length then ([], 0, 121)
    else (setL (putHead (setL l 4 (num l 4 + 1).toNat) (8 + num l 0) n 1) 0 (num l 0 + 8 + upZ n).toNat, 8 + num l 0 + 8, 0)
def TriPost (r : List UInt8 × Int × Int) (w : World) (e : Ending) (w' : World) : Prop :=
  e = .returned (.tuple #[strV r.1, .int .i64 r.2.1, .int .i64 r.2.2]) ∧ Below w.heap.size w w'
set_option maxHeartbeats 1000000 in
set_option maxRecDepth 100000 in
theorem alloc_bad (s : ByteArray) (n : Int) (w : World) (hs : s.size ≤ maxLen) (h : openS s.data.toList = false) : Calls Try.prog 20 #[.string s, .int .i64 n] w (TriPost ([], 0, 120) w) := by
  have HO := fun w => open_any s w hs
  have HO := hid HO
  have HH := hid h; clear h
  go_enter Try.func20, Try.ntmps20
  go_wp2_with fail
  refine (HO.out _).mono ?_
  rintro e w1 ⟨hb, hx⟩
  rw [HH.out, if_neg (by simp)] at hx
  obtain ⟨o, k, c, rfl⟩ := hx
  obtain ⟨hc, hf⟩ := bcell hb
  have hz : w.heap.size + 3 < w1.heap.size := by have := hb.size; simp at this; omega
  have hz2 : w.heap.size + 2 < w1.heap.size := by omega
  have hz1 : w.heap.size + 1 < w1.heap.size := by omega
  have HB := hid hb; clear hb
  go_wp2_with fail
  refine bodyPost_ret (v := .tuple #[.string ⟨#[]⟩, .int .i64 0, .int .i64 120]) (by simp [results, Try.results20, go_sem, hc, hz, hz1, hz2]) rfl ⟨rfl, ?_⟩
  have HBW : Hid (Below w.heap.size w w1) := ((((Below.refl w.heap.size w).alloc (Nat.le_refl _) _).alloc (by simp) _).alloc (by simp; omega) _ |>.alloc (by simp; omega) _).trans (HB.out.mono (by simp; omega))
  clear hc hf
  repeat (first | exact HBW.out | refine Below.alloc ?_ (by simp [World.setCell]; try omega) _ | refine Below.setCell ?_ (by dsimp only; omega) _)
set_option maxHeartbeats 1000000 in
set_option maxRecDepth 100000 in
theorem alloc_arg (s : ByteArray) (n : Int) (w : World) (hs : s.size ≤ maxLen) (h : openS s.data.toList = true) (hn : n < 1 ∨ 8192 < n) : Calls Try.prog 20 #[.string s, .int .i64 n] w (TriPost ([], 0, 1) w) := by
  have HO := fun w => open_any s w hs
  have HO := hid HO
  have HH := hid h; clear h
  rcases hn with hn | hn
  all_goals
    first | (have hd1 : decide (n < 1) = true := by simpa using hn) | (have hd1 : decide (n < 1) = false := by simp; omega)
    try have hd2 : decide (8192 < n) = true := by simpa using hn
    clear hn
    go_enter Try.func20, Try.ntmps20
    go_wp2_with fail
    refine (HO.out _).mono ?_
    rintro e w1 ⟨hb, hx⟩
    rw [HH.out, if_pos rfl] at hx
    obtain ⟨B, rfl, hB, hBl⟩ := hx
    obtain ⟨hc, hf⟩ := bcell hb
    have hz : w.heap.size + 3 < w1.heap.size := by have := hb.size; simp at this; omega
    have hz2 : w.heap.size + 2 < w1.heap.size := by omega
    have hz1 : w.heap.size + 1 < w1.heap.size := by omega
    have hz0 : w.heap.size < w1.heap.size := by omega
    have HB := hid hb; clear hb hB hBl
    go_wp2_with fail
    refine bodyPost_ret (v := .tuple #[.string ⟨#[]⟩, .int .i64 0, .int .i64 1]) (by simp [results, Try.results20, go_sem, hc, hz, hz1, hz2]) rfl ⟨rfl, ?_⟩
    have HBW : Hid (Below w.heap.size w w1) := ((((Below.refl w.heap.size w).alloc (Nat.le_refl _) _).alloc (by simp) _).alloc (by simp; omega) _ |>.alloc (by simp; omega) _).trans (HB.out.mono (by simp; omega))
    clear hc hf
    repeat (first | exact HBW.out | refine Below.alloc ?_ (by simp [World.setCell]; try omega) _ | refine Below.setCell ?_ (by dsimp only; omega) _)
end Go.Proofs.Ytcfmimfkaabmkaa
