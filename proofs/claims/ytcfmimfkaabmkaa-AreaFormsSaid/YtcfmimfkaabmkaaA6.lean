/- The walk of the iterator (heap).units$1: it gives the units, one by one. -/
import Derived.Test.YtcfmimfkaabmkaaA5
import Derived.Test.YtcfmimfkaabmkaaRange
import Derived.Test.YtcfmimfkaabmkaaFreeL
import Derived.OwnWalkIn
import Derived.TacticsInMore
import Derived.LoopNIn
import Derived.LoopIn
set_option linter.unusedVariables false
set_option linter.unusedSimpArgs false
namespace Go.Proofs.Ytcfmimfkaabmkaa
open Go.RowKit
attribute [local go_sem] Oper.semAt_some
/-- The units of raw bytes from a on, up to en. -/
inductive UL (l : List UInt8) (en : Int) : Int → List (Int × Int × Int) → Prop
  | nil {a : Int} (h : ¬ a < en) : UL l en a []
  | cons {a : Int} {r : List (Int × Int × Int)} (h : a < en) (h0 : 8 ≤ a) (h1 : a + 8 + upZ (num l a.toNat) ≤ en) (hr : UL l en (a + 8 + upZ (num l a.toNat)) r) : UL l en a ((a, num l a.toNat, num l (a.toNat + 4)) :: r)
def encU (u : Int × Int × Int) : Array Value := #[.agg #[.int .i64 u.1, .int .i64 u.2.1, .int .i64 u.2.2]]
/-- What the iterator reads between two rounds. -/
def Reads (b Bh : Nat) (l : List UInt8) (W : World) : Prop := Bytes W b l ∧ W.cell? ⟨Bh, 0, none⟩ = some (.slice (some ⟨b, 0, none⟩) l.length l.length)
theorem drop_step {l : List UInt8} {en a : Int} {us r : List (Int × Int × Int)} {u : Int × Int × Int} {k : Nat} (h : us.drop k = u :: r) (hr : UL l en a r) : k + 1 ≤ us.length ∧ UL l en a (us.drop (k + 1)) := by
  have h3 : k < us.length := by
    rcases Nat.lt_or_ge k us.length with h3 | h3
    · exact h3
    · rw [List.drop_eq_nil_of_le h3] at h; cases h
  refine ⟨h3, ?_⟩
  have : us.drop (k + 1) = (us.drop k).drop 1 := by rw [List.drop_drop]
  rw [this, h]
  exact hr
set_option maxHeartbeats 1000000 in
set_option maxRecDepth 100000 in
theorem units_seq (b Bh : Nat) (l : List UInt8) (us : List (Int × Int × Int)) (hu : UL l (8 + num l 0) 8 us) (h1 : 16 ≤ l.length) (h2 : l.length ≤ 8192) (h3 : 8 + num l 0 ≤ l.length) :
    SeqL Try.prog 84 #[.pointer (some ⟨Bh, 0, none⟩)] (us.map encU) (Reads b Bh l) := by
  intro n0 lp J Jx W hn0 hJ hJx hR hY h0
  have HY := hid hY
  have HJ0 := hid hJ
  have HJx0 := hid hJx
  have HR := hid hR
  clear hY hJ hJx hR
  refine callsIn_of_wp Try.func84 rfl trivial ?_ rfl
  simp only [Try.ntmps84, List.size_toArray, List.length_cons, List.length_nil, Nat.reduceAdd, Nat.reduceSub, Array.replicate_succ, Array.replicate_zero, List.push_toArray, List.append_toArray, List.nil_append, List.cons_append]
  gi_wp2
  gi_loopw [3] (fun p wr => ∃ (k : Nat) (a : Int), p = .int .i64 a ∧ 8 ≤ a ∧ a ≤ 8192 ∧ Hid (k ≤ us.length ∧ UL l (8 + num l 0) a (us.drop k)) ∧ Hid (J k wr) ∧ n0 ≤ wr.heap.size)
    (fun p wr => (9000 - intOf p).toNat)
  case atStart => exact ⟨0, 8, rfl, by omega, by omega, ⟨Nat.zero_le _, hu⟩, h0, hn0⟩
  case round =>
    obtain ⟨k, a, rfl, ha0, ha1, HU, HJ, hn0r⟩ := hrel
    have hr := HR.out k wr HJ.out
    have HB := hid hr.1
    have hc := hr.2
    clear hr
    have hnm := num_bd l 0
    have hlen : l.length ≤ 1000000 := by omega
    gi_wp2_with fail
    refine ⟨trivial, rfl, ?_⟩
    refine (callsIn_wide.2 (hend_any _ _ _ l _ HB.out rfl (by omega) (Nat.le_refl _) hlen)).mono ?_
    rintro e w' ⟨rfl, rfl⟩
    by_cases hlt : a < 8 + num l 0
    · have HX : ∃ r, Hid (us.drop k = (a, num l a.toNat, num l (a.toNat + 4)) :: r ∧ a + 8 + upZ (num l a.toNat) ≤ 8 + num l 0 ∧ UL l (8 + num l 0) (a + 8 + upZ (num l a.toNat)) r) := by
        have h := HU.out.2
        generalize hd : us.drop k = d at h
        cases h with
        | nil h => exact absurd hlt h
        | cons h h0 h1 hr => exact ⟨_, rfl, h1, hr⟩
      obtain ⟨r, HX⟩ := HX
      have hb8 : a + 8 + upZ (num l a.toNat) ≤ 8 + num l 0 := HX.out.2.1
      have hs0 := num_bd l a.toNat
      have hup := upZ_bd (num l a.toNat) hs0.1
      have hq0 := num_bd l (a.toNat + 4)
      obtain ⟨hs0, hs1⟩ := hs0
      have HG1 := fun (w' : World) (h : Bytes w' b l) => get_any b l.length l.length l a w' h rfl (by omega) (by omega) (Nat.le_refl _) hlen
      have HG2 := fun (w' : World) (h : Bytes w' b l) => get_any b l.length l.length l (a + 4) w' h rfl (by omega) (by omega) (Nat.le_refl _) hlen
      rw [show (a + 4).toNat = a.toNat + 4 by omega] at HG2
      generalize hsz : num l a.toNat = s at *
      generalize hmk : num l (a.toNat + 4) = m at *
      have HG1 := hid HG1
      have HG2 := hid HG2
      have Hsz := hid hsz; clear hsz
      have Hmk := hid hmk; clear hmk
      have hw4 : IntKind.i64.wrap (a + 4) = a + 4 := IntWalk.i64_in _ ⟨by omega, by omega⟩
      gi_wp2_with fail
      refine wpIn_region_freeL open_wide (by kernel_rfl) (by kernel_rfl) (fun L w' => Below wr.heap.size wr w' ∧ w'.heap.size = wr.heap.size + (if L 9 then 1 else 0) ∧ (L 9 = true → OwnC w' ⟨wr.heap.size, 0, none⟩ ∧ OwnC w' ⟨wr.heap.size, 1, none⟩ ∧ OwnC w' ⟨wr.heap.size, 2, none⟩) ∧ (L 10 = true → w'.cell? ⟨wr.heap.size, 0, none⟩ = some (.int .i64 a) ∧ w'.cell? ⟨wr.heap.size, 1, none⟩ = some (.int .i64 s) ∧ w'.cell? ⟨wr.heap.size, 2, none⟩ = some (.int .i64 m))) ⟨(Below.refl _ _).drew, by simp, by simp, by simp⟩ ?_
      refine wpFreeL_val rfl (fun _ _ _ h => h) (fun K hK => ?_); apply Exists.intro; refine ⟨fun L w' hS => ?_, ?_⟩; (have hb := hS.1; have g0 := keepc hb hc; clear hS; go_simp; rfl); (go_simp; refine hK _ ?_; clear hK K)
      refine wpFreeL_val rfl (fun _ _ _ h => h) (fun K hK => ?_); apply Exists.intro; refine ⟨fun L w' hS => ?_, ?_⟩; (have hb := hS.1; have g0 := keepc hb hc; clear hS; go_simp; rfl); (go_simp; refine hK _ ?_; clear hK K)
      refine wpFreeL_val rfl (fun _ _ _ h => h) (fun K hK => ?_); apply Exists.intro; refine ⟨fun L w' hS => ?_, ?_⟩; (have hb := hS.1; have g0 := keepc hb hc; clear hS; go_simp; rfl); (go_simp; refine hK _ ?_; clear hK K)
      refine wpFreeL_gen rfl (fun K hK => ?_); apply Exists.intro; refine ⟨fun L w' _ hL _ hS => ?_, ?_⟩
      · have hb := hS.1; have g0 := keepc hb hc; go_simp; refine (HG1.out _ (HB.out.below hb HB.out.lt)).mono ?_; rintro e w1 ⟨rfl, rfl⟩; exact ⟨rfl, hS⟩
      go_simp; refine hK _ ?_; clear hK K
      refine wpFreeL_val rfl (fun _ _ _ h => h) (fun K hK => ?_); apply Exists.intro; refine ⟨fun L w' hS => ?_, ?_⟩; (have hb := hS.1; have g0 := keepc hb hc; clear hS; go_simp; rfl); (go_simp; refine hK _ ?_; clear hK K)
      refine wpFreeL_val rfl (fun _ _ _ h => h) (fun K hK => ?_); apply Exists.intro; refine ⟨fun L w' hS => ?_, ?_⟩; (have hb := hS.1; have g0 := keepc hb hc; clear hS; go_simp; rfl); (go_simp; refine hK _ ?_; clear hK K)
      refine wpFreeL_val rfl (fun _ _ _ h => h) (fun K hK => ?_); apply Exists.intro; refine ⟨fun L w' hS => ?_, ?_⟩; (have hb := hS.1; have g0 := keepc hb hc; clear hS; go_simp; rfl); (go_simp; refine hK _ ?_; clear hK K)
      refine wpFreeL_gen rfl (fun K hK => ?_); apply Exists.intro; refine ⟨fun L w' _ hL _ hS => ?_, ?_⟩
      · have hb := hS.1; have g0 := keepc hb hc; go_simp; refine (HG2.out _ (HB.out.below hb HB.out.lt)).mono ?_; rintro e w1 ⟨rfl, rfl⟩; exact ⟨rfl, hS⟩
      go_simp; refine hK _ ?_; clear hK K
      refine wpFreeL_val rfl (fun _ _ _ h => h) (fun K hK => ?_); apply Exists.intro; refine ⟨fun L w' hS => ?_, ?_⟩; (have hb := hS.1; have g0 := keepc hb hc; clear hS; go_simp; rfl); (go_simp; refine hK _ ?_; clear hK K)
      refine wpFreeL_gen rfl (fun K hK => ?_); refine ⟨.pointer (some ⟨wr.heap.size, 0, none⟩), fun L w' _ hL _ hS => ?_, ?_⟩
      · have hb := hS.1; have hz := hS.2.1; have hs := hS.2.2.2; clear hS
        rw [hL] at hz; rw [if_neg (by simp), Nat.add_zero] at hz
        have hno : L 10 = true → False := fun h => by have h1 := (hs h).1; have := World.block_lt_of_cell? _ _ h1; simp only at this; omega
        clear hs
        go_simp
        refine ⟨rfl, ⟨hb.alloc (by omega) _, ?_, ?_, ?_⟩⟩
        · simp [hz, addTo]
        · intro _; rw [← hz]; refine ⟨ownc_new _ _ _ 0 (by decide), ownc_new _ _ _ 1 (by decide), ownc_new _ _ _ 2 (by decide)⟩
        · intro h; exact (hno h).elim
      go_simp; refine hK _ ?_; clear hK K
      refine wpFreeL_gen rfl (fun K hK => ?_); refine ⟨undef, fun L w' _ hL hdep hS => ?_, ?_⟩
      · have hb := hS.1; have hz := hS.2.1; have ho := hS.2.2.1; clear hS
        have hal : L 9 = true := (hdep ⟨9, .data⟩ (by simp) rfl)
        have hoo := ho hal; have o0 := hoo.1; have o1 := hoo.2.1; have o2 := hoo.2.2
        have o0' := o0; obtain ⟨⟨u0, e0⟩, f0⟩ := o0'
        have o1' := o1; obtain ⟨⟨u1, e1⟩, f1⟩ := o1'
        have o2' := o2; obtain ⟨⟨u2, e2⟩, f2⟩ := o2'
        go_simp
        refine ⟨rfl, ⟨(((hb.setCell (Nat.le_refl _) _).setCell (Nat.le_refl _) _).setCell (Nat.le_refl _) _), ?_, ?_, ?_⟩⟩
        · simpa [World.setCell, addTo] using hz
        · intro _; exact ⟨(((o0.set _ _).set _ _).set _ _), (((o1.set _ _).set _ _).set _ _), (((o2.set _ _).set _ _).set _ _)⟩
        · intro _; exact ⟨by go_simp, by go_simp, by go_simp⟩
      go_simp; refine hK _ ?_; clear hK K
      refine wpFreeL_nil (fun L w' hL hS => ?_)
      have hb := hS.1; have hz := hS.2.1; have ho := hS.2.2.1; have hs := hS.2.2.2; clear hS
      have hal := hL 9 (by decide); have hst := hL 10 (by decide)
      rw [hal, if_pos rfl] at hz
      have hss := hs hst; have r0 := hss.1; have r1 := hss.2.1; have r2 := hss.2.2
      have hoo := ho hal; have o0 := hoo.1; have o1 := hoo.2.1; have o2 := hoo.2.2
      clear hL hs ho hal hst hss hoo
      obtain ⟨W1, hW1⟩ : ∃ W1, W1 = w' := ⟨_, rfl⟩
      subst hW1
      have hJ1 : J k W1 := HJ0.out k wr W1 HJ.out (below_grow hb none)
      have hkx : (us.map encU)[k]? = some (encU (a, s, m)) := by
        have h := HX.out.1
        rw [List.getElem?_map]
        have : us[k]? = some (a, s, m) := by
          have h2 : (us.drop k)[0]? = some (a, s, m) := by rw [h]; rfl
          rwa [List.getElem?_drop, Nat.add_zero] at h2
        rw [this]; rfl
      obtain ⟨fn, tmps, assign, body, hy, hRd⟩ := HY.out k _ W1 hkx hJ1
      simp only [encU] at hy
      have hbh : Bh < wr.heap.size := World.block_lt_of_cell? _ _ hc
      have HX2 := HX
      have hlt2 : wr.heap.size < W1.heap.size := by omega
      gi_wp2_with fail
      refine ⟨rfl, hRd.mono ?_⟩
      rintro e W2 (⟨rfl, hJ2, hk2⟩ | ⟨rfl, hJx2⟩)
      · have q0 := hk2.cell (p := ⟨wr.heap.size, 0, none⟩) hn0r r0
        have q1 := hk2.cell (p := ⟨wr.heap.size, 1, none⟩) hn0r r1
        have q2 := hk2.cell (p := ⟨wr.heap.size, 2, none⟩) hn0r r2
        have hz2 : wr.heap.size < W2.heap.size := World.block_lt_of_cell? _ _ q0
        have HJ2 := hid hJ2
        clear hJ2 hk2 r0 r1 r2 o0 o1 o2 hb hc
        gi_wp2_with fail
        refine ⟨trivial, rfl, ?_⟩
        refine (callsIn_wide.2 (end_any _ _ _ _ (by omega) (by omega) (by omega) (by omega))).mono ?_
        rintro e W3 ⟨rfl, hb3⟩
        have HB3 := hid hb3; clear hb3
        have hz3 := HB3.out.size
        gi_wp2_with fail
        go_roundw
        case rel => exact ⟨k + 1, a + 8 + upZ s, rfl, by omega, by omega, drop_step HX.out.1 HX.out.2.2, HJ0.out _ _ _ HJ2.out (below_grow HB3.out none), by omega⟩
        case measure => simp [intOf]; omega
      · have HJx2 := hid hJx2
        clear hJx2 r0 r1 r2 o0 o1 o2 hb hc
        gi_wp2_with fail
        refine bodyPost_ret (results_none rfl _ _ _) rfl ⟨⟨_, rfl⟩, .inr ⟨k + 1, ?_, HJx2.out⟩⟩
        rw [List.length_map]
        exact (drop_step HX.out.1 HX.out.2.2).1
    · have HX : Hid (us.length = k) := by
        have h := HU.out
        have h2 := h.2
        generalize hd : us.drop k = d at h2
        cases h2 with
        | nil h3 => have := List.drop_eq_nil_iff.1 hd; show us.length = k; omega
        | cons h3 => exact absurd h3 hlt
      gi_wp2_with fail
      go_end0
      exact ⟨⟨_, rfl⟩, .inl (by rw [List.length_map, HX.out]; exact HJ.out)⟩
end Go.Proofs.Ytcfmimfkaabmkaa
