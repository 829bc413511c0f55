/- fits. -/
import Derived.Test.YtifcgimpgbeocaaGreatK6
import Derived.Test.YtifcgimpgbeocaaGreatK43
import Derived.Test.YtifcgimpgbeocaaGreatK45
import Derived.Test.YtifcgimpgbeocaaGreatK26
import Derived.Test.YtifcgimpgbeocaaGreatK35
import Derived.Test.YtifcgimpgbeocaaGreatK11
set_option linter.unusedVariables false
set_option linter.unusedSimpArgs false
namespace Go.Proofs.YtifcgimpgbeocaaGreat
open Go.RowKit
attribute [local go_sem] Oper.semAt_some
set_option maxHeartbeats 1000000 in
set_option maxRecDepth 100000 in
theorem fits_any (p f : Int) (o : Option Addr) (n c : Nat) (w : World) : Calls Tryz.prog 16 #[.agg #[.int .i64 p, .int .i64 f, .slice o n c]] w (Ret (.bool (decide ((4 ≤ p ∧ p ≤ 4096) ∧ 1 ≤ f ∧ f ≤ 8))) w) := by
  have g0 : (w.alloc (.cells #[.int .i64 p, .int .i64 f, .slice o n c] 50)).cell? ⟨w.heap.size, 0, none⟩ = some (.int .i64 p) := cell_new _ _ _ 0 _ rfl
  have g1 : (w.alloc (.cells #[.int .i64 p, .int .i64 f, .slice o n c] 50)).cell? ⟨w.heap.size, 1, none⟩ = some (.int .i64 f) := cell_new _ _ _ 1 _ rfl
  have HB := hid (balloc (Below.refl w.heap.size w) (.cells #[.int .i64 p, .int .i64 f, .slice o n c] 50))
  by_cases h1 : 4 ≤ p
  rotate_left
  · have z1 : decide (4 ≤ p) = false := by simpa using h1
    have e : decide ((4 ≤ p ∧ p ≤ 4096) ∧ 1 ≤ f ∧ f ≤ 8) = false := by simp; omega
    rw [e]
    clear e h1
    go_enter Tryz.func16, Tryz.ntmps16
    go_wp2_with fail
    go_ret
    exact ⟨rfl, HB.out⟩
  have z1 : decide (4 ≤ p) = true := by simpa using h1
  by_cases h2 : p ≤ 4096
  rotate_left
  · have z2 : decide (p ≤ 4096) = false := by simpa using h2
    have e : decide ((4 ≤ p ∧ p ≤ 4096) ∧ 1 ≤ f ∧ f ≤ 8) = false := by simp; omega
    rw [e]
    clear e h1 h2
    go_enter Tryz.func16, Tryz.ntmps16
    go_wp2_with fail
    go_ret
    exact ⟨rfl, HB.out⟩
  have z2 : decide (p ≤ 4096) = true := by simpa using h2
  by_cases h3 : 1 ≤ f
  rotate_left
  · have z3 : decide (1 ≤ f) = false := by simpa using h3
    have e : decide ((4 ≤ p ∧ p ≤ 4096) ∧ 1 ≤ f ∧ f ≤ 8) = false := by simp; omega
    rw [e]
    clear e h1 h2 h3
    go_enter Tryz.func16, Tryz.ntmps16
    go_wp2_with fail
    go_ret
    exact ⟨rfl, HB.out⟩
  have z3 : decide (1 ≤ f) = true := by simpa using h3
  by_cases h4 : f ≤ 8
  · have z4 : decide (f ≤ 8) = true := by simpa using h4
    have e : decide ((4 ≤ p ∧ p ≤ 4096) ∧ 1 ≤ f ∧ f ≤ 8) = true := by simp; omega
    rw [e]
    clear e h1 h2 h3 h4
    go_enter Tryz.func16, Tryz.ntmps16
    go_wp2_with fail
    go_ret
    exact ⟨rfl, HB.out⟩
  · have z4 : decide (f ≤ 8) = false := by simpa using h4
    have e : decide ((4 ≤ p ∧ p ≤ 4096) ∧ 1 ≤ f ∧ f ≤ 8) = false := by simp; omega
    rw [e]
    clear e h1 h2 h3 h4
    go_enter Tryz.func16, Tryz.ntmps16
    go_wp2_with fail
    go_ret
    exact ⟨rfl, HB.out⟩
end Go.Proofs.YtifcgimpgbeocaaGreat
/- Plain: two stores that are one but for their acts. -/
set_option linter.unusedVariables false
set_option linter.unusedSimpArgs false
namespace Go.Proofs.YtifcgimpgbeocaaGreat
open Go.RowKit
def wa (st : St) (l : List Ac) : St := { st with acts := l }
/-- The acts of a commit. -/
def comX (st : St) : List Ac := if st.ops = [] then [] else if st.hd.1 = 4294967295 then [] else if room st < (nBytes st).length then [] else nActs st
theorem do_acts (st : St) (o : FOp) : (doSt st o).1.acts = st.acts := by
  unfold doSt
  split <;> rfl
theorem com_acts (st : St) : (commitD st).1.acts = st.acts ++ comX st := by
  unfold commitD comX
  split
  · simp
  · split
    · simp
    · split
      · simp
      · rfl
variable {A : List Ac} {sa sb : St}
/-! ### Bounds of a script -/
/-- How far a store has come: its turn, its operations, its acts. -/
structure Gone (T n a : Nat) (st : St) : Prop where
  live : Live st
  turn : st.hd.1 ≤ T
  ops : st.ops.length ≤ n
  acts : st.acts.length ≤ a
  file : st.hd.2.2.1 ≤ 8
theorem Gone.mono {T n a T' n' a' : Nat} {st : St} (h : Gone T n a st) (h1 : T ≤ T') (h2 : n ≤ n') (h3 : a ≤ a') : Gone T' n' a' st := ⟨h.live, Nat.le_trans h.turn h1, Nat.le_trans h.ops h2, Nat.le_trans h.acts h3, h.file⟩
theorem nActs_bd {st : St} (h : Live st) (hr : (nBytes st).length ≤ room st) : (nActs st).length ≤ 3000 := by
  rw [nActs_len]
  have hd := isDk_len h.as_.dk
  have h1 : (nW st).length ≤ pgs (nBytes st).length := by unfold nW; rw [layW_len]; omega
  have h2 := half_bd hd.2
  have h3 : (nBytes st).length ≤ 131008 := by unfold room at hr; omega
  unfold pgs at h1
  omega
theorem gone_do {T n a : Nat} {st : St} (h : Gone T n a st) (o : FOp) : Gone T (n + 1) a (doSt st o).1 := by
  refine ⟨do_live h.live o, ?_, ?_, ?_, ?_⟩
  · have := h.turn; unfold doSt; split <;> (simp only; omega)
  · have := h.ops
    unfold doSt
    split
    · simp only
      split
      · rw [List.length_append, List.length_singleton]; omega
      · omega
    · simp only; omega
  · rw [do_acts]; exact h.acts
  · have := h.file; unfold doSt; split <;> (simp only; omega)
theorem gone_undo {T n a : Nat} {st : St} (h : Gone T n a st) : Gone T n a (undoD st) := ⟨undo_live h.live, h.turn, Nat.zero_le _, h.acts, h.file⟩
theorem com_live {st : St} (h : Live st) (ht : st.hd.1 + 2 < 4294967296) : Live (commitD st).1 := by
  unfold commitD
  split
  · exact h
  · split
    · exact h
    · split
      · exact h
      · exact commit_live h (by omega) ht
theorem gone_commit {T n a : Nat} {st : St} (h : Gone T n a st) (hT : T ≤ 100000) : Gone (T + 1) n (a + 3000) (commitD st).1 := by
  have h1 := h.turn; have h2 := h.acts; have h3 := h.file; have h4 := h.ops
  refine ⟨com_live h.live (by omega), ?_, ?_, ?_, ?_⟩
  · unfold commitD
    split
    · simp only; omega
    · split
      · simp only; omega
      · split
        · simp only; omega
        · show st.hd.1 + 1 ≤ _; omega
  · unfold commitD
    split
    · simp only; omega
    · split
      · simp only; omega
      · split
        · simp only; omega
        · show 0 ≤ _; omega
  · rw [com_acts, List.length_append]
    have : (comX st).length ≤ 3000 := by
      unfold comX
      split
      · simp
      · split
        · simp
        · split
          · simp
          · exact nActs_bd h.live (by omega)
    omega
  · unfold commitD
    split
    · exact h3
    · split
      · exact h3
      · split
        · exact h3
        · exact h3
theorem Gone.now8 {T n a : Nat} {st : St} (h : Gone T n a st) : st.now.length ≤ 8 ∧ AllDs st.now ∧ st.kept.length ≤ 8 ∧ AllDs st.kept := by
  have := h.file
  exact ⟨by rw [now_len h.live]; omega, now_all h.live, by rw [kept_len h.live]; omega, kept_all h.live⟩
theorem gone_open {d : Dk} {hh : Hd} {L : Bs} {data : List Ds} {T : Nat} (H : OpenAs d hh L data) (hn : hh.1 ≤ T) : Gone T 0 0 ⟨d, hh, L, [], data, data, []⟩ := by
  have := hdOk_parts H.hd
  exact ⟨live_open H, hn, Nat.zero_le _, Nat.zero_le _, this.2.2.2.2.1⟩
end Go.Proofs.YtifcgimpgbeocaaGreat
/- opened. -/
set_option linter.unusedVariables false
set_option linter.unusedSimpArgs false
namespace Go.Proofs.YtifcgimpgbeocaaGreat
open Go.RowKit
attribute [local go_sem] Oper.semAt_some
/-- The store that Create makes. -/
def stNew (n f : Int) : St := ⟨(createD n f).1, (1, 0, f.toNat, 0), [], [], empties f.toNat, empties f.toNat, []⟩
def OpenedPost (st : St) (w : World) (e : Ending) (w' : World) : Prop :=
  ∃ S U vp vq, e = .returned (.tuple #[.pointer (some ⟨S, 0, none⟩), .agg #[vp, vq], .bool true]) ∧ Hold w U S st w' ∧ Keep U w' (fun x => RdS x vp st.dk.1) ∧ Keep U w' (fun x => RdW x vq st.dk.2)
set_option maxHeartbeats 2000000 in
set_option maxRecDepth 100000 in
theorem opened_any (n f : Int) (w : World) (hn : 4 ≤ n ∧ n ≤ 4096) (hf : 1 ≤ f ∧ f ≤ 8) : Calls Tryz.prog 17 #[.int .i64 n, .int .i64 f] w (OpenedPost (stNew n f) w) := by
  have HBW := hid (B2.new w 25 (.slice none 0 0) (.slice none 0 0))
  have HC := hid (fun w' => create_any n f w')
  have he : (createD n f).2 = 0 := by rw [createD_ok hn hf]
  have hlen : (createD n f).1.2.length = 0 := by rw [createD_ok hn hf]; rfl
  have hop : openD (createD n f).1 = (some (stNew n f), 0) := open_as (create_open hn hf)
  rw [he] at HC
  have hdk : (stNew n f).dk = (createD n f).1 := rfl
  obtain ⟨st, hst⟩ : ∃ st, stNew n f = st := ⟨_, rfl⟩
  rw [hst] at hop hdk ⊢
  generalize (createD n f).1 = d at *
  subst hdk
  have HOP := hid (fun vp vq w' hp hq => open_any st.dk vp vq w' hp hq (by omega))
  rw [hop] at HOP
  clear he hop hst hn hf hlen
  go_enter Tryz.func17, Tryz.ntmps17
  go_wp2_with fail
  refine (HC.out _).mono ?_
  rintro e w1 ⟨up, uq, rfl, ho1, ho2, hb1⟩
  have hB1 : B2 w w.heap.size w1 := HBW.out.below hb1
  have hz0 : w.heap.size < w1.heap.size := hB1.lt
  obtain ⟨o1, c1, rfl, -, -⟩ := ho1.rd
  obtain ⟨o2, c2, rfl, -, -⟩ := ho2.rd
  obtain ⟨N1, hN1⟩ : ∃ N, st.dk.1.length = N := ⟨_, rfl⟩
  obtain ⟨N2, hN2⟩ : ∃ N, st.dk.2.length = N := ⟨_, rfl⟩
  simp only [hN1, hN2] at ho1 ho2 ⊢
  obtain ⟨W2, hW2⟩ : ∃ W2, W2 = w1.alloc (.cells #[.slice o1 N1 c1, .slice o2 N2 c2] 25) := ⟨_, rfl⟩
  have hba : Below w1.heap.size w1 W2 := by rw [hW2]; exact balloc (Below.refl _ _) _
  have HB2 := hid (hB1.below hba)
  have HO1 := hid (ho1.below hba); have HO2 := hid (ho2.below hba)
  have d0 : W2.cell? ⟨w1.heap.size, 0, none⟩ = some (.slice o1 N1 c1) := by rw [hW2]; exact cell_new _ _ _ 0 _ rfl
  have d1 : W2.cell? ⟨w1.heap.size, 1, none⟩ = some (.slice o2 N2 c2) := by rw [hW2]; exact cell_new _ _ _ 1 _ rfl
  have HW2 := hid hW2
  have HZ0 := hid hz0
  clear hW2 hba ho1 ho2 hb1 hB1 HBW HC hN1 hN2 hz0
  go_upto_region 2 with fail
  have e := HW2.out
  rw [← e]
  clear e HW2
  obtain ⟨D, hD⟩ : ∃ D, w1.heap.size = D := ⟨_, rfl⟩
  simp only [hD] at d0 d1 HZ0 ⊢
  clear hD
  go_wp2_with fail
  refine (HOP.out _ _ _ HO1.out.rd HO2.out.rd).mono ?_
  rintro e w3 ⟨hb3, hS, -⟩
  obtain ⟨S, U, rfl, hso, hU⟩ := hS st rfl
  have HB3 := hid (HB2.out.below hb3)
  have d0 := keepc hb3 d0; have d1 := keepc hb3 d1
  have hz2 : w.heap.size < W2.heap.size := HB2.out.lt
  have HUR : Hid (∀ k, U k → k ≠ w.heap.size) := fun k hk e => by have := hU k hk; omega
  have HU0 : Hid (∀ k, U k → w.heap.size ≤ k) := fun k hk => by have := hU k hk; omega
  have n1 : ∀ k, (Value.slice o1 N1 c1).ownBlock = some k → ¬ (U k ∨ k = w.heap.size) := fun k hk => by
    have h1 := (World.ownsRow.lt HO1.out k hk).1
    have h2 := (World.ownsRow.lt HO1.out k hk).2
    rintro (hu | hu)
    · have := hU k hu; omega
    · rw [World.size_alloc] at h1; omega
  have n2 : ∀ k, (Value.slice o2 N2 c2).ownBlock = some k → ¬ (U k ∨ k = w.heap.size) := fun k hk => by
    have h1 := (World.ownsRow.lt HO2.out k hk).1
    have h2 := (World.ownsRow.lt HO2.out k hk).2
    rintro (hu | hu)
    · have := hU k hu; omega
    · rw [World.size_alloc] at h1; omega
  have HK1 := hid (keep_S (U := fun k => U k ∨ k = w.heap.size) (HO1.out.below hb3) n1)
  have HK2 := hid (keep_W (U := fun k => U k ∨ k = w.heap.size) (HO2.out.below hb3) n2)
  have HSO := hid hso
  clear n1 n2 hU hso hb3 hS HO1 HO2 HB2 hz2
  obtain ⟨⟨v0, y0⟩, f0⟩ := HB3.out.2.1
  obtain ⟨⟨v1, y1⟩, f1⟩ := HB3.out.2.2
  go_wp2_with fail
  go_region
  all_goals
    go_wp2_with fail
    obtain ⟨W9, hW9⟩ : ∃ W9, W9 = (((w3.setCell ⟨w.heap.size, 0, none⟩ (.slice o1 N1 c1)).setCell ⟨w.heap.size, 1, none⟩ (.slice o2 N2 c2)).drew) := ⟨_, rfl⟩
    have hf9 : Frm (fun k => k = w.heap.size) w3 W9 := by rw [hW9]; exact frm_two' _ _ _ _ _ _
    have hb9 : Below w.heap.size w W9 := Frm.below HB3.out.1 hf9 (fun k hk => by rw [hk]; exact Nat.le_refl _) HB3.out.1.size
    have hz := HB3.out.lt
    refine bodyPost_ret (v := .tuple #[.pointer (some ⟨S, 0, none⟩), .agg #[.slice o1 N1 c1, .slice o2 N2 c2], .bool true]) (by simp [results, Tryz.results17, go_sem, y0, y1, f0, f1, hz]) rfl ⟨S, U, _, _, rfl, ⟨?_, ?_, HU0.out⟩, ?_, ?_⟩
    · rw [← hW9]; exact HSO.out.frm hf9 HUR.out
    · rw [← hW9]; exact hb9
    · rw [← hW9]; exact HK1.out.step (hf9.mono fun i _ h => .inr h) (fun k hk => .inl (.inl hk))
    · rw [← hW9]; exact HK2.out.step (hf9.mono fun i _ h => .inr h) (fun k hk => .inl (.inl hk))
end Go.Proofs.YtifcgimpgbeocaaGreat
/- Plain: a script played: its store and its history; acts that can be carried out; what allowed answers. -/
set_option linter.unusedVariables false
set_option linter.unusedSimpArgs false
namespace Go.Proofs.YtifcgimpgbeocaaGreat
open Go.RowKit
abbrev Stp := Int × FOp
instance : Inhabited Stp := ⟨(0, 0, 0, [], [])⟩
/-! ### The bounds of a play that says no more -/
/-! ### What allowed answers -/
end Go.Proofs.YtifcgimpgbeocaaGreat
/- What stands while a script is played: the store, its history in memory. -/
set_option linter.unusedVariables false
set_option linter.unusedSimpArgs false
namespace Go.Proofs.YtifcgimpgbeocaaGreat
open Go.RowKit
/-- v reads as steps. -/
def RdSt (w : World) (v : Value) (l : List Stp) : Prop := ∃ o cap, v = .slice o l.length cap ∧ l.length ≤ cap ∧ (l = [] ∨ ∃ b off, o = some ⟨b, off, none⟩ ∧ b < w.heap.size ∧ ∀ i x, l[i]? = some x → w.cell? ⟨b, off + i * 5, none⟩ = some (.int .i64 x.1) ∧ w.cell? ⟨b, off + i * 5 + 1, none⟩ = some (.int .i64 x.2.1) ∧ w.cell? ⟨b, off + i * 5 + 2, none⟩ = some (.int .i64 x.2.2.1) ∧ w.cell? ⟨b, off + i * 5 + 3, none⟩ = some (strV x.2.2.2.1) ∧ w.cell? ⟨b, off + i * 5 + 4, none⟩ = some (strV x.2.2.2.2))
theorem RdSt.below {w w' : World} {v : Value} {d : List Stp} (h : RdSt w v d) (hb : Below w.heap.size w w') : RdSt w' v d := by
  obtain ⟨o, cap, e, hc, h⟩ := h
  refine ⟨o, cap, e, hc, ?_⟩
  rcases h with h | ⟨b, off, e1, e2, h⟩
  · exact .inl h
  · exact .inr ⟨b, off, e1, Nat.lt_of_lt_of_le e2 hb.size, fun i r hi => ⟨keepc hb (h i r hi).1, keepc hb (h i r hi).2.1, keepc hb (h i r hi).2.2.1, keepc hb (h i r hi).2.2.2.1, keepc hb (h i r hi).2.2.2.2⟩⟩
theorem Keep.of_below {U U' : Nat → Prop} {w w1 : World} {P : World → Prop} (h : Keep U w P) (hb : Below w.heap.size w w1) (hU : ∀ k, U' k → U k ∨ w.heap.size ≤ k) : Keep U' w1 P := h.step (Frm.of_below hb) hU
abbrev HA (H : Hist) : List Int := H.map (fun x => (x.1 : Int))
/-- The blocks of a history, and of a result. -/
def XB (Z R : Nat) (va vd : Value) (k : Nat) : Prop := va.ownBlock = some k ∨ vd.ownBlock = some k ∨ k = Z ∨ k = R
/-- Since w0 (U0, the store's memory then): the store st in U, the history H in the two cells of Z, the result's cells in R. -/
structure PlayI (w0 : World) (U0 : Nat → Prop) (S Z R : Nat) (v : Value) (l : List Stp) (va vd : Value) (us : List Value) (U : Nat → Prop) (st : St) (LA : List Int) (LD : List (List Ds)) (w : World) : Prop where
  so : So w U S st
  frm : Frm U0 w0 w
  uu : ∀ k, U k → U0 k ∨ w0.heap.size ≤ k
  xx : ∀ k, XB Z R va vd k → ¬ U k ∧ w0.heap.size ≤ k
  z0 : w.cell? ⟨Z, 0, none⟩ = some va
  z1 : w.cell? ⟨Z, 1, none⟩ = some vd
  zf : ∀ j, w.frozen? ⟨Z, j, none⟩ = false
  r0 : OwnC w ⟨R, 0, none⟩
  r1 : OwnC w ⟨R, 1, none⟩
  zr : Z ≠ R
  na : va.ownBlock ≠ some Z ∧ va.ownBlock ≠ some R
  nd : vd.ownBlock ≠ some Z ∧ vd.ownBlock ≠ some R
  oa : OI w 0 va LA
  od : OH w 0 vd us
  ul : us.length = LD.length
  rd : ∀ (i : Nat) (u : Value) (x : List Ds), us[i]? = some u → LD[i]? = some x → Keep (fun k => (U k ∨ XB Z R va vd k) ∨ k < w0.heap.size) w (fun w' => RdD w' u x)
  ks : Keep (fun k => U k ∨ XB Z R va vd k) w (fun w' => RdSt w' v l)
variable {w0 w w1 : World} {U0 U U' : Nat → Prop} {S Z R : Nat} {v va vd : Value} {l : List Stp} {us : List Value} {st st' : St} {LA : List Int} {LD : List (List Ds)}
/-- A step of the store. -/
theorem PlayI.step (h : PlayI w0 U0 S Z R v l va vd us U st LA LD w) (hs : So w1 U' S st') (hf : Frm U w w1) (hu : ∀ k, U' k → U k ∨ w.heap.size ≤ k) : PlayI w0 U0 S Z R v l va vd us U' st' LA LD w1 := by
  have hz := h.z0
  have hZl := World.block_lt_of_cell? _ _ h.z0
  obtain ⟨⟨r, hr⟩, hrf⟩ := h.r0
  have hRl := World.block_lt_of_cell? _ _ hr
  simp only at hZl hRl
  have hxl : ∀ k, XB Z R va vd k → k < w.heap.size := fun k hk => by
    rcases hk with hk | hk | hk | hk
    · exact (World.ownsRow.lt h.oa k hk).2
    · exact (World.ownsRow.lt h.od k hk).2
    · omega
    · omega
  have hxu : ∀ k, XB Z R va vd k → ¬ U k := fun k hk => (h.xx k hk).1
  have hkp : ∀ k, (U' k ∨ XB Z R va vd k) → (U k ∨ XB Z R va vd k) ∨ w.heap.size ≤ k := fun k hk => by
    rcases hk with hk | hk
    · exact (hu k hk).imp .inl id
    · exact .inl (.inr hk)
  have hf' : Frm (fun k => U k ∨ XB Z R va vd k) w w1 := hf.mono fun i _ h => .inl h
  have hkp1 : ∀ k, ((U' k ∨ XB Z R va vd k) ∨ k < w0.heap.size) → ((U k ∨ XB Z R va vd k) ∨ k < w0.heap.size) ∨ w.heap.size ≤ k := fun k hk => by
    rcases hk with hk | hk
    · exact (hkp k hk).imp .inl id
    · exact .inl (.inr hk)
  have hf1 : Frm (fun k => (U k ∨ XB Z R va vd k) ∨ k < w0.heap.size) w w1 := hf.mono fun i _ h => .inl (.inl h)
  refine ⟨hs, h.frm.trans hf fun i hi hk => ?_, fun k hk => ?_, fun k hk => ⟨fun hu' => ?_, (h.xx k hk).2⟩, hf.cell (hxu Z (.inr (.inr (.inl rfl)))) h.z0, hf.cell (hxu Z (.inr (.inr (.inl rfl)))) h.z1,
    fun j => (frozen_at (hf.block Z hZl (hxu Z (.inr (.inr (.inl rfl)))))).trans (h.zf j), hf.ownc (hxu R (.inr (.inr (.inr rfl)))) h.r0, hf.ownc (hxu R (.inr (.inr (.inr rfl)))) h.r1, h.zr, h.na, h.nd,
    hf.row h.oa fun k hk => hxu k (.inl hk), hf.row h.od fun k hk => hxu k (.inr (.inl hk)), h.ul, fun i u x a b => (h.rd i u x a b).step hf1 hkp1, h.ks.step hf' hkp⟩
  · exact (h.uu i hk).resolve_right (by omega)
  · rcases hu k hk with hk | hk
    · exact h.uu k hk
    · exact .inr (Nat.le_trans h.frm.size hk)
  · rcases hu k hu' with h1 | h1
    · exact hxu k hk h1
    · have := hxl k hk; omega
theorem PlayI.below (h : PlayI w0 U0 S Z R v l va vd us U st LA LD w) (hb : Below w.heap.size w w1) : PlayI w0 U0 S Z R v l va vd us U st LA LD w1 := h.step (h.so.below hb) (Frm.of_below hb) fun k hk => .inl hk
/-- What turns beside the store lets it stand. -/
theorem PlayI.turn (h : PlayI w0 U0 S Z R v l va vd us U st LA LD w) {va' vd' : Value} {us' : List Value} {LA' : List Int} {LD' : List (List Ds)} {G : Nat → Prop} (hf : Frm G w w1) (hG : ∀ k, G k → XB Z R va vd k)
    (hx : ∀ k, XB Z R va' vd' k → XB Z R va vd k ∨ w.heap.size ≤ k) (z0 : w1.cell? ⟨Z, 0, none⟩ = some va') (z1 : w1.cell? ⟨Z, 1, none⟩ = some vd') (zf : ∀ j, w1.frozen? ⟨Z, j, none⟩ = false) (r0 : OwnC w1 ⟨R, 0, none⟩) (r1 : OwnC w1 ⟨R, 1, none⟩)
    (na : va'.ownBlock ≠ some Z ∧ va'.ownBlock ≠ some R) (nd : vd'.ownBlock ≠ some Z ∧ vd'.ownBlock ≠ some R) (oa : OI w1 0 va' LA') (od : OH w1 0 vd' us') (ul : us'.length = LD'.length)
    (rd : ∀ (i : Nat) (u : Value) (x : List Ds), us'[i]? = some u → LD'[i]? = some x → Keep (fun k => (U k ∨ XB Z R va vd k) ∨ k < w0.heap.size) w (fun w' => RdD w' u x)) : PlayI w0 U0 S Z R v l va' vd' us' U st LA' LD' w1 := by
  have hult := h.so.ult
  have hkp : ∀ k, (U k ∨ XB Z R va' vd' k) → (U k ∨ XB Z R va vd k) ∨ w.heap.size ≤ k := fun k hk => by
    rcases hk with hk | hk
    · exact .inl (.inl hk)
    · exact (hx k hk).imp .inr id
  have hf' : Frm (fun k => U k ∨ XB Z R va vd k) w w1 := hf.mono fun i _ h => .inr (hG i h)
  have hkp1 : ∀ k, ((U k ∨ XB Z R va' vd' k) ∨ k < w0.heap.size) → ((U k ∨ XB Z R va vd k) ∨ k < w0.heap.size) ∨ w.heap.size ≤ k := fun k hk => by
    rcases hk with hk | hk
    · exact (hkp k hk).imp .inl id
    · exact .inl (.inr hk)
  have hf1 : Frm (fun k => (U k ∨ XB Z R va vd k) ∨ k < w0.heap.size) w w1 := hf.mono fun i _ h => .inl (.inr (hG i h))
  refine ⟨h.so.frm hf fun k hk hg => (h.xx k (hG k hg)).1 hk, h.frm.trans hf fun i hi hg => ?_, h.uu, fun k hk => ⟨fun hu => ?_, ?_⟩, z0, z1, zf, r0, r1, h.zr, na, nd, oa, od, ul, fun i u x a b => (rd i u x a b).step hf1 hkp1, h.ks.step hf' hkp⟩
  · have := (h.xx i (hG i hg)).2; omega
  · rcases hx k hk with h1 | h1
    · exact (h.xx k h1).1 hu
    · have := hult k hu; omega
  · rcases hx k hk with h1 | h1
    · exact (h.xx k h1).2
    · exact Nat.le_trans h.frm.size h1
theorem PlayI.rows (h : PlayI w0 U0 S Z R v l va vd us U st LA LD w) : va.ownBlock = none ∨ va.ownBlock ≠ vd.ownBlock := rows_apart h.oa h.od (by decide)
/-- What lasted lasts behind a step of the store. -/
theorem PlayI.keep (h : PlayI w0 U0 S Z R v l va vd us U st LA LD w) {P : World → Prop} (hP : Keep (fun k => (U k ∨ XB Z R va vd k) ∨ k < w0.heap.size) w P) (hf : Frm U w w1) (hu : ∀ k, U' k → U k ∨ w.heap.size ≤ k) : Keep (fun k => (U' k ∨ XB Z R va vd k) ∨ k < w0.heap.size) w1 P := by
  refine hP.step (hf.mono fun i _ h => .inl (.inl h)) fun k hk => ?_
  rcases hk with (hk | hk) | hk
  · exact (hu k hk).imp (fun h => .inl (.inl h)) id
  · exact .inl (.inl (.inr hk))
  · exact .inl (.inr hk)
theorem PlayI.xlt (h : PlayI w0 U0 S Z R v l va vd us U st LA LD w) : ∀ k, (U k ∨ XB Z R va vd k) → k < w.heap.size := fun k hk => by
  have hZl := World.block_lt_of_cell? _ _ h.z0
  obtain ⟨⟨r, hr⟩, hrf⟩ := h.r0
  have hRl := World.block_lt_of_cell? _ _ hr
  simp only at hZl hRl
  rcases hk with hk | hk | hk | hk | hk
  · exact h.so.ult k hk
  · exact (World.ownsRow.lt h.oa k hk).2
  · exact (World.ownsRow.lt h.od k hk).2
  · omega
  · omega
end Go.Proofs.YtifcgimpgbeocaaGreat
