/- Rows of lists of datasets; appends to rows of numbers and of such lists; a struct of two cells set; what lasts. -/
import Derived.Test.YtifcgimpgbeocaaGreatK27
import Derived.Test.YtifcgimpgbeocaaGreatK33
import Derived.Test.YtifcgimpgbeocaaGreatK11
set_option linter.unusedVariables false
set_option linter.unusedSimpArgs false
namespace Go.Proofs.YtifcgimpgbeocaaGreat
open Go.RowKit
theorem infoH : (Tryz.prog.info? 35).map (fun i => (i.zero, i.size, i.bytes)) = some (some (.slice none 0 0), 1, 24) := by kernel_rfl
/-- v is a row of one's own, of the values us. -/
def OH (w : World) (B : Nat) (v : Value) (us : List Value) : Prop := w.ownsRow B 35 1 v us.length us
theorem OH.cells {w : World} {B : Nat} {v : Value} {l : List Value} (h : OH w B v l) (hne : 0 < l.length) :
    ∃ g cap, v = .slice (some ⟨g, 0, none⟩) l.length cap ∧ B ≤ g ∧ g < w.heap.size ∧ l.length ≤ cap ∧ (∀ j, w.frozen? ⟨g, j, none⟩ = false) ∧ ∀ j u, l[j]? = some u → w.cell? ⟨g, j, none⟩ = some u := by
  have h0 := h
  unfold OH at h0
  obtain ⟨hl, ⟨rfl, hn⟩ | ⟨g, cap, cur, rfl, hb, hg, hnc, hcm, hcs, ht⟩⟩ := h
  · omega
  · refine ⟨g, cap, rfl, hb, (Array.getElem?_eq_some_iff.1 hg).1, hnc, fun j => World.ownsRow.frozenAt h0 j, fun j u hj => ?_⟩
    have hlt := (List.getElem?_eq_some_iff.1 hj).1
    rw [← ht, List.getElem?_take_of_lt (by omega)] at hj
    unfold World.cell?
    simp only [hg]
    simpa using hj
theorem OH.below {w w' : World} {B : Nat} {v : Value} {l : List Value} (h : OH w B v l) (hb : Below w.heap.size w w') : OH w' B v l :=
  World.ownsRow.kept (row := none) h (below_grow hb none) (by cases v.ownBlock <;> simp)
/-- v reads as lists of datasets. -/
def RdH (w : World) (v : Value) (l : List (List Ds)) : Prop := ∃ o cap, v = .slice o l.length cap ∧ l.length ≤ cap ∧ (l = [] ∨ ∃ b off, o = some ⟨b, off, none⟩ ∧ b < w.heap.size ∧ ∀ i d, l[i]? = some d → ∃ u, w.cell? ⟨b, off + i, none⟩ = some u ∧ RdD w u d)
theorem RdH.below {w w' : World} {v : Value} {d : List (List Ds)} (h : RdH w v d) (hb : Below w.heap.size w w') : RdH w' v d := by
  obtain ⟨o, cap, e, hc, h⟩ := h
  refine ⟨o, cap, e, hc, ?_⟩
  rcases h with h | ⟨b, off, e1, e2, h⟩
  · exact .inl h
  · exact .inr ⟨b, off, e1, Nat.lt_of_lt_of_le e2 hb.size, fun i r hi => by obtain ⟨u, h1, h2⟩ := h i r hi; exact ⟨u, keepc hb h1, h2.below hb⟩⟩
theorem OH.rd {w : World} {B : Nat} {v : Value} {us : List Value} {l : List (List Ds)} (h : OH w B v us) (hl : us.length = l.length) (hr : ∀ (i : Nat) (u : Value) (x : List Ds), us[i]? = some u → l[i]? = some x → RdD w u x) : RdH w v l := by
  rcases Nat.eq_zero_or_pos us.length with h0 | h0
  · have e : l = [] := List.eq_nil_of_length_eq_zero (by omega)
    subst e
    obtain ⟨-, ⟨rfl, hn⟩ | ⟨g, cap, cur, rfl, hb, hg, hnc, hcm, hcs, ht⟩⟩ := h
    · exact ⟨none, 0, rfl, Nat.le_refl _, .inl rfl⟩
    · exact ⟨_, cap, by rw [hl], by simp, .inl rfl⟩
  · obtain ⟨g, cap, rfl, hb, hg, hnc, -, hc⟩ := h.cells h0
    refine ⟨_, cap, by rw [hl], by omega, .inr ⟨g, 0, rfl, hg, fun i d hi => ?_⟩⟩
    obtain ⟨u, hu⟩ : ∃ u, us[i]? = some u := ⟨_, List.getElem?_eq_getElem (by have := (List.getElem?_eq_some_iff.1 hi).1; omega)⟩
    exact ⟨u, by rw [Nat.zero_add]; exact hc i u hu, hr i u d hu hi⟩
theorem RdD.slice {w : World} {v : Value} {l : List Ds} (h : RdD w v l) : ∃ o c, v = .slice o l.length c := by obtain ⟨o, c, e, -⟩ := h; exact ⟨o, c, e⟩
theorem step_appI {ops : Array Oper} {o : Oper} {a : Act} {w : World} {K : Act → World → Prop} {Q : Exit → Act → World → Prop} {E : Prop} (hgd : o.guard = none) (s x : Operand)
    (ho : o.op = .call { callee := .builtin .append, args := #[s, x], argTypes := #[168, 168] }) (B : Nat) (v : Value) (l : List Int) (y : Int) (g c : Nat)
    (hs : a.eval s = v) (hx : a.eval x = .slice (some ⟨g, 0, none⟩) 1 c) (hP : OI w B v l) (hc : w.cell? ⟨g, 0, none⟩ = some (.int .i64 y)) (hn : l.length ≤ 1000000) (hb : B ≤ w.heap.size)
    (h : ∀ v' w', OI w' B v' (l ++ [y]) → w.grownBy w' v.ownBlock → (v'.ownBlock = v.ownBlock ∨ v'.ownBlock = some w.heap.size) → K (a.put o.dst v') w') : if Region.wanted o (yielded ops a.tmps) = true then Oper.wp Tryz.prog o a w K Q else E := by
  obtain ⟨i0, hi, hz0, hz1, hz2⟩ := info_parts infoI
  refine step_append_own hgd s x 168 3 ho i0 (.int .i64 0) 1 8 underI hi hz0 hz1 hz2 rfl (by decide) B v l.length (encI l) hs hP ⟨g, 0, none⟩ 1 c (encI [y]) hx rfl ?_ ?_ (by unfold maxLen; omega) (by omega) hb ?_
  · intro j u hj
    rw [addr_add, Nat.zero_add]
    match j, hj with
    | 0, hj => cases hj; exact hc
    | j + 1, hj => simp [encI] at hj
  · intro u hu
    obtain ⟨z, hz, hu⟩ := List.mem_flatMap.1 hu
    simp only [List.mem_cons, List.not_mem_nil, or_false] at hu
    rcases hu with rfl <;> rfl
  · intro v' w' hown hg hat
    refine h v' w' ?_ hg hat
    unfold OI
    rw [encI_append, List.length_append]
    exact hown
theorem frm_two (w : World) (R i j : Nat) (x y : Value) : Frm (fun k => k = R) w ((w.setCell ⟨R, i, none⟩ x).setCell ⟨R, j, none⟩ y) := frm_setCell (frm_setCell (Frm.refl _ _) (by rfl) _) (by rfl) _
theorem frm_two' (w : World) (R i j : Nat) (x y : Value) : Frm (fun k => k = R) w (((w.setCell ⟨R, i, none⟩ x).setCell ⟨R, j, none⟩ y).drew) := frm_drew (frm_two w R i j x y)
theorem keep_of_below {F : Nat → Prop} {w w1 : World} {P : World → Prop} (hP : ∀ w', Below w.heap.size w w' → P w') (hb : Below w.heap.size w w1) (hF : ∀ k, F k → w.heap.size ≤ k) : Keep F w1 P := fun w' hf => hP w' (Frm.below hb hf hF hb.size)
end Go.Proofs.YtifcgimpgbeocaaGreat
/- Plain: two stores that are one but for their acts. -/
set_option linter.unusedVariables false
set_option linter.unusedSimpArgs false
namespace Go.Proofs.YtifcgimpgbeocaaGreat
open Go.RowKit
def wa (st : St) (l : List Ac) : St := { st with acts := l }
/-- The acts of a commit. -/
def comX (st : St) : List Ac := if st.ops = [] then [] else if st.hd.1 = 4294967295 then [] else if room st < (nBytes st).length then [] else nActs st
theorem wa_do (st : St) (l : List Ac) (o : FOp) : doSt (wa st l) o = (wa (doSt st o).1 l, (doSt st o).2) := by
  unfold doSt wa
  simp only
  split <;> rfl
theorem wa_undo (st : St) (l : List Ac) : undoD (wa st l) = wa (undoD st) l := rfl
theorem do_acts (st : St) (o : FOp) : (doSt st o).1.acts = st.acts := by
  unfold doSt
  split <;> rfl
theorem com_acts (st : St) : (commitD st).1.acts = st.acts ++ comX st := by
  unfold commitD comX
  split
  · simp
  · split
    · simp
    · split
      · simp
      · rfl
theorem wa_com (st : St) (l : List Ac) : commitD (wa st l) = (wa (commitD st).1 (l ++ comX st), (commitD st).2) := by
  have e1 : nBytes (wa st l) = nBytes st := rfl
  have e2 : room (wa st l) = room st := rfl
  have e3 : nActs (wa st l) = nActs st := rfl
  unfold commitD comX
  rw [e1, e2]
  show (if st.ops = [] then (wa st l, 0) else if st.hd.1 = 4294967295 then (wa st l, 2) else if room st < (nBytes st).length then (wa st l, 144) else (commitSt (wa st l), 0)) = _
  split
  · rw [List.append_nil]
  · split
    · rw [List.append_nil]
    · split
      · rw [List.append_nil]
      · rfl
/-- The first is the second but for its acts, which stand behind others. -/
def Twin (A : List Ac) (sa sb : St) : Prop := sa = wa sb (A ++ sb.acts)
variable {A : List Ac} {sa sb : St}
theorem twin_do (h : Twin A sa sb) (o : FOp) : Twin A (doSt sa o).1 (doSt sb o).1 ∧ (doSt sa o).2 = (doSt sb o).2 := by
  unfold Twin at *
  rw [h, wa_do]
  exact ⟨by rw [do_acts], rfl⟩
theorem twin_undo (h : Twin A sa sb) : Twin A (undoD sa) (undoD sb) := by
  unfold Twin at *
  rw [h, wa_undo]
  rfl
theorem twin_commit (h : Twin A sa sb) : Twin A (commitD sa).1 (commitD sb).1 ∧ (commitD sa).2 = (commitD sb).2 := by
  unfold Twin at *
  rw [h, wa_com]
  exact ⟨by rw [com_acts, List.append_assoc], rfl⟩
theorem twin_now (h : Twin A sa sb) : sa.now = sb.now ∧ sa.kept = sb.kept ∧ sa.dk = sb.dk ∧ sa.acts = A ++ sb.acts := by
  unfold Twin at h
  rw [h]
  exact ⟨rfl, rfl, rfl, rfl⟩
theorem twin_start {st : St} (h : Live st) : openD st.dk = (some ⟨st.dk, st.hd, st.log, [], st.kept, st.kept, []⟩, 0) ∧ Twin st.acts (undoD st) ⟨st.dk, st.hd, st.log, [], st.kept, st.kept, []⟩ := by
  refine ⟨open_as h.as_, ?_⟩
  unfold Twin wa undoD
  simp
/-! ### Bounds of a script -/
/-- How far a store has come: its turn, its operations, its acts. -/
structure Gone (T n a : Nat) (st : St) : Prop where
  live : Live st
  turn : st.hd.1 ≤ T
  ops : st.ops.length ≤ n
  acts : st.acts.length ≤ a
  file : st.hd.2.2.1 ≤ 8
theorem Gone.mono {T n a T' n' a' : Nat} {st : St} (h : Gone T n a st) (h1 : T ≤ T') (h2 : n ≤ n') (h3 : a ≤ a') : Gone T' n' a' st := ⟨h.live, Nat.le_trans h.turn h1, Nat.le_trans h.ops h2, Nat.le_trans h.acts h3, h.file⟩
theorem nActs_bd {st : St} (h : Live st) (hr : (nBytes st).length ≤ room st) : (nActs st).length ≤ 3000 := by
  rw [nActs_len]
  have hd := isDk_len h.as_.dk
  have h1 : (nW st).length ≤ pgs (nBytes st).length := by unfold nW; rw [layW_len]; omega
  have h2 := half_bd hd.2
  have h3 : (nBytes st).length ≤ 131008 := by unfold room at hr; omega
  unfold pgs at h1
  omega
theorem gone_do {T n a : Nat} {st : St} (h : Gone T n a st) (o : FOp) : Gone T (n + 1) a (doSt st o).1 := by
  refine ⟨do_live h.live o, ?_, ?_, ?_, ?_⟩
  · have := h.turn; unfold doSt; split <;> (simp only; omega)
  · have := h.ops
    unfold doSt
    split
    · simp only
      split
      · rw [List.length_append, List.length_singleton]; omega
      · omega
    · simp only; omega
  · rw [do_acts]; exact h.acts
  · have := h.file; unfold doSt; split <;> (simp only; omega)
theorem gone_undo {T n a : Nat} {st : St} (h : Gone T n a st) : Gone T n a (undoD st) := ⟨undo_live h.live, h.turn, Nat.zero_le _, h.acts, h.file⟩
theorem com_live {st : St} (h : Live st) (ht : st.hd.1 + 2 < 4294967296) : Live (commitD st).1 := by
  unfold commitD
  split
  · exact h
  · split
    · exact h
    · split
      · exact h
      · exact commit_live h (by omega) ht
theorem gone_commit {T n a : Nat} {st : St} (h : Gone T n a st) (hT : T ≤ 100000) : Gone (T + 1) n (a + 3000) (commitD st).1 := by
  have h1 := h.turn; have h2 := h.acts; have h3 := h.file; have h4 := h.ops
  refine ⟨com_live h.live (by omega), ?_, ?_, ?_, ?_⟩
  · unfold commitD
    split
    · simp only; omega
    · split
      · simp only; omega
      · split
        · simp only; omega
        · show st.hd.1 + 1 ≤ _; omega
  · unfold commitD
    split
    · simp only; omega
    · split
      · simp only; omega
      · split
        · simp only; omega
        · show 0 ≤ _; omega
  · rw [com_acts, List.length_append]
    have : (comX st).length ≤ 3000 := by
      unfold comX
      split
      · simp
      · split
        · simp
        · split
          · simp
          · exact nActs_bd h.live (by omega)
    omega
  · unfold commitD
    split
    · exact h3
    · split
      · exact h3
      · split
        · exact h3
        · exact h3
theorem Gone.now8 {T n a : Nat} {st : St} (h : Gone T n a st) : st.now.length ≤ 8 ∧ AllDs st.now ∧ st.kept.length ≤ 8 ∧ AllDs st.kept := by
  have := h.file
  exact ⟨by rw [now_len h.live]; omega, now_all h.live, by rw [kept_len h.live]; omega, kept_all h.live⟩
theorem gone_open {d : Dk} {hh : Hd} {L : Bs} {data : List Ds} {T : Nat} (H : OpenAs d hh L data) (hn : hh.1 ≤ T) : Gone T 0 0 ⟨d, hh, L, [], data, data, []⟩ := by
  have := hdOk_parts H.hd
  exact ⟨live_open H, hn, Nat.zero_le _, Nat.zero_le _, this.2.2.2.2.1⟩
theorem com_err {st : St} (h : Live st) : (commitD st).2 = 0 ∨ (commitD st).2 = 144 := by
  have := live_turn h
  unfold commitD
  rw [if_neg this]
  split
  · exact .inl rfl
  · split
    · exact .inr rfl
    · exact .inl rfl
theorem com_fail {st : St} (h : (commitD st).2 ≠ 0) : (commitD st).1 = st := by
  unfold commitD at h ⊢
  split
  · rfl
  · rename_i h1
    rw [if_neg h1] at h
    split
    · rfl
    · rename_i h2
      rw [if_neg h2] at h
      split
      · rfl
      · rename_i h3
        rw [if_neg h3] at h
        exact absurd rfl h
theorem com_now (st : St) : (commitD st).1.now = st.now := by
  unfold commitD
  split
  · rfl
  · split
    · rfl
    · split
      · rfl
      · rfl
end Go.Proofs.YtifcgimpgbeocaaGreat
/- Plain: a script played: its store and its history; acts that can be carried out; what allowed answers. -/
set_option linter.unusedVariables false
set_option linter.unusedSimpArgs false
namespace Go.Proofs.YtifcgimpgbeocaaGreat
open Go.RowKit
abbrev Stp := Int × FOp
instance : Inhabited Stp := ⟨(0, 0, 0, [], [])⟩
def stepP (s : St × Hist) (x : Stp) : St × Hist :=
  if x.1 = 0 then ((doSt s.1 x.2).1, s.2) else if x.1 = 1 then (if (commitD s.1).2 = 0 then ((commitD s.1).1, s.2 ++ [((commitD s.1).1.acts.length, s.1.now)]) else s) else (undoD s.1, s.2)
def playP (st : St) (l : List Stp) : St × Hist := l.foldl stepP (st, [(st.acts.length, st.kept)])
theorem playP_succ (st : St) (l : List Stp) (k : Nat) (x : Stp) (h : l[k]? = some x) : playP st (l.take (k + 1)) = stepP (playP st (l.take k)) x := by
  unfold playP
  rw [List.take_add_one, h, List.foldl_append]
  rfl
/-- Acts that can be carried out on any disk of n pages. -/
def Acted (n : Nat) (l : List Ac) : Prop := ∀ a ∈ l, ∀ e : Dk, e.1.length = n → isAct e a = true
theorem acted_nil (n : Nat) : Acted n [] := fun a h => by cases h
theorem acted_app {n : Nat} {l m : List Ac} (h : Acted n l) (k : Acted n m) : Acted n (l ++ m) := fun a ha => by
  rcases List.mem_append.1 ha with ha | ha
  · exact h a ha
  · exact k a ha
theorem acted_take {n : Nat} {l : List Ac} (h : Acted n l) (k : Nat) : Acted n (l.take k) := fun a ha => h a (List.mem_of_mem_take ha)
theorem nActs_acted {st : St} (h : Live st) (hr : (nBytes st).length ≤ room st) : Acted st.dk.1.length (nActs st) := by
  have hd := isDk_len h.as_.dk
  intro a ha e he
  unfold nActs at ha
  rcases List.mem_append.1 ha with ha | ha
  · obtain ⟨x, hx, rfl⟩ := List.mem_map.1 ha
    obtain ⟨q1, q2, q3⟩ := nW_ok h hr hx
    obtain ⟨x1, x2⟩ := x
    rw [isAct_write]
    simp only at q1 q2 q3
    rw [he]
    simp
    exact ⟨by omega, q2, q3⟩
  · simp only [List.mem_cons, List.not_mem_nil, or_false] at ha
    rcases ha with rfl | rfl | rfl
    · exact isAct_syncA e
    · unfold headA
      rw [isAct_write, headPg_len, he]
      simp
      omega
    · exact isAct_syncA e
theorem comX_acted {st : St} (h : Live st) : Acted st.dk.1.length (comX st) := by
  unfold comX
  split
  · exact acted_nil _
  · split
    · exact acted_nil _
    · split
      · exact acted_nil _
      · exact nActs_acted h (by omega)
theorem com_dk (st : St) : (commitD st).1.dk.1.length = st.dk.1.length := by
  unfold commitD
  split
  · rfl
  · split
    · rfl
    · split
      · rfl
      · exact fold_len _ _
/-- What a played script keeps to. -/
structure Went (d0 : Dk) (T n a : Nat) (s : St × Hist) : Prop where
  gone : Gone T n a s.1
  told : Told d0 s.1 s.2
  acted : Acted d0.1.length s.1.acts
  pages : s.1.dk.1.length = d0.1.length
theorem went_start {st : St} {T n a : Nat} (h : Gone T n a st) (ha : st.acts = []) : Went st.dk T n a (st, [(st.acts.length, st.kept)]) := by
  refine ⟨h, ?_, by rw [ha]; exact acted_nil _, rfl⟩
  have := told_start h.live ha
  rw [ha]
  exact this
theorem went_step {d0 : Dk} {T n a : Nat} {s : St × Hist} (h : Went d0 T n a s) (hT : T ≤ 100000) (x : Stp) : Went d0 (T + 1) (n + 1) (a + 3000) (stepP s x) := by
  obtain ⟨h1, h2, h3, h4⟩ := h
  unfold stepP
  split
  · refine ⟨(gone_do h1 _).mono (by omega) (by omega) (by omega), told_do h2 _, ?_, ?_⟩
    · simp only; rw [do_acts]; exact h3
    · rw [← h4]; simp only; unfold doSt; split <;> rfl
  · split
    · have ht := h1.turn
      split
      · rename_i h0
        refine ⟨(gone_commit h1 hT).mono (by omega) (by omega) (by omega), (told_commit h2 (by omega) h0).1, ?_, ?_⟩
        · simp only; rw [com_acts]
          exact acted_app h3 (by rw [← h4]; exact comX_acted h1.live)
        · rw [← h4]; exact com_dk _
      · exact ⟨h1.mono (by omega) (by omega) (by omega), h2, h3, h4⟩
    · exact ⟨(gone_undo h1).mono (by omega) (by omega) (by omega), told_undo h2, h3, h4⟩
theorem went_play {st : St} {T n a : Nat} (h : Gone T n a st) (ha : st.acts = []) (l : List Stp) : ∀ k, T + k ≤ 100000 → k ≤ l.length → Went st.dk (T + k) (n + k) (a + 3000 * k) (playP st (l.take k))
  | 0, _, _ => went_start h ha
  | k + 1, hk, hl => by
    obtain ⟨x, hx⟩ : ∃ x, l[k]? = some x := ⟨_, List.getElem?_eq_getElem hl⟩
    rw [playP_succ st l k x hx, show T + (k + 1) = T + k + 1 by omega, show n + (k + 1) = n + k + 1 by omega, show a + 3000 * (k + 1) = a + 3000 * k + 3000 by omega]
    exact went_step (went_play h ha l k (by omega) (by omega)) (by omega) x
/-! ### The bounds of a play that says no more -/
theorem gone_step {T n a : Nat} {s : St × Hist} (h : Gone T n a s.1) (hT : T ≤ 100000) (x : Stp) : Gone (T + 1) (n + 1) (a + 3000) (stepP s x).1 := by
  unfold stepP
  split
  · exact (gone_do h _).mono (by omega) (by omega) (by omega)
  · split
    · split
      · exact (gone_commit h hT).mono (by omega) (by omega) (by omega)
      · exact h.mono (by omega) (by omega) (by omega)
    · exact (gone_undo h).mono (by omega) (by omega) (by omega)
theorem gone_play {st : St} {T n a : Nat} (h : Gone T n a st) (l : List Stp) : ∀ k, T + k ≤ 100000 → k ≤ l.length → Gone (T + k) (n + k) (a + 3000 * k) (playP st (l.take k)).1
  | 0, _, _ => h
  | k + 1, hk, hl => by
    obtain ⟨x, hx⟩ : ∃ x, l[k]? = some x := ⟨_, List.getElem?_eq_getElem hl⟩
    rw [playP_succ st l k x hx, show T + (k + 1) = T + k + 1 by omega, show n + (k + 1) = n + k + 1 by omega, show a + 3000 * (k + 1) = a + 3000 * k + 3000 by omega]
    exact gone_step (gone_play h l k (by omega) (by omega)) (by omega) x
theorem hist_len (st : St) (l : List Stp) : ∀ k, (playP st (l.take k)).2.length ≤ k + 1
  | 0 => by unfold playP; simp
  | k + 1 => by
    have ih := hist_len st l k
    by_cases hk : k < l.length
    · obtain ⟨x, hx⟩ : ∃ x, l[k]? = some x := ⟨_, List.getElem?_eq_getElem hk⟩
      rw [playP_succ st l k x hx]
      unfold stepP
      split
      · simp only; omega
      · split
        · split
          · simp only [List.length_append, List.length_singleton]; omega
          · omega
        · simp only; omega
    · rw [List.take_of_length_le (by omega : l.length ≤ k)] at ih
      rw [List.take_of_length_le (by omega : l.length ≤ k + 1)]
      omega
def allH (H : Hist) : Prop := ∀ x ∈ H, x.2.length ≤ 8 ∧ AllDs x.2
theorem allH_step {T n a : Nat} {s : St × Hist} (h : Gone T n a s.1) (hH : allH s.2) (x : Stp) : allH (stepP s x).2 := by
  unfold stepP
  split
  · exact hH
  · split
    · split
      · intro y hy
        rcases List.mem_append.1 hy with hy | hy
        · exact hH y hy
        · simp only [List.mem_singleton] at hy
          rw [hy]
          exact ⟨h.now8.1, h.now8.2.1⟩
      · exact hH
    · exact hH
theorem allH_play {st : St} {T n a : Nat} (h : Gone T n a st) (l : List Stp) : ∀ k, T + k ≤ 100000 → k ≤ l.length → allH (playP st (l.take k)).2
  | 0, _, _ => by
    intro y hy
    simp only [playP, List.take_zero, List.foldl_nil, List.mem_singleton] at hy
    rw [hy]
    exact ⟨h.now8.2.2.1, h.now8.2.2.2⟩
  | k + 1, hk, hl => by
    obtain ⟨x, hx⟩ : ∃ x, l[k]? = some x := ⟨_, List.getElem?_eq_getElem hl⟩
    rw [playP_succ st l k x hx]
    exact allH_step (gone_play h l k (by omega) (by omega)) (allH_play h l k (by omega) (by omega)) x
/-! ### What allowed answers -/
/-- The last of the first k commits that lies at or before at. -/
def lastTo (H : Hist) (at_ : Nat) : Nat → Nat
  | 0 => 0
  | k + 1 => match H[k]? with
    | some x => if x.1 ≤ at_ then k else lastTo H at_ k
    | none => lastTo H at_ k
theorem lastTo_le (H : Hist) (at_ : Nat) : ∀ k, lastTo H at_ k ≤ k
  | 0 => Nat.le_refl _
  | k + 1 => by
    have := lastTo_le H at_ k
    unfold lastTo
    split
    · split <;> omega
    · omega
theorem lastTo_at {H : Hist} {at_ i n : Nat} {x : List Ds} (h1 : H[i]? = some (n, x)) (h2 : n ≤ at_) (h3 : ∀ (j m : Nat) (y : List Ds), i < j → H[j]? = some (m, y) → at_ < m) : ∀ k, i < k → lastTo H at_ k = i
  | 0, h => by omega
  | k + 1, h => by
    unfold lastTo
    by_cases hk : i = k
    · subst hk
      rw [h1]
      simp only
      rw [if_pos h2]
    · have ih := lastTo_at h1 h2 h3 k (by omega)
      split
      · rename_i x hx
        obtain ⟨m, y⟩ := x
        have := h3 k m y (by omega) hx
        rw [if_neg (by simp only; omega), ih]
      · exact ih
theorem allowed_parts {H : Hist} {at_ : Nat} {data : List Ds} (h : AllowedP H at_ data) : ∃ n x, H[lastTo H at_ H.length]? = some (n, x) ∧ (data = x ∨ data ≠ x ∧ n < at_ ∧ ∃ m y, H[lastTo H at_ H.length + 1]? = some (m, y) ∧ data = y) := by
  obtain ⟨i, n, x, h1, h2, h3, h4⟩ := h
  have e := lastTo_at h1 h2 h3 H.length (List.getElem?_eq_some_iff.1 h1).1
  rw [e]
  refine ⟨n, x, h1, ?_⟩
  by_cases hd : data = x
  · exact .inl hd
  · rcases h4 with h4 | h4
    · exact absurd h4 hd
    · exact .inr ⟨hd, h4⟩
end Go.Proofs.YtifcgimpgbeocaaGreat
/- What stands while a script is played: the store, its history in memory. -/
set_option linter.unusedVariables false
set_option linter.unusedSimpArgs false
namespace Go.Proofs.YtifcgimpgbeocaaGreat
open Go.RowKit
/-- v reads as steps. -/
def RdSt (w : World) (v : Value) (l : List Stp) : Prop := ∃ o cap, v = .slice o l.length cap ∧ l.length ≤ cap ∧ (l = [] ∨ ∃ b off, o = some ⟨b, off, none⟩ ∧ b < w.heap.size ∧ ∀ i x, l[i]? = some x → w.cell? ⟨b, off + i * 5, none⟩ = some (.int .i64 x.1) ∧ w.cell? ⟨b, off + i * 5 + 1, none⟩ = some (.int .i64 x.2.1) ∧ w.cell? ⟨b, off + i * 5 + 2, none⟩ = some (.int .i64 x.2.2.1) ∧ w.cell? ⟨b, off + i * 5 + 3, none⟩ = some (strV x.2.2.2.1) ∧ w.cell? ⟨b, off + i * 5 + 4, none⟩ = some (strV x.2.2.2.2))
theorem RdSt.below {w w' : World} {v : Value} {d : List Stp} (h : RdSt w v d) (hb : Below w.heap.size w w') : RdSt w' v d := by
  obtain ⟨o, cap, e, hc, h⟩ := h
  refine ⟨o, cap, e, hc, ?_⟩
  rcases h with h | ⟨b, off, e1, e2, h⟩
  · exact .inl h
  · exact .inr ⟨b, off, e1, Nat.lt_of_lt_of_le e2 hb.size, fun i r hi => ⟨keepc hb (h i r hi).1, keepc hb (h i r hi).2.1, keepc hb (h i r hi).2.2.1, keepc hb (h i r hi).2.2.2.1, keepc hb (h i r hi).2.2.2.2⟩⟩
theorem keep_I' {U : Nat → Prop} {w : World} {v : Value} {d : List Int} {B : Nat} (h : OI w B v d) (hU : ∀ k, v.ownBlock = some k → ¬ U k) : Keep U w (fun w' => RdI w' v d) := fun w' hf => OI.rd (B := B) (hf.row h hU)
theorem keep_D' {U : Nat → Prop} {w : World} {v : Value} {d : List Ds} {B : Nat} (h : OD w B v d) (hU : ∀ k, B ≤ k → k < w.heap.size → ¬ U k) : Keep U w (fun w' => RdD w' v d) := fun w' hf => by
  obtain ⟨us, h1, h2, h3⟩ := h
  refine OD.rd (B := B) ⟨us, h1, hf.row h2 fun k hk => hU k (World.ownsRow.lt h2 k hk).1 (World.ownsRow.lt h2 k hk).2, fun i u x hu hx => hf.row (h3 i u x hu hx) fun k hk => hU k (World.ownsRow.lt (h3 i u x hu hx) k hk).1 (World.ownsRow.lt (h3 i u x hu hx) k hk).2⟩
theorem Keep.of_below {U U' : Nat → Prop} {w w1 : World} {P : World → Prop} (h : Keep U w P) (hb : Below w.heap.size w w1) (hU : ∀ k, U' k → U k ∨ w.heap.size ≤ k) : Keep U' w1 P := h.step (Frm.of_below hb) hU
abbrev HA (H : Hist) : List Int := H.map (fun x => (x.1 : Int))
abbrev HDt (H : Hist) : List (List Ds) := H.map (·.2)
/-- The blocks of a history, and of a result. -/
def XB (Z R : Nat) (va vd : Value) (k : Nat) : Prop := va.ownBlock = some k ∨ vd.ownBlock = some k ∨ k = Z ∨ k = R
/-- Since w0 (U0, the store's memory then): the store st in U, the history H in the two cells of Z, the result's cells in R. -/
structure PlayI (w0 : World) (U0 : Nat → Prop) (S Z R : Nat) (v : Value) (l : List Stp) (va vd : Value) (us : List Value) (U : Nat → Prop) (st : St) (LA : List Int) (LD : List (List Ds)) (w : World) : Prop where
  so : So w U S st
  frm : Frm U0 w0 w
  uu : ∀ k, U k → U0 k ∨ w0.heap.size ≤ k
  xx : ∀ k, XB Z R va vd k → ¬ U k ∧ w0.heap.size ≤ k
  z0 : w.cell? ⟨Z, 0, none⟩ = some va
  z1 : w.cell? ⟨Z, 1, none⟩ = some vd
  zf : ∀ j, w.frozen? ⟨Z, j, none⟩ = false
  r0 : OwnC w ⟨R, 0, none⟩
  r1 : OwnC w ⟨R, 1, none⟩
  zr : Z ≠ R
  na : va.ownBlock ≠ some Z ∧ va.ownBlock ≠ some R
  nd : vd.ownBlock ≠ some Z ∧ vd.ownBlock ≠ some R
  oa : OI w 0 va LA
  od : OH w 0 vd us
  ul : us.length = LD.length
  rd : ∀ (i : Nat) (u : Value) (x : List Ds), us[i]? = some u → LD[i]? = some x → Keep (fun k => (U k ∨ XB Z R va vd k) ∨ k < w0.heap.size) w (fun w' => RdD w' u x)
  ks : Keep (fun k => U k ∨ XB Z R va vd k) w (fun w' => RdSt w' v l)
variable {w0 w w1 : World} {U0 U U' : Nat → Prop} {S Z R : Nat} {v va vd : Value} {l : List Stp} {us : List Value} {st st' : St} {LA : List Int} {LD : List (List Ds)}
/-- A step of the store. -/
theorem PlayI.step (h : PlayI w0 U0 S Z R v l va vd us U st LA LD w) (hs : So w1 U' S st') (hf : Frm U w w1) (hu : ∀ k, U' k → U k ∨ w.heap.size ≤ k) : PlayI w0 U0 S Z R v l va vd us U' st' LA LD w1 := by
  have hz := h.z0
  have hZl := World.block_lt_of_cell? _ _ h.z0
  obtain ⟨⟨r, hr⟩, hrf⟩ := h.r0
  have hRl := World.block_lt_of_cell? _ _ hr
  simp only at hZl hRl
  have hxl : ∀ k, XB Z R va vd k → k < w.heap.size := fun k hk => by
    rcases hk with hk | hk | hk | hk
    · exact (World.ownsRow.lt h.oa k hk).2
    · exact (World.ownsRow.lt h.od k hk).2
    · omega
    · omega
  have hxu : ∀ k, XB Z R va vd k → ¬ U k := fun k hk => (h.xx k hk).1
  have hkp : ∀ k, (U' k ∨ XB Z R va vd k) → (U k ∨ XB Z R va vd k) ∨ w.heap.size ≤ k := fun k hk => by
    rcases hk with hk | hk
    · exact (hu k hk).imp .inl id
    · exact .inl (.inr hk)
  have hf' : Frm (fun k => U k ∨ XB Z R va vd k) w w1 := hf.mono fun i _ h => .inl h
  have hkp1 : ∀ k, ((U' k ∨ XB Z R va vd k) ∨ k < w0.heap.size) → ((U k ∨ XB Z R va vd k) ∨ k < w0.heap.size) ∨ w.heap.size ≤ k := fun k hk => by
    rcases hk with hk | hk
    · exact (hkp k hk).imp .inl id
    · exact .inl (.inr hk)
  have hf1 : Frm (fun k => (U k ∨ XB Z R va vd k) ∨ k < w0.heap.size) w w1 := hf.mono fun i _ h => .inl (.inl h)
  refine ⟨hs, h.frm.trans hf fun i hi hk => ?_, fun k hk => ?_, fun k hk => ⟨fun hu' => ?_, (h.xx k hk).2⟩, hf.cell (hxu Z (.inr (.inr (.inl rfl)))) h.z0, hf.cell (hxu Z (.inr (.inr (.inl rfl)))) h.z1,
    fun j => (frozen_at (hf.block Z hZl (hxu Z (.inr (.inr (.inl rfl)))))).trans (h.zf j), hf.ownc (hxu R (.inr (.inr (.inr rfl)))) h.r0, hf.ownc (hxu R (.inr (.inr (.inr rfl)))) h.r1, h.zr, h.na, h.nd,
    hf.row h.oa fun k hk => hxu k (.inl hk), hf.row h.od fun k hk => hxu k (.inr (.inl hk)), h.ul, fun i u x a b => (h.rd i u x a b).step hf1 hkp1, h.ks.step hf' hkp⟩
  · exact (h.uu i hk).resolve_right (by omega)
  · rcases hu k hk with hk | hk
    · exact h.uu k hk
    · exact .inr (Nat.le_trans h.frm.size hk)
  · rcases hu k hu' with h1 | h1
    · exact hxu k hk h1
    · have := hxl k hk; omega
theorem PlayI.below (h : PlayI w0 U0 S Z R v l va vd us U st LA LD w) (hb : Below w.heap.size w w1) : PlayI w0 U0 S Z R v l va vd us U st LA LD w1 := h.step (h.so.below hb) (Frm.of_below hb) fun k hk => .inl hk
/-- What turns beside the store lets it stand. -/
theorem PlayI.turn (h : PlayI w0 U0 S Z R v l va vd us U st LA LD w) {va' vd' : Value} {us' : List Value} {LA' : List Int} {LD' : List (List Ds)} {G : Nat → Prop} (hf : Frm G w w1) (hG : ∀ k, G k → XB Z R va vd k)
    (hx : ∀ k, XB Z R va' vd' k → XB Z R va vd k ∨ w.heap.size ≤ k) (z0 : w1.cell? ⟨Z, 0, none⟩ = some va') (z1 : w1.cell? ⟨Z, 1, none⟩ = some vd') (zf : ∀ j, w1.frozen? ⟨Z, j, none⟩ = false) (r0 : OwnC w1 ⟨R, 0, none⟩) (r1 : OwnC w1 ⟨R, 1, none⟩)
    (na : va'.ownBlock ≠ some Z ∧ va'.ownBlock ≠ some R) (nd : vd'.ownBlock ≠ some Z ∧ vd'.ownBlock ≠ some R) (oa : OI w1 0 va' LA') (od : OH w1 0 vd' us') (ul : us'.length = LD'.length)
    (rd : ∀ (i : Nat) (u : Value) (x : List Ds), us'[i]? = some u → LD'[i]? = some x → Keep (fun k => (U k ∨ XB Z R va vd k) ∨ k < w0.heap.size) w (fun w' => RdD w' u x)) : PlayI w0 U0 S Z R v l va' vd' us' U st LA' LD' w1 := by
  have hult := h.so.ult
  have hkp : ∀ k, (U k ∨ XB Z R va' vd' k) → (U k ∨ XB Z R va vd k) ∨ w.heap.size ≤ k := fun k hk => by
    rcases hk with hk | hk
    · exact .inl (.inl hk)
    · exact (hx k hk).imp .inr id
  have hf' : Frm (fun k => U k ∨ XB Z R va vd k) w w1 := hf.mono fun i _ h => .inr (hG i h)
  have hkp1 : ∀ k, ((U k ∨ XB Z R va' vd' k) ∨ k < w0.heap.size) → ((U k ∨ XB Z R va vd k) ∨ k < w0.heap.size) ∨ w.heap.size ≤ k := fun k hk => by
    rcases hk with hk | hk
    · exact (hkp k hk).imp .inl id
    · exact .inl (.inr hk)
  have hf1 : Frm (fun k => (U k ∨ XB Z R va vd k) ∨ k < w0.heap.size) w w1 := hf.mono fun i _ h => .inl (.inr (hG i h))
  refine ⟨h.so.frm hf fun k hk hg => (h.xx k (hG k hg)).1 hk, h.frm.trans hf fun i hi hg => ?_, h.uu, fun k hk => ⟨fun hu => ?_, ?_⟩, z0, z1, zf, r0, r1, h.zr, na, nd, oa, od, ul, fun i u x a b => (rd i u x a b).step hf1 hkp1, h.ks.step hf' hkp⟩
  · have := (h.xx i (hG i hg)).2; omega
  · rcases hx k hk with h1 | h1
    · exact (h.xx k h1).1 hu
    · have := hult k hu; omega
  · rcases hx k hk with h1 | h1
    · exact (h.xx k h1).2
    · exact Nat.le_trans h.frm.size h1
theorem PlayI.rows (h : PlayI w0 U0 S Z R v l va vd us U st LA LD w) : va.ownBlock = none ∨ va.ownBlock ≠ vd.ownBlock := rows_apart h.oa h.od (by decide)
/-- One number more in the history's first row: w2 is w behind calls that make memory; the row has grown to w3; its cell is set. -/
theorem PlayI.setA (h : PlayI w0 U0 S Z R v l va vd us U st LA LD w) {va' : Value} {n : Int} {L : List Int} (hg : w.grownBy w1 va.ownBlock) (hat : va'.ownBlock = va.ownBlock ∨ va'.ownBlock = some w.heap.size) (ho : OI w1 0 va' L) :
    ∃ G, Frm G w (w1.setCell ⟨Z, 0, none⟩ va') ∧ (∀ k, G k → XB Z R va vd k) ∧ (∀ k, XB Z R va' vd k → XB Z R va vd k ∨ w.heap.size ≤ k) ∧ (w1.setCell ⟨Z, 0, none⟩ va').cell? ⟨Z, 0, none⟩ = some va' ∧ (w1.setCell ⟨Z, 0, none⟩ va').cell? ⟨Z, 1, none⟩ = some vd ∧
      (∀ j, (w1.setCell ⟨Z, 0, none⟩ va').frozen? ⟨Z, j, none⟩ = false) ∧ OwnC (w1.setCell ⟨Z, 0, none⟩ va') ⟨R, 0, none⟩ ∧ OwnC (w1.setCell ⟨Z, 0, none⟩ va') ⟨R, 1, none⟩ ∧ (va'.ownBlock ≠ some Z ∧ va'.ownBlock ≠ some R) ∧ OI (w1.setCell ⟨Z, 0, none⟩ va') 0 va' L ∧ OH (w1.setCell ⟨Z, 0, none⟩ va') 0 vd us := by
  have hZl := World.block_lt_of_cell? _ _ h.z0
  obtain ⟨⟨r, hr⟩, hrf⟩ := h.r0
  have hRl := World.block_lt_of_cell? _ _ hr
  simp only at hZl hRl
  have hgc : ∀ k, k < w.heap.size → va.ownBlock ≠ some k → w1.heap[k]? = w.heap[k]? := fun k hk hn => hg.block k hk hn.symm
  have hZ := hgc Z hZl h.na.1
  have hR := hgc R hRl h.na.2
  have na' : va'.ownBlock ≠ some Z ∧ va'.ownBlock ≠ some R := by
    rcases hat with e | e
    · rw [e]; exact h.na
    · rw [e]; exact ⟨fun e => by simp at e; omega, fun e => by simp at e; omega⟩
  have hfs : Frm (fun k => k = Z) w1 (w1.setCell ⟨Z, 0, none⟩ va') := frm_setCell (Frm.refl _ _) (by rfl) _
  have ownR : ∀ j, OwnC w ⟨R, j, none⟩ → OwnC (w1.setCell ⟨Z, 0, none⟩ va') ⟨R, j, none⟩ := fun j hj => (own_grown' hj hg h.na.2).set _ _
  refine ⟨fun k => va.ownBlock = some k ∨ k = Z, (Frm.of_grown (F := fun k => va.ownBlock = some k ∨ k = Z) hg fun k hk => .inl hk).trans hfs (fun i _ hi => .inr hi), ?_, ?_, ?_, ?_, fun j => by rw [World.frozen?_setCell]; exact (frozen_at hZ).trans (h.zf j), ownR 0 h.r0, ownR 1 h.r1, na', ?_, ?_⟩
  · rintro k (hk | hk)
    · exact .inl hk
    · exact .inr (.inr (.inl hk))
  · rintro k (hk | hk | hk | hk)
    · rcases hat with e | e
      · rw [e] at hk; exact .inl (.inl hk)
      · rw [e] at hk; simp at hk; exact .inr (by omega)
    · exact .inl (.inr (.inl hk))
    · exact .inl (.inr (.inr (.inl hk)))
    · exact .inl (.inr (.inr (.inr hk)))
  · exact World.cell?_setCell_same _ _ _ (cell_at hZ h.z0)
  · rw [World.cell?_setCell_other _ _ _ _ (fun e => by cases e)]; exact cell_at hZ h.z1
  · exact hfs.row ho fun k hk e => na'.1 (by rw [hk, e])
  · refine hfs.row (World.ownsRow.kept h.od hg ?_) fun k hk e => h.nd.1 (by rw [hk, e])
    exact rows_apart h.od h.oa (by decide)
/-- One list more in the history's second row. -/
theorem PlayI.setD (h : PlayI w0 U0 S Z R v l va vd us U st LA LD w) {vd' : Value} {us' : List Value} (hg : w.grownBy w1 vd.ownBlock) (hat : vd'.ownBlock = vd.ownBlock ∨ vd'.ownBlock = some w.heap.size) (ho : OH w1 0 vd' us') :
    ∃ G, Frm G w (w1.setCell ⟨Z, 1, none⟩ vd') ∧ (∀ k, G k → XB Z R va vd k) ∧ (∀ k, XB Z R va vd' k → XB Z R va vd k ∨ w.heap.size ≤ k) ∧ (w1.setCell ⟨Z, 1, none⟩ vd').cell? ⟨Z, 0, none⟩ = some va ∧ (w1.setCell ⟨Z, 1, none⟩ vd').cell? ⟨Z, 1, none⟩ = some vd' ∧
      (∀ j, (w1.setCell ⟨Z, 1, none⟩ vd').frozen? ⟨Z, j, none⟩ = false) ∧ OwnC (w1.setCell ⟨Z, 1, none⟩ vd') ⟨R, 0, none⟩ ∧ OwnC (w1.setCell ⟨Z, 1, none⟩ vd') ⟨R, 1, none⟩ ∧ (vd'.ownBlock ≠ some Z ∧ vd'.ownBlock ≠ some R) ∧ OI (w1.setCell ⟨Z, 1, none⟩ vd') 0 va LA ∧ OH (w1.setCell ⟨Z, 1, none⟩ vd') 0 vd' us' := by
  have hZl := World.block_lt_of_cell? _ _ h.z0
  obtain ⟨⟨r, hr⟩, hrf⟩ := h.r0
  have hRl := World.block_lt_of_cell? _ _ hr
  simp only at hZl hRl
  have hgc : ∀ k, k < w.heap.size → vd.ownBlock ≠ some k → w1.heap[k]? = w.heap[k]? := fun k hk hn => hg.block k hk hn.symm
  have hZ := hgc Z hZl h.nd.1
  have hR := hgc R hRl h.nd.2
  have nd' : vd'.ownBlock ≠ some Z ∧ vd'.ownBlock ≠ some R := by
    rcases hat with e | e
    · rw [e]; exact h.nd
    · rw [e]; exact ⟨fun e => by simp at e; omega, fun e => by simp at e; omega⟩
  have hfs : Frm (fun k => k = Z) w1 (w1.setCell ⟨Z, 1, none⟩ vd') := frm_setCell (Frm.refl _ _) (by rfl) _
  have ownR : ∀ j, OwnC w ⟨R, j, none⟩ → OwnC (w1.setCell ⟨Z, 1, none⟩ vd') ⟨R, j, none⟩ := fun j hj => (own_grown' hj hg h.nd.2).set _ _
  refine ⟨fun k => vd.ownBlock = some k ∨ k = Z, (Frm.of_grown (F := fun k => vd.ownBlock = some k ∨ k = Z) hg fun k hk => .inl hk).trans hfs (fun i _ hi => .inr hi), ?_, ?_, ?_, ?_, fun j => by rw [World.frozen?_setCell]; exact (frozen_at hZ).trans (h.zf j), ownR 0 h.r0, ownR 1 h.r1, nd', ?_, ?_⟩
  · rintro k (hk | hk)
    · exact .inr (.inl hk)
    · exact .inr (.inr (.inl hk))
  · rintro k (hk | hk | hk | hk)
    · exact .inl (.inl hk)
    · rcases hat with e | e
      · rw [e] at hk; exact .inl (.inr (.inl hk))
      · rw [e] at hk; simp at hk; exact .inr (by omega)
    · exact .inl (.inr (.inr (.inl hk)))
    · exact .inl (.inr (.inr (.inr hk)))
  · rw [World.cell?_setCell_other _ _ _ _ (fun e => by cases e)]; exact cell_at hZ h.z0
  · exact World.cell?_setCell_same _ _ _ (cell_at hZ h.z1)
  · refine hfs.row (World.ownsRow.kept h.oa hg ?_) fun k hk e => h.na.1 (by rw [hk, e])
    exact rows_apart h.oa h.od (by decide)
  · exact hfs.row ho fun k hk e => nd'.1 (by rw [hk, e])
/-- What lasted lasts behind a step of the store. -/
theorem PlayI.keep (h : PlayI w0 U0 S Z R v l va vd us U st LA LD w) {P : World → Prop} (hP : Keep (fun k => (U k ∨ XB Z R va vd k) ∨ k < w0.heap.size) w P) (hf : Frm U w w1) (hu : ∀ k, U' k → U k ∨ w.heap.size ≤ k) : Keep (fun k => (U' k ∨ XB Z R va vd k) ∨ k < w0.heap.size) w1 P := by
  refine hP.step (hf.mono fun i _ h => .inl (.inl h)) fun k hk => ?_
  rcases hk with (hk | hk) | hk
  · exact (hu k hk).imp (fun h => .inl (.inl h)) id
  · exact .inl (.inl (.inr hk))
  · exact .inl (.inr hk)
theorem PlayI.xlt (h : PlayI w0 U0 S Z R v l va vd us U st LA LD w) : ∀ k, (U k ∨ XB Z R va vd k) → k < w.heap.size := fun k hk => by
  have hZl := World.block_lt_of_cell? _ _ h.z0
  obtain ⟨⟨r, hr⟩, hrf⟩ := h.r0
  have hRl := World.block_lt_of_cell? _ _ hr
  simp only at hZl hRl
  rcases hk with hk | hk | hk | hk | hk
  · exact h.so.ult k hk
  · exact (World.ownsRow.lt h.oa k hk).2
  · exact (World.ownsRow.lt h.od k hk).2
  · omega
  · omega
end Go.Proofs.YtifcgimpgbeocaaGreat
