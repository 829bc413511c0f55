/- Plain: two stores that are one but for their acts. -/
import Derived.Test.YtifcgimpgbeocaaK2
set_option linter.unusedVariables false
set_option linter.unusedSimpArgs false
namespace Go.Proofs.Ytifcgimpgbeocaa
open Go.RowKit
def wa (st : St) (l : List Ac) : St := { st with acts := l }
/-- The acts of a commit. -/
def comX (st : St) : List Ac := if st.ops = [] then [] else if st.hd.1 = 4294967295 then [] else if room st < (nBytes st).length then [] else nActs st
theorem wa_do (st : St) (l : List Ac) (o : FOp) : doSt (wa st l) o = (wa (doSt st o).1 l, (doSt st o).2) := by
  unfold doSt wa
  simp only
  split <;> rfl
theorem wa_undo (st : St) (l : List Ac) : undoD (wa st l) = wa (undoD st) l := rfl
theorem do_acts (st : St) (o : FOp) : (doSt st o).1.acts = st.acts := by
  unfold doSt
  split <;> rfl
theorem com_acts (st : St) : (commitD st).1.acts = st.acts ++ comX st := by
  unfold commitD comX
  split
  · simp
  · split
    · simp
    · split
      · simp
      · rfl
theorem wa_com (st : St) (l : List Ac) : commitD (wa st l) = (wa (commitD st).1 (l ++ comX st), (commitD st).2) := by
  have e1 : nBytes (wa st l) = nBytes st := rfl
  have e2 : room (wa st l) = room st := rfl
  have e3 : nActs (wa st l) = nActs st := rfl
  unfold commitD comX
  rw [e1, e2]
  show (if st.ops = [] then (wa st l, 0) else if st.hd.1 = 4294967295 then (wa st l, 2) else if room st < (nBytes st).length then (wa st l, 144) else (commitSt (wa st l), 0)) = _
  split
  · rw [List.append_nil]
  · split
    · rw [List.append_nil]
    · split
      · rw [List.append_nil]
      · rfl
/-- The first is the second but for its acts, which stand behind others. -/
def Twin (A : List Ac) (sa sb : St) : Prop := sa = wa sb (A ++ sb.acts)
variable {A : List Ac} {sa sb : St}
theorem twin_do (h : Twin A sa sb) (o : FOp) : Twin A (doSt sa o).1 (doSt sb o).1 ∧ (doSt sa o).2 = (doSt sb o).2 := by
  unfold Twin at *
  rw [h, wa_do]
  exact ⟨by rw [do_acts], rfl⟩
theorem twin_undo (h : Twin A sa sb) : Twin A (undoD sa) (undoD sb) := by
  unfold Twin at *
  rw [h, wa_undo]
  rfl
theorem twin_commit (h : Twin A sa sb) : Twin A (commitD sa).1 (commitD sb).1 ∧ (commitD sa).2 = (commitD sb).2 := by
  unfold Twin at *
  rw [h, wa_com]
  exact ⟨by rw [com_acts, List.append_assoc], rfl⟩
theorem twin_now (h : Twin A sa sb) : sa.now = sb.now ∧ sa.kept = sb.kept ∧ sa.dk = sb.dk ∧ sa.acts = A ++ sb.acts := by
  unfold Twin at h
  rw [h]
  exact ⟨rfl, rfl, rfl, rfl⟩
theorem twin_start {st : St} (h : Live st) : openD st.dk = (some ⟨st.dk, st.hd, st.log, [], st.kept, st.kept, []⟩, 0) ∧ Twin st.acts (undoD st) ⟨st.dk, st.hd, st.log, [], st.kept, st.kept, []⟩ := by
  refine ⟨open_as h.as_, ?_⟩
  unfold Twin wa undoD
  simp
/-! ### Bounds of a script -/
/-- How far a store has come: its turn, its operations, its acts. -/
structure Gone (T n a : Nat) (st : St) : Prop where
  live : Live st
  turn : st.hd.1 ≤ T
  ops : st.ops.length ≤ n
  acts : st.acts.length ≤ a
  file : st.hd.2.2.1 ≤ 8
theorem Gone.mono {T n a T' n' a' : Nat} {st : St} (h : Gone T n a st) (h1 : T ≤ T') (h2 : n ≤ n') (h3 : a ≤ a') : Gone T' n' a' st := ⟨h.live, Nat.le_trans h.turn h1, Nat.le_trans h.ops h2, Nat.le_trans h.acts h3, h.file⟩
theorem nActs_bd {st : St} (h : Live st) (hr : (nBytes st).length ≤ room st) : (nActs st).length ≤ 3000 := by
  rw [nActs_len]
  have hd := isDk_len h.as_.dk
  have h1 : (nW st).length ≤ pgs (nBytes st).length := by unfold nW; rw [layW_len]; omega
  have h2 := half_bd hd.2
  have h3 : (nBytes st).length ≤ 131008 := by unfold room at hr; omega
  unfold pgs at h1
  omega
theorem gone_do {T n a : Nat} {st : St} (h : Gone T n a st) (o : FOp) : Gone T (n + 1) a (doSt st o).1 := by
  refine ⟨do_live h.live o, ?_, ?_, ?_, ?_⟩
  · have := h.turn; unfold doSt; split <;> (simp only; omega)
  · have := h.ops
    unfold doSt
    split
    · simp only
      split
      · rw [List.length_append, List.length_singleton]; omega
      · omega
    · simp only; omega
  · rw [do_acts]; exact h.acts
  · have := h.file; unfold doSt; split <;> (simp only; omega)
theorem gone_undo {T n a : Nat} {st : St} (h : Gone T n a st) : Gone T n a (undoD st) := ⟨undo_live h.live, h.turn, Nat.zero_le _, h.acts, h.file⟩
theorem com_live {st : St} (h : Live st) (ht : st.hd.1 + 2 < 4294967296) : Live (commitD st).1 := by
  unfold commitD
  split
  · exact h
  · split
    · exact h
    · split
      · exact h
      · exact commit_live h (by omega) ht
theorem gone_commit {T n a : Nat} {st : St} (h : Gone T n a st) (hT : T ≤ 100000) : Gone (T + 1) n (a + 3000) (commitD st).1 := by
  have h1 := h.turn; have h2 := h.acts; have h3 := h.file; have h4 := h.ops
  refine ⟨com_live h.live (by omega), ?_, ?_, ?_, ?_⟩
  · unfold commitD
    split
    · simp only; omega
    · split
      · simp only; omega
      · split
        · simp only; omega
        · show st.hd.1 + 1 ≤ _; omega
  · unfold commitD
    split
    · simp only; omega
    · split
      · simp only; omega
      · split
        · simp only; omega
        · show 0 ≤ _; omega
  · rw [com_acts, List.length_append]
    have : (comX st).length ≤ 3000 := by
      unfold comX
      split
      · simp
      · split
        · simp
        · split
          · simp
          · exact nActs_bd h.live (by omega)
    omega
  · unfold commitD
    split
    · exact h3
    · split
      · exact h3
      · split
        · exact h3
        · exact h3
theorem Gone.now8 {T n a : Nat} {st : St} (h : Gone T n a st) : st.now.length ≤ 8 ∧ AllDs st.now ∧ st.kept.length ≤ 8 ∧ AllDs st.kept := by
  have := h.file
  exact ⟨by rw [now_len h.live]; omega, now_all h.live, by rw [kept_len h.live]; omega, kept_all h.live⟩
theorem gone_open {d : Dk} {hh : Hd} {L : Bs} {data : List Ds} {T : Nat} (H : OpenAs d hh L data) (hn : hh.1 ≤ T) : Gone T 0 0 ⟨d, hh, L, [], data, data, []⟩ := by
  have := hdOk_parts H.hd
  exact ⟨live_open H, hn, Nat.zero_le _, Nat.zero_le _, this.2.2.2.2.1⟩
theorem com_err {st : St} (h : Live st) : (commitD st).2 = 0 ∨ (commitD st).2 = 144 := by
  have := live_turn h
  unfold commitD
  rw [if_neg this]
  split
  · exact .inl rfl
  · split
    · exact .inr rfl
    · exact .inl rfl
theorem com_fail {st : St} (h : (commitD st).2 ≠ 0) : (commitD st).1 = st := by
  unfold commitD at h ⊢
  split
  · rfl
  · rename_i h1
    rw [if_neg h1] at h
    split
    · rfl
    · rename_i h2
      rw [if_neg h2] at h
      split
      · rfl
      · rename_i h3
        rw [if_neg h3] at h
        exact absurd rfl h
theorem com_now (st : St) : (commitD st).1.now = st.now := by
  unfold commitD
  split
  · rfl
  · split
    · rfl
    · split
      · rfl
      · rfl
end Go.Proofs.Ytifcgimpgbeocaa
/- Plain: how full a store is: what FilesFull says. -/
set_option linter.unusedVariables false
set_option linter.unusedSimpArgs false
namespace Go.Proofs.Ytifcgimpgbeocaa
open Go.RowKit
def wr1 (r : Rec) : Nat := 4 + r.1.length + r.2.length
def wrD : Ds → Nat
  | [] => 0
  | r :: d => wr1 r + wrD d
def wrAll : List Ds → Nat
  | [] => 0
  | d :: l => wrD d + wrAll l
theorem wrD_app : ∀ (a b : Ds), wrD (a ++ b) = wrD a + wrD b
  | [], b => by simp [wrD]
  | r :: a, b => by simp only [List.cons_append, wrD, wrD_app a b]; omega
theorem wrAll_app : ∀ (a b : List Ds), wrAll (a ++ b) = wrAll a + wrAll b
  | [], b => by simp [wrAll]
  | r :: a, b => by simp only [List.cons_append, wrAll, wrAll_app a b]; omega
theorem wrD_take {d : Ds} {j : Nat} {r : Rec} (h : d[j]? = some r) : wrD (d.take (j + 1)) = wrD (d.take j) + wr1 r := by
  obtain ⟨hk, rfl⟩ := List.getElem?_eq_some_iff.1 h
  rw [List.take_succ_eq_append_getElem hk, wrD_app]
  simp [wrD]
theorem wrAll_take {l : List Ds} {j : Nat} {d : Ds} (h : l[j]? = some d) : wrAll (l.take (j + 1)) = wrAll (l.take j) + wrD d := by
  obtain ⟨hk, rfl⟩ := List.getElem?_eq_some_iff.1 h
  rw [List.take_succ_eq_append_getElem hk, wrAll_app]
  simp [wrAll]
theorem wrD_bd : ∀ (d : Ds), (∀ r ∈ d, isRec r = true) → wrD d ≤ d.length * 275
  | [], _ => by simp [wrD]
  | r :: d, h => by
    have h1 := h r (List.mem_cons_self ..)
    have h2 := wrD_bd d (fun x hx => h x (List.mem_cons_of_mem _ hx))
    unfold isRec isKey at h1
    simp only [Bool.and_eq_true, decide_eq_true_eq] at h1
    simp only [wrD, List.length_cons, wr1]
    omega
theorem wrD_ds {d : Ds} (h : isDs d = true) : wrD d ≤ 17600 := by
  have h1 := wrD_bd d (fun r hr => isDs_rec h hr)
  have h2 := isDs_len h
  omega
theorem wrAll_bd : ∀ (l : List Ds), AllDs l → wrAll l ≤ l.length * 17600
  | [], _ => by simp [wrAll]
  | d :: l, h => by
    have h1 := wrD_ds (h d (List.mem_cons_self ..))
    have h2 := wrAll_bd l (fun x hx => h x (List.mem_cons_of_mem _ hx))
    simp only [wrAll, List.length_cons]
    omega
theorem encL_snapD (i : Nat) (hi : i < 8) : ∀ (d : Ds), (∀ r ∈ d, isRec r = true) → (encL (d.map (wrO i))).length = wrD d
  | [], _ => rfl
  | r :: d, h => by
    have h1 := h r (List.mem_cons_self ..)
    have h2 := encL_snapD i hi d (fun x hx => h x (List.mem_cons_of_mem _ hx))
    rw [List.map_cons, encL_cons, List.length_append, h2]
    have h3 := enc1_len (isOp_write hi h1).2
    unfold wrO
    rw [h3]
    simp only [wrD, wr1]
    rw [if_neg (by decide)]
    omega
theorem encL_snap : ∀ (l : List Ds) (i : Nat), AllDs l → i + l.length ≤ 8 → (encL (snap i l)).length = wrAll l
  | [], _, _, _ => rfl
  | d :: l, i, h, hi => by
    simp only [List.length_cons] at hi
    have h1 := encL_snapD i (by omega) d (fun r hr => isDs_rec (h d (List.mem_cons_self ..)) hr)
    have h2 := encL_snap l (i + 1) (fun x hx => h x (List.mem_cons_of_mem _ hx)) (by omega)
    have e : snap i (d :: l) = d.map (wrO i) ++ snap (i + 1) l := rfl
    rw [e, encL_append, List.length_append, h1, h2]
    rfl
/-- What an operation adds to a log. -/
def opLen (o : FOp) : Nat := 3 + o.2.2.1.length + (if o.1 = 5 then 0 else 1 + o.2.2.2.length)
structure Acc (st : St) (u w : Nat) : Prop where
  live : Live st
  u : st.log.length = u
  w : (encL st.ops).length = w
theorem doSt_err2 (st : St) (o : FOp) : (doSt st o).2 = (doData st.now o).2 := by
  unfold doSt
  split <;> rfl
theorem doData_op {data : List Ds} {o : FOp} (h : (doData data o).2.2 = 0) : isOp o = true := by
  unfold doData at h
  split at h
  · rename_i h1; exact h1.1
  · simp at h
theorem acc_do {st : St} {u w : Nat} (h : Acc st u w) (o : FOp) : Acc (doSt st o).1 u (if (doData st.now o).2.2 = 0 ∧ 3 ≤ o.1 then w + opLen o else w) := by
  refine ⟨do_live h.live o, ?_, ?_⟩
  · have := h.u; unfold doSt; split <;> exact this
  · have hw := h.w
    by_cases he : (doData st.now o).2.2 = 0
    · have hi := doData_op he
      have hk := isOp_kinds hi
      have e : (doSt st o).1.ops = if chg o = true then st.ops ++ [o] else st.ops := by unfold doSt; rw [if_pos he]
      rw [e]
      by_cases h3 : 3 ≤ o.1
      · have hc : chg o = true := by unfold chg; rw [hi]; simp; omega
        rw [if_pos hc, if_pos ⟨he, h3⟩, encL_append, List.length_append, hw]
        congr 1
        have : encL [o] = enc1 o := by rw [encL_cons, encL_nil, List.append_nil]
        rw [this, enc1_len hc]
        rfl
      · have hc : ¬ chg o = true := by unfold chg; simp; omega
        rw [if_neg hc, if_neg (by omega)]
        exact hw
    · have e : (doSt st o).1 = st := by unfold doSt; rw [if_neg he]
      rw [e, if_neg (by omega)]
      exact hw
theorem acc_undo {st : St} {u w : Nat} (h : Acc st u w) : Acc (undoD st) u 0 := ⟨undo_live h.live, h.u, rfl⟩
/-- What a commit does to the account. -/
theorem acc_commit {st : St} {u w : Nat} (h : Acc st u w) (ht : st.hd.1 + 2 < 4294967296) :
    ((commitD st).2 = 144 ↔ room st < u + w ∧ room st < wrAll st.now) ∧ ((commitD st).2 = 0 → Acc (commitD st).1 (if room st < u + w then wrAll st.now else u + w) 0 ∧ room (commitD st).1 = room st) ∧ ((commitD st).2 ≠ 0 → (commitD st).1 = st) := by
  have hL := h.live
  have hu : u ≤ room st := by
    obtain ⟨-, -, -, -, -, g6⟩ := hdOk_parts hL.as_.hd
    have := hL.as_.loglen
    have := h.u
    unfold room
    omega
  have hn8 : st.now.length ≤ 8 := by rw [now_len hL]; exact (hdOk_parts hL.as_.hd).2.2.2.2.1
  have hall := encL_snap st.now 0 (now_all hL) (by omega)
  refine ⟨?_, ?_, com_fail⟩
  · by_cases ho : st.ops = []
    · rw [commitD_nil ho]
      have : w = 0 := by rw [← h.w, ho]; rfl
      subst this
      constructor
      · intro e; simp at e
      · intro e; omega
    · by_cases hr : room st < (nBytes st).length
      · rw [commitD_full ho (live_turn hL) hr]
        refine ⟨fun _ => ?_, fun _ => rfl⟩
        unfold nBytes at hr
        cases hf : full1 st with
        | true =>
          rw [hf, if_pos rfl, hall] at hr
          unfold full1 at hf
          rw [decide_eq_true_eq, List.length_append, h.u, h.w] at hf
          exact ⟨hf, hr⟩
        | false =>
          rw [hf, if_neg (by simp), List.length_append, h.u, h.w] at hr
          unfold full1 at hf
          rw [decide_eq_false_iff_not, List.length_append, h.u, h.w] at hf
          exact absurd hr hf
      · rw [commitD_ok ho (live_turn hL) hr]
        constructor
        · intro e; simp at e
        · rintro ⟨h1, h2⟩
          exfalso
          apply hr
          have hf : full1 st = true := by unfold full1; rw [decide_eq_true_eq, List.length_append, h.u, h.w]; exact h1
          unfold nBytes
          rw [hf, if_pos rfl, hall]
          exact h2
  · intro h0
    by_cases ho : st.ops = []
    · rw [commitD_nil ho]
      have : w = 0 := by rw [← h.w, ho]; rfl
      subst this
      rw [if_neg (by omega)]
      exact ⟨⟨hL, h.u, by rw [ho]; rfl⟩, rfl⟩
    · by_cases hr : room st < (nBytes st).length
      · rw [commitD_full ho (live_turn hL) hr] at h0
        simp at h0
      · rw [commitD_ok ho (live_turn hL) hr]
        refine ⟨⟨commit_live hL (by omega) ht, ?_, rfl⟩, ?_⟩
        · show (nBytes st).length = _
          unfold nBytes
          cases hf : full1 st with
          | true =>
            rw [if_pos rfl, hall]
            unfold full1 at hf
            rw [decide_eq_true_eq, List.length_append, h.u, h.w] at hf
            rw [if_pos hf]
          | false =>
            rw [if_neg (by simp), List.length_append, h.u, h.w]
            unfold full1 at hf
            rw [decide_eq_false_iff_not, List.length_append, h.u, h.w] at hf
            rw [if_neg hf]
        · unfold room
          show 64 * halfN ((nActs st).foldl actDk st.dk).1.length = _
          rw [fold_len]
/-! ### All records deleted -/
theorem del_first {r : Rec} {t : Ds} (h : isDs (r :: t) = true) {n : Nat} (hn : n < 8) : applyD (r :: t) ((5 : Int), (n : Int), r.1, []) = (t, ([], []), 0) := by
  have hr := isDs_rec h (List.mem_cons_self ..)
  have hk : isKey r.1 = true := by unfold isRec at hr; simp only [Bool.and_eq_true] at hr; exact hr.1
  have ho : isOp ((5 : Int), (n : Int), r.1, ([] : Bs)) = true := by
    unfold isOp
    simp [hk]
    omega
  have ha : atD (r :: t) r.1 = 0 := by rw [atD_cons, ltB_irrefl]; rfl
  have hh : hasD (r :: t) r.1 = true := (hasD_iff (isDs_sorted h) _).2 ⟨r, List.mem_cons_self .., rfl⟩
  have hd : deleteD (r :: t) r.1 = (t, 0) := by
    unfold deleteD
    rw [if_pos h, if_pos hk, if_pos hh, ha]
    rfl
  unfold applyD
  rw [if_pos h, if_pos ho, if_neg (show ¬ (5 : Int) = 1 by decide), if_neg (show ¬ (5 : Int) = 2 by decide), if_neg (show ¬ (5 : Int) = 3 by decide), if_neg (show ¬ (5 : Int) = 4 by decide)]
  simp only [hd]
theorem isDs_drop {d : Ds} (h : isDs d = true) (j : Nat) : isDs (d.drop j) = true := by
  refine isDs_mk (by rw [List.length_drop]; have := isDs_len h; omega) (fun r hr => isDs_rec h (List.mem_of_mem_drop hr)) ?_
  exact (isDs_sorted h).sublist (List.drop_sublist j d)
/-- The datasets with all records of the first n deleted, and j of the next one's. -/
def clr (X : List Ds) (n : Nat) : List Ds := List.replicate n [] ++ X.drop n
def clrJ (X : List Ds) (n j : Nat) : List Ds := (clr X n).set n (((X[n]?).getD []).drop j)
theorem clr_zero (X : List Ds) : clr X 0 = X := rfl
theorem clr_len {X : List Ds} {n : Nat} (h : n ≤ X.length) : (clr X n).length = X.length := by unfold clr; simp; omega
theorem clr_at {X : List Ds} {n : Nat} {d : Ds} (h : X[n]? = some d) : (clr X n)[n]? = some d := by
  unfold clr
  rw [List.getElem?_append_right (by simp), List.length_replicate, Nat.sub_self, List.getElem?_drop]
  exact h
theorem clrJ_zero {X : List Ds} {n : Nat} {d : Ds} (h : X[n]? = some d) : clrJ X n 0 = clr X n := by
  unfold clrJ
  rw [h, Option.getD_some, List.drop_zero]
  have h2 := clr_at h
  obtain ⟨hk, e⟩ := List.getElem?_eq_some_iff.1 h2
  rw [← e, List.set_getElem_self]
theorem clrJ_end {X : List Ds} {n : Nat} {d : Ds} (h : X[n]? = some d) {j : Nat} (hj : d.length ≤ j) : clrJ X n j = clr X (n + 1) := by
  unfold clrJ
  rw [h, Option.getD_some, List.drop_of_length_le hj]
  obtain ⟨hk, rfl⟩ := List.getElem?_eq_some_iff.1 h
  unfold clr
  rw [List.drop_eq_getElem_cons hk, List.replicate_succ', List.append_assoc]
  rw [List.set_append, List.length_replicate, if_neg (by omega), Nat.sub_self]
  rfl
theorem clr_end (X : List Ds) : clr X X.length = empties X.length := by
  unfold clr empties
  rw [List.drop_length, List.append_nil]
theorem do_clr {X : List Ds} (hX : AllDs X) (hl : X.length ≤ 8) {n j : Nat} {d : Ds} {r : Rec} (h : X[n]? = some d) (hr : d[j]? = some r) : doData (clrJ X n j) ((5 : Int), (n : Int), r.1, []) = (clrJ X n (j + 1), ([], []), 0) := by
  have hn : n < X.length := (List.getElem?_eq_some_iff.1 h).1
  obtain ⟨hj, rfl⟩ := List.getElem?_eq_some_iff.1 hr
  have hd : isDs d = true := hX d (List.mem_of_getElem? h)
  have e1 : d.drop j = d[j] :: d.drop (j + 1) := List.drop_eq_getElem_cons hj
  have hdd : isDs (d[j] :: d.drop (j + 1)) = true := by rw [← e1]; exact isDs_drop hd j
  have hdf := del_first hdd (n := n) (by omega)
  have hlen : (clrJ X n j).length = X.length := by unfold clrJ; rw [List.length_set, clr_len (by omega)]
  have hg : (clrJ X n j)[n]? = some (d[j] :: d.drop (j + 1)) := by
    unfold clrJ
    rw [List.getElem?_set_self (by rw [clr_len (by omega)]; exact hn), h, Option.getD_some, e1]
  have hrc := isDs_rec hd (List.getElem_mem hj)
  have hk : isKey (d[j]).1 = true := by unfold isRec at hrc; simp only [Bool.and_eq_true] at hrc; exact hrc.1
  have ho : isOp ((5 : Int), (n : Int), (d[j]).1, ([] : Bs)) = true := by
    unfold isOp
    simp [hk]
    omega
  unfold doData
  rw [if_pos ⟨ho, by rw [hlen]; simp; exact hn⟩]
  simp only [Int.toNat_natCast]
  rw [hg, Option.getD_some, hdf]
  simp only [if_true]
  congr 1
  unfold clrJ
  rw [List.set_set, h, Option.getD_some]
theorem wrAll_empties (n : Nat) : wrAll (empties n) = 0 := by
  unfold empties
  induction n with
  | zero => rfl
  | succ n ih => rw [List.replicate_succ, wrAll, ih]; rfl
/-- Behind the deletions the commit comes to pass. -/
theorem commit_empty {st : St} {u w n : Nat} (h : Acc st u w) (ht : st.hd.1 + 2 < 4294967296) (hn : st.now = empties n) : (commitD st).2 = 0 ∧ (commitD st).1.kept = empties n := by
  obtain ⟨h1, h2, h3⟩ := acc_commit h ht
  have hne : (commitD st).2 ≠ 144 := fun e => by
    have := (h1.1 e).2
    rw [hn, wrAll_empties] at this
    omega
  have h0 := (com_err h.live).resolve_right hne
  refine ⟨h0, ?_⟩
  rw [← hn]
  by_cases ho : st.ops = []
  · rw [commitD_nil ho]
    have := h.live.run
    rw [ho] at this
    simpa [runAll] using this
  · by_cases hr : room st < (nBytes st).length
    · rw [commitD_full ho (live_turn h.live) hr] at h0
      simp at h0
    · rw [commitD_ok ho (live_turn h.live) hr]
      rfl
end Go.Proofs.Ytifcgimpgbeocaa
/- Plain: a script played: its store and its history; acts that can be carried out; what allowed answers. -/
set_option linter.unusedVariables false
set_option linter.unusedSimpArgs false
namespace Go.Proofs.Ytifcgimpgbeocaa
open Go.RowKit
abbrev Stp := Int × FOp
instance : Inhabited Stp := ⟨(0, 0, 0, [], [])⟩
def stepP (s : St × Hist) (x : Stp) : St × Hist :=
  if x.1 = 0 then ((doSt s.1 x.2).1, s.2) else if x.1 = 1 then (if (commitD s.1).2 = 0 then ((commitD s.1).1, s.2 ++ [((commitD s.1).1.acts.length, s.1.now)]) else s) else (undoD s.1, s.2)
def playP (st : St) (l : List Stp) : St × Hist := l.foldl stepP (st, [(st.acts.length, st.kept)])
theorem playP_succ (st : St) (l : List Stp) (k : Nat) (x : Stp) (h : l[k]? = some x) : playP st (l.take (k + 1)) = stepP (playP st (l.take k)) x := by
  unfold playP
  rw [List.take_add_one, h, List.foldl_append]
  rfl
/-- Acts that can be carried out on any disk of n pages. -/
def Acted (n : Nat) (l : List Ac) : Prop := ∀ a ∈ l, ∀ e : Dk, e.1.length = n → isAct e a = true
theorem acted_nil (n : Nat) : Acted n [] := fun a h => by cases h
theorem acted_app {n : Nat} {l m : List Ac} (h : Acted n l) (k : Acted n m) : Acted n (l ++ m) := fun a ha => by
  rcases List.mem_append.1 ha with ha | ha
  · exact h a ha
  · exact k a ha
theorem acted_take {n : Nat} {l : List Ac} (h : Acted n l) (k : Nat) : Acted n (l.take k) := fun a ha => h a (List.mem_of_mem_take ha)
theorem nActs_acted {st : St} (h : Live st) (hr : (nBytes st).length ≤ room st) : Acted st.dk.1.length (nActs st) := by
  have hd := isDk_len h.as_.dk
  intro a ha e he
  unfold nActs at ha
  rcases List.mem_append.1 ha with ha | ha
  · obtain ⟨x, hx, rfl⟩ := List.mem_map.1 ha
    obtain ⟨q1, q2, q3⟩ := nW_ok h hr hx
    obtain ⟨x1, x2⟩ := x
    rw [isAct_write]
    simp only at q1 q2 q3
    rw [he]
    simp
    exact ⟨by omega, q2, q3⟩
  · simp only [List.mem_cons, List.not_mem_nil, or_false] at ha
    rcases ha with rfl | rfl | rfl
    · exact isAct_syncA e
    · unfold headA
      rw [isAct_write, headPg_len, he]
      simp
      omega
    · exact isAct_syncA e
theorem comX_acted {st : St} (h : Live st) : Acted st.dk.1.length (comX st) := by
  unfold comX
  split
  · exact acted_nil _
  · split
    · exact acted_nil _
    · split
      · exact acted_nil _
      · exact nActs_acted h (by omega)
theorem com_dk (st : St) : (commitD st).1.dk.1.length = st.dk.1.length := by
  unfold commitD
  split
  · rfl
  · split
    · rfl
    · split
      · rfl
      · exact fold_len _ _
/-- What a played script keeps to. -/
structure Went (d0 : Dk) (T n a : Nat) (s : St × Hist) : Prop where
  gone : Gone T n a s.1
  told : Told d0 s.1 s.2
  acted : Acted d0.1.length s.1.acts
  pages : s.1.dk.1.length = d0.1.length
theorem went_start {st : St} {T n a : Nat} (h : Gone T n a st) (ha : st.acts = []) : Went st.dk T n a (st, [(st.acts.length, st.kept)]) := by
  refine ⟨h, ?_, by rw [ha]; exact acted_nil _, rfl⟩
  have := told_start h.live ha
  rw [ha]
  exact this
theorem went_step {d0 : Dk} {T n a : Nat} {s : St × Hist} (h : Went d0 T n a s) (hT : T ≤ 100000) (x : Stp) : Went d0 (T + 1) (n + 1) (a + 3000) (stepP s x) := by
  obtain ⟨h1, h2, h3, h4⟩ := h
  unfold stepP
  split
  · refine ⟨(gone_do h1 _).mono (by omega) (by omega) (by omega), told_do h2 _, ?_, ?_⟩
    · simp only; rw [do_acts]; exact h3
    · rw [← h4]; simp only; unfold doSt; split <;> rfl
  · split
    · have ht := h1.turn
      split
      · rename_i h0
        refine ⟨(gone_commit h1 hT).mono (by omega) (by omega) (by omega), (told_commit h2 (by omega) h0).1, ?_, ?_⟩
        · simp only; rw [com_acts]
          exact acted_app h3 (by rw [← h4]; exact comX_acted h1.live)
        · rw [← h4]; exact com_dk _
      · exact ⟨h1.mono (by omega) (by omega) (by omega), h2, h3, h4⟩
    · exact ⟨(gone_undo h1).mono (by omega) (by omega) (by omega), told_undo h2, h3, h4⟩
theorem went_play {st : St} {T n a : Nat} (h : Gone T n a st) (ha : st.acts = []) (l : List Stp) : ∀ k, T + k ≤ 100000 → k ≤ l.length → Went st.dk (T + k) (n + k) (a + 3000 * k) (playP st (l.take k))
  | 0, _, _ => went_start h ha
  | k + 1, hk, hl => by
    obtain ⟨x, hx⟩ : ∃ x, l[k]? = some x := ⟨_, List.getElem?_eq_getElem hl⟩
    rw [playP_succ st l k x hx, show T + (k + 1) = T + k + 1 by omega, show n + (k + 1) = n + k + 1 by omega, show a + 3000 * (k + 1) = a + 3000 * k + 3000 by omega]
    exact went_step (went_play h ha l k (by omega) (by omega)) (by omega) x
/-! ### The bounds of a play that says no more -/
theorem gone_step {T n a : Nat} {s : St × Hist} (h : Gone T n a s.1) (hT : T ≤ 100000) (x : Stp) : Gone (T + 1) (n + 1) (a + 3000) (stepP s x).1 := by
  unfold stepP
  split
  · exact (gone_do h _).mono (by omega) (by omega) (by omega)
  · split
    · split
      · exact (gone_commit h hT).mono (by omega) (by omega) (by omega)
      · exact h.mono (by omega) (by omega) (by omega)
    · exact (gone_undo h).mono (by omega) (by omega) (by omega)
theorem gone_play {st : St} {T n a : Nat} (h : Gone T n a st) (l : List Stp) : ∀ k, T + k ≤ 100000 → k ≤ l.length → Gone (T + k) (n + k) (a + 3000 * k) (playP st (l.take k)).1
  | 0, _, _ => h
  | k + 1, hk, hl => by
    obtain ⟨x, hx⟩ : ∃ x, l[k]? = some x := ⟨_, List.getElem?_eq_getElem hl⟩
    rw [playP_succ st l k x hx, show T + (k + 1) = T + k + 1 by omega, show n + (k + 1) = n + k + 1 by omega, show a + 3000 * (k + 1) = a + 3000 * k + 3000 by omega]
    exact gone_step (gone_play h l k (by omega) (by omega)) (by omega) x
theorem hist_len (st : St) (l : List Stp) : ∀ k, (playP st (l.take k)).2.length ≤ k + 1
  | 0 => by unfold playP; simp
  | k + 1 => by
    have ih := hist_len st l k
    by_cases hk : k < l.length
    · obtain ⟨x, hx⟩ : ∃ x, l[k]? = some x := ⟨_, List.getElem?_eq_getElem hk⟩
      rw [playP_succ st l k x hx]
      unfold stepP
      split
      · simp only; omega
      · split
        · split
          · simp only [List.length_append, List.length_singleton]; omega
          · omega
        · simp only; omega
    · rw [List.take_of_length_le (by omega : l.length ≤ k)] at ih
      rw [List.take_of_length_le (by omega : l.length ≤ k + 1)]
      omega
def allH (H : Hist) : Prop := ∀ x ∈ H, x.2.length ≤ 8 ∧ AllDs x.2
theorem allH_step {T n a : Nat} {s : St × Hist} (h : Gone T n a s.1) (hH : allH s.2) (x : Stp) : allH (stepP s x).2 := by
  unfold stepP
  split
  · exact hH
  · split
    · split
      · intro y hy
        rcases List.mem_append.1 hy with hy | hy
        · exact hH y hy
        · simp only [List.mem_singleton] at hy
          rw [hy]
          exact ⟨h.now8.1, h.now8.2.1⟩
      · exact hH
    · exact hH
theorem allH_play {st : St} {T n a : Nat} (h : Gone T n a st) (l : List Stp) : ∀ k, T + k ≤ 100000 → k ≤ l.length → allH (playP st (l.take k)).2
  | 0, _, _ => by
    intro y hy
    simp only [playP, List.take_zero, List.foldl_nil, List.mem_singleton] at hy
    rw [hy]
    exact ⟨h.now8.2.2.1, h.now8.2.2.2⟩
  | k + 1, hk, hl => by
    obtain ⟨x, hx⟩ : ∃ x, l[k]? = some x := ⟨_, List.getElem?_eq_getElem hl⟩
    rw [playP_succ st l k x hx]
    exact allH_step (gone_play h l k (by omega) (by omega)) (allH_play h l k (by omega) (by omega)) x
/-! ### What allowed answers -/
/-- The last of the first k commits that lies at or before at. -/
def lastTo (H : Hist) (at_ : Nat) : Nat → Nat
  | 0 => 0
  | k + 1 => match H[k]? with
    | some x => if x.1 ≤ at_ then k else lastTo H at_ k
    | none => lastTo H at_ k
theorem lastTo_le (H : Hist) (at_ : Nat) : ∀ k, lastTo H at_ k ≤ k
  | 0 => Nat.le_refl _
  | k + 1 => by
    have := lastTo_le H at_ k
    unfold lastTo
    split
    · split <;> omega
    · omega
theorem lastTo_at {H : Hist} {at_ i n : Nat} {x : List Ds} (h1 : H[i]? = some (n, x)) (h2 : n ≤ at_) (h3 : ∀ (j m : Nat) (y : List Ds), i < j → H[j]? = some (m, y) → at_ < m) : ∀ k, i < k → lastTo H at_ k = i
  | 0, h => by omega
  | k + 1, h => by
    unfold lastTo
    by_cases hk : i = k
    · subst hk
      rw [h1]
      simp only
      rw [if_pos h2]
    · have ih := lastTo_at h1 h2 h3 k (by omega)
      split
      · rename_i x hx
        obtain ⟨m, y⟩ := x
        have := h3 k m y (by omega) hx
        rw [if_neg (by simp only; omega), ih]
      · exact ih
theorem allowed_parts {H : Hist} {at_ : Nat} {data : List Ds} (h : AllowedP H at_ data) : ∃ n x, H[lastTo H at_ H.length]? = some (n, x) ∧ (data = x ∨ data ≠ x ∧ n < at_ ∧ ∃ m y, H[lastTo H at_ H.length + 1]? = some (m, y) ∧ data = y) := by
  obtain ⟨i, n, x, h1, h2, h3, h4⟩ := h
  have e := lastTo_at h1 h2 h3 H.length (List.getElem?_eq_some_iff.1 h1).1
  rw [e]
  refine ⟨n, x, h1, ?_⟩
  by_cases hd : data = x
  · exact .inl hd
  · rcases h4 with h4 | h4
    · exact absurd h4 hd
    · exact .inr ⟨hd, h4⟩
end Go.Proofs.Ytifcgimpgbeocaa
