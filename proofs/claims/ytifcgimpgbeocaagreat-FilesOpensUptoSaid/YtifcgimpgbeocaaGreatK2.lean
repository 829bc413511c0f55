/- Plain: a commit, act by act; a store's steps keep it alive. -/
import Derived.Test.YtifcgimpgbeocaaGreatK1
import Derived.Test.YtifcgimpgbeocaaGreatProg
import Derived.WalkKit
import Derived.WalkSpells
import Derived.WalkLawsBesides
import Derived.Deep.QuietTactic
import Derived.BigQuiet
import Derived.Deep.RegionHeld3
import Derived.Deep.DrawnRows
import Derived.OrdersIn
import Derived.TacticsIn
import Derived.RangeFuncCalls
import Derived.Laws.CopyRow
import Derived.Laws.MakeOwn
import Derived.Laws.OwnMore
import Derived.Laws.BytesArg
import Derived.RangeFuncFrom
import Derived.RangeFuncLeaves
import Derived.Outline
import Derived.Deep.CutBlock
import Derived.Deep.DeepCutAuto
import Derived.Deep.RegionWith
import Derived.StillTailTactics
set_option linter.unusedVariables false
set_option linter.unusedSimpArgs false
namespace Go.Proofs.YtifcgimpgbeocaaGreat
open Go.RowKit
section
variable {st : St}
theorem tear64 {pages : List Bs} {n : Nat} {s : Bs} (hs : s.length = 64) (hp : ∀ x ∈ pages, x.length = 64) : tear pages ((n : Int), s) 64 = pages.set n s := by
  unfold tear
  simp only [Int.toNat_natCast]
  by_cases hn : n < pages.length
  · have := hp _ (List.getElem_mem hn)
    rw [List.getElem?_eq_getElem hn, Option.getD_some, List.take_of_length_le (by omega), List.drop_of_length_le (by omega), List.append_nil]
  · rw [List.set_eq_of_length_le (by omega), List.set_eq_of_length_le (by omega)]
theorem nActs_len (st : St) : (nActs st).length = (nW st).length + 3 := by unfold nActs; simp
theorem acts_log (k : Nat) (hk : k ≤ (nW st).length) (d : Dk) : ((nActs st).take k).foldl actDk d = (d.1, d.2 ++ (nW st).take k) := by
  unfold nActs
  rw [List.take_append_of_le_length (by simpa using hk), ← List.map_take, foldl_writes]
theorem acts_mid (d : Dk) (h : d.2 = []) (he : d.1 = st.dk.1) : ((nActs st).take ((nW st).length + 1)).foldl actDk d = mid st := by
  unfold nActs
  rw [List.take_append, List.length_map, List.take_of_length_le (by simp), show (nW st).length + 1 - (nW st).length = 1 by omega, List.foldl_append, foldl_writes]
  show actDk (d.1, d.2 ++ nW st) syncA = mid st
  rw [h, he]
  rfl
theorem mid_nw (st : St) : (mid st).2 = [] := rfl
theorem acts_head (d : Dk) (h : d.2 = []) (he : d.1 = st.dk.1) : ((nActs st).take ((nW st).length + 2)).foldl actDk d = ((mid st).1, [(headA st).2]) := by
  unfold nActs
  rw [List.take_append, List.length_map, List.take_of_length_le (by simp), show (nW st).length + 2 - (nW st).length = 2 by omega, List.foldl_append, foldl_writes]
  show actDk (actDk (d.1, d.2 ++ nW st) syncA) (headA st) = _
  rw [h, he]
  rfl
theorem acts_all (d : Dk) (h : d.2 = []) (he : d.1 = st.dk.1) : (nActs st).foldl actDk d = (tear (mid st).1 ((((st.hd.1 + 1) % 2 : Nat) : Int), headPg (nHd st)) 64, []) := by
  unfold nActs
  rw [List.foldl_append, foldl_writes]
  show actDk (actDk (actDk (d.1, d.2 ++ nW st) syncA) (headA st)) syncA = _
  rw [h, he]
  rfl
theorem dk_eta {d : Dk} {p : List Bs} (h : d.2 = []) (he : d.1 = p) : d = (p, []) := by rw [← h, ← he]
theorem mid_page (h : Live st) (hr : (nBytes st).length ≤ room st) : ∀ x ∈ (mid st).1, x.length = 64 := fun x hx => by
  obtain ⟨i, hi⟩ := List.getElem?_of_mem hx
  exact isDk_page (phase_mid h hr).dk hi
theorem commit_dk (h : Live st) (hr : (nBytes st).length ≤ room st) : (nActs st).foldl actDk st.dk = ((mid st).1.set ((st.hd.1 + 1) % 2) (headPg (nHd st)), []) := by
  rw [acts_all st.dk h.as_.nw rfl, tear64 (headPg_len _) (mid_page h hr)]
/-- The power fails behind k acts of a commit. -/
theorem commit_phases (h : Live st) (hr : (nBytes st).length ≤ room st) (ht : st.hd.1 + 2 < 4294967296) (k : Nat) (cuts : List Int) :
    OpenAs (crashDk (((nActs st).take k).foldl actDk st.dk) cuts) st.hd st.log st.kept ∧ k < (nActs st).length ∨ 0 < k ∧ OpenAs (crashDk (((nActs st).take k).foldl actDk st.dk) cuts) (nHd st) (nBytes st) st.now := by
  have hn := h.as_.nw
  have hl := nActs_len st
  by_cases k0 : k ≤ (nW st).length
  · left
    rw [acts_log k k0, hn, List.nil_append]
    exact ⟨phase_log h hr k cuts, by omega⟩
  by_cases k1 : k = (nW st).length + 1
  · left
    subst k1
    rw [acts_mid st.dk hn rfl]
    have : crashDk (mid st) cuts = mid st := rfl
    rw [this]
    exact ⟨phase_mid h hr, by omega⟩
  by_cases k2 : k = (nW st).length + 2
  · subst k2
    rw [acts_head st.dk hn rfl]
    have e : crashDk ((mid st).1, [(headA st).2]) cuts = (tear (mid st).1 ((((st.hd.1 + 1) % 2 : Nat) : Int), headPg (nHd st)) (cutAt cuts 0), []) := rfl
    rw [e]
    have hc := cutAt_le cuts 0
    by_cases c : cutAt cuts 0 < 64
    · exact .inl ⟨phase_torn h hr c, by omega⟩
    · right
      rw [show cutAt cuts 0 = 64 by omega, tear64 (headPg_len _) (mid_page h hr)]
      exact ⟨by omega, phase_new h hr ht⟩
  · right
    refine ⟨by omega, ?_⟩
    rw [List.take_of_length_le (by omega), commit_dk h hr]
    exact phase_new h hr ht
theorem commit_live (h : Live st) (hr : (nBytes st).length ≤ room st) (ht : st.hd.1 + 2 < 4294967296) : Live (commitSt st) := by
  refine ⟨?_, rfl, fun o ho => by cases ho⟩
  have := phase_new h hr ht
  rw [← commit_dk h hr] at this
  exact this
theorem undo_live (h : Live st) : Live (undoD st) := ⟨h.as_, rfl, fun o ho => by cases ho⟩
theorem set_self {data : List Ds} {i : Nat} (hi : i < data.length) : data.set i ((data[i]?).getD []) = data := by
  rw [List.getElem?_eq_getElem hi, Option.getD_some, List.set_getElem_self]
/-- An operation that does not change leaves the datasets as they are. -/
theorem doData_read {data : List Ds} {o : FOp} (ha : AllDs data) (he : (doData data o).2.2 = 0) (hc : chg o = false) : (doData data o).1 = data := by
  unfold doData at he ⊢
  split at he
  · rename_i h1
    rw [if_pos h1]
    split at he
    · rename_i h2
      rw [if_pos h2]
      obtain ⟨k1, k2⟩ := isOp_kinds h1.1
      have hk : o.1 = 1 ∨ o.1 = 2 := by
        unfold chg at hc
        rw [h1.1, Bool.and_true, decide_eq_false_iff_not] at hc
        omega
      have hd := allDs_get ha o.2.1.toNat
      have hi : o.2.1.toNat < data.length := by
        have := h1.2
        have hop := h1.1
        unfold isOp at hop
        simp only [Bool.and_eq_true, decide_eq_true_eq] at hop
        omega
      have e : (applyD ((data[o.2.1.toNat]?).getD []) o).1 = (data[o.2.1.toNat]?).getD [] := by
        unfold applyD at h2 ⊢
        rw [if_pos hd, if_pos h1.1] at h2 ⊢
        rcases hk with hk | hk
        · rw [if_pos hk] at h2 ⊢
          split at h2
          · rename_i h3; rw [if_pos h3]
          · rename_i h3; exact absurd h2 h3
        · rw [if_neg (by omega), if_pos hk] at h2 ⊢
          split at h2
          · rename_i h3; rw [if_pos h3]
          · rename_i h3; exact absurd h2 h3
      simp only
      rw [e, set_self hi]
    · rename_i h2
      simp only at he
      exact absurd he h2
  · simp at he
theorem do_live (h : Live st) (o : FOp) : Live (doSt st o).1 := by
  unfold doSt
  split
  · rename_i he
    refine ⟨h.as_, ?_, ?_⟩
    · show runAll st.kept (if chg o = true then st.ops ++ [o] else st.ops) = some (doData st.now o).1
      cases c : chg o with
      | true =>
        simp only [if_true]
        rw [runAll_append, h.run, Option.bind_some]
        simp only [runAll]
        rw [if_pos he]
      | false =>
        simp only [Bool.false_eq_true, if_false]
        rw [doData_read (now_all h) he c]
        exact h.run
    · intro p hp
      have hp' : p ∈ (if chg o = true then st.ops ++ [o] else st.ops) := hp
      cases c : chg o with
      | true =>
        rw [c, if_pos rfl] at hp'
        rcases List.mem_append.1 hp' with hp' | hp'
        · exact h.chg p hp'
        · rw [List.mem_singleton] at hp'
          rw [hp']; exact c
      | false =>
        rw [c, if_neg (by simp)] at hp'
        exact h.chg p hp'
  · exact h
end
end Go.Proofs.YtifcgimpgbeocaaGreat
/- Plain: what became of a script: at each act a crash leaves what is allowed. -/
set_option linter.unusedVariables false
set_option linter.unusedSimpArgs false
namespace Go.Proofs.YtifcgimpgbeocaaGreat
open Go.RowKit
abbrev Hist := List (Nat × List Ds)
/-- The datasets that may be found at an act. -/
def AllowedP (H : Hist) (at_ : Nat) (data : List Ds) : Prop :=
  ∃ (i n : Nat) (x : List Ds), H[i]? = some (n, x) ∧ n ≤ at_ ∧ (∀ (j m : Nat) (y : List Ds), i < j → H[j]? = some (m, y) → at_ < m) ∧ (data = x ∨ n < at_ ∧ ∃ (m : Nat) (y : List Ds), H[i + 1]? = some (m, y) ∧ data = y)
theorem allowed_snoc {H : Hist} {at_ n : Nat} {data x : List Ds} (h : AllowedP H at_ data) (hn : at_ < n) : AllowedP (H ++ [(n, x)]) at_ data := by
  obtain ⟨i, m, y, h1, h2, h3, h4⟩ := h
  have hi : i < H.length := (List.getElem?_eq_some_iff.1 h1).1
  refine ⟨i, m, y, by rw [List.getElem?_append_left hi, h1], h2, fun j k z hj hk => ?_, ?_⟩
  · by_cases hl : j < H.length
    · rw [List.getElem?_append_left hl] at hk
      exact h3 j k z hj hk
    · rw [List.getElem?_append_right (by omega)] at hk
      have : j - H.length = 0 := by
        rcases Nat.eq_zero_or_pos (j - H.length) with e | e
        · exact e
        · rw [List.getElem?_eq_none (by simp; omega)] at hk; cases hk
      rw [this] at hk
      simp only [List.getElem?_cons_zero, Option.some.injEq, Prod.mk.injEq] at hk
      omega
  · rcases h4 with h4 | ⟨h4, k, z, h5, h6⟩
    · exact .inl h4
    · refine .inr ⟨h4, k, z, ?_, h6⟩
      rw [List.getElem?_append_left (List.getElem?_eq_some_iff.1 h5).1, h5]
/-- What is known of a script's history: the disk at its start, the store, the commits. -/
structure Told (d0 : Dk) (st : St) (H : Hist) : Prop where
  live : Live st
  disk : st.acts.foldl actDk d0 = st.dk
  last : ∃ (G : Hist), H = G ++ [(st.acts.length, st.kept)] ∧ ∀ x ∈ G, x.1 ≤ st.acts.length
  all : ∀ (at_ : Nat) (cuts : List Int), at_ ≤ st.acts.length → ∃ h L data, OpenAs (crashDk ((st.acts.take at_).foldl actDk d0) cuts) h L data ∧ AllowedP H at_ data ∧ h.1 ≤ st.hd.1 ∧ h.2.2.1 = st.hd.2.2.1
theorem told_start {st : St} (h : Live st) (ha : st.acts = []) : Told st.dk st [(0, st.kept)] := by
  refine ⟨h, by rw [ha]; rfl, ⟨[], by rw [ha]; rfl, fun x hx => by cases hx⟩, fun at_ cuts hat => ⟨st.hd, st.log, st.kept, ?_, ?_, Nat.le_refl _, rfl⟩⟩
  · rw [ha, List.take_nil]
    show OpenAs (crashDk st.dk cuts) _ _ _
    have e : st.dk = (st.dk.1, []) := dk_eta h.as_.nw rfl
    rw [e, crash_nw, ← e]
    exact h.as_
  · refine ⟨0, 0, st.kept, rfl, Nat.zero_le _, fun j m y hj hk => ?_, .inl rfl⟩
    rw [List.getElem?_eq_none (by simp; omega)] at hk; cases hk
theorem told_keep {d0 : Dk} {st st' : St} {H : Hist} (h : Told d0 st H) (hl : Live st') (e1 : st'.dk = st.dk) (e2 : st'.acts = st.acts) (e3 : st'.kept = st.kept) (e4 : st'.hd = st.hd) : Told d0 st' H := by
  refine ⟨hl, by rw [e2, e1]; exact h.disk, by rw [e2, e3]; exact h.last, fun at_ cuts hat => ?_⟩
  rw [e2] at hat ⊢
  rw [e4]
  exact h.all at_ cuts hat
theorem told_do {d0 : Dk} {st : St} {H : Hist} (h : Told d0 st H) (o : FOp) : Told d0 (doSt st o).1 H := by
  refine told_keep h (do_live h.live o) ?_ ?_ ?_ ?_ <;> (unfold doSt; split <;> rfl)
theorem told_undo {d0 : Dk} {st : St} {H : Hist} (h : Told d0 st H) : Told d0 (undoD st) H := told_keep h (undo_live h.live) rfl rfl rfl rfl
theorem told_commit {d0 : Dk} {st : St} {H : Hist} (h : Told d0 st H) (ht : st.hd.1 + 2 < 4294967296) (h0 : (commitD st).2 = 0) :
    Told d0 (commitD st).1 (H ++ [((commitD st).1.acts.length, st.now)]) ∧ (commitD st).1.kept = st.now ∧ (commitD st).1.now = st.now ∧ (commitD st).1.hd.1 ≤ st.hd.1 + 1 := by
  obtain ⟨G, hG, hle⟩ := h.last
  unfold commitD at h0 ⊢
  by_cases ho : st.ops = []
  · rw [if_pos ho]
    show Told d0 st (H ++ [(st.acts.length, st.now)]) ∧ st.kept = st.now ∧ st.now = st.now ∧ st.hd.1 ≤ st.hd.1 + 1
    have hk : st.kept = st.now := by
      have := h.live.run
      rw [ho] at this
      simpa [runAll] using this
    refine ⟨⟨h.live, h.disk, ⟨H, by rw [hk], fun x hx => ?_⟩, fun at_ cuts hat => ?_⟩, hk, rfl, by omega⟩
    · rw [hG] at hx
      rcases List.mem_append.1 hx with hx | hx
      · exact hle x hx
      · rw [List.mem_singleton] at hx
        rw [hx]; exact Nat.le_refl _
    · obtain ⟨hh, L, data, k1, k2, k3, k4⟩ := h.all at_ cuts hat
      by_cases hlt : at_ < st.acts.length
      · exact ⟨hh, L, data, k1, allowed_snoc k2 hlt, k3, k4⟩
      · have e : at_ = st.acts.length := by omega
        have hd : crashDk ((st.acts.take at_).foldl actDk d0) cuts = st.dk := by
          rw [e, List.take_length, h.disk]
          have e : st.dk = (st.dk.1, []) := dk_eta h.live.as_.nw rfl
          rw [e, crash_nw]
        refine ⟨st.hd, st.log, st.kept, by rw [hd]; exact h.live.as_, ?_, Nat.le_refl _, rfl⟩
        refine ⟨H.length, st.acts.length, st.now, by rw [List.getElem?_append_right (Nat.le_refl _), Nat.sub_self]; rfl, by omega, fun j m y hj hk' => ?_, .inl hk⟩
        rw [List.getElem?_eq_none (by simp; omega)] at hk'; cases hk'
  · rw [if_neg ho] at h0 ⊢
    by_cases h1 : st.hd.1 = 4294967295
    · rw [if_pos h1] at h0; cases h0
    rw [if_neg h1] at h0 ⊢
    by_cases h2 : room st < (nBytes st).length
    · rw [if_pos h2] at h0; cases h0
    rw [if_neg h2] at h0 ⊢
    have hr : (nBytes st).length ≤ room st := by omega
    have hcl := commit_live h.live hr ht
    have hal : (commitSt st).acts = st.acts ++ nActs st := rfl
    have hnl := nActs_len st
    refine ⟨⟨hcl, ?_, ⟨H, rfl, fun x hx => ?_⟩, fun at_ cuts hat => ?_⟩, rfl, rfl, Nat.le_refl _⟩
    · show (st.acts ++ nActs st).foldl actDk d0 = (nActs st).foldl actDk st.dk
      rw [List.foldl_append, h.disk]
    · rw [hal, List.length_append]
      rw [hG] at hx
      rcases List.mem_append.1 hx with hx | hx
      · have := hle x hx; omega
      · rw [List.mem_singleton] at hx
        rw [hx]; simp
    · simp only [hal, List.length_append] at hat ⊢
      by_cases hlt : at_ ≤ st.acts.length
      · obtain ⟨hh, L, data, k1, k2, k3, k4⟩ := h.all at_ cuts hlt
        refine ⟨hh, L, data, ?_, allowed_snoc k2 (by omega), by show hh.1 ≤ st.hd.1 + 1; omega, k4⟩
        rw [List.take_append_of_le_length hlt]
        exact k1
      · obtain ⟨k, hk⟩ : ∃ k, at_ = st.acts.length + k := ⟨at_ - st.acts.length, by omega⟩
        subst hk
        have hdk : ((st.acts ++ nActs st).take (st.acts.length + k)).foldl actDk d0 = ((nActs st).take k).foldl actDk st.dk := by
          rw [List.take_append, List.take_of_length_le (by omega), List.foldl_append, h.disk, show st.acts.length + k - st.acts.length = k by omega]
        rw [hdk]
        have hHl : H.length = G.length + 1 := by rw [hG]; simp
        have hlast : H[G.length]? = some (st.acts.length, st.kept) := by rw [hG, List.getElem?_append_right (Nat.le_refl _), Nat.sub_self]; rfl
        have hnew : (H ++ [(st.acts.length + (nActs st).length, st.now)])[G.length + 1]? = some (st.acts.length + (nActs st).length, st.now) := by
          rw [← hHl, List.getElem?_append_right (Nat.le_refl _), Nat.sub_self]; rfl
        have early : k < (nActs st).length → ∀ data, (data = st.kept ∨ 0 < k ∧ data = st.now) → AllowedP (H ++ [(st.acts.length + (nActs st).length, st.now)]) (st.acts.length + k) data := fun hkl data hdt => by
          refine ⟨G.length, st.acts.length, st.kept, by rw [List.getElem?_append_left (by omega), hlast], by omega, fun j m y hj hm => ?_, ?_⟩
          · have : j = G.length + 1 := by
              rcases Nat.lt_or_ge j (G.length + 2) with e | e
              · omega
              · rw [List.getElem?_eq_none (by simp; omega)] at hm; cases hm
            subst this
            rw [hnew] at hm
            simp only [Option.some.injEq, Prod.mk.injEq] at hm
            omega
          · rcases hdt with e | ⟨e1, e2⟩
            · exact .inl e
            · exact .inr ⟨by omega, _, _, hnew, e2⟩
        rcases commit_phases h.live hr ht k cuts with ⟨c1, c2⟩ | ⟨c1, c2⟩
        · exact ⟨st.hd, st.log, st.kept, c1, early c2 _ (.inl rfl), by show st.hd.1 ≤ st.hd.1 + 1; omega, rfl⟩
        · refine ⟨nHd st, nBytes st, st.now, c2, ?_, Nat.le_refl _, rfl⟩
          by_cases hkl : k < (nActs st).length
          · exact early hkl _ (.inr ⟨c1, rfl⟩)
          · refine ⟨G.length + 1, _, _, hnew, by omega, fun j m y hj hm => ?_, .inl rfl⟩
            rw [List.getElem?_eq_none (by simp; omega)] at hm; cases hm
end Go.Proofs.YtifcgimpgbeocaaGreat
/- Common ground of the walks over stores: small facts, what lies below, slices that read as lists. -/
set_option linter.unusedVariables false
set_option linter.unusedSimpArgs false
namespace Go.Proofs.YtifcgimpgbeocaaGreat
open Go.RowKit
theorem hid {p : Prop} (h : p) : Hid p := h
theorem ret_int {k : IntKind} {a b : Int} (h : a = b) : Ending.returned (.int k a) = .returned (.int k b) := by rw [h]
theorem ret_bool {a b : Bool} (h : a = b) : Ending.returned (.bool a) = .returned (.bool b) := by rw [h]
theorem addr_add (b off l : Nat) : (⟨b, off, none⟩ : Addr).add l = ⟨b, off + l, none⟩ := by
  unfold Addr.add; split
  · rename_i h; rw [h]; rfl
  · rfl
/-- What a call that only makes memory leaves: old cells read as before. -/
theorem bcell {W w1 : World} (hb : Below W.heap.size W w1) : (∀ b o, b < W.heap.size → w1.cell? ⟨b, o, none⟩ = W.cell? ⟨b, o, none⟩) ∧ (∀ b o, b < W.heap.size → w1.frozen? ⟨b, o, none⟩ = W.frozen? ⟨b, o, none⟩) :=
  ⟨fun b o h => hb.cell (p := ⟨b, o, none⟩) h, fun b o h => hb.frozen (p := ⟨b, o, none⟩) h⟩
theorem below_drewN {B : Nat} {a w : World} (h : Below B a w) (n : Nat) : Below B a (w.drewN n) := h.trans ⟨rfl, rfl, rfl, Nat.le_refl _, fun _ _ => rfl⟩
theorem below_grow {w w' : World} (h : Below w.heap.size w w') (row : Option Nat) : w.grownBy w' row := ⟨h.os, h.tape, h.output, h.size, fun k hk _ => h.block k hk⟩
theorem grown_trans {a b c : World} {row : Option Nat} (h : a.grownBy b row) (k : b.grownBy c row) : a.grownBy c row :=
  ⟨k.os.trans h.os, k.tape.trans h.tape, k.output.trans h.output, Nat.le_trans h.size k.size, fun i hi hn => (k.block i (Nat.lt_of_lt_of_le hi h.size) hn).trans (h.block i hi hn)⟩
/-- One more call that only makes memory. -/
theorem below_step {W w w1 : World} (k : Below w.heap.size w w1) (h : Below W.heap.size W w) : Below W.heap.size W w1 := h.trans (k.mono h.size)
/-- A cell that was there is there. -/
theorem keepc {W w1 : World} {a : Addr} {v : Value} (h : Below W.heap.size W w1) (k : W.cell? a = some v) : w1.cell? a = some v := (h.cell (World.block_lt_of_cell? W a k)).trans k
theorem keepf {W w1 : World} {a : Addr} {v : Value} (h : Below W.heap.size W w1) (k : W.cell? a = some v) (f : W.frozen? a = false) : w1.frozen? a = false := (h.frozen (World.block_lt_of_cell? W a k)).trans f
theorem below_drew {B : Nat} {a w : World} (h : Below B a w) : Below B a w.drew := h.drew
theorem grown_refl (w : World) (row : Option Nat) : w.grownBy w row := ⟨rfl, rfl, rfl, Nat.le_refl _, fun _ _ _ => rfl⟩
theorem grown_set {a w : World} {b : Nat} (h : a.grownBy w (some b)) (i : Nat) (v : Value) : a.grownBy (w.setCell ⟨b, i, none⟩ v) (some b) :=
  grown_trans h ⟨rfl, rfl, rfl, by simp [World.setCell], fun k _ hn => Below.heap_setCell _ _ _ _ (fun e => hn (by rw [e]))⟩
/-- A cell that a region may store into. -/
def OwnC (w : World) (a : Addr) : Prop := (∃ v, w.cell? a = some v) ∧ w.frozen? a = false
theorem keepOwn {w w1 : World} {a : Addr} (hb : Below w.heap.size w w1) (h : OwnC w a) : OwnC w1 a := by
  obtain ⟨⟨v, hv⟩, hf⟩ := h
  exact ⟨⟨v, keepc hb hv⟩, keepf hb hv hf⟩
theorem OwnC.set {w : World} {a : Addr} (h : OwnC w a) (b : Addr) (v : Value) : OwnC (w.setCell b v) a := by
  obtain ⟨⟨u, hu⟩, hf⟩ := h
  exact ⟨cell?_setCell_some hu, by rw [World.frozen?_setCell]; exact hf⟩
theorem ownc_new (w : World) (c : Array Value) (t : TypeId) (k : Nat) (h : k < c.size) : OwnC (w.alloc (.cells c t)) ⟨w.heap.size, k, none⟩ := by
  have hn := heap_alloc_new w (.cells c t)
  refine ⟨⟨c[k], ?_⟩, ?_⟩
  · unfold World.cell?; rw [hn]; simp [h]
  · unfold World.frozen?; rw [hn]; simp
theorem cell_new (w : World) (c : Array Value) (t : TypeId) (k : Nat) (v : Value) (h : c[k]? = some v) : (w.alloc (.cells c t)).cell? ⟨w.heap.size, k, none⟩ = some v := by
  have hn := heap_alloc_new w (.cells c t)
  unfold World.cell?
  rw [hn]
  simpa using h
/-- A cell, and what lay below, behind the turn of the block for the rounds' deferred calls. -/
theorem cell_put {W : World} {D : Nat} {o o' : Obj} {a : Addr} {v : Value} (hD : W.heap[D]? = some o) (ho : o.isCells = false) (h : W.cell? a = some v) : (W.putObj D o').cell? a = some v :=
  cell_kept h (grownBy_putObj' W D o') (fun r e => by cases e; exact ⟨o, hD, ho⟩)
theorem below_put {B : Nat} {w W : World} {D : Nat} (h : Below B w W) (hD : B ≤ D) (o' : Obj) : Below B w (W.putObj D o') :=
  h.trans ⟨rfl, rfl, rfl, by simp, fun k hk => World.putObj_heap_other (by omega)⟩

/-- A call that returns v and turns nothing that was there. -/
def Ret (v : Value) (w : World) (e : Ending) (w' : World) : Prop := e = .returned v ∧ Below w.heap.size w w'
abbrev strV (s : Bs) : Value := .string ⟨s.toArray⟩
abbrev recV (r : Rec) : Value := .agg #[strV r.1, strV r.2]
abbrev opV (o : FOp) : Value := .agg #[.int .i64 o.1, .int .i64 o.2.1, strV o.2.2.1, strV o.2.2.2]
abbrev wtV (w : Wt) : Value := .agg #[.int .i64 w.1, strV w.2]
abbrev acV (a : Ac) : Value := .agg #[.bool a.1, .int .i64 a.2.1, strV a.2.2]
/-- v reads as records. -/
def RdR (w : World) (v : Value) (d : Ds) : Prop := ∃ o cap, v = .slice o d.length cap ∧ d.length ≤ cap ∧ (d = [] ∨ ∃ b off, o = some ⟨b, off, none⟩ ∧ b < w.heap.size ∧ ∀ i r, d[i]? = some r → w.cell? ⟨b, off + i * 2, none⟩ = some (strV r.1) ∧ w.cell? ⟨b, off + i * 2 + 1, none⟩ = some (strV r.2))
/-- v reads as operations. -/
def RdO (w : World) (v : Value) (l : List FOp) : Prop := ∃ o cap, v = .slice o l.length cap ∧ l.length ≤ cap ∧ (l = [] ∨ ∃ b off, o = some ⟨b, off, none⟩ ∧ b < w.heap.size ∧ ∀ i x, l[i]? = some x → w.cell? ⟨b, off + i * 4, none⟩ = some (.int .i64 x.1) ∧ w.cell? ⟨b, off + i * 4 + 1, none⟩ = some (.int .i64 x.2.1) ∧ w.cell? ⟨b, off + i * 4 + 2, none⟩ = some (strV x.2.2.1) ∧ w.cell? ⟨b, off + i * 4 + 3, none⟩ = some (strV x.2.2.2))
/-- v reads as strings. -/
def RdS (w : World) (v : Value) (l : List Bs) : Prop := ∃ o cap, v = .slice o l.length cap ∧ l.length ≤ cap ∧ (l = [] ∨ ∃ b off, o = some ⟨b, off, none⟩ ∧ b < w.heap.size ∧ ∀ i s, l[i]? = some s → w.cell? ⟨b, off + i, none⟩ = some (strV s))
/-- v reads as writes. -/
def RdW (w : World) (v : Value) (l : List Wt) : Prop := ∃ o cap, v = .slice o l.length cap ∧ l.length ≤ cap ∧ (l = [] ∨ ∃ b off, o = some ⟨b, off, none⟩ ∧ b < w.heap.size ∧ ∀ i x, l[i]? = some x → w.cell? ⟨b, off + i * 2, none⟩ = some (.int .i64 x.1) ∧ w.cell? ⟨b, off + i * 2 + 1, none⟩ = some (strV x.2))
/-- v reads as acts. -/
def RdA (w : World) (v : Value) (l : List Ac) : Prop := ∃ o cap, v = .slice o l.length cap ∧ l.length ≤ cap ∧ (l = [] ∨ ∃ b off, o = some ⟨b, off, none⟩ ∧ b < w.heap.size ∧ ∀ i x, l[i]? = some x → w.cell? ⟨b, off + i * 3, none⟩ = some (.bool x.1) ∧ w.cell? ⟨b, off + i * 3 + 1, none⟩ = some (.int .i64 x.2.1) ∧ w.cell? ⟨b, off + i * 3 + 2, none⟩ = some (strV x.2.2))
/-- v reads as numbers. -/
def RdI (w : World) (v : Value) (l : List Int) : Prop := ∃ o cap, v = .slice o l.length cap ∧ l.length ≤ cap ∧ (l = [] ∨ ∃ b off, o = some ⟨b, off, none⟩ ∧ b < w.heap.size ∧ ∀ i x, l[i]? = some x → w.cell? ⟨b, off + i, none⟩ = some (.int .i64 x))
/-- v reads as datasets. -/
def RdD (w : World) (v : Value) (l : List Ds) : Prop := ∃ o cap, v = .slice o l.length cap ∧ l.length ≤ cap ∧ (l = [] ∨ ∃ b off, o = some ⟨b, off, none⟩ ∧ b < w.heap.size ∧ ∀ i d, l[i]? = some d → ∃ u, w.cell? ⟨b, off + i, none⟩ = some u ∧ RdR w u d)
theorem cell_below {w w' : World} {b k : Nat} {v : Value} (hb : Below w.heap.size w w') (h : w.cell? ⟨b, k, none⟩ = some v) : w'.cell? ⟨b, k, none⟩ = some v := keepc hb h
theorem RdR.below {w w' : World} {v : Value} {d : Ds} (h : RdR w v d) (hb : Below w.heap.size w w') : RdR w' v d := by
  obtain ⟨o, cap, e, hc, h⟩ := h
  refine ⟨o, cap, e, hc, ?_⟩
  rcases h with h | ⟨b, off, e1, e2, h⟩
  · exact .inl h
  · exact .inr ⟨b, off, e1, Nat.lt_of_lt_of_le e2 hb.size, fun i r hi => ⟨keepc hb (h i r hi).1, keepc hb (h i r hi).2⟩⟩
theorem RdO.below {w w' : World} {v : Value} {d : List FOp} (h : RdO w v d) (hb : Below w.heap.size w w') : RdO w' v d := by
  obtain ⟨o, cap, e, hc, h⟩ := h
  refine ⟨o, cap, e, hc, ?_⟩
  rcases h with h | ⟨b, off, e1, e2, h⟩
  · exact .inl h
  · exact .inr ⟨b, off, e1, Nat.lt_of_lt_of_le e2 hb.size, fun i r hi => ⟨keepc hb (h i r hi).1, keepc hb (h i r hi).2.1, keepc hb (h i r hi).2.2.1, keepc hb (h i r hi).2.2.2⟩⟩
theorem RdS.below {w w' : World} {v : Value} {d : List Bs} (h : RdS w v d) (hb : Below w.heap.size w w') : RdS w' v d := by
  obtain ⟨o, cap, e, hc, h⟩ := h
  refine ⟨o, cap, e, hc, ?_⟩
  rcases h with h | ⟨b, off, e1, e2, h⟩
  · exact .inl h
  · exact .inr ⟨b, off, e1, Nat.lt_of_lt_of_le e2 hb.size, fun i r hi => keepc hb (h i r hi)⟩
theorem RdI.below {w w' : World} {v : Value} {d : List Int} (h : RdI w v d) (hb : Below w.heap.size w w') : RdI w' v d := by
  obtain ⟨o, cap, e, hc, h⟩ := h
  refine ⟨o, cap, e, hc, ?_⟩
  rcases h with h | ⟨b, off, e1, e2, h⟩
  · exact .inl h
  · exact .inr ⟨b, off, e1, Nat.lt_of_lt_of_le e2 hb.size, fun i r hi => keepc hb (h i r hi)⟩
theorem RdW.below {w w' : World} {v : Value} {d : List Wt} (h : RdW w v d) (hb : Below w.heap.size w w') : RdW w' v d := by
  obtain ⟨o, cap, e, hc, h⟩ := h
  refine ⟨o, cap, e, hc, ?_⟩
  rcases h with h | ⟨b, off, e1, e2, h⟩
  · exact .inl h
  · exact .inr ⟨b, off, e1, Nat.lt_of_lt_of_le e2 hb.size, fun i r hi => ⟨keepc hb (h i r hi).1, keepc hb (h i r hi).2⟩⟩
theorem RdA.below {w w' : World} {v : Value} {d : List Ac} (h : RdA w v d) (hb : Below w.heap.size w w') : RdA w' v d := by
  obtain ⟨o, cap, e, hc, h⟩ := h
  refine ⟨o, cap, e, hc, ?_⟩
  rcases h with h | ⟨b, off, e1, e2, h⟩
  · exact .inl h
  · exact .inr ⟨b, off, e1, Nat.lt_of_lt_of_le e2 hb.size, fun i r hi => ⟨keepc hb (h i r hi).1, keepc hb (h i r hi).2.1, keepc hb (h i r hi).2.2⟩⟩
theorem RdD.below {w w' : World} {v : Value} {d : List Ds} (h : RdD w v d) (hb : Below w.heap.size w w') : RdD w' v d := by
  obtain ⟨o, cap, e, hc, h⟩ := h
  refine ⟨o, cap, e, hc, ?_⟩
  rcases h with h | ⟨b, off, e1, e2, h⟩
  · exact .inl h
  · exact .inr ⟨b, off, e1, Nat.lt_of_lt_of_le e2 hb.size, fun i r hi => by obtain ⟨u, h1, h2⟩ := h i r hi; exact ⟨u, keepc hb h1, h2.below hb⟩⟩
end Go.Proofs.YtifcgimpgbeocaaGreat
