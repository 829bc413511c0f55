/- Plain: what Commit answers, case by case; the operations that a snapshot lays down, one dataset more, one record more. -/
import Derived.Test.YtifcgimpgbeocaaK1
import Derived.Shelf.Strings.Builder1
import Derived.Shelf.Strings.Builder2
import Derived.Shelf.Strings.BuilderF
import Derived.Shelf.Strings.BuilderK
import Derived.Shelf.Strings.Builder2Cap
import Derived.Shelf.Strings.Prefix
import Derived.Shelf.Bits.Mul64
import Derived.Shelf.Strings.Repeat
import Derived.Shelf.Strings.BuilderCap
import Derived.Test.YtifcgimpgbeocaaProg
import Derived.WalkKit
import Derived.WalkSpells
import Derived.WalkLawsBesides
import Derived.Deep.QuietTactic
import Derived.BigQuiet
import Derived.Deep.RegionHeld3
import Derived.Deep.DrawnRows
import Derived.OrdersIn
import Derived.TacticsIn
import Derived.RangeFuncCalls
import Derived.Laws.CopyRow
import Derived.Laws.MakeOwn
import Derived.Laws.OwnMore
import Derived.Laws.BytesArg
import Derived.RangeFuncFrom
import Derived.RangeFuncLeaves
import Derived.Outline
import Derived.Deep.CutBlock
import Derived.Deep.DeepCutAuto
import Derived.Deep.RegionWith
import Derived.StillTailTactics
set_option linter.unusedVariables false
set_option linter.unusedSimpArgs false
namespace Go.Proofs.Ytifcgimpgbeocaa
open Go.RowKit
theorem commitD_nil {st : St} (h : st.ops = []) : commitD st = (st, 0) := by unfold commitD; rw [if_pos h]
theorem commitD_full {st : St} (h : st.ops ≠ []) (ht : st.hd.1 ≠ 4294967295) (hr : room st < (nBytes st).length) : commitD st = (st, 144) := by unfold commitD; rw [if_neg h, if_neg ht, if_pos hr]
theorem commitD_ok {st : St} (h : st.ops ≠ []) (ht : st.hd.1 ≠ 4294967295) (hr : ¬ room st < (nBytes st).length) : commitD st = (commitSt st, 0) := by unfold commitD; rw [if_neg h, if_neg ht, if_neg hr]
def wrO (i : Nat) (x : Rec) : FOp := ((3 : Int), (i : Int), x.1, x.2)
theorem snap_app : ∀ (l m : List Ds) (k : Nat), snap k (l ++ m) = snap k l ++ snap (k + l.length) m
  | [], m, k => by simp [snap]
  | d :: l, m, k => by
    simp only [List.cons_append, snap, List.length_cons]
    rw [snap_app l m (k + 1), show k + 1 + l.length = k + (l.length + 1) by omega, List.append_assoc]
theorem snap_succ {now : List Ds} {k : Nat} {d : Ds} (h : now[k]? = some d) : snap 0 (now.take (k + 1)) = snap 0 (now.take k) ++ d.map (wrO k) := by
  obtain ⟨hk, rfl⟩ := List.getElem?_eq_some_iff.1 h
  rw [List.take_succ_eq_append_getElem hk, snap_app]
  have : (now.take k).length = k := by simp; omega
  rw [this, Nat.zero_add]
  simp only [snap, List.append_nil]
  rfl
theorem wr_succ {d : Ds} {j k : Nat} {r : Rec} (h : d[j]? = some r) (p : List FOp) : p ++ (d.take (j + 1)).map (wrO k) = (p ++ (d.take j).map (wrO k)) ++ [((3 : Int), (k : Int), r.1, r.2)] := by
  obtain ⟨hk, rfl⟩ := List.getElem?_eq_some_iff.1 h
  rw [List.take_succ_eq_append_getElem hk, List.map_append, List.append_assoc]
  rfl
theorem snap_len : ∀ (l : List Ds) (k : Nat), (∀ d ∈ l, d.length ≤ 64) → (snap k l).length ≤ l.length * 64
  | [], k, _ => by simp [snap]
  | d :: l, k, h => by
    simp only [snap, List.length_append, List.length_map, List.length_cons]
    have := snap_len l (k + 1) (fun x hx => h x (List.mem_cons_of_mem _ hx))
    have := h d (List.mem_cons_self ..)
    omega
theorem chg_bd {o : FOp} (h : chg o = true) : o.2.2.1.length ≤ 255 ∧ o.2.2.2.length ≤ 255 := by
  obtain ⟨-, -, ⟨-, h1⟩, h2⟩ := chg_parts h
  exact ⟨by omega, by omega⟩
theorem live_turn {st : St} (h : Live st) : st.hd.1 ≠ 4294967295 := by have := h.as_.turn; omega
end Go.Proofs.Ytifcgimpgbeocaa
/- Plain: the head that Open picks, page by page; operations carried out one by one. -/
set_option linter.unusedVariables false
set_option linter.unusedSimpArgs false
namespace Go.Proofs.Ytifcgimpgbeocaa
open Go.RowKit
def pick1 (cur : Hd) (x : Option Hd) : Hd := match x with
  | some b => if cur.1 < b.1 then b else cur
  | none => cur
def stepH (d : Dk) : Nat → Hd
  | 0 => (0, 0, 0, 0)
  | k + 1 => pick1 (stepH d k) (readHd d k)
theorem readHd_ok {d : Dk} {p : Nat} (h : headOk (wrt d p) p (halfN d.1.length) = true) : readHd d p = some (headOf (wrt d p)) := by unfold readHd; rw [if_pos h]
theorem readHd_no {d : Dk} {p : Nat} (h : headOk (wrt d p) p (halfN d.1.length) = false) : readHd d p = none := by unfold readHd; rw [h]; rfl
theorem readHd_parts {d : Dk} {p : Nat} {h : Hd} (e : readHd d p = some h) : 1 ≤ h.1 ∧ h.2.1 ≤ 1 ∧ 1 ≤ h.2.2.1 ∧ h.2.2.1 ≤ 8 ∧ h.2.2.2 ≤ 64 * halfN d.1.length := by
  unfold readHd at e
  split at e
  · rename_i ho
    obtain ⟨-, h2⟩ := headOk_ends ho
    simp only [Option.some.injEq] at e
    rw [e] at h2
    obtain ⟨a, -, b, c, f, g⟩ := hdOk_parts h2
    exact ⟨a, b, c, f, g⟩
  · cases e
theorem best_step {d : Dk} : (bestHd d = none ∧ (stepH d 2).1 = 0) ∨ (bestHd d = some (stepH d 2) ∧ 1 ≤ (stepH d 2).1 ∧ (stepH d 2).2.1 ≤ 1 ∧ 1 ≤ (stepH d 2).2.2.1 ∧ (stepH d 2).2.2.1 ≤ 8 ∧ (stepH d 2).2.2.2 ≤ 64 * halfN d.1.length) := by
  have e : stepH d 2 = pick1 (pick1 (0, 0, 0, 0) (readHd d 0)) (readHd d 1) := rfl
  rw [e]
  unfold bestHd
  cases h0 : readHd d 0 with
  | none =>
    cases h1 : readHd d 1 with
    | none => exact .inl ⟨rfl, rfl⟩
    | some b =>
      right
      have hb := readHd_parts h1
      have : pick1 (pick1 (0, 0, 0, 0) none) (some b) = b := by
        show (if 0 < b.1 then b else _) = b
        rw [if_pos (by omega)]
      rw [this]
      exact ⟨rfl, hb⟩
  | some a =>
    have ha := readHd_parts h0
    have e0 : pick1 (0, 0, 0, 0) (some a) = a := by
      show (if 0 < a.1 then a else _) = a
      rw [if_pos (by omega)]
    rw [e0]
    cases h1 : readHd d 1 with
    | none => exact .inr ⟨rfl, ha⟩
    | some b =>
      right
      have hb := readHd_parts h1
      show (if a.1 < b.1 then some b else some a) = some (if a.1 < b.1 then b else a) ∧ _
      show _ ∧ 1 ≤ (if a.1 < b.1 then b else a).1 ∧ (if a.1 < b.1 then b else a).2.1 ≤ 1 ∧ 1 ≤ (if a.1 < b.1 then b else a).2.2.1 ∧ (if a.1 < b.1 then b else a).2.2.1 ≤ 8 ∧ (if a.1 < b.1 then b else a).2.2.2 ≤ _
      split
      · exact ⟨rfl, hb⟩
      · exact ⟨rfl, ha⟩
theorem run_one {data e : List Ds} {l : List FOp} {k : Nat} {o : FOp} (h : runAll data (l.take k) = some e) (ho : l[k]? = some o) (he : (doData e o).2.2 = 0) : runAll data (l.take (k + 1)) = some (doData e o).1 := by
  rw [List.take_add_one, ho, runAll_append, h]
  simp [runAll, he]
theorem run_stop {data e : List Ds} {l : List FOp} {k : Nat} {o : FOp} (h : runAll data (l.take k) = some e) (ho : l[k]? = some o) (he : (doData e o).2.2 ≠ 0) : runAll data l = none := by
  obtain ⟨hk, rfl⟩ := List.getElem?_eq_some_iff.1 ho
  have : l = l.take k ++ l[k] :: l.drop (k + 1) := by simp
  rw [this, runAll_append]
  have e2 : runAll data ((l.take k ++ l[k] :: l.drop (k + 1)).take k) = runAll data (l.take k) := by rw [← this]
  rw [h]
  show runAll e (l[k] :: l.drop (k + 1)) = none
  rw [runAll, if_neg he]
theorem open_no {d : Dk} (h : isDk d = false) : openD d = (none, 142) := by unfold openD; rw [h]; rfl
theorem open_none {d : Dk} (h : isDk d = true) (hb : bestHd d = none) : openD d = (none, 143) := by unfold openD; rw [if_pos h, hb]
theorem open_undec {d : Dk} {h : Hd} (hd : isDk d = true) (hb : bestHd d = some h) (hc : decL (content d h.2.1 h.2.2.2) = none) : openD d = (none, 143) := by unfold openD; rw [if_pos hd, hb]; simp only; rw [hc]
theorem open_norun {d : Dk} {h : Hd} {ops : List FOp} (hd : isDk d = true) (hb : bestHd d = some h) (hc : decL (content d h.2.1 h.2.2.2) = some ops) (hr : runAll (empties h.2.2.1) ops = none) : openD d = (none, 143) := by
  unfold openD; rw [if_pos hd, hb]; simp only; rw [hc]; simp only; rw [hr]
theorem open_ok {d : Dk} {h : Hd} {ops : List FOp} {data : List Ds} (hd : isDk d = true) (hb : bestHd d = some h) (hc : decL (content d h.2.1 h.2.2.2) = some ops) (hr : runAll (empties h.2.2.1) ops = some data) : openD d = (some ⟨d, h, content d h.2.1 h.2.2.2, [], data, data, []⟩, 0) := by
  unfold openD; rw [if_pos hd, hb]; simp only; rw [hc]; simp only; rw [hr]
end Go.Proofs.Ytifcgimpgbeocaa
/- Plain: a new disk; the examples that the laws begin with. -/
set_option linter.unusedVariables false
set_option linter.unusedSimpArgs false
namespace Go.Proofs.Ytifcgimpgbeocaa
open Go.RowKit
theorem createD_ok {n f : Int} (hn : 4 ≤ n ∧ n ≤ 4096) (hf : 1 ≤ f ∧ f ≤ 8) : createD n f = (((List.replicate n.toNat (zs 64)).set 1 (headPg (1, 0, f.toNat, 0)), []), 0) := by unfold createD; rw [if_pos ⟨hn, hf⟩]
theorem create_as {n f : Nat} (hn : 4 ≤ n ∧ n ≤ 4096) (hf : 1 ≤ f ∧ f ≤ 8) : OpenAs ((List.replicate n (zs 64)).set 1 (headPg (1, 0, f, 0)), []) (1, 0, f, 0) [] (empties f) := by
  refine ⟨isDk_mk (by simp; omega) (by simp; omega) ?_ (fun w hw => by cases hw), rfl, hdOk_mk ⟨Nat.le_refl _, rfl, by simp, hf.1, hf.2, by simp⟩, by simp, ?_, ⟨zs 64, ?_, torn_start⟩, rfl, ?_, ⟨[], rfl, rfl⟩⟩
  · intro s hs
    rcases List.mem_or_eq_of_mem_set hs with h | h
    · rw [(List.mem_replicate.1 h).2, zs_len]
    · rw [h, headPg_len]
  · show ((List.replicate n (zs 64)).set 1 (headPg (1, 0, f, 0)))[1 % 2]? = some (headPg (1, 0, f, 0))
    rw [show 1 % 2 = 1 from rfl]
    rw [List.getElem?_set_self (by simp; omega)]
  · show ((List.replicate n (zs 64)).set 1 (headPg (1, 0, f, 0)))[(1 + 1) % 2]? = some (zs 64)
    rw [show (1 + 1) % 2 = 0 from rfl]
    rw [List.getElem?_set_ne (by omega), List.getElem?_replicate, if_pos (by omega)]
  · unfold content
    exact List.take_zero
theorem create_open {n f : Int} (hn : 4 ≤ n ∧ n ≤ 4096) (hf : 1 ≤ f ∧ f ≤ 8) : OpenAs (createD n f).1 (1, 0, f.toNat, 0) [] (empties f.toNat) := by
  rw [createD_ok hn hf]
  exact create_as (by omega) (by omega)
/-! ### The examples -/
def sD : Ds := [([65], [111, 110, 101]), ([67], [116, 119, 111])]
theorem sD_is : isDs sD = true := by decide +kernel
theorem sD_read : readD sD [65] = ([111, 110, 101], 0) := by decide +kernel
theorem sD_next : nextD sD [65] = (([67], [116, 119, 111]), 0) := by decide +kernel
theorem sD_write : writeD sD ([65], [120]) = ([], 141) := by decide +kernel
def sDk : Dk := ((List.replicate 6 (zs 64)).set 1 (headPg (1, 0, 2, 0)), [])
theorem sCreate : createD 6 2 = (sDk, 0) := createD_ok (by omega) (by omega)
def sSt0 : St := ⟨sDk, (1, 0, 2, 0), [], [], [[], []], [[], []], []⟩
theorem sOpenAs : OpenAs sDk (1, 0, 2, 0) [] [[], []] := create_as (n := 6) (f := 2) (by omega) (by omega)
theorem sOpen : openD sDk = (some sSt0, 0) := open_as sOpenAs
def sOp : FOp := (3, 1, [65], [104, 105])
def sSt1 : St := ⟨sDk, (1, 0, 2, 0), [], [sOp], [[], [([65], [104, 105])]], [[], []], []⟩
theorem sDo : doSt sSt0 sOp = (sSt1, ([], []), 0) := by
  have h : doData [[], []] sOp = ([[], [([65], [104, 105])]], ([], []), 0) := by decide +kernel
  have hc : chg sOp = true := by decide +kernel
  unfold doSt
  show (if (doData [[], []] sOp).2.2 = 0 then _ else _) = _
  rw [show sSt0.now = [[], []] from rfl, h, if_pos rfl, if_pos hc]
  rfl
theorem sLive : Live sSt1 := by
  have h := do_live (live_open sOpenAs) sOp
  have e : (⟨sDk, (1, 0, 2, 0), [], [], [[], []], [[], []], []⟩ : St) = sSt0 := rfl
  rw [e, sDo] at h
  exact h
theorem sCommit : (commitD sSt1).2 = 0 := by decide +kernel
theorem sActs : ∃ q p1 q1 s2 q2 p3 q3, (commitD sSt1).1.acts = [(false, 2, q), (true, p1, q1), (s2, 0, q2), (true, p3, q3)] ∧ q.length = 64 ∧ q.take 8 = [3, 1, 1, 65, 2, 104, 105, 0] := by
  have h : (commitD sSt1).1.acts = [(false, 2, pageOf (encL [sOp]) 0), (true, 0, []), (false, 0, headPg (2, 0, 2, 7)), (true, 0, [])] := by decide +kernel
  exact ⟨_, _, _, _, _, _, _, h, by decide +kernel, by decide +kernel⟩
theorem sPage : ((sDk.1[1]?).getD []).length = 64 ∧ ((sDk.1[1]?).getD []).take 8 = [0, 0, 0, 1, 0, 2, 0, 0] := by decide +kernel
theorem sDecode : decodeD [5, 0, 1] = ([], 145) := by
  decide +kernel
end Go.Proofs.Ytifcgimpgbeocaa
/- Contracts of the library at this program, laid by the kit's tool. -/
namespace Go.Proofs
open Go.Shelf
def Try.lays170_ren : Go.Shelf.Ren := ⟨fun | 170 => 137 | n => n, fun | 70 => 167 | 3 => 3 | 0 => 0 | 72 => 169 | 37 => 164 | 5 => 5 | n => n, fun | n => n⟩
theorem Try.lays170 : Go.Proofs.Lays.n170 Try.prog Try.lays170_ren := {
  mixed := by kernel_rfl
  f170 := Try.func137.trans (congrArg some (by kernel_rfl))
  t0 := Try.underlying0
  a0 := Try.isAgg0
  z0 := Try.sizeOf0
  v0 := Try.zeroValue0
  t3 := Try.underlying3
  a3 := Try.isAgg3
  z3 := Try.sizeOf3
  v3 := Try.zeroValue3
  t37 := Try.underlying164
  a37 := Try.isAgg164
  z37 := Try.sizeOf164
  v37 := Try.zeroValue164
  t70 := Try.underlying167
  a70 := Try.isAgg167
  z70 := Try.sizeOf167
  v70 := Try.zeroValue167
  t72 := Try.underlying169
  a72 := Try.isAgg169
  z72 := Try.sizeOf169
  v72 := Try.zeroValue169 }
open Go.RowKit in
theorem Try.Builder_Len (B b : Nat) (bs : List Value) (w : World) (h : Lib.IsBuilder 169 5 B b bs w) :
    Calls Try.prog 137 #[.pointer (some ⟨b, 0, none⟩)] w fun e w' => e = .returned (.int .i64 bs.length) ∧ w' = w := Any.Builder_Len Try.lays170 B b bs w h
def Try.lays169_ren : Go.Shelf.Ren := ⟨fun | 169 => 124 | n => n, fun | 70 => 167 | 9 => 9 | 0 => 0 | 72 => 169 | 37 => 164 | 127 => 192 | 3 => 3 | 5 => 5 | n => n, fun | n => n⟩
theorem Try.lays169 : Go.Proofs.Lays.n169 Try.prog Try.lays169_ren := {
  mixed := by kernel_rfl
  f169 := Try.func124.trans (congrArg some (by kernel_rfl))
  t0 := Try.underlying0
  a0 := Try.isAgg0
  z0 := Try.sizeOf0
  v0 := Try.zeroValue0
  t3 := Try.underlying3
  a3 := Try.isAgg3
  z3 := Try.sizeOf3
  v3 := Try.zeroValue3
  t9 := Try.underlying9
  a9 := Try.isAgg9
  z9 := Try.sizeOf9
  v9 := Try.zeroValue9
  t37 := Try.underlying164
  a37 := Try.isAgg164
  z37 := Try.sizeOf164
  v37 := Try.zeroValue164
  t70 := Try.underlying167
  a70 := Try.isAgg167
  z70 := Try.sizeOf167
  v70 := Try.zeroValue167
  t72 := Try.underlying169
  a72 := Try.isAgg169
  z72 := Try.sizeOf169
  v72 := Try.zeroValue169
  t127 := Try.underlying192
  a127 := Try.isAgg192
  z127 := Try.sizeOf192
  v127 := Try.zeroValue192 }
theorem Try.Builder_Extra_169 : Builder.Extra Try.prog Try.lays169_ren := {
  sizeBuilder := by kernel_rfl
  liesBuilder := by kernel_rfl
  t5 := Try.underlying5
  a5 := Try.isAgg5
  z5 := Try.sizeOf5
  v5 := Try.zeroValue5
  infoByte := by kernel_rfl
  cellsByte := by kernel_rfl
  sizeByte := by kernel_rfl
  neB5 := by decide }
open Go.RowKit in
theorem Try.Builder_String (B b : Nat) (l : List UInt8) (w : World) (h : Lib.IsBuilder 169 5 B b (Lib.byteCells l) w) (h0 : l ≠ []) :
    Calls Try.prog 124 #[.pointer (some ⟨b, 0, none⟩)] w fun e w' => e = .returned (.string ⟨l.toArray⟩) ∧ Below B w w' := Any.Builder_String Try.lays169 Try.Builder_Extra_169 B b l w h h0
open Go.RowKit in
theorem Try.Builder_String_empty (B b : Nat) (w : World) (h : Lib.IsBuilder 169 5 B b [] w) (hBw : B ≤ w.heap.size) :
    Calls Try.prog 124 #[.pointer (some ⟨b, 0, none⟩)] w fun e w' => e = .returned (.string ⟨#[]⟩) ∧ Below B w w' := Any.Builder_String_empty Try.lays169 Try.Builder_Extra_169 B b w h hBw
open Go.RowKit in
theorem Try.Builder_String_any (B b : Nat) (l : List UInt8) (w : World) (h : Lib.IsBuilder 169 5 B b (Lib.byteCells l) w) (hBw : B ≤ w.heap.size) :
    Calls Try.prog 124 #[.pointer (some ⟨b, 0, none⟩)] w fun e w' => e = .returned (.string ⟨l.toArray⟩) ∧ Below B w w' := Any.Builder_String_any Try.lays169 Try.Builder_Extra_169 B b l w h hBw
def Try.lays241_ren : Go.Shelf.Ren := ⟨fun | 241 => 147 | 277 => 151 | n => n, fun | 70 => 167 | 3 => 3 | 0 => 0 | 72 => 169 | 37 => 164 | 5 => 5 | n => n, fun | n => n⟩
theorem Try.lays241 : Go.Proofs.Lays.n241 Try.prog Try.lays241_ren := {
  mixed := by kernel_rfl
  f241 := Try.func147.trans (congrArg some (by kernel_rfl))
  f277 := Try.func151.trans (congrArg some (by kernel_rfl))
  t0 := Try.underlying0
  a0 := Try.isAgg0
  z0 := Try.sizeOf0
  v0 := Try.zeroValue0
  t3 := Try.underlying3
  a3 := Try.isAgg3
  z3 := Try.sizeOf3
  v3 := Try.zeroValue3
  t37 := Try.underlying164
  a37 := Try.isAgg164
  z37 := Try.sizeOf164
  v37 := Try.zeroValue164
  t70 := Try.underlying167
  a70 := Try.isAgg167
  z70 := Try.sizeOf167
  v70 := Try.zeroValue167
  t72 := Try.underlying169
  a72 := Try.isAgg169
  z72 := Try.sizeOf169
  v72 := Try.zeroValue169 }
theorem Try.Builder_Extra_241 : Builder.Extra Try.prog Try.lays241_ren := {
  sizeBuilder := by kernel_rfl
  liesBuilder := by kernel_rfl
  t5 := Try.underlying5
  a5 := Try.isAgg5
  z5 := Try.sizeOf5
  v5 := Try.zeroValue5
  infoByte := by kernel_rfl
  cellsByte := by kernel_rfl
  sizeByte := by kernel_rfl
  neB5 := by decide }
open Go.RowKit in
theorem Try.Builder_grow_fresh (B b n : Nat) (w : World) (hB : B ≤ b) (hbk : w.heap[b]? = some (.cells #[.pointer (some ⟨b, 0, none⟩), .slice none 0 0] 169 (0, 0))) (hBw : B ≤ w.heap.size) (hn : n ≤ 281474976710656) :
    Calls Try.prog 147 #[.pointer (some ⟨b, 0, none⟩), .int .i64 n] w fun e w' => e = .returned (.tuple #[]) ∧ (Lib.BuilderAt 169 5 B b (.pointer (some ⟨b, 0, none⟩)) [] w' ∧ Below B w w') := Any.Builder_grow_fresh Try.lays241 Try.Builder_Extra_241 B b n w hB hbk hBw hn
def Try.lays165_ren : Go.Shelf.Ren := ⟨fun | 165 => 136 | 240 => 142 | 241 => 147 | 276 => 149 | 277 => 151 | n => n, fun | 70 => 167 | 3 => 3 | 0 => 0 | 4 => 4 | 9 => 9 | 20 => 20 | 72 => 169 | 37 => 164 | 164 => 200 | 5 => 5 | n => n, fun | n => n⟩
theorem Try.lays165 : Go.Proofs.Lays.n165 Try.prog Try.lays165_ren := {
  mixed := by kernel_rfl
  f165 := Try.func136.trans (congrArg some (by kernel_rfl))
  f240 := Try.func142.trans (congrArg some (by kernel_rfl))
  f241 := Try.func147.trans (congrArg some (by kernel_rfl))
  f276 := Try.func149.trans (congrArg some (by kernel_rfl))
  f277 := Try.func151.trans (congrArg some (by kernel_rfl))
  t0 := Try.underlying0
  a0 := Try.isAgg0
  z0 := Try.sizeOf0
  v0 := Try.zeroValue0
  t3 := Try.underlying3
  a3 := Try.isAgg3
  z3 := Try.sizeOf3
  v3 := Try.zeroValue3
  t4 := Try.underlying4
  a4 := Try.isAgg4
  z4 := Try.sizeOf4
  v4 := Try.zeroValue4
  t9 := Try.underlying9
  a9 := Try.isAgg9
  z9 := Try.sizeOf9
  v9 := Try.zeroValue9
  t20 := Try.underlying20
  a20 := Try.isAgg20
  z20 := Try.sizeOf20
  v20 := Try.zeroValue20
  t37 := Try.underlying164
  a37 := Try.isAgg164
  z37 := Try.sizeOf164
  v37 := Try.zeroValue164
  t70 := Try.underlying167
  a70 := Try.isAgg167
  z70 := Try.sizeOf167
  v70 := Try.zeroValue167
  t72 := Try.underlying169
  a72 := Try.isAgg169
  z72 := Try.sizeOf169
  v72 := Try.zeroValue169
  t164 := Try.underlying200
  a164 := Try.isAgg200
  z164 := Try.sizeOf200
  v164 := Try.zeroValue200 }
theorem Try.Builder_Extra_165 : Builder.Extra Try.prog Try.lays165_ren := {
  sizeBuilder := by kernel_rfl
  liesBuilder := by kernel_rfl
  t5 := Try.underlying5
  a5 := Try.isAgg5
  z5 := Try.sizeOf5
  v5 := Try.zeroValue5
  infoByte := by kernel_rfl
  cellsByte := by kernel_rfl
  sizeByte := by kernel_rfl
  neB5 := by decide }
open Go.RowKit in
theorem Try.Builder_Grow_fresh (B b n : Nat) (w : World) (hB : B ≤ b) (hbk : w.heap[b]? = some (.cells #[.pointer none, .slice none 0 0] 169 (0, 0))) (hBw : B ≤ w.heap.size) (hn : n ≤ 281474976710656) :
    Calls Try.prog 136 #[.pointer (some ⟨b, 0, none⟩), .int .i64 n] w fun e w' => e = .returned (.tuple #[]) ∧ (Lib.BuilderAt 169 5 B b (.pointer (some ⟨b, 0, none⟩)) [] w' ∧ Below B w w') := Any.Builder_Grow_fresh Try.lays165 Try.Builder_Extra_165 B b n w hB hbk hBw hn
open Go.RowKit in
theorem Try.Builder_Len_f (B b : Nat) (bs : List Value) (w : World) (h : Lib.IsBuilderF 169 5 B b bs w) :
    Calls Try.prog 137 #[.pointer (some ⟨b, 0, none⟩)] w fun e w' => e = .returned (.int .i64 bs.length) ∧ w' = w := Any.Builder_Len_f Try.lays170 B b bs w h
open Go.RowKit in
theorem Try.Builder_String_f (B b : Nat) (l : List UInt8) (w : World) (h : Lib.IsBuilderF 169 5 B b (Lib.byteCells l) w) (h0 : l ≠ []) :
    Calls Try.prog 124 #[.pointer (some ⟨b, 0, none⟩)] w fun e w' => e = .returned (.string ⟨l.toArray⟩) ∧ (Lib.IsBuilderF 169 5 B b (Lib.byteCells l) w' ∧ Below B w w') := Any.Builder_String_f Try.lays169 Try.Builder_Extra_169 B b l w h h0
open Go.RowKit in
theorem Try.Builder_String_empty_f (B b : Nat) (w : World) (h : Lib.IsBuilderF 169 5 B b [] w) (hBw : B ≤ w.heap.size) :
    Calls Try.prog 124 #[.pointer (some ⟨b, 0, none⟩)] w fun e w' => e = .returned (.string ⟨#[]⟩) ∧ (Lib.IsBuilderF 169 5 B b [] w' ∧ Below B w w') := Any.Builder_String_empty_f Try.lays169 Try.Builder_Extra_169 B b w h hBw
open Go.RowKit in
theorem Try.Builder_String_any_f (B b : Nat) (l : List UInt8) (w : World) (h : Lib.IsBuilderF 169 5 B b (Lib.byteCells l) w) (hBw : B ≤ w.heap.size) :
    Calls Try.prog 124 #[.pointer (some ⟨b, 0, none⟩)] w fun e w' => e = .returned (.string ⟨l.toArray⟩) ∧ (Lib.IsBuilderF 169 5 B b (Lib.byteCells l) w' ∧ Below B w w') := Any.Builder_String_any_f Try.lays169 Try.Builder_Extra_169 B b l w h hBw
open Go.RowKit in
theorem Try.Builder_String_k (B b : Nat) (l : List UInt8) (w : World) (h : Lib.IsBuilderF 169 5 B b (Lib.byteCells l) w) (h0 : l ≠ []) :
    Calls Try.prog 124 #[.pointer (some ⟨b, 0, none⟩)] w fun e w' => e = .returned (.string ⟨l.toArray⟩) ∧ (Lib.IsBuilderF 169 5 B b (Lib.byteCells l) w' ∧ Below B w w' ∧ Lib.OthersKept 5 (some b) w w') := Any.Builder_String_k Try.lays169 Try.Builder_Extra_169 B b l w h h0
open Go.RowKit in
theorem Try.Builder_String_empty_k (B b : Nat) (w : World) (h : Lib.IsBuilderF 169 5 B b [] w) (hBw : B ≤ w.heap.size) :
    Calls Try.prog 124 #[.pointer (some ⟨b, 0, none⟩)] w fun e w' => e = .returned (.string ⟨#[]⟩) ∧ (Lib.IsBuilderF 169 5 B b [] w' ∧ Below B w w' ∧ Lib.OthersKept 5 (some b) w w') := Any.Builder_String_empty_k Try.lays169 Try.Builder_Extra_169 B b w h hBw
open Go.RowKit in
theorem Try.Builder_String_any_k (B b : Nat) (l : List UInt8) (w : World) (h : Lib.IsBuilderF 169 5 B b (Lib.byteCells l) w) (hBw : B ≤ w.heap.size) :
    Calls Try.prog 124 #[.pointer (some ⟨b, 0, none⟩)] w fun e w' => e = .returned (.string ⟨l.toArray⟩) ∧ (Lib.IsBuilderF 169 5 B b (Lib.byteCells l) w' ∧ Below B w w' ∧ Lib.OthersKept 5 (some b) w w') := Any.Builder_String_any_k Try.lays169 Try.Builder_Extra_169 B b l w h hBw
open Go.RowKit in
theorem Try.Builder_grow_fresh_cap (B b n : Nat) (w : World) (hB : B ≤ b) (hbk : w.heap[b]? = some (.cells #[.pointer (some ⟨b, 0, none⟩), .slice none 0 0] 169 (0, 0))) (hBw : B ≤ w.heap.size) (hn : n ≤ 281474976710656) :
    Calls Try.prog 147 #[.pointer (some ⟨b, 0, none⟩), .int .i64 n] w fun e w' => e = .returned (.tuple #[]) ∧ (Lib.BuilderAt 169 5 B b (.pointer (some ⟨b, 0, none⟩)) [] w' ∧ Below B w w') ∧ ∃ p cap, w'.cell? ⟨b, 1, none⟩ = some (.slice p 0 cap) ∧ n ≤ cap := Any.Builder_grow_fresh_cap Try.lays241 Try.Builder_Extra_241 B b n w hB hbk hBw hn
open Go.RowKit in
theorem Try.Builder_Grow_fresh_cap (B b n : Nat) (w : World) (hB : B ≤ b) (hbk : w.heap[b]? = some (.cells #[.pointer none, .slice none 0 0] 169 (0, 0))) (hBw : B ≤ w.heap.size) (hn : n ≤ 281474976710656) :
    Calls Try.prog 136 #[.pointer (some ⟨b, 0, none⟩), .int .i64 n] w fun e w' => e = .returned (.tuple #[]) ∧ (Lib.BuilderAt 169 5 B b (.pointer (some ⟨b, 0, none⟩)) [] w' ∧ Below B w w') ∧ ∃ p cap, w'.cell? ⟨b, 1, none⟩ = some (.slice p 0 cap) ∧ n ≤ cap := Any.Builder_Grow_fresh_cap Try.lays165 Try.Builder_Extra_165 B b n w hB hbk hBw hn
def Try.lays206_ren : Go.Shelf.Ren := ⟨fun | 206 => 146 | n => n, fun | 9 => 9 | 4 => 4 | 3 => 3 | n => n, fun | n => n⟩
theorem Try.lays206 : Go.Proofs.Lays.n206 Try.prog Try.lays206_ren := {
  mixed := by kernel_rfl
  f206 := Try.func146.trans (congrArg some (by kernel_rfl))
  t3 := Try.underlying3
  a3 := Try.isAgg3
  z3 := Try.sizeOf3
  v3 := Try.zeroValue3
  t4 := Try.underlying4
  a4 := Try.isAgg4
  z4 := Try.sizeOf4
  v4 := Try.zeroValue4
  t9 := Try.underlying9
  a9 := Try.isAgg9
  z9 := Try.sizeOf9
  v9 := Try.zeroValue9 }
open Go.RowKit Go.Lib in
theorem Try.stringslite_HasPrefix (s p : ByteArray) (w : World) :
    Calls Try.prog 146 #[.string s, .string p] w fun e w' => e = .returned (.bool (Lib.hasPrefix s.data.toList p.data.toList)) ∧ w' = w := Any.stringslite_HasPrefix Try.lays206 s p w
def Try.lays99_ren : Go.Shelf.Ren := ⟨fun | 99 => 135 | 206 => 146 | n => n, fun | 9 => 9 | 4 => 4 | 3 => 3 | n => n, fun | n => n⟩
theorem Try.lays99 : Go.Proofs.Lays.n99 Try.prog Try.lays99_ren := {
  mixed := by kernel_rfl
  f99 := Try.func135.trans (congrArg some (by kernel_rfl))
  f206 := Try.func146.trans (congrArg some (by kernel_rfl))
  t3 := Try.underlying3
  a3 := Try.isAgg3
  z3 := Try.sizeOf3
  v3 := Try.zeroValue3
  t4 := Try.underlying4
  a4 := Try.isAgg4
  z4 := Try.sizeOf4
  v4 := Try.zeroValue4
  t9 := Try.underlying9
  a9 := Try.isAgg9
  z9 := Try.sizeOf9
  v9 := Try.zeroValue9 }
open Go.RowKit Go.Lib in
theorem Try.strings_HasPrefix (s p : ByteArray) (w : World) :
    Calls Try.prog 135 #[.string s, .string p] w fun e w' => e = .returned (.bool (Lib.hasPrefix s.data.toList p.data.toList)) ∧ w' = w := Any.strings_HasPrefix Try.lays99 s p w
def Try.lays264_ren : Go.Shelf.Ren := ⟨fun | 264 => 145 | n => n, fun | 53 => 196 | 46 => 47 | n => n, fun | n => n⟩
theorem Try.lays264 : Go.Proofs.Lays.n264 Try.prog Try.lays264_ren := {
  mixed := by kernel_rfl
  f264 := Try.func145.trans (congrArg some (by kernel_rfl))
  t46 := Try.underlying47
  a46 := Try.isAgg47
  z46 := Try.sizeOf47
  v46 := Try.zeroValue47
  t53 := Try.underlying196
  a53 := Try.isAgg196
  z53 := Try.sizeOf196
  v53 := Try.zeroValue196 }
open Go.RowKit Go.Lib in
theorem Try.bits_Mul64 (x y : Nat) (hx : x < 18446744073709551616) (hy : y < 18446744073709551616) (w : World) :
    Calls Try.prog 145 #[.int .u64 x, .int .u64 y] w fun e w' => e = .returned (.tuple #[.int .u64 ((x * y / 18446744073709551616 : Nat) : Int), .int .u64 ((x * y % 18446744073709551616 : Nat) : Int)]) ∧ w' = w := Any.bits_Mul64 Try.lays264 x y hx hy w
def Try.lays212_ren : Go.Shelf.Ren := ⟨fun | 212 => 134 | 263 => 144 | 264 => 145 | n => n, fun | 46 => 47 | 51 => 193 | 146 => 194 | 53 => 196 | 148 => 197 | n => n, fun | n => n⟩
theorem Try.lays212 : Go.Proofs.Lays.n212 Try.prog Try.lays212_ren := {
  mixed := by kernel_rfl
  f212 := Try.func134.trans (congrArg some (by kernel_rfl))
  f263 := Try.func144.trans (congrArg some (by kernel_rfl))
  f264 := Try.func145.trans (congrArg some (by kernel_rfl))
  t46 := Try.underlying47
  a46 := Try.isAgg47
  z46 := Try.sizeOf47
  v46 := Try.zeroValue47
  t51 := Try.underlying193
  a51 := Try.isAgg193
  z51 := Try.sizeOf193
  v51 := Try.zeroValue193
  t53 := Try.underlying196
  a53 := Try.isAgg196
  z53 := Try.sizeOf196
  v53 := Try.zeroValue196
  t146 := Try.underlying194
  a146 := Try.isAgg194
  z146 := Try.sizeOf194
  v146 := Try.zeroValue194
  t148 := Try.underlying197
  a148 := Try.isAgg197
  z148 := Try.sizeOf197
  v148 := Try.zeroValue197 }
open Go.RowKit Go.Lib in
theorem Try.bits_Mul (x y : Nat) (hx : x < 18446744073709551616) (hy : y < 18446744073709551616) (w : World) :
    Calls Try.prog 134 #[.int .u64 x, .int .u64 y] w fun e w' => e = .returned (.tuple #[.int .u64 ((x * y / 18446744073709551616 : Nat) : Int), .int .u64 ((x * y % 18446744073709551616 : Nat) : Int)]) ∧ w' = w := Any.bits_Mul Try.lays212 x y hx hy w
def Try.lays105_ren : Go.Shelf.Ren := ⟨fun | 105 => 110 | 212 => 134 | 99 => 135 | 165 => 136 | 166 => 122 | 170 => 137 | 169 => 124 | 263 => 144 | 264 => 145 | 206 => 146 | 240 => 142 | 241 => 147 | 276 => 149 | 277 => 151 | n => n, fun | 9 => 9 | 3 => 3 | 4 => 4 | 20 => 20 | 0 => 0 | 46 => 47 | 109 => 181 | 5 => 5 | 72 => 169 | 76 => 172 | 51 => 193 | 146 => 194 | 53 => 196 | 148 => 197 | 70 => 167 | 37 => 164 | 75 => 171 | 127 => 192 | 164 => 200 | 80 => 119 | n => n, fun | n => n⟩
theorem Try.lays105 : Go.Proofs.Lays.n105 Try.prog Try.lays105_ren := {
  mixed := by kernel_rfl
  f99 := Try.func135.trans (congrArg some (by kernel_rfl))
  f105 := Try.func110.trans (congrArg some (by kernel_rfl))
  f165 := Try.func136.trans (congrArg some (by kernel_rfl))
  f166 := Try.func122.trans (congrArg some (by kernel_rfl))
  f169 := Try.func124.trans (congrArg some (by kernel_rfl))
  f170 := Try.func137.trans (congrArg some (by kernel_rfl))
  f206 := Try.func146.trans (congrArg some (by kernel_rfl))
  f212 := Try.func134.trans (congrArg some (by kernel_rfl))
  f240 := Try.func142.trans (congrArg some (by kernel_rfl))
  f241 := Try.func147.trans (congrArg some (by kernel_rfl))
  f263 := Try.func144.trans (congrArg some (by kernel_rfl))
  f264 := Try.func145.trans (congrArg some (by kernel_rfl))
  f276 := Try.func149.trans (congrArg some (by kernel_rfl))
  f277 := Try.func151.trans (congrArg some (by kernel_rfl))
  t0 := Try.underlying0
  a0 := Try.isAgg0
  z0 := Try.sizeOf0
  v0 := Try.zeroValue0
  t3 := Try.underlying3
  a3 := Try.isAgg3
  z3 := Try.sizeOf3
  v3 := Try.zeroValue3
  t4 := Try.underlying4
  a4 := Try.isAgg4
  z4 := Try.sizeOf4
  v4 := Try.zeroValue4
  t5 := Try.underlying5
  a5 := Try.isAgg5
  z5 := Try.sizeOf5
  v5 := Try.zeroValue5
  t9 := Try.underlying9
  a9 := Try.isAgg9
  z9 := Try.sizeOf9
  v9 := Try.zeroValue9
  t20 := Try.underlying20
  a20 := Try.isAgg20
  z20 := Try.sizeOf20
  v20 := Try.zeroValue20
  t37 := Try.underlying164
  a37 := Try.isAgg164
  z37 := Try.sizeOf164
  v37 := Try.zeroValue164
  t46 := Try.underlying47
  a46 := Try.isAgg47
  z46 := Try.sizeOf47
  v46 := Try.zeroValue47
  t51 := Try.underlying193
  a51 := Try.isAgg193
  z51 := Try.sizeOf193
  v51 := Try.zeroValue193
  t53 := Try.underlying196
  a53 := Try.isAgg196
  z53 := Try.sizeOf196
  v53 := Try.zeroValue196
  t70 := Try.underlying167
  a70 := Try.isAgg167
  z70 := Try.sizeOf167
  v70 := Try.zeroValue167
  t72 := Try.underlying169
  a72 := Try.isAgg169
  z72 := Try.sizeOf169
  v72 := Try.zeroValue169
  t75 := Try.underlying171
  a75 := Try.isAgg171
  z75 := Try.sizeOf171
  v75 := Try.zeroValue171
  t76 := Try.underlying172
  a76 := Try.isAgg172
  z76 := Try.sizeOf172
  v76 := Try.zeroValue172
  t109 := Try.underlying181
  a109 := Try.isAgg181
  z109 := Try.sizeOf181
  v109 := Try.zeroValue181
  t127 := Try.underlying192
  a127 := Try.isAgg192
  z127 := Try.sizeOf192
  v127 := Try.zeroValue192
  t146 := Try.underlying194
  a146 := Try.isAgg194
  z146 := Try.sizeOf194
  v146 := Try.zeroValue194
  t148 := Try.underlying197
  a148 := Try.isAgg197
  z148 := Try.sizeOf197
  v148 := Try.zeroValue197
  t164 := Try.underlying200
  a164 := Try.isAgg200
  z164 := Try.sizeOf200
  v164 := Try.zeroValue200 }
theorem Try.Builder_Extra_105 : Builder.Extra Try.prog Try.lays105_ren := {
  sizeBuilder := by kernel_rfl
  liesBuilder := by kernel_rfl
  t5 := Try.underlying5
  a5 := Try.isAgg5
  z5 := Try.sizeOf5
  v5 := Try.zeroValue5
  infoByte := by kernel_rfl
  cellsByte := by kernel_rfl
  sizeByte := by kernel_rfl
  neB5 := by decide }
open Go.RowKit Go.Lib in
theorem Try.strings_Repeat_main (s : ByteArray) (c : Nat) (w : World) (hc2 : 2 ≤ c) (hc : c ≤ 9223372036854775807) (hlen : s.size * c ≤ 140737488355328) (h0 : 0 < s.size) :
    Calls Try.prog 110 #[.string s, .int .i64 c] w fun e w' => e = .returned (.string ⟨(Lib.repeatL s.data.toList c).toArray⟩) ∧ Below w.heap.size w w' := Any.strings_Repeat_main Try.lays105 Try.Builder_Extra_105 s c w hc2 hc hlen h0
open Go.RowKit Go.Lib in
theorem Try.strings_Repeat_zero (s : ByteArray) (w : World) :
    Calls Try.prog 110 #[.string s, .int .i64 0] w fun e w' => e = .returned (.string ⟨#[]⟩) ∧ w' = w := Any.strings_Repeat_zero Try.lays105 s w
open Go.RowKit Go.Lib in
theorem Try.strings_Repeat_one (s : ByteArray) (w : World) :
    Calls Try.prog 110 #[.string s, .int .i64 1] w fun e w' => e = .returned (.string s) ∧ w' = w := Any.strings_Repeat_one Try.lays105 s w
open Go.RowKit Go.Lib in
theorem Try.strings_Repeat_empty (s : ByteArray) (c : Nat) (w : World) (hc2 : 2 ≤ c) (hc : c ≤ 9223372036854775807) (h0 : s.size = 0) :
    Calls Try.prog 110 #[.string s, .int .i64 c] w fun e w' => e = .returned (.string ⟨#[]⟩) ∧ w' = w := Any.strings_Repeat_empty Try.lays105 s c w hc2 hc h0
open Go.RowKit Go.Lib in
theorem Try.strings_Repeat (s : ByteArray) (c : Nat) (w : World) (hc : c ≤ 9223372036854775807) (hlen : s.size * c ≤ 140737488355328) :
    Calls Try.prog 110 #[.string s, .int .i64 c] w fun e w' => e = .returned (.string ⟨(Lib.repeatL s.data.toList c).toArray⟩) ∧ Below w.heap.size w w' := Any.strings_Repeat Try.lays105 Try.Builder_Extra_105 s c w hc hlen
end Go.Proofs
/- Common ground of the walks over stores: small facts, what lies below, slices that read as lists. -/
set_option linter.unusedVariables false
set_option linter.unusedSimpArgs false
namespace Go.Proofs.Ytifcgimpgbeocaa
open Go.RowKit
theorem hid {p : Prop} (h : p) : Hid p := h
theorem ret_int {k : IntKind} {a b : Int} (h : a = b) : Ending.returned (.int k a) = .returned (.int k b) := by rw [h]
theorem ret_bool {a b : Bool} (h : a = b) : Ending.returned (.bool a) = .returned (.bool b) := by rw [h]
theorem addr_add (b off l : Nat) : (⟨b, off, none⟩ : Addr).add l = ⟨b, off + l, none⟩ := by
  unfold Addr.add; split
  · rename_i h; rw [h]; rfl
  · rfl
/-- What a call that only makes memory leaves: old cells read as before. -/
theorem bcell {W w1 : World} (hb : Below W.heap.size W w1) : (∀ b o, b < W.heap.size → w1.cell? ⟨b, o, none⟩ = W.cell? ⟨b, o, none⟩) ∧ (∀ b o, b < W.heap.size → w1.frozen? ⟨b, o, none⟩ = W.frozen? ⟨b, o, none⟩) :=
  ⟨fun b o h => hb.cell (p := ⟨b, o, none⟩) h, fun b o h => hb.frozen (p := ⟨b, o, none⟩) h⟩
theorem below_drewN {B : Nat} {a w : World} (h : Below B a w) (n : Nat) : Below B a (w.drewN n) := h.trans ⟨rfl, rfl, rfl, Nat.le_refl _, fun _ _ => rfl⟩
theorem below_grow {w w' : World} (h : Below w.heap.size w w') (row : Option Nat) : w.grownBy w' row := ⟨h.os, h.tape, h.output, h.size, fun k hk _ => h.block k hk⟩
theorem grown_trans {a b c : World} {row : Option Nat} (h : a.grownBy b row) (k : b.grownBy c row) : a.grownBy c row :=
  ⟨k.os.trans h.os, k.tape.trans h.tape, k.output.trans h.output, Nat.le_trans h.size k.size, fun i hi hn => (k.block i (Nat.lt_of_lt_of_le hi h.size) hn).trans (h.block i hi hn)⟩
/-- One more call that only makes memory. -/
theorem below_step {W w w1 : World} (k : Below w.heap.size w w1) (h : Below W.heap.size W w) : Below W.heap.size W w1 := h.trans (k.mono h.size)
/-- A cell that was there is there. -/
theorem keepc {W w1 : World} {a : Addr} {v : Value} (h : Below W.heap.size W w1) (k : W.cell? a = some v) : w1.cell? a = some v := (h.cell (World.block_lt_of_cell? W a k)).trans k
theorem keepf {W w1 : World} {a : Addr} {v : Value} (h : Below W.heap.size W w1) (k : W.cell? a = some v) (f : W.frozen? a = false) : w1.frozen? a = false := (h.frozen (World.block_lt_of_cell? W a k)).trans f
theorem below_drew {B : Nat} {a w : World} (h : Below B a w) : Below B a w.drew := h.drew
theorem grown_refl (w : World) (row : Option Nat) : w.grownBy w row := ⟨rfl, rfl, rfl, Nat.le_refl _, fun _ _ _ => rfl⟩
theorem grown_set {a w : World} {b : Nat} (h : a.grownBy w (some b)) (i : Nat) (v : Value) : a.grownBy (w.setCell ⟨b, i, none⟩ v) (some b) :=
  grown_trans h ⟨rfl, rfl, rfl, by simp [World.setCell], fun k _ hn => Below.heap_setCell _ _ _ _ (fun e => hn (by rw [e]))⟩
/-- A cell that a region may store into. -/
def OwnC (w : World) (a : Addr) : Prop := (∃ v, w.cell? a = some v) ∧ w.frozen? a = false
theorem keepOwn {w w1 : World} {a : Addr} (hb : Below w.heap.size w w1) (h : OwnC w a) : OwnC w1 a := by
  obtain ⟨⟨v, hv⟩, hf⟩ := h
  exact ⟨⟨v, keepc hb hv⟩, keepf hb hv hf⟩
theorem OwnC.set {w : World} {a : Addr} (h : OwnC w a) (b : Addr) (v : Value) : OwnC (w.setCell b v) a := by
  obtain ⟨⟨u, hu⟩, hf⟩ := h
  exact ⟨cell?_setCell_some hu, by rw [World.frozen?_setCell]; exact hf⟩
theorem ownc_new (w : World) (c : Array Value) (t : TypeId) (k : Nat) (h : k < c.size) : OwnC (w.alloc (.cells c t)) ⟨w.heap.size, k, none⟩ := by
  have hn := heap_alloc_new w (.cells c t)
  refine ⟨⟨c[k], ?_⟩, ?_⟩
  · unfold World.cell?; rw [hn]; simp [h]
  · unfold World.frozen?; rw [hn]; simp
theorem cell_new (w : World) (c : Array Value) (t : TypeId) (k : Nat) (v : Value) (h : c[k]? = some v) : (w.alloc (.cells c t)).cell? ⟨w.heap.size, k, none⟩ = some v := by
  have hn := heap_alloc_new w (.cells c t)
  unfold World.cell?
  rw [hn]
  simpa using h
/-- A cell, and what lay below, behind the turn of the block for the rounds' deferred calls. -/
theorem cell_put {W : World} {D : Nat} {o o' : Obj} {a : Addr} {v : Value} (hD : W.heap[D]? = some o) (ho : o.isCells = false) (h : W.cell? a = some v) : (W.putObj D o').cell? a = some v :=
  cell_kept h (grownBy_putObj' W D o') (fun r e => by cases e; exact ⟨o, hD, ho⟩)
theorem below_put {B : Nat} {w W : World} {D : Nat} (h : Below B w W) (hD : B ≤ D) (o' : Obj) : Below B w (W.putObj D o') :=
  h.trans ⟨rfl, rfl, rfl, by simp, fun k hk => World.putObj_heap_other (by omega)⟩

/-- A call that returns v and turns nothing that was there. -/
def Ret (v : Value) (w : World) (e : Ending) (w' : World) : Prop := e = .returned v ∧ Below w.heap.size w w'
abbrev strV (s : Bs) : Value := .string ⟨s.toArray⟩
abbrev recV (r : Rec) : Value := .agg #[strV r.1, strV r.2]
abbrev opV (o : FOp) : Value := .agg #[.int .i64 o.1, .int .i64 o.2.1, strV o.2.2.1, strV o.2.2.2]
abbrev wtV (w : Wt) : Value := .agg #[.int .i64 w.1, strV w.2]
abbrev acV (a : Ac) : Value := .agg #[.bool a.1, .int .i64 a.2.1, strV a.2.2]
/-- v reads as records. -/
def RdR (w : World) (v : Value) (d : Ds) : Prop := ∃ o cap, v = .slice o d.length cap ∧ d.length ≤ cap ∧ (d = [] ∨ ∃ b off, o = some ⟨b, off, none⟩ ∧ b < w.heap.size ∧ ∀ i r, d[i]? = some r → w.cell? ⟨b, off + i * 2, none⟩ = some (strV r.1) ∧ w.cell? ⟨b, off + i * 2 + 1, none⟩ = some (strV r.2))
/-- v reads as operations. -/
def RdO (w : World) (v : Value) (l : List FOp) : Prop := ∃ o cap, v = .slice o l.length cap ∧ l.length ≤ cap ∧ (l = [] ∨ ∃ b off, o = some ⟨b, off, none⟩ ∧ b < w.heap.size ∧ ∀ i x, l[i]? = some x → w.cell? ⟨b, off + i * 4, none⟩ = some (.int .i64 x.1) ∧ w.cell? ⟨b, off + i * 4 + 1, none⟩ = some (.int .i64 x.2.1) ∧ w.cell? ⟨b, off + i * 4 + 2, none⟩ = some (strV x.2.2.1) ∧ w.cell? ⟨b, off + i * 4 + 3, none⟩ = some (strV x.2.2.2))
/-- v reads as strings. -/
def RdS (w : World) (v : Value) (l : List Bs) : Prop := ∃ o cap, v = .slice o l.length cap ∧ l.length ≤ cap ∧ (l = [] ∨ ∃ b off, o = some ⟨b, off, none⟩ ∧ b < w.heap.size ∧ ∀ i s, l[i]? = some s → w.cell? ⟨b, off + i, none⟩ = some (strV s))
/-- v reads as writes. -/
def RdW (w : World) (v : Value) (l : List Wt) : Prop := ∃ o cap, v = .slice o l.length cap ∧ l.length ≤ cap ∧ (l = [] ∨ ∃ b off, o = some ⟨b, off, none⟩ ∧ b < w.heap.size ∧ ∀ i x, l[i]? = some x → w.cell? ⟨b, off + i * 2, none⟩ = some (.int .i64 x.1) ∧ w.cell? ⟨b, off + i * 2 + 1, none⟩ = some (strV x.2))
/-- v reads as acts. -/
def RdA (w : World) (v : Value) (l : List Ac) : Prop := ∃ o cap, v = .slice o l.length cap ∧ l.length ≤ cap ∧ (l = [] ∨ ∃ b off, o = some ⟨b, off, none⟩ ∧ b < w.heap.size ∧ ∀ i x, l[i]? = some x → w.cell? ⟨b, off + i * 3, none⟩ = some (.bool x.1) ∧ w.cell? ⟨b, off + i * 3 + 1, none⟩ = some (.int .i64 x.2.1) ∧ w.cell? ⟨b, off + i * 3 + 2, none⟩ = some (strV x.2.2))
/-- v reads as numbers. -/
def RdI (w : World) (v : Value) (l : List Int) : Prop := ∃ o cap, v = .slice o l.length cap ∧ l.length ≤ cap ∧ (l = [] ∨ ∃ b off, o = some ⟨b, off, none⟩ ∧ b < w.heap.size ∧ ∀ i x, l[i]? = some x → w.cell? ⟨b, off + i, none⟩ = some (.int .i64 x))
/-- v reads as datasets. -/
def RdD (w : World) (v : Value) (l : List Ds) : Prop := ∃ o cap, v = .slice o l.length cap ∧ l.length ≤ cap ∧ (l = [] ∨ ∃ b off, o = some ⟨b, off, none⟩ ∧ b < w.heap.size ∧ ∀ i d, l[i]? = some d → ∃ u, w.cell? ⟨b, off + i, none⟩ = some u ∧ RdR w u d)
theorem cell_below {w w' : World} {b k : Nat} {v : Value} (hb : Below w.heap.size w w') (h : w.cell? ⟨b, k, none⟩ = some v) : w'.cell? ⟨b, k, none⟩ = some v := keepc hb h
theorem RdR.below {w w' : World} {v : Value} {d : Ds} (h : RdR w v d) (hb : Below w.heap.size w w') : RdR w' v d := by
  obtain ⟨o, cap, e, hc, h⟩ := h
  refine ⟨o, cap, e, hc, ?_⟩
  rcases h with h | ⟨b, off, e1, e2, h⟩
  · exact .inl h
  · exact .inr ⟨b, off, e1, Nat.lt_of_lt_of_le e2 hb.size, fun i r hi => ⟨keepc hb (h i r hi).1, keepc hb (h i r hi).2⟩⟩
theorem RdO.below {w w' : World} {v : Value} {d : List FOp} (h : RdO w v d) (hb : Below w.heap.size w w') : RdO w' v d := by
  obtain ⟨o, cap, e, hc, h⟩ := h
  refine ⟨o, cap, e, hc, ?_⟩
  rcases h with h | ⟨b, off, e1, e2, h⟩
  · exact .inl h
  · exact .inr ⟨b, off, e1, Nat.lt_of_lt_of_le e2 hb.size, fun i r hi => ⟨keepc hb (h i r hi).1, keepc hb (h i r hi).2.1, keepc hb (h i r hi).2.2.1, keepc hb (h i r hi).2.2.2⟩⟩
theorem RdS.below {w w' : World} {v : Value} {d : List Bs} (h : RdS w v d) (hb : Below w.heap.size w w') : RdS w' v d := by
  obtain ⟨o, cap, e, hc, h⟩ := h
  refine ⟨o, cap, e, hc, ?_⟩
  rcases h with h | ⟨b, off, e1, e2, h⟩
  · exact .inl h
  · exact .inr ⟨b, off, e1, Nat.lt_of_lt_of_le e2 hb.size, fun i r hi => keepc hb (h i r hi)⟩
theorem RdI.below {w w' : World} {v : Value} {d : List Int} (h : RdI w v d) (hb : Below w.heap.size w w') : RdI w' v d := by
  obtain ⟨o, cap, e, hc, h⟩ := h
  refine ⟨o, cap, e, hc, ?_⟩
  rcases h with h | ⟨b, off, e1, e2, h⟩
  · exact .inl h
  · exact .inr ⟨b, off, e1, Nat.lt_of_lt_of_le e2 hb.size, fun i r hi => keepc hb (h i r hi)⟩
theorem RdW.below {w w' : World} {v : Value} {d : List Wt} (h : RdW w v d) (hb : Below w.heap.size w w') : RdW w' v d := by
  obtain ⟨o, cap, e, hc, h⟩ := h
  refine ⟨o, cap, e, hc, ?_⟩
  rcases h with h | ⟨b, off, e1, e2, h⟩
  · exact .inl h
  · exact .inr ⟨b, off, e1, Nat.lt_of_lt_of_le e2 hb.size, fun i r hi => ⟨keepc hb (h i r hi).1, keepc hb (h i r hi).2⟩⟩
theorem RdA.below {w w' : World} {v : Value} {d : List Ac} (h : RdA w v d) (hb : Below w.heap.size w w') : RdA w' v d := by
  obtain ⟨o, cap, e, hc, h⟩ := h
  refine ⟨o, cap, e, hc, ?_⟩
  rcases h with h | ⟨b, off, e1, e2, h⟩
  · exact .inl h
  · exact .inr ⟨b, off, e1, Nat.lt_of_lt_of_le e2 hb.size, fun i r hi => ⟨keepc hb (h i r hi).1, keepc hb (h i r hi).2.1, keepc hb (h i r hi).2.2⟩⟩
theorem RdD.below {w w' : World} {v : Value} {d : List Ds} (h : RdD w v d) (hb : Below w.heap.size w w') : RdD w' v d := by
  obtain ⟨o, cap, e, hc, h⟩ := h
  refine ⟨o, cap, e, hc, ?_⟩
  rcases h with h | ⟨b, off, e1, e2, h⟩
  · exact .inl h
  · exact .inr ⟨b, off, e1, Nat.lt_of_lt_of_le e2 hb.size, fun i r hi => by obtain ⟨u, h1, h2⟩ := h i r hi; exact ⟨u, keepc hb h1, h2.below hb⟩⟩
end Go.Proofs.Ytifcgimpgbeocaa
