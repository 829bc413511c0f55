/- Rows of records: one put in between: in place, and in a new row. -/
import Derived.Test.YtifcgimpgbeocaaGreatK9
import Derived.Test.YtifcgimpgbeocaaGreatK3
import Derived.Test.YtifcgimpgbeocaaGreatK6
import Derived.Test.YtifcgimpgbeocaaGreatK8
set_option linter.unusedVariables false
set_option linter.unusedSimpArgs false
namespace Go.Proofs.YtifcgimpgbeocaaGreat
open Go.RowKit
theorem underRR : Tryz.prog.underlying 68 = some (.slice 59) := by kernel_rfl
theorem sizeR : (Tryz.prog.info? 59).map (·.size) = some 2 := by kernel_rfl
theorem nmin (a b : Nat) : Nat.min a b = min a b := rfl
theorem encR_one (l : Ds) : ∀ u ∈ encR l, u.oneCell' = true := by
  intro u hu
  obtain ⟨z, hz, hu⟩ := List.mem_flatMap.1 hu
  simp only [List.mem_cons, List.not_mem_nil, or_false] at hu
  rcases hu with rfl | rfl <;> rfl
theorem append_types (ty : TypeId) (base : Option Addr) (l c : Nat) (x : Value) (w : World) : (Builtin.append_ #[69, 68] ty #[.slice base l c, x]).run Tryz.prog w = (Builtin.append_ #[69, 69] ty #[.slice base l c, x]).run Tryz.prog w := by
  simp [Builtin.append_, run_underlying underR, run_underlying underRR]
/-- A record put in between, in place. -/
theorem exec_shiftR {w : World} {B g n cap i vb : Nat} {ds : Ds} {r : Rec} (hP : OR w B (.slice (some ⟨g, 0, none⟩) n cap) ds) (hn : ds.length = n) (hi : i < n) (hc : n + 1 ≤ cap) (hV : w.heap[vb]? = some (.cells #[strV r.1, strV r.2] 59 (0, 0))) (hne : vb ≠ g) :
    ∃ w1 w2, (∀ ty dc sc, (Builtin.copy_ #[69, 69] ty #[.slice (some ⟨g, (i + 1) * 2, none⟩) (n + 1 - (i + 1)) dc, .slice (some ⟨g, i * 2, none⟩) (n + 1 - i) sc]).run Tryz.prog w.drew = .ok (goInt ((n - i : Nat) : Int)) w1) ∧
      (∀ ty dc, (Builtin.copy_ #[69, 68] ty #[.slice (some ⟨g, i * 2, none⟩) (n + 1 - i) dc, .slice (some ⟨vb, 0, none⟩) 1 1]).run Tryz.prog w1 = .ok (goInt 1) w2) ∧
      OR w2 B (.slice (some ⟨g, 0, none⟩) (n + 1) cap) (ds.take i ++ r :: ds.drop i) ∧ w.grownBy w2 (some g) := by
  obtain ⟨hlen, ⟨hv, -⟩ | ⟨g', cap', cur, hv, hb, hg, hnc, hcm, hcs, ht⟩⟩ := hP
  · cases hv
  simp only [Value.slice.injEq, Option.some.injEq, Addr.mk.injEq] at hv
  obtain ⟨⟨rfl, -, -⟩, -, rfl⟩ := hv
  rw [hn] at ht hnc
  have hcl : cur.toList.length = cap * 2 := by rw [Array.length_toList]; exact hcs
  have hdl : (encR (ds.drop i)).length = (n - i) * 2 := by rw [encR_length, List.length_drop, hn]
  have hgd : w.drew.heap[g]? = some (.cells cur 59 (0, 0)) := hg
  have h1 := fun (ty : TypeId) (dc sc : Nat) => run_copy_rowN (P := Tryz.prog) w.drew 69 69 ty 59 2 g ((i + 1) * 2) (n + 1 - (i + 1)) dc ⟨g, i * 2, none⟩ (n + 1 - i) sc cur 59 (encR (ds.drop i)) underR sizeR hgd
    (by rw [hdl, nmin, Nat.min_eq_right (by omega)]; congr 1; omega)
    (fun j u hj => by
      have hjl := (List.getElem?_eq_some_iff.1 hj).1
      rw [hdl] at hjl
      rw [addr_add]
      rw [← encR_drop, List.getElem?_drop, ← ht, List.getElem?_take_of_lt (by omega)] at hj
      unfold World.cell?
      simp only [hgd]
      simpa using hj) (by rw [hdl, hcs]; omega) (encR_one _)
  have hmin : Nat.min (n + 1 - i) (n + 1 - (i + 1)) = n - i := by rw [nmin, Nat.min_eq_right (by omega)]; omega
  rw [hmin] at h1
  obtain ⟨c1, hc1⟩ : ∃ c1, cur.toList.take ((i + 1) * 2) ++ encR (ds.drop i) ++ cur.toList.drop ((i + 1) * 2 + (encR (ds.drop i)).length) = c1 := ⟨_, rfl⟩
  rw [hc1] at h1
  have hc1l : c1.length = cap * 2 := by rw [← hc1, List.length_append, List.length_append, List.length_take, List.length_drop, hdl, hcl]; omega
  have hg1 : (w.drew.setRow g c1.toArray).heap[g]? = some (.cells c1.toArray 59 (0, 0)) := setRow_heap w.drew g cur _ 59 _ hgd
  have hv1 : (w.drew.setRow g c1.toArray).heap[vb]? = some (.cells #[strV r.1, strV r.2] 59 (0, 0)) := (setRow_other w.drew g vb _ hne).trans hV
  have h2 := fun (ty : TypeId) (dc : Nat) => run_copy_rowN (P := Tryz.prog) (w.drew.setRow g c1.toArray) 69 68 ty 59 2 g (i * 2) (n + 1 - i) dc ⟨vb, 0, none⟩ 1 1 c1.toArray 59 (encR [r]) underR sizeR hg1
    (by rw [encR_length, nmin, Nat.min_eq_left (by omega)]; rfl)
    (fun j u hj => by
      rw [addr_add, Nat.zero_add]
      unfold World.cell?
      simp only [hv1]
      match j, hj with
      | 0, hj => simpa [encR_cons] using hj
      | 1, hj => simpa [encR_cons] using hj
      | j + 2, hj => simp [encR_cons, encR_nil] at hj) (by rw [encR_length]; simp only [List.length_cons, List.length_nil, List.size_toArray, hc1l]; omega) (encR_one _)
  rw [nmin, Nat.min_eq_left (show 1 ≤ n + 1 - i by omega)] at h2
  refine ⟨_, _, h1, h2, ?_⟩
  have hN : (c1.toArray.toList.take (i * 2) ++ encR [r] ++ c1.toArray.toList.drop (i * 2 + (encR [r]).length)).length = cap * 2 := by
    rw [List.length_append, List.length_append, List.length_take, List.length_drop, encR_length]
    simp only [List.length_cons, List.length_nil, hc1l]
    omega
  have hnew : (ds.take i ++ r :: ds.drop i).length = n + 1 := by rw [List.length_append, List.length_cons, List.length_take, List.length_drop, hn]; omega
  have e1 : cur.toList.take (i * 2) = encR (ds.take i) := by rw [← encR_take, ← ht, List.take_take, Nat.min_eq_left (by omega)]
  have e2 : c1.take (i * 2) = encR (ds.take i) := by
    rw [← hc1, List.append_assoc, List.take_append_of_le_length (by rw [List.length_take]; omega), List.take_take, Nat.min_eq_left (by omega), e1]
  have e3 : c1.drop (i * 2 + 2) = encR (ds.drop i) ++ cur.toList.drop ((i + 1) * 2 + (encR (ds.drop i)).length) := by
    rw [← hc1, List.append_assoc, List.drop_append_of_le_length (by rw [List.length_take]; omega), List.drop_of_length_le (by rw [List.length_take]; omega), List.nil_append]
  have hx : (c1.toArray.toList.take (i * 2) ++ encR [r] ++ c1.toArray.toList.drop (i * 2 + (encR [r]).length)).take ((n + 1) * 2) = encR (ds.take i ++ r :: ds.drop i) := by
    simp only [encR_length, List.length_cons, List.length_nil, Nat.zero_add, Nat.one_mul]
    rw [e2, e3, encR_append, encR_cons, ← encR_cons r [], ← List.append_assoc]
    have : (encR (ds.take i) ++ encR [r] ++ encR (ds.drop i)).length = (n + 1) * 2 := by
      rw [List.length_append, List.length_append, encR_length, encR_length, hdl, List.length_take]
      simp only [List.length_cons, List.length_nil]
      omega
    rw [List.take_append_of_le_length (by omega), List.take_of_length_le (by omega), encR_cons r (List.drop i ds), encR_cons, encR_nil]
    simp
  have h3 := own_setRow (w := w.drew.setRow g c1.toArray) (B := B) (e := 59) (s := 2) (cap := cap) (n' := n + 1) hb hg1 hcm hN (by omega) hx
  unfold OR
  rw [hnew]
  have hG1 : w.drew.grownBy (w.drew.setRow g c1.toArray) (some g) := ⟨rfl, rfl, rfl, by simp, fun k _ hk => setRow_other w.drew g k _ (fun e => hk (by rw [e]))⟩
  exact ⟨h3.1, grown_trans (grown_trans (below_grow (Below.refl _ _).drew _) hG1) h3.2⟩
abbrev zR : Value := .agg #[.string ⟨#[]⟩, .string ⟨#[]⟩]
theorem zeroR_len (k : Nat) : (Builtin.zeroCells zR.cells k).size = k * 2 := by simp [Builtin.zeroCells, Value.cells]
/-- A record put in between, in a new row. -/
theorem exec_growR {w : World} {B g n cap i vb : Nat} {ds : Ds} {r : Rec} (hP : OR w B (.slice (some ⟨g, 0, none⟩) n cap) ds) (hn : ds.length = n) (hi : i < n) (hc : cap < n + 1) (hbig : n ≤ 1000000) (hB : B ≤ w.heap.size) (hV : w.heap[vb]? = some (.cells #[strV r.1, strV r.2] 59 (0, 0))) :
    ∃ G w1 w2 w3, n + 1 ≤ G ∧ (∀ ty, (Builtin.append_ #[69, 3] ty #[.slice (some ⟨g, 0, none⟩) i cap, .int .i64 ((n + 1 - i : Nat) : Int)]).run Tryz.prog w = .ok (.slice (some ⟨w.heap.size, 0, none⟩) (n + 1) G) w1) ∧
      (∀ ty dc, (Builtin.copy_ #[69, 68] ty #[.slice (some ⟨w.heap.size, i * 2, none⟩) (n + 1 - i) dc, .slice (some ⟨vb, 0, none⟩) 1 1]).run Tryz.prog w1 = .ok (goInt 1) w2) ∧
      (∀ ty dc sc, (Builtin.copy_ #[69, 69] ty #[.slice (some ⟨w.heap.size, (i + 1) * 2, none⟩) (n + 1 - (i + 1)) dc, .slice (some ⟨g, i * 2, none⟩) (n - i) sc]).run Tryz.prog w2.drew = .ok (goInt ((n - i : Nat) : Int)) w3) ∧
      OR w3 B (.slice (some ⟨w.heap.size, 0, none⟩) (n + 1) G) (ds.take i ++ r :: ds.drop i) ∧ Below w.heap.size w w3 := by
  obtain ⟨hlen, ⟨hv, -⟩ | ⟨g', cap', cur, hv, hb, hg, hnc, hcm, hcs, ht⟩⟩ := hP
  · cases hv
  simp only [Value.slice.injEq, Option.some.injEq, Addr.mk.injEq] at hv
  obtain ⟨⟨rfl, -, -⟩, -, rfl⟩ := hv
  rw [hn] at ht hnc
  have hgl : g < w.heap.size := (Array.getElem?_eq_some_iff.1 hg).1
  have hvl : vb < w.heap.size := (Array.getElem?_eq_some_iff.1 hV).1
  have hcl : cur.toList.length = cap * 2 := by rw [Array.length_toList]; exact hcs
  have hdl : (encR (ds.drop i)).length = (n - i) * 2 := by rw [encR_length, List.length_drop, hn]
  have htl : (encR (ds.take i)).length = i * 2 := by rw [encR_length, List.length_take, hn]; congr 1; omega
  obtain ⟨i0, hi0, hz0, hz1, hz2⟩ := info_parts infoR
  have hold : (Builtin.firstCells i0.size i (.slice (some ⟨g, 0, none⟩) i cap)).run Tryz.prog w.drew = .ok (encR (ds.take i)).toArray w.drew := by
    rw [hz1]
    refine run_firstCells_some w.drew 2 i ⟨g, 0, none⟩ i cap (encR (ds.take i)) htl (fun j v hj => ?_)
    have hjl := (List.getElem?_eq_some_iff.1 hj).1
    rw [htl] at hjl
    rw [addr_add, Nat.zero_add]
    rw [← encR_take, List.getElem?_take_of_lt (by omega), ← ht, List.getElem?_take_of_lt (by omega)] at hj
    have hgd : w.drew.heap[g]? = some (.cells cur 59 (0, 0)) := hg
    unfold World.cell?
    simp only [hgd]
    simpa using hj
  have happ := fun ty => Lib.run_append_grow_zeros (P := Tryz.prog) w 69 3 ty 59 i0 _ .i64 .i64 underR Tryz.underlying3 hi0 hz0 (some ⟨g, 0, none⟩) i cap (encR (ds.take i)) hold (n + 1 - i) (by omega) (by omega) (by omega) (by omega) (by rw [hz2]; omega) (by rw [hz2, show i + (n + 1 - i) = n + 1 by omega]; exact growslice_fits (by omega) (by omega))
  rw [show i + (n + 1 - i) = n + 1 by omega] at happ
  obtain ⟨G, hG⟩ : ∃ G, grownCap w (n + 1) cap 59 = G := ⟨_, rfl⟩
  have hGn : n + 1 ≤ G := by rw [← hG]; exact grownCap_ge w _ _ _
  have hGm : G ≤ maxLen := by rw [← hG]; exact grownCap_le_maxLen w (n + 1) cap 59 (by unfold maxLen; omega)
  rw [hG] at happ
  obtain ⟨ROW, hROW⟩ : ∃ ROW : Array Value, (encR (ds.take i)).toArray ++ Builtin.zeroCells zR.cells (n + 1 - i) ++ Builtin.zeroCells zR.cells (G - (n + 1)) = ROW := ⟨_, rfl⟩
  rw [hROW] at happ
  have hRs : ROW.size = G * 2 := by rw [← hROW]; simp only [Array.size_append, zeroR_len, List.size_toArray, htl]; omega
  have hRt : ROW.toList.take (i * 2) = encR (ds.take i) := by
    rw [← hROW]
    simp only [Array.toList_append]
    rw [List.append_assoc, List.take_append_of_le_length (by omega), List.take_of_length_le (by omega)]
  obtain ⟨N, hN⟩ : ∃ N, w.heap.size = N := ⟨_, rfl⟩
  have hh1 : (w.drew.alloc (.cells ROW 59)).heap[N]? = some (.cells ROW 59 (0, 0)) := by rw [← hN]; exact heap_alloc_new w.drew _
  have hv1 : (w.drew.alloc (.cells ROW 59)).heap[vb]? = some (.cells #[strV r.1, strV r.2] 59 (0, 0)) := (((Below.refl w.heap.size w).drew.alloc (Nat.le_refl _) (.cells ROW 59)).block vb hvl).trans hV
  have h2 := fun (ty : TypeId) (dc : Nat) => run_copy_rowN (P := Tryz.prog) (w.drew.alloc (.cells ROW 59)) 69 68 ty 59 2 N (i * 2) (n + 1 - i) dc ⟨vb, 0, none⟩ 1 1 ROW 59 (encR [r]) underR sizeR hh1
    (by rw [encR_length, nmin, Nat.min_eq_left (by omega)]; rfl)
    (fun j u hj => by
      rw [addr_add, Nat.zero_add]
      unfold World.cell?
      simp only [hv1]
      match j, hj with
      | 0, hj => simpa [encR_cons] using hj
      | 1, hj => simpa [encR_cons] using hj
      | j + 2, hj => simp [encR_cons, encR_nil] at hj) (by rw [encR_length, hRs]; simp only [List.length_cons, List.length_nil]; omega) (encR_one _)
  rw [nmin, Nat.min_eq_left (show 1 ≤ n + 1 - i by omega)] at h2
  have hr1 : (encR [r]).length = 2 := encR_length [r]
  obtain ⟨c2, hc2⟩ : ∃ c2, ROW.toList.take (i * 2) ++ encR [r] ++ ROW.toList.drop (i * 2 + (encR [r]).length) = c2 := ⟨_, rfl⟩
  rw [hc2] at h2
  have hc2l : c2.length = G * 2 := by rw [← hc2, List.length_append, List.length_append, List.length_take, List.length_drop, hr1, Array.length_toList, hRs]; omega
  have hb1 : Below w.heap.size w (w.drew.alloc (.cells ROW 59)) := (Below.refl w.heap.size w).drew.alloc (Nat.le_refl _) _
  have hgd : (w.drew.alloc (.cells ROW 59)).grownBy ((w.drew.alloc (.cells ROW 59)).setRow N c2.toArray) (some N) := ⟨rfl, rfl, rfl, by simp, fun k _ hk => setRow_other _ N k _ (fun e => hk (by rw [e]))⟩
  have hb2 : Below w.heap.size w ((w.drew.alloc (.cells ROW 59)).setRow N c2.toArray) := hb1.grown hgd (by rw [World.size_alloc]; exact Nat.le_succ _) (fun k hk => by cases hk; omega)
  have hh2 : (((w.drew.alloc (.cells ROW 59)).setRow N c2.toArray).drew).heap[N]? = some (.cells c2.toArray 59 (0, 0)) := setRow_heap _ N ROW _ 59 _ hh1
  have hg2 : (((w.drew.alloc (.cells ROW 59)).setRow N c2.toArray).drew).heap[g]? = some (.cells cur 59 (0, 0)) := (hb2.block g hgl).trans hg
  have h3 := fun (ty : TypeId) (dc sc : Nat) => run_copy_rowN (P := Tryz.prog) ((w.drew.alloc (.cells ROW 59)).setRow N c2.toArray).drew 69 69 ty 59 2 N ((i + 1) * 2) (n + 1 - (i + 1)) dc ⟨g, i * 2, none⟩ (n - i) sc c2.toArray 59 (encR (ds.drop i)) underR sizeR hh2
    (by rw [hdl, nmin, Nat.min_eq_left (by omega)])
    (fun j u hj => by
      have hjl := (List.getElem?_eq_some_iff.1 hj).1
      rw [hdl] at hjl
      rw [addr_add]
      rw [← encR_drop, List.getElem?_drop, ← ht, List.getElem?_take_of_lt (by omega)] at hj
      unfold World.cell?
      simp only [hg2]
      simpa using hj) (by rw [hdl]; simp only [List.size_toArray, hc2l]; omega) (encR_one _)
  rw [nmin, Nat.min_eq_left (show n - i ≤ n + 1 - (i + 1) by omega)] at h3
  rw [hN] at happ ⊢
  refine ⟨G, _, _, _, hGn, happ, h2, h3, ?_⟩
  have hNl : (c2.toArray.toList.take ((i + 1) * 2) ++ encR (ds.drop i) ++ c2.toArray.toList.drop ((i + 1) * 2 + (encR (ds.drop i)).length)).length = G * 2 := by
    rw [List.length_append, List.length_append, List.length_take, List.length_drop, hdl]
    simp only [hc2l]
    omega
  have hnew : (ds.take i ++ r :: ds.drop i).length = n + 1 := by rw [List.length_append, List.length_cons, List.length_take, List.length_drop, hn]; omega
  have e2 : c2.take ((i + 1) * 2) = encR (ds.take i) ++ encR [r] := by
    rw [← hc2, hRt, List.take_append_of_le_length (by rw [List.length_append, htl, hr1]; omega), List.take_of_length_le (by rw [List.length_append, htl, hr1]; omega)]
  have hx : (c2.toArray.toList.take ((i + 1) * 2) ++ encR (ds.drop i) ++ c2.toArray.toList.drop ((i + 1) * 2 + (encR (ds.drop i)).length)).take ((n + 1) * 2) = encR (ds.take i ++ r :: ds.drop i) := by
    simp only
    rw [e2]
    have : (encR (ds.take i) ++ encR [r] ++ encR (ds.drop i)).length = (n + 1) * 2 := by
      rw [List.length_append, List.length_append, htl, hr1, hdl]; omega
    rw [List.take_append_of_le_length (by omega), List.take_of_length_le (by omega), encR_append, encR_cons r (List.drop i ds), encR_cons, encR_nil]
    simp
  have hfin := own_setRow (w := ((w.drew.alloc (.cells ROW 59)).setRow N c2.toArray).drew) (B := B) (e := 59) (s := 2) (cap := G) (n' := n + 1) (by omega) hh2 hGm hNl hGn hx
  unfold OR
  rw [hnew]
  refine ⟨hfin.1, ?_⟩
  have hb3 := hb2.drew.grown hfin.2 hb2.drew.size (fun k hk => by cases hk; omega)
  rw [hN] at hb3
  exact hb3
end Go.Proofs.YtifcgimpgbeocaaGreat
/- slices.Clone at records, strings, writes, acts. -/
set_option linter.unusedVariables false
set_option linter.unusedSimpArgs false
namespace Go.Proofs.YtifcgimpgbeocaaGreat
open Go.RowKit
attribute [local go_sem] Oper.semAt_some
/-- A call that returns a row of its own. -/
def OwnR (l : Ds) (w : World) (e : Ending) (w' : World) : Prop := ∃ v, e = .returned v ∧ OR w' w.heap.size v l ∧ Below w.heap.size w w'
set_option maxRecDepth 100000 in
theorem cloneR_any (l : Ds) (v : Value) (w : World) (hR : RdR w v l) (hl : l.length ≤ 1000000000) : Calls Tryz.prog 68 #[v] w (OwnR l w) := by
  obtain ⟨o, cap, rfl, hcap, hc⟩ := hR.enc
  cases o with
  | none =>
    have e : l = [] := by
      rcases hc with hc | ⟨b, off, hc, -⟩
      · exact hc
      · cases hc
    subst e
    clear hc
    have hnil := fun (w : World) => Lib.run_eql_slice_nil (P := Tryz.prog) w 69 59 none 0 cap 0 0 underR
    simp only [List.length_nil]
    go_enter Tryz.func68, Tryz.ntmps68
    go_wp2_with fail
    go_ret
    exact ⟨_, rfl, oR_nil _ _, Below.refl _ _⟩
  | some a =>
    have hcs : ∀ j u, (encR l)[j]? = some u → (w.alloc (.cells #[] 59)).cell? (a.add j) = some u := fun j u hj => by
      rcases hc with hc | ⟨b, off, ho, hb, hc⟩
      · rw [hc] at hj; simp [encR_nil] at hj
      · cases ho
        rw [addr_add]
        exact keepc ((Below.refl w.heap.size w).alloc (Nat.le_refl _) _) (hc j u hj)
    have HCS := hid hcs
    have HN := hid (show ([] : Ds).length + l.length ≤ 1000000000 by simpa using hl)
    have HO := hid (oR_new w w.heap.size (Nat.le_refl _))
    have HB := hid (show w.heap.size ≤ (w.alloc (.cells #[] 59)).heap.size by simp)
    have HBW := hid ((Below.refl w.heap.size w).alloc (Nat.le_refl _) (.cells #[] 59))
    clear hcs hc
    have hnil := fun (w : World) => Lib.run_eql_slice_nil (P := Tryz.prog) w 69 59 (some a) l.length cap 0 0 underR
    go_enter Tryz.func68, Tryz.ntmps68
    go_wp2_with (at_builtin; refine appAllR rfl _ _ rfl w.heap.size _ [] l a cap rfl rfl HO.out HCS.out HN.out HB.out ?_)
    intro v7 w7 hop7 hg7
    have HB7 := hid (HO.out.grown HBW.out hg7 HB.out)
    have HO7 := hid hop7
    clear hop7 hg7
    go_wp2_with fail
    go_ret
    exact ⟨_, rfl, HO7.out, HB7.out⟩
/-- A call that returns a row of its own. -/
def OwnS (l : List Bs) (w : World) (e : Ending) (w' : World) : Prop := ∃ v, e = .returned v ∧ OS w' w.heap.size v l ∧ Below w.heap.size w w'
set_option maxRecDepth 100000 in
theorem cloneS_any (l : List Bs) (v : Value) (w : World) (hR : RdS w v l) (hl : l.length ≤ 1000000000) : Calls Tryz.prog 36 #[v] w (OwnS l w) := by
  obtain ⟨o, cap, rfl, hcap, hc⟩ := hR.enc
  cases o with
  | none =>
    have e : l = [] := by
      rcases hc with hc | ⟨b, off, hc, -⟩
      · exact hc
      · cases hc
    subst e
    clear hc
    have hnil := fun (w : World) => Lib.run_eql_slice_nil (P := Tryz.prog) w 22 9 none 0 cap 0 0 underS
    simp only [List.length_nil]
    go_enter Tryz.func36, Tryz.ntmps36
    go_wp2_with fail
    go_ret
    exact ⟨_, rfl, oS_nil _ _, Below.refl _ _⟩
  | some a =>
    have hcs : ∀ j u, (encS l)[j]? = some u → (w.alloc (.cells #[] 9)).cell? (a.add j) = some u := fun j u hj => by
      rcases hc with hc | ⟨b, off, ho, hb, hc⟩
      · rw [hc] at hj; simp [encS_nil] at hj
      · cases ho
        rw [addr_add]
        exact keepc ((Below.refl w.heap.size w).alloc (Nat.le_refl _) _) (hc j u hj)
    have HCS := hid hcs
    have HN := hid (show ([] : List Bs).length + l.length ≤ 1000000000 by simpa using hl)
    have HO := hid (oS_new w w.heap.size (Nat.le_refl _))
    have HB := hid (show w.heap.size ≤ (w.alloc (.cells #[] 9)).heap.size by simp)
    have HBW := hid ((Below.refl w.heap.size w).alloc (Nat.le_refl _) (.cells #[] 9))
    clear hcs hc
    have hnil := fun (w : World) => Lib.run_eql_slice_nil (P := Tryz.prog) w 22 9 (some a) l.length cap 0 0 underS
    go_enter Tryz.func36, Tryz.ntmps36
    go_wp2_with (at_builtin; refine appAllS rfl _ _ rfl w.heap.size _ [] l a cap rfl rfl HO.out HCS.out HN.out HB.out ?_)
    intro v7 w7 hop7 hg7
    have HB7 := hid (HO.out.grown HBW.out hg7 HB.out)
    have HO7 := hid hop7
    clear hop7 hg7
    go_wp2_with fail
    go_ret
    exact ⟨_, rfl, HO7.out, HB7.out⟩
/-- A call that returns a row of its own. -/
def OwnW (l : List Wt) (w : World) (e : Ending) (w' : World) : Prop := ∃ v, e = .returned v ∧ OW w' w.heap.size v l ∧ Below w.heap.size w w'
set_option maxRecDepth 100000 in
theorem cloneW_any (l : List Wt) (v : Value) (w : World) (hR : RdW w v l) (hl : l.length ≤ 1000000000) : Calls Tryz.prog 37 #[v] w (OwnW l w) := by
  obtain ⟨o, cap, rfl, hcap, hc⟩ := hR.enc
  cases o with
  | none =>
    have e : l = [] := by
      rcases hc with hc | ⟨b, off, hc, -⟩
      · exact hc
      · cases hc
    subst e
    clear hc
    have hnil := fun (w : World) => Lib.run_eql_slice_nil (P := Tryz.prog) w 23 92 none 0 cap 0 0 underW
    simp only [List.length_nil]
    go_enter Tryz.func37, Tryz.ntmps37
    go_wp2_with fail
    go_ret
    exact ⟨_, rfl, oW_nil _ _, Below.refl _ _⟩
  | some a =>
    have hcs : ∀ j u, (encW l)[j]? = some u → (w.alloc (.cells #[] 92)).cell? (a.add j) = some u := fun j u hj => by
      rcases hc with hc | ⟨b, off, ho, hb, hc⟩
      · rw [hc] at hj; simp [encW_nil] at hj
      · cases ho
        rw [addr_add]
        exact keepc ((Below.refl w.heap.size w).alloc (Nat.le_refl _) _) (hc j u hj)
    have HCS := hid hcs
    have HN := hid (show ([] : List Wt).length + l.length ≤ 1000000000 by simpa using hl)
    have HO := hid (oW_new w w.heap.size (Nat.le_refl _))
    have HB := hid (show w.heap.size ≤ (w.alloc (.cells #[] 92)).heap.size by simp)
    have HBW := hid ((Below.refl w.heap.size w).alloc (Nat.le_refl _) (.cells #[] 92))
    clear hcs hc
    have hnil := fun (w : World) => Lib.run_eql_slice_nil (P := Tryz.prog) w 23 92 (some a) l.length cap 0 0 underW
    go_enter Tryz.func37, Tryz.ntmps37
    go_wp2_with (at_builtin; refine appAllW rfl _ _ rfl w.heap.size _ [] l a cap rfl rfl HO.out HCS.out HN.out HB.out ?_)
    intro v7 w7 hop7 hg7
    have HB7 := hid (HO.out.grown HBW.out hg7 HB.out)
    have HO7 := hid hop7
    clear hop7 hg7
    go_wp2_with fail
    go_ret
    exact ⟨_, rfl, HO7.out, HB7.out⟩
/-- A call that returns a row of its own. -/
def OwnA (l : List Ac) (w : World) (e : Ending) (w' : World) : Prop := ∃ v, e = .returned v ∧ OA w' w.heap.size v l ∧ Below w.heap.size w w'
set_option maxRecDepth 100000 in
theorem cloneA_any (l : List Ac) (v : Value) (w : World) (hR : RdA w v l) (hl : l.length ≤ 1000000000) : Calls Tryz.prog 88 #[v] w (OwnA l w) := by
  obtain ⟨o, cap, rfl, hcap, hc⟩ := hR.enc
  cases o with
  | none =>
    have e : l = [] := by
      rcases hc with hc | ⟨b, off, hc, -⟩
      · exact hc
      · cases hc
    subst e
    clear hc
    have hnil := fun (w : World) => Lib.run_eql_slice_nil (P := Tryz.prog) w 37 77 none 0 cap 0 0 underA
    simp only [List.length_nil]
    go_enter Tryz.func88, Tryz.ntmps88
    go_wp2_with fail
    go_ret
    exact ⟨_, rfl, oA_nil _ _, Below.refl _ _⟩
  | some a =>
    have hcs : ∀ j u, (encA l)[j]? = some u → (w.alloc (.cells #[] 77)).cell? (a.add j) = some u := fun j u hj => by
      rcases hc with hc | ⟨b, off, ho, hb, hc⟩
      · rw [hc] at hj; simp [encA_nil] at hj
      · cases ho
        rw [addr_add]
        exact keepc ((Below.refl w.heap.size w).alloc (Nat.le_refl _) _) (hc j u hj)
    have HCS := hid hcs
    have HN := hid (show ([] : List Ac).length + l.length ≤ 1000000000 by simpa using hl)
    have HO := hid (oA_new w w.heap.size (Nat.le_refl _))
    have HB := hid (show w.heap.size ≤ (w.alloc (.cells #[] 77)).heap.size by simp)
    have HBW := hid ((Below.refl w.heap.size w).alloc (Nat.le_refl _) (.cells #[] 77))
    clear hcs hc
    have hnil := fun (w : World) => Lib.run_eql_slice_nil (P := Tryz.prog) w 37 77 (some a) l.length cap 0 0 underA
    go_enter Tryz.func88, Tryz.ntmps88
    go_wp2_with (at_builtin; refine appAllA rfl _ _ rfl w.heap.size _ [] l a cap rfl rfl HO.out HCS.out HN.out HB.out ?_)
    intro v7 w7 hop7 hg7
    have HB7 := hid (HO.out.grown HBW.out hg7 HB.out)
    have HO7 := hid hop7
    clear hop7 hg7
    go_wp2_with fail
    go_ret
    exact ⟨_, rfl, HO7.out, HB7.out⟩
end Go.Proofs.YtifcgimpgbeocaaGreat
/- slices.Repeat of a slice of one element: strings, numbers. -/
set_option linter.unusedVariables false
set_option linter.unusedSimpArgs false
namespace Go.Proofs.YtifcgimpgbeocaaGreat
open Go.RowKit
attribute [local go_sem] Oper.semAt_some
theorem rep_step {α : Type} (x z : α) {n m k : Nat} (h : m + k ≤ n) : (List.replicate m x ++ List.replicate (n - m) z).take m ++ List.replicate k x ++ (List.replicate m x ++ List.replicate (n - m) z).drop (m + k) = List.replicate (m + k) x ++ List.replicate (n - (m + k)) z := by
  rw [List.take_left' (by simp), List.drop_append, List.drop_of_length_le (by simp), List.drop_replicate, List.replicate_append_replicate]
  simp only [List.length_replicate, List.nil_append]
  congr 2
  omega
/-- Where a row of single cells begins behind l of them: at its capacity's end it keeps the old address. -/
def cut1 (g l cap : Nat) : Addr := if cap = l then ⟨g, 0, none⟩ else ⟨g, l, none⟩
theorem cut1_lt {g l cap : Nat} (h : l < cap) : cut1 g l cap = ⟨g, l, none⟩ := by unfold cut1; rw [if_neg (by omega)]
theorem elemS : Tryz.prog.elem 22 = 9 := by kernel_rfl
theorem sliceS : Tryz.prog.underlying 22 = some (.slice (Tryz.prog.elem 22)) := by kernel_rfl
theorem sizeOfS (w : World) : (sizeOf 9).run Tryz.prog w = .ok 1 w := by kernel_rfl
@[go_sem high] theorem run_cutlS (g len cap : Nat) (w : World) (kl : IntKind) (l : Int) (h0 : 0 ≤ l) (h1 : l ≤ len) :
    (Instr.slice 22 (.slice (some ⟨g, 0, none⟩) len cap) (some (.int kl l)) none none).run Tryz.prog w = .ok (.slice (some (cut1 g l.toNat cap)) (len - l.toNat) (cap - l.toNat)) w := by
  rw [run_slice_l (t := 22) (ht := sliceS) (kl := kl) (l := l) (h0 := h0) (h1 := h1), elemS, sizeOfS]
  simp only [Result.andThen, sliced, cut1]
  split <;> simp [addr_add]
@[go_sem high] theorem run_cuthS (g len cap : Nat) (w : World) (kh : IntKind) (h : Int) (h0 : 0 ≤ h) (h1 : h ≤ cap) :
    (Instr.slice 22 (.slice (some ⟨g, 0, none⟩) len cap) none (some (.int kh h)) none).run Tryz.prog w = .ok (.slice (some ⟨g, 0, none⟩) h.toNat cap) w := by
  rw [run_slice_h (t := 22) (ht := sliceS) (kh := kh) (h := h) (h0 := h0) (h2 := h1), elemS, sizeOfS]
  simp only [Result.andThen, sliced, Nat.zero_mul, Nat.sub_zero]
  split <;> simp [addr_add]
/-- The row while slices.Repeat fills it. -/
def halfS (x : Bs) (n m : Nat) : List Value := List.replicate m (strV x) ++ List.replicate (n - m) (.string ⟨#[]⟩)
theorem halfS_len (x : Bs) {n m : Nat} (h : m ≤ n) : (halfS x n m).length = n := by unfold halfS; simp; omega
theorem sizeS : (Tryz.prog.info? 9).map (·.size) = some 1 := by kernel_rfl
theorem makeS (w : World) (n : Nat) (hn : n ≤ 1000000000) : (Instr.makeSlice 22 (.int .i64 (n : Int)) (.int .i64 (n : Int))).run Tryz.prog w = .ok (.slice (some ⟨w.heap.size, 0, none⟩) n n) (w.alloc (.cells (List.replicate n (.string ⟨#[]⟩)).toArray 9)) := by
  obtain ⟨i0, hi, hz0, hz1, hz2⟩ := info_parts infoS
  have := run_make (P := Tryz.prog) w 22 9 i0 (.string ⟨#[]⟩) underS hi hz0 .i64 .i64 n n (by omega) (Int.le_refl _) (by rw [hz2]; omega) (by omega)
  rw [this]
  have e : madeCells ((.string ⟨#[]⟩ : Value)).cells (n * 1) = (List.replicate n (.string ⟨#[]⟩ : Value)).toArray := by
    apply Array.ext'
    rw [Nat.mul_one, show ((.string ⟨#[]⟩ : Value)).cells = #[.string ⟨#[]⟩] from rfl, toList_madeCells_one]
  rw [Int.toNat_natCast, hz1, e]
theorem encS_rep (x : Bs) : ∀ n, encS (List.replicate n x) = List.replicate n (strV x)
  | 0 => rfl
  | n + 1 => by rw [List.replicate_succ, encS_cons, encS_rep x n, List.replicate_succ]; rfl
/-- One round of slices.Repeat. -/
theorem fillS {w : World} {g n m : Nat} {x : Bs} (hm : m ≤ n) (h : w.heap[g]? = some (.cells (halfS x n m).toArray 9 (0, 0))) (ty : TypeId) (dc sc : Nat) :
    (Builtin.copy_ #[22, 22] ty #[.slice (some ⟨g, m, none⟩) (n - m) dc, .slice (some ⟨g, 0, none⟩) m sc]).run Tryz.prog w = .ok (goInt (Nat.min m (n - m))) (w.setRow g (halfS x n (m + Nat.min m (n - m))).toArray) := by
  have hk : Nat.min m (n - m) ≤ n - m := Nat.min_le_right _ _
  have hk2 : Nat.min m (n - m) ≤ m := Nat.min_le_left _ _
  rw [run_copy_rowN w 22 22 ty 9 1 g m (n - m) dc ⟨g, 0, none⟩ m sc (halfS x n m).toArray 9 (List.replicate (Nat.min m (n - m)) (strV x)) underS sizeS h (by simp) ?_ ?_ ?_]
  · congr 3
    show (halfS x n m).take m ++ _ ++ (halfS x n m).drop _ = _
    rw [List.length_replicate]
    exact rep_step _ _ (by omega)
  · intro j v hj
    obtain ⟨hj1, rfl⟩ := List.getElem?_eq_some_iff.1 hj
    rw [List.length_replicate] at hj1
    have hg : (halfS x n m)[j]? = some (strV x) := by
      unfold halfS
      rw [List.getElem?_append_left (by rw [List.length_replicate]; omega), List.getElem?_replicate, if_pos (by omega)]
    rw [List.getElem_replicate, addr_add, Nat.zero_add]
    unfold World.cell?
    simp only [h]
    simpa using hg
  · rw [List.length_replicate, List.size_toArray, halfS_len x hm]; omega
  · intro v hv
    rw [List.eq_of_mem_replicate hv]; rfl
theorem firstS {w : World} {g n b : Nat} {x : Bs} (h : w.heap[g]? = some (.cells (halfS x n 0).toArray 9 (0, 0))) (hc : w.cell? ⟨b, 0, none⟩ = some (strV x)) (ty : TypeId) (dc : Nat) :
    (Builtin.copy_ #[22, 22] ty #[.slice (some ⟨g, 0, none⟩) n dc, .slice (some ⟨b, 0, none⟩) 1 1]).run Tryz.prog w = .ok (goInt (Nat.min 1 n)) (w.setRow g (halfS x n (Nat.min 1 n)).toArray) := by
  have hk : Nat.min 1 n ≤ n := Nat.min_le_right _ _
  have hk2 : Nat.min 1 n ≤ 1 := Nat.min_le_left _ _
  rw [run_copy_rowN w 22 22 ty 9 1 g 0 n dc ⟨b, 0, none⟩ 1 1 (halfS x n 0).toArray 9 (List.replicate (Nat.min 1 n) (strV x)) underS sizeS h (by simp) ?_ ?_ ?_]
  · congr 3
    show (halfS x n 0).take 0 ++ _ ++ (halfS x n 0).drop _ = _
    unfold halfS
    rw [List.length_replicate]
    have := rep_step (strV x) (.string ⟨#[]⟩ : Value) (n := n) (m := 0) (k := Nat.min 1 n) (by omega)
    simp only [Nat.zero_add] at this ⊢
    exact this
  · intro j v hj
    obtain ⟨hj1, rfl⟩ := List.getElem?_eq_some_iff.1 hj
    rw [List.length_replicate] at hj1
    rw [List.getElem_replicate, addr_add, show 0 + j = 0 by omega]
    exact hc
  · rw [List.length_replicate, List.size_toArray, halfS_len x (Nat.zero_le _)]; omega
  · intro v hv
    rw [List.eq_of_mem_replicate hv]; rfl
set_option maxHeartbeats 1000000 in
set_option maxRecDepth 100000 in
theorem rptS_any (x : Bs) (b n : Nat) (w : World) (hc : w.cell? ⟨b, 0, none⟩ = some (strV x)) (hn : n ≤ 1000000000) : Calls Tryz.prog 72 #[.slice (some ⟨b, 0, none⟩) 1 1, .int .i64 (n : Int)] w (OwnS (List.replicate n x) w) := by
  have HMUL := hid (fun w' => Tryz.bits_Mul 1 n (by decide) (by omega) w')
  have hm1 : 1 * n / 18446744073709551616 = 0 := by omega
  have hm2 : 1 * n % 18446744073709551616 = n := by omega
  rw [hm1, hm2] at HMUL
  have hmk := makeS w n hn
  have hn0 : ¬ ((n : Int) < 0) := by omega
  have hblt : b < w.heap.size := World.block_lt_of_cell? _ _ hc
  have HR0 : Hid ((w.alloc (.cells (List.replicate n (.string ⟨#[]⟩)).toArray 9)).heap[w.heap.size]? = some (.cells (halfS x n 0).toArray 9 (0, 0))) := by
    show _ = _
    rw [heap_alloc_new]; unfold halfS; simp
  have hcp := fun ty dc => firstS (n := n) HR0.out (keepc ((Below.refl w.heap.size w).alloc (Nat.le_refl _) (.cells (List.replicate n (.string ⟨#[]⟩)).toArray 9)) hc) ty dc
  have hcp := hcp 3 n
  obtain ⟨ROW, hROW⟩ : ∃ ROW : Array Value, (List.replicate n (.string ⟨#[]⟩ : Value)).toArray = ROW := ⟨_, rfl⟩
  rw [hROW] at hmk HR0 hcp
  clear hROW
  have hw1 : IntKind.u64.wrap (n : Int) = (n : Int) := by rw [IntKind.wrap_u64]; omega
  have hw2 : IntKind.i64.wrap (n : Int) = (n : Int) := IntWalk.i64_in _ ⟨by omega, by omega⟩
  have hd1 : decide (9223372036854775807 < (n : Int)) = false := by simp; omega
  go_enter Tryz.func72, Tryz.ntmps72
  go_wp2_with (first | (go_at_call 106; refine (HMUL.out _).mono ?_; rintro e w1 ⟨rfl, rfl⟩) | simp only [hcp])
  have HR1 : Hid (((w1.alloc (.cells ROW 9)).setRow w1.heap.size (halfS x n (Nat.min 1 n)).toArray).heap[w1.heap.size]? = some (.cells (halfS x n (Nat.min 1 n)).toArray 9 (0, 0))) := setRow_heap _ _ _ _ _ _ HR0.out
  have HB1 := hid (show Below w1.heap.size w1 ((w1.alloc (.cells ROW 9)).setRow w1.heap.size (halfS x n (Nat.min 1 n)).toArray) from ⟨rfl, rfl, rfl, by simp, fun k hk => (setRow_other _ _ _ _ (by omega)).trans (Below.heap_alloc _ _ _ hk)⟩)
  have hm0 : Nat.min 1 n ≤ n := Nat.min_le_right _ _
  have hm1 : n = 0 ∨ 0 < Nat.min 1 n := by rcases Nat.eq_zero_or_pos n with h | h; exact .inl h; exact .inr (by show 0 < Min.min 1 n; omega)
  obtain ⟨m0, hm0e⟩ : ∃ m, Nat.min 1 n = m := ⟨_, rfl⟩
  rw [hm0e] at HR1 HB1 hm0 hm1
  obtain ⟨W1, hW1⟩ : ∃ W1, (w1.alloc (.cells ROW 9)).setRow w1.heap.size (halfS x n (Nat.min 1 n)).toArray = W1 := ⟨_, rfl⟩
  rw [hm0e] at hW1 ⊢
  rw [hW1] at HR1 HB1 ⊢
  obtain ⟨G, hG⟩ : ∃ G, w1.heap.size = G := ⟨_, rfl⟩
  have HG := hid hG
  rw [hG] at HR1 HB1 ⊢
  clear hW1 hm0e hG hcp hmk HR0 hc HMUL
  go_loopw [8] (fun p wr => ∃ m : Nat, p = .int .i64 m ∧ m ≤ n ∧ (n = 0 ∨ 0 < m) ∧ Hid (wr.heap[G]? = some (.cells (halfS x n m).toArray 9 (0, 0))) ∧ Hid (Below G w1 wr)) (fun p _ => n - (intOf p).toNat)
  case atStart => exact ⟨m0, rfl, hm0, hm1, HR1, HB1⟩
  case round =>
    obtain ⟨m, rfl, hm, hm1', HR, HB⟩ := hrel
    by_cases hlt : m < n
    · have hk1 : 0 < Nat.min m (n - m) := by show 0 < Min.min m (n - m); omega
      have hk2 : Nat.min m (n - m) ≤ n - m := Nat.min_le_right _ _
      have hcp := fun ty dc sc => fillS (w := wr.drew) hm HR.out ty dc sc
      have HR2 : Hid ((wr.drew.setRow G (halfS x n (m + Nat.min m (n - m))).toArray).heap[G]? = some (.cells (halfS x n (m + Nat.min m (n - m))).toArray 9 (0, 0))) := setRow_heap _ _ _ _ _ _ HR.out
      have HB2 := hid (show Below G w1 (wr.drew.setRow G (halfS x n (m + Nat.min m (n - m))).toArray) from HB.out.drew.trans ⟨rfl, rfl, rfl, by simp, fun k hk => setRow_other _ _ _ _ (by omega)⟩)
      obtain ⟨q, hq⟩ : ∃ q, Nat.min m (n - m) = q := ⟨_, rfl⟩
      rw [hq] at hk1 hk2 HR2 HB2
      have hcp := fun ty dc sc => (hcp ty dc sc).trans (by rw [hq])
      have hw3 : IntKind.i64.wrap ((m : Int) + (q : Int)) = (m : Int) + (q : Int) := IntWalk.i64_in _ ⟨by omega, by omega⟩
      have c1 : cut1 G m n = ⟨G, m, none⟩ := cut1_lt hlt
      have z1 : (m : Int) ≤ (n : Int) := by omega
      have hm' : m < n := hlt
      have hd : decide ((m : Int) < (n : Int)) = true := by simp; omega
      go_wp2_with fail
      have e1 : ((m : Int) ≤ (n : Int)) ∨ True := .inr trivial
      go_region_law (refine step_copy_runI rfl _ _ 22 22 rfl (.slice (some ⟨G, m, none⟩) (n - m) (n - m)) (.slice (some ⟨G, 0, none⟩) m n) (by simp [Act.eval, Act.put]) (by simp [Act.eval, Act.put]) (hcp _ _ _) ?_)
      go_simp
      go_roundw
      case rel => exact ⟨_, _, _, _, _, _, _, _, _, _, _, _, _, _, ⟨m + q, by go_num, by omega, by omega, HR2, HB2⟩, rfl⟩
      case measure => simp [intOf]; omega
    · have hmn : m = n := by omega
      subst hmn
      have hO : OwnS (List.replicate m x) w1 (.returned (.slice (some ⟨G, 0, none⟩) m m)) wr := by
        refine ⟨_, rfl, ?_, by rw [HG.out]; exact HB.out⟩
        unfold OS
        rw [HG.out]
        refine ⟨encS_length _, .inr ⟨G, m, _, by rw [List.length_replicate], Nat.le_refl _, HR.out, by rw [List.length_replicate]; exact Nat.le_refl _, by unfold maxLen; omega, by rw [List.size_toArray, halfS_len x (Nat.le_refl _)]; omega, ?_⟩⟩
        rw [encS_rep]
        unfold halfS
        simp
      have HO := hid hO
      clear hO hm1'
      go_wp2_with fail
      go_ret
      exact HO.out
/-- A call that returns a row of its own. -/
def OwnI (l : List Int) (w : World) (e : Ending) (w' : World) : Prop := ∃ v, e = .returned v ∧ OI w' w.heap.size v l ∧ Below w.heap.size w w'
theorem elemI : Tryz.prog.elem 168 = 3 := by kernel_rfl
theorem sliceI : Tryz.prog.underlying 168 = some (.slice (Tryz.prog.elem 168)) := by kernel_rfl
theorem sizeOfI (w : World) : (sizeOf 3).run Tryz.prog w = .ok 1 w := by kernel_rfl
@[go_sem high] theorem run_cutlI (g len cap : Nat) (w : World) (kl : IntKind) (l : Int) (h0 : 0 ≤ l) (h1 : l ≤ len) :
    (Instr.slice 168 (.slice (some ⟨g, 0, none⟩) len cap) (some (.int kl l)) none none).run Tryz.prog w = .ok (.slice (some (cut1 g l.toNat cap)) (len - l.toNat) (cap - l.toNat)) w := by
  rw [run_slice_l (t := 168) (ht := sliceI) (kl := kl) (l := l) (h0 := h0) (h1 := h1), elemI, sizeOfI]
  simp only [Result.andThen, sliced, cut1]
  split <;> simp [addr_add]
@[go_sem high] theorem run_cuthI (g len cap : Nat) (w : World) (kh : IntKind) (h : Int) (h0 : 0 ≤ h) (h1 : h ≤ cap) :
    (Instr.slice 168 (.slice (some ⟨g, 0, none⟩) len cap) none (some (.int kh h)) none).run Tryz.prog w = .ok (.slice (some ⟨g, 0, none⟩) h.toNat cap) w := by
  rw [run_slice_h (t := 168) (ht := sliceI) (kh := kh) (h := h) (h0 := h0) (h2 := h1), elemI, sizeOfI]
  simp only [Result.andThen, sliced, Nat.zero_mul, Nat.sub_zero]
  split <;> simp [addr_add]
/-- The row while slices.Repeat fills it. -/
def halfI (x : Int) (n m : Nat) : List Value := List.replicate m (.int .i64 x) ++ List.replicate (n - m) (.int .i64 0)
theorem halfI_len (x : Int) {n m : Nat} (h : m ≤ n) : (halfI x n m).length = n := by unfold halfI; simp; omega
theorem sizeI : (Tryz.prog.info? 3).map (·.size) = some 1 := by kernel_rfl
theorem makeI (w : World) (n : Nat) (hn : n ≤ 1000000000) : (Instr.makeSlice 168 (.int .i64 (n : Int)) (.int .i64 (n : Int))).run Tryz.prog w = .ok (.slice (some ⟨w.heap.size, 0, none⟩) n n) (w.alloc (.cells (List.replicate n (.int .i64 0)).toArray 3)) := by
  obtain ⟨i0, hi, hz0, hz1, hz2⟩ := info_parts infoI
  have := run_make (P := Tryz.prog) w 168 3 i0 (.int .i64 0) underI hi hz0 .i64 .i64 n n (by omega) (Int.le_refl _) (by rw [hz2]; omega) (by omega)
  rw [this]
  have e : madeCells ((.int .i64 0 : Value)).cells (n * 1) = (List.replicate n (.int .i64 0 : Value)).toArray := by
    apply Array.ext'
    rw [Nat.mul_one, show ((.int .i64 0 : Value)).cells = #[.int .i64 0] from rfl, toList_madeCells_one]
  rw [Int.toNat_natCast, hz1, e]
theorem encI_rep (x : Int) : ∀ n, encI (List.replicate n x) = List.replicate n (.int .i64 x)
  | 0 => rfl
  | n + 1 => by rw [List.replicate_succ, encI_cons, encI_rep x n, List.replicate_succ]; rfl
/-- One round of slices.Repeat. -/
theorem fillI {w : World} {g n m : Nat} {x : Int} (hm : m ≤ n) (h : w.heap[g]? = some (.cells (halfI x n m).toArray 3 (0, 0))) (ty : TypeId) (dc sc : Nat) :
    (Builtin.copy_ #[168, 168] ty #[.slice (some ⟨g, m, none⟩) (n - m) dc, .slice (some ⟨g, 0, none⟩) m sc]).run Tryz.prog w = .ok (goInt (Nat.min m (n - m))) (w.setRow g (halfI x n (m + Nat.min m (n - m))).toArray) := by
  have hk : Nat.min m (n - m) ≤ n - m := Nat.min_le_right _ _
  have hk2 : Nat.min m (n - m) ≤ m := Nat.min_le_left _ _
  rw [run_copy_rowN w 168 168 ty 3 1 g m (n - m) dc ⟨g, 0, none⟩ m sc (halfI x n m).toArray 3 (List.replicate (Nat.min m (n - m)) (.int .i64 x)) underI sizeI h (by simp) ?_ ?_ ?_]
  · congr 3
    show (halfI x n m).take m ++ _ ++ (halfI x n m).drop _ = _
    rw [List.length_replicate]
    exact rep_step _ _ (by omega)
  · intro j v hj
    obtain ⟨hj1, rfl⟩ := List.getElem?_eq_some_iff.1 hj
    rw [List.length_replicate] at hj1
    have hg : (halfI x n m)[j]? = some (.int .i64 x) := by
      unfold halfI
      rw [List.getElem?_append_left (by rw [List.length_replicate]; omega), List.getElem?_replicate, if_pos (by omega)]
    rw [List.getElem_replicate, addr_add, Nat.zero_add]
    unfold World.cell?
    simp only [h]
    simpa using hg
  · rw [List.length_replicate, List.size_toArray, halfI_len x hm]; omega
  · intro v hv
    rw [List.eq_of_mem_replicate hv]; rfl
theorem firstI {w : World} {g n b : Nat} {x : Int} (h : w.heap[g]? = some (.cells (halfI x n 0).toArray 3 (0, 0))) (hc : w.cell? ⟨b, 0, none⟩ = some (.int .i64 x)) (ty : TypeId) (dc : Nat) :
    (Builtin.copy_ #[168, 168] ty #[.slice (some ⟨g, 0, none⟩) n dc, .slice (some ⟨b, 0, none⟩) 1 1]).run Tryz.prog w = .ok (goInt (Nat.min 1 n)) (w.setRow g (halfI x n (Nat.min 1 n)).toArray) := by
  have hk : Nat.min 1 n ≤ n := Nat.min_le_right _ _
  have hk2 : Nat.min 1 n ≤ 1 := Nat.min_le_left _ _
  rw [run_copy_rowN w 168 168 ty 3 1 g 0 n dc ⟨b, 0, none⟩ 1 1 (halfI x n 0).toArray 3 (List.replicate (Nat.min 1 n) (.int .i64 x)) underI sizeI h (by simp) ?_ ?_ ?_]
  · congr 3
    show (halfI x n 0).take 0 ++ _ ++ (halfI x n 0).drop _ = _
    unfold halfI
    rw [List.length_replicate]
    have := rep_step (.int .i64 x) (.int .i64 0 : Value) (n := n) (m := 0) (k := Nat.min 1 n) (by omega)
    simp only [Nat.zero_add] at this ⊢
    exact this
  · intro j v hj
    obtain ⟨hj1, rfl⟩ := List.getElem?_eq_some_iff.1 hj
    rw [List.length_replicate] at hj1
    rw [List.getElem_replicate, addr_add, show 0 + j = 0 by omega]
    exact hc
  · rw [List.length_replicate, List.size_toArray, halfI_len x (Nat.zero_le _)]; omega
  · intro v hv
    rw [List.eq_of_mem_replicate hv]; rfl
set_option maxHeartbeats 1000000 in
set_option maxRecDepth 100000 in
theorem rptI_any (x : Int) (b n : Nat) (w : World) (hc : w.cell? ⟨b, 0, none⟩ = some (.int .i64 x)) (hn : n ≤ 1000000000) : Calls Tryz.prog 120 #[.slice (some ⟨b, 0, none⟩) 1 1, .int .i64 (n : Int)] w (OwnI (List.replicate n x) w) := by
  have HMUL := hid (fun w' => Tryz.bits_Mul 1 n (by decide) (by omega) w')
  have hm1 : 1 * n / 18446744073709551616 = 0 := by omega
  have hm2 : 1 * n % 18446744073709551616 = n := by omega
  rw [hm1, hm2] at HMUL
  have hmk := makeI w n hn
  have hn0 : ¬ ((n : Int) < 0) := by omega
  have hblt : b < w.heap.size := World.block_lt_of_cell? _ _ hc
  have HR0 : Hid ((w.alloc (.cells (List.replicate n (.int .i64 0)).toArray 3)).heap[w.heap.size]? = some (.cells (halfI x n 0).toArray 3 (0, 0))) := by
    show _ = _
    rw [heap_alloc_new]; unfold halfI; simp
  have hcp := fun ty dc => firstI (n := n) HR0.out (keepc ((Below.refl w.heap.size w).alloc (Nat.le_refl _) (.cells (List.replicate n (.int .i64 0)).toArray 3)) hc) ty dc
  have hcp := hcp 3 n
  obtain ⟨ROW, hROW⟩ : ∃ ROW : Array Value, (List.replicate n (.int .i64 0 : Value)).toArray = ROW := ⟨_, rfl⟩
  rw [hROW] at hmk HR0 hcp
  clear hROW
  have hw1 : IntKind.u64.wrap (n : Int) = (n : Int) := by rw [IntKind.wrap_u64]; omega
  have hw2 : IntKind.i64.wrap (n : Int) = (n : Int) := IntWalk.i64_in _ ⟨by omega, by omega⟩
  have hd1 : decide (9223372036854775807 < (n : Int)) = false := by simp; omega
  go_enter Tryz.func120, Tryz.ntmps120
  go_wp2_with (first | (go_at_call 106; refine (HMUL.out _).mono ?_; rintro e w1 ⟨rfl, rfl⟩) | simp only [hcp])
  have HR1 : Hid (((w1.alloc (.cells ROW 3)).setRow w1.heap.size (halfI x n (Nat.min 1 n)).toArray).heap[w1.heap.size]? = some (.cells (halfI x n (Nat.min 1 n)).toArray 3 (0, 0))) := setRow_heap _ _ _ _ _ _ HR0.out
  have HB1 := hid (show Below w1.heap.size w1 ((w1.alloc (.cells ROW 3)).setRow w1.heap.size (halfI x n (Nat.min 1 n)).toArray) from ⟨rfl, rfl, rfl, by simp, fun k hk => (setRow_other _ _ _ _ (by omega)).trans (Below.heap_alloc _ _ _ hk)⟩)
  have hm0 : Nat.min 1 n ≤ n := Nat.min_le_right _ _
  have hm1 : n = 0 ∨ 0 < Nat.min 1 n := by rcases Nat.eq_zero_or_pos n with h | h; exact .inl h; exact .inr (by show 0 < Min.min 1 n; omega)
  obtain ⟨m0, hm0e⟩ : ∃ m, Nat.min 1 n = m := ⟨_, rfl⟩
  rw [hm0e] at HR1 HB1 hm0 hm1
  obtain ⟨W1, hW1⟩ : ∃ W1, (w1.alloc (.cells ROW 3)).setRow w1.heap.size (halfI x n (Nat.min 1 n)).toArray = W1 := ⟨_, rfl⟩
  rw [hm0e] at hW1 ⊢
  rw [hW1] at HR1 HB1 ⊢
  obtain ⟨G, hG⟩ : ∃ G, w1.heap.size = G := ⟨_, rfl⟩
  have HG := hid hG
  rw [hG] at HR1 HB1 ⊢
  clear hW1 hm0e hG hcp hmk HR0 hc HMUL
  go_loopw [8] (fun p wr => ∃ m : Nat, p = .int .i64 m ∧ m ≤ n ∧ (n = 0 ∨ 0 < m) ∧ Hid (wr.heap[G]? = some (.cells (halfI x n m).toArray 3 (0, 0))) ∧ Hid (Below G w1 wr)) (fun p _ => n - (intOf p).toNat)
  case atStart => exact ⟨m0, rfl, hm0, hm1, HR1, HB1⟩
  case round =>
    obtain ⟨m, rfl, hm, hm1', HR, HB⟩ := hrel
    by_cases hlt : m < n
    · have hk1 : 0 < Nat.min m (n - m) := by show 0 < Min.min m (n - m); omega
      have hk2 : Nat.min m (n - m) ≤ n - m := Nat.min_le_right _ _
      have hcp := fun ty dc sc => fillI (w := wr.drew) hm HR.out ty dc sc
      have HR2 : Hid ((wr.drew.setRow G (halfI x n (m + Nat.min m (n - m))).toArray).heap[G]? = some (.cells (halfI x n (m + Nat.min m (n - m))).toArray 3 (0, 0))) := setRow_heap _ _ _ _ _ _ HR.out
      have HB2 := hid (show Below G w1 (wr.drew.setRow G (halfI x n (m + Nat.min m (n - m))).toArray) from HB.out.drew.trans ⟨rfl, rfl, rfl, by simp, fun k hk => setRow_other _ _ _ _ (by omega)⟩)
      obtain ⟨q, hq⟩ : ∃ q, Nat.min m (n - m) = q := ⟨_, rfl⟩
      rw [hq] at hk1 hk2 HR2 HB2
      have hcp := fun ty dc sc => (hcp ty dc sc).trans (by rw [hq])
      have hw3 : IntKind.i64.wrap ((m : Int) + (q : Int)) = (m : Int) + (q : Int) := IntWalk.i64_in _ ⟨by omega, by omega⟩
      have c1 : cut1 G m n = ⟨G, m, none⟩ := cut1_lt hlt
      have z1 : (m : Int) ≤ (n : Int) := by omega
      have hm' : m < n := hlt
      have hd : decide ((m : Int) < (n : Int)) = true := by simp; omega
      go_wp2_with fail
      have e1 : ((m : Int) ≤ (n : Int)) ∨ True := .inr trivial
      go_region_law (refine step_copy_runI rfl _ _ 168 168 rfl (.slice (some ⟨G, m, none⟩) (n - m) (n - m)) (.slice (some ⟨G, 0, none⟩) m n) (by simp [Act.eval, Act.put]) (by simp [Act.eval, Act.put]) (hcp _ _ _) ?_)
      go_simp
      go_roundw
      case rel => exact ⟨_, _, _, _, _, _, _, _, _, _, _, _, _, _, ⟨m + q, by go_num, by omega, by omega, HR2, HB2⟩, rfl⟩
      case measure => simp [intOf]; omega
    · have hmn : m = n := by omega
      subst hmn
      have hO : OwnI (List.replicate m x) w1 (.returned (.slice (some ⟨G, 0, none⟩) m m)) wr := by
        refine ⟨_, rfl, ?_, by rw [HG.out]; exact HB.out⟩
        unfold OI
        rw [HG.out]
        refine ⟨encI_length _, .inr ⟨G, m, _, by rw [List.length_replicate], Nat.le_refl _, HR.out, by rw [List.length_replicate]; exact Nat.le_refl _, by unfold maxLen; omega, by rw [List.size_toArray, halfI_len x (Nat.le_refl _)]; omega, ?_⟩⟩
        rw [encI_rep]
        unfold halfI
        simp
      have HO := hid hO
      clear hO hm1'
      go_wp2_with fail
      go_ret
      exact HO.out
end Go.Proofs.YtifcgimpgbeocaaGreat
/- CheckDisk. -/
set_option linter.unusedVariables false
set_option linter.unusedSimpArgs false
namespace Go.Proofs.YtifcgimpgbeocaaGreat
open Go.RowKit
attribute [local go_sem] Oper.semAt_some
theorem isDk_any (d : Dk) : isDk d = (decide (4 ≤ d.1.length ∧ d.1.length ≤ 4096) && (!d.1.any (fun x => x.length != 64) && !d.2.any (fun x => !isWt d.1.length x))) := by
  unfold isDk
  congr 1
  rw [List.all_eq_not_any_not, List.all_eq_not_any_not]
  rfl
set_option maxHeartbeats 1000000 in
set_option maxRecDepth 100000 in
theorem checkdisk_any (d : Dk) (vp vq : Value) (w : World) (hp : RdS w vp d.1) (hq : RdW w vq d.2) (hl : d.2.length ≤ 1000000000) : Calls Tryz.prog 34 #[.agg #[vp, vq]] w (Ret (.int .i64 (if isDk d = true then 0 else 142)) w) := by
  have hd := isDk_any d
  have hb0 := (Below.refl w.heap.size w).alloc (Nat.le_refl _) (.cells #[vp, vq] 25)
  have hx : (w.alloc (.cells #[vp, vq] 25)).cell? ⟨w.heap.size, 0, none⟩ = some vp := cell_new _ _ _ 0 _ rfl
  have hy : (w.alloc (.cells #[vp, vq] 25)).cell? ⟨w.heap.size, 1, none⟩ = some vq := cell_new _ _ _ 1 _ rfl
  have hvp : ∃ o c, vp = .slice o d.1.length c := by obtain ⟨o, c, e, -⟩ := hp; exact ⟨o, c, e⟩
  have HS := hid (fun w' (hb : Below w.heap.size w w') (h : d.1.length ≤ 4096) => hasS_any d.1 vp w' (hp.below hb) (by omega))
  have HW := hid (fun w' (hb : Below (w.alloc (.cells #[vp, vq] 25)).heap.size (w.alloc (.cells #[vp, vq] 25)) w') => hasW_any d.2 vq w.heap.size vp d.1.length hvp w' ((hq.below hb0).below hb) (keepc hb hx) hl)
  obtain ⟨op, cp, rfl, -, -⟩ := hp
  obtain ⟨oq, cq, rfl, -, -⟩ := hq
  obtain ⟨N, hN⟩ : ∃ N, d.1.length = N := ⟨_, rfl⟩
  obtain ⟨M, hM⟩ : ∃ M, d.2.length = M := ⟨_, rfl⟩
  obtain ⟨q1, hq1⟩ : ∃ q, d.1.any (fun x => x.length != 64) = q := ⟨_, rfl⟩
  obtain ⟨q2, hq2⟩ : ∃ q, d.2.any (fun x => !isWt d.1.length x) = q := ⟨_, rfl⟩
  rw [hq1, hq2, hN] at hd
  rw [hq1] at HS
  rw [hq2] at HW
  simp only [hN, hM] at HS HW hx hy hb0 ⊢
  have HB0 := hid hb0
  have HX := hid hx
  have HY := hid hy
  clear hq1 hq2 hvp hb0 hx hy hl
  clear hN hM
  by_cases h1 : N < 4
  · have hr : isDk d = false := by rw [hd]; simp; omega
    rw [hr, if_neg (by simp)]
    have g1 : decide ((N : Int) < 4) = true := by simp; omega
    clear hd hr HS HW HX HY
    go_enter Tryz.func34, Tryz.ntmps34
    go_wp2_with fail
    go_ret
    exact ⟨rfl, HB0.out⟩
  have g1 : decide ((N : Int) < 4) = false := by simp; omega
  by_cases h2 : 4096 < N
  · have hr : isDk d = false := by rw [hd]; simp; omega
    rw [hr, if_neg (by simp)]
    have g2 : decide (4096 < (N : Int)) = true := by simp; omega
    clear hd hr HS HW HX HY
    go_enter Tryz.func34, Tryz.ntmps34
    go_wp2_with fail
    go_ret
    exact ⟨rfl, HB0.out⟩
  have g2 : decide (4096 < (N : Int)) = false := by simp; omega
  have hdd : isDk d = (!q1 && !q2) := by rw [hd]; have : decide (4 ≤ N ∧ N ≤ 4096) = true := by simp; omega
                                         rw [this, Bool.true_and]
  have HS2 := hid (fun w' hb => HS.out w' hb (by omega))
  clear hd HS h1 h2
  cases q1 with
  | true =>
    have hr : isDk d = false := by rw [hdd]; rfl
    rw [hr, if_neg (by simp)]
    clear hdd hr HW
    go_enter Tryz.func34, Tryz.ntmps34
    go_wp2_with fail
    refine (HS2.out _ HB0.out).mono ?_
    rintro e w1 ⟨rfl, hb1⟩
    have HB1 := hid (below_step hb1 HB0.out)
    clear hb1
    go_wp2_with fail
    go_ret
    exact ⟨rfl, HB1.out⟩
  | false =>
    cases q2 with
    | true =>
      have hr : isDk d = false := by rw [hdd]; rfl
      rw [hr, if_neg (by simp)]
      clear hdd hr
      go_enter Tryz.func34, Tryz.ntmps34
      go_wp2_with fail
      refine (HS2.out _ HB0.out).mono ?_
      rintro e w1 ⟨rfl, hb1⟩
      have HB1 := hid (below_step hb1 HB0.out)
      have HBA := hid hb1
      have x1 := keepc hb1 HY.out
      clear hb1
      go_wp2_with fail
      refine (HW.out _ HBA.out).mono ?_
      rintro e w2 ⟨rfl, hb2⟩
      have HB2 := hid (below_step hb2 HB1.out)
      clear hb2
      go_wp2_with fail
      go_ret
      exact ⟨rfl, HB2.out⟩
    | false =>
      have hr : isDk d = true := by rw [hdd]; rfl
      rw [hr, if_pos rfl]
      clear hdd hr
      go_enter Tryz.func34, Tryz.ntmps34
      go_wp2_with fail
      refine (HS2.out _ HB0.out).mono ?_
      rintro e w1 ⟨rfl, hb1⟩
      have HB1 := hid (below_step hb1 HB0.out)
      have HBA := hid hb1
      have x1 := keepc hb1 HY.out
      clear hb1
      go_wp2_with fail
      refine (HW.out _ HBA.out).mono ?_
      rintro e w2 ⟨rfl, hb2⟩
      have HB2 := hid (below_step hb2 HB1.out)
      clear hb2
      go_wp2_with fail
      go_ret
      exact ⟨rfl, HB2.out⟩
end Go.Proofs.YtifcgimpgbeocaaGreat
