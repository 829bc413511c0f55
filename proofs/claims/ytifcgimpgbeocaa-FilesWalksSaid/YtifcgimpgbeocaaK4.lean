/- Rows of records: one put in between: in place, and in a new row. -/
import Derived.Test.YtifcgimpgbeocaaK3
import Derived.Maps.AppendAt
set_option linter.unusedVariables false
set_option linter.unusedSimpArgs false
namespace Go.Proofs.Ytifcgimpgbeocaa
open Go.RowKit
theorem underRR : Try.prog.underlying 68 = some (.slice 59) := by kernel_rfl
theorem sizeR : (Try.prog.info? 59).map (·.size) = some 2 := by kernel_rfl
theorem nmin (a b : Nat) : Nat.min a b = min a b := rfl
theorem encR_one (l : Ds) : ∀ u ∈ encR l, u.oneCell' = true := by
  intro u hu
  obtain ⟨z, hz, hu⟩ := List.mem_flatMap.1 hu
  simp only [List.mem_cons, List.not_mem_nil, or_false] at hu
  rcases hu with rfl | rfl <;> rfl
theorem append_types (ty : TypeId) (base : Option Addr) (l c : Nat) (x : Value) (w : World) : (Builtin.append_ #[69, 68] ty #[.slice base l c, x]).run Try.prog w = (Builtin.append_ #[69, 69] ty #[.slice base l c, x]).run Try.prog w := by
  simp [Builtin.append_, run_underlying underR, run_underlying underRR]
/-- A record put in between, in place. -/
theorem exec_shiftR {w : World} {B g n cap i vb : Nat} {ds : Ds} {r : Rec} (hP : OR w B (.slice (some ⟨g, 0, none⟩) n cap) ds) (hn : ds.length = n) (hi : i < n) (hc : n + 1 ≤ cap) (hV : w.heap[vb]? = some (.cells #[strV r.1, strV r.2] 59 (0, 0))) (hne : vb ≠ g) :
    ∃ w1 w2, (∀ ty dc sc, (Builtin.copy_ #[69, 69] ty #[.slice (some ⟨g, (i + 1) * 2, none⟩) (n + 1 - (i + 1)) dc, .slice (some ⟨g, i * 2, none⟩) (n + 1 - i) sc]).run Try.prog w.drew = .ok (goInt ((n - i : Nat) : Int)) w1) ∧
      (∀ ty dc, (Builtin.copy_ #[69, 68] ty #[.slice (some ⟨g, i * 2, none⟩) (n + 1 - i) dc, .slice (some ⟨vb, 0, none⟩) 1 1]).run Try.prog w1 = .ok (goInt 1) w2) ∧
      OR w2 B (.slice (some ⟨g, 0, none⟩) (n + 1) cap) (ds.take i ++ r :: ds.drop i) ∧ w.grownBy w2 (some g) := by
  obtain ⟨hlen, ⟨hv, -⟩ | ⟨g', cap', cur, hv, hb, hg, hnc, hcm, hcs, ht⟩⟩ := hP
  · cases hv
  simp only [Value.slice.injEq, Option.some.injEq, Addr.mk.injEq] at hv
  obtain ⟨⟨rfl, -, -⟩, -, rfl⟩ := hv
  rw [hn] at ht hnc
  have hcl : cur.toList.length = cap * 2 := by rw [Array.length_toList]; exact hcs
  have hdl : (encR (ds.drop i)).length = (n - i) * 2 := by rw [encR_length, List.length_drop, hn]
  have hgd : w.drew.heap[g]? = some (.cells cur 59 (0, 0)) := hg
  have h1 := fun (ty : TypeId) (dc sc : Nat) => run_copy_rowN (P := Try.prog) w.drew 69 69 ty 59 2 g ((i + 1) * 2) (n + 1 - (i + 1)) dc ⟨g, i * 2, none⟩ (n + 1 - i) sc cur 59 (encR (ds.drop i)) underR sizeR hgd
    (by rw [hdl, nmin, Nat.min_eq_right (by omega)]; congr 1; omega)
    (fun j u hj => by
      have hjl := (List.getElem?_eq_some_iff.1 hj).1
      rw [hdl] at hjl
      rw [addr_add]
      rw [← encR_drop, List.getElem?_drop, ← ht, List.getElem?_take_of_lt (by omega)] at hj
      unfold World.cell?
      simp only [hgd]
      simpa using hj) (by rw [hdl, hcs]; omega) (encR_one _)
  have hmin : Nat.min (n + 1 - i) (n + 1 - (i + 1)) = n - i := by rw [nmin, Nat.min_eq_right (by omega)]; omega
  rw [hmin] at h1
  obtain ⟨c1, hc1⟩ : ∃ c1, cur.toList.take ((i + 1) * 2) ++ encR (ds.drop i) ++ cur.toList.drop ((i + 1) * 2 + (encR (ds.drop i)).length) = c1 := ⟨_, rfl⟩
  rw [hc1] at h1
  have hc1l : c1.length = cap * 2 := by rw [← hc1, List.length_append, List.length_append, List.length_take, List.length_drop, hdl, hcl]; omega
  have hg1 : (w.drew.setRow g c1.toArray).heap[g]? = some (.cells c1.toArray 59 (0, 0)) := setRow_heap w.drew g cur _ 59 _ hgd
  have hv1 : (w.drew.setRow g c1.toArray).heap[vb]? = some (.cells #[strV r.1, strV r.2] 59 (0, 0)) := (setRow_other w.drew g vb _ hne).trans hV
  have h2 := fun (ty : TypeId) (dc : Nat) => run_copy_rowN (P := Try.prog) (w.drew.setRow g c1.toArray) 69 68 ty 59 2 g (i * 2) (n + 1 - i) dc ⟨vb, 0, none⟩ 1 1 c1.toArray 59 (encR [r]) underR sizeR hg1
    (by rw [encR_length, nmin, Nat.min_eq_left (by omega)]; rfl)
    (fun j u hj => by
      rw [addr_add, Nat.zero_add]
      unfold World.cell?
      simp only [hv1]
      match j, hj with
      | 0, hj => simpa [encR_cons] using hj
      | 1, hj => simpa [encR_cons] using hj
      | j + 2, hj => simp [encR_cons, encR_nil] at hj) (by rw [encR_length]; simp only [List.length_cons, List.length_nil, List.size_toArray, hc1l]; omega) (encR_one _)
  rw [nmin, Nat.min_eq_left (show 1 ≤ n + 1 - i by omega)] at h2
  refine ⟨_, _, h1, h2, ?_⟩
  have hN : (c1.toArray.toList.take (i * 2) ++ encR [r] ++ c1.toArray.toList.drop (i * 2 + (encR [r]).length)).length = cap * 2 := by
    rw [List.length_append, List.length_append, List.length_take, List.length_drop, encR_length]
    simp only [List.length_cons, List.length_nil, hc1l]
    omega
  have hnew : (ds.take i ++ r :: ds.drop i).length = n + 1 := by rw [List.length_append, List.length_cons, List.length_take, List.length_drop, hn]; omega
  have e1 : cur.toList.take (i * 2) = encR (ds.take i) := by rw [← encR_take, ← ht, List.take_take, Nat.min_eq_left (by omega)]
  have e2 : c1.take (i * 2) = encR (ds.take i) := by
    rw [← hc1, List.append_assoc, List.take_append_of_le_length (by rw [List.length_take]; omega), List.take_take, Nat.min_eq_left (by omega), e1]
  have e3 : c1.drop (i * 2 + 2) = encR (ds.drop i) ++ cur.toList.drop ((i + 1) * 2 + (encR (ds.drop i)).length) := by
    rw [← hc1, List.append_assoc, List.drop_append_of_le_length (by rw [List.length_take]; omega), List.drop_of_length_le (by rw [List.length_take]; omega), List.nil_append]
  have hx : (c1.toArray.toList.take (i * 2) ++ encR [r] ++ c1.toArray.toList.drop (i * 2 + (encR [r]).length)).take ((n + 1) * 2) = encR (ds.take i ++ r :: ds.drop i) := by
    simp only [encR_length, List.length_cons, List.length_nil, Nat.zero_add, Nat.one_mul]
    rw [e2, e3, encR_append, encR_cons, ← encR_cons r [], ← List.append_assoc]
    have : (encR (ds.take i) ++ encR [r] ++ encR (ds.drop i)).length = (n + 1) * 2 := by
      rw [List.length_append, List.length_append, encR_length, encR_length, hdl, List.length_take]
      simp only [List.length_cons, List.length_nil]
      omega
    rw [List.take_append_of_le_length (by omega), List.take_of_length_le (by omega), encR_cons r (List.drop i ds), encR_cons, encR_nil]
    simp
  have h3 := own_setRow (w := w.drew.setRow g c1.toArray) (B := B) (e := 59) (s := 2) (cap := cap) (n' := n + 1) hb hg1 hcm hN (by omega) hx
  unfold OR
  rw [hnew]
  have hG1 : w.drew.grownBy (w.drew.setRow g c1.toArray) (some g) := ⟨rfl, rfl, rfl, by simp, fun k _ hk => setRow_other w.drew g k _ (fun e => hk (by rw [e]))⟩
  exact ⟨h3.1, grown_trans (grown_trans (below_grow (Below.refl _ _).drew _) hG1) h3.2⟩
abbrev zR : Value := .agg #[.string ⟨#[]⟩, .string ⟨#[]⟩]
theorem zeroR_len (k : Nat) : (Builtin.zeroCells zR.cells k).size = k * 2 := by simp [Builtin.zeroCells, Value.cells]
/-- A record put in between, in a new row. -/
theorem exec_growR {w : World} {B g n cap i vb : Nat} {ds : Ds} {r : Rec} (hP : OR w B (.slice (some ⟨g, 0, none⟩) n cap) ds) (hn : ds.length = n) (hi : i < n) (hc : cap < n + 1) (hbig : n ≤ 1000000) (hB : B ≤ w.heap.size) (hV : w.heap[vb]? = some (.cells #[strV r.1, strV r.2] 59 (0, 0))) :
    ∃ G w1 w2 w3, n + 1 ≤ G ∧ (∀ ty, (Builtin.append_ #[69, 3] ty #[.slice (some ⟨g, 0, none⟩) i cap, .int .i64 ((n + 1 - i : Nat) : Int)]).run Try.prog w = .ok (.slice (some ⟨w.heap.size, 0, none⟩) (n + 1) G) w1) ∧
      (∀ ty dc, (Builtin.copy_ #[69, 68] ty #[.slice (some ⟨w.heap.size, i * 2, none⟩) (n + 1 - i) dc, .slice (some ⟨vb, 0, none⟩) 1 1]).run Try.prog w1 = .ok (goInt 1) w2) ∧
      (∀ ty dc sc, (Builtin.copy_ #[69, 69] ty #[.slice (some ⟨w.heap.size, (i + 1) * 2, none⟩) (n + 1 - (i + 1)) dc, .slice (some ⟨g, i * 2, none⟩) (n - i) sc]).run Try.prog w2.drew = .ok (goInt ((n - i : Nat) : Int)) w3) ∧
      OR w3 B (.slice (some ⟨w.heap.size, 0, none⟩) (n + 1) G) (ds.take i ++ r :: ds.drop i) ∧ Below w.heap.size w w3 := by
  obtain ⟨hlen, ⟨hv, -⟩ | ⟨g', cap', cur, hv, hb, hg, hnc, hcm, hcs, ht⟩⟩ := hP
  · cases hv
  simp only [Value.slice.injEq, Option.some.injEq, Addr.mk.injEq] at hv
  obtain ⟨⟨rfl, -, -⟩, -, rfl⟩ := hv
  rw [hn] at ht hnc
  have hgl : g < w.heap.size := (Array.getElem?_eq_some_iff.1 hg).1
  have hvl : vb < w.heap.size := (Array.getElem?_eq_some_iff.1 hV).1
  have hcl : cur.toList.length = cap * 2 := by rw [Array.length_toList]; exact hcs
  have hdl : (encR (ds.drop i)).length = (n - i) * 2 := by rw [encR_length, List.length_drop, hn]
  have htl : (encR (ds.take i)).length = i * 2 := by rw [encR_length, List.length_take, hn]; congr 1; omega
  obtain ⟨i0, hi0, hz0, hz1, hz2⟩ := info_parts infoR
  have hold : (Builtin.firstCells i0.size i (.slice (some ⟨g, 0, none⟩) i cap)).run Try.prog w.drew = .ok (encR (ds.take i)).toArray w.drew := by
    rw [hz1]
    refine run_firstCells_some w.drew 2 i ⟨g, 0, none⟩ i cap (encR (ds.take i)) htl (fun j v hj => ?_)
    have hjl := (List.getElem?_eq_some_iff.1 hj).1
    rw [htl] at hjl
    rw [addr_add, Nat.zero_add]
    rw [← encR_take, List.getElem?_take_of_lt (by omega), ← ht, List.getElem?_take_of_lt (by omega)] at hj
    have hgd : w.drew.heap[g]? = some (.cells cur 59 (0, 0)) := hg
    unfold World.cell?
    simp only [hgd]
    simpa using hj
  have happ := fun ty => Lib.run_append_grow_zeros (P := Try.prog) w 69 3 ty 59 i0 _ .i64 .i64 underR Try.underlying3 hi0 hz0 (some ⟨g, 0, none⟩) i cap (encR (ds.take i)) hold (n + 1 - i) (by omega) (by omega) (by omega) (by omega) (by rw [hz2]; omega) (by rw [hz2, show i + (n + 1 - i) = n + 1 by omega]; exact growslice_fits (by omega) (by omega))
  rw [show i + (n + 1 - i) = n + 1 by omega] at happ
  obtain ⟨G, hG⟩ : ∃ G, grownCap w (n + 1) cap 59 = G := ⟨_, rfl⟩
  have hGn : n + 1 ≤ G := by rw [← hG]; exact grownCap_ge w _ _ _
  have hGm : G ≤ maxLen := by rw [← hG]; exact grownCap_le_maxLen w (n + 1) cap 59 (by unfold maxLen; omega)
  rw [hG] at happ
  obtain ⟨ROW, hROW⟩ : ∃ ROW : Array Value, (encR (ds.take i)).toArray ++ Builtin.zeroCells zR.cells (n + 1 - i) ++ Builtin.zeroCells zR.cells (G - (n + 1)) = ROW := ⟨_, rfl⟩
  rw [hROW] at happ
  have hRs : ROW.size = G * 2 := by rw [← hROW]; simp only [Array.size_append, zeroR_len, List.size_toArray, htl]; omega
  have hRt : ROW.toList.take (i * 2) = encR (ds.take i) := by
    rw [← hROW]
    simp only [Array.toList_append]
    rw [List.append_assoc, List.take_append_of_le_length (by omega), List.take_of_length_le (by omega)]
  obtain ⟨N, hN⟩ : ∃ N, w.heap.size = N := ⟨_, rfl⟩
  have hh1 : (w.drew.alloc (.cells ROW 59)).heap[N]? = some (.cells ROW 59 (0, 0)) := by rw [← hN]; exact heap_alloc_new w.drew _
  have hv1 : (w.drew.alloc (.cells ROW 59)).heap[vb]? = some (.cells #[strV r.1, strV r.2] 59 (0, 0)) := (((Below.refl w.heap.size w).drew.alloc (Nat.le_refl _) (.cells ROW 59)).block vb hvl).trans hV
  have h2 := fun (ty : TypeId) (dc : Nat) => run_copy_rowN (P := Try.prog) (w.drew.alloc (.cells ROW 59)) 69 68 ty 59 2 N (i * 2) (n + 1 - i) dc ⟨vb, 0, none⟩ 1 1 ROW 59 (encR [r]) underR sizeR hh1
    (by rw [encR_length, nmin, Nat.min_eq_left (by omega)]; rfl)
    (fun j u hj => by
      rw [addr_add, Nat.zero_add]
      unfold World.cell?
      simp only [hv1]
      match j, hj with
      | 0, hj => simpa [encR_cons] using hj
      | 1, hj => simpa [encR_cons] using hj
      | j + 2, hj => simp [encR_cons, encR_nil] at hj) (by rw [encR_length, hRs]; simp only [List.length_cons, List.length_nil]; omega) (encR_one _)
  rw [nmin, Nat.min_eq_left (show 1 ≤ n + 1 - i by omega)] at h2
  have hr1 : (encR [r]).length = 2 := encR_length [r]
  obtain ⟨c2, hc2⟩ : ∃ c2, ROW.toList.take (i * 2) ++ encR [r] ++ ROW.toList.drop (i * 2 + (encR [r]).length) = c2 := ⟨_, rfl⟩
  rw [hc2] at h2
  have hc2l : c2.length = G * 2 := by rw [← hc2, List.length_append, List.length_append, List.length_take, List.length_drop, hr1, Array.length_toList, hRs]; omega
  have hb1 : Below w.heap.size w (w.drew.alloc (.cells ROW 59)) := (Below.refl w.heap.size w).drew.alloc (Nat.le_refl _) _
  have hgd : (w.drew.alloc (.cells ROW 59)).grownBy ((w.drew.alloc (.cells ROW 59)).setRow N c2.toArray) (some N) := ⟨rfl, rfl, rfl, by simp, fun k _ hk => setRow_other _ N k _ (fun e => hk (by rw [e]))⟩
  have hb2 : Below w.heap.size w ((w.drew.alloc (.cells ROW 59)).setRow N c2.toArray) := hb1.grown hgd (by rw [World.size_alloc]; exact Nat.le_succ _) (fun k hk => by cases hk; omega)
  have hh2 : (((w.drew.alloc (.cells ROW 59)).setRow N c2.toArray).drew).heap[N]? = some (.cells c2.toArray 59 (0, 0)) := setRow_heap _ N ROW _ 59 _ hh1
  have hg2 : (((w.drew.alloc (.cells ROW 59)).setRow N c2.toArray).drew).heap[g]? = some (.cells cur 59 (0, 0)) := (hb2.block g hgl).trans hg
  have h3 := fun (ty : TypeId) (dc sc : Nat) => run_copy_rowN (P := Try.prog) ((w.drew.alloc (.cells ROW 59)).setRow N c2.toArray).drew 69 69 ty 59 2 N ((i + 1) * 2) (n + 1 - (i + 1)) dc ⟨g, i * 2, none⟩ (n - i) sc c2.toArray 59 (encR (ds.drop i)) underR sizeR hh2
    (by rw [hdl, nmin, Nat.min_eq_left (by omega)])
    (fun j u hj => by
      have hjl := (List.getElem?_eq_some_iff.1 hj).1
      rw [hdl] at hjl
      rw [addr_add]
      rw [← encR_drop, List.getElem?_drop, ← ht, List.getElem?_take_of_lt (by omega)] at hj
      unfold World.cell?
      simp only [hg2]
      simpa using hj) (by rw [hdl]; simp only [List.size_toArray, hc2l]; omega) (encR_one _)
  rw [nmin, Nat.min_eq_left (show n - i ≤ n + 1 - (i + 1) by omega)] at h3
  rw [hN] at happ ⊢
  refine ⟨G, _, _, _, hGn, happ, h2, h3, ?_⟩
  have hNl : (c2.toArray.toList.take ((i + 1) * 2) ++ encR (ds.drop i) ++ c2.toArray.toList.drop ((i + 1) * 2 + (encR (ds.drop i)).length)).length = G * 2 := by
    rw [List.length_append, List.length_append, List.length_take, List.length_drop, hdl]
    simp only [hc2l]
    omega
  have hnew : (ds.take i ++ r :: ds.drop i).length = n + 1 := by rw [List.length_append, List.length_cons, List.length_take, List.length_drop, hn]; omega
  have e2 : c2.take ((i + 1) * 2) = encR (ds.take i) ++ encR [r] := by
    rw [← hc2, hRt, List.take_append_of_le_length (by rw [List.length_append, htl, hr1]; omega), List.take_of_length_le (by rw [List.length_append, htl, hr1]; omega)]
  have hx : (c2.toArray.toList.take ((i + 1) * 2) ++ encR (ds.drop i) ++ c2.toArray.toList.drop ((i + 1) * 2 + (encR (ds.drop i)).length)).take ((n + 1) * 2) = encR (ds.take i ++ r :: ds.drop i) := by
    simp only
    rw [e2]
    have : (encR (ds.take i) ++ encR [r] ++ encR (ds.drop i)).length = (n + 1) * 2 := by
      rw [List.length_append, List.length_append, htl, hr1, hdl]; omega
    rw [List.take_append_of_le_length (by omega), List.take_of_length_le (by omega), encR_append, encR_cons r (List.drop i ds), encR_cons, encR_nil]
    simp
  have hfin := own_setRow (w := ((w.drew.alloc (.cells ROW 59)).setRow N c2.toArray).drew) (B := B) (e := 59) (s := 2) (cap := G) (n' := n + 1) (by omega) hh2 hGm hNl hGn hx
  unfold OR
  rw [hnew]
  refine ⟨hfin.1, ?_⟩
  have hb3 := hb2.drew.grown hfin.2 hb2.drew.size (fun k hk => by cases hk; omega)
  rw [hN] at hb3
  exact hb3
end Go.Proofs.Ytifcgimpgbeocaa
/- Rows of datasets; appends that tell where the new row lies; what a call leaves outside a set of blocks. -/
set_option linter.unusedVariables false
set_option linter.unusedSimpArgs false
namespace Go.Proofs.Ytifcgimpgbeocaa
open Go.RowKit
/-! ### Rows of datasets -/
theorem underD : Try.prog.underlying 51 = some (.slice 69) := by kernel_rfl
theorem infoD : (Try.prog.info? 69).map (fun i => (i.zero, i.size, i.bytes)) = some (some (.slice none 0 0), 1, 24) := by kernel_rfl
/-- v is a row of one's own, of the datasets us. -/
def OV (w : World) (B : Nat) (v : Value) (us : List Value) : Prop := w.ownsRow B 69 1 v us.length us
theorem OV.cells {w : World} {B : Nat} {v : Value} {l : List Value} (h : OV w B v l) (hne : 0 < l.length) :
    ∃ g cap, v = .slice (some ⟨g, 0, none⟩) l.length cap ∧ B ≤ g ∧ g < w.heap.size ∧ l.length ≤ cap ∧ (∀ j, w.frozen? ⟨g, j, none⟩ = false) ∧ ∀ j u, l[j]? = some u → w.cell? ⟨g, j, none⟩ = some u := by
  have h0 := h
  unfold OV at h0
  obtain ⟨hl, ⟨rfl, hn⟩ | ⟨g, cap, cur, rfl, hb, hg, hnc, hcm, hcs, ht⟩⟩ := h
  · omega
  · refine ⟨g, cap, rfl, hb, (Array.getElem?_eq_some_iff.1 hg).1, hnc, fun j => World.ownsRow.frozenAt h0 j, fun j u hj => ?_⟩
    have hlt := (List.getElem?_eq_some_iff.1 hj).1
    rw [← ht, List.getElem?_take_of_lt (by omega)] at hj
    unfold World.cell?
    simp only [hg]
    simpa using hj
theorem OV.below {w w' : World} {B : Nat} {v : Value} {l : List Value} (h : OV w B v l) (hb : Below w.heap.size w w') : OV w' B v l :=
  World.ownsRow.kept (row := none) h (below_grow hb none) (by cases v.ownBlock <;> simp)
theorem OV.mono {w : World} {B B' : Nat} {v : Value} {l : List Value} (h : OV w B v l) (hB : B' ≤ B) : OV w B' v l := by
  obtain ⟨hl, h | ⟨g, cap, cur, hv, hb, h⟩⟩ := h
  · exact ⟨hl, .inl h⟩
  · exact ⟨hl, .inr ⟨g, cap, cur, hv, Nat.le_trans hB hb, h⟩⟩
theorem OV.own {w : World} {B : Nat} {v : Value} {l : List Value} (h : OV w B v l) : ∀ k, v.ownBlock = some k → B ≤ k := fun k hk => (World.ownsRow.lt h k hk).1
theorem OV.grown {w0 w w' : World} {B : Nat} {v : Value} {l : List Value} (h : OV w B v l) (hb : Below B w0 w) (hg : w.grownBy w' v.ownBlock) (hB : B ≤ w.heap.size) : Below B w0 w' := hb.grown hg hB h.own
theorem oV_nil (w : World) (B : Nat) : OV w B (.slice none 0 0) [] := ⟨rfl, .inl ⟨rfl, rfl⟩⟩
theorem appV {ops : Array Oper} {rest : List Oper} {o : Oper} {a : Act} {Q : Exit → Act → World → Prop} {w : World} (hgd : o.guard = none) (s x : Operand)
    (ho : o.op = .call { callee := .builtin .append, args := #[s, x], argTypes := #[51, 51] }) (B : Nat) (v : Value) (l : List Value) (y : Value) (g c : Nat)
    (hs : a.eval s = v) (hx : a.eval x = .slice (some ⟨g, 0, none⟩) 1 c) (hP : OV w B v l) (hc : w.cell? ⟨g, 0, none⟩ = some y) (hy : y.oneCell' = true) (hn : l.length ≤ 1000000) (hb : B ≤ w.heap.size)
    (h : ∀ v' w', OV w' B v' (l ++ [y]) → w.grownBy w' v.ownBlock → wpList Try.prog ops Q rest (a.put o.dst v') w') : wpList Try.prog ops Q (o :: rest) a w := by
  obtain ⟨i0, hi, hz0, hz1, hz2⟩ := info_parts infoD
  refine wpList_append_own _ hgd s x 51 ho B 69 i0 (.slice none 0 0) 1 24 underD hi hz0 hz1 hz2 rfl (by decide) v l.length l hs hP ⟨g, 0, none⟩ 1 c [y] hx rfl ?_ ?_ (by unfold maxLen; omega) (by omega) hb ?_
  · intro j u hj
    rw [addr_add, Nat.zero_add]
    match j, hj with
    | 0, hj => simp only [List.getElem?_cons_zero, Option.some.injEq] at hj; rw [← hj]; exact hc
    | j + 1, hj => simp at hj
  · intro u hu
    simp only [List.mem_cons, List.not_mem_nil, or_false] at hu
    subst hu; exact hy
  · intro v' w' hown hg _
    refine h v' w' ?_ hg
    unfold OV
    rw [List.length_append]
    exact hown
/-- v reads as datasets, all of it at or beyond block B. -/
def OD (w : World) (B : Nat) (v : Value) (l : List Ds) : Prop := ∃ us : List Value, us.length = l.length ∧ OV w B v us ∧ ∀ (i : Nat) (u : Value) (d : Ds), us[i]? = some u → l[i]? = some d → OR w B u d
theorem OR.one {w : World} {B : Nat} {v : Value} {l : Ds} (h : OR w B v l) : v.oneCell' = true := by
  obtain ⟨-, ⟨rfl, -⟩ | ⟨g, cap, cur, rfl, -⟩⟩ := h <;> rfl
theorem OD.below {w w' : World} {B : Nat} {v : Value} {l : List Ds} (h : OD w B v l) (hb : Below w.heap.size w w') : OD w' B v l := by
  obtain ⟨us, h1, h2, h3⟩ := h
  exact ⟨us, h1, h2.below hb, fun i u d hu hd => (h3 i u d hu hd).below hb⟩
theorem OD.mono {w : World} {B B' : Nat} {v : Value} {l : List Ds} (h : OD w B v l) (hB : B' ≤ B) : OD w B' v l := by
  obtain ⟨us, h1, h2, h3⟩ := h
  exact ⟨us, h1, h2.mono hB, fun i u d hu hd => (h3 i u d hu hd).mono hB⟩
theorem oD_nil (w : World) (B : Nat) : OD w B (.slice none 0 0) [] := ⟨[], rfl, oV_nil _ _, fun i u d h => by simp at h⟩
theorem OD.rd {w : World} {B : Nat} {v : Value} {l : List Ds} (h : OD w B v l) : RdD w v l := by
  obtain ⟨us, h1, h2, h3⟩ := h
  rcases Nat.eq_zero_or_pos us.length with h0 | h0
  · have e : l = [] := List.eq_nil_of_length_eq_zero (by omega)
    subst e
    obtain ⟨hl, ⟨rfl, hn⟩ | ⟨g, cap, cur, rfl, hb, hg, hnc, hcm, hcs, ht⟩⟩ := h2
    · exact ⟨none, 0, rfl, Nat.le_refl _, .inl rfl⟩
    · exact ⟨_, cap, by rw [h1], by rw [← h1]; exact hnc, .inl rfl⟩
  · obtain ⟨g, cap, rfl, hb, hg, hnc, -, hc⟩ := h2.cells h0
    refine ⟨_, cap, by rw [h1], by omega, .inr ⟨g, 0, rfl, hg, fun i d hi => ?_⟩⟩
    obtain ⟨u, hu⟩ : ∃ u, us[i]? = some u := ⟨_, List.getElem?_eq_getElem (by have := (List.getElem?_eq_some_iff.1 hi).1; omega)⟩
    exact ⟨u, by rw [Nat.zero_add]; exact hc i u hu, (h3 i u d hu hi).rd⟩
/-! ### Appends that tell where the new row lies -/
theorem appAtO {ops : Array Oper} {rest : List Oper} {o : Oper} {a : Act} {Q : Exit → Act → World → Prop} {w : World} (hgd : o.guard = none) (s x : Operand)
    (ho : o.op = .call { callee := .builtin .append, args := #[s, x], argTypes := #[54, 54] }) (B : Nat) (v : Value) (l : List FOp) (y : FOp) (g c : Nat)
    (hs : a.eval s = v) (hx : a.eval x = .slice (some ⟨g, 0, none⟩) 1 c) (hP : OO w B v l) (hc : ∀ j u, (encO [y])[j]? = some u → w.cell? ⟨g, j, none⟩ = some u) (hn : l.length ≤ 1000000) (hb : B ≤ w.heap.size)
    (h : ∀ v' w', OO w' B v' (l ++ [y]) → w.grownBy w' v.ownBlock → (v'.ownBlock = v.ownBlock ∨ v'.ownBlock = some w.heap.size) → wpList Try.prog ops Q rest (a.put o.dst v') w') : wpList Try.prog ops Q (o :: rest) a w := by
  obtain ⟨i0, hi, hz0, hz1, hz2⟩ := info_parts infoO
  refine wpList_append_own_at _ hgd s x 54 ho B 63 i0 (.agg #[.int .i64 0, .int .i64 0, .string ⟨#[]⟩, .string ⟨#[]⟩]) 4 48 underO hi hz0 hz1 hz2 rfl (by decide) v l.length (encO l) hs hP ⟨g, 0, none⟩ 1 c (encO [y]) hx rfl ?_ ?_ (by unfold maxLen; omega) (by omega) hb ?_
  · intro j u hj
    rw [addr_add, Nat.zero_add]
    exact hc j u hj
  · intro u hu
    obtain ⟨z, hz, hu⟩ := List.mem_flatMap.1 hu
    simp only [List.mem_cons, List.not_mem_nil, or_false] at hu
    rcases hu with rfl | rfl | rfl | rfl <;> rfl
  · intro v' w' hown hg _ hat
    refine h v' w' ?_ hg hat
    unfold OO
    rw [encO_append, List.length_append]
    exact hown
theorem appAtA {ops : Array Oper} {rest : List Oper} {o : Oper} {a : Act} {Q : Exit → Act → World → Prop} {w : World} (hgd : o.guard = none) (s x : Operand)
    (ho : o.op = .call { callee := .builtin .append, args := #[s, x], argTypes := #[45, 45] }) (B : Nat) (v : Value) (l : List Ac) (y : Ac) (g c : Nat)
    (hs : a.eval s = v) (hx : a.eval x = .slice (some ⟨g, 0, none⟩) 1 c) (hP : OA w B v l) (hc : ∀ j u, (encA [y])[j]? = some u → w.cell? ⟨g, j, none⟩ = some u) (hn : l.length ≤ 1000000) (hb : B ≤ w.heap.size)
    (h : ∀ v' w', OA w' B v' (l ++ [y]) → w.grownBy w' v.ownBlock → (v'.ownBlock = v.ownBlock ∨ v'.ownBlock = some w.heap.size) → wpList Try.prog ops Q rest (a.put o.dst v') w') : wpList Try.prog ops Q (o :: rest) a w := by
  obtain ⟨i0, hi, hz0, hz1, hz2⟩ := info_parts infoA
  refine wpList_append_own_at _ hgd s x 45 ho B 104 i0 (.agg #[.bool false, .int .i64 0, .string ⟨#[]⟩]) 3 32 underA hi hz0 hz1 hz2 rfl (by decide) v l.length (encA l) hs hP ⟨g, 0, none⟩ 1 c (encA [y]) hx rfl ?_ ?_ (by unfold maxLen; omega) (by omega) hb ?_
  · intro j u hj
    rw [addr_add, Nat.zero_add]
    exact hc j u hj
  · intro u hu
    obtain ⟨z, hz, hu⟩ := List.mem_flatMap.1 hu
    simp only [List.mem_cons, List.not_mem_nil, or_false] at hu
    rcases hu with rfl | rfl | rfl <;> rfl
  · intro v' w' hown hg _ hat
    refine h v' w' ?_ hg hat
    unfold OA
    rw [encA_append, List.length_append]
    exact hown
/-! ### What a call leaves -/
/-- What lies outside the blocks F is as it was. -/
structure Frm (F : Nat → Prop) (w w' : World) : Prop where
  os : w'.os = w.os
  tape : w'.tape = w.tape
  output : w'.output = w.output
  size : w.heap.size ≤ w'.heap.size
  block : ∀ k, k < w.heap.size → ¬ F k → w'.heap[k]? = w.heap[k]?
theorem Frm.refl (F : Nat → Prop) (w : World) : Frm F w w := ⟨rfl, rfl, rfl, Nat.le_refl _, fun _ _ _ => rfl⟩
theorem Frm.of_below {F : Nat → Prop} {w w' : World} (h : Below w.heap.size w w') : Frm F w w' := ⟨h.os, h.tape, h.output, h.size, fun k hk _ => h.block k hk⟩
theorem Frm.of_grown {F : Nat → Prop} {w w' : World} {row : Option Nat} (h : w.grownBy w' row) (hr : ∀ k, row = some k → F k) : Frm F w w' :=
  ⟨h.os, h.tape, h.output, h.size, fun k hk hn => h.block k hk (fun e => hn (hr k e.symm))⟩
theorem Frm.trans {F G : Nat → Prop} {a b c : World} (h : Frm F a b) (k : Frm G b c) (hG : ∀ i, i < a.heap.size → G i → F i) : Frm F a c :=
  ⟨k.os.trans h.os, k.tape.trans h.tape, k.output.trans h.output, Nat.le_trans h.size k.size, fun i hi hn => (k.block i (Nat.lt_of_lt_of_le hi h.size) (fun hg => hn (hG i hi hg))).trans (h.block i hi hn)⟩
theorem Frm.mono {F G : Nat → Prop} {a b : World} (h : Frm F a b) (hG : ∀ i, i < a.heap.size → F i → G i) : Frm G a b := ⟨h.os, h.tape, h.output, h.size, fun i hi hn => h.block i hi (fun hf => hn (hG i hi hf))⟩
theorem Frm.below {F : Nat → Prop} {B : Nat} {w0 a b : World} (h : Below B w0 a) (k : Frm F a b) (hF : ∀ i, F i → B ≤ i) (hB : B ≤ a.heap.size) : Below B w0 b :=
  ⟨k.os.trans h.os, k.tape.trans h.tape, k.output.trans h.output, Nat.le_trans h.size k.size, fun i hi => (k.block i (by omega) (fun hf => by have := hF i hf; omega)).trans (h.block i hi)⟩
theorem Frm.cell {F : Nat → Prop} {w w' : World} {a : Addr} {v : Value} (h : Frm F w w') (hF : ¬ F a.block) (k : w.cell? a = some v) : w'.cell? a = some v :=
  (World.cell?_of_block (h.block a.block (World.block_lt_of_cell? w a k) hF)).trans k
theorem Frm.frozen {F : Nat → Prop} {w w' : World} {a : Addr} {v : Value} (h : Frm F w w') (hF : ¬ F a.block) (k : w.cell? a = some v) (f : w.frozen? a = false) : w'.frozen? a = false :=
  (World.frozen?_of_block (h.block a.block (World.block_lt_of_cell? w a k) hF)).trans f
theorem Frm.ownc {F : Nat → Prop} {w w' : World} {a : Addr} (h : Frm F w w') (hF : ¬ F a.block) (k : OwnC w a) : OwnC w' a := by
  obtain ⟨⟨v, hv⟩, hf⟩ := k
  exact ⟨⟨v, h.cell hF hv⟩, h.frozen hF hv hf⟩
theorem ownsRow_of_block {w w' : World} {B e s n : Nat} {v : Value} {xs : List Value} (h : w.ownsRow B e s v n xs) (hb : ∀ k, v.ownBlock = some k → w'.heap[k]? = w.heap[k]?) : w'.ownsRow B e s v n xs := by
  obtain ⟨h1, h2⟩ := h
  refine ⟨h1, ?_⟩
  rcases h2 with h2 | ⟨g, cap, cur, hv, hb', hh, hrest⟩
  · exact .inl h2
  · exact .inr ⟨g, cap, cur, hv, hb', (hb g (by rw [hv]; rfl)).trans hh, hrest⟩
theorem Frm.row {F : Nat → Prop} {w w' : World} {B e s n : Nat} {v : Value} {xs : List Value} (h : Frm F w w') (hr : w.ownsRow B e s v n xs) (hF : ∀ k, v.ownBlock = some k → ¬ F k) : w'.ownsRow B e s v n xs :=
  ownsRow_of_block hr fun k hk => h.block k (World.ownsRow.lt hr k hk).2 (hF k hk)
theorem frm_setCell {F : Nat → Prop} {w w1 : World} (h : Frm F w w1) {p : Addr} (hp : F p.block) (v : Value) : Frm F w (w1.setCell p v) :=
  ⟨h.os, h.tape, h.output, by simp [World.setCell]; exact h.size, fun k hk hn => (Below.heap_setCell _ _ _ _ (fun e => hn (by rw [e]; exact hp))).trans (h.block k hk hn)⟩
end Go.Proofs.Ytifcgimpgbeocaa
/- What a store keeps in memory, and what its steps turn. -/
set_option linter.unusedVariables false
set_option linter.unusedSimpArgs false
namespace Go.Proofs.Ytifcgimpgbeocaa
open Go.RowKit
/-! ### Values that read alike -/
theorem rd_block {w w' : World} {v : Value} (h : ∀ k, v.ownBlock = some k → w'.heap[k]? = w.heap[k]?) {o : Option Addr} {n cap b off : Nat} (e : v = .slice o n cap) (eo : o = some ⟨b, off, none⟩) : w'.heap[b]? = w.heap[b]? := h b (by rw [e, eo]; rfl)
theorem cell_at {w w' : World} {b i : Nat} {v : Value} (h : w'.heap[b]? = w.heap[b]?) (k : w.cell? ⟨b, i, none⟩ = some v) : w'.cell? ⟨b, i, none⟩ = some v := (World.cell?_of_block (a := ⟨b, i, none⟩) h).trans k
theorem RdS.block {w w' : World} {v : Value} {d : List Bs} (h : RdS w v d) (hb : ∀ k, v.ownBlock = some k → w'.heap[k]? = w.heap[k]?) (hz : w.heap.size ≤ w'.heap.size) : RdS w' v d := by
  obtain ⟨o, cap, e, hc, h⟩ := h
  refine ⟨o, cap, e, hc, ?_⟩
  rcases h with h | ⟨b, off, e1, e2, h⟩
  · exact .inl h
  · have hq := rd_block hb e e1
    exact .inr ⟨b, off, e1, by omega, fun i r hi => cell_at hq (h i r hi)⟩
theorem RdW.block {w w' : World} {v : Value} {d : List Wt} (h : RdW w v d) (hb : ∀ k, v.ownBlock = some k → w'.heap[k]? = w.heap[k]?) (hz : w.heap.size ≤ w'.heap.size) : RdW w' v d := by
  obtain ⟨o, cap, e, hc, h⟩ := h
  refine ⟨o, cap, e, hc, ?_⟩
  rcases h with h | ⟨b, off, e1, e2, h⟩
  · exact .inl h
  · have hq := rd_block hb e e1
    exact .inr ⟨b, off, e1, by omega, fun i r hi => ⟨cell_at hq (h i r hi).1, cell_at hq (h i r hi).2⟩⟩
/-- The drive in block D. -/
structure DA (w : World) (D : Nat) (vp vq va : Value) (dk : Dk) (acts : List Ac) : Prop where
  c0 : w.cell? ⟨D, 0, none⟩ = some vp
  c1 : w.cell? ⟨D, 1, none⟩ = some vq
  c2 : w.cell? ⟨D, 2, none⟩ = some va
  fz : ∀ j, w.frozen? ⟨D, j, none⟩ = false
  rp : RdS w vp dk.1
  rq : RdW w vq dk.2
  oa : OA w 0 va acts
  na : va.ownBlock ≠ some D
/-- The blocks that a drive turns. -/
def FD (D : Nat) (va : Value) (k : Nat) : Prop := k = D ∨ va.ownBlock = some k
theorem frozen_at {w w' : World} {b i : Nat} (h : w'.heap[b]? = w.heap[b]?) : w'.frozen? ⟨b, i, none⟩ = w.frozen? ⟨b, i, none⟩ := World.frozen?_of_block (a := ⟨b, i, none⟩) h
theorem DA.blocks {w w' : World} {D : Nat} {vp vq va : Value} {dk : Dk} {acts : List Ac} (h : DA w D vp vq va dk acts) (hz : w.heap.size ≤ w'.heap.size)
    (hb : ∀ k, k < w.heap.size → (k = D ∨ va.ownBlock = some k ∨ vp.ownBlock = some k ∨ vq.ownBlock = some k) → w'.heap[k]? = w.heap[k]?)
    (hp : ∀ k, vp.ownBlock = some k → k < w.heap.size) (hq : ∀ k, vq.ownBlock = some k → k < w.heap.size) : DA w' D vp vq va dk acts :=
  have hD := hb D (World.block_lt_of_cell? w _ h.c0) (.inl rfl)
  ⟨cell_at hD h.c0, cell_at hD h.c1, cell_at hD h.c2, fun j => (frozen_at hD).trans (h.fz j), h.rp.block (fun k e => hb k (hp k e) (.inr (.inr (.inl e)))) hz, h.rq.block (fun k e => hb k (hq k e) (.inr (.inr (.inr e)))) hz,
    ownsRow_of_block h.oa (fun k e => hb k (World.ownsRow.lt h.oa k e).2 (.inr (.inl e))), h.na⟩
/-- The blocks that a store turns. -/
def FSt (S D : Nat) (va vw vd : Value) (k : Nat) : Prop := k = S ∨ k = D ∨ va.ownBlock = some k ∨ vw.ownBlock = some k ∨ vd.ownBlock = some k
/-- The store in block S, its drive in block D; its blocks are among U. -/
structure SA (w : World) (U : Nat → Prop) (S D : Nat) (vp vq va vw vd vk : Value) (us ks : List Value) (st : St) : Prop where
  ult : ∀ k, U k → k < w.heap.size
  uF : ∀ k, FSt S D va vw vd k → U k
  uR : ∀ v, v ∈ vp :: vq :: vk :: (us ++ ks) → ∀ k, v.ownBlock = some k → U k ∧ ¬ FSt S D va vw vd k
  sd : S ≠ D
  no : ∀ v, v = va ∨ v = vw ∨ v = vd → v.ownBlock ≠ some S ∧ v.ownBlock ≠ some D
  s0 : w.cell? ⟨S, 0, none⟩ = some (.pointer (some ⟨D, 0, none⟩))
  s1 : w.cell? ⟨S, 1, none⟩ = some (.int .i64 st.hd.1)
  s2 : w.cell? ⟨S, 2, none⟩ = some (.int .i64 st.hd.2.1)
  s3 : w.cell? ⟨S, 3, none⟩ = some (.int .i64 st.hd.2.2.1)
  s4 : w.cell? ⟨S, 4, none⟩ = some (.int .i64 st.hd.2.2.2)
  s5 : w.cell? ⟨S, 5, none⟩ = some (strV st.log)
  s6 : w.cell? ⟨S, 6, none⟩ = some vw
  s7 : w.cell? ⟨S, 7, none⟩ = some vd
  s8 : w.cell? ⟨S, 8, none⟩ = some vk
  fz : ∀ j, w.frozen? ⟨S, j, none⟩ = false
  dv : DA w D vp vq va st.dk st.acts
  ow : OO w 0 vw st.ops
  od : OV w 0 vd us
  ul : us.length = st.now.length
  ur : ∀ (i : Nat) (u : Value) (d : Ds), us[i]? = some u → st.now[i]? = some d → OR w 0 u d
  ok : OV w 0 vk ks
  kl : ks.length = st.kept.length
  kr : ∀ (i : Nat) (u : Value) (d : Ds), ks[i]? = some u → st.kept[i]? = some d → OR w 0 u d
/-- What a step of the store lets stand of what is read alone. -/
theorem SA.row {w w' : World} {U : Nat → Prop} {S D : Nat} {vp vq va vw vd vk : Value} {us ks : List Value} {st : St} (h : SA w U S D vp vq va vw vd vk us ks st) (hf : Frm (FSt S D va vw vd) w w')
    {v : Value} (hv : v ∈ vp :: vq :: vk :: (us ++ ks)) {B e s n : Nat} {xs : List Value} (hr : w.ownsRow B e s v n xs) : w'.ownsRow B e s v n xs := hf.row hr fun k hk => (h.uR v hv k hk).2
theorem SA.keep {w w' : World} {U : Nat → Prop} {S D : Nat} {vp vq va vw vd vk : Value} {us ks : List Value} {st : St} (h : SA w U S D vp vq va vw vd vk us ks st) (hf : Frm (FSt S D va vw vd) w w') {v : Value} (hv : v ∈ vp :: vq :: vk :: (us ++ ks)) : ∀ k, v.ownBlock = some k → w'.heap[k]? = w.heap[k]? :=
  fun k hk => hf.block k (h.ult k (h.uR v hv k hk).1) (h.uR v hv k hk).2
/-- Nothing of the store has turned. -/
theorem SA.still {w w' : World} {U : Nat → Prop} {S D : Nat} {vp vq va vw vd vk : Value} {us ks : List Value} {st : St} (h : SA w U S D vp vq va vw vd vk us ks st) (hz : w.heap.size ≤ w'.heap.size) (hb : ∀ k, U k → w'.heap[k]? = w.heap[k]?) : SA w' U S D vp vq va vw vd vk us ks st := by
  have hS := hb S (h.uF S (.inl rfl))
  have hF : ∀ v, v = va ∨ v = vw ∨ v = vd → ∀ k, v.ownBlock = some k → w'.heap[k]? = w.heap[k]? := fun v hv k hk => hb k (h.uF k (by rcases hv with rfl | rfl | rfl <;> simp [FSt, hk]))
  have hR : ∀ v, v ∈ vp :: vq :: vk :: (us ++ ks) → ∀ k, v.ownBlock = some k → w'.heap[k]? = w.heap[k]? := fun v hv k hk => hb k (h.uR v hv k hk).1
  have hmu : ∀ i u, us[i]? = some u → u ∈ vp :: vq :: vk :: (us ++ ks) := fun i u hu => by have := List.mem_of_getElem? hu; simp [this]
  have hmk : ∀ i u, ks[i]? = some u → u ∈ vp :: vq :: vk :: (us ++ ks) := fun i u hu => by have := List.mem_of_getElem? hu; simp [this]
  exact ⟨fun k hk => Nat.lt_of_lt_of_le (h.ult k hk) hz, h.uF, h.uR, h.sd, h.no, cell_at hS h.s0, cell_at hS h.s1, cell_at hS h.s2, cell_at hS h.s3, cell_at hS h.s4, cell_at hS h.s5, cell_at hS h.s6, cell_at hS h.s7, cell_at hS h.s8,
    fun j => (frozen_at hS).trans (h.fz j),
    h.dv.blocks hz (fun k _ hk => hb k (by
      rcases hk with rfl | hk | hk | hk
      · exact h.uF _ (.inr (.inl rfl))
      · exact h.uF _ (by simp [FSt, hk])
      · exact (h.uR vp (by simp) k hk).1
      · exact (h.uR vq (by simp) k hk).1)) (fun k hk => h.ult k (h.uR vp (by simp) k hk).1) (fun k hk => h.ult k (h.uR vq (by simp) k hk).1),
    ownsRow_of_block h.ow (hF vw (by simp)), ownsRow_of_block h.od (hF vd (by simp)), h.ul, fun i u d hu hd => ownsRow_of_block (h.ur i u d hu hd) (hR u (hmu i u hu)),
    ownsRow_of_block h.ok (hR vk (by simp)), h.kl, fun i u d hu hd => ownsRow_of_block (h.kr i u d hu hd) (hR u (hmk i u hu))⟩
theorem SA.below {w w' : World} {U : Nat → Prop} {S D : Nat} {vp vq va vw vd vk : Value} {us ks : List Value} {st : St} (h : SA w U S D vp vq va vw vd vk us ks st) (hb : Below w.heap.size w w') : SA w' U S D vp vq va vw vd vk us ks st :=
  h.still hb.size fun k hk => hb.block k (h.ult k hk)
theorem SA.frm {w w' : World} {U F : Nat → Prop} {S D : Nat} {vp vq va vw vd vk : Value} {us ks : List Value} {st : St} (h : SA w U S D vp vq va vw vd vk us ks st) (hf : Frm F w w') (hF : ∀ k, U k → ¬ F k) : SA w' U S D vp vq va vw vd vk us ks st :=
  h.still hf.size fun k hk => hf.block k (h.ult k hk) (hF k hk)
theorem SA.widen {w : World} {U U' : Nat → Prop} {S D : Nat} {vp vq va vw vd vk : Value} {us ks : List Value} {st : St} (h : SA w U S D vp vq va vw vd vk us ks st) (h1 : ∀ k, U k → U' k) (h2 : ∀ k, U' k → k < w.heap.size) : SA w U' S D vp vq va vw vd vk us ks st :=
  { h with ult := h2, uF := fun k hk => h1 k (h.uF k hk), uR := fun v hv k hk => ⟨h1 k (h.uR v hv k hk).1, (h.uR v hv k hk).2⟩ }
end Go.Proofs.Ytifcgimpgbeocaa
/- A cell of a row of strings, of datasets, stored. -/
set_option linter.unusedVariables false
set_option linter.unusedSimpArgs false
namespace Go.Proofs.Ytifcgimpgbeocaa
open Go.RowKit
theorem row_set {w : World} {B e g n cap i : Nat} {xs : List Value} {v : Value} (h : w.ownsRow B e 1 (.slice (some ⟨g, 0, none⟩) n cap) n xs) (hi : i < n) :
    (w.setCell ⟨g, i, none⟩ v).ownsRow B e 1 (.slice (some ⟨g, 0, none⟩) n cap) n (xs.set i v) ∧ w.grownBy (w.setCell ⟨g, i, none⟩ v) (some g) := by
  obtain ⟨hl, ⟨hv, -⟩ | ⟨g', cap', cur, hv, hb, hg, hnc, hcm, hcs, ht⟩⟩ := h
  · cases hv
  · simp only [Value.slice.injEq, Option.some.injEq, Addr.mk.injEq, true_and, and_true] at hv
    obtain ⟨rfl, rfl⟩ := hv
    refine ⟨⟨by simpa using hl, .inr ⟨g, cap, cur.setIfInBounds i v, rfl, hb, heap_setCell_same w g i cur e v hg, hnc, hcm, by simpa using hcs, ?_⟩⟩, grown_set (grown_refl w _) i v⟩
    rw [← ht, Array.toList_setIfInBounds, List.take_set]
theorem encS_set (l : List Bs) (i : Nat) (s : Bs) : encS (l.set i s) = (encS l).set i (strV s) := by
  have e : ∀ l : List Bs, encS l = l.map strV := fun l => by induction l with
    | nil => rfl
    | cons x r ih => rw [encS_cons, ih]; rfl
  rw [e, e, List.map_set]
theorem OS.set {w : World} {B g cap i : Nat} {l : List Bs} {s : Bs} {n : Nat} (h : OS w B (.slice (some ⟨g, 0, none⟩) n cap) l) (hn : l.length = n) (hi : i < n) :
    OS (w.setCell ⟨g, i, none⟩ (strV s)) B (.slice (some ⟨g, 0, none⟩) n cap) (l.set i s) ∧ w.grownBy (w.setCell ⟨g, i, none⟩ (strV s)) (some g) := by
  unfold OS at *
  rw [encS_set, List.length_set]
  rw [hn] at h ⊢
  exact row_set h hi
theorem OV.set {w : World} {B g cap i : Nat} {l : List Value} {u : Value} {n : Nat} (h : OV w B (.slice (some ⟨g, 0, none⟩) n cap) l) (hn : l.length = n) (hi : i < n) :
    OV (w.setCell ⟨g, i, none⟩ u) B (.slice (some ⟨g, 0, none⟩) n cap) (l.set i u) ∧ w.grownBy (w.setCell ⟨g, i, none⟩ u) (some g) := by
  unfold OV at *
  rw [List.length_set]
  rw [hn] at h ⊢
  exact row_set h hi
end Go.Proofs.Ytifcgimpgbeocaa
