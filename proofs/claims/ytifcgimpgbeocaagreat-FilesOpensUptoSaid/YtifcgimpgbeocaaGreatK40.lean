/- From the walk of a law to its row: the law answers true, its arguments read as they read; arguments opened. -/
import Derived.Test.YtifcgimpgbeocaaGreatRows
import Derived.Test.YtifcgimpgbeocaaGreatK2
import Derived.ProofKit
import Derived.Carry
import Derived.Lib.SmallJoins
import Derived.Deep.Slices
import Derived.Deep.Strs
set_option linter.unusedVariables false
set_option linter.unusedSimpArgs false
namespace Go.Proofs.YtifcgimpgbeocaaGreat
open Go.ChangeShapes Go.WideShapes Go.ChangeAt Go.RowKit Go.Joins Go.ChangeMaps Go.Deep
theorem Tryz.own : ownKnob Tryz.prog.godebug = none := by kernel_rfl
theorem Tryz.laidOut : laidOutB Tryz.prog = true := by kernel_rfl
/-- Arguments read as they read, behind a call that only makes memory. -/
theorem trodAll_stay {H : Type} {enc : TypeId × Value → H} {P : Program} (hl : laidOutB P = true) {W W' : World} (hb : Below W.heap.size W W') : ∀ (ts : List TypeId) (vs : List Value) (ds : List (DataW H)) (ps : List MemPlace),
    (∀ t ∈ ts, P.readableRec t = true ∧ t < P.types.size) → (∀ x ∈ ps, x.block < W.heap.size) → DataW.TrodAll enc P W 0 (fun _ => true) true ts vs ds ps → DataW.TrodAll enc P W' 0 (fun b => decide (b < W.heap.size)) true ts vs ds ps
  | [], [], [], _, _, _, h => h
  | t :: ts, v :: vs, d :: ds, ps, hr, hlt, h => by
    obtain ⟨p, q, h1, h2, rfl⟩ := h
    obtain ⟨r1, r2⟩ := hr t (List.mem_cons_self ..)
    exact ⟨p, q, Below.trod hl r1 r2 h1 hb (fun x hx => hlt x (List.mem_append_left _ hx)),
      trodAll_stay hl hb ts vs ds q (fun t ht => hr t (List.mem_cons_of_mem _ ht)) (fun x hx => hlt x (List.mem_append_right _ hx)) h2, rfl⟩
  | [], _ :: _, _, _, _, _, h => h.elim
  | [], [], _ :: _, _, _, _, h => h.elim
  | _ :: _, [], _, _, _, _, h => h.elim
  | _ :: _, _ :: _, [], _, _, _, h => h.elim
theorem law_post {H : Type} {enc : TypeId × Value → H} {P : Program} {f : Func} {s : ChangeSpec} {W W' : World} {args : Array Value} {ds : List (DataW H)} {p : List MemPlace} (hl : laidOutB P = true)
    (hv : s.vars = []) (hrt : f.resultTypes = #[4]) (h4 : P.underlying 4 = some .bool) (hr : ∀ t ∈ f.params.toList, P.readableRec t = true ∧ t < P.types.size)
    (hW : DataW.Whole enc P f.params.toList s.vars false W args.toList ds [] p) (hs : s.fn H ds = { results := [.lit (.bool true)], args := ds }) (hb : Below W.heap.size W W') :
    s.post enc P f false true false false W args (.bool true) W' := by
  have hlt := hW.lt
  have hW2 := hW
  obtain ⟨p1, q1, hA, hV, rfl, -, -⟩ := hW2
  rw [hv] at hV
  obtain rfl : q1 = [] := hV
  rw [List.append_nil] at hW hlt
  refine ⟨ds, [], p1, [], p1, [], hW, ?_, ?_, ?_, hb.frame _, fun h => by cases h⟩
  · rw [List.append_nil, hs, hrt]
    exact trodAll_mk1 (shut_bool h4 true)
  · rw [List.append_nil, hs]
    exact trodAll_stay hl hb _ _ _ _ hr hlt hA
  · rw [hv, List.append_nil, hs]
    exact rfl
/-! ### Bulk -/
section
variable {H : Type} {enc : TypeId × Value → H}
theorem bulk_one (d : DataW H) : 1 ≤ Rows.uptoBulk d := by
  cases d with
  | lit l => cases l <;> simp [Rows.uptoBulk]
  | nil => simp [Rows.uptoBulk]
  | ptr d => simp [Rows.uptoBulk]
  | slice elems spare => simp [Rows.uptoBulk]
  | agg parts => simp [Rows.uptoBulk]
  | iface t d => simp [Rows.uptoBulk]
  | map entries => simp [Rows.uptoBulk]
  | held h => simp [Rows.uptoBulk]
theorem bulk_part {d : DataW H} {l : List (DataW H)} (h : d ∈ l) : Rows.uptoBulk d ≤ Rows.uptoBulkAll l := by
  induction l with
  | nil => cases h
  | cons x r ih =>
    simp only [Rows.uptoBulkAll]
    cases List.mem_cons.1 h with
    | inl e => subst e; omega
    | inr e => have := ih e; omega
theorem bulk_times (c : Nat) (l : List (DataW H)) (h : ∀ d ∈ l, c ≤ Rows.uptoBulk d) : c * l.length ≤ Rows.uptoBulkAll l := by
  induction l with
  | nil => simp [Rows.uptoBulkAll]
  | cons x r ih =>
    have h1 := h x (List.mem_cons_self ..)
    have h2 := ih (fun d hd => h d (List.mem_cons_of_mem _ hd))
    simp only [Rows.uptoBulkAll, List.length_cons]
    rw [Nat.mul_succ]
    omega
theorem bulk_slice (elems spare : List (DataW H)) : Rows.uptoBulkAll elems + 1 ≤ Rows.uptoBulk (.slice elems spare) := by
  simp only [Rows.uptoBulk]
  omega
theorem bulk_agg {d : DataW H} {l : List (DataW H)} (h : d ∈ l) : Rows.uptoBulk d + 1 ≤ Rows.uptoBulk (.agg l) := by
  have := bulk_part h
  simp only [Rows.uptoBulk]
  omega
theorem bulk_bound {l : List (DataW H)} (hk : Rows.uptoSmall H l = true) : Rows.uptoBulkAll l ≤ 1048576 := of_decide_eq_true hk
/-! ### Values opened -/
set_option maxRecDepth 100000 in
theorem cellsI : Tryz.prog.cellsOf 3 = 1 := by kernel_rfl
set_option maxRecDepth 100000 in
theorem cellsSt : Tryz.prog.cellsOf 9 = 1 := by kernel_rfl
set_option maxRecDepth 100000 in
theorem cellsBo : Tryz.prog.cellsOf 4 = 1 := by kernel_rfl
set_option maxRecDepth 100000 in
theorem cellsRe : Tryz.prog.cellsOf 59 = 2 := by kernel_rfl
set_option maxRecDepth 100000 in
theorem cellsOp : Tryz.prog.cellsOf 55 = 4 := by kernel_rfl
set_option maxRecDepth 100000 in
theorem cellsWt : Tryz.prog.cellsOf 92 = 2 := by kernel_rfl
abbrev Opened (x : DataW H × List MemPlace) (n : Nat) : Prop := n ≤ maxLen ∧ n + 1 ≤ Rows.uptoBulk x.1
section
variable {W : World} {base fuel : Nat} {held : Bool} {spare : Nat → Bool} {cs : List Value} {x : DataW H × List MemPlace}
theorem o_str (h : DataW.trod enc Tryz.prog W base spare held fuel 9 cs = some x) : ∃ s : Bs, cs = [strV s] ∧ Opened x s.length := by
  obtain ⟨z, e, hx, hl⟩ := DataW.trod_string Tryz.underlying9 h
  refine ⟨z.data.toList, by rw [e], by rw [Array.length_toList]; exact hl, ?_⟩
  rw [hx]
  simp [Rows.uptoBulk]
theorem o_int (h : DataW.trod enc Tryz.prog W base spare held fuel 3 cs = some x) : ∃ n : Int, cs = [.int .i64 n] ∧ (-9223372036854775808 ≤ n ∧ n ≤ 9223372036854775807) := by
  obtain ⟨z, e, hx, hl⟩ := DataW.trod_int Tryz.underlying3 h
  refine ⟨z, e, ?_⟩
  have h1 : IntKind.min .i64 = -9223372036854775808 := by decide
  have h2 : IntKind.max .i64 = 9223372036854775807 := by decide
  simp only [Lit.wf, Bool.and_eq_true, decide_eq_true_eq, h1, h2] at hl
  exact hl
theorem o_bool (h : DataW.trod enc Tryz.prog W base spare held fuel 4 cs = some x) : ∃ b : Bool, cs = [.bool b] := by
  obtain ⟨z, e, hx⟩ := DataW.trod_bool Tryz.underlying4 h
  exact ⟨z, e⟩
theorem o_rec (h : DataW.trod enc Tryz.prog W base spare held fuel 59 cs = some x) : ∃ r : Rec, cs = [strV r.1, strV r.2] ∧ Opened x r.1.length ∧ Opened x r.2.length := by
  obtain ⟨y0, y1, n, hx, hl, g0, g1⟩ := trod_struct2 Tryz.underlying59 h
  rw [cellsRe] at hl
  simp only [cellsSt] at g0 g1
  match cs, hl with
  | [v0, v1], _ =>
    simp only [List.drop_zero, List.take_succ_cons, List.take_zero, List.drop_succ_cons] at g0 g1
    obtain ⟨s0, e0, w0⟩ := o_str g0
    obtain ⟨s1, e1, w1⟩ := o_str g1
    simp only [List.cons.injEq, and_true] at e0 e1
    subst e0 e1
    have b0 : Rows.uptoBulk y0.1 + 1 ≤ Rows.uptoBulk x.1 := by rw [hx]; exact bulk_agg (by simp)
    have b1 : Rows.uptoBulk y1.1 + 1 ≤ Rows.uptoBulk x.1 := by rw [hx]; exact bulk_agg (by simp)
    exact ⟨(s0, s1), rfl, ⟨w0.1, by have := w0.2; simp only; omega⟩, ⟨w1.1, by have := w1.2; simp only; omega⟩⟩
theorem o_wt (h : DataW.trod enc Tryz.prog W base spare held fuel 92 cs = some x) : ∃ r : Wt, cs = [.int .i64 r.1, strV r.2] ∧ Opened x r.2.length ∧ 3 ≤ Rows.uptoBulk x.1 := by
  obtain ⟨y0, y1, n, hx, hl, g0, g1⟩ := trod_struct2 Tryz.underlying92 h
  rw [cellsWt] at hl
  simp only [cellsSt, cellsI] at g0 g1
  match cs, hl with
  | [v0, v1], _ =>
    simp only [List.drop_zero, List.take_succ_cons, List.take_zero, List.drop_succ_cons] at g0 g1
    obtain ⟨s0, e0, w0⟩ := o_int g0
    obtain ⟨s1, e1, w1⟩ := o_str g1
    simp only [List.cons.injEq, and_true] at e0 e1
    subst e0 e1
    have b1 : Rows.uptoBulk y1.1 + 1 ≤ Rows.uptoBulk x.1 := by rw [hx]; exact bulk_agg (by simp)
    refine ⟨(s0, s1), rfl, ⟨w1.1, by have := w1.2; simp only; omega⟩, ?_⟩
    rw [hx]
    have h0 := bulk_one y0.1
    have h1 := bulk_one y1.1
    simp only [Rows.uptoBulk, Rows.uptoBulkAll]
    omega
theorem o_op (h : DataW.trod enc Tryz.prog W base spare held fuel 55 cs = some x) : ∃ r : FOp, cs = [.int .i64 r.1, .int .i64 r.2.1, strV r.2.2.1, strV r.2.2.2] ∧ Opened x r.2.2.1.length ∧ Opened x r.2.2.2.length ∧ 5 ≤ Rows.uptoBulk x.1 := by
  obtain ⟨y0, y1, y2, y3, n, hx, hl, g0, g1, g2, g3⟩ := trod_struct4 Tryz.underlying55 h
  rw [cellsOp] at hl
  simp only [cellsSt, cellsI] at g0 g1 g2 g3
  match cs, hl with
  | [v0, v1, v2, v3], _ =>
    simp only [List.drop_zero, List.take_succ_cons, List.take_zero, List.drop_succ_cons] at g0 g1 g2 g3
    obtain ⟨s0, e0, w0⟩ := o_int g0
    obtain ⟨s1, e1, w1⟩ := o_int g1
    obtain ⟨s2, e2, w2⟩ := o_str g2
    obtain ⟨s3, e3, w3⟩ := o_str g3
    simp only [List.cons.injEq, and_true] at e0 e1 e2 e3
    subst e0 e1 e2 e3
    have b2 : Rows.uptoBulk y2.1 + 1 ≤ Rows.uptoBulk x.1 := by rw [hx]; exact bulk_agg (by simp)
    have b3 : Rows.uptoBulk y3.1 + 1 ≤ Rows.uptoBulk x.1 := by rw [hx]; exact bulk_agg (by simp)
    refine ⟨(s0, s1, s2, s3), rfl, ⟨w2.1, by have := w2.2; simp only; omega⟩, ⟨w3.1, by have := w3.2; simp only; omega⟩, ?_⟩
    rw [hx]
    have h0 := bulk_one y0.1
    have h1 := bulk_one y1.1
    have h2 := bulk_one y2.1
    have h3 := bulk_one y3.1
    simp only [Rows.uptoBulk, Rows.uptoBulkAll]
    omega
end
/-- A slice opened at every element. -/
theorem o_rows {α : Type} [Inhabited α] {t e k c : Nat} {en : α → List Value} {Pr : α → DataW H → Prop} {W : World} {base fuel : Nat} {held : Bool} {spare : Nat → Bool} {cs : List Value} {x : DataW H × List MemPlace} (ht : Tryz.prog.underlying t = some (.slice e)) (hk : Tryz.prog.cellsOf e = k) (hk0 : 0 < k)
    (hO : ∀ {fuel cs x}, DataW.trod enc Tryz.prog W base spare held fuel e cs = some x → ∃ q : α, cs = en q ∧ Pr q x.1 ∧ c ≤ Rows.uptoBulk x.1) (h : DataW.trod enc Tryz.prog W base spare held fuel t cs = some x) :
    ∃ (v : Value) (l : List α), cs = [v] ∧ Opened x l.length ∧ c * l.length ≤ Rows.uptoBulk x.1 ∧ (∀ q ∈ l, ∃ d, Pr q d ∧ Rows.uptoBulk d + 1 ≤ Rows.uptoBulk x.1) ∧
      ∃ o cap, v = .slice o l.length cap ∧ l.length ≤ cap ∧ (l = [] ∨ ∃ b off, o = some ⟨b, off, none⟩ ∧ b < W.heap.size ∧ ∀ i q, l[i]? = some q → ∀ j u, (en q)[j]? = some u → W.cell? ⟨b, off + i * k + j, none⟩ = some u) := by
  rcases open_slice ht h with ⟨rfl, rfl⟩ | ⟨a, len, cap, m, n, D, Pl, rfl, hb, hl, hm, hmm, hxe, hx⟩
  · exact ⟨_, [], rfl, ⟨Nat.zero_le _, by simp [Rows.uptoBulk]⟩, by simp, fun (q : α) (hq : q ∈ ([] : List α)) => (by cases hq), none, 0, rfl, Nat.le_refl _, Or.inl rfl⟩
  have hlm : len ≤ m := by rw [hmm]; split <;> omega
  have each : ∀ i, i < m → ∃ q : α, (∀ j u, (en q)[j]? = some u → W.cell? (a.add (i * k + j)) = some u) ∧ (en q).length = k ∧ Pr q (D i) ∧ c ≤ Rows.uptoBulk (D i) := by
    intro i hi
    obtain ⟨cs', h1, h2⟩ := hx i hi
    rw [hk] at h1
    obtain ⟨_, hlen, hcell⟩ := World.cells?_some h1
    obtain ⟨q, rfl, hp, hc⟩ := hO h2
    refine ⟨q, fun j u hj => ?_, hlen, hp, hc⟩
    have hjk : j < k := by rw [← hlen]; exact (List.getElem?_eq_some_iff.1 hj).1
    rw [← add_add, hcell j hjk, hj]
  obtain ⟨q, hq⟩ := choose_lt each
  have hxs : x.1 = .slice ((List.range len).map D) ((List.range (m - len)).map fun j => D (len + j)) := by rw [hxe]
  have hbs : Rows.uptoBulkAll ((List.range len).map D) + 1 ≤ Rows.uptoBulk x.1 := by rw [hxs]; exact bulk_slice _ _
  have hlen1 := bulk_times 1 ((List.range len).map D) (fun d _ => bulk_one d)
  have hlenc := bulk_times c ((List.range len).map D) (fun d hd => by
    obtain ⟨i, hi, rfl⟩ := List.mem_map.1 hd
    exact (hq i (by have := List.mem_range.1 hi; omega)).2.2.2)
  rw [List.length_map, List.length_range] at hlen1 hlenc
  refine ⟨_, (List.range len).map q, rfl, ⟨by rw [List.length_map, List.length_range]; omega, by rw [List.length_map, List.length_range]; omega⟩, by rw [List.length_map, List.length_range]; omega, fun p hp => ?_, some a, cap, by rw [List.length_map, List.length_range], by rw [List.length_map, List.length_range]; exact hl, ?_⟩
  · obtain ⟨i, hi, rfl⟩ := List.mem_map.1 hp
    have hil := List.mem_range.1 hi
    refine ⟨D i, (hq i (by omega)).2.2.1, ?_⟩
    have := bulk_part (List.mem_map.2 ⟨i, hi, rfl⟩ : D i ∈ (List.range len).map D)
    omega
  · rcases Nat.eq_zero_or_pos len with h0 | h0
    · subst h0; exact .inl rfl
    · obtain ⟨ab, ao, spot⟩ := a
      obtain ⟨u0, hu0⟩ : ∃ u, (en (q 0))[0]? = some u := ⟨_, List.getElem?_eq_getElem (by rw [(hq 0 (by omega)).2.1]; exact hk0)⟩
      have hc0 := (hq 0 (by omega)).1 0 u0 hu0
      have hspot : spot = none := by simpa [Addr.add] using World.cell?_spot hc0
      subst hspot
      refine .inr ⟨ab, ao, rfl, by simpa [Addr.add] using World.block_lt_of_cell? W _ hc0, fun i p hp j u hj => ?_⟩
      rw [List.getElem?_map] at hp
      have hil : i < len := by
        rcases Nat.lt_or_ge i len with h1 | h1
        · exact h1
        · rw [List.getElem?_eq_none (by rw [List.length_range]; exact h1)] at hp; cases hp
      rw [List.getElem?_range hil] at hp
      cases hp
      have := (hq i (by omega)).1 j u hj
      rw [Addr.add_lit, ← Nat.add_assoc] at this
      exact this
section
variable {W : World} {base fuel : Nat} {held : Bool} {spare : Nat → Bool} {cs : List Value} {x : DataW H × List MemPlace}
theorem o_ds (h : DataW.trod enc Tryz.prog W base spare held fuel 69 cs = some x) : ∃ (v : Value) (d : Ds), cs = [v] ∧ RdR W v d ∧ Opened x d.length ∧ ∀ r ∈ d, Opened x r.1.length ∧ Opened x r.2.length := by
  obtain ⟨v, l, e, hl, -, hp, o, cap, hv, hc, hr⟩ := o_rows (α := Rec) (c := 0) (en := fun r => [strV r.1, strV r.2]) (Pr := fun r d => (r.1.length ≤ maxLen ∧ r.1.length + 1 ≤ Rows.uptoBulk d) ∧ (r.2.length ≤ maxLen ∧ r.2.length + 1 ≤ Rows.uptoBulk d)) Tryz.underlying69 cellsRe (by decide)
    (fun h => by obtain ⟨r, e, a, b⟩ := o_rec h; exact ⟨r, e, ⟨a, b⟩, Nat.zero_le _⟩) h
  refine ⟨v, l, e, ⟨o, cap, hv, hc, hr.imp id ?_⟩, hl, fun r hr => ?_⟩
  · rintro ⟨b, off, e1, e2, h3⟩
    exact ⟨b, off, e1, e2, fun i r hi => ⟨h3 i r hi 0 _ rfl, h3 i r hi 1 _ rfl⟩⟩
  · obtain ⟨d, ⟨⟨a1, a2⟩, b1, b2⟩, h2⟩ := hp r hr
    exact ⟨⟨a1, by omega⟩, b1, by omega⟩
theorem o_ops (h : DataW.trod enc Tryz.prog W base spare held fuel 36 cs = some x) : ∃ (v : Value) (l : List FOp), cs = [v] ∧ RdO W v l ∧ Opened x l.length ∧ 5 * l.length ≤ Rows.uptoBulk x.1 ∧ ∀ r ∈ l, Opened x r.2.2.1.length ∧ Opened x r.2.2.2.length := by
  obtain ⟨v, l, e, hl, h5, hp, o, cap, hv, hc, hr⟩ := o_rows (α := FOp) (c := 5) (en := fun r => [.int .i64 r.1, .int .i64 r.2.1, strV r.2.2.1, strV r.2.2.2]) (Pr := fun r d => (r.2.2.1.length ≤ maxLen ∧ r.2.2.1.length + 1 ≤ Rows.uptoBulk d) ∧ (r.2.2.2.length ≤ maxLen ∧ r.2.2.2.length + 1 ≤ Rows.uptoBulk d)) Tryz.underlying36 cellsOp (by decide)
    (fun h => by obtain ⟨r, e, a, b, c⟩ := o_op h; exact ⟨r, e, ⟨a, b⟩, c⟩) h
  refine ⟨v, l, e, ⟨o, cap, hv, hc, hr.imp id ?_⟩, hl, h5, fun r hr => ?_⟩
  · rintro ⟨b, off, e1, e2, h3⟩
    exact ⟨b, off, e1, e2, fun i r hi => ⟨h3 i r hi 0 _ rfl, h3 i r hi 1 _ rfl, h3 i r hi 2 _ rfl, h3 i r hi 3 _ rfl⟩⟩
  · obtain ⟨d, ⟨⟨a1, a2⟩, b1, b2⟩, h2⟩ := hp r hr
    exact ⟨⟨a1, by omega⟩, b1, by omega⟩
theorem o_wts (h : DataW.trod enc Tryz.prog W base spare held fuel 23 cs = some x) : ∃ (v : Value) (l : List Wt), cs = [v] ∧ RdW W v l ∧ Opened x l.length ∧ 3 * l.length ≤ Rows.uptoBulk x.1 ∧ ∀ r ∈ l, Opened x r.2.length := by
  obtain ⟨v, l, e, hl, h5, hp, o, cap, hv, hc, hr⟩ := o_rows (α := Wt) (c := 3) (en := fun r => [.int .i64 r.1, strV r.2]) (Pr := fun r d => (r.2.length ≤ maxLen ∧ r.2.length + 1 ≤ Rows.uptoBulk d)) Tryz.underlying23 cellsWt (by decide)
    (fun h => by obtain ⟨r, e, a, b⟩ := o_wt h; exact ⟨r, e, a, b⟩) h
  refine ⟨v, l, e, ⟨o, cap, hv, hc, hr.imp id ?_⟩, hl, h5, fun r hr => ?_⟩
  · rintro ⟨b, off, e1, e2, h3⟩
    exact ⟨b, off, e1, e2, fun i r hi => ⟨h3 i r hi 0 _ rfl, h3 i r hi 1 _ rfl⟩⟩
  · obtain ⟨d, ⟨a1, a2⟩, h2⟩ := hp r hr
    exact ⟨a1, by omega⟩
theorem o_strs (h : DataW.trod enc Tryz.prog W base spare held fuel 22 cs = some x) : ∃ (v : Value) (l : List Bs), cs = [v] ∧ RdS W v l ∧ Opened x l.length ∧ ∀ r ∈ l, Opened x r.length := by
  obtain ⟨v, l, e, hl, h5, hp, o, cap, hv, hc, hr⟩ := o_rows (α := Bs) (c := 0) (en := fun r => [strV r]) (Pr := fun r d => (r.length ≤ maxLen ∧ r.length + 1 ≤ Rows.uptoBulk d)) Tryz.underlying22 cellsSt (by decide)
    (fun h => by obtain ⟨r, e, a⟩ := o_str h; exact ⟨r, e, a, Nat.zero_le _⟩) h
  refine ⟨v, l, e, ⟨o, cap, hv, hc, hr.imp id ?_⟩, hl, fun r hr => ?_⟩
  · rintro ⟨b, off, e1, e2, h3⟩
    exact ⟨b, off, e1, e2, fun i r hi => by have := h3 i r hi 0 _ rfl; simpa using this⟩
  · obtain ⟨d, ⟨a1, a2⟩, h2⟩ := hp r hr
    exact ⟨a1, by omega⟩
theorem o_ints (h : DataW.trod enc Tryz.prog W base spare held fuel 168 cs = some x) : ∃ (v : Value) (l : List Int), cs = [v] ∧ RdI W v l ∧ Opened x l.length ∧ ∀ n ∈ l, -9223372036854775808 ≤ n ∧ n ≤ 9223372036854775807 := by
  obtain ⟨v, l, e, hl, h5, hp, o, cap, hv, hc, hr⟩ := o_rows (α := Int) (c := 0) (en := fun r => [.int .i64 r]) (Pr := fun r d => -9223372036854775808 ≤ r ∧ r ≤ 9223372036854775807) Tryz.underlying168 cellsI (by decide)
    (fun h => by obtain ⟨r, e, a⟩ := o_int h; exact ⟨r, e, a, Nat.zero_le _⟩) h
  refine ⟨v, l, e, ⟨o, cap, hv, hc, hr.imp id ?_⟩, hl, fun r hr => ?_⟩
  · rintro ⟨b, off, e1, e2, h3⟩
    exact ⟨b, off, e1, e2, fun i r hi => by have := h3 i r hi 0 _ rfl; simpa using this⟩
  · obtain ⟨d, a1, h2⟩ := hp r hr
    exact a1
end
end
end Go.Proofs.YtifcgimpgbeocaaGreat
/- The argument of type Case, opened. -/
set_option linter.unusedVariables false
set_option linter.unusedSimpArgs false
namespace Go.Proofs.YtifcgimpgbeocaaGreat
open Go.ChangeShapes Go.WideShapes Go.ChangeAt Go.RowKit Go.Joins Go.ChangeMaps Go.Deep
set_option maxRecDepth 100000 in
theorem cellsDs : Tryz.prog.cellsOf 69 = 1 := by kernel_rfl
abbrev CaseT := Ds × Bs × Bs × Rec × FOp
abbrev caseV (v : Value) (c : CaseT) : Value := .agg #[v, strV c.2.1, strV c.2.2.1, strV c.2.2.2.1.1, strV c.2.2.2.1.2, .int .i64 c.2.2.2.2.1, .int .i64 c.2.2.2.2.2.1, strV c.2.2.2.2.2.2.1, strV c.2.2.2.2.2.2.2]
theorem list9 {α : Type} {l : List α} (h : l.length = 9) : ∃ a0 a1 a2 a3 a4 a5 a6 a7 a8, l = [a0, a1, a2, a3, a4, a5, a6, a7, a8] := by
  match l, h with
  | [a0, a1, a2, a3, a4, a5, a6, a7, a8], _ => exact ⟨_, _, _, _, _, _, _, _, _, rfl⟩
theorem trod_struct5 {H : Type} {enc : TypeId × Value → H} {P : Program} {w : World} {base : Nat} {spare : Nat → Bool} {held : Bool} {t : TypeId} {f0 f1 f2 f3 f4 : Field} {fuel : Nat} {cs : List Value} {x : DataW H × List MemPlace} (ht : P.underlying t = some (.struct #[f0, f1, f2, f3, f4])) (h : DataW.trod enc P w base spare held fuel t cs = some x) :
    ∃ y0 y1 y2 y3 y4 n, x = (.agg [y0.1, y1.1, y2.1, y3.1, y4.1], y0.2 ++ (y1.2 ++ (y2.2 ++ (y3.2 ++ y4.2)))) ∧ cs.length = P.cellsOf t ∧ DataW.trod enc P w base spare held n f0.type ((cs.drop f0.offset).take (P.cellsOf f0.type)) = some y0 ∧
      DataW.trod enc P w base spare held n f1.type ((cs.drop f1.offset).take (P.cellsOf f1.type)) = some y1 ∧ DataW.trod enc P w base spare held n f2.type ((cs.drop f2.offset).take (P.cellsOf f2.type)) = some y2 ∧
      DataW.trod enc P w base spare held n f3.type ((cs.drop f3.offset).take (P.cellsOf f3.type)) = some y3 ∧ DataW.trod enc P w base spare held n f4.type ((cs.drop f4.offset).take (P.cellsOf f4.type)) = some y4 := by
  obtain ⟨xs, n, _, rfl, hl, hlen, hf⟩ := DataW.trod_struct ht h
  match xs, hlen with
  | [y0, y1, y2, y3, y4], _ => exact ⟨y0, y1, y2, y3, y4, n, by simp, hl, by simpa using hf 0 f0 rfl, by simpa using hf 1 f1 rfl, by simpa using hf 2 f2 rfl, by simpa using hf 3 f3 rfl, by simpa using hf 4 f4 rfl⟩
end Go.Proofs.YtifcgimpgbeocaaGreat
/- Arguments of the laws, opened. -/
set_option linter.unusedVariables false
set_option linter.unusedSimpArgs false
namespace Go.Proofs.YtifcgimpgbeocaaGreat
open Go.ChangeShapes Go.WideShapes Go.ChangeAt Go.RowKit Go.Joins Go.ChangeMaps Go.Deep
section
variable {H : Type} {enc : TypeId × Value → H} {W : World} {b0 base : Nat} {r : Reach} {held : Bool} {spare : Nat → Bool} {v : Value} {d : DataW H} {p : List MemPlace}
set_option maxRecDepth 100000 in
theorem cellsAc : Tryz.prog.cellsOf 77 = 3 := by kernel_rfl
set_option maxRecDepth 100000 in
theorem cellsDk : Tryz.prog.cellsOf 25 = 2 := by kernel_rfl
set_option maxRecDepth 100000 in
theorem cellsSs : Tryz.prog.cellsOf 22 = 1 := by kernel_rfl
set_option maxRecDepth 100000 in
theorem cellsWs : Tryz.prog.cellsOf 23 = 1 := by kernel_rfl
set_option maxRecDepth 100000 in
/-- A slice by value. -/
theorem slice_arg {t e : TypeId} (ht : Tryz.prog.underlying t = some (.slice e)) (hv : Value.okWide Tryz.prog W r b0 t v) (h : DataW.Trod enc Tryz.prog W base spare held t v d p) : ∃ fuel, DataW.trod enc Tryz.prog W base spare held fuel t [v] = some (d, p) := by
  obtain ⟨a, n, c, rfl⟩ := okWide_slice ht hv
  obtain ⟨fuel, hf⟩ := h
  exact ⟨fuel, by simpa [Value.cells] using hf⟩
set_option maxRecDepth 100000 in
theorem ds_arg (hv : Value.okWide Tryz.prog W r b0 69 v) (h : DataW.Trod enc Tryz.prog W base spare held 69 v d p) : ∃ l : Ds, RdR W v l := by
  obtain ⟨fuel, hf⟩ := slice_arg Tryz.underlying69 hv h
  obtain ⟨u, l, e, hr, -, -⟩ := o_ds hf
  simp only [List.cons.injEq, and_true] at e
  subst e
  exact ⟨l, hr⟩
set_option maxRecDepth 100000 in
theorem ops_arg (hv : Value.okWide Tryz.prog W r b0 36 v) (h : DataW.Trod enc Tryz.prog W base spare held 36 v d p) : ∃ l : List FOp, RdO W v l ∧ 5 * l.length ≤ Rows.uptoBulk d := by
  obtain ⟨fuel, hf⟩ := slice_arg Tryz.underlying36 hv h
  obtain ⟨u, l, e, hr, -, h5, -⟩ := o_ops hf
  simp only [List.cons.injEq, and_true] at e
  subst e
  exact ⟨l, hr, h5⟩
set_option maxRecDepth 100000 in
theorem ints_arg (hv : Value.okWide Tryz.prog W r b0 168 v) (h : DataW.Trod enc Tryz.prog W base spare held 168 v d p) : ∃ l : List Int, RdI W v l ∧ l.length + 1 ≤ Rows.uptoBulk d ∧ ∀ n ∈ l, -9223372036854775808 ≤ n ∧ n ≤ 9223372036854775807 := by
  obtain ⟨fuel, hf⟩ := slice_arg Tryz.underlying168 hv h
  obtain ⟨u, l, e, hr, h2, h3⟩ := o_ints hf
  simp only [List.cons.injEq, and_true] at e
  subst e
  exact ⟨l, hr, h2.2, h3⟩
set_option maxRecDepth 100000 in
theorem op_arg (hv : Value.okWide Tryz.prog W r b0 55 v) (h : DataW.Trod enc Tryz.prog W base spare held 55 v d p) : ∃ o : FOp, v = opV o := by
  obtain ⟨cs, rfl, hsz⟩ := okWide_struct Tryz.underlying55 hv
  obtain ⟨fuel, hf⟩ := h
  have hf' : DataW.trod enc Tryz.prog W base spare held fuel 55 cs.toList = some (d, p) := by simpa [Value.cells] using hf
  obtain ⟨o, e, -⟩ := o_op hf'
  obtain ⟨l⟩ := cs
  simp only at e
  subst e
  exact ⟨o, rfl⟩
set_option maxRecDepth 100000 in
theorem o_ac {fuel : Nat} {cs : List Value} {x : DataW H × List MemPlace} (h : DataW.trod enc Tryz.prog W base spare held fuel 77 cs = some x) : ∃ a : Ac, cs = [.bool a.1, .int .i64 a.2.1, strV a.2.2] ∧ (-9223372036854775808 ≤ a.2.1 ∧ a.2.1 ≤ 9223372036854775807) := by
  obtain ⟨y0, y1, y2, n, hx, hl, g0, g1, g2⟩ := trod_struct3 Tryz.underlying77 h
  rw [cellsAc] at hl
  simp only [cellsSt, cellsI, cellsBo] at g0 g1 g2
  match cs, hl with
  | [v0, v1, v2], _ =>
    simp only [List.drop_zero, List.take_succ_cons, List.take_zero, List.drop_succ_cons] at g0 g1 g2
    obtain ⟨s0, e0⟩ := o_bool g0
    obtain ⟨s1, e1, w1⟩ := o_int g1
    obtain ⟨s2, e2, -⟩ := o_str g2
    simp only [List.cons.injEq, and_true] at e0 e1 e2
    subst e0 e1 e2
    exact ⟨(s0, s1, s2), rfl, w1⟩
set_option maxRecDepth 100000 in
theorem act_arg (hv : Value.okWide Tryz.prog W r b0 77 v) (h : DataW.Trod enc Tryz.prog W base spare held 77 v d p) : ∃ a : Ac, v = acV a ∧ (-9223372036854775808 ≤ a.2.1 ∧ a.2.1 ≤ 9223372036854775807) := by
  obtain ⟨cs, rfl, hsz⟩ := okWide_struct Tryz.underlying77 hv
  obtain ⟨fuel, hf⟩ := h
  have hf' : DataW.trod enc Tryz.prog W base spare held fuel 77 cs.toList = some (d, p) := by simpa [Value.cells] using hf
  obtain ⟨o, e, hb⟩ := o_ac hf'
  obtain ⟨l⟩ := cs
  simp only at e
  subst e
  exact ⟨o, rfl, hb⟩
set_option maxRecDepth 100000 in
/-- A disk by value: its pages and its writes. -/
theorem disk_arg (hv : Value.okWide Tryz.prog W r b0 25 v) (h : DataW.Trod enc Tryz.prog W base spare held 25 v d p) : ∃ (k : Dk) (vp vq : Value), v = .agg #[vp, vq] ∧ RdS W vp k.1 ∧ RdW W vq k.2 ∧ k.1.length + 1 ≤ Rows.uptoBulk d ∧ 3 * k.2.length ≤ Rows.uptoBulk d ∧ k.1.length ≤ maxLen ∧ k.2.length ≤ maxLen := by
  obtain ⟨cs, rfl, hsz⟩ := okWide_struct Tryz.underlying25 hv
  obtain ⟨fuel, hf⟩ := h
  have hf' : DataW.trod enc Tryz.prog W base spare held fuel 25 cs.toList = some (d, p) := by simpa [Value.cells] using hf
  obtain ⟨y0, y1, n, hx, hl, g0, g1⟩ := trod_struct2 Tryz.underlying25 hf'
  rw [cellsDk] at hl
  obtain ⟨l⟩ := cs
  simp only [cellsSs, cellsWs] at g0 g1
  match l, hl with
  | [v0, v1], _ =>
    simp only [List.drop_zero, List.take_succ_cons, List.take_zero, List.drop_succ_cons] at g0 g1
    obtain ⟨u0, ps, e0, hr0, hb0, -⟩ := o_strs g0
    obtain ⟨u1, ws, e1, hr1, hb1, h31, -⟩ := o_wts g1
    simp only [List.cons.injEq, and_true] at e0 e1
    subst e0 e1
    simp only [Prod.mk.injEq] at hx
    have b0 : Rows.uptoBulk y0.1 + 1 ≤ Rows.uptoBulk d := by rw [hx.1]; exact bulk_agg (by simp)
    have b1 : Rows.uptoBulk y1.1 + 1 ≤ Rows.uptoBulk d := by rw [hx.1]; exact bulk_agg (by simp)
    exact ⟨(ps, ws), v0, v1, rfl, hr0, hr1, by have := hb0.2; simp only; omega, by simp only; omega, hb0.1, hb1.1⟩
set_option maxRecDepth 100000 in
theorem str_arg (hv : Value.okWide Tryz.prog W r b0 9 v) (h : DataW.Trod enc Tryz.prog W base spare held 9 v d p) : ∃ s : Bs, v = strV s ∧ s.length ≤ maxLen ∧ s.length + 1 ≤ Rows.uptoBulk d := by
  obtain ⟨z, rfl⟩ := okWide_string Tryz.underlying9 hv
  obtain ⟨fuel, hf⟩ := h
  have hf' : DataW.trod enc Tryz.prog W base spare held fuel 9 [.string z] = some (d, p) := by simpa [Value.cells] using hf
  obtain ⟨s, e, hb⟩ := o_str hf'
  simp only [List.cons.injEq, and_true] at e
  exact ⟨s, e, hb.1, hb.2⟩
set_option maxRecDepth 100000 in
theorem int_arg (hv : Value.okWide Tryz.prog W r b0 3 v) (h : DataW.Trod enc Tryz.prog W base spare held 3 v d p) : ∃ n : Int, v = .int .i64 n ∧ (-9223372036854775808 ≤ n ∧ n ≤ 9223372036854775807) := by
  obtain ⟨n, rfl, rfl, rfl, hw⟩ := open_int Tryz.underlying3 hv h
  refine ⟨n, rfl, ?_⟩
  have h1 : IntKind.min .i64 = -9223372036854775808 := by decide
  have h2 : IntKind.max .i64 = 9223372036854775807 := by decide
  simp only [Lit.wf, Bool.and_eq_true, decide_eq_true_eq, h1, h2] at hw
  exact hw
end
end Go.Proofs.YtifcgimpgbeocaaGreat
