/- From the walk of a law to its row: the law answers true, its arguments read as they read; arguments opened. -/
import Derived.Test.YtifcgimpgbeocaaGreatRows
import Derived.Test.YtifcgimpgbeocaaGreatK2
import Derived.ProofKit
import Derived.Carry
import Derived.Lib.SmallJoins
import Derived.Deep.Slices
import Derived.Deep.Strs
import Derived.Test.YtifcgimpgbeocaaGreatK47
set_option linter.unusedVariables false
set_option linter.unusedSimpArgs false
namespace Go.Proofs.YtifcgimpgbeocaaGreat
open Go.ChangeShapes Go.WideShapes Go.ChangeAt Go.RowKit Go.Joins Go.ChangeMaps Go.Deep
theorem Tryz.own : ownKnob Tryz.prog.godebug = none := by kernel_rfl
theorem Tryz.laidOut : laidOutB Tryz.prog = true := by kernel_rfl
/-- Arguments read as they read, behind a call that only makes memory. -/
theorem trodAll_stay {H : Type} {enc : TypeId × Value → H} {P : Program} (hl : laidOutB P = true) {W W' : World} (hb : Below W.heap.size W W') : ∀ (ts : List TypeId) (vs : List Value) (ds : List (DataW H)) (ps : List MemPlace),
    (∀ t ∈ ts, P.readableRec t = true ∧ t < P.types.size) → (∀ x ∈ ps, x.block < W.heap.size) → DataW.TrodAll enc P W 0 (fun _ => true) true ts vs ds ps → DataW.TrodAll enc P W' 0 (fun b => decide (b < W.heap.size)) true ts vs ds ps
  | [], [], [], _, _, _, h => h
  | t :: ts, v :: vs, d :: ds, ps, hr, hlt, h => by
    obtain ⟨p, q, h1, h2, rfl⟩ := h
    obtain ⟨r1, r2⟩ := hr t (List.mem_cons_self ..)
    exact ⟨p, q, Below.trod hl r1 r2 h1 hb (fun x hx => hlt x (List.mem_append_left _ hx)),
      trodAll_stay hl hb ts vs ds q (fun t ht => hr t (List.mem_cons_of_mem _ ht)) (fun x hx => hlt x (List.mem_append_right _ hx)) h2, rfl⟩
  | [], _ :: _, _, _, _, _, h => h.elim
  | [], [], _ :: _, _, _, _, h => h.elim
  | _ :: _, [], _, _, _, _, h => h.elim
  | _ :: _, _ :: _, [], _, _, _, h => h.elim
theorem law_post {H : Type} {enc : TypeId × Value → H} {P : Program} {f : Func} {s : ChangeSpec} {W W' : World} {args : Array Value} {ds : List (DataW H)} {p : List MemPlace} (hl : laidOutB P = true)
    (hv : s.vars = []) (hrt : f.resultTypes = #[4]) (h4 : P.underlying 4 = some .bool) (hr : ∀ t ∈ f.params.toList, P.readableRec t = true ∧ t < P.types.size)
    (hW : DataW.Whole enc P f.params.toList s.vars false W args.toList ds [] p) (hs : s.fn H ds = { results := [.lit (.bool true)], args := ds }) (hb : Below W.heap.size W W') :
    s.post enc P f false true false false W args (.bool true) W' := by
  have hlt := hW.lt
  have hW2 := hW
  obtain ⟨p1, q1, hA, hV, rfl, -, -⟩ := hW2
  rw [hv] at hV
  obtain rfl : q1 = [] := hV
  rw [List.append_nil] at hW hlt
  refine ⟨ds, [], p1, [], p1, [], hW, ?_, ?_, ?_, hb.frame _, fun h => by cases h⟩
  · rw [List.append_nil, hs, hrt]
    exact trodAll_mk1 (shut_bool h4 true)
  · rw [List.append_nil, hs]
    exact trodAll_stay hl hb _ _ _ _ hr hlt hA
  · rw [hv, List.append_nil, hs]
    exact rfl
/-! ### Bulk -/
section
variable {H : Type} {enc : TypeId × Value → H}
theorem bulk_one (d : DataW H) : 1 ≤ Rows.uptoBulk d := by
  cases d with
  | lit l => cases l <;> simp [Rows.uptoBulk]
  | nil => simp [Rows.uptoBulk]
  | ptr d => simp [Rows.uptoBulk]
  | slice elems spare => simp [Rows.uptoBulk]
  | agg parts => simp [Rows.uptoBulk]
  | iface t d => simp [Rows.uptoBulk]
  | map entries => simp [Rows.uptoBulk]
  | held h => simp [Rows.uptoBulk]
theorem bulk_part {d : DataW H} {l : List (DataW H)} (h : d ∈ l) : Rows.uptoBulk d ≤ Rows.uptoBulkAll l := by
  induction l with
  | nil => cases h
  | cons x r ih =>
    simp only [Rows.uptoBulkAll]
    cases List.mem_cons.1 h with
    | inl e => subst e; omega
    | inr e => have := ih e; omega
theorem bulk_times (c : Nat) (l : List (DataW H)) (h : ∀ d ∈ l, c ≤ Rows.uptoBulk d) : c * l.length ≤ Rows.uptoBulkAll l := by
  induction l with
  | nil => simp [Rows.uptoBulkAll]
  | cons x r ih =>
    have h1 := h x (List.mem_cons_self ..)
    have h2 := ih (fun d hd => h d (List.mem_cons_of_mem _ hd))
    simp only [Rows.uptoBulkAll, List.length_cons]
    rw [Nat.mul_succ]
    omega
theorem bulk_slice (elems spare : List (DataW H)) : Rows.uptoBulkAll elems + 1 ≤ Rows.uptoBulk (.slice elems spare) := by
  simp only [Rows.uptoBulk]
  omega
theorem bulk_agg {d : DataW H} {l : List (DataW H)} (h : d ∈ l) : Rows.uptoBulk d + 1 ≤ Rows.uptoBulk (.agg l) := by
  have := bulk_part h
  simp only [Rows.uptoBulk]
  omega
/-! ### Values opened -/
set_option maxRecDepth 100000 in
theorem cellsI : Tryz.prog.cellsOf 3 = 1 := by kernel_rfl
set_option maxRecDepth 100000 in
theorem cellsSt : Tryz.prog.cellsOf 9 = 1 := by kernel_rfl
set_option maxRecDepth 100000 in
theorem cellsOp : Tryz.prog.cellsOf 55 = 4 := by kernel_rfl
abbrev Opened (x : DataW H × List MemPlace) (n : Nat) : Prop := n ≤ maxLen ∧ n + 1 ≤ Rows.uptoBulk x.1
section
variable {W : World} {base fuel : Nat} {held : Bool} {spare : Nat → Bool} {cs : List Value} {x : DataW H × List MemPlace}
theorem o_str (h : DataW.trod enc Tryz.prog W base spare held fuel 9 cs = some x) : ∃ s : Bs, cs = [strV s] ∧ Opened x s.length := by
  obtain ⟨z, e, hx, hl⟩ := DataW.trod_string Tryz.underlying9 h
  refine ⟨z.data.toList, by rw [e], by rw [Array.length_toList]; exact hl, ?_⟩
  rw [hx]
  simp [Rows.uptoBulk]
theorem o_int (h : DataW.trod enc Tryz.prog W base spare held fuel 3 cs = some x) : ∃ n : Int, cs = [.int .i64 n] ∧ (-9223372036854775808 ≤ n ∧ n ≤ 9223372036854775807) := by
  obtain ⟨z, e, hx, hl⟩ := DataW.trod_int Tryz.underlying3 h
  refine ⟨z, e, ?_⟩
  have h1 : IntKind.min .i64 = -9223372036854775808 := by decide
  have h2 : IntKind.max .i64 = 9223372036854775807 := by decide
  simp only [Lit.wf, Bool.and_eq_true, decide_eq_true_eq, h1, h2] at hl
  exact hl
theorem o_op (h : DataW.trod enc Tryz.prog W base spare held fuel 55 cs = some x) : ∃ r : FOp, cs = [.int .i64 r.1, .int .i64 r.2.1, strV r.2.2.1, strV r.2.2.2] ∧ Opened x r.2.2.1.length ∧ Opened x r.2.2.2.length ∧ 5 ≤ Rows.uptoBulk x.1 := by
  obtain ⟨y0, y1, y2, y3, n, hx, hl, g0, g1, g2, g3⟩ := trod_struct4 Tryz.underlying55 h
  rw [cellsOp] at hl
  simp only [cellsSt, cellsI] at g0 g1 g2 g3
  match cs, hl with
  | [v0, v1, v2, v3], _ =>
    simp only [List.drop_zero, List.take_succ_cons, List.take_zero, List.drop_succ_cons] at g0 g1 g2 g3
    obtain ⟨s0, e0, w0⟩ := o_int g0
    obtain ⟨s1, e1, w1⟩ := o_int g1
    obtain ⟨s2, e2, w2⟩ := o_str g2
    obtain ⟨s3, e3, w3⟩ := o_str g3
    simp only [List.cons.injEq, and_true] at e0 e1 e2 e3
    subst e0 e1 e2 e3
    have b2 : Rows.uptoBulk y2.1 + 1 ≤ Rows.uptoBulk x.1 := by rw [hx]; exact bulk_agg (by simp)
    have b3 : Rows.uptoBulk y3.1 + 1 ≤ Rows.uptoBulk x.1 := by rw [hx]; exact bulk_agg (by simp)
    refine ⟨(s0, s1, s2, s3), rfl, ⟨w2.1, by have := w2.2; simp only; omega⟩, ⟨w3.1, by have := w3.2; simp only; omega⟩, ?_⟩
    rw [hx]
    have h0 := bulk_one y0.1
    have h1 := bulk_one y1.1
    have h2 := bulk_one y2.1
    have h3 := bulk_one y3.1
    simp only [Rows.uptoBulk, Rows.uptoBulkAll]
    omega
end
/-- A slice opened at every element. -/
theorem o_rows {α : Type} [Inhabited α] {t e k c : Nat} {en : α → List Value} {Pr : α → DataW H → Prop} {W : World} {base fuel : Nat} {held : Bool} {spare : Nat → Bool} {cs : List Value} {x : DataW H × List MemPlace} (ht : Tryz.prog.underlying t = some (.slice e)) (hk : Tryz.prog.cellsOf e = k) (hk0 : 0 < k)
    (hO : ∀ {fuel cs x}, DataW.trod enc Tryz.prog W base spare held fuel e cs = some x → ∃ q : α, cs = en q ∧ Pr q x.1 ∧ c ≤ Rows.uptoBulk x.1) (h : DataW.trod enc Tryz.prog W base spare held fuel t cs = some x) :
    ∃ (v : Value) (l : List α), cs = [v] ∧ Opened x l.length ∧ c * l.length ≤ Rows.uptoBulk x.1 ∧ (∀ q ∈ l, ∃ d, Pr q d ∧ Rows.uptoBulk d + 1 ≤ Rows.uptoBulk x.1) ∧
      ∃ o cap, v = .slice o l.length cap ∧ l.length ≤ cap ∧ (l = [] ∨ ∃ b off, o = some ⟨b, off, none⟩ ∧ b < W.heap.size ∧ ∀ i q, l[i]? = some q → ∀ j u, (en q)[j]? = some u → W.cell? ⟨b, off + i * k + j, none⟩ = some u) := by
  rcases open_slice ht h with ⟨rfl, rfl⟩ | ⟨a, len, cap, m, n, D, Pl, rfl, hb, hl, hm, hmm, hxe, hx⟩
  · exact ⟨_, [], rfl, ⟨Nat.zero_le _, by simp [Rows.uptoBulk]⟩, by simp, fun (q : α) (hq : q ∈ ([] : List α)) => (by cases hq), none, 0, rfl, Nat.le_refl _, Or.inl rfl⟩
  have hlm : len ≤ m := by rw [hmm]; split <;> omega
  have each : ∀ i, i < m → ∃ q : α, (∀ j u, (en q)[j]? = some u → W.cell? (a.add (i * k + j)) = some u) ∧ (en q).length = k ∧ Pr q (D i) ∧ c ≤ Rows.uptoBulk (D i) := by
    intro i hi
    obtain ⟨cs', h1, h2⟩ := hx i hi
    rw [hk] at h1
    obtain ⟨_, hlen, hcell⟩ := World.cells?_some h1
    obtain ⟨q, rfl, hp, hc⟩ := hO h2
    refine ⟨q, fun j u hj => ?_, hlen, hp, hc⟩
    have hjk : j < k := by rw [← hlen]; exact (List.getElem?_eq_some_iff.1 hj).1
    rw [← add_add, hcell j hjk, hj]
  obtain ⟨q, hq⟩ := choose_lt each
  have hxs : x.1 = .slice ((List.range len).map D) ((List.range (m - len)).map fun j => D (len + j)) := by rw [hxe]
  have hbs : Rows.uptoBulkAll ((List.range len).map D) + 1 ≤ Rows.uptoBulk x.1 := by rw [hxs]; exact bulk_slice _ _
  have hlen1 := bulk_times 1 ((List.range len).map D) (fun d _ => bulk_one d)
  have hlenc := bulk_times c ((List.range len).map D) (fun d hd => by
    obtain ⟨i, hi, rfl⟩ := List.mem_map.1 hd
    exact (hq i (by have := List.mem_range.1 hi; omega)).2.2.2)
  rw [List.length_map, List.length_range] at hlen1 hlenc
  refine ⟨_, (List.range len).map q, rfl, ⟨by rw [List.length_map, List.length_range]; omega, by rw [List.length_map, List.length_range]; omega⟩, by rw [List.length_map, List.length_range]; omega, fun p hp => ?_, some a, cap, by rw [List.length_map, List.length_range], by rw [List.length_map, List.length_range]; exact hl, ?_⟩
  · obtain ⟨i, hi, rfl⟩ := List.mem_map.1 hp
    have hil := List.mem_range.1 hi
    refine ⟨D i, (hq i (by omega)).2.2.1, ?_⟩
    have := bulk_part (List.mem_map.2 ⟨i, hi, rfl⟩ : D i ∈ (List.range len).map D)
    omega
  · rcases Nat.eq_zero_or_pos len with h0 | h0
    · subst h0; exact .inl rfl
    · obtain ⟨ab, ao, spot⟩ := a
      obtain ⟨u0, hu0⟩ : ∃ u, (en (q 0))[0]? = some u := ⟨_, List.getElem?_eq_getElem (by rw [(hq 0 (by omega)).2.1]; exact hk0)⟩
      have hc0 := (hq 0 (by omega)).1 0 u0 hu0
      have hspot : spot = none := by simpa [Addr.add] using World.cell?_spot hc0
      subst hspot
      refine .inr ⟨ab, ao, rfl, by simpa [Addr.add] using World.block_lt_of_cell? W _ hc0, fun i p hp j u hj => ?_⟩
      rw [List.getElem?_map] at hp
      have hil : i < len := by
        rcases Nat.lt_or_ge i len with h1 | h1
        · exact h1
        · rw [List.getElem?_eq_none (by rw [List.length_range]; exact h1)] at hp; cases hp
      rw [List.getElem?_range hil] at hp
      cases hp
      have := (hq i (by omega)).1 j u hj
      rw [Addr.add_lit, ← Nat.add_assoc] at this
      exact this
section
variable {W : World} {base fuel : Nat} {held : Bool} {spare : Nat → Bool} {cs : List Value} {x : DataW H × List MemPlace}
end
end
end Go.Proofs.YtifcgimpgbeocaaGreat
/- The argument of type Case, opened. -/
set_option linter.unusedVariables false
set_option linter.unusedSimpArgs false
namespace Go.Proofs.YtifcgimpgbeocaaGreat
open Go.ChangeShapes Go.WideShapes Go.ChangeAt Go.RowKit Go.Joins Go.ChangeMaps Go.Deep
end Go.Proofs.YtifcgimpgbeocaaGreat
/- Arguments of the laws, opened. -/
set_option linter.unusedVariables false
set_option linter.unusedSimpArgs false
namespace Go.Proofs.YtifcgimpgbeocaaGreat
open Go.ChangeShapes Go.WideShapes Go.ChangeAt Go.RowKit Go.Joins Go.ChangeMaps Go.Deep
section
variable {H : Type} {enc : TypeId × Value → H} {W : World} {b0 base : Nat} {r : Reach} {held : Bool} {spare : Nat → Bool} {v : Value} {d : DataW H} {p : List MemPlace}
end
end Go.Proofs.YtifcgimpgbeocaaGreat
/- Arguments of the laws on scripts, opened. -/
set_option linter.unusedVariables false
set_option linter.unusedSimpArgs false
namespace Go.Proofs.YtifcgimpgbeocaaGreat
open Go.ChangeShapes Go.WideShapes Go.ChangeAt Go.RowKit Go.Joins Go.ChangeMaps Go.Deep
set_option maxRecDepth 100000 in
theorem cellsStep : Tryz.prog.cellsOf 57 = 5 := by kernel_rfl
set_option maxRecDepth 100000 in
theorem cellsSteps : Tryz.prog.cellsOf 48 = 1 := by kernel_rfl
set_option maxRecDepth 100000 in
theorem cellsScript : Tryz.prog.cellsOf 50 = 3 := by kernel_rfl
section
variable {H : Type} {enc : TypeId × Value → H} {W : World} {b0 base fuel : Nat} {r : Reach} {held : Bool} {spare : Nat → Bool} {cs : List Value} {x : DataW H × List MemPlace} {v : Value} {d : DataW H} {p : List MemPlace}
set_option maxRecDepth 100000 in
theorem o_step (h : DataW.trod enc Tryz.prog W base spare held fuel 57 cs = some x) : ∃ s : Stp, cs = [.int .i64 s.1, .int .i64 s.2.1, .int .i64 s.2.2.1, strV s.2.2.2.1, strV s.2.2.2.2] := by
  obtain ⟨y0, y1, n, hx, hl, g0, g1⟩ := trod_struct2 Tryz.underlying57 h
  rw [cellsStep] at hl
  simp only [cellsOp, cellsI] at g0 g1
  match cs, hl with
  | [v0, v1, v2, v3, v4], _ =>
    simp only [List.drop_zero, List.take_succ_cons, List.take_zero, List.drop_succ_cons] at g0 g1
    obtain ⟨s0, e0, -⟩ := o_int g0
    obtain ⟨s1, e1, -⟩ := o_op g1
    simp only [List.cons.injEq, and_true] at e0 e1
    obtain ⟨e10, e11, e12, e13⟩ := e1
    subst e0 e10 e11 e12 e13
    exact ⟨(s0, s1), rfl⟩
set_option maxRecDepth 100000 in
theorem o_steps (h : DataW.trod enc Tryz.prog W base spare held fuel 48 cs = some x) : ∃ (v : Value) (l : List Stp), cs = [v] ∧ RdSt W v l := by
  obtain ⟨v, l, e, hl, -, hp, o, cap, hv, hc, hr⟩ := o_rows (α := Stp) (c := 0) (en := fun s => [.int .i64 s.1, .int .i64 s.2.1, .int .i64 s.2.2.1, strV s.2.2.2.1, strV s.2.2.2.2]) (Pr := fun r d => True) Tryz.underlying48 cellsStep (by decide)
    (fun h => by obtain ⟨r, e⟩ := o_step h; exact ⟨r, e, trivial, Nat.zero_le _⟩) h
  refine ⟨v, l, e, o, cap, hv, hc, hr.imp id ?_⟩
  rintro ⟨b, off, e1, e2, h3⟩
  exact ⟨b, off, e1, e2, fun i r hi => ⟨h3 i r hi 0 _ rfl, h3 i r hi 1 _ rfl, h3 i r hi 2 _ rfl, h3 i r hi 3 _ rfl, h3 i r hi 4 _ rfl⟩⟩
set_option maxRecDepth 100000 in
theorem o_script (h : DataW.trod enc Tryz.prog W base spare held fuel 50 cs = some x) : ∃ (n f : Int) (v : Value) (l : List Stp), cs = [.int .i64 n, .int .i64 f, v] ∧ RdSt W v l := by
  obtain ⟨y0, y1, y2, n, hx, hl, g0, g1, g2⟩ := trod_struct3 Tryz.underlying50 h
  rw [cellsScript] at hl
  simp only [cellsSteps, cellsI] at g0 g1 g2
  match cs, hl with
  | [v0, v1, v2], _ =>
    simp only [List.drop_zero, List.take_succ_cons, List.take_zero, List.drop_succ_cons] at g0 g1 g2
    obtain ⟨s0, e0, -⟩ := o_int g0
    obtain ⟨s1, e1, -⟩ := o_int g1
    obtain ⟨u, l, e2, hr⟩ := o_steps g2
    simp only [List.cons.injEq, and_true] at e0 e1 e2
    subst e0 e1 e2
    exact ⟨s0, s1, v2, l, rfl, hr⟩
/-- A failure: pages, datasets, the steps' value, how many acts, the cuts' value; the steps, the cuts. -/
abbrev FailT := (Int × Int × Value × Int × Value) × List Stp × List Int
instance : Inhabited FailT := ⟨((0, 0, undef, 0, undef), [], [])⟩
set_option maxRecDepth 100000 in
theorem script_arg (hv : Value.okWide Tryz.prog W r b0 50 v) (h : DataW.Trod enc Tryz.prog W base spare held 50 v d p) : ∃ (n f : Int) (u : Value) (l : List Stp), v = .agg #[.int .i64 n, .int .i64 f, u] ∧ RdSt W u l := by
  obtain ⟨cs, rfl, hsz⟩ := okWide_struct Tryz.underlying50 hv
  obtain ⟨fuel, hf⟩ := h
  have hf' : DataW.trod enc Tryz.prog W base spare held fuel 50 cs.toList = some (d, p) := by simpa [Value.cells] using hf
  obtain ⟨n, f, u, l, e, hr⟩ := o_script hf'
  obtain ⟨cl⟩ := cs
  simp only at e
  subst e
  exact ⟨n, f, u, l, rfl, hr⟩
end
end Go.Proofs.YtifcgimpgbeocaaGreat
