/- A region that draws its order, walked once in the order of the text. -/
import Derived.Test.YtifcgimpgbeocaaGreatK2
set_option linter.unusedVariables false
set_option linter.unusedSimpArgs false
namespace Go.Proofs.YtifcgimpgbeocaaGreat
open Go.RowKit
section
variable {P : Program} {ops : Array Oper} {S : World → Prop} {F : Nat → World → Prop}

/-- What is asked once an operation has been carried out: it yields v, and R holds of the world. -/
def freeUpon (P : Program) (R : World → Prop) (v : Value) : Result Next → Prop
  | .ok (.value u) w' => u = v ∧ R w'
  | .ok .skip w' => v = undef ∧ R w'
  | .ok (.enter f args) w' => Calls P f args w' fun e w'' => e = .returned v ∧ R w''
  | _ => False

/-- Does i wait for j, directly or through others? -/
def reach (ops : Array Oper) : Nat → Nat → Nat → Bool
  | 0, _, _ => false
  | n + 1, i, j => match ops[i]? with
    | none => false
    | some o => o.after.toList.any fun e => Region.binds .any e && (e.on == j || reach ops n e.on j)

def freeOk (ops : Array Oper) : Bool :=
  Region.noSelect ops &&
  (ops.toList.zipIdx.all fun (o, i) =>
    (match o.op with | .defer _ => false | _ => true) &&
    (o.after.toList.all fun e => !Region.binds .any e || decide (e.on < i)) &&
    (ops.toList.zipIdx.all fun (p, j) => match p.dst with
      | none => true
      | some d => (i == j || o.dst != some d) && (!(o.looksAt ops).contains d || (decide (j < i) && reach ops 4 i j))))

structure FreeOk (ops : Array Oper) : Prop where
  sel : ∀ (j : Nat) (o : Oper) cs b, ops[j]? = some o → o.op ≠ .select cs b
  dfr : ∀ (j : Nat) (o : Oper) c, ops[j]? = some o → o.op ≠ .defer c
  back : ∀ (i : Nat) (o : Oper), ops[i]? = some o → ∀ e ∈ o.after, Region.binds .any e = true → e.on < i
  apart : ∀ (i j : Nat) (o p : Oper) (d : Tmp), ops[i]? = some o → ops[j]? = some p → p.dst = some d → i ≠ j → o.dst ≠ some d
  looks : ∀ (i j : Nat) (o p : Oper) (d : Tmp), ops[i]? = some o → ops[j]? = some p → p.dst = some d → d ∈ o.looksAt ops → j < i ∧ reach ops 4 i j = true

theorem freeOk_spec (h : freeOk ops = true) : FreeOk ops := by
  unfold freeOk at h
  rw [Bool.and_eq_true] at h
  obtain ⟨h1, h2⟩ := h
  have all : ∀ (i : Nat) (o : Oper), ops[i]? = some o → (o, i) ∈ ops.toList.zipIdx := fun i o ho => by
    rw [List.mem_zipIdx_iff_getElem?]; simpa using ho
  have key : ∀ (i : Nat) (o : Oper), ops[i]? = some o → _ := fun i o ho => List.all_eq_true.1 h2 (o, i) (all i o ho)
  refine ⟨fun j o cs b => Region.noSelect_spec h1 j o cs b, fun j o c ho hc => ?_, fun i o ho e he hb => ?_, fun i j o p d ho hp hd hij => ?_, fun i j o p d ho hp hd hl => ?_⟩
  · have := key j o ho
    simp [hc] at this
  · have := key i o ho
    simp only [Bool.and_eq_true] at this
    have := List.all_eq_true.1 this.1.2 e (by simpa using he)
    simpa [hb] using this
  · have := key i o ho
    simp only [Bool.and_eq_true] at this
    have := List.all_eq_true.1 this.2 (p, j) (all j p hp)
    simp only [hd, Bool.and_eq_true] at this
    have h3 := this.1
    simp only [Bool.or_eq_true, beq_iff_eq, bne_iff_ne] at h3
    exact h3.resolve_left hij
  · have := key i o ho
    simp only [Bool.and_eq_true] at this
    have := List.all_eq_true.1 this.2 (p, j) (all j p hp)
    simp only [hd, Bool.and_eq_true] at this
    have h3 := this.2
    simpa [hl] using h3

theorem put_slot {a : Act} {x : Option Tmp} {v : Value} {t : Tmp} (h : x ≠ some t) : (a.put x v).tmps[t]? = a.tmps[t]? := by
  cases x with
  | none => rfl
  | some d =>
    have : d ≠ t := fun e => h (by rw [e])
    simp [Act.put, Array.getElem?_setIfInBounds_ne this]
theorem put_size {a : Act} {x : Option Tmp} {v : Value} : (a.put x v).tmps.size = a.tmps.size := by
  cases x <;> simp [Act.put]
theorem put_defers' {a : Act} {x : Option Tmp} {v : Value} : (a.put x v).defers = a.defers := by
  cases x <;> rfl
theorem act_ext {a b : Act} (h1 : a.defers = b.defers) (h2 : ∀ t : Nat, a.tmps[t]? = b.tmps[t]?) : a = b := by
  have h3 : a.tmps = b.tmps := Array.ext_getElem? h2
  cases a; cases b
  simp only at h1 h3
  rw [h1, h3]
theorem eval_slots {a b : Act} {x : Operand} (h : ∀ t, x = .tmp t → a.tmps[t]? = b.tmps[t]?) : a.eval x = b.eval x := by
  cases x with
  | tmp t => simp only [Act.eval, Array.getD_eq_getD_getElem?, h t rfl]
  | _ => rfl
/-- Two frames that agree where an operation looks. -/
def Agree (ops : Array Oper) (o : Oper) (a b : Act) : Prop := ∀ t, t ∈ o.looksAt ops → a.tmps[t]? = b.tmps[t]?
theorem Agree.exec {o : Oper} {a b : Act} (h : Agree ops o a b) (hs : ∀ cs b, o.op ≠ .select cs b) : execOp a.eval o = execOp b.eval o :=
  execOp_congr o hs fun x hx => eval_slots fun t e => h t (by
    subst e
    exact List.mem_append_left _ (List.mem_filterMap.2 ⟨.tmp t, by simpa using hx, rfl⟩))
theorem Agree.wanted {o : Oper} {a b : Act} (h : Agree ops o a b) : Region.wanted o (yielded ops a.tmps) = Region.wanted o (yielded ops b.tmps) := by
  unfold Region.wanted
  cases hg : o.guard with
  | none => rfl
  | some gw =>
    obtain ⟨g, want⟩ := gw
    have hy : yielded ops a.tmps g = yielded ops b.tmps g := by
      unfold yielded
      cases ht : (ops[g]?).bind (·.dst) with
      | none => rfl
      | some t =>
        have := h t (by simp [Oper.looksAt, hg, ht])
        simp only [Option.bind_some, this]
    simp only [hy]

theorem reach_listed (listed : Array Bool) (hc : ∀ i o, ops[i]? = some o → listed.getD i false = true → ∀ e ∈ o.after, Region.binds .any e = true → listed.getD e.on false = true) :
    ∀ (n i j : Nat) (o : Oper), ops[i]? = some o → (∀ e ∈ o.after, Region.binds .any e = true → listed.getD e.on false = true) → reach ops n i j = true → listed.getD j false = true
  | 0, _, _, _, _, _, h => by simp [reach] at h
  | n + 1, i, j, o, ho, he, h => by
    unfold reach at h
    simp only [ho] at h
    obtain ⟨e, hem, h⟩ := List.any_eq_true.1 h
    simp only [Bool.and_eq_true, Bool.or_eq_true, beq_iff_eq] at h
    have hl := he e (by simpa using hem) h.1
    rcases h.2 with h | h
    · rw [← h]; exact hl
    · cases hp : ops[e.on]? with
      | none => cases n <;> simp [reach, hp] at h
      | some p => exact reach_listed listed hc n e.on j p hp (hc e.on p hp hl) h

theorem all_listed (hk : FreeOk ops) {listed : Array Bool} (hsz : listed.size = ops.size) (hr : Region.ready .any ops listed = []) : ∀ i o, ops[i]? = some o → listed.getD i false = true := by
  intro i
  induction i using Nat.strongRecOn with
  | _ i ih =>
    intro o ho
    have hlt : i < ops.size := (Array.getElem?_eq_some_iff.1 ho).1
    cases hb : listed.getD i true with
    | true => simp only [Array.getD_eq_getD_getElem?, Array.getElem?_eq_getElem (show i < listed.size by omega)] at hb ⊢; exact hb
    | false =>
      have : i ∈ Region.ready .any ops listed := mem_ready.2 ⟨hb, o, ho, fun e he hbd => by
        have hlt' := hk.back i o ho e he hbd
        cases hp : ops[e.on]? with
        | none => have := Array.getElem?_eq_none_iff.1 hp; omega
        | some p => exact ih e.on hlt' p hp⟩
      rw [hr] at this
      cases this

/-- A fence that lets everything by. -/
structure Open (G : Fence) : Prop where
  fn : ∀ f, G.fn f
  depth : G.depth = none
  alive : G.alive = false
theorem Open.calls {G : Fence} (hG : Open G) {n : Nat} {f : FuncId} {args : Array Value} {w : World} {R : Ending → World → Prop} (h : Calls P f args w R) : CallsIn G n P f args w R := by
  obtain ⟨fn, depth, alive, round⟩ := G
  have e1 : fn = fun _ => True := funext fun f => by simpa using hG.fn f
  have e2 : depth = none := hG.depth
  have e3 : alive = false := hG.alive
  subst e1 e2 e3
  exact (callsIn_wide (n := n)).2 h

theorem free_upon {G : Fence} (hG : Open G) {n : Nat} {o : Oper} {a : Act} {w : World} {v : Value} {R : World → Prop} {K : Act → World → Prop} {Q : Exit → Act → World → Prop} (hd : ∀ c, o.op ≠ .defer c)
    (h : freeUpon P R v ((execOp a.eval o).run P w)) (hK : ∀ w', R w' → K (a.put o.dst v) w') : o.wpIn G n P a w K Q := by
  refine ⟨fun f _ => hG.fn f, ?_⟩
  have e : o.semAt G.round a.eval = execOp a.eval o := by
    cases hr : G.round with
    | none => exact Oper.semAt_none _ _
    | some l => exact Oper.semAt_some l _ _ hd
  rw [e]
  generalize (execOp a.eval o).run P w = r at h
  cases r with
  | ok x w' =>
    cases x <;> simp only [freeUpon] at h <;> simp only [Oper.uponIn]
    case value u => rw [h.1]; exact hK _ h.2
    case skip => rw [← h.1]; exact hK _ h.2
    case enter f args =>
      refine ⟨fun hs => (by rw [hG.depth] at hs; cases hs), hG.calls (h.mono fun e w'' he => ?_)⟩
      obtain ⟨rfl, hr⟩ := he
      exact hK _ hr
  | halt x w' => simp only [freeUpon] at h

theorem open_wide : Open Fence.wide := ⟨fun _ => trivial, rfl, rfl⟩
end
section
variable {P : Program} {ops : Array Oper} {S : World → Prop} {F : Nat → World → Prop} {Q : Act → Prop} {i : Nat} {o : Oper} {rest : List Oper} {a : Act} {v : Value}
end
/- A region that draws its order, walked once in the order of the text, over classes of worlds that depend on which operations have been carried out: for a region that makes a variable. -/

section
variable {P : Program} {ops : Array Oper} {S : (Nat → Bool) → World → Prop}
/-- L, and i besides. -/
def addTo (L : Nat → Bool) (i : Nat) : Nat → Bool := fun j => if j = i then true else L j
theorem addTo_self (L : Nat → Bool) (i : Nat) : addTo L i i = true := by simp [addTo]
theorem addTo_ne (L : Nat → Bool) {i j : Nat} (h : j ≠ i) : addTo L i j = L j := by simp [addTo, h]

/-- Whatever L holds, it holds all that this waits for. -/
def ClosedL (ops : Array Oper) (L : Nat → Bool) : Prop := ∀ j p, ops[j]? = some p → L j = true → ∀ e ∈ p.after, Region.binds .any e = true → L e.on = true
def freeAtL (P : Program) (ops : Array Oper) (S : (Nat → Bool) → World → Prop) (i : Nat) (o : Oper) (a : Act) (v : Value) : Prop :=
  ∀ L w, ClosedL ops L → L i = false → (∀ e ∈ o.after, Region.binds .any e = true → L e.on = true) → S L w → freeUpon P (fun w' => S (addTo L i) w') v ((execOp a.eval o).run P w)
def skipAtL (S : (Nat → Bool) → World → Prop) (i : Nat) : Prop := ∀ L w, L i = false → S L w → S (addTo L i) w
def wpFreeL (P : Program) (ops : Array Oper) (S : (Nat → Bool) → World → Prop) (Q : Act → Prop) : Nat → List Oper → Act → Prop
  | _, [], a => Q a
  | i, o :: rest, a => if Region.wanted o (yielded ops a.tmps) then ∃ v, freeAtL P ops S i o a v ∧ wpFreeL P ops S Q (i + 1) rest (a.put o.dst v)
      else skipAtL S i ∧ wpFreeL P ops S Q (i + 1) rest (a.put o.dst undef)
/-- What the walk shows of the operation number i, at the frame that stands at the end. -/
def StepAtL (P : Program) (ops : Array Oper) (S : (Nat → Bool) → World → Prop) (i : Nat) (o : Oper) (a : Act) : Prop :=
  (Region.wanted o (yielded ops a.tmps) = true ∧ ∃ v, freeAtL P ops S i o a v ∧ ∀ t, o.dst = some t → t < a.tmps.size → a.tmps[t]? = some v) ∨
  (Region.wanted o (yielded ops a.tmps) = false ∧ skipAtL S i ∧ ∀ t, o.dst = some t → t < a.tmps.size → a.tmps[t]? = some undef)

theorem wpFreeL_end {Q : Act → Prop} (hk : FreeOk ops) : ∀ (l : List Oper) (i : Nat) (a : Act), (∀ k, l[k]? = ops[i + k]?) → wpFreeL P ops S Q i l a →
    ∃ z, Q z ∧ z.defers = a.defers ∧ z.tmps.size = a.tmps.size ∧ (∀ t, (∀ j o, i ≤ j → ops[j]? = some o → o.dst ≠ some t) → z.tmps[t]? = a.tmps[t]?) ∧
      ∀ j o, i ≤ j → ops[j]? = some o → StepAtL P ops S j o z
  | [], i, a, hl, h => ⟨a, h, rfl, rfl, fun _ _ => rfl, fun j o hij ho => by
      have := hl (j - i)
      rw [show i + (j - i) = j by omega, ho] at this
      simp at this⟩
  | o :: l, i, a, hl, h => by
    have h0 : ops[i]? = some o := by simpa using (hl 0).symm
    have hl' : ∀ k, l[k]? = ops[i + 1 + k]? := fun k => by have := hl (k + 1); simpa [Nat.add_assoc, Nat.add_comm 1 k] using this
    -- the later operations leave alone what o looks at, and what o has written
    have late : ∀ (u : Value) (z : Act), (∀ t, (∀ j p, i + 1 ≤ j → ops[j]? = some p → p.dst ≠ some t) → z.tmps[t]? = (a.put o.dst u).tmps[t]?) → Agree ops o z a := fun u z hz t ht => by
      rw [hz t (fun j p hj hp hd => by have := (hk.looks i j o p t h0 hp hd ht).1; omega)]
      exact put_slot (fun hd => by have := (hk.looks i i o o t h0 h0 hd ht).1; omega)
    have own : ∀ (u : Value) (z : Act), z.tmps.size = (a.put o.dst u).tmps.size → (∀ t, (∀ j p, i + 1 ≤ j → ops[j]? = some p → p.dst ≠ some t) → z.tmps[t]? = (a.put o.dst u).tmps[t]?) →
        ∀ t, o.dst = some t → t < z.tmps.size → z.tmps[t]? = some u := fun u z hsz hz t hd hlt => by
      rw [hz t (fun j p hj hp hd' => hk.apart j i p o t hp h0 hd (by omega) hd')]
      rw [hsz, put_size] at hlt
      simp [Act.put, hd, hlt]
    have fin : ∀ (u : Value) (z : Act), (∀ t, (∀ j p, i + 1 ≤ j → ops[j]? = some p → p.dst ≠ some t) → z.tmps[t]? = (a.put o.dst u).tmps[t]?) →
        ∀ t, (∀ j p, i ≤ j → ops[j]? = some p → p.dst ≠ some t) → z.tmps[t]? = a.tmps[t]? := fun u z hz t ht => by
      rw [hz t (fun j p hj => ht j p (by omega))]
      exact put_slot (ht i o (Nat.le_refl _) h0)
    unfold wpFreeL at h
    split at h
    · rename_i hw
      obtain ⟨v, hf, hr⟩ := h
      obtain ⟨z, hQ, hd, hsz, hz, hst⟩ := wpFreeL_end hk l (i + 1) (a.put o.dst v) hl' hr
      refine ⟨z, hQ, hd.trans put_defers', hsz.trans put_size, fin v z hz, fun j p hij hp => ?_⟩
      by_cases e : j = i
      · subst e
        rw [h0] at hp; cases hp
        have ag := late v z hz
        refine .inl ⟨by rw [ag.wanted]; exact hw, v, ?_, own v z hsz hz⟩
        unfold freeAtL at hf ⊢
        rw [ag.exec (fun cs b => hk.sel j o cs b h0)]
        exact hf
      · exact hst j p (by omega) hp
    · rename_i hw
      obtain ⟨hF, hr⟩ := h
      obtain ⟨z, hQ, hd, hsz, hz, hst⟩ := wpFreeL_end hk l (i + 1) (a.put o.dst undef) hl' hr
      refine ⟨z, hQ, hd.trans put_defers', hsz.trans put_size, fin undef z hz, fun j p hij hp => ?_⟩
      by_cases e : j = i
      · subst e
        rw [h0] at hp; cases hp
        have ag := late undef z hz
        exact .inr ⟨by rw [ag.wanted]; simpa using hw, hF, own undef z hsz hz⟩
      · exact hst j p (by omega) hp

/-- Between two operations: what is listed has left its value and its fact. -/
structure MidL (ops : Array Oper) (S : (Nat → Bool) → World → Prop) (z : Act) (listed : Array Bool) (a : Act) (w : World) : Prop where
  size : listed.size = ops.size
  closed : ∀ i o, ops[i]? = some o → listed.getD i false = true → ∀ e ∈ o.after, Region.binds .any e = true → listed.getD e.on false = true
  len : a.tmps.size = z.tmps.size
  defers : a.defers = z.defers
  slots : ∀ t, (∀ j o, ops[j]? = some o → listed.getD j false = false → o.dst ≠ some t) → a.tmps[t]? = z.tmps[t]?
  cls : S (fun j => listed.getD j false) w

theorem wpAny_freeL {G : Fence} (hG : Open G) {n : Nat} {Q : Exit → Act → World → Prop} {z : Act} (hk : FreeOk ops) (hst : ∀ j o, ops[j]? = some o → StepAtL P ops S j o z)
    (hQ : ∀ L w, (∀ j o, ops[j]? = some o → L j = true) → S L w → Q .normal z w) :
    ∀ (fuel : Nat) (listed : Array Bool) (a : Act) (w : World), ((List.range ops.size).countP fun i => !listed.getD i false) = fuel → MidL ops S z listed a w → wpAnyIn G n P .any ops Q fuel listed a w := by
  have done : ∀ (listed : Array Bool) (a : Act) (w : World), MidL ops S z listed a w → Region.ready .any ops listed = [] → Q .normal a w := fun listed a w hm hr => by
    have hal := all_listed hk hm.size hr
    have : a = z := act_ext hm.defers fun t => hm.slots t fun j o ho hl => by rw [hal j o ho] at hl; cases hl
    rw [this]
    exact hQ _ w hal hm.cls
  intro fuel
  induction fuel with
  | zero =>
    intro listed a w hc hm
    have hr : Region.ready .any ops listed = [] := by
      rw [List.eq_nil_iff_forall_not_mem]
      intro i hi
      obtain ⟨h1, o, ho, _⟩ := mem_ready.1 hi
      have hlt : i < ops.size := (Array.getElem?_eq_some_iff.1 ho).1
      have := List.countP_eq_zero.1 hc i (List.mem_range.2 hlt)
      simp only [Array.getD_eq_getD_getElem?, Array.getElem?_eq_getElem (show i < listed.size by rw [hm.size]; exact hlt)] at h1 this
      simp at h1 this
      rw [h1] at this
      cases this
    exact ⟨hr, done listed a w hm hr⟩
  | succ fuel ih =>
    intro listed a w hc hm
    refine ⟨done listed a w hm, fun i hi => ?_⟩
    obtain ⟨h1, o, ho, he⟩ := mem_ready.1 hi
    have hlt : i < ops.size := (Array.getElem?_eq_some_iff.1 ho).1
    have hlt' : i < listed.size := by rw [hm.size]; exact hlt
    have hun : listed.getD i false = false := by
      simp only [Array.getD_eq_getD_getElem?, Array.getElem?_eq_getElem hlt'] at h1 ⊢; exact h1
    have ag : Agree ops o a z := fun t ht => hm.slots t fun j p hp hl hd => by
      have hr := (hk.looks i j o p t ho hp hd ht).2
      rw [reach_listed listed hm.closed 4 i j o ho he hr] at hl
      cases hl
    have next : ∀ (u : Value) (w' : World), (∀ t, o.dst = some t → t < z.tmps.size → z.tmps[t]? = some u) → S (addTo (fun j => listed.getD j false) i) w' →
        wpAnyIn G n P .any ops Q fuel (listed.setIfInBounds i true) (a.put o.dst u) w' := fun u w' hu hS => by
      refine ih _ _ _ ?_ ⟨by simp [hm.size], fun k p hp hkl e hem hb => ?_, put_size.trans hm.len, put_defers'.trans hm.defers, fun t ht => ?_, ?_⟩
      · have hci : ∀ j, (listed.setIfInBounds i true).getD j false = (listed.getD j false || decide (j = i)) := fun j => by
          by_cases hji : j = i
          · subst hji; simp [hlt']
          · rw [getD_set_ne false (Ne.symm hji)]; simp [hji]
        have hcount : ∀ (l : List Nat), l.Nodup → i ∈ l → (l.countP fun j => !(listed.setIfInBounds i true).getD j false) + 1 = l.countP fun j => !listed.getD j false := by
          intro l
          induction l with
          | nil => intro _ h; cases h
          | cons x l ihl =>
            intro hnd hmem
            rw [List.nodup_cons] at hnd
            rw [List.countP_cons, List.countP_cons]
            by_cases hx : x = i
            · subst hx
              have hsame : (l.countP fun j => !(listed.setIfInBounds x true).getD j false) = l.countP fun j => !listed.getD j false :=
                List.countP_congr fun j hj => by
                  have : j ≠ x := fun e => hnd.1 (e ▸ hj)
                  rw [hci]; simp [this]
              rw [hsame, hci, hun]; simp
            · have := ihl hnd.2 ((List.mem_cons.1 hmem).resolve_left (Ne.symm hx))
              have e2 : (listed.setIfInBounds i true).getD x false = listed.getD x false := getD_set_ne false (Ne.symm hx)
              rw [e2, ← this]
              omega
        have := hcount (List.range ops.size) List.nodup_range (List.mem_range.2 hlt)
        omega
      · by_cases hki : k = i
        · subst hki
          rw [ho] at hp; cases hp
          exact getD_set_true (he e hem hb)
        · rw [getD_set_ne false (Ne.symm hki)] at hkl
          exact getD_set_true (hm.closed k p hp hkl e hem hb)
      · by_cases hd : o.dst = some t
        · by_cases hts : t < z.tmps.size
          · rw [hu t hd hts]
            have : t < a.tmps.size := by rw [hm.len]; exact hts
            simp [Act.put, hd, this]
          · have e1 : (a.put o.dst u).tmps[t]? = none := Array.getElem?_eq_none (by rw [put_size, hm.len]; exact Nat.le_of_not_lt hts)
            have e2 : z.tmps[t]? = none := Array.getElem?_eq_none (Nat.le_of_not_lt hts)
            rw [e1, e2]
        · rw [put_slot hd]
          refine hm.slots t fun j p hp hl => ?_
          by_cases hji : j = i
          · subst hji; rw [ho] at hp; cases hp; exact hd
          · exact ht j p hp (by rw [getD_set_ne false (Ne.symm hji)]; exact hl)
      · have : (fun j => (listed.setIfInBounds i true).getD j false) = addTo (fun j => listed.getD j false) i := by
          funext j
          by_cases hji : j = i
          · subst hji; simp [hlt', addTo]
          · rw [getD_set_ne false (Ne.symm hji), addTo_ne _ hji]
        rw [this]
        exact hS
    unfold wpOpIn
    simp only [ho]
    rcases hst i o ho with ⟨hw, v, hf, hv⟩ | ⟨hw, hF, hv⟩
    · rw [← ag.wanted] at hw
      rw [if_pos hw]
      unfold freeAtL at hf
      rw [← ag.exec (fun cs b => hk.sel i o cs b ho)] at hf
      have := hf _ w hm.closed hun he hm.cls
      exact free_upon hG (fun c => hk.dfr i o c ho) this fun w' hS => next v w' hv hS
    · rw [← ag.wanted] at hw
      rw [if_neg (by rw [hw]; simp)]
      exact ⟨fun f _ => hG.fn f, next undef w hv (hF _ w hun hm.cls)⟩

/-- **One walk in the order of the text serves every order.** -/
theorem wpIn_region_freeL {G : Fence} (hG : Open G) {n id : Nat} {Q : Exit → Act → World → Prop} {a : Act} {w : World} {l : List Oper} (hm : P.follows .mixedOrders = true) (hB : freeOk l.toArray = true) (S : (Nat → Bool) → World → Prop)
    (hS : S (fun _ => false) w.drew) (h : wpFreeL P l.toArray S (fun a' => ∀ L w', (∀ j, j < l.length → L j = true) → S L w' → Q .normal a' w') 0 l a) : (Code.region id l.toArray true).wpIn G n P Q a w := by
  have hk := freeOk_spec hB
  refine wpIn_region_any hm ?_
  obtain ⟨z, hQ, hd, hsz, hz, hst⟩ := wpFreeL_end hk l 0 a (by simp) h
  refine wpAny_freeL hG hk (fun j o ho => hst j o (Nat.zero_le _) ho) (fun L w' hal hS' => hQ L w' (fun j hj => hal j (l[j]) (by simp [hj])) hS') _ _ _ _ ?_ ⟨by simp, ?_, hsz.symm, hd.symm, ?_, ?_⟩
  · have : ∀ i ∈ List.range l.toArray.size, (!(Array.replicate l.toArray.size false).getD i false) = true := fun i hi => by
      have := List.mem_range.1 hi
      simp at this
      simp [this]
    rw [List.countP_eq_length.2 this, List.length_range]
  · intro i o _ hl
    exfalso
    revert hl
    simp only [Array.getD_eq_getD_getElem?, Array.getElem?_replicate]
    split <;> simp
  · intro t ht
    refine (hz t fun j o _ ho => ht j o ho ?_).symm
    simp only [Array.getD_eq_getD_getElem?, Array.getElem?_replicate]
    split <;> simp
  · have : (fun j => (Array.replicate l.toArray.size false).getD j false) = fun _ => false := by
      funext j
      simp only [Array.getD_eq_getD_getElem?, Array.getElem?_replicate]
      split <;> simp
    rw [this]
    exact hS
theorem wp_region_freeL {id : Nat} {Q : Exit → Act → World → Prop} {a : Act} {w : World} {l : List Oper} (S : (Nat → Bool) → World → Prop) (hm : P.follows .mixedOrders = true) (hB : freeOk l.toArray = true)
    (hS : S (fun _ => false) w.drew) (h : wpFreeL P l.toArray S (fun a' => ∀ L w', (∀ j, j < l.length → L j = true) → S L w' → Q .normal a' w') 0 l a) : (Code.region id l.toArray true).wp P Q a w :=
  (wpIn_wide (n := 0)).1 (wpIn_region_freeL open_wide hm hB S hS h)
end
section
variable {P : Program} {ops : Array Oper} {S : (Nat → Bool) → World → Prop} {Q : Act → Prop} {i : Nat} {o : Oper} {rest : List Oper} {a : Act} {v : Value}
theorem wpFreeL_nil (h : Q a) : wpFreeL P ops S Q i [] a := h
theorem wpFreeL_skip (hw : Region.wanted o (yielded ops a.tmps) = false) (hF : skipAtL S i) (h : ∀ K : Act → Prop, (∀ a, wpFreeL P ops S Q (i + 1) rest a → K a) → K (a.put o.dst undef)) : wpFreeL P ops S Q i (o :: rest) a := by
  unfold wpFreeL; rw [if_neg (by rw [hw]; simp)]; exact ⟨hF, h _ fun _ h => h⟩
/-- An operation that leaves the world alone. -/
theorem wpFreeL_val (hw : Region.wanted o (yielded ops a.tmps) = true) (hF : skipAtL S i)
    (h : ∀ K : Act → Prop, (∀ a, wpFreeL P ops S Q (i + 1) rest a → K a) → ∃ v, (∀ L w, S L w → (execOp a.eval o).run P w = .ok (.value v) w) ∧ K (a.put o.dst v)) : wpFreeL P ops S Q i (o :: rest) a := by
  unfold wpFreeL; rw [if_pos hw]
  obtain ⟨v, hv, hr⟩ := h _ fun _ h => h
  refine ⟨v, fun L w _ hL _ hS => ?_, hr⟩
  rw [hv L w hS]
  exact ⟨rfl, hF L w hL hS⟩
theorem wpFreeL_gen (hw : Region.wanted o (yielded ops a.tmps) = true) (h : ∀ K : Act → Prop, (∀ a, wpFreeL P ops S Q (i + 1) rest a → K a) → ∃ v, freeAtL P ops S i o a v ∧ K (a.put o.dst v)) : wpFreeL P ops S Q i (o :: rest) a := by
  unfold wpFreeL; rw [if_pos hw]; exact h _ fun _ h => h
end
/- A region that draws its order, walked once in the order of the text: each operation may yield a value that hangs on the world; the class S of worlds knows what each has yielded. -/

section
variable {P : Program} {ops : Array Oper} {S : (Nat → Bool) → (Nat → Value) → World → Prop} {vals : Nat → Value} {a0 : Act}
def upd (vals : Nat → Value) (i : Nat) (v : Value) : Nat → Value := fun j => if j = i then v else vals j
theorem upd_self (vals : Nat → Value) (i : Nat) (v : Value) : upd vals i v i = v := by simp [upd]
theorem upd_ne (vals : Nat → Value) {i j : Nat} (v : Value) (h : j ≠ i) : upd vals i v j = vals j := by simp [upd, h]
theorem upd_same (vals : Nat → Value) (i : Nat) : upd vals i (vals i) = vals := by
  funext j; by_cases h : j = i <;> simp [upd, h]
def uponX (P : Program) (R : Value → World → Prop) : Result Next → Prop
  | .ok (.value u) w' => R u w'
  | .ok .skip w' => R undef w'
  | .ok (.enter f args) w' => Calls P f args w' fun e w'' => ∃ v, e = .returned v ∧ R v w''
  | _ => False
/-- What the walk owes for the operation number i at the frame a. -/
def stepX (P : Program) (ops : Array Oper) (S : (Nat → Bool) → (Nat → Value) → World → Prop) (vals : Nat → Value) (i : Nat) (o : Oper) (a : Act) : Prop :=
  ∀ L w, ClosedL ops L → L i = false → (∀ e ∈ o.after, Region.binds .any e = true → L e.on = true) → S L vals w →
    if Region.wanted o (yielded ops a.tmps) = true then uponX P (fun v w' => S (addTo L i) (upd vals i v) w') ((execOp a.eval o).run P w) else S (addTo L i) (upd vals i undef) w
def wpX (P : Program) (ops : Array Oper) (S : (Nat → Bool) → (Nat → Value) → World → Prop) (Q : Act → Prop) (vals : Nat → Value) : Nat → List Oper → Act → Prop
  | _, [], a => Q a
  | i, o :: rest, a => stepX P ops S vals i o a ∧ wpX P ops S Q vals (i + 1) rest (a.put o.dst (vals i))
def freeOkX (ops : Array Oper) : Bool :=
  Region.noSelect ops &&
  (ops.toList.zipIdx.all fun (o, i) =>
    (match o.op with | .defer _ => false | _ => true) &&
    (o.after.toList.all fun e => !Region.binds .any e || decide (e.on < i)) &&
    (ops.toList.zipIdx.all fun (p, j) => match p.dst with
      | none => true
      | some d => (i == j || o.dst != some d) && (!(o.looksAt ops).contains d || i == j || (decide (j < i) && reach ops 5 i j) || (decide (i < j) && reach ops 5 j i))))
structure FreeOkX (ops : Array Oper) : Prop where
  sel : ∀ (j : Nat) (o : Oper) cs b, ops[j]? = some o → o.op ≠ .select cs b
  dfr : ∀ (j : Nat) (o : Oper) c, ops[j]? = some o → o.op ≠ .defer c
  back : ∀ (i : Nat) (o : Oper), ops[i]? = some o → ∀ e ∈ o.after, Region.binds .any e = true → e.on < i
  apart : ∀ (i j : Nat) (o p : Oper) (d : Tmp), ops[i]? = some o → ops[j]? = some p → p.dst = some d → i ≠ j → o.dst ≠ some d
  looks : ∀ (i j : Nat) (o p : Oper) (d : Tmp), ops[i]? = some o → ops[j]? = some p → p.dst = some d → d ∈ o.looksAt ops → i = j ∨ (j < i ∧ reach ops 5 i j = true) ∨ (i < j ∧ reach ops 5 j i = true)
theorem freeOkX_spec (h : freeOkX ops = true) : FreeOkX ops := by
  unfold freeOkX at h
  rw [Bool.and_eq_true] at h
  obtain ⟨h1, h2⟩ := h
  have all : ∀ (i : Nat) (o : Oper), ops[i]? = some o → (o, i) ∈ ops.toList.zipIdx := fun i o ho => by
    rw [List.mem_zipIdx_iff_getElem?]; simpa using ho
  have key : ∀ (i : Nat) (o : Oper), ops[i]? = some o → _ := fun i o ho => List.all_eq_true.1 h2 (o, i) (all i o ho)
  refine ⟨fun j o cs b => Region.noSelect_spec h1 j o cs b, fun j o c ho hc => ?_, fun i o ho e he hb => ?_, fun i j o p d ho hp hd hij => ?_, fun i j o p d ho hp hd hl => ?_⟩
  · have := key j o ho
    simp [hc] at this
  · have := key i o ho
    simp only [Bool.and_eq_true] at this
    have := List.all_eq_true.1 this.1.2 e (by simpa using he)
    simpa [hb] using this
  · have := key i o ho
    simp only [Bool.and_eq_true] at this
    have := List.all_eq_true.1 this.2 (p, j) (all j p hp)
    simp only [hd, Bool.and_eq_true] at this
    have h3 := this.1
    simp only [Bool.or_eq_true, beq_iff_eq, bne_iff_ne] at h3
    exact h3.resolve_left hij
  · have := key i o ho
    simp only [Bool.and_eq_true] at this
    have := List.all_eq_true.1 this.2 (p, j) (all j p hp)
    simp only [hd, Bool.and_eq_true] at this
    have h3 := this.2
    simp only [Bool.or_eq_true, Bool.not_eq_true', beq_iff_eq, Bool.and_eq_true, decide_eq_true_eq] at h3
    rcases h3 with ((h3 | h3) | h3) | h3
    · have : (o.looksAt ops).contains d = true := by simpa using hl
      rw [h3] at this; cases this
    · exact .inl h3
    · exact .inr (.inl h3)
    · exact .inr (.inr h3)
/-- What slot t holds when its writer has yielded v. -/
def setAt (a0 : Act) (t : Tmp) (v : Value) : Option Value := if t < a0.tmps.size then some v else none
/-- The frame in which just the operations D have left their values. -/
structure FrameIs (ops : Array Oper) (a0 : Act) (D : Nat → Bool) (vals : Nat → Value) (a : Act) : Prop where
  defers : a.defers = a0.defers
  size : a.tmps.size = a0.tmps.size
  own : ∀ (t : Tmp) (j : Nat) (o : Oper), ops[j]? = some o → o.dst = some t → a.tmps[t]? = if D j = true then setAt a0 t (vals j) else a0.tmps[t]?
  none : ∀ (t : Tmp), (∀ (j : Nat) (o : Oper), ops[j]? = some o → o.dst ≠ some t) → a.tmps[t]? = a0.tmps[t]?
theorem FrameIs.start (vals : Nat → Value) : FrameIs ops a0 (fun _ => false) vals a0 := ⟨rfl, rfl, fun _ _ _ _ _ => by simp, fun _ _ => rfl⟩
theorem FrameIs.put {D : Nat → Bool} {a : Act} (hk : FreeOkX ops) (h : FrameIs ops a0 D vals a) {i : Nat} {o : Oper} (ho : ops[i]? = some o) (v : Value) : FrameIs ops a0 (addTo D i) (upd vals i v) (a.put o.dst v) := by
  refine ⟨put_defers'.trans h.defers, put_size.trans h.size, fun t j p hp hd => ?_, fun t ht => ?_⟩
  · by_cases hji : j = i
    · subst hji
      rw [ho] at hp; cases hp
      rw [addTo_self, if_pos rfl, upd_self]
      unfold setAt
      rw [← h.size]
      by_cases hlt : t < a.tmps.size
      · rw [if_pos hlt]; simp [Act.put, hd, hlt]
      · rw [if_neg hlt]; exact Array.getElem?_eq_none (by rw [put_size]; exact Nat.le_of_not_lt hlt)
    · rw [put_slot (hk.apart i j o p t ho hp hd (Ne.symm hji)), addTo_ne _ hji, upd_ne _ _ hji]
      exact h.own t j p hp hd
  · rw [put_slot (ht i o ho)]; exact h.none t ht
theorem FrameIs.ext {D D' : Nat → Bool} {a a' : Act} (h : FrameIs ops a0 D vals a) (h' : FrameIs ops a0 D' vals a') {t : Tmp} (hD : ∀ (j : Nat) (o : Oper), ops[j]? = some o → o.dst = some t → D j = D' j) : a.tmps[t]? = a'.tmps[t]? := by
  by_cases hw : ∃ (j : Nat) (o : Oper), ops[j]? = some o ∧ o.dst = some t
  · obtain ⟨j, o, ho, hd⟩ := hw
    rw [h.own t j o ho hd, h'.own t j o ho hd, hD j o ho hd]
  · have hn : ∀ (j : Nat) (o : Oper), ops[j]? = some o → o.dst ≠ some t := fun j o ho hd => hw ⟨j, o, ho, hd⟩
    rw [h.none t hn, h'.none t hn]
/-- The walk in the order of the text, taken apart. -/
theorem wpX_at {Q : Act → Prop} (hk : FreeOkX ops) : ∀ (l : List Oper) (i : Nat) (a : Act), (∀ k, l[k]? = ops[i + k]?) → FrameIs ops a0 (fun j => decide (j < i)) vals a → wpX P ops S Q vals i l a →
    (∃ z, Q z ∧ FrameIs ops a0 (fun j => decide (j < i + l.length)) vals z) ∧ ∀ (j : Nat) (o : Oper), i ≤ j → ops[j]? = some o → ∃ A, FrameIs ops a0 (fun k => decide (k < j)) vals A ∧ stepX P ops S vals j o A
  | [], i, a, hl, hf, h => ⟨⟨a, h, hf⟩, fun j o hij ho => by
      have := hl (j - i)
      rw [show i + (j - i) = j by omega, ho] at this
      simp at this⟩
  | o :: l, i, a, hl, hf, h => by
    have h0 : ops[i]? = some o := by simpa using (hl 0).symm
    have hl' : ∀ k, l[k]? = ops[i + 1 + k]? := fun k => by have := hl (k + 1); simpa [Nat.add_assoc, Nat.add_comm 1 k] using this
    obtain ⟨h1, h2⟩ := h
    have hf' := hf.put hk h0 (vals i)
    rw [upd_same] at hf'
    have hD : addTo (fun j => decide (j < i)) i = fun j => decide (j < i + 1) := by
      funext j
      by_cases hj : j = i
      · subst hj; simp [addTo]
      · rw [addTo_ne _ hj]; simp only [decide_eq_decide]; omega
    rw [hD] at hf'
    obtain ⟨⟨z, hQ, hz⟩, hst⟩ := wpX_at hk l (i + 1) (a.put o.dst (vals i)) hl' hf' h2
    refine ⟨⟨z, hQ, ?_⟩, fun j p hij hp => ?_⟩
    · rw [List.length_cons, show i + (l.length + 1) = i + 1 + l.length by omega]; exact hz
    · by_cases hji : j = i
      · subst hji; rw [h0] at hp; cases hp; exact ⟨a, hf, h1⟩
      · exact hst j p (by omega) hp
theorem reach_listedX (listed : Array Bool) (hc : ∀ i o, ops[i]? = some o → listed.getD i false = true → ∀ e ∈ o.after, Region.binds .any e = true → listed.getD e.on false = true) :
    ∀ (n i j : Nat), listed.getD i false = true → reach ops n i j = true → listed.getD j false = true
  | 0, i, j, _, h => by simp [reach] at h
  | n + 1, i, j, hi, h => by
    unfold reach at h
    cases ho : ops[i]? with
    | none => rw [ho] at h; simp at h
    | some o =>
      rw [ho] at h
      simp only [List.any_eq_true, Bool.and_eq_true, Bool.or_eq_true, beq_iff_eq] at h
      obtain ⟨e, he, hb, h⟩ := h
      have h1 := hc i o ho hi e (by simpa using he) hb
      rcases h with rfl | h
      · exact h1
      · exact reach_listedX listed hc n e.on j h1 h
structure MidX (ops : Array Oper) (S : (Nat → Bool) → (Nat → Value) → World → Prop) (a0 : Act) (vals : Nat → Value) (listed : Array Bool) (a : Act) (w : World) : Prop where
  size : listed.size = ops.size
  closed : ∀ i o, ops[i]? = some o → listed.getD i false = true → ∀ e ∈ o.after, Region.binds .any e = true → listed.getD e.on false = true
  frame : FrameIs ops a0 (fun j => listed.getD j false) vals a
  cls : S (fun j => listed.getD j false) vals w
theorem uponX_in {G : Fence} (hG : Open G) {n : Nat} {o : Oper} {a : Act} {w : World} {R : Value → World → Prop} {K : Act → World → Prop} {Q : Exit → Act → World → Prop} (hd : ∀ c, o.op ≠ .defer c)
    (h : uponX P R ((execOp a.eval o).run P w)) (hK : ∀ v w', R v w' → K (a.put o.dst v) w') : o.wpIn G n P a w K Q := by
  refine ⟨fun f _ => hG.fn f, ?_⟩
  have e : o.semAt G.round a.eval = execOp a.eval o := by
    cases hr : G.round with
    | none => exact Oper.semAt_none _ _
    | some l => exact Oper.semAt_some l _ _ hd
  rw [e]
  generalize (execOp a.eval o).run P w = r at h
  cases r with
  | ok x w' =>
    cases x <;> simp only [uponX] at h <;> simp only [Oper.uponIn]
    case value u => exact hK _ _ h
    case skip => exact hK _ _ h
    case enter f args =>
      refine ⟨fun hs => (by rw [hG.depth] at hs; cases hs), hG.calls (h.mono fun e w'' he => ?_)⟩
      obtain ⟨v, rfl, hr⟩ := he
      exact hK _ _ hr
  | halt x w' => simp only [uponX] at h
theorem all_listedX (hk : FreeOkX ops) {listed : Array Bool} (hsz : listed.size = ops.size) (hr : Region.ready .any ops listed = []) : ∀ i o, ops[i]? = some o → listed.getD i false = true := by
  intro i
  induction i using Nat.strongRecOn with
  | _ i ih =>
    intro o ho
    cases hl : listed.getD i false with
    | true => rfl
    | false =>
      exfalso
      have hlt : i < ops.size := (Array.getElem?_eq_some_iff.1 ho).1
      have : i ∈ Region.ready .any ops listed := mem_ready.2 ⟨by
        simp only [Array.getD_eq_getD_getElem?, Array.getElem?_eq_getElem (show i < listed.size by rw [hsz]; exact hlt)] at hl ⊢
        exact hl, o, ho, fun e he hbd => by
        have hlt' := hk.back i o ho e he hbd
        cases hp : ops[e.on]? with
        | none => have := Array.getElem?_eq_none_iff.1 hp; omega
        | some p => exact ih e.on hlt' p hp⟩
      rw [hr] at this
      cases this
theorem count_set {n i : Nat} {listed : Array Bool} (hlt : i < n) (hlt' : i < listed.size) (hun : listed.getD i false = false) :
    ((List.range n).countP fun j => !(listed.setIfInBounds i true).getD j false) + 1 = (List.range n).countP fun j => !listed.getD j false := by
  have hci : ∀ j, (listed.setIfInBounds i true).getD j false = (listed.getD j false || decide (j = i)) := fun j => by
    by_cases hji : j = i
    · subst hji; simp [hlt']
    · rw [getD_set_ne false (Ne.symm hji)]; simp [hji]
  have hcount : ∀ (l : List Nat), l.Nodup → i ∈ l → (l.countP fun j => !(listed.setIfInBounds i true).getD j false) + 1 = l.countP fun j => !listed.getD j false := by
    intro l
    induction l with
    | nil => intro _ h; cases h
    | cons x l ihl =>
      intro hnd hmem
      rw [List.nodup_cons] at hnd
      rw [List.countP_cons, List.countP_cons]
      by_cases hx : x = i
      · subst hx
        have hsame : (l.countP fun j => !(listed.setIfInBounds x true).getD j false) = l.countP fun j => !listed.getD j false :=
          List.countP_congr fun j hj => by
            have : j ≠ x := fun e => hnd.1 (e ▸ hj)
            rw [hci]; simp [this]
        rw [hsame, hci, hun]; simp
      · have := ihl hnd.2 ((List.mem_cons.1 hmem).resolve_left (Ne.symm hx))
        have e2 : (listed.setIfInBounds i true).getD x false = listed.getD x false := getD_set_ne false (Ne.symm hx)
        rw [e2, ← this]
        omega
  exact hcount (List.range n) List.nodup_range (List.mem_range.2 hlt)
theorem wpAny_freeX {G : Fence} (hG : Open G) {n : Nat} {Q : Exit → Act → World → Prop} (hk : FreeOkX ops)
    (hst : ∀ vals j o, ops[j]? = some o → ∃ A, FrameIs ops a0 (fun k => decide (k < j)) vals A ∧ stepX P ops S vals j o A)
    (hQ : ∀ vals, ∃ z, FrameIs ops a0 (fun j => decide (j < ops.size)) vals z ∧ ∀ L w, (∀ j o, ops[j]? = some o → L j = true) → S L vals w → Q .normal z w) :
    ∀ (fuel : Nat) (listed : Array Bool) (vals : Nat → Value) (a : Act) (w : World), ((List.range ops.size).countP fun i => !listed.getD i false) = fuel → MidX ops S a0 vals listed a w → wpAnyIn G n P .any ops Q fuel listed a w := by
  have done : ∀ (listed : Array Bool) (vals : Nat → Value) (a : Act) (w : World), MidX ops S a0 vals listed a w → Region.ready .any ops listed = [] → Q .normal a w := fun listed vals a w hm hr => by
    have hal := all_listedX hk hm.size hr
    obtain ⟨z, hz, hQz⟩ := hQ vals
    have : a = z := act_ext (hm.frame.defers.trans hz.defers.symm) fun t => hm.frame.ext hz fun j o ho _ => by
      have hlt : j < ops.size := (Array.getElem?_eq_some_iff.1 ho).1
      rw [hal j o ho]; simp [hlt]
    rw [this]
    exact hQz _ w hal hm.cls
  intro fuel
  induction fuel with
  | zero =>
    intro listed vals a w hc hm
    have hr : Region.ready .any ops listed = [] := by
      rw [List.eq_nil_iff_forall_not_mem]
      intro i hi
      obtain ⟨h1, o, ho, _⟩ := mem_ready.1 hi
      have hlt : i < ops.size := (Array.getElem?_eq_some_iff.1 ho).1
      have := List.countP_eq_zero.1 hc i (List.mem_range.2 hlt)
      simp only [Array.getD_eq_getD_getElem?, Array.getElem?_eq_getElem (show i < listed.size by rw [hm.size]; exact hlt)] at h1 this
      simp at h1 this
      rw [h1] at this
      cases this
    exact ⟨hr, done listed vals a w hm hr⟩
  | succ fuel ih =>
    intro listed vals a w hc hm
    refine ⟨done listed vals a w hm, fun i hi => ?_⟩
    obtain ⟨h1, o, ho, he⟩ := mem_ready.1 hi
    have hlt : i < ops.size := (Array.getElem?_eq_some_iff.1 ho).1
    have hlt' : i < listed.size := by rw [hm.size]; exact hlt
    have hun : listed.getD i false = false := by
      simp only [Array.getD_eq_getD_getElem?, Array.getElem?_eq_getElem hlt'] at h1 ⊢; exact h1
    obtain ⟨A, hA, hS⟩ := hst vals i o ho
    have ag : Agree ops o a A := fun t ht => hm.frame.ext hA fun j p hp hd => by
      rcases hk.looks i j o p t ho hp hd ht with rfl | ⟨hji, hr⟩ | ⟨hij, hr⟩
      · rw [hun]; simp
      · rw [reach_listed listed hm.closed 5 i j o ho he hr]; simp [hji]
      · have : listed.getD j false = false := by
          cases hl : listed.getD j false with
          | false => rfl
          | true => have := reach_listedX listed hm.closed 5 j i hl hr; rw [hun] at this; cases this
        rw [this]; simp; omega
    have next : ∀ (u : Value) (w' : World), S (addTo (fun j => listed.getD j false) i) (upd vals i u) w' →
        wpAnyIn G n P .any ops Q fuel (listed.setIfInBounds i true) (a.put o.dst u) w' := fun u w' hS => by
      have hadd : (fun j => (listed.setIfInBounds i true).getD j false) = addTo (fun j => listed.getD j false) i := by
        funext j
        by_cases hji : j = i
        · subst hji; simp [hlt', addTo]
        · rw [getD_set_ne false (Ne.symm hji), addTo_ne _ hji]
      refine ih _ (upd vals i u) _ _ ?_ ⟨by simp [hm.size], fun k p hp hkl e hem hb => ?_, ?_, ?_⟩
      · have := count_set hlt hlt' hun
        omega
      · by_cases hki : k = i
        · subst hki
          rw [ho] at hp; cases hp
          exact getD_set_true (he e hem hb)
        · rw [getD_set_ne false (Ne.symm hki)] at hkl
          exact getD_set_true (hm.closed k p hp hkl e hem hb)
      · rw [hadd]; exact hm.frame.put hk ho u
      · rw [hadd]; exact hS
    have hstep := hS (fun j => listed.getD j false) w hm.closed hun he hm.cls
    unfold wpOpIn
    simp only [ho]
    rw [ag.wanted]
    by_cases hw : Region.wanted o (yielded ops A.tmps) = true
    · rw [if_pos hw] at hstep ⊢
      rw [← ag.exec (fun cs b => hk.sel i o cs b ho)] at hstep
      exact uponX_in hG (fun c => hk.dfr i o c ho) hstep next
    · rw [if_neg hw] at hstep ⊢
      exact ⟨fun f _ => hG.fn f, next undef w hstep⟩

/-- **One walk in the order of the text serves every order**, whatever the operations yield. -/
theorem wpIn_region_freeX {G : Fence} (hG : Open G) {n id : Nat} {Q : Exit → Act → World → Prop} {a : Act} {w : World} {l : List Oper} (hm : P.follows .mixedOrders = true) (hB : freeOkX l.toArray = true) (S : (Nat → Bool) → (Nat → Value) → World → Prop)
    (hS : ∀ vals, S (fun _ => false) vals w.drew) (h : ∀ vals, wpX P l.toArray S (fun a' => ∀ L w', (∀ j, j < l.length → L j = true) → S L vals w' → Q .normal a' w') vals 0 l a) : (Code.region id l.toArray true).wpIn G n P Q a w := by
  have hk := freeOkX_spec hB
  refine wpIn_region_any hm ?_
  have hat := fun vals => wpX_at (a0 := a) (vals := vals) hk l 0 a (by simp) (by
    have : (fun j : Nat => decide (j < 0)) = fun _ => false := by funext j; simp
    rw [this]; exact FrameIs.start vals) (h vals)
  refine wpAny_freeX (a0 := a) hG hk (fun vals j o ho => (hat vals).2 j o (Nat.zero_le _) ho) (fun vals => ?_) _ _ (fun _ => undef) _ _ ?_ ⟨by simp, ?_, ?_, ?_⟩
  · obtain ⟨z, hQ, hz⟩ := (hat vals).1
    refine ⟨z, ?_, fun L w' hal hS' => hQ L w' (fun j hj => hal j (l[j]) (by simp [hj])) hS'⟩
    rw [Nat.zero_add] at hz
    simpa using hz
  · have : ∀ i ∈ List.range l.toArray.size, (!(Array.replicate l.toArray.size false).getD i false) = true := fun i hi => by
      have := List.mem_range.1 hi
      simp at this
      simp [this]
    rw [List.countP_eq_length.2 this, List.length_range]
  · intro i o _ hl
    exfalso
    revert hl
    simp only [Array.getD_eq_getD_getElem?, Array.getElem?_replicate]
    split <;> simp
  · have : (fun j => (Array.replicate l.toArray.size false).getD j false) = fun _ => false := by
      funext j
      simp only [Array.getD_eq_getD_getElem?, Array.getElem?_replicate]
      split <;> simp
    rw [this]
    exact FrameIs.start _
  · have : (fun j => (Array.replicate l.toArray.size false).getD j false) = fun _ => false := by
      funext j
      simp only [Array.getD_eq_getD_getElem?, Array.getElem?_replicate]
      split <;> simp
    rw [this]
    exact hS _
theorem wp_region_freeX {id : Nat} {Q : Exit → Act → World → Prop} {a : Act} {w : World} {l : List Oper} (hm : P.follows .mixedOrders = true) (hB : freeOkX l.toArray = true) (S : (Nat → Bool) → (Nat → Value) → World → Prop)
    (hS : ∀ vals, S (fun _ => false) vals w.drew) (h : ∀ vals, wpX P l.toArray S (fun a' => ∀ L w', (∀ j, j < l.length → L j = true) → S L vals w' → Q .normal a' w') vals 0 l a) : (Code.region id l.toArray true).wp P Q a w :=
  (wpIn_wide (n := 0)).1 (wpIn_region_freeX open_wide hm hB S hS h)
theorem wpX_nil {Q : Act → Prop} {i : Nat} {a : Act} (h : Q a) : wpX P ops S Q vals i [] a := h
/-- An operation that is carried out. -/
theorem wpX_op {Q : Act → Prop} {i : Nat} {o : Oper} {rest : List Oper} {a : Act} (hw : Region.wanted o (yielded ops a.tmps) = true)
    (h : ∀ L w, ClosedL ops L → L i = false → (∀ e ∈ o.after, Region.binds .any e = true → L e.on = true) → S L vals w → uponX P (fun v w' => S (addTo L i) (upd vals i v) w') ((execOp a.eval o).run P w))
    (hK : ∀ K : Act → Prop, (∀ a, wpX P ops S Q vals (i + 1) rest a → K a) → K (a.put o.dst (vals i))) : wpX P ops S Q vals i (o :: rest) a :=
  ⟨fun L w h1 h2 h3 h4 => by rw [if_pos hw]; exact h L w h1 h2 h3 h4, hK _ fun _ h => h⟩
end
end Go.Proofs.YtifcgimpgbeocaaGreat
