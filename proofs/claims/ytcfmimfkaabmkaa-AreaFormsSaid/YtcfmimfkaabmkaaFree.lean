/- A region that draws its order, walked once in the order of the text: each operation yields one value in every world of a class S, keeps S, and may lay down a fact F i that every operation keeps. -/
import Derived.Test.YtcfmimfkaabmkaaBase
import Derived.OrdersIn
import Derived.TacticsIn
import Derived.RangeFuncCalls
set_option linter.unusedVariables false
set_option linter.unusedSimpArgs false
namespace Go.Proofs.Ytcfmimfkaabmkaa
open Go.RowKit

section
variable {P : Program} {ops : Array Oper} {S : World → Prop} {F : Nat → World → Prop}

/-- What is asked once an operation has been carried out: it yields v, and R holds of the world. -/
def freeUpon (P : Program) (R : World → Prop) (v : Value) : Result Next → Prop
  | .ok (.value u) w' => u = v ∧ R w'
  | .ok .skip w' => v = undef ∧ R w'
  | .ok (.enter f args) w' => Calls P f args w' fun e w'' => e = .returned v ∧ R w''
  | _ => False

/-- The operation number i at the frame a: in every world of the class in which the facts of those that it waits for hold. -/
def freeAt (P : Program) (S : World → Prop) (F : Nat → World → Prop) (i : Nat) (o : Oper) (a : Act) (v : Value) : Prop :=
  ∀ w, S w → (∀ e ∈ o.after, Region.binds .any e = true → F e.on w) → freeUpon P (fun w' => S w' ∧ F i w' ∧ ∀ j, F j w → F j w') v ((execOp a.eval o).run P w)

def wpFree (P : Program) (ops : Array Oper) (S : World → Prop) (F : Nat → World → Prop) (Q : Act → Prop) : Nat → List Oper → Act → Prop
  | _, [], a => Q a
  | i, o :: rest, a => if Region.wanted o (yielded ops a.tmps) then ∃ v, freeAt P S F i o a v ∧ wpFree P ops S F Q (i + 1) rest (a.put o.dst v)
      else (∀ w, S w → F i w) ∧ wpFree P ops S F Q (i + 1) rest (a.put o.dst undef)

/-- Does i wait for j, directly or through others? -/
def reach (ops : Array Oper) : Nat → Nat → Nat → Bool
  | 0, _, _ => false
  | n + 1, i, j => match ops[i]? with
    | none => false
    | some o => o.after.toList.any fun e => Region.binds .any e && (e.on == j || reach ops n e.on j)

def freeOk (ops : Array Oper) : Bool :=
  Region.noSelect ops &&
  (ops.toList.zipIdx.all fun (o, i) =>
    (match o.op with | .defer _ => false | _ => true) &&
    (o.after.toList.all fun e => !Region.binds .any e || decide (e.on < i)) &&
    (ops.toList.zipIdx.all fun (p, j) => match p.dst with
      | none => true
      | some d => (i == j || o.dst != some d) && (!(o.looksAt ops).contains d || (decide (j < i) && reach ops 4 i j))))

structure FreeOk (ops : Array Oper) : Prop where
  sel : ∀ (j : Nat) (o : Oper) cs b, ops[j]? = some o → o.op ≠ .select cs b
  dfr : ∀ (j : Nat) (o : Oper) c, ops[j]? = some o → o.op ≠ .defer c
  back : ∀ (i : Nat) (o : Oper), ops[i]? = some o → ∀ e ∈ o.after, Region.binds .any e = true → e.on < i
  apart : ∀ (i j : Nat) (o p : Oper) (d : Tmp), ops[i]? = some o → ops[j]? = some p → p.dst = some d → i ≠ j → o.dst ≠ some d
  looks : ∀ (i j : Nat) (o p : Oper) (d : Tmp), ops[i]? = some o → ops[j]? = some p → p.dst = some d → d ∈ o.looksAt ops → j < i ∧ reach ops 4 i j = true

theorem freeOk_spec (h : freeOk ops = true) : FreeOk ops := by
  unfold freeOk at h
  rw [Bool.and_eq_true] at h
  obtain ⟨h1, h2⟩ := h
  have all : ∀ (i : Nat) (o : Oper), ops[i]? = some o → (o, i) ∈ ops.toList.zipIdx := fun i o ho => by
    rw [List.mem_zipIdx_iff_getElem?]; simpa using ho
  have key : ∀ (i : Nat) (o : Oper), ops[i]? = some o → _ := fun i o ho => List.all_eq_true.1 h2 (o, i) (all i o ho)
  refine ⟨fun j o cs b => Region.noSelect_spec h1 j o cs b, fun j o c ho hc => ?_, fun i o ho e he hb => ?_, fun i j o p d ho hp hd hij => ?_, fun i j o p d ho hp hd hl => ?_⟩
  · have := key j o ho
    simp [hc] at this
  · have := key i o ho
    simp only [Bool.and_eq_true] at this
    have := List.all_eq_true.1 this.1.2 e (by simpa using he)
    simpa [hb] using this
  · have := key i o ho
    simp only [Bool.and_eq_true] at this
    have := List.all_eq_true.1 this.2 (p, j) (all j p hp)
    simp only [hd, Bool.and_eq_true] at this
    have h3 := this.1
    simp only [Bool.or_eq_true, beq_iff_eq, bne_iff_ne] at h3
    exact h3.resolve_left hij
  · have := key i o ho
    simp only [Bool.and_eq_true] at this
    have := List.all_eq_true.1 this.2 (p, j) (all j p hp)
    simp only [hd, Bool.and_eq_true] at this
    have h3 := this.2
    simpa [hl] using h3

theorem put_slot {a : Act} {x : Option Tmp} {v : Value} {t : Tmp} (h : x ≠ some t) : (a.put x v).tmps[t]? = a.tmps[t]? := by
  cases x with
  | none => rfl
  | some d =>
    have : d ≠ t := fun e => h (by rw [e])
    simp [Act.put, Array.getElem?_setIfInBounds_ne this]
theorem put_size {a : Act} {x : Option Tmp} {v : Value} : (a.put x v).tmps.size = a.tmps.size := by
  cases x <;> simp [Act.put]
theorem put_defers' {a : Act} {x : Option Tmp} {v : Value} : (a.put x v).defers = a.defers := by
  cases x <;> rfl
theorem act_ext {a b : Act} (h1 : a.defers = b.defers) (h2 : ∀ t : Nat, a.tmps[t]? = b.tmps[t]?) : a = b := by
  have h3 : a.tmps = b.tmps := Array.ext_getElem? h2
  cases a; cases b
  simp only at h1 h3
  rw [h1, h3]
theorem eval_slots {a b : Act} {x : Operand} (h : ∀ t, x = .tmp t → a.tmps[t]? = b.tmps[t]?) : a.eval x = b.eval x := by
  cases x with
  | tmp t => simp only [Act.eval, Array.getD_eq_getD_getElem?, h t rfl]
  | _ => rfl
/-- Two frames that agree where an operation looks. -/
def Agree (ops : Array Oper) (o : Oper) (a b : Act) : Prop := ∀ t, t ∈ o.looksAt ops → a.tmps[t]? = b.tmps[t]?
theorem Agree.exec {o : Oper} {a b : Act} (h : Agree ops o a b) (hs : ∀ cs b, o.op ≠ .select cs b) : execOp a.eval o = execOp b.eval o :=
  execOp_congr o hs fun x hx => eval_slots fun t e => h t (by
    subst e
    exact List.mem_append_left _ (List.mem_filterMap.2 ⟨.tmp t, by simpa using hx, rfl⟩))
theorem Agree.wanted {o : Oper} {a b : Act} (h : Agree ops o a b) : Region.wanted o (yielded ops a.tmps) = Region.wanted o (yielded ops b.tmps) := by
  unfold Region.wanted
  cases hg : o.guard with
  | none => rfl
  | some gw =>
    obtain ⟨g, want⟩ := gw
    have hy : yielded ops a.tmps g = yielded ops b.tmps g := by
      unfold yielded
      cases ht : (ops[g]?).bind (·.dst) with
      | none => rfl
      | some t =>
        have := h t (by simp [Oper.looksAt, hg, ht])
        simp only [Option.bind_some, this]
    simp only [hy]

/-- What the walk shows of the operation number i, at the frame that stands at the end. -/
def StepAt (P : Program) (ops : Array Oper) (S : World → Prop) (F : Nat → World → Prop) (i : Nat) (o : Oper) (a : Act) : Prop :=
  (Region.wanted o (yielded ops a.tmps) = true ∧ ∃ v, freeAt P S F i o a v ∧ ∀ t, o.dst = some t → t < a.tmps.size → a.tmps[t]? = some v) ∨
  (Region.wanted o (yielded ops a.tmps) = false ∧ (∀ w, S w → F i w) ∧ ∀ t, o.dst = some t → t < a.tmps.size → a.tmps[t]? = some undef)

theorem wpFree_end {Q : Act → Prop} (hk : FreeOk ops) : ∀ (l : List Oper) (i : Nat) (a : Act), (∀ k, l[k]? = ops[i + k]?) → wpFree P ops S F Q i l a →
    ∃ z, Q z ∧ z.defers = a.defers ∧ z.tmps.size = a.tmps.size ∧ (∀ t, (∀ j o, i ≤ j → ops[j]? = some o → o.dst ≠ some t) → z.tmps[t]? = a.tmps[t]?) ∧
      ∀ j o, i ≤ j → ops[j]? = some o → StepAt P ops S F j o z
  | [], i, a, hl, h => ⟨a, h, rfl, rfl, fun _ _ => rfl, fun j o hij ho => by
      have := hl (j - i)
      rw [show i + (j - i) = j by omega, ho] at this
      simp at this⟩
  | o :: l, i, a, hl, h => by
    have h0 : ops[i]? = some o := by simpa using (hl 0).symm
    have hl' : ∀ k, l[k]? = ops[i + 1 + k]? := fun k => by have := hl (k + 1); simpa [Nat.add_assoc, Nat.add_comm 1 k] using this
    -- the later operations leave alone what o looks at, and what o has written
    have late : ∀ (u : Value) (z : Act), (∀ t, (∀ j p, i + 1 ≤ j → ops[j]? = some p → p.dst ≠ some t) → z.tmps[t]? = (a.put o.dst u).tmps[t]?) → Agree ops o z a := fun u z hz t ht => by
      rw [hz t (fun j p hj hp hd => by have := (hk.looks i j o p t h0 hp hd ht).1; omega)]
      exact put_slot (fun hd => by have := (hk.looks i i o o t h0 h0 hd ht).1; omega)
    have own : ∀ (u : Value) (z : Act), z.tmps.size = (a.put o.dst u).tmps.size → (∀ t, (∀ j p, i + 1 ≤ j → ops[j]? = some p → p.dst ≠ some t) → z.tmps[t]? = (a.put o.dst u).tmps[t]?) →
        ∀ t, o.dst = some t → t < z.tmps.size → z.tmps[t]? = some u := fun u z hsz hz t hd hlt => by
      rw [hz t (fun j p hj hp hd' => hk.apart j i p o t hp h0 hd (by omega) hd')]
      rw [hsz, put_size] at hlt
      simp [Act.put, hd, hlt]
    have fin : ∀ (u : Value) (z : Act), (∀ t, (∀ j p, i + 1 ≤ j → ops[j]? = some p → p.dst ≠ some t) → z.tmps[t]? = (a.put o.dst u).tmps[t]?) →
        ∀ t, (∀ j p, i ≤ j → ops[j]? = some p → p.dst ≠ some t) → z.tmps[t]? = a.tmps[t]? := fun u z hz t ht => by
      rw [hz t (fun j p hj => ht j p (by omega))]
      exact put_slot (ht i o (Nat.le_refl _) h0)
    unfold wpFree at h
    split at h
    · rename_i hw
      obtain ⟨v, hf, hr⟩ := h
      obtain ⟨z, hQ, hd, hsz, hz, hst⟩ := wpFree_end hk l (i + 1) (a.put o.dst v) hl' hr
      refine ⟨z, hQ, hd.trans put_defers', hsz.trans put_size, fin v z hz, fun j p hij hp => ?_⟩
      by_cases e : j = i
      · subst e
        rw [h0] at hp; cases hp
        have ag := late v z hz
        refine .inl ⟨by rw [ag.wanted]; exact hw, v, ?_, own v z hsz hz⟩
        unfold freeAt at hf ⊢
        rw [ag.exec (fun cs b => hk.sel j o cs b h0)]
        exact hf
      · exact hst j p (by omega) hp
    · rename_i hw
      obtain ⟨hF, hr⟩ := h
      obtain ⟨z, hQ, hd, hsz, hz, hst⟩ := wpFree_end hk l (i + 1) (a.put o.dst undef) hl' hr
      refine ⟨z, hQ, hd.trans put_defers', hsz.trans put_size, fin undef z hz, fun j p hij hp => ?_⟩
      by_cases e : j = i
      · subst e
        rw [h0] at hp; cases hp
        have ag := late undef z hz
        exact .inr ⟨by rw [ag.wanted]; simpa using hw, hF, own undef z hsz hz⟩
      · exact hst j p (by omega) hp

theorem reach_listed (listed : Array Bool) (hc : ∀ i o, ops[i]? = some o → listed.getD i false = true → ∀ e ∈ o.after, Region.binds .any e = true → listed.getD e.on false = true) :
    ∀ (n i j : Nat) (o : Oper), ops[i]? = some o → (∀ e ∈ o.after, Region.binds .any e = true → listed.getD e.on false = true) → reach ops n i j = true → listed.getD j false = true
  | 0, _, _, _, _, _, h => by simp [reach] at h
  | n + 1, i, j, o, ho, he, h => by
    unfold reach at h
    simp only [ho] at h
    obtain ⟨e, hem, h⟩ := List.any_eq_true.1 h
    simp only [Bool.and_eq_true, Bool.or_eq_true, beq_iff_eq] at h
    have hl := he e (by simpa using hem) h.1
    rcases h.2 with h | h
    · rw [← h]; exact hl
    · cases hp : ops[e.on]? with
      | none => cases n <;> simp [reach, hp] at h
      | some p => exact reach_listed listed hc n e.on j p hp (hc e.on p hp hl) h

/-- Between two operations: what is listed has left its value and its fact. -/
structure Mid (ops : Array Oper) (S : World → Prop) (F : Nat → World → Prop) (z : Act) (listed : Array Bool) (a : Act) (w : World) : Prop where
  size : listed.size = ops.size
  closed : ∀ i o, ops[i]? = some o → listed.getD i false = true → ∀ e ∈ o.after, Region.binds .any e = true → listed.getD e.on false = true
  len : a.tmps.size = z.tmps.size
  defers : a.defers = z.defers
  slots : ∀ t, (∀ j o, ops[j]? = some o → listed.getD j false = false → o.dst ≠ some t) → a.tmps[t]? = z.tmps[t]?
  cls : S w
  facts : ∀ j, listed.getD j false = true → F j w

theorem all_listed (hk : FreeOk ops) {listed : Array Bool} (hsz : listed.size = ops.size) (hr : Region.ready .any ops listed = []) : ∀ i o, ops[i]? = some o → listed.getD i false = true := by
  intro i
  induction i using Nat.strongRecOn with
  | _ i ih =>
    intro o ho
    have hlt : i < ops.size := (Array.getElem?_eq_some_iff.1 ho).1
    cases hb : listed.getD i true with
    | true => simp only [Array.getD_eq_getD_getElem?, Array.getElem?_eq_getElem (show i < listed.size by omega)] at hb ⊢; exact hb
    | false =>
      have : i ∈ Region.ready .any ops listed := mem_ready.2 ⟨hb, o, ho, fun e he hbd => by
        have hlt' := hk.back i o ho e he hbd
        cases hp : ops[e.on]? with
        | none => have := Array.getElem?_eq_none_iff.1 hp; omega
        | some p => exact ih e.on hlt' p hp⟩
      rw [hr] at this
      cases this

/-- A fence that lets everything by. -/
structure Open (G : Fence) : Prop where
  fn : ∀ f, G.fn f
  depth : G.depth = none
  alive : G.alive = false
theorem Open.calls {G : Fence} (hG : Open G) {n : Nat} {f : FuncId} {args : Array Value} {w : World} {R : Ending → World → Prop} (h : Calls P f args w R) : CallsIn G n P f args w R := by
  obtain ⟨fn, depth, alive, round⟩ := G
  have e1 : fn = fun _ => True := funext fun f => by simpa using hG.fn f
  have e2 : depth = none := hG.depth
  have e3 : alive = false := hG.alive
  subst e1 e2 e3
  exact (callsIn_wide (n := n)).2 h

theorem free_upon {G : Fence} (hG : Open G) {n : Nat} {o : Oper} {a : Act} {w : World} {v : Value} {R : World → Prop} {K : Act → World → Prop} {Q : Exit → Act → World → Prop} (hd : ∀ c, o.op ≠ .defer c)
    (h : freeUpon P R v ((execOp a.eval o).run P w)) (hK : ∀ w', R w' → K (a.put o.dst v) w') : o.wpIn G n P a w K Q := by
  refine ⟨fun f _ => hG.fn f, ?_⟩
  have e : o.semAt G.round a.eval = execOp a.eval o := by
    cases hr : G.round with
    | none => exact Oper.semAt_none _ _
    | some l => exact Oper.semAt_some l _ _ hd
  rw [e]
  generalize (execOp a.eval o).run P w = r at h
  cases r with
  | ok x w' =>
    cases x <;> simp only [freeUpon] at h <;> simp only [Oper.uponIn]
    case value u => rw [h.1]; exact hK _ h.2
    case skip => rw [← h.1]; exact hK _ h.2
    case enter f args =>
      refine ⟨fun hs => (by rw [hG.depth] at hs; cases hs), hG.calls (h.mono fun e w'' he => ?_)⟩
      obtain ⟨rfl, hr⟩ := he
      exact hK _ hr
  | halt x w' => simp only [freeUpon] at h

theorem wpAny_free {G : Fence} (hG : Open G) {n : Nat} {Q : Exit → Act → World → Prop} {z : Act} (hk : FreeOk ops) (hst : ∀ j o, ops[j]? = some o → StepAt P ops S F j o z)
    (hQ : ∀ w, S w → (∀ j o, ops[j]? = some o → F j w) → Q .normal z w) :
    ∀ (fuel : Nat) (listed : Array Bool) (a : Act) (w : World), ((List.range ops.size).countP fun i => !listed.getD i false) = fuel → Mid ops S F z listed a w → wpAnyIn G n P .any ops Q fuel listed a w := by
  have done : ∀ (listed : Array Bool) (a : Act) (w : World), Mid ops S F z listed a w → Region.ready .any ops listed = [] → Q .normal a w := fun listed a w hm hr => by
    have hal := all_listed hk hm.size hr
    have : a = z := act_ext hm.defers fun t => hm.slots t fun j o ho hl => by rw [hal j o ho] at hl; cases hl
    rw [this]
    exact hQ w hm.cls fun j o ho => hm.facts j (hal j o ho)
  intro fuel
  induction fuel with
  | zero =>
    intro listed a w hc hm
    have hr : Region.ready .any ops listed = [] := by
      rw [List.eq_nil_iff_forall_not_mem]
      intro i hi
      obtain ⟨h1, o, ho, _⟩ := mem_ready.1 hi
      have hlt : i < ops.size := (Array.getElem?_eq_some_iff.1 ho).1
      have := List.countP_eq_zero.1 hc i (List.mem_range.2 hlt)
      simp only [Array.getD_eq_getD_getElem?, Array.getElem?_eq_getElem (show i < listed.size by rw [hm.size]; exact hlt)] at h1 this
      simp at h1 this
      rw [h1] at this
      cases this
    exact ⟨hr, done listed a w hm hr⟩
  | succ fuel ih =>
    intro listed a w hc hm
    refine ⟨done listed a w hm, fun i hi => ?_⟩
    obtain ⟨h1, o, ho, he⟩ := mem_ready.1 hi
    have hlt : i < ops.size := (Array.getElem?_eq_some_iff.1 ho).1
    have hlt' : i < listed.size := by rw [hm.size]; exact hlt
    have hun : listed.getD i false = false := by
      simp only [Array.getD_eq_getD_getElem?, Array.getElem?_eq_getElem hlt'] at h1 ⊢; exact h1
    have ag : Agree ops o a z := fun t ht => hm.slots t fun j p hp hl hd => by
      have hr := (hk.looks i j o p t ho hp hd ht).2
      rw [reach_listed listed hm.closed 4 i j o ho he hr] at hl
      cases hl
    have next : ∀ (u : Value) (w' : World), (∀ t, o.dst = some t → t < z.tmps.size → z.tmps[t]? = some u) → S w' → F i w' → (∀ j, listed.getD j false = true → F j w') →
        wpAnyIn G n P .any ops Q fuel (listed.setIfInBounds i true) (a.put o.dst u) w' := fun u w' hu hS hF hFs => by
      refine ih _ _ _ ?_ ⟨by simp [hm.size], fun k p hp hkl e hem hb => ?_, put_size.trans hm.len, put_defers'.trans hm.defers, fun t ht => ?_, hS, fun j hj => ?_⟩
      · have hci : ∀ j, (listed.setIfInBounds i true).getD j false = (listed.getD j false || decide (j = i)) := fun j => by
          by_cases hji : j = i
          · subst hji; simp [hlt']
          · rw [getD_set_ne false (Ne.symm hji)]; simp [hji]
        have hcount : ∀ (l : List Nat), l.Nodup → i ∈ l → (l.countP fun j => !(listed.setIfInBounds i true).getD j false) + 1 = l.countP fun j => !listed.getD j false := by
          intro l
          induction l with
          | nil => intro _ h; cases h
          | cons x l ihl =>
            intro hnd hmem
            rw [List.nodup_cons] at hnd
            rw [List.countP_cons, List.countP_cons]
            by_cases hx : x = i
            · subst hx
              have hsame : (l.countP fun j => !(listed.setIfInBounds x true).getD j false) = l.countP fun j => !listed.getD j false :=
                List.countP_congr fun j hj => by
                  have : j ≠ x := fun e => hnd.1 (e ▸ hj)
                  rw [hci]; simp [this]
              rw [hsame, hci, hun]; simp
            · have := ihl hnd.2 ((List.mem_cons.1 hmem).resolve_left (Ne.symm hx))
              have e2 : (listed.setIfInBounds i true).getD x false = listed.getD x false := getD_set_ne false (Ne.symm hx)
              rw [e2, ← this]
              omega
        have := hcount (List.range ops.size) List.nodup_range (List.mem_range.2 hlt)
        omega
      · by_cases hki : k = i
        · subst hki
          rw [ho] at hp; cases hp
          exact getD_set_true (he e hem hb)
        · rw [getD_set_ne false (Ne.symm hki)] at hkl
          exact getD_set_true (hm.closed k p hp hkl e hem hb)
      · by_cases hd : o.dst = some t
        · by_cases hts : t < z.tmps.size
          · rw [hu t hd hts]
            have : t < a.tmps.size := by rw [hm.len]; exact hts
            simp [Act.put, hd, this]
          · have e1 : (a.put o.dst u).tmps[t]? = none := Array.getElem?_eq_none (by rw [put_size, hm.len]; exact Nat.le_of_not_lt hts)
            have e2 : z.tmps[t]? = none := Array.getElem?_eq_none (Nat.le_of_not_lt hts)
            rw [e1, e2]
        · rw [put_slot hd]
          refine hm.slots t fun j p hp hl => ?_
          by_cases hji : j = i
          · subst hji; rw [ho] at hp; cases hp; exact hd
          · exact ht j p hp (by rw [getD_set_ne false (Ne.symm hji)]; exact hl)
      · by_cases hji : j = i
        · rw [hji]; exact hF
        · rw [getD_set_ne false (Ne.symm hji)] at hj; exact hFs j hj
    unfold wpOpIn
    simp only [ho]
    rcases hst i o ho with ⟨hw, v, hf, hv⟩ | ⟨hw, hF, hv⟩
    · rw [← ag.wanted] at hw
      rw [if_pos hw]
      unfold freeAt at hf
      rw [← ag.exec (fun cs b => hk.sel i o cs b ho)] at hf
      have := hf w hm.cls (fun e hem hb => hm.facts e.on (he e hem hb))
      exact free_upon hG (fun c => hk.dfr i o c ho) this fun w' ⟨hS, hFi, hkeep⟩ => next v w' hv hS hFi fun j hj => hkeep j (hm.facts j hj)
    · rw [← ag.wanted] at hw
      rw [if_neg (by rw [hw]; simp)]
      exact ⟨fun f _ => hG.fn f, next undef w hv hm.cls (hF w hm.cls) hm.facts⟩

/-- **One walk in the order of the text serves every order.** -/
theorem wpIn_region_free {G : Fence} (hG : Open G) {n id : Nat} {Q : Exit → Act → World → Prop} {a : Act} {w : World} {l : List Oper} (hm : P.follows .mixedOrders = true) (hB : freeOk l.toArray = true) (S : World → Prop) (F : Nat → World → Prop)
    (hS : S w.drew) (h : wpFree P l.toArray S F (fun a' => ∀ w', S w' → (∀ j, j < l.length → F j w') → Q .normal a' w') 0 l a) : (Code.region id l.toArray true).wpIn G n P Q a w := by
  have hk := freeOk_spec hB
  refine wpIn_region_any hm ?_
  obtain ⟨z, hQ, hd, hsz, hz, hst⟩ := wpFree_end hk l 0 a (by simp) h
  refine wpAny_free hG hk (fun j o ho => hst j o (Nat.zero_le _) ho) (fun w' hS' hF => hQ w' hS' fun j hj => hF j (l[j]) (by simp [hj])) _ _ _ _ ?_ ⟨by simp, ?_, hsz.symm, hd.symm, ?_, hS, ?_⟩
  · have : ∀ i ∈ List.range l.toArray.size, (!(Array.replicate l.toArray.size false).getD i false) = true := fun i hi => by
      have := List.mem_range.1 hi
      simp at this
      simp [this]
    rw [List.countP_eq_length.2 this, List.length_range]
  · intro i o _ hl
    exfalso
    revert hl
    simp only [Array.getD_eq_getD_getElem?, Array.getElem?_replicate]
    split <;> simp
  · intro t ht
    refine (hz t fun j o _ ho => ht j o ho ?_).symm
    simp only [Array.getD_eq_getD_getElem?, Array.getElem?_replicate]
    split <;> simp
  · intro j hl
    exfalso
    revert hl
    simp only [Array.getD_eq_getD_getElem?, Array.getElem?_replicate]
    split <;> simp
theorem open_wide : Open Fence.wide := ⟨fun _ => trivial, rfl, rfl⟩
theorem open_round (l : Nat) : Open (Fence.wide.inRound l) := ⟨fun _ => trivial, rfl, rfl⟩
theorem wp_region_free {id : Nat} {Q : Exit → Act → World → Prop} {a : Act} {w : World} {l : List Oper} (S : World → Prop) (F : Nat → World → Prop) (hm : P.follows .mixedOrders = true) (hB : freeOk l.toArray = true)
    (hS : S w.drew) (h : wpFree P l.toArray S F (fun a' => ∀ w', S w' → (∀ j, j < l.length → F j w') → Q .normal a' w') 0 l a) : (Code.region id l.toArray true).wp P Q a w :=
  (wpIn_wide (n := 0)).1 (wpIn_region_free open_wide hm hB S F hS h)
end
section
variable {P : Program} {ops : Array Oper} {S : World → Prop} {F : Nat → World → Prop} {Q : Act → Prop} {i : Nat} {o : Oper} {rest : List Oper} {a : Act} {v : Value}
theorem wpFree_nil (h : Q a) : wpFree P ops S F Q i [] a := h
/-- An operation that is passed over. -/
theorem wpFree_skip (hw : Region.wanted o (yielded ops a.tmps) = false) (hF : ∀ w, S w → F i w) (h : ∀ K : Act → Prop, (∀ a, wpFree P ops S F Q (i + 1) rest a → K a) → K (a.put o.dst undef)) : wpFree P ops S F Q i (o :: rest) a := by
  unfold wpFree; rw [if_neg (by rw [hw]; simp)]; exact ⟨hF, h _ fun _ h => h⟩
/-- An operation that leaves the world alone. -/
theorem wpFree_val (hw : Region.wanted o (yielded ops a.tmps) = true) (hF : ∀ w, S w → F i w)
    (h : ∀ K : Act → Prop, (∀ a, wpFree P ops S F Q (i + 1) rest a → K a) → ∃ v, (∀ w, S w → (execOp a.eval o).run P w = .ok (.value v) w) ∧ K (a.put o.dst v)) : wpFree P ops S F Q i (o :: rest) a := by
  unfold wpFree; rw [if_pos hw]
  obtain ⟨v, hv, hr⟩ := h _ fun _ h => h
  refine ⟨v, fun w hS _ => ?_, hr⟩
  rw [hv w hS]
  exact ⟨rfl, hS, hF w hS, fun _ h => h⟩
/-- A call. -/
theorem wpFree_call (hw : Region.wanted o (yielded ops a.tmps) = true)
    (h : ∀ K : Act → Prop, (∀ a, wpFree P ops S F Q (i + 1) rest a → K a) → ∃ f args, (∀ w, (execOp a.eval o).run P w = .ok (.enter f args) w) ∧
      ∃ v, (∀ w, S w → Calls P f args w fun e w' => e = .returned v ∧ S w' ∧ F i w' ∧ ∀ j, F j w → F j w') ∧ K (a.put o.dst v)) : wpFree P ops S F Q i (o :: rest) a := by
  unfold wpFree; rw [if_pos hw]
  obtain ⟨f, args, hv, v, hc, hr⟩ := h _ fun _ h => h
  refine ⟨v, fun w hS _ => ?_, hr⟩
  rw [hv w]
  exact hc w hS
/-- An operation in general. -/
theorem wpFree_gen (hw : Region.wanted o (yielded ops a.tmps) = true) (h : ∀ K : Act → Prop, (∀ a, wpFree P ops S F Q (i + 1) rest a → K a) → ∃ v, freeAt P S F i o a v ∧ K (a.put o.dst v)) : wpFree P ops S F Q i (o :: rest) a := by
  unfold wpFree; rw [if_pos hw]; exact h _ fun _ h => h
/-- A store, or whatever else makes one world of one. -/
theorem wpFree_step (hw : Region.wanted o (yielded ops a.tmps) = true)
    (h : ∀ K : Act → Prop, (∀ a, wpFree P ops S F Q (i + 1) rest a → K a) → ∃ v, (∀ w, S w → ∃ w', (execOp a.eval o).run P w = .ok (.value v) w' ∧ S w' ∧ F i w' ∧ ∀ j, F j w → F j w') ∧ K (a.put o.dst v)) : wpFree P ops S F Q i (o :: rest) a := by
  unfold wpFree; rw [if_pos hw]
  obtain ⟨v, hv, hr⟩ := h _ fun _ h => h
  refine ⟨v, fun w hS _ => ?_, hr⟩
  obtain ⟨w', e, h1⟩ := hv w hS
  rw [e]
  exact ⟨rfl, h1⟩
theorem wpFree_skipStep (hw : Region.wanted o (yielded ops a.tmps) = true)
    (h : ∀ K : Act → Prop, (∀ a, wpFree P ops S F Q (i + 1) rest a → K a) → (∀ w, S w → ∃ w', (execOp a.eval o).run P w = .ok .skip w' ∧ S w' ∧ F i w' ∧ ∀ j, F j w → F j w') ∧ K (a.put o.dst undef)) : wpFree P ops S F Q i (o :: rest) a := by
  unfold wpFree; rw [if_pos hw]
  obtain ⟨hv, hr⟩ := h _ fun _ h => h
  refine ⟨undef, fun w hS _ => ?_, hr⟩
  obtain ⟨w', e, h1⟩ := hv w hS
  rw [e]
  exact ⟨rfl, h1⟩
end
/-- A cell that a region may store into. -/
def OwnC (w : World) (a : Addr) : Prop := (∃ v, w.cell? a = some v) ∧ w.frozen? a = false
theorem keepOwn {w w1 : World} {a : Addr} (hb : Below w.heap.size w w1) (h : OwnC w a) : OwnC w1 a := by
  obtain ⟨⟨v, hv⟩, hf⟩ := h
  exact ⟨⟨v, keepc hb hv⟩, keepf hb hv hf⟩
theorem OwnC.set {w : World} {a : Addr} (h : OwnC w a) (b : Addr) (v : Value) : OwnC (w.setCell b v) a := by
  obtain ⟨⟨u, hu⟩, hf⟩ := h
  exact ⟨cell?_setCell_some hu, by rw [World.frozen?_setCell]; exact hf⟩
theorem ownc_new (w : World) (c : Array Value) (t : TypeId) (k : Nat) (h : k < c.size) : OwnC (w.alloc (.cells c t)) ⟨w.heap.size, k, none⟩ := by
  have hn := heap_alloc_new w (.cells c t)
  refine ⟨⟨c[k], ?_⟩, ?_⟩
  · unfold World.cell?; rw [hn]; simp [h]
  · unfold World.frozen?; rw [hn]; simp
end Go.Proofs.Ytcfmimfkaabmkaa
