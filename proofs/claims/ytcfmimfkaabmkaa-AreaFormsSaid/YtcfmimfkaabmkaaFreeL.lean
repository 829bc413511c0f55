/- A region that draws its order, walked once in the order of the text, over classes of worlds that depend on which operations have been carried out: for a region that makes a variable. -/
import Derived.Test.YtcfmimfkaabmkaaFree
set_option linter.unusedVariables false
set_option linter.unusedSimpArgs false
namespace Go.Proofs.Ytcfmimfkaabmkaa
open Go.RowKit

section
variable {P : Program} {ops : Array Oper} {S : (Nat → Bool) → World → Prop}
/-- L, and i besides. -/
def addTo (L : Nat → Bool) (i : Nat) : Nat → Bool := fun j => if j = i then true else L j
theorem addTo_self (L : Nat → Bool) (i : Nat) : addTo L i i = true := by simp [addTo]
theorem addTo_ne (L : Nat → Bool) {i j : Nat} (h : j ≠ i) : addTo L i j = L j := by simp [addTo, h]

/-- Whatever L holds, it holds all that this waits for. -/
def ClosedL (ops : Array Oper) (L : Nat → Bool) : Prop := ∀ j p, ops[j]? = some p → L j = true → ∀ e ∈ p.after, Region.binds .any e = true → L e.on = true
def freeAtL (P : Program) (ops : Array Oper) (S : (Nat → Bool) → World → Prop) (i : Nat) (o : Oper) (a : Act) (v : Value) : Prop :=
  ∀ L w, ClosedL ops L → L i = false → (∀ e ∈ o.after, Region.binds .any e = true → L e.on = true) → S L w → freeUpon P (fun w' => S (addTo L i) w') v ((execOp a.eval o).run P w)
def skipAtL (S : (Nat → Bool) → World → Prop) (i : Nat) : Prop := ∀ L w, L i = false → S L w → S (addTo L i) w
def wpFreeL (P : Program) (ops : Array Oper) (S : (Nat → Bool) → World → Prop) (Q : Act → Prop) : Nat → List Oper → Act → Prop
  | _, [], a => Q a
  | i, o :: rest, a => if Region.wanted o (yielded ops a.tmps) then ∃ v, freeAtL P ops S i o a v ∧ wpFreeL P ops S Q (i + 1) rest (a.put o.dst v)
      else skipAtL S i ∧ wpFreeL P ops S Q (i + 1) rest (a.put o.dst undef)
/-- What the walk shows of the operation number i, at the frame that stands at the end. -/
def StepAtL (P : Program) (ops : Array Oper) (S : (Nat → Bool) → World → Prop) (i : Nat) (o : Oper) (a : Act) : Prop :=
  (Region.wanted o (yielded ops a.tmps) = true ∧ ∃ v, freeAtL P ops S i o a v ∧ ∀ t, o.dst = some t → t < a.tmps.size → a.tmps[t]? = some v) ∨
  (Region.wanted o (yielded ops a.tmps) = false ∧ skipAtL S i ∧ ∀ t, o.dst = some t → t < a.tmps.size → a.tmps[t]? = some undef)

theorem wpFreeL_end {Q : Act → Prop} (hk : FreeOk ops) : ∀ (l : List Oper) (i : Nat) (a : Act), (∀ k, l[k]? = ops[i + k]?) → wpFreeL P ops S Q i l a →
    ∃ z, Q z ∧ z.defers = a.defers ∧ z.tmps.size = a.tmps.size ∧ (∀ t, (∀ j o, i ≤ j → ops[j]? = some o → o.dst ≠ some t) → z.tmps[t]? = a.tmps[t]?) ∧
      ∀ j o, i ≤ j → ops[j]? = some o → StepAtL P ops S j o z
  | [], i, a, hl, h => ⟨a, h, rfl, rfl, fun _ _ => rfl, fun j o hij ho => by
      have := hl (j - i)
      rw [show i + (j - i) = j by omega, ho] at this
      simp at this⟩
  | o :: l, i, a, hl, h => by
    have h0 : ops[i]? = some o := by simpa using (hl 0).symm
    have hl' : ∀ k, l[k]? = ops[i + 1 + k]? := fun k => by have := hl (k + 1); simpa [Nat.add_assoc, Nat.add_comm 1 k] using this
    -- the later operations leave alone what o looks at, and what o has written
    have late : ∀ (u : Value) (z : Act), (∀ t, (∀ j p, i + 1 ≤ j → ops[j]? = some p → p.dst ≠ some t) → z.tmps[t]? = (a.put o.dst u).tmps[t]?) → Agree ops o z a := fun u z hz t ht => by
      rw [hz t (fun j p hj hp hd => by have := (hk.looks i j o p t h0 hp hd ht).1; omega)]
      exact put_slot (fun hd => by have := (hk.looks i i o o t h0 h0 hd ht).1; omega)
    have own : ∀ (u : Value) (z : Act), z.tmps.size = (a.put o.dst u).tmps.size → (∀ t, (∀ j p, i + 1 ≤ j → ops[j]? = some p → p.dst ≠ some t) → z.tmps[t]? = (a.put o.dst u).tmps[t]?) →
        ∀ t, o.dst = some t → t < z.tmps.size → z.tmps[t]? = some u := fun u z hsz hz t hd hlt => by
      rw [hz t (fun j p hj hp hd' => hk.apart j i p o t hp h0 hd (by omega) hd')]
      rw [hsz, put_size] at hlt
      simp [Act.put, hd, hlt]
    have fin : ∀ (u : Value) (z : Act), (∀ t, (∀ j p, i + 1 ≤ j → ops[j]? = some p → p.dst ≠ some t) → z.tmps[t]? = (a.put o.dst u).tmps[t]?) →
        ∀ t, (∀ j p, i ≤ j → ops[j]? = some p → p.dst ≠ some t) → z.tmps[t]? = a.tmps[t]? := fun u z hz t ht => by
      rw [hz t (fun j p hj => ht j p (by omega))]
      exact put_slot (ht i o (Nat.le_refl _) h0)
    unfold wpFreeL at h
    split at h
    · rename_i hw
      obtain ⟨v, hf, hr⟩ := h
      obtain ⟨z, hQ, hd, hsz, hz, hst⟩ := wpFreeL_end hk l (i + 1) (a.put o.dst v) hl' hr
      refine ⟨z, hQ, hd.trans put_defers', hsz.trans put_size, fin v z hz, fun j p hij hp => ?_⟩
      by_cases e : j = i
      · subst e
        rw [h0] at hp; cases hp
        have ag := late v z hz
        refine .inl ⟨by rw [ag.wanted]; exact hw, v, ?_, own v z hsz hz⟩
        unfold freeAtL at hf ⊢
        rw [ag.exec (fun cs b => hk.sel j o cs b h0)]
        exact hf
      · exact hst j p (by omega) hp
    · rename_i hw
      obtain ⟨hF, hr⟩ := h
      obtain ⟨z, hQ, hd, hsz, hz, hst⟩ := wpFreeL_end hk l (i + 1) (a.put o.dst undef) hl' hr
      refine ⟨z, hQ, hd.trans put_defers', hsz.trans put_size, fin undef z hz, fun j p hij hp => ?_⟩
      by_cases e : j = i
      · subst e
        rw [h0] at hp; cases hp
        have ag := late undef z hz
        exact .inr ⟨by rw [ag.wanted]; simpa using hw, hF, own undef z hsz hz⟩
      · exact hst j p (by omega) hp

/-- Between two operations: what is listed has left its value and its fact. -/
structure MidL (ops : Array Oper) (S : (Nat → Bool) → World → Prop) (z : Act) (listed : Array Bool) (a : Act) (w : World) : Prop where
  size : listed.size = ops.size
  closed : ∀ i o, ops[i]? = some o → listed.getD i false = true → ∀ e ∈ o.after, Region.binds .any e = true → listed.getD e.on false = true
  len : a.tmps.size = z.tmps.size
  defers : a.defers = z.defers
  slots : ∀ t, (∀ j o, ops[j]? = some o → listed.getD j false = false → o.dst ≠ some t) → a.tmps[t]? = z.tmps[t]?
  cls : S (fun j => listed.getD j false) w

theorem wpAny_freeL {G : Fence} (hG : Open G) {n : Nat} {Q : Exit → Act → World → Prop} {z : Act} (hk : FreeOk ops) (hst : ∀ j o, ops[j]? = some o → StepAtL P ops S j o z)
    (hQ : ∀ L w, (∀ j o, ops[j]? = some o → L j = true) → S L w → Q .normal z w) :
    ∀ (fuel : Nat) (listed : Array Bool) (a : Act) (w : World), ((List.range ops.size).countP fun i => !listed.getD i false) = fuel → MidL ops S z listed a w → wpAnyIn G n P .any ops Q fuel listed a w := by
  have done : ∀ (listed : Array Bool) (a : Act) (w : World), MidL ops S z listed a w → Region.ready .any ops listed = [] → Q .normal a w := fun listed a w hm hr => by
    have hal := all_listed hk hm.size hr
    have : a = z := act_ext hm.defers fun t => hm.slots t fun j o ho hl => by rw [hal j o ho] at hl; cases hl
    rw [this]
    exact hQ _ w hal hm.cls
  intro fuel
  induction fuel with
  | zero =>
    intro listed a w hc hm
    have hr : Region.ready .any ops listed = [] := by
      rw [List.eq_nil_iff_forall_not_mem]
      intro i hi
      obtain ⟨h1, o, ho, _⟩ := mem_ready.1 hi
      have hlt : i < ops.size := (Array.getElem?_eq_some_iff.1 ho).1
      have := List.countP_eq_zero.1 hc i (List.mem_range.2 hlt)
      simp only [Array.getD_eq_getD_getElem?, Array.getElem?_eq_getElem (show i < listed.size by rw [hm.size]; exact hlt)] at h1 this
      simp at h1 this
      rw [h1] at this
      cases this
    exact ⟨hr, done listed a w hm hr⟩
  | succ fuel ih =>
    intro listed a w hc hm
    refine ⟨done listed a w hm, fun i hi => ?_⟩
    obtain ⟨h1, o, ho, he⟩ := mem_ready.1 hi
    have hlt : i < ops.size := (Array.getElem?_eq_some_iff.1 ho).1
    have hlt' : i < listed.size := by rw [hm.size]; exact hlt
    have hun : listed.getD i false = false := by
      simp only [Array.getD_eq_getD_getElem?, Array.getElem?_eq_getElem hlt'] at h1 ⊢; exact h1
    have ag : Agree ops o a z := fun t ht => hm.slots t fun j p hp hl hd => by
      have hr := (hk.looks i j o p t ho hp hd ht).2
      rw [reach_listed listed hm.closed 4 i j o ho he hr] at hl
      cases hl
    have next : ∀ (u : Value) (w' : World), (∀ t, o.dst = some t → t < z.tmps.size → z.tmps[t]? = some u) → S (addTo (fun j => listed.getD j false) i) w' →
        wpAnyIn G n P .any ops Q fuel (listed.setIfInBounds i true) (a.put o.dst u) w' := fun u w' hu hS => by
      refine ih _ _ _ ?_ ⟨by simp [hm.size], fun k p hp hkl e hem hb => ?_, put_size.trans hm.len, put_defers'.trans hm.defers, fun t ht => ?_, ?_⟩
      · have hci : ∀ j, (listed.setIfInBounds i true).getD j false = (listed.getD j false || decide (j = i)) := fun j => by
          by_cases hji : j = i
          · subst hji; simp [hlt']
          · rw [getD_set_ne false (Ne.symm hji)]; simp [hji]
        have hcount : ∀ (l : List Nat), l.Nodup → i ∈ l → (l.countP fun j => !(listed.setIfInBounds i true).getD j false) + 1 = l.countP fun j => !listed.getD j false := by
          intro l
          induction l with
          | nil => intro _ h; cases h
          | cons x l ihl =>
            intro hnd hmem
            rw [List.nodup_cons] at hnd
            rw [List.countP_cons, List.countP_cons]
            by_cases hx : x = i
            · subst hx
              have hsame : (l.countP fun j => !(listed.setIfInBounds x true).getD j false) = l.countP fun j => !listed.getD j false :=
                List.countP_congr fun j hj => by
                  have : j ≠ x := fun e => hnd.1 (e ▸ hj)
                  rw [hci]; simp [this]
              rw [hsame, hci, hun]; simp
            · have := ihl hnd.2 ((List.mem_cons.1 hmem).resolve_left (Ne.symm hx))
              have e2 : (listed.setIfInBounds i true).getD x false = listed.getD x false := getD_set_ne false (Ne.symm hx)
              rw [e2, ← this]
              omega
        have := hcount (List.range ops.size) List.nodup_range (List.mem_range.2 hlt)
        omega
      · by_cases hki : k = i
        · subst hki
          rw [ho] at hp; cases hp
          exact getD_set_true (he e hem hb)
        · rw [getD_set_ne false (Ne.symm hki)] at hkl
          exact getD_set_true (hm.closed k p hp hkl e hem hb)
      · by_cases hd : o.dst = some t
        · by_cases hts : t < z.tmps.size
          · rw [hu t hd hts]
            have : t < a.tmps.size := by rw [hm.len]; exact hts
            simp [Act.put, hd, this]
          · have e1 : (a.put o.dst u).tmps[t]? = none := Array.getElem?_eq_none (by rw [put_size, hm.len]; exact Nat.le_of_not_lt hts)
            have e2 : z.tmps[t]? = none := Array.getElem?_eq_none (Nat.le_of_not_lt hts)
            rw [e1, e2]
        · rw [put_slot hd]
          refine hm.slots t fun j p hp hl => ?_
          by_cases hji : j = i
          · subst hji; rw [ho] at hp; cases hp; exact hd
          · exact ht j p hp (by rw [getD_set_ne false (Ne.symm hji)]; exact hl)
      · have : (fun j => (listed.setIfInBounds i true).getD j false) = addTo (fun j => listed.getD j false) i := by
          funext j
          by_cases hji : j = i
          · subst hji; simp [hlt', addTo]
          · rw [getD_set_ne false (Ne.symm hji), addTo_ne _ hji]
        rw [this]
        exact hS
    unfold wpOpIn
    simp only [ho]
    rcases hst i o ho with ⟨hw, v, hf, hv⟩ | ⟨hw, hF, hv⟩
    · rw [← ag.wanted] at hw
      rw [if_pos hw]
      unfold freeAtL at hf
      rw [← ag.exec (fun cs b => hk.sel i o cs b ho)] at hf
      have := hf _ w hm.closed hun he hm.cls
      exact free_upon hG (fun c => hk.dfr i o c ho) this fun w' hS => next v w' hv hS
    · rw [← ag.wanted] at hw
      rw [if_neg (by rw [hw]; simp)]
      exact ⟨fun f _ => hG.fn f, next undef w hv (hF _ w hun hm.cls)⟩

/-- **One walk in the order of the text serves every order.** -/
theorem wpIn_region_freeL {G : Fence} (hG : Open G) {n id : Nat} {Q : Exit → Act → World → Prop} {a : Act} {w : World} {l : List Oper} (hm : P.follows .mixedOrders = true) (hB : freeOk l.toArray = true) (S : (Nat → Bool) → World → Prop)
    (hS : S (fun _ => false) w.drew) (h : wpFreeL P l.toArray S (fun a' => ∀ L w', (∀ j, j < l.length → L j = true) → S L w' → Q .normal a' w') 0 l a) : (Code.region id l.toArray true).wpIn G n P Q a w := by
  have hk := freeOk_spec hB
  refine wpIn_region_any hm ?_
  obtain ⟨z, hQ, hd, hsz, hz, hst⟩ := wpFreeL_end hk l 0 a (by simp) h
  refine wpAny_freeL hG hk (fun j o ho => hst j o (Nat.zero_le _) ho) (fun L w' hal hS' => hQ L w' (fun j hj => hal j (l[j]) (by simp [hj])) hS') _ _ _ _ ?_ ⟨by simp, ?_, hsz.symm, hd.symm, ?_, ?_⟩
  · have : ∀ i ∈ List.range l.toArray.size, (!(Array.replicate l.toArray.size false).getD i false) = true := fun i hi => by
      have := List.mem_range.1 hi
      simp at this
      simp [this]
    rw [List.countP_eq_length.2 this, List.length_range]
  · intro i o _ hl
    exfalso
    revert hl
    simp only [Array.getD_eq_getD_getElem?, Array.getElem?_replicate]
    split <;> simp
  · intro t ht
    refine (hz t fun j o _ ho => ht j o ho ?_).symm
    simp only [Array.getD_eq_getD_getElem?, Array.getElem?_replicate]
    split <;> simp
  · have : (fun j => (Array.replicate l.toArray.size false).getD j false) = fun _ => false := by
      funext j
      simp only [Array.getD_eq_getD_getElem?, Array.getElem?_replicate]
      split <;> simp
    rw [this]
    exact hS
theorem wp_region_freeL {id : Nat} {Q : Exit → Act → World → Prop} {a : Act} {w : World} {l : List Oper} (S : (Nat → Bool) → World → Prop) (hm : P.follows .mixedOrders = true) (hB : freeOk l.toArray = true)
    (hS : S (fun _ => false) w.drew) (h : wpFreeL P l.toArray S (fun a' => ∀ L w', (∀ j, j < l.length → L j = true) → S L w' → Q .normal a' w') 0 l a) : (Code.region id l.toArray true).wp P Q a w :=
  (wpIn_wide (n := 0)).1 (wpIn_region_freeL open_wide hm hB S hS h)
end
section
variable {P : Program} {ops : Array Oper} {S : (Nat → Bool) → World → Prop} {Q : Act → Prop} {i : Nat} {o : Oper} {rest : List Oper} {a : Act} {v : Value}
theorem wpFreeL_nil (h : Q a) : wpFreeL P ops S Q i [] a := h
theorem wpFreeL_skip (hw : Region.wanted o (yielded ops a.tmps) = false) (hF : skipAtL S i) (h : ∀ K : Act → Prop, (∀ a, wpFreeL P ops S Q (i + 1) rest a → K a) → K (a.put o.dst undef)) : wpFreeL P ops S Q i (o :: rest) a := by
  unfold wpFreeL; rw [if_neg (by rw [hw]; simp)]; exact ⟨hF, h _ fun _ h => h⟩
/-- An operation that leaves the world alone. -/
theorem wpFreeL_val (hw : Region.wanted o (yielded ops a.tmps) = true) (hF : skipAtL S i)
    (h : ∀ K : Act → Prop, (∀ a, wpFreeL P ops S Q (i + 1) rest a → K a) → ∃ v, (∀ L w, S L w → (execOp a.eval o).run P w = .ok (.value v) w) ∧ K (a.put o.dst v)) : wpFreeL P ops S Q i (o :: rest) a := by
  unfold wpFreeL; rw [if_pos hw]
  obtain ⟨v, hv, hr⟩ := h _ fun _ h => h
  refine ⟨v, fun L w _ hL _ hS => ?_, hr⟩
  rw [hv L w hS]
  exact ⟨rfl, hF L w hL hS⟩
theorem wpFreeL_gen (hw : Region.wanted o (yielded ops a.tmps) = true) (h : ∀ K : Act → Prop, (∀ a, wpFreeL P ops S Q (i + 1) rest a → K a) → ∃ v, freeAtL P ops S i o a v ∧ K (a.put o.dst v)) : wpFreeL P ops S Q i (o :: rest) a := by
  unfold wpFreeL; rw [if_pos hw]; exact h _ fun _ h => h
end
end Go.Proofs.Ytcfmimfkaabmkaa
