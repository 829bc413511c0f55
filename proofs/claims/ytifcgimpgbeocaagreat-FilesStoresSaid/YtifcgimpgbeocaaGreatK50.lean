/- Ground of the reference's Commit: the state in block O between two acts; pages. -/
import Derived.Test.YtifcgimpgbeocaaGreatK33
import Derived.Test.YtifcgimpgbeocaaGreatK40
import Derived.Test.YtifcgimpgbeocaaGreatK18
set_option linter.unusedVariables false
set_option linter.unusedSimpArgs false
namespace Go.Proofs.YtifcgimpgbeocaaGreat
open Go.RowKit
attribute [local go_sem] Oper.semAt_some
/-- What the reference's Commit leaves. -/
def RetCo (U : Nat → Prop) (r : St × Int) (w : World) (e : Ending) (w' : World) : Prop := ∃ v, e = .returned (.tuple #[v, .int .i64 r.2]) ∧ KSt U w' v r.1 ∧ Below w.heap.size w w'
theorem HdB.frm {w w' : World} {Z : Nat} {h : Hd} {F : Nat → Prop} (k : HdB w Z h) (hf : Frm F w w') (hF : ¬ F Z) : HdB w' Z h := by
  obtain ⟨h0, h1, h2, h3, hz⟩ := k
  have hZ := World.block_lt_of_cell? _ _ h0
  exact ⟨hf.cell hF h0, hf.cell hF h1, hf.cell hF h2, hf.cell hF h3, fun j hj => (frozen_at (hf.block Z hZ hF)).trans (hz j hj)⟩
theorem StC.frm {w w' : World} {h : Hd} {vk vn vo vp vq va : Value} {Y : Nat} {F : Nat → Prop} (k : StC w Y h vk vn vo vp vq va) (hf : Frm F w w') (hF : ¬ F Y) : StC w' Y h vk vn vo vp vq va := by
  obtain ⟨k0, k1, k2, k3, k4, k5, k6, k7, k8, k9⟩ := k
  exact ⟨hf.cell hF k0, hf.cell hF k1, hf.cell hF k2, hf.cell hF k3, hf.cell hF k4, hf.cell hF k5, hf.cell hF k6, hf.cell hF k7, hf.cell hF k8, hf.cell hF k9⟩
/-- The state st' in block O, the new head in block H, since w. -/
structure OutI (UO : Nat → Prop) (w : World) (S Y O H : Nat) (nh hd : Hd) (vk vn vo vp vq va : Value) (st' : St) (x : World) : Prop where
  c : StC x O hd vk vn vo vp vq va
  o : ∀ k, k < 10 → OwnC x ⟨O, k, none⟩
  k : KSt UO x (stV hd vk vn vo vp vq va) st'
  b : Below w.heap.size w x
  sz : S ≤ x.heap.size
  hh : HdB x H nh
  y : ∀ k, k < 10 → OwnC x ⟨Y, k, none⟩
theorem OutI.below {UO : Nat → Prop} {w x y : World} {S Y O H : Nat} {nh hd : Hd} {vk vn vo vp vq va : Value} {st' : St} (h : OutI UO w S Y O H nh hd vk vn vo vp vq va st' x) (hb : Below x.heap.size x y) : OutI UO w S Y O H nh hd vk vn vo vp vq va st' y :=
  ⟨h.c.below hb, fun k hk => keepOwn hb (h.o k hk), h.k.below hb, below_step hb h.b, Nat.le_trans h.sz hb.size, h.hh.below hb, fun k hk => keepOwn hb (h.y k hk)⟩
theorem OutI.store {UO : Nat → Prop} {w x y : World} {S Y O H : Nat} {nh hd : Hd} {vk vn vo vp vq va uk un uo up uq ua : Value} {st' st2 : St} (h : OutI UO w S Y O H nh hd vk vn vo vp vq va st' x) (hb : Below x.heap.size x y) (hk : KSt UO y (stV hd uk un uo up uq ua) st2)
    (hO : w.heap.size ≤ O) (hU : UO O) (hH : O ≠ H) (hY : Y ≠ O) : OutI UO w S Y O H nh hd uk un uo up uq ua st2 (setSt y O hd uk un uo up uq ua) := by
  have h2 := h.below hb
  have hf := setSt_frm y O hd uk un uo up uq ua
  refine ⟨setSt_cells hd uk un uo up uq ua h2.o, fun k hk => setSt_own _ _ _ _ _ _ _ (h2.o k hk), hk.step (hf.mono fun i _ e => by rw [e]; exact hU) (fun k hk => .inl hk), setSt_below h2.b hO _ _ _ _ _ _ _, Nat.le_trans h2.sz hf.size, h2.hh.frm hf (fun e => hH e.symm), fun k hk => hf.ownc hY (h2.y k hk)⟩
theorem fin_cells {w : World} {O : Nat} {h nh : Hd} {vk vn vo vp vq va : Value} (c : StC w O h vk vn vo vp vq va) :
    StC ((((((w.setCell ⟨O, 0, none⟩ (.int .i64 nh.1)).setCell ⟨O, 1, none⟩ (.int .i64 nh.2.1)).setCell ⟨O, 2, none⟩ (.int .i64 nh.2.2.1)).setCell ⟨O, 3, none⟩ (.int .i64 nh.2.2.2)).setCell ⟨O, 4, none⟩ vn).setCell ⟨O, 6, none⟩ nilS) O nh vn vn nilS vp vq va := by
  obtain ⟨k0, k1, k2, k3, k4, k5, k6, k7, k8, k9⟩ := c
  have hs : ∀ (k i : Nat) (w' : World) (v : Value), (∃ x, w'.cell? ⟨O, k, none⟩ = some x) → ∃ x, (w'.setCell ⟨O, i, none⟩ v).cell? ⟨O, k, none⟩ = some x := fun k i w' v ⟨x, hx⟩ => cell?_setCell_some hx
  have hc : ∀ (k : Nat) (w' : World) (v : Value), (∃ x, w'.cell? ⟨O, k, none⟩ = some x) → (w'.setCell ⟨O, k, none⟩ v).cell? ⟨O, k, none⟩ = some v := fun k w' v ⟨x, hx⟩ => World.cell?_setCell_same _ _ _ hx
  refine ⟨?_, ?_, ?_, ?_, ?_, ?_, ?_, ?_, ?_, ?_⟩
  · rw [setY _ _ _ _ _ (by decide), setY _ _ _ _ _ (by decide), setY _ _ _ _ _ (by decide), setY _ _ _ _ _ (by decide), setY _ _ _ _ _ (by decide)]
    exact hc _ _ _ ⟨_, k0⟩
  · rw [setY _ _ _ _ _ (by decide), setY _ _ _ _ _ (by decide), setY _ _ _ _ _ (by decide), setY _ _ _ _ _ (by decide)]
    exact hc _ _ _ (hs _ _ _ _ ⟨_, k1⟩)
  · rw [setY _ _ _ _ _ (by decide), setY _ _ _ _ _ (by decide), setY _ _ _ _ _ (by decide)]
    exact hc _ _ _ (hs _ _ _ _ (hs _ _ _ _ ⟨_, k2⟩))
  · rw [setY _ _ _ _ _ (by decide), setY _ _ _ _ _ (by decide)]
    exact hc _ _ _ (hs _ _ _ _ (hs _ _ _ _ (hs _ _ _ _ ⟨_, k3⟩)))
  · rw [setY _ _ _ _ _ (by decide)]
    exact hc _ _ _ (hs _ _ _ _ (hs _ _ _ _ (hs _ _ _ _ (hs _ _ _ _ ⟨_, k4⟩))))
  · rw [setY _ _ _ _ _ (by decide), setY _ _ _ _ _ (by decide), setY _ _ _ _ _ (by decide), setY _ _ _ _ _ (by decide), setY _ _ _ _ _ (by decide), setY _ _ _ _ _ (by decide)]
    exact k5
  · exact hc _ _ _ (hs _ _ _ _ (hs _ _ _ _ (hs _ _ _ _ (hs _ _ _ _ (hs _ _ _ _ ⟨_, k6⟩)))))
  · rw [setY _ _ _ _ _ (by decide), setY _ _ _ _ _ (by decide), setY _ _ _ _ _ (by decide), setY _ _ _ _ _ (by decide), setY _ _ _ _ _ (by decide), setY _ _ _ _ _ (by decide)]
    exact k7
  · rw [setY _ _ _ _ _ (by decide), setY _ _ _ _ _ (by decide), setY _ _ _ _ _ (by decide), setY _ _ _ _ _ (by decide), setY _ _ _ _ _ (by decide), setY _ _ _ _ _ (by decide)]
    exact k8
  · rw [setY _ _ _ _ _ (by decide), setY _ _ _ _ _ (by decide), setY _ _ _ _ _ (by decide), setY _ _ _ _ _ (by decide), setY _ _ _ _ _ (by decide), setY _ _ _ _ _ (by decide)]
    exact k9
/-- The page that the reference lays down. -/
theorem page_ref {s : Bs} {i : Nat} (h : i * 64 < s.length) : (s.drop (i * 64)).take (min s.length ((i + 1) * 64) - i * 64) ++ zs (64 - ((s.drop (i * 64)).take (min s.length ((i + 1) * 64) - i * 64)).length) = pageOf s i ∧
    ((s.drop (i * 64)).take (min s.length ((i + 1) * 64) - i * 64)).length ≤ 64 := by
  have hl : ((s.drop (i * 64)).take (min s.length ((i + 1) * 64) - i * 64)).length = min s.length ((i + 1) * 64) - i * 64 := by
    rw [List.length_take, List.length_drop]; omega
  refine ⟨?_, by rw [hl]; omega⟩
  rw [hl]
  unfold pageOf pad
  rw [List.drop_append, List.take_append, List.length_drop]
  have e1 : (s.drop (i * 64)).take (min s.length ((i + 1) * 64) - i * 64) = (s.drop (i * 64)).take 64 := by
    rcases Nat.lt_or_ge s.length ((i + 1) * 64) with h1 | h1
    · rw [Nat.min_eq_left (by omega), List.take_of_length_le (by rw [List.length_drop]; omega), List.take_of_length_le (by rw [List.length_drop]; omega)]
    · rw [Nat.min_eq_right h1, show (i + 1) * 64 - i * 64 = 64 by omega]
  rw [e1]
  congr 1
  unfold zs
  rw [show i * 64 - s.length = 0 by omega, List.drop_zero, List.take_replicate]
  congr 1
  unfold pgs
  omega
theorem KSt.sl {U : Nat → Prop} {w : World} {hd : Hd} {vk vn vo vp vq va : Value} {st : St} (h : KSt U w (stV hd vk vn vo vp vq va) st) :
    (∃ o n c, vk = .slice o n c) ∧ (∃ o n c, vn = .slice o n c) ∧ (∃ o n c, vo = .slice o n c) ∧ (∃ o n c, vp = .slice o n c) ∧ (∃ o n c, vq = .slice o n c) ∧ (∃ o n c, va = .slice o n c) := by
  obtain ⟨uk, un, uo, up, uq, ua, e, h1, h2, h3, h4, h5, h6⟩ := h
  have e2 := fun (i : Nat) => congrArg (fun (v : Value) => match v with | Value.agg a => a[i]? | _ => none) e
  have q4 := e2 4; have q5 := e2 5; have q6 := e2 6; have q7 := e2 7; have q8 := e2 8; have q9 := e2 9
  simp at q4 q5 q6 q7 q8 q9
  subst q4; subst q5; subst q6; subst q7; subst q8; subst q9
  obtain ⟨o1, c1, e1, -⟩ := h1.now
  obtain ⟨o2, c2, e2, -⟩ := h2.now
  obtain ⟨o3, c3, e3, -⟩ := h3.now
  obtain ⟨o4, c4, e4, -⟩ := h4.now
  obtain ⟨o5, c5, e5, -⟩ := h5.now
  obtain ⟨o6, c6, e6, -⟩ := h6.now
  exact ⟨⟨_, _, _, e1⟩, ⟨_, _, _, e2⟩, ⟨_, _, _, e3⟩, ⟨_, _, _, e4⟩, ⟨_, _, _, e5⟩, ⟨_, _, _, e6⟩⟩
theorem KSt.pc {U : Nat → Prop} {w : World} {hd : Hd} {vk vn vo vp vq va : Value} {st : St} (h : KSt U w (stV hd vk vn vo vp vq va) st) : Keep U w (fun x => RdD x vk st.kept) ∧ Keep U w (fun x => RdD x vn st.now) ∧ Keep U w (fun x => RdO x vo st.ops) ∧
    Keep U w (fun x => RdS x vp st.dk.1) ∧ Keep U w (fun x => RdW x vq st.dk.2) ∧ Keep U w (fun x => RdA x va st.acts) := by
  obtain ⟨uk, un, uo, up, uq, ua, e, h1, h2, h3, h4, h5, h6⟩ := h
  have e2 := fun (i : Nat) => congrArg (fun (v : Value) => match v with | Value.agg a => a[i]? | _ => none) e
  have q4 := e2 4; have q5 := e2 5; have q6 := e2 6; have q7 := e2 7; have q8 := e2 8; have q9 := e2 9
  simp at q4 q5 q6 q7 q8 q9
  subst q4; subst q5; subst q6; subst q7; subst q8; subst q9
  exact ⟨h1, h2, h3, h4, h5, h6⟩
theorem actsSt_one (st : St) (a : Ac) : actsSt st [a] = actSt st a := by unfold actsSt actSt; simp
/-- What lasts from act to act. -/
def SOk (n m c : Nat) (hd : Hd) (now : List Ds) (s : St) : Prop := isDk s.dk = true ∧ s.dk.1.length = n ∧ s.dk.2.length ≤ m ∧ s.acts.length ≤ c ∧ s.hd = hd ∧ s.now = now
theorem SOk.act {n m c : Nat} {hd : Hd} {now : List Ds} {s : St} {a : Ac} (h : SOk n m c hd now s) (ha : isAct s.dk a = true) : SOk n (m + 1) (c + 1) hd now (actSt s a) := by
  obtain ⟨h1, h2, h3, h4, h5, h6⟩ := h
  refine ⟨act_isDk h1 ha, (fold_len [a] s.dk).trans h2, ?_, ?_, h5, h6⟩
  · have := fold_wait [a] s.dk
    simp only [List.foldl_cons, List.foldl_nil, List.length_singleton] at this
    show (actDk s.dk a).2.length ≤ m + 1
    omega
  · show (s.acts ++ [a]).length ≤ c + 1
    rw [List.length_append]
    simpa using h4
/-- A state that the reference returns, taken to pieces. -/
theorem RetSt.parts {U : Nat → Prop} {w w' : World} {st : St} {hd : Hd} {e : Ending} (h : RetSt U st w e w') (hh : st.hd = hd) : ∃ ok nk ck on nn cn oo no co op np cp oq nq cq oa na ca,
    e = .returned (stV hd (.slice ok nk ck) (.slice on nn cn) (.slice oo no co) (.slice op np cp) (.slice oq nq cq) (.slice oa na ca)) ∧ KSt U w' (stV hd (.slice ok nk ck) (.slice on nn cn) (.slice oo no co) (.slice op np cp) (.slice oq nq cq) (.slice oa na ca)) st ∧ Below w.heap.size w w' := by
  subst hh
  obtain ⟨v, rfl, hk, hb⟩ := h
  have hk0 := hk
  obtain ⟨uk, un, uo, up, uq, ua, rfl, h1, h2, h3, h4, h5, h6⟩ := hk
  obtain ⟨⟨o1, n1, c1, rfl⟩, ⟨o2, n2, c2, rfl⟩, ⟨o3, n3, c3, rfl⟩, ⟨o4, n4, c4, rfl⟩, ⟨o5, n5, c5, rfl⟩, ⟨o6, n6, c6, rfl⟩⟩ := hk0.sl
  exact ⟨_, _, _, _, _, _, _, _, _, _, _, _, _, _, _, _, _, _, rfl, hk0, hb⟩
theorem layK_dk {d : Dk} {n lg fr k : Nat} {s : Bs} (hd : isDk d = true) (hn : d.1.length = n) (hlg : lg ≤ 1) (hs : s.length ≤ 64 * halfN n) : isDk ((((layW n lg fr s).take k).map wrA).foldl actDk d) = true := by
  have hdl := isDk_len hd
  refine fold_dk _ _ hd fun a ha e he => ?_
  obtain ⟨x, hx, rfl⟩ := List.mem_map.1 ha
  obtain ⟨j, hj⟩ := List.getElem?_of_mem (List.mem_of_mem_take hx)
  obtain ⟨h1, rfl⟩ := layW_get hj
  exact isAct_wr (fr := fr) (by omega) hlg (by omega) hs (he.trans hn)
end Go.Proofs.YtifcgimpgbeocaaGreat
