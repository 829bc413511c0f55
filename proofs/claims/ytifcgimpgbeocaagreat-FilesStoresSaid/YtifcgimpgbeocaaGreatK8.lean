/- slices.ContainsFunc and slices.IndexFunc with the program's own closures. -/
import Derived.Test.YtifcgimpgbeocaaGreatK7
import Derived.Test.YtifcgimpgbeocaaGreatK3
set_option linter.unusedVariables false
set_option linter.unusedSimpArgs false
namespace Go.Proofs.YtifcgimpgbeocaaGreat
open Go.RowKit
attribute [local go_sem] Oper.semAt_some
def idxOf {α : Type} (p : α → Bool) (l : List α) : Int := match l.findIdx? p with | some i => (i : Int) | none => -1
theorem idxOf_none {α : Type} {p : α → Bool} {l : List α} (h : l.any p = false) : idxOf p l = -1 := by
  unfold idxOf
  have : l.findIdx? p = none := by rw [List.findIdx?_eq_none_iff]; intro x hx; simpa using (List.any_eq_false.1 h x hx)
  rw [this]
theorem idxOf_at {α : Type} {p : α → Bool} {l : List α} {k : Nat} {x : α} (h : (l.take k).any p = false) (hx : l[k]? = some x) (hp : p x = true) : idxOf p l = (k : Int) := by
  obtain ⟨hk, rfl⟩ := List.getElem?_eq_some_iff.1 hx
  unfold idxOf
  have : l.findIdx? p = some k := by
    rw [List.findIdx?_eq_some_iff_getElem]
    refine ⟨hk, hp, fun j hj => ?_⟩
    have := List.any_eq_false.1 h l[j] (List.mem_take_iff_getElem.2 ⟨j, by omega, rfl⟩)
    simpa using this
  rw [this]
theorem any_step {α : Type} {p : α → Bool} {l : List α} {k : Nat} {x : α} (h : (l.take k).any p = false) (hx : l[k]? = some x) (hp : p x = false) : (l.take (k + 1)).any p = false := by
  rw [List.take_add_one, hx, List.any_append, h]; simp [hp]
theorem idxOf_sign {α : Type} (p : α → Bool) (l : List α) : decide (0 ≤ idxOf p l) = l.any p := by
  cases h : l.any p with
  | false => rw [idxOf_none h]; rfl
  | true =>
    obtain ⟨x, hx, hp⟩ := List.any_eq_true.1 h
    unfold idxOf
    cases e : l.findIdx? p with
    | none => rw [List.findIdx?_eq_none_iff] at e; have := e x hx; rw [hp] at this; cases this
    | some i => simp
theorem cl_S (x : Bs) (w : World) : Calls Tryz.prog 77 #[strV x] w (Ret (.bool (x.length != 64)) w) := by
  obtain ⟨q, hq⟩ : ∃ q, (x.length != 64) = q := ⟨_, rfl⟩
  have g : ((x.length : Int) != 64) = q := by
    rw [← hq]; cases e : (x.length != 64) <;> simp_all <;> omega
  rw [hq]
  clear hq
  go_enter Tryz.func77, Tryz.ntmps77
  go_wp2_with fail
  go_ret
  exact ⟨rfl, Below.refl _ _⟩
set_option maxRecDepth 100000 in
theorem idxS_any (l : List Bs) (v : Value) (w : World) (hR : RdS w v l) (hl : l.length ≤ 1000000000) :
    Calls Tryz.prog 110 #[v, .func (.func 77) #[] #[]] w (Ret (.int .i64 (idxOf (fun x : Bs => x.length != 64) l)) w) := by
  obtain ⟨o, cap, rfl, hcap, hc⟩ := hR
  have HC := hid hc

  obtain ⟨N, hN⟩ : ∃ N, l.length = N := ⟨_, rfl⟩
  obtain ⟨p, hp⟩ : ∃ p, (fun x : Bs => x.length != 64) = p := ⟨_, rfl⟩
  have HP := hid hp
  obtain ⟨E, hE⟩ : ∃ E, idxOf (fun x : Bs => x.length != 64) l = E := ⟨_, rfl⟩
  rw [hN] at hl hcap ⊢
  rw [hE]
  rw [hp] at hE
  have HN := hid hN; have HE := hid hE
  clear hN hc hE hp
  go_enter Tryz.func110, Tryz.ntmps110
  go_wp2_with fail
  go_loopw [8] (fun i wr => ∃ k : Nat, i = .int .i64 k ∧ k ≤ N ∧ Hid ((l.take k).any p = false) ∧ Hid (Below w.heap.size w wr)) (fun i _ => N - (intOf i).toNat)
  case atStart => exact ⟨0, rfl, Nat.zero_le _, rfl, Below.refl _ _⟩
  case round =>
    obtain ⟨k, rfl, hk, HT, HB⟩ := hrel
    by_cases hlt : k < N
    rotate_left
    · have HEE : Hid (E = -1) := by
        show _ = _
        rw [← HE.out]
        refine idxOf_none ?_
        have h := HT.out
        rw [List.take_of_length_le (by have := HN.out; omega)] at h
        exact h
      go_wp2_with fail
      go_ret
      exact ⟨ret_int HEE.out.symm, HB.out⟩
    obtain ⟨x, hr⟩ : ∃ x, l[k]? = some x := ⟨_, List.getElem?_eq_getElem (by have := HN.out; omega)⟩
    have hHC := HC.out
    rcases hHC with hc | ⟨b, off, rfl, hbl, hc⟩
    · rw [hc] at hr; simp at hr
    obtain c0 := hc k x hr
    have c0 := HB.out.cell (p := ⟨b, off + k, none⟩) hbl |>.trans c0
    have HAT := hid (cl_S x wr)
    obtain ⟨q, hq⟩ : ∃ q, p x = q := ⟨_, rfl⟩
    have hpx : ((fun x : Bs => x.length != 64) x) = p x := by rw [HP.out]
    simp only at hpx
    rw [hpx, hq] at HAT
    cases q with
    | false =>
      have HT1 := hid (any_step HT.out hr hq)
      clear hc hr HT hq hpx
      go_wp2_with fail
      refine (HAT.out).mono ?_
      rintro e w2 ⟨rfl, hb2⟩
      have HB2 := hid (HB.out.trans (hb2.mono HB.out.size))
      clear hb2
      go_wp2_with fail
      go_roundw
      case rel => exact ⟨k + 1, by go_num, by omega, HT1, HB2⟩
      case measure => simp [intOf]; omega
    | true =>
      have HEE : Hid (E = (k : Int)) := by
        show _ = _
        rw [← HE.out]
        exact idxOf_at HT.out hr hq
      clear hc hr HT hq hpx
      go_wp2_with fail
      refine (HAT.out).mono ?_
      rintro e w2 ⟨rfl, hb2⟩
      have HB2 := hid (HB.out.trans (hb2.mono HB.out.size))
      clear hb2
      go_wp2_with fail
      go_ret
      exact ⟨ret_int HEE.out.symm, HB2.out⟩
theorem hasS_any (l : List Bs) (v : Value) (w : World) (hR : RdS w v l) (hl : l.length ≤ 1000000000) :
    Calls Tryz.prog 76 #[v, .func (.func 77) #[] #[]] w (Ret (.bool (l.any (fun x : Bs => x.length != 64))) w) := by
  have HI := hid (idxS_any l v w hR hl)
  rw [← idxOf_sign]
  obtain ⟨E, hE⟩ : ∃ E, idxOf (fun x : Bs => x.length != 64) l = E := ⟨_, rfl⟩
  rw [hE] at HI ⊢
  obtain ⟨q, hq⟩ : ∃ q, decide (0 ≤ E) = q := ⟨_, rfl⟩
  rw [hq]
  clear hE
  obtain ⟨o, cap, rfl, -, -⟩ := hR
  go_enter Tryz.func76, Tryz.ntmps76
  go_wp2_with fail
  refine (HI.out).mono ?_
  rintro e w2 ⟨rfl, hb2⟩
  have HB2 := hid hb2
  clear hb2
  go_wp2_with fail
  go_ret
  exact ⟨rfl, HB2.out⟩
theorem cl_W (x : Wt) (X : Nat) (vp : Value) (n : Nat) (hvp : ∃ o c, vp = .slice o n c) (w : World) (hX : w.cell? ⟨X, 0, none⟩ = some vp) : Calls Tryz.prog 79 #[wtV x, .pointer (some ⟨X, 0, none⟩)] w (Ret (.bool (!isWt n x)) w) := by
  obtain ⟨o, c, rfl⟩ := hvp
  obtain ⟨a, s⟩ := x
  have hX := keepc ((Below.refl w.heap.size w).alloc (Nat.le_refl _) (.cells #[.int .i64 a, strV s] 92)) hX
  have HB := hid ((Below.refl w.heap.size w).alloc (Nat.le_refl _) (.cells #[.int .i64 a, strV s] 92))
  by_cases h1 : a < 0
  · have hr : isWt n (a, s) = false := by unfold isWt; simp; omega
    have g1 : decide (a < 0) = true := by simpa using h1
    rw [hr]
    clear hr h1
    go_enter Tryz.func79, Tryz.ntmps79
    go_wp2_with fail
    go_ret
    exact ⟨rfl, HB.out⟩
  have g1 : decide (a < 0) = false := by simp; omega
  by_cases h2 : (n : Int) ≤ a
  · have hr : isWt n (a, s) = false := by unfold isWt; simp; omega
    have g2 : decide ((n : Int) ≤ a) = true := by simpa using h2
    rw [hr]
    clear hr h1
    go_enter Tryz.func79, Tryz.ntmps79
    go_wp2_with fail
    go_ret
    exact ⟨rfl, HB.out⟩
  have g2 : decide ((n : Int) ≤ a) = false := by simp; omega
  by_cases h3 : s.length = 64
  · have hr : isWt n (a, s) = true := by unfold isWt; simp; omega
    have g3 : ((s.length : Int) != 64) = false := by simp; omega
    rw [hr]
    clear hr h1 h2 h3
    go_enter Tryz.func79, Tryz.ntmps79
    go_wp2_with fail
    go_ret
    exact ⟨rfl, HB.out⟩
  · have hr : isWt n (a, s) = false := by unfold isWt; simp [h3]
    have g3 : ((s.length : Int) != 64) = true := by simp; omega
    rw [hr]
    clear hr h1 h2 h3
    go_enter Tryz.func79, Tryz.ntmps79
    go_wp2_with fail
    go_ret
    exact ⟨rfl, HB.out⟩
set_option maxRecDepth 100000 in
theorem idxW_any (l : List Wt) (v : Value) (X : Nat) (vp : Value) (n : Nat) (hvp : ∃ o c, vp = .slice o n c) (w : World) (hR : RdW w v l) (hX : w.cell? ⟨X, 0, none⟩ = some vp) (hl : l.length ≤ 1000000000) :
    Calls Tryz.prog 111 #[v, .func (.func 79) #[] #[.pointer (some ⟨X, 0, none⟩)]] w (Ret (.int .i64 (idxOf (fun x : Wt => !isWt n x) l)) w) := by
  obtain ⟨o, cap, rfl, hcap, hc⟩ := hR
  have HC := hid hc
  have HX := hid hX
  obtain ⟨N, hN⟩ : ∃ N, l.length = N := ⟨_, rfl⟩
  obtain ⟨p, hp⟩ : ∃ p, (fun x : Wt => !isWt n x) = p := ⟨_, rfl⟩
  have HP := hid hp
  obtain ⟨E, hE⟩ : ∃ E, idxOf (fun x : Wt => !isWt n x) l = E := ⟨_, rfl⟩
  rw [hN] at hl hcap ⊢
  rw [hE]
  rw [hp] at hE
  have HN := hid hN; have HE := hid hE
  clear hN hc hE hp hX
  go_enter Tryz.func111, Tryz.ntmps111
  go_wp2_with fail
  go_loopw [8] (fun i wr => ∃ k : Nat, i = .int .i64 k ∧ k ≤ N ∧ Hid ((l.take k).any p = false) ∧ Hid (Below w.heap.size w wr)) (fun i _ => N - (intOf i).toNat)
  case atStart => exact ⟨0, rfl, Nat.zero_le _, rfl, Below.refl _ _⟩
  case round =>
    obtain ⟨k, rfl, hk, HT, HB⟩ := hrel
    by_cases hlt : k < N
    rotate_left
    · have HEE : Hid (E = -1) := by
        show _ = _
        rw [← HE.out]
        refine idxOf_none ?_
        have h := HT.out
        rw [List.take_of_length_le (by have := HN.out; omega)] at h
        exact h
      go_wp2_with fail
      go_ret
      exact ⟨ret_int HEE.out.symm, HB.out⟩
    obtain ⟨x, hr⟩ : ∃ x, l[k]? = some x := ⟨_, List.getElem?_eq_getElem (by have := HN.out; omega)⟩
    have hHC := HC.out
    rcases hHC with hc | ⟨b, off, rfl, hbl, hc⟩
    · rw [hc] at hr; simp at hr
    obtain ⟨c0, c1⟩ := hc k x hr
    have c0 := HB.out.cell (p := ⟨b, off + k * 2, none⟩) hbl |>.trans c0
    have c1 := HB.out.cell (p := ⟨b, off + k * 2 + 1, none⟩) hbl |>.trans c1
    have HAT := hid (cl_W x X vp n hvp wr (keepc HB.out HX.out))
    obtain ⟨q, hq⟩ : ∃ q, p x = q := ⟨_, rfl⟩
    have hpx : ((fun x : Wt => !isWt n x) x) = p x := by rw [HP.out]
    simp only at hpx
    rw [hpx, hq] at HAT
    cases q with
    | false =>
      have HT1 := hid (any_step HT.out hr hq)
      clear hc hr HT hq hpx
      go_wp2_with fail
      refine (HAT.out).mono ?_
      rintro e w2 ⟨rfl, hb2⟩
      have HB2 := hid (HB.out.trans (hb2.mono HB.out.size))
      clear hb2
      go_wp2_with fail
      go_roundw
      case rel => exact ⟨k + 1, by go_num, by omega, HT1, HB2⟩
      case measure => simp [intOf]; omega
    | true =>
      have HEE : Hid (E = (k : Int)) := by
        show _ = _
        rw [← HE.out]
        exact idxOf_at HT.out hr hq
      clear hc hr HT hq hpx
      go_wp2_with fail
      refine (HAT.out).mono ?_
      rintro e w2 ⟨rfl, hb2⟩
      have HB2 := hid (HB.out.trans (hb2.mono HB.out.size))
      clear hb2
      go_wp2_with fail
      go_ret
      exact ⟨ret_int HEE.out.symm, HB2.out⟩
theorem hasW_any (l : List Wt) (v : Value) (X : Nat) (vp : Value) (n : Nat) (hvp : ∃ o c, vp = .slice o n c) (w : World) (hR : RdW w v l) (hX : w.cell? ⟨X, 0, none⟩ = some vp) (hl : l.length ≤ 1000000000) :
    Calls Tryz.prog 78 #[v, .func (.func 79) #[] #[.pointer (some ⟨X, 0, none⟩)]] w (Ret (.bool (l.any (fun x : Wt => !isWt n x))) w) := by
  have HI := hid (idxW_any l v X vp n hvp w hR hX hl)
  rw [← idxOf_sign]
  obtain ⟨E, hE⟩ : ∃ E, idxOf (fun x : Wt => !isWt n x) l = E := ⟨_, rfl⟩
  rw [hE] at HI ⊢
  obtain ⟨q, hq⟩ : ∃ q, decide (0 ≤ E) = q := ⟨_, rfl⟩
  rw [hq]
  clear hE
  obtain ⟨o, cap, rfl, -, -⟩ := hR
  go_enter Tryz.func78, Tryz.ntmps78
  go_wp2_with fail
  refine (HI.out).mono ?_
  rintro e w2 ⟨rfl, hb2⟩
  have HB2 := hid hb2
  clear hb2
  go_wp2_with fail
  go_ret
  exact ⟨rfl, HB2.out⟩
end Go.Proofs.YtifcgimpgbeocaaGreat
