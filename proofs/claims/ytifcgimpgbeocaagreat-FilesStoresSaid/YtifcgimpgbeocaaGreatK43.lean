/- The program's store and the reference's state side by side. -/
import Derived.Test.YtifcgimpgbeocaaGreatK50
import Derived.Test.YtifcgimpgbeocaaGreatK42
import Derived.Test.YtifcgimpgbeocaaGreatK27
import Derived.Test.YtifcgimpgbeocaaGreatK35
import Derived.Test.YtifcgimpgbeocaaGreatK6
import Derived.Test.YtifcgimpgbeocaaGreatK18
set_option linter.unusedVariables false
set_option linter.unusedSimpArgs false
namespace Go.Proofs.YtifcgimpgbeocaaGreat
open Go.RowKit
/-- Since w0: the store st of the program in S (its memory: U), the reference's state sr in block X. -/
structure Two (w0 : World) (U : Nat → Prop) (S X : Nat) (hd : Hd) (vk vn vo vp vq va : Value) (st sr : St) (w : World) : Prop where
  h : Hold w0 U S st w
  c : StC w X hd vk vn vo vp vq va
  o : ∀ k, k < 10 → OwnC w ⟨X, k, none⟩
  k : KSt (fun q => U q ∨ q = X) w (stV hd vk vn vo vp vq va) sr
  nx : ¬ U X
  ge : w0.heap.size ≤ X
variable {w0 w w1 : World} {U : Nat → Prop} {S X : Nat} {hd hd' : Hd} {vk vn vo vp vq va uk un uo up uq ua v : Value} {st sr st1 sr1 : St} {e : Ending}
theorem Two.xlt (h : Two w0 U S X hd vk vn vo vp vq va st sr w) : X < w.heap.size := World.block_lt_of_cell? _ _ h.c.1
theorem Two.lt (h : Two w0 U S X hd vk vn vo vp vq va st sr w) : ∀ q, (U q ∨ q = X) → q < w.heap.size := fun q hq => hq.elim (fun h1 => h.h.so.ult q h1) (fun h1 => by rw [h1]; exact h.xlt)
theorem Two.below (h : Two w0 U S X hd vk vn vo vp vq va st sr w) (hb : Below w.heap.size w w1) : Two w0 U S X hd vk vn vo vp vq va st sr w1 :=
  ⟨h.h.below hb, h.c.below hb, fun k hk => keepOwn hb (h.o k hk), h.k.below hb, h.nx, h.ge⟩
/-- A method of the program's store. -/
theorem Two.prog (h : Two w0 U S X hd vk vn vo vp vq va st sr w) (hp : StPost U S v st1 w e w1) : e = .returned v ∧ ∃ U', Two w0 U' S X hd vk vn vo vp vq va st1 sr w1 ∧ Frm U w w1 := by
  obtain ⟨he, U', h1, hf, hu⟩ := h.h.step hp
  have hx := h.xlt
  refine ⟨he, U', ⟨h1, h.c.frm hf h.nx, fun k hk => hf.ownc h.nx (h.o k hk), h.k.step (hf.mono fun i _ h => .inl h) (fun q hq => ?_), fun hu' => ?_, h.ge⟩, hf⟩
  · rcases hq with hq | hq
    · exact (hu q hq).imp .inl id
    · exact .inl (.inr hq)
  · rcases hu X hu' with h2 | h2
    · exact h.nx h2
    · omega
/-- The reference's state is laid anew. -/
theorem Two.ref (h : Two w0 U S X hd vk vn vo vp vq va st sr w) (hb : Below w.heap.size w w1) (hk : KSt (fun q => U q ∨ q = X) w1 (stV hd' uk un uo up uq ua) sr1) :
    Two w0 U S X hd' uk un uo up uq ua st sr1 (setSt w1 X hd' uk un uo up uq ua) := by
  have h2 := h.below hb
  have hf := setSt_frm w1 X hd' uk un uo up uq ua
  refine ⟨⟨h2.h.so.frm hf (fun k hk e => h.nx (e ▸ hk)), setSt_below h2.h.b h.ge _ _ _ _ _ _ _, h2.h.ge⟩, setSt_cells hd' uk un uo up uq ua h2.o, fun k hk => setSt_own _ _ _ _ _ _ _ (h2.o k hk), hk.step (hf.mono fun i _ e => .inr e) (fun q hq => .inl hq), h.nx, h.ge⟩
theorem doSt_snd (st : St) (o : FOp) : (doSt st o).2 = (doData st.now o).2 := by
  unfold doSt
  split <;> rfl
theorem KSt.parts {w : World} {U : Nat → Prop} {v : Value} {st : St} (h : KSt U w v st) : ∃ ok nk ck on nn cn oo no co op np cp oq nq cq oa na ca,
    v = stV st.hd (.slice ok nk ck) (.slice on nn cn) (.slice oo no co) (.slice op np cp) (.slice oq nq cq) (.slice oa na ca) ∧ KSt U w (stV st.hd (.slice ok nk ck) (.slice on nn cn) (.slice oo no co) (.slice op np cp) (.slice oq nq cq) (.slice oa na ca)) st := by
  have h0 := h
  obtain ⟨uk, un, uo, up, uq, ua, rfl, -⟩ := h
  obtain ⟨⟨o1, n1, c1, rfl⟩, ⟨o2, n2, c2, rfl⟩, ⟨o3, n3, c3, rfl⟩, ⟨o4, n4, c4, rfl⟩, ⟨o5, n5, c5, rfl⟩, ⟨o6, n6, c6, rfl⟩⟩ := h0.sl
  exact ⟨_, _, _, _, _, _, _, _, _, _, _, _, _, _, _, _, _, _, rfl, h0⟩
end Go.Proofs.YtifcgimpgbeocaaGreat
/- == at operations, writes and acts; the reference's SameOps. -/
set_option linter.unusedVariables false
set_option linter.unusedSimpArgs false
namespace Go.Proofs.YtifcgimpgbeocaaGreat
open Go.RowKit
attribute [local go_sem] Oper.semAt_some
set_option maxRecDepth 100000 in
theorem run_neqW (x y : Wt) (w : World) : (binOp .neq 92 (.agg #[.int .i64 x.1, strV x.2]) (.agg #[.int .i64 y.1, strV y.2])).run Tryz.prog w = .ok (.bool (!decide (x = y))) w := by
  obtain ⟨x0, x1⟩ := x
  obtain ⟨y0, y1⟩ := y
  rw [run_neq_struct, run_equalIn_agg (ht := by kernel_rfl) (hp := by kernel_rfl)]
  have hf : (Tryz.prog.fieldsOf 92).toList = (match Tryz.prog.underlying 92 with | some (.struct fs) => fs.toList | _ => []) := by kernel_rfl
  rw [hf, Tryz.underlying92]
  simp [go_sem, Op.eqFields, run_equalIn_string (h := Tryz.underlying9), run_equalIn_int (h := Tryz.underlying3), run_equalIn_bool (h := Tryz.underlying4)]
  by_cases h0 : x0 = y0 <;> by_cases h1 : x1 = y1 <;> simp [h0, h1]
set_option maxRecDepth 100000 in
theorem run_neqA (x y : Ac) (w : World) : (binOp .neq 77 (.agg #[.bool x.1, .int .i64 x.2.1, strV x.2.2]) (.agg #[.bool y.1, .int .i64 y.2.1, strV y.2.2])).run Tryz.prog w = .ok (.bool (!decide (x = y))) w := by
  obtain ⟨x0, x1, x2⟩ := x
  obtain ⟨y0, y1, y2⟩ := y
  rw [run_neq_struct, run_equalIn_agg (ht := by kernel_rfl) (hp := by kernel_rfl)]
  have hf : (Tryz.prog.fieldsOf 77).toList = (match Tryz.prog.underlying 77 with | some (.struct fs) => fs.toList | _ => []) := by kernel_rfl
  rw [hf, Tryz.underlying77]
  simp [go_sem, Op.eqFields, run_equalIn_string (h := Tryz.underlying9), run_equalIn_int (h := Tryz.underlying3), run_equalIn_bool (h := Tryz.underlying4)]
  by_cases h0 : x0 = y0 <;> by_cases h1 : x1 = y1 <;> by_cases h2 : x2 = y2 <;> simp [h0, h1, h2]
end Go.Proofs.YtifcgimpgbeocaaGreat
/- sameActs. -/
set_option linter.unusedVariables false
set_option linter.unusedSimpArgs false
namespace Go.Proofs.YtifcgimpgbeocaaGreat
open Go.RowKit
attribute [local go_sem] Oper.semAt_some
/-- All records ahead of k are the same. -/
def SameToA (a b : List Ac) (k : Nat) : Prop := a.take k = b.take k
theorem sameToA_succ {a b : List Ac} {k : Nat} {x y : Ac} (h : SameToA a b k) (ha : a[k]? = some x) (hb : b[k]? = some y) : SameToA a b (k + 1) ↔ x = y := by
  obtain ⟨h1, rfl⟩ := List.getElem?_eq_some_iff.1 ha
  obtain ⟨h2, rfl⟩ := List.getElem?_eq_some_iff.1 hb
  unfold SameToA at *
  rw [List.take_succ_eq_append_getElem h1, List.take_succ_eq_append_getElem h2, h, List.append_right_inj]
  simp
set_option maxHeartbeats 1000000 in
set_option maxRecDepth 100000 in
theorem lsameacts_any (a b : List Ac) (u v : Value) (w : World) (hA : RdA w u a) (hB : RdA w v b) (hl : a.length ≤ maxLen) : Calls Tryz.prog 24 #[u, v] w (Ret (.bool (decide (a = b))) w) := by
  unfold maxLen at hl
  obtain ⟨oa, ca, rfl, hca, hac⟩ := hA
  obtain ⟨ob, cb, rfl, hcb, hbc⟩ := hB
  by_cases hlen : a.length = b.length
  rotate_left
  · have e : decide (a = b) = false := by simp; rintro rfl; exact hlen rfl
    rw [e]
    have g1 : ((a.length : Int) == (b.length : Int)) = false := by rw [beq_eq_false_iff_ne]; omega
    obtain ⟨N, hN⟩ : ∃ N, a.length = N := ⟨_, rfl⟩
    obtain ⟨M, hM⟩ : ∃ M, b.length = M := ⟨_, rfl⟩
    rw [hN, hM] at g1 ⊢
    clear e hac hbc hN hM hlen hl hca hcb
    go_enter Tryz.func24, Tryz.ntmps24
    go_wp2_with fail
    go_ret
    exact ⟨rfl, Below.refl _ _⟩
  have HAC := hid hac; have HBC := hid hbc
  obtain ⟨E, hE⟩ : ∃ E, decide (a = b) = E := ⟨_, rfl⟩
  rw [hE]
  have HE := hid hE
  obtain ⟨N, hN⟩ : ∃ N, a.length = N := ⟨_, rfl⟩
  rw [← hlen] at hcb ⊢
  have hM : b.length = N := by omega
  rw [hN] at hl hca hcb ⊢
  have HN := hid hN; have HM := hid hM
  clear hac hbc hE hN hM hlen
  go_enter Tryz.func24, Tryz.ntmps24
  go_wp2_with fail
  go_loopw [13] (fun i wr => ∃ k : Nat, i = .int .i64 k ∧ k ≤ N ∧ Hid (SameToA a b k) ∧ Hid (Below w.heap.size w wr)) (fun i _ => N - (intOf i).toNat)
  case atStart => exact ⟨0, rfl, Nat.zero_le _, rfl, Below.refl _ _⟩
  case round =>
    obtain ⟨k, rfl, hk, HT, HB⟩ := hrel
    by_cases hlt : k < N
    rotate_left
    · have e : E = true := by
        have h1 := HT.out
        unfold SameToA at h1
        rw [List.take_of_length_le (by have := HN.out; omega), List.take_of_length_le (by have := HM.out; omega)] at h1
        rw [← HE.out]; simpa using h1
      subst e
      go_wp2_with fail
      go_ret
      exact ⟨rfl, HB.out⟩
    obtain ⟨x, hx⟩ : ∃ r, a[k]? = some r := ⟨_, List.getElem?_eq_getElem (by have := HN.out; omega)⟩
    obtain ⟨y, hy⟩ : ∃ r, b[k]? = some r := ⟨_, List.getElem?_eq_getElem (by have := HM.out; omega)⟩
    have hAC := HAC.out; have hBC := HBC.out
    rcases hAC with hc | ⟨b1, off1, rfl, hbl1, hac⟩
    · rw [hc] at hx; simp at hx
    rcases hBC with hc | ⟨b2, off2, rfl, hbl2, hbc⟩
    · rw [hc] at hy; simp at hy
    obtain ⟨c0, c1, c2⟩ := hac k x hx
    obtain ⟨d0, d1, d2⟩ := hbc k y hy
    have c0 := HB.out.cell (p := ⟨b1, off1 + k * 3, none⟩) hbl1 |>.trans c0
    have c1 := HB.out.cell (p := ⟨b1, off1 + k * 3 + 1, none⟩) hbl1 |>.trans c1
    have c2 := HB.out.cell (p := ⟨b1, off1 + k * 3 + 2, none⟩) hbl1 |>.trans c2
    have d0 := HB.out.cell (p := ⟨b2, off2 + k * 3, none⟩) hbl2 |>.trans d0
    have d1 := HB.out.cell (p := ⟨b2, off2 + k * 3 + 1, none⟩) hbl2 |>.trans d1
    have d2 := HB.out.cell (p := ⟨b2, off2 + k * 3 + 2, none⟩) hbl2 |>.trans d2
    have hst := sameToA_succ HT.out hx hy
    have hneq := fun w => run_neqA x y w
    have HBD := hid (fun n => below_drewN HB.out n)
    by_cases hxy : x = y
    · have HT1 := hid (hst.2 hxy)
      have e1 : decide (x = y) = true := by simpa using hxy
      rw [e1] at hneq
      clear hst hx hy hac hbc hxy e1
      go_wp2_with fail
      go_quiet (fail)
      go_wp2_with fail
      go_roundw
      case rel => exact ⟨k + 1, by go_num, by omega, HT1, HBD.out _⟩
      case measure => simp [intOf]; omega
    · have e : E = false := by
        rw [← HE.out]
        simp only [decide_eq_false_iff_not]
        rintro rfl
        rw [hx] at hy
        cases hy
        exact hxy rfl
      have e1 : decide (x = y) = false := by simpa using hxy
      rw [e1] at hneq
      subst e
      clear hst hx hy hac hbc hxy e1
      go_wp2_with fail
      go_quiet (fail)
      go_wp2_with fail
      go_ret
      exact ⟨rfl, HBD.out _⟩
end Go.Proofs.YtifcgimpgbeocaaGreat
/- The reference's SameDisk, at a disk and itself; acts from some index on. -/
set_option linter.unusedVariables false
set_option linter.unusedSimpArgs false
namespace Go.Proofs.YtifcgimpgbeocaaGreat
open Go.RowKit
attribute [local go_sem] Oper.semAt_some
set_option maxHeartbeats 4000000 in
set_option maxRecDepth 100000 in
theorem rsamedisk_self (d : Dk) (ap aq bp bq : Value) (w : World) (hap : RdS w ap d.1) (haq : RdW w aq d.2) (hbp : RdS w bp d.1) (hbq : RdW w bq d.2) (hl1 : d.1.length ≤ 1000000000) (hl2 : d.2.length ≤ 1000000000) :
    Calls Tryz.prog 10 #[.agg #[ap, aq], .agg #[bp, bq]] w (Ret (.bool true) w) := by
  obtain ⟨o1, c1, rfl, hc1, h1⟩ := hap
  obtain ⟨o2, c2, rfl, hc2, h2⟩ := haq
  obtain ⟨o3, c3, rfl, hc3, h3⟩ := hbp
  obtain ⟨o4, c4, rfl, hc4, h4⟩ := hbq
  have H1 := hid h1; have H2 := hid h2; have H3 := hid h3; have H4 := hid h4
  obtain ⟨N, hN⟩ : ∃ N, d.1.length = N := ⟨_, rfl⟩
  obtain ⟨M, hM⟩ : ∃ M, d.2.length = M := ⟨_, rfl⟩
  rw [hN] at hl1 hc1 hc3 ⊢
  rw [hM] at hl2 hc2 hc4 ⊢
  have HN := hid hN; have HM := hid hM
  obtain ⟨W, hW⟩ : ∃ W, W = (w.alloc (.cells #[.slice o1 N c1, .slice o2 M c2] 25)).alloc (.cells #[.slice o3 N c3, .slice o4 M c4] 25) := ⟨_, rfl⟩
  have hb1 := balloc (Below.refl w.heap.size w) (.cells #[.slice o1 N c1, .slice o2 M c2] 25)
  have hb2 := balloc (Below.refl (w.alloc (.cells #[.slice o1 N c1, .slice o2 M c2] 25)).heap.size (w.alloc (.cells #[.slice o1 N c1, .slice o2 M c2] 25))) (.cells #[.slice o3 N c3, .slice o4 M c4] 25)
  have HBW : Hid (Below w.heap.size w W) := by rw [hW]; exact below_step hb2 hb1
  have hs : (w.alloc (.cells #[.slice o1 N c1, .slice o2 M c2] 25)).heap.size = w.heap.size + 1 := by simp
  have a0 : W.cell? ⟨w.heap.size, 0, none⟩ = some (.slice o1 N c1) := by rw [hW]; exact keepc hb2 (cell_new _ _ _ 0 _ rfl)
  have a1 : W.cell? ⟨w.heap.size, 1, none⟩ = some (.slice o2 M c2) := by rw [hW]; exact keepc hb2 (cell_new _ _ _ 1 _ rfl)
  have b0 : W.cell? ⟨w.heap.size + 1, 0, none⟩ = some (.slice o3 N c3) := by rw [hW, ← hs]; exact cell_new _ _ _ 0 _ rfl
  have b1 : W.cell? ⟨w.heap.size + 1, 1, none⟩ = some (.slice o4 M c4) := by rw [hW, ← hs]; exact cell_new _ _ _ 1 _ rfl
  have HW := hid hW
  clear hW hb1 hb2 hs h1 h2 h3 h4 hN hM
  go_enter Tryz.func10, Tryz.ntmps10
  go_upto_region 1 with fail
  have e := HW.out
  rw [← e]
  clear e HW
  obtain ⟨Z, hZ⟩ : ∃ Z, w.heap.size = Z := ⟨_, rfl⟩
  simp only [hZ] at a0 a1 b0 b1 ⊢
  clear hZ
  have A0 := hid a0; have A1 := hid a1; have B0 := hid b0; have B1 := hid b1
  go_wp2_with fail
  go_loopw [5] (fun i wr => ∃ k : Nat, i = .int .i64 (k : Int) ∧ k ≤ N ∧ Hid (Below W.heap.size W wr)) (fun i _ => N - (intOf i).toNat)
  case atStart => exact ⟨0, rfl, Nat.zero_le _, Below.refl _ _⟩
  case round =>
    obtain ⟨k, rfl, hk, HB⟩ := hrel
    have a0 := keepc HB.out A0.out; have b0 := keepc HB.out B0.out
    by_cases hlt : k < N
    · obtain ⟨x, hx⟩ : ∃ r, d.1[k]? = some r := ⟨_, List.getElem?_eq_getElem (by have := HN.out; omega)⟩
      have hA := H1.out; have hB := H3.out
      rcases hA with hq | ⟨e1, f1, rfl, -, hA⟩
      · rw [hq] at hx; simp at hx
      rcases hB with hq | ⟨e3, f3, rfl, -, hB⟩
      · rw [hq] at hx; simp at hx
      have x0 := keepc (below_step HB.out HBW.out) (hA k x hx)
      have x1 := keepc (below_step HB.out HBW.out) (hB k x hx)
      have HBD := hid (fun n => below_drewN HB.out n)
      have hlti : (k : Int) < (N : Int) := by omega
      clear hA hB hx
      go_wp2_with fail
      go_quiet (fail)
      go_wp2_with fail
      go_roundw
      case rel => exact ⟨k + 1, by go_num, by omega, HBD.out _⟩
      case measure => simp [intOf]; omega
    · have hge : ¬ (k : Int) < (N : Int) := by omega
      have HB1 := HB
      clear HB
      obtain ⟨W1, hW1⟩ : ∃ W1, W1 = wr := ⟨_, rfl⟩
      subst hW1
      go_wp2_with fail
      go_loopw [6] (fun i wr => ∃ k : Nat, i = .int .i64 (k : Int) ∧ k ≤ M ∧ Hid (Below W.heap.size W wr)) (fun i _ => M - (intOf i).toNat)
      case atStart => exact ⟨0, rfl, Nat.zero_le _, HB1⟩
      case round =>
        obtain ⟨k, rfl, hk, HB⟩ := hrel
        have a1 := keepc HB.out A1.out; have b1 := keepc HB.out B1.out
        by_cases hlt : k < M
        · obtain ⟨x, hx⟩ : ∃ r, d.2[k]? = some r := ⟨_, List.getElem?_eq_getElem (by have := HM.out; omega)⟩
          have hA := H2.out; have hB := H4.out
          rcases hA with hq | ⟨e1, f1, rfl, -, hA⟩
          · rw [hq] at hx; simp at hx
          rcases hB with hq | ⟨e3, f3, rfl, -, hB⟩
          · rw [hq] at hx; simp at hx
          obtain ⟨x0, x1⟩ := hA k x hx
          obtain ⟨x2, x3⟩ := hB k x hx
          have x0 := keepc (below_step HB.out HBW.out) x0; have x1 := keepc (below_step HB.out HBW.out) x1
          have x2 := keepc (below_step HB.out HBW.out) x2; have x3 := keepc (below_step HB.out HBW.out) x3
          have HBD := hid (fun n => below_drewN HB.out n)
          have hneq := fun w => run_neqW x x w
          simp only [decide_true, Bool.not_true] at hneq
          have hlti : (k : Int) < (M : Int) := by omega
          clear hA hB hx
          go_wp2_with fail
          go_quiet (fail)
          go_wp2_with fail
          go_roundw
          case rel => exact ⟨k + 1, by go_num, by omega, HBD.out _⟩
          case measure => simp [intOf]; omega
        · have hge : ¬ (k : Int) < (M : Int) := by omega
          go_wp2_with fail
          go_ret
          exact ⟨rfl, below_step HB.out HBW.out⟩
theorem RdA.cut {w : World} {o o' : Option Addr} {n c m : Nat} {L : List Ac} (h : RdA w (.slice o n c) L) (hm : m ≤ L.length) (ho : ∀ b off, o = some ⟨b, off, none⟩ → m < c → o' = some ⟨b, off + m * 3, none⟩) : RdA w (.slice o' (n - m) (c - m)) (L.drop m) := by
  obtain ⟨o2, c2, e, hc, h⟩ := h
  cases e
  refine ⟨o', c - m, by rw [List.length_drop], by rw [List.length_drop]; omega, ?_⟩
  rcases h with h | ⟨b, off, e1, e2, h⟩
  · exact .inl (by rw [h]; simp)
  · rcases Nat.lt_or_ge m L.length with hlt | hge
    · refine .inr ⟨b, off + m * 3, ho b off e1 (by omega), e2, fun i r hi => ?_⟩
      rw [List.getElem?_drop] at hi
      have h3 := h (m + i) r hi
      have e : off + (m + i) * 3 = off + m * 3 + i * 3 := by omega
      rw [e] at h3
      exact h3
    · exact .inl (List.drop_of_length_le hge)
end Go.Proofs.YtifcgimpgbeocaaGreat
/- The reference's SameDisk, at any two disks. -/
set_option linter.unusedVariables false
set_option linter.unusedSimpArgs false
namespace Go.Proofs.YtifcgimpgbeocaaGreat
open Go.RowKit
attribute [local go_sem] Oper.semAt_some
end Go.Proofs.YtifcgimpgbeocaaGreat
/- Plain: a new disk; the examples that the laws begin with. -/
set_option linter.unusedVariables false
set_option linter.unusedSimpArgs false
namespace Go.Proofs.YtifcgimpgbeocaaGreat
open Go.RowKit
theorem createD_ok {n f : Int} (hn : 4 ≤ n ∧ n ≤ 4096) (hf : 1 ≤ f ∧ f ≤ 8) : createD n f = (((List.replicate n.toNat (zs 64)).set 1 (headPg (1, 0, f.toNat, 0)), []), 0) := by unfold createD; rw [if_pos ⟨hn, hf⟩]
theorem create_as {n f : Nat} (hn : 4 ≤ n ∧ n ≤ 4096) (hf : 1 ≤ f ∧ f ≤ 8) : OpenAs ((List.replicate n (zs 64)).set 1 (headPg (1, 0, f, 0)), []) (1, 0, f, 0) [] (empties f) := by
  refine ⟨isDk_mk (by simp; omega) (by simp; omega) ?_ (fun w hw => by cases hw), rfl, hdOk_mk ⟨Nat.le_refl _, rfl, by simp, hf.1, hf.2, by simp⟩, by simp, ?_, ⟨zs 64, ?_, torn_start⟩, rfl, ?_, ⟨[], rfl, rfl⟩⟩
  · intro s hs
    rcases List.mem_or_eq_of_mem_set hs with h | h
    · rw [(List.mem_replicate.1 h).2, zs_len]
    · rw [h, headPg_len]
  · show ((List.replicate n (zs 64)).set 1 (headPg (1, 0, f, 0)))[1 % 2]? = some (headPg (1, 0, f, 0))
    rw [show 1 % 2 = 1 from rfl]
    rw [List.getElem?_set_self (by simp; omega)]
  · show ((List.replicate n (zs 64)).set 1 (headPg (1, 0, f, 0)))[(1 + 1) % 2]? = some (zs 64)
    rw [show (1 + 1) % 2 = 0 from rfl]
    rw [List.getElem?_set_ne (by omega), List.getElem?_replicate, if_pos (by omega)]
  · unfold content
    exact List.take_zero
theorem create_open {n f : Int} (hn : 4 ≤ n ∧ n ≤ 4096) (hf : 1 ≤ f ∧ f ≤ 8) : OpenAs (createD n f).1 (1, 0, f.toNat, 0) [] (empties f.toNat) := by
  rw [createD_ok hn hf]
  exact create_as (by omega) (by omega)
/-! ### The examples -/
def sD : Ds := [([65], [111, 110, 101]), ([67], [116, 119, 111])]
theorem sD_is : isDs sD = true := by decide +kernel
theorem sD_read : readD sD [65] = ([111, 110, 101], 0) := by decide +kernel
theorem sD_next : nextD sD [65] = (([67], [116, 119, 111]), 0) := by decide +kernel
theorem sD_write : writeD sD ([65], [120]) = ([], 141) := by decide +kernel
def sDk : Dk := ((List.replicate 6 (zs 64)).set 1 (headPg (1, 0, 2, 0)), [])
theorem sCreate : createD 6 2 = (sDk, 0) := createD_ok (by omega) (by omega)
def sSt0 : St := ⟨sDk, (1, 0, 2, 0), [], [], [[], []], [[], []], []⟩
theorem sOpenAs : OpenAs sDk (1, 0, 2, 0) [] [[], []] := create_as (n := 6) (f := 2) (by omega) (by omega)
theorem sOpen : openD sDk = (some sSt0, 0) := open_as sOpenAs
def sOp : FOp := (3, 1, [65], [104, 105])
def sSt1 : St := ⟨sDk, (1, 0, 2, 0), [], [sOp], [[], [([65], [104, 105])]], [[], []], []⟩
theorem sDo : doSt sSt0 sOp = (sSt1, ([], []), 0) := by
  have h : doData [[], []] sOp = ([[], [([65], [104, 105])]], ([], []), 0) := by decide +kernel
  have hc : chg sOp = true := by decide +kernel
  unfold doSt
  show (if (doData [[], []] sOp).2.2 = 0 then _ else _) = _
  rw [show sSt0.now = [[], []] from rfl, h, if_pos rfl, if_pos hc]
  rfl
theorem sLive : Live sSt1 := by
  have h := do_live (live_open sOpenAs) sOp
  have e : (⟨sDk, (1, 0, 2, 0), [], [], [[], []], [[], []], []⟩ : St) = sSt0 := rfl
  rw [e, sDo] at h
  exact h
theorem sCommit : (commitD sSt1).2 = 0 := by decide +kernel
theorem sActs : ∃ q p1 q1 s2 q2 p3 q3, (commitD sSt1).1.acts = [(false, 2, q), (true, p1, q1), (s2, 0, q2), (true, p3, q3)] ∧ q.length = 64 ∧ q.take 8 = [3, 1, 1, 65, 2, 104, 105, 0] := by
  have h : (commitD sSt1).1.acts = [(false, 2, pageOf (encL [sOp]) 0), (true, 0, []), (false, 0, headPg (2, 0, 2, 7)), (true, 0, [])] := by decide +kernel
  exact ⟨_, _, _, _, _, _, _, h, by decide +kernel, by decide +kernel⟩
theorem sPage : ((sDk.1[1]?).getD []).length = 64 ∧ ((sDk.1[1]?).getD []).take 8 = [0, 0, 0, 1, 0, 2, 0, 0] := by decide +kernel
theorem sDecode : decodeD [5, 0, 1] = ([], 145) := by
  decide +kernel
end Go.Proofs.YtifcgimpgbeocaaGreat
