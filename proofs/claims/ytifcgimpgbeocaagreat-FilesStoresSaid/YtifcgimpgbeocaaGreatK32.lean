/- The reference's Open. -/
import Derived.Test.YtifcgimpgbeocaaGreatK17
import Derived.Test.YtifcgimpgbeocaaGreatK18
import Derived.Test.YtifcgimpgbeocaaGreatK31
import Derived.Test.YtifcgimpgbeocaaGreatK26
set_option linter.unusedVariables false
set_option linter.unusedSimpArgs false
namespace Go.Proofs.YtifcgimpgbeocaaGreat
open Go.RowKit
attribute [local go_sem] Oper.semAt_some
theorem HdB.newH (w : World) (h : Hd) : HdB (w.alloc (.cells #[.int .i64 h.1, .int .i64 h.2.1, .int .i64 h.2.2.1, .int .i64 h.2.2.2] 34)) w.heap.size h :=
  ⟨cell_new _ _ _ 0 _ rfl, cell_new _ _ _ 1 _ rfl, cell_new _ _ _ 2 _ rfl, cell_new _ _ _ 3 _ rfl, fun j _ => by unfold World.frozen?; rw [heap_alloc_new]; simp⟩
abbrev nilS : Value := .slice none 0 0
/-- What the reference's Open leaves. -/
def RetOpenR (U : Nat → Prop) (r : Option St × Int) (w : World) (e : Ending) (w' : World) : Prop :=
  Below w.heap.size w w' ∧ (∀ st, r.1 = some st → ∃ v, e = .returned (.tuple #[v, .int .i64 r.2]) ∧ KSt U w' v st) ∧ (r.1 = none → e = .returned (.tuple #[stV (0, 0, 0, 0) nilS nilS nilS nilS nilS nilS, .int .i64 r.2]))
theorem retOpenR_no {U : Nat → Prop} {w w' : World} {n : Int} (hb : Below w.heap.size w w') : RetOpenR U (none, n) w (.returned (.tuple #[stV (0, 0, 0, 0) nilS nilS nilS nilS nilS nilS, .int .i64 n])) w' := by
  refine ⟨hb, ?_, fun _ => rfl⟩
  intro st h
  cases h
theorem best_pick {d : Dk} {a b : Hd} {A B : Bool} (ha : headOf (wrt d 0) = a) (hb : headOf (wrt d 1) = b) (hA : headOk (wrt d 0) 0 (halfN d.1.length) = A) (hB : headOk (wrt d 1) 1 (halfN d.1.length) = B) :
    bestHd d = pickHd (if A = true then some a else none) (if B = true then some b else none) := by
  subst ha; subst hb; subst hA; subst hB
  rfl
theorem setSt_below {B Y : Nat} {w0 w : World} (hb : Below B w0 w) (h : B ≤ Y) (h0 : Hd) (vk vn vo vp vq va : Value) : Below B w0 (setSt w Y h0 vk vn vo vp vq va) := by
  unfold setSt
  exact (((((((((hb.setCell (by exact h) _).setCell (by exact h) _).setCell (by exact h) _).setCell (by exact h) _).setCell (by exact h) _).setCell (by exact h) _).setCell (by exact h) _).setCell (by exact h) _).setCell (by exact h) _).setCell (by exact h) _
theorem best_parts {d : Dk} {h : Hd} (e : bestHd d = some h) : h.2.1 ≤ 1 ∧ h.2.2.1 ≤ 8 ∧ h.2.2.2 ≤ 64 * halfN d.1.length := by
  rcases best_step (d := d) with ⟨h1, -⟩ | ⟨h1, -, h2, -, h3, h4⟩
  · rw [h1] at e; cases e
  · rw [h1] at e
    cases e
    exact ⟨h2, h3, h4⟩
set_option maxHeartbeats 8000000 in
set_option maxRecDepth 100000 in
theorem ropen_any (U : Nat → Prop) (d : Dk) (vp vq : Value) (w : World) (hU : ∀ k, U k → k < w.heap.size) (hp : Keep U w (fun x => RdS x vp d.1)) (hq : Keep U w (fun x => RdW x vq d.2)) (hl1 : d.1.length ≤ 1000000000) (hl : d.2.length ≤ 1000000000) :
    Calls Tryz.prog 9 #[.agg #[vp, vq]] w (RetOpenR U (openD d) w) := by
  have HCK := hid (fun w' (hb : Below w.heap.size w w') => rcheckdisk_any d vp vq w' (hp.now.below hb) (hq.now.below hb) hl1 hl)
  have HPG := hid (fun (pn : Nat) (h : pn < d.1.length) (h4 : d.1.length ≤ 4096) w' (hb : Below w.heap.size w w') => rpage_any d vp vq pn w' (hp.now.below hb) (hq.now.below hb) h h4 hl)
  have HLB := hid (fun (hd : isDk d = true) (lg len : Nat) (hlg : lg ≤ 1) (hlen : len ≤ 64 * halfN d.1.length) w' (hb : Below w.heap.size w w') => rlogbytes_any d vp vq lg len w' (hp.now.below hb) (hq.now.below hb) hd hlg hlen hl)
  have HKP := hid hp; have HKQ := hid hq; have HU := hid hU
  obtain ⟨op, cp, hvp, -, -⟩ := hp.now
  obtain ⟨oq, cq, hvq, -, -⟩ := hq.now
  subst hvp; subst hvq
  obtain ⟨N, hN⟩ : ∃ N, d.1.length = N := ⟨_, rfl⟩
  obtain ⟨M, hM⟩ : ∃ M, d.2.length = M := ⟨_, rfl⟩
  simp only [hN, hM] at HCK HPG HLB HKP HKQ hl1 hl ⊢
  have HN := hid hN; have HM := hid hM
  clear hp hq hU hN hM
  obtain ⟨W0, hW0⟩ : ∃ W0, W0 = w.alloc (.cells #[.slice op N cp, .slice oq M cq] 25) := ⟨_, rfl⟩
  have hb0 : Below w.heap.size w W0 := by rw [hW0]; exact balloc (Below.refl _ _) _
  have hz0 : W0.heap.size = w.heap.size + 1 := by rw [hW0]; simp
  have q0 : W0.cell? ⟨w.heap.size, 0, none⟩ = some (.slice op N cp) := by rw [hW0]; exact cell_new _ _ _ 0 _ rfl
  have q1 : W0.cell? ⟨w.heap.size, 1, none⟩ = some (.slice oq M cq) := by rw [hW0]; exact cell_new _ _ _ 1 _ rfl
  obtain ⟨W, hW⟩ : ∃ W, W = W0.alloc (.cells #[.int .i64 0, .int .i64 0, .int .i64 0, .int .i64 0, nilS, nilS, nilS, nilS, nilS, nilS] 39) := ⟨_, rfl⟩
  have hb1 : Below W0.heap.size W0 W := by rw [hW]; exact balloc (Below.refl _ _) _
  have hzW : W.heap.size = w.heap.size + 2 := by rw [hW]; simp [hz0]
  have HY0 : Hid (∀ k, k < 10 → OwnC W ⟨w.heap.size + 1, k, none⟩) := by rw [hW, ← hz0]; exact own_newN W0 _ _ 10 (by decide)
  have K0 := hid (keepc hb1 q0); have K1 := hid (keepc hb1 q1)
  have HBW := hid (below_step hb1 hb0)
  have HZW := hid hzW
  have HW0 := hid hW0; have HW := hid hW; have HZ0 := hid hz0
  obtain ⟨Z, hZ⟩ : ∃ Z, w.heap.size = Z := ⟨_, rfl⟩
  have HZ := hid hZ
  rw [hZ] at HY0 K0 K1
  clear hW0 hW hb0 hb1 hz0 hzW q0 q1 hZ
  go_enter Tryz.func9, Tryz.ntmps9
  go_upto_region 1 with fail
  have e := HW0.out
  simp only [← e]
  have e2 := HW.out
  simp only [← e2]
  clear e e2 HW0 HW
  try rw [HZ0.out]
  try rw [HZ.out]
  have k0 := K0.out; have k1 := K1.out
  go_wp2_with fail
  refine (HCK.out _ HBW.out).mono ?_
  rintro e W1 ⟨rfl, hb1⟩
  have HB1 : Hid (Below W.heap.size W W1) := hb1
  have k0 := keepc hb1 K0.out; have k1 := keepc hb1 K1.out
  clear hb1
  cases hd : isDk d with
  | false =>
    have HR : Hid (openD d = (none, 142)) := open_no hd
    have hck : chkD d = 142 := by unfold chkD; rw [hd]; rfl
    rw [hck]
    rw [HR.out]
    have HO : Hid (∀ k, k < 10 → OwnC W1 ⟨Z + 1, k, none⟩) := fun k hk => keepOwn HB1.out (HY0.out k hk)
    obtain ⟨⟨v0, y0⟩, f0⟩ := HO.out 0 (by decide)
    obtain ⟨⟨v1, y1⟩, f1⟩ := HO.out 1 (by decide)
    obtain ⟨⟨v2, y2⟩, f2⟩ := HO.out 2 (by decide)
    obtain ⟨⟨v3, y3⟩, f3⟩ := HO.out 3 (by decide)
    obtain ⟨⟨v4, y4⟩, f4⟩ := HO.out 4 (by decide)
    obtain ⟨⟨v5, y5⟩, f5⟩ := HO.out 5 (by decide)
    obtain ⟨⟨v6, y6⟩, f6⟩ := HO.out 6 (by decide)
    obtain ⟨⟨v7, y7⟩, f7⟩ := HO.out 7 (by decide)
    obtain ⟨⟨v8, y8⟩, f8⟩ := HO.out 8 (by decide)
    obtain ⟨⟨v9, y9⟩, f9⟩ := HO.out 9 (by decide)
    have hz := World.block_lt_of_cell? _ _ y0
    have HBE := hid (below_step HB1.out HBW.out)
    have hle : w.heap.size ≤ Z + 1 := by have := HZ.out; omega
    clear hck hd
    go_wp2_with fail
    rw [HR.out]
    exact bodyPost_ret (v := .tuple #[stV (0, 0, 0, 0) nilS nilS nilS nilS nilS nilS, .int .i64 142]) (by simp [results, Tryz.results9, go_sem, y0, y1, y2, y3, y4, y5, y6, y7, y8, y9, hz]) rfl (retOpenR_no (setSt_below HBE.out hle (0, 0, 0, 0) nilS nilS nilS nilS nilS nilS))
  | true =>
    have hdl := isDk_len hd
    rw [HN.out] at hdl
    have hck : chkD d = 0 := by unfold chkD; rw [hd]; rfl
    rw [hck]
    have HD := hid hd
    have HL0 : (wrt d 0).length = 64 := wrt_len hd (by rw [HN.out]; omega)
    have HL1 : (wrt d 1).length = 64 := wrt_len hd (by rw [HN.out]; omega)
    have HBP : Hid (∀ (a b : Hd) (A B : Bool), headOf (wrt d 0) = a → headOf (wrt d 1) = b → headOk (wrt d 0) 0 (halfN N) = A → headOk (wrt d 1) 1 (halfN N) = B → bestHd d = pickHd (if A = true then some a else none) (if B = true then some b else none)) := fun a b A B h1 h2 h3 h4 =>
      best_pick h1 h2 (by rw [HN.out]; exact h3) (by rw [HN.out]; exact h4)
    have HHD0 := hid (fun w' => rheadof_any (wrt d 0) 0 N w' HL0 (by decide) hdl.1 hdl.2)
    have HHD1 := hid (fun w' => rheadof_any (wrt d 1) 1 N w' HL1 (by decide) hdl.1 hdl.2)
    have HPG0 := hid (fun w' hb => HPG.out 0 (by omega) hdl.2 w' hb)
    have HPG1 := hid (fun w' hb => HPG.out 1 (by omega) hdl.2 w' hb)
    obtain ⟨a, ha⟩ : ∃ a, headOf (wrt d 0) = a := ⟨_, rfl⟩
    obtain ⟨b, hb⟩ : ∃ b, headOf (wrt d 1) = b := ⟨_, rfl⟩
    obtain ⟨A, hA⟩ : ∃ A, headOk (wrt d 0) 0 (halfN N) = A := ⟨_, rfl⟩
    obtain ⟨B, hB⟩ : ∃ B, headOk (wrt d 1) 1 (halfN N) = B := ⟨_, rfl⟩
    have HBEST := hid (HBP.out a b A B ha hb hA hB)
    obtain ⟨s0, hs0⟩ : ∃ s, wrt d 0 = s := ⟨_, rfl⟩
    obtain ⟨s1, hs1⟩ : ∃ s, wrt d 1 = s := ⟨_, rfl⟩
    rw [ha, hA] at HHD0; rw [hb, hB] at HHD1
    rw [hs0] at HHD0 HPG0; rw [hs1] at HHD1 HPG1
    have HDL := hid hdl
    simp only [hdV] at HHD0 HHD1
    clear hck hd HL0 HL1 HBP ha hb hA hB hs0 hs1 HPG
    go_wp2_with fail
    go_cut [4, 5] (fun x4 x5 wx => ∃ X : Nat, x4 = .pointer (some ⟨X, 0, none⟩) ∧ x5 = .bool A ∧ Hid (HdB wx X a) ∧ Hid (Below W.heap.size W wx))
    case first =>
      have HBE := hid (below_step HB1.out HBW.out)
      have hbd := drew_below W1
      have hba := balloc hbd (.cells #[.int .i64 0, .int .i64 0, .int .i64 0, .int .i64 0] 34)
      go_region_held3 (fun w' => Below W1.heap.size W1 w' ∧ w'.cell? ⟨Z, 0, none⟩ = some (.slice op N cp) ∧ w'.cell? ⟨Z, 1, none⟩ = some (.slice oq M cq))
        ((refine (fun hS => ⟨hS, keepc hS k0, keepc hS k1⟩ : Below W1.heap.size W1 _ → _) ?_; first | exact hbd | exact hbx | exact hbx.alloc hbx.size _ | exact (((hbx.setCell hzx _).setCell hzx _).setCell hzx _).setCell hzx _ | exact hba))
        (first
          | (go_at_call 43; refine (HPG0.out _ (below_step hba HBE.out)).mono ?_; rintro e w5 ⟨rfl, hb5⟩; have HX : HdB w5 W1.heap.size (0, 0, 0, 0) := (HdB.newH W1.drew (0, 0, 0, 0)).below hb5; have hbx : Below W1.heap.size W1 w5 := below_step hb5 hba; have hzx : W1.heap.size ≤ W1.heap.size := Nat.le_refl _)
          | (go_at_call 43; refine (HPG0.out _ (below_step hbd HBE.out)).mono ?_; rintro e w5 ⟨rfl, hb5⟩; have hbx : Below W1.heap.size W1 w5 := below_step hb5 hbd)
          | (go_at_call 42; refine (HHD0.out _).mono ?_; rintro e w7 ⟨rfl, hb7⟩; have HX := HX.below hb7; have hbx : Below W1.heap.size W1 w7 := below_step hb7 hbx; obtain ⟨y0, y1, y2, y3, yf⟩ := id HX; have f0 := yf 0 (by decide); have f1 := yf 1 (by decide); have f2 := yf 2 (by decide); have f3 := yf 3 (by decide))
          | (go_at_call 42; refine (HHD0.out _).mono ?_; rintro e w7 ⟨rfl, hb7⟩; have HX := (HdB.newH w5 (0, 0, 0, 0)).below hb7; have hzx : W1.heap.size ≤ w5.heap.size := hbx.size; have hbx : Below W1.heap.size W1 w7 := below_step hb7 (hbx.alloc hzx _); obtain ⟨y0, y1, y2, y3, yf⟩ := id HX; have f0 := yf 0 (by decide); have f1 := yf 1 (by decide); have f2 := yf 2 (by decide); have f3 := yf 3 (by decide))
          | (go_at_call 42; refine (HHD0.out _).mono ?_; rintro e w7 ⟨rfl, hb7⟩; have hbx : Below W1.heap.size W1 w7 := below_step hb7 hbx)
          | (fail "x"))
      all_goals
        first
          | (have HXN := hid (HdB.set4 a HX); have HBN := hid (qset4 hbx hzx (.int .i64 a.1) (.int .i64 a.2.1) (.int .i64 a.2.2.1) (.int .i64 a.2.2.2)))
          | (have HXN := hid (HdB.newH w7 a); have HBN := hid (hbx.alloc hbx.size (.cells #[.int .i64 a.1, .int .i64 a.2.1, .int .i64 a.2.2.1, .int .i64 a.2.2.2] 34)))
        go_wp2_with fail
        go_meet
        case rel => exact ⟨_, rfl, rfl, HXN.out, below_step HBN.out HB1.out⟩
    case rest =>
    obtain ⟨X4, rfl, rfl, HX4, HB2⟩ := hcut
    have k0 := keepc HB2.out K0.out; have k1 := keepc HB2.out K1.out
    clear HB1
    have HB1 := HB2
    clear HB2
    obtain ⟨W1, hW1⟩ : ∃ W1, W1 = wc := ⟨_, rfl⟩
    subst hW1
    go_upto_region 4 with fail
    go_cut [6, 7] (fun x4 x5 wx => ∃ X : Nat, x4 = .pointer (some ⟨X, 0, none⟩) ∧ x5 = .bool B ∧ Hid (HdB wx X b) ∧ Hid (Below W1.heap.size W1 wx))
    case first =>
      have HBE := hid (below_step HB1.out HBW.out)
      have hbd := drew_below W1
      have hba := balloc hbd (.cells #[.int .i64 0, .int .i64 0, .int .i64 0, .int .i64 0] 34)
      go_region_held3 (fun w' => Below W1.heap.size W1 w' ∧ w'.cell? ⟨Z, 0, none⟩ = some (.slice op N cp) ∧ w'.cell? ⟨Z, 1, none⟩ = some (.slice oq M cq))
        ((refine (fun hS => ⟨hS, keepc hS k0, keepc hS k1⟩ : Below W1.heap.size W1 _ → _) ?_; first | exact hbd | exact hbx | exact hbx.alloc hbx.size _ | exact (((hbx.setCell hzx _).setCell hzx _).setCell hzx _).setCell hzx _ | exact hba))
        (first
          | (go_at_call 43; refine (HPG1.out _ (below_step hba HBE.out)).mono ?_; rintro e w5 ⟨rfl, hb5⟩; have HX : HdB w5 W1.heap.size (0, 0, 0, 0) := (HdB.newH W1.drew (0, 0, 0, 0)).below hb5; have hbx : Below W1.heap.size W1 w5 := below_step hb5 hba; have hzx : W1.heap.size ≤ W1.heap.size := Nat.le_refl _)
          | (go_at_call 43; refine (HPG1.out _ (below_step hbd HBE.out)).mono ?_; rintro e w5 ⟨rfl, hb5⟩; have hbx : Below W1.heap.size W1 w5 := below_step hb5 hbd)
          | (go_at_call 42; refine (HHD1.out _).mono ?_; rintro e w7 ⟨rfl, hb7⟩; have HX := HX.below hb7; have hbx : Below W1.heap.size W1 w7 := below_step hb7 hbx; obtain ⟨y0, y1, y2, y3, yf⟩ := id HX; have f0 := yf 0 (by decide); have f1 := yf 1 (by decide); have f2 := yf 2 (by decide); have f3 := yf 3 (by decide))
          | (go_at_call 42; refine (HHD1.out _).mono ?_; rintro e w7 ⟨rfl, hb7⟩; have HX := (HdB.newH w5 (0, 0, 0, 0)).below hb7; have hzx : W1.heap.size ≤ w5.heap.size := hbx.size; have hbx : Below W1.heap.size W1 w7 := below_step hb7 (hbx.alloc hzx _); obtain ⟨y0, y1, y2, y3, yf⟩ := id HX; have f0 := yf 0 (by decide); have f1 := yf 1 (by decide); have f2 := yf 2 (by decide); have f3 := yf 3 (by decide))
          | (go_at_call 42; refine (HHD1.out _).mono ?_; rintro e w7 ⟨rfl, hb7⟩; have hbx : Below W1.heap.size W1 w7 := below_step hb7 hbx)
          | (fail "x"))
      all_goals
        first
          | (have HXN := hid (HdB.set4 b HX); have HBN := hid (qset4 hbx hzx (.int .i64 b.1) (.int .i64 b.2.1) (.int .i64 b.2.2.1) (.int .i64 b.2.2.2)))
          | (have HXN := hid (HdB.newH w7 b); have HBN := hid (hbx.alloc hbx.size (.cells #[.int .i64 b.1, .int .i64 b.2.1, .int .i64 b.2.2.1, .int .i64 b.2.2.2] 34)))
        go_wp2_with fail
        go_meet
        case rel => exact ⟨_, rfl, rfl, HXN.out, HBN.out⟩
    case rest =>
    obtain ⟨X6, rfl, rfl, HX6, HB2⟩ := hcut
    have HX4 := hid (HX4.out.below HB2.out)
    have HB3 := hid (below_step HB2.out HB1.out)
    have k0 := keepc HB3.out K0.out; have k1 := keepc HB3.out K1.out
    clear HB1 HB2 HPG0 HPG1 HHD0 HHD1
    obtain ⟨W2, hW2⟩ : ∃ W1, W1 = wc := ⟨_, rfl⟩
    subst hW2
    go_upto_region 5 with fail
    go_cut [40] (fun x40 wx => ∃ Q : Bool, x40 = .bool Q ∧ Hid (Q = true → A = false ∧ B = false) ∧ Hid (Q = false → A = true ∨ B = true) ∧ Hid (wx = W2))
    case first =>
      cases A with
      | true =>
        go_wp2_with fail
        go_meet
        case rel => exact ⟨false, rfl, hid (by simp), hid (by simp), hid rfl⟩
      | false =>
      cases B with
      | true =>
        go_wp2_with fail
        go_meet
        case rel => exact ⟨false, rfl, hid (by simp), hid (by simp), hid rfl⟩
      | false =>
        go_wp2_with fail
        go_meet
        case rel => exact ⟨true, rfl, hid (by simp), hid (by simp), hid rfl⟩
    case rest =>
    obtain ⟨Q, rfl, HQ1, HQ2, HWX⟩ := hcut
    have hwx := HWX.out.symm
    subst hwx
    clear HWX
    cases Q with
    | true =>
      obtain ⟨rfl, rfl⟩ := HQ1.out rfl
      have HR : Hid (openD d = (none, 143)) := open_none HD.out HBEST.out
      clear k0 k1 HX4 HX6
      have HO : Hid (∀ k, k < 10 → OwnC W2 ⟨Z + 1, k, none⟩) := fun k hk => keepOwn HB3.out (HY0.out k hk)
      obtain ⟨⟨v0, y0⟩, f0⟩ := HO.out 0 (by decide)
      obtain ⟨⟨v1, y1⟩, f1⟩ := HO.out 1 (by decide)
      obtain ⟨⟨v2, y2⟩, f2⟩ := HO.out 2 (by decide)
      obtain ⟨⟨v3, y3⟩, f3⟩ := HO.out 3 (by decide)
      obtain ⟨⟨v4, y4⟩, f4⟩ := HO.out 4 (by decide)
      obtain ⟨⟨v5, y5⟩, f5⟩ := HO.out 5 (by decide)
      obtain ⟨⟨v6, y6⟩, f6⟩ := HO.out 6 (by decide)
      obtain ⟨⟨v7, y7⟩, f7⟩ := HO.out 7 (by decide)
      obtain ⟨⟨v8, y8⟩, f8⟩ := HO.out 8 (by decide)
      obtain ⟨⟨v9, y9⟩, f9⟩ := HO.out 9 (by decide)
      have hz := World.block_lt_of_cell? _ _ y0
      have HBE := hid (below_step HB3.out HBW.out)
      have hle : w.heap.size ≤ Z + 1 := by have := HZ.out; omega
      go_wp2_with fail
      rw [HR.out]
      exact bodyPost_ret (v := .tuple #[stV (0, 0, 0, 0) nilS nilS nilS nilS nilS nilS, .int .i64 143]) (by simp [results, Tryz.results9, go_sem, y0, y1, y2, y3, y4, y5, y6, y7, y8, y9, hz]) rfl (retOpenR_no (setSt_below HBE.out hle (0, 0, 0, 0) nilS nilS nilS nilS nilS nilS))
    | false =>
    have hab := HQ2.out rfl
    have HBS : Hid (∃ h, bestHd d = some h ∧ ((A = true ∧ (B = true → ¬ a.1 < b.1) ∧ h = a) ∨ (B = true ∧ (A = true → a.1 < b.1) ∧ h = b))) := by
      unfold Hid
      rw [HBEST.out]
      cases A with
      | true =>
        cases B with
        | true =>
          by_cases hlt : a.1 < b.1
          · exact ⟨b, by show (if a.1 < b.1 then some b else some a) = _; rw [if_pos hlt], .inr ⟨rfl, fun _ => hlt, rfl⟩⟩
          · exact ⟨a, by show (if a.1 < b.1 then some b else some a) = _; rw [if_neg hlt], .inl ⟨rfl, fun _ => hlt, rfl⟩⟩
        | false => exact ⟨a, rfl, .inl ⟨rfl, fun h => (by cases h), rfl⟩⟩
      | false =>
        cases B with
        | true => exact ⟨b, rfl, .inr ⟨rfl, fun h => (by cases h), rfl⟩⟩
        | false => rcases hab with h | h <;> cases h
    obtain ⟨h, HBH, hcase⟩ := HBS.out
    have HC := hid hcase
    have HBH := hid HBH
    clear hab hcase HQ1 HQ2 HBS HBEST
    obtain ⟨p0, p1, p2, p3, pf⟩ := HX4.out
    obtain ⟨q0, q1, q2, q3, qf⟩ := HX6.out
    have HP4 := hid (And.intro p0 (And.intro p1 (And.intro p2 p3))); have HP6 := hid (And.intro q0 (And.intro q1 (And.intro q2 q3)))
    have hba := balloc (Below.refl W2.heap.size W2) (.cells #[.int .i64 a.1, .int .i64 a.2.1, .int .i64 a.2.2.1, .int .i64 a.2.2.2] 34)
    have HX8 := hid (HdB.newH W2 a)
    have hz2 := HB3.out.size
    obtain ⟨W3, hW3⟩ : ∃ W3, W3 = W2.alloc (.cells #[.int .i64 a.1, .int .i64 a.2.1, .int .i64 a.2.2.1, .int .i64 a.2.2.2] 34) := ⟨_, rfl⟩
    rw [← hW3] at hba HX8
    obtain ⟨X8, hX8⟩ : ∃ X8, W2.heap.size = X8 := ⟨_, rfl⟩
    rw [hX8] at HX8
    have HXW : Hid (W.heap.size ≤ X8) := by unfold Hid; omega
    have HW3 := hid hW3; have HE8 := hid hX8
    have HB4 := hid (below_step hba HB3.out)
    have HP6 := hid (show World.cell? W3 ⟨X6, 0, none⟩ = _ ∧ World.cell? W3 ⟨X6, 1, none⟩ = _ ∧ World.cell? W3 ⟨X6, 2, none⟩ = _ ∧ World.cell? W3 ⟨X6, 3, none⟩ = _ from ⟨keepc hba q0, keepc hba q1, keepc hba q2, keepc hba q3⟩)
    have p0' := keepc hba p0
    have P40 := hid p0'
    have k0 := keepc hba k0; have k1 := keepc hba k1
    clear hW3 hX8 hba pf qf p0' q0 q1 q2 q3 hz2
    go_upto_region 8 with fail
    have e := HW3.out
    simp only [← e]
    try rw [HE8.out]
    clear e HW3 HE8 p0 p1 p2 p3
    have q0 := HP6.out.1
    have p0 := P40.out
    go_cut [54] (fun x54 wx => ∃ Q : Bool, x54 = .bool Q ∧ Hid (h = if Q = true then b else a) ∧ Hid (wx = W3))
    case first =>
      cases A with
      | false =>
        have hh : h = b := by
          rcases HC.out with ⟨h1, -⟩ | ⟨-, -, h1⟩
          · cases h1
          · exact h1
        go_wp2_with fail
        go_meet
        case rel => exact ⟨true, rfl, hid (by simp [hh]), hid rfl⟩
      | true =>
      cases B with
      | false =>
        have hh : h = a := by
          rcases HC.out with ⟨-, -, h1⟩ | ⟨h1, -⟩
          · exact h1
          · cases h1
        go_wp2_with fail
        go_meet
        case rel => exact ⟨false, rfl, hid (by simp [hh]), hid rfl⟩
      | true =>
      by_cases hlt : a.1 < b.1
      · have hh : h = b := by
          rcases HC.out with ⟨-, h1, -⟩ | ⟨-, -, h1⟩
          · exact absurd hlt (h1 rfl)
          · exact h1
        have hlt2 : (a.1 : Int) < (b.1 : Int) := by omega
        have HH := hid hh
        clear hh hlt
        go_wp2_with fail
        go_meet
        case rel => exact ⟨true, rfl, hid (by simp [HH.out]), hid rfl⟩
      · have hh : h = a := by
          rcases HC.out with ⟨-, -, h1⟩ | ⟨-, h1, -⟩
          · exact h1
          · exact absurd (h1 rfl) hlt
        have hlt2 : ¬ (a.1 : Int) < (b.1 : Int) := by omega
        have HH := hid hh
        clear hh hlt
        go_wp2_with fail
        go_meet
        case rel => exact ⟨false, rfl, hid (by simp [HH.out]), hid rfl⟩
    case rest =>
    obtain ⟨Q, rfl, HQ, HWX⟩ := hcut
    have hwx := HWX.out.symm
    subst hwx
    clear HWX HC p0
    go_upto_if 54 with (fail)
    go_cut [8] (fun x8 wx => x8 = .pointer (some ⟨X8, 0, none⟩) ∧ Hid (HdB wx X8 h) ∧ Hid (Below W.heap.size W wx))
    case first =>
      cases Q with
      | true =>
        have hh : h = b := HQ.out
        have HS4 := hid (HdB.set4 b HX8.out)
        have HBS := hid (qset4 HB4.out HXW.out (.int .i64 b.1) (.int .i64 b.2.1) (.int .i64 b.2.2.1) (.int .i64 b.2.2.2))
        obtain ⟨y0, y1, y2, y3, yf⟩ := HX8.out
        have f0 := yf 0 (by decide); have f1 := yf 1 (by decide); have f2 := yf 2 (by decide); have f3 := yf 3 (by decide)
        obtain ⟨q0, q1, q2, q3⟩ := HP6.out
        have HH := hid hh
        clear hh yf
        go_wp2_with fail
        go_meet
        case rel => exact ⟨rfl, by rw [HH.out]; exact HS4, HBS⟩
      | false =>
        have hh : h = a := HQ.out
        have HH := hid hh
        clear hh
        go_wp2_with fail
        go_meet
        case rel => exact ⟨rfl, by rw [HH.out]; exact HX8, HB4⟩
    case rest =>
    obtain ⟨rfl, HX9, HB9⟩ := hcut
    have hpt := best_parts HBH.out
    have hcl := content_len HD.out hpt.1 hpt.2.2
    rw [HN.out] at hpt
    have hhb : halfN N ≤ 2047 := by unfold halfN; have := HDL.out; omega
    have HLX := hid (HLB.out HD.out h.2.1 h.2.2.2 hpt.1 hpt.2.2)
    have HOP := hid (fun (ops : List FOp) (hdec : decL (content d h.2.1 h.2.2.2) = some ops) (hr : runAll (empties h.2.2.1) ops = none) => open_norun HD.out HBH.out hdec hr)
    have HOU := hid (fun (hdec : decL (content d h.2.1 h.2.2.2) = none) => open_undec HD.out HBH.out hdec)
    have HOK := hid (fun (ops : List FOp) (data : List Ds) (hdec : decL (content d h.2.1 h.2.2.2) = some ops) (hr : runAll (empties h.2.2.1) ops = some data) => open_ok HD.out HBH.out hdec hr)
    obtain ⟨C, hC⟩ : ∃ C, content d h.2.1 h.2.2.2 = C := ⟨_, rfl⟩
    simp only [hC] at HLX HOP HOU HOK hcl
    have hcm : C.length ≤ 131072 := by omega
    have HCM := hid hcm
    have HDEC := hid (fun w' => rdecode_any C w' (by unfold maxLen; omega))
    have HF8 := hid hpt.2.1
    have k0 := keepc HB9.out K0.out; have k1 := keepc HB9.out K1.out
    obtain ⟨r0, r1, r2, r3, rf⟩ := HX9.out
    clear hC hcl hcm hhb hpt rf HX4 HX6 HX8 HB3 HB4 HXW HP4 HP6 P40 HQ q0
    obtain ⟨W4, hW4⟩ : ∃ W1, W1 = wc := ⟨_, rfl⟩
    subst hW4
    go_wp2_with fail
    refine (HLX.out _ (below_step HB9.out HBW.out)).mono ?_
    rintro e w5 ⟨rfl, hb5⟩
    have HB5 := hid (below_step hb5 HB9.out)
    have HX5 := hid (HX9.out.below hb5)
    have k0 := keepc hb5 k0; have k1 := keepc hb5 k1
    clear hb5 r0 r1 r2 r3
    go_wp2_with fail
    refine (HDEC.out _).mono ?_
    rintro e w6 ⟨v6, rfl, ho6, hb6⟩
    have HB6 := hid (below_step hb6 HB5.out)
    have HX6 := hid (HX5.out.below hb6)
    have k0 := keepc hb6 k0; have k1 := keepc hb6 k1
    cases hdec : decL C with
    | none =>
      have hdd := decodeD_no hdec
      rw [hdd]
      have HR := hid (HOU.out hdec)
      clear hdd hdec hb6 ho6
      have HO : Hid (∀ k, k < 10 → OwnC w6 ⟨Z + 1, k, none⟩) := fun k hk => keepOwn HB6.out (HY0.out k hk)
      obtain ⟨⟨v0, y0⟩, f0⟩ := HO.out 0 (by decide)
      obtain ⟨⟨v1, y1⟩, f1⟩ := HO.out 1 (by decide)
      obtain ⟨⟨v2, y2⟩, f2⟩ := HO.out 2 (by decide)
      obtain ⟨⟨v3, y3⟩, f3⟩ := HO.out 3 (by decide)
      obtain ⟨⟨v4, y4⟩, f4⟩ := HO.out 4 (by decide)
      obtain ⟨⟨v5, y5⟩, f5⟩ := HO.out 5 (by decide)
      obtain ⟨⟨v6', y6⟩, f6⟩ := HO.out 6 (by decide)
      obtain ⟨⟨v7', y7⟩, f7⟩ := HO.out 7 (by decide)
      obtain ⟨⟨v8, y8⟩, f8⟩ := HO.out 8 (by decide)
      obtain ⟨⟨v9, y9⟩, f9⟩ := HO.out 9 (by decide)
      have hz := World.block_lt_of_cell? _ _ y0
      have HBE := hid (below_step HB6.out HBW.out)
      have hle : w.heap.size ≤ Z + 1 := by have := HZ.out; omega
      go_wp2_with fail
      rw [HR.out]
      exact bodyPost_ret (v := .tuple #[stV (0, 0, 0, 0) nilS nilS nilS nilS nilS nilS, .int .i64 143]) (by simp [results, Tryz.results9, go_sem, y0, y1, y2, y3, y4, y5, y6, y7, y8, y9, hz]) rfl (retOpenR_no (setSt_below HBE.out hle (0, 0, 0, 0) nilS nilS nilS nilS nilS nilS))
    | some ops =>
      have hdd := decodeD_yes HCM.out hdec
      rw [hdd] at ho6 ⊢
      have HO6 : Hid (OO w6 w5.heap.size v6 ops) := ho6
      obtain ⟨o6, c6, hv6, -, -⟩ := HO6.out.rd
      have hol : ops.length ≤ 131072 := by have := decL_count hdec; have := HCM.out; omega
      have hch : ∀ o ∈ ops, isOp o = true := fun o ho => chg_op ((enc_decL _ C ops (Nat.le_refl _) hdec).2 o ho)
      have HRP := hid (rreplay_any ops v6 h.2.2.1 w6 HO6.out.rd (by omega) HF8.out hch)
      obtain ⟨r0, r1, r2, r3, rf⟩ := HX6.out
      have HDC := hid hdec
      obtain ⟨L6, hL6⟩ : ∃ L, ops.length = L := ⟨_, rfl⟩
      rw [hL6] at hv6
      subst hv6
      clear hdd hdec hb6 ho6 hol hch rf hL6
      go_wp2_with fail
      refine HRP.out.mono ?_
      rintro e w7 ⟨hb7, hr1, hr2⟩
      have HB7 := hid (below_step hb7 HB6.out)
      have HZ6 : Hid (Z + 1 < w6.heap.size ∧ w.heap.size ≤ w6.heap.size) := by have := HB6.out.size; have := HZW.out; have := HZ.out; unfold Hid; omega
      have HX7 := hid (HX6.out.below hb7)
      have k0 := keepc hb7 k0; have k1 := keepc hb7 k1
      clear r0 r1 r2 r3
      cases hrun : runAll (empties h.2.2.1) ops with
      | none =>
        obtain rfl := hr2 hrun
        have HR := hid (HOP.out ops HDC.out hrun)
        clear hrun hr1 hr2 hb7
        have HO : Hid (∀ k, k < 10 → OwnC w7 ⟨Z + 1, k, none⟩) := fun k hk => keepOwn HB7.out (HY0.out k hk)
        obtain ⟨⟨v0, y0⟩, f0⟩ := HO.out 0 (by decide)
        obtain ⟨⟨v1, y1⟩, f1⟩ := HO.out 1 (by decide)
        obtain ⟨⟨v2, y2⟩, f2⟩ := HO.out 2 (by decide)
        obtain ⟨⟨v3, y3⟩, f3⟩ := HO.out 3 (by decide)
        obtain ⟨⟨v4, y4⟩, f4⟩ := HO.out 4 (by decide)
        obtain ⟨⟨v5, y5⟩, f5⟩ := HO.out 5 (by decide)
        obtain ⟨⟨v6', y6⟩, f6⟩ := HO.out 6 (by decide)
        obtain ⟨⟨v7', y7⟩, f7⟩ := HO.out 7 (by decide)
        obtain ⟨⟨v8, y8⟩, f8⟩ := HO.out 8 (by decide)
        obtain ⟨⟨v9, y9⟩, f9⟩ := HO.out 9 (by decide)
        have hz := World.block_lt_of_cell? _ _ y0
        have HBE := hid (below_step HB7.out HBW.out)
        have hle : w.heap.size ≤ Z + 1 := by have := HZ.out; omega
        go_wp2_with fail
        rw [HR.out]
        exact bodyPost_ret (v := .tuple #[stV (0, 0, 0, 0) nilS nilS nilS nilS nilS nilS, .int .i64 143]) (by simp [results, Tryz.results9, go_sem, y0, y1, y2, y3, y4, y5, y6, y7, y8, y9, hz]) rfl (retOpenR_no (setSt_below HBE.out hle (0, 0, 0, 0) nilS nilS nilS nilS nilS nilS))
      | some data =>
        obtain ⟨v7, rfl, hkv⟩ := hr1 data hrun
        have HR := hid (HOK.out ops data HDC.out hrun)
        have HKV := hid hkv
        obtain ⟨o7, c7, hv7, -, -⟩ := hkv.now
        obtain ⟨L7, hL7⟩ : ∃ L, data.length = L := ⟨_, rfl⟩
        rw [hL7] at hv7
        subst hv7
        obtain ⟨r0, r1, r2, r3, rf⟩ := HX7.out
        clear hrun hr1 hr2 hb7 hkv hL7 rf
        have HO : Hid (∀ k, k < 10 → OwnC w7 ⟨Z + 1, k, none⟩) := fun k hk => keepOwn HB7.out (HY0.out k hk)
        obtain ⟨⟨v0, y0⟩, f0⟩ := HO.out 0 (by decide)
        obtain ⟨⟨v1, y1⟩, f1⟩ := HO.out 1 (by decide)
        obtain ⟨⟨v2, y2⟩, f2⟩ := HO.out 2 (by decide)
        obtain ⟨⟨v3, y3⟩, f3⟩ := HO.out 3 (by decide)
        obtain ⟨⟨v4, y4⟩, f4⟩ := HO.out 4 (by decide)
        obtain ⟨⟨v5, y5⟩, f5⟩ := HO.out 5 (by decide)
        obtain ⟨⟨v6', y6⟩, f6⟩ := HO.out 6 (by decide)
        obtain ⟨⟨v7', y7⟩, f7⟩ := HO.out 7 (by decide)
        obtain ⟨⟨v8, y8⟩, f8⟩ := HO.out 8 (by decide)
        obtain ⟨⟨v9, y9⟩, f9⟩ := HO.out 9 (by decide)
        have hz := World.block_lt_of_cell? _ _ y0
        have HBE := hid (below_step HB7.out HBW.out)
        have hle : w.heap.size ≤ Z + 1 := by have := HZ.out; omega
        go_wp2_with fail
        have hb9 := setSt_below HBE.out hle h (.slice o7 L7 c7) (.slice o7 L7 c7) nilS (.slice op N cp) (.slice oq M cq) nilS
        have hf9 := setSt_frm w7 (Z + 1) h (.slice o7 L7 c7) (.slice o7 L7 c7) nilS (.slice op N cp) (.slice oq M cq) nilS
        have hkk : Keep U (setSt w7 (Z + 1) h (.slice o7 L7 c7) (.slice o7 L7 c7) nilS (.slice op N cp) (.slice oq M cq) nilS) (fun x => RdD x (.slice o7 L7 c7) data) :=
          HKV.out.step (hf9.mono fun k _ e => by have := HZ6.out.1; omega) fun k hk => .inl (by have := HU.out k hk; have := HZ6.out.2; omega)
        rw [HR.out]
        refine bodyPost_ret (v := .tuple #[stV h (.slice o7 L7 c7) (.slice o7 L7 c7) nilS (.slice op N cp) (.slice oq M cq) nilS, .int .i64 0]) (by simp [results, Tryz.results9, go_sem, y0, y1, y2, y3, y4, y5, y6, y7, y8, y9, hz]) rfl ⟨hb9, ?_, ?_⟩
        · intro st hst
          cases hst
          exact ⟨_, rfl, _, _, _, _, _, _, rfl, hkk, hkk, fun x _ => rdO_nil x, HKP.out.below hb9, HKQ.out.below hb9, fun x _ => rdA_nil x⟩
        · intro hn
          cases hn
end Go.Proofs.YtifcgimpgbeocaaGreat
