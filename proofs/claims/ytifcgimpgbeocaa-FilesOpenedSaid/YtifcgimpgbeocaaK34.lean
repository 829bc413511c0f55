/- fits. -/
import Derived.Test.YtifcgimpgbeocaaK6
import Derived.Test.YtifcgimpgbeocaaK17
import Derived.Test.YtifcgimpgbeocaaK25
import Derived.Test.YtifcgimpgbeocaaK33
import Derived.Test.YtifcgimpgbeocaaK32
import Derived.Test.YtifcgimpgbeocaaK14
import Derived.Test.YtifcgimpgbeocaaMA24
set_option linter.unusedVariables false
set_option linter.unusedSimpArgs false
namespace Go.Proofs.Ytifcgimpgbeocaa
open Go.RowKit
attribute [local go_sem] Oper.semAt_some
set_option maxHeartbeats 1000000 in
set_option maxRecDepth 100000 in
theorem fits_any (p f : Int) (o : Option Addr) (n c : Nat) (w : World) : Calls Try.prog 26 #[.agg #[.int .i64 p, .int .i64 f, .slice o n c]] w (Ret (.bool (decide ((4 ≤ p ∧ p ≤ 4096) ∧ 1 ≤ f ∧ f ≤ 8))) w) := by
  have g0 : (w.alloc (.cells #[.int .i64 p, .int .i64 f, .slice o n c] 42)).cell? ⟨w.heap.size, 0, none⟩ = some (.int .i64 p) := cell_new _ _ _ 0 _ rfl
  have g1 : (w.alloc (.cells #[.int .i64 p, .int .i64 f, .slice o n c] 42)).cell? ⟨w.heap.size, 1, none⟩ = some (.int .i64 f) := cell_new _ _ _ 1 _ rfl
  have HB := hid (balloc (Below.refl w.heap.size w) (.cells #[.int .i64 p, .int .i64 f, .slice o n c] 42))
  by_cases h1 : 4 ≤ p
  rotate_left
  · have z1 : decide (4 ≤ p) = false := by simpa using h1
    have e : decide ((4 ≤ p ∧ p ≤ 4096) ∧ 1 ≤ f ∧ f ≤ 8) = false := by simp; omega
    rw [e]
    clear e h1
    go_enter Try.func26, Try.ntmps26
    go_wp2_with fail
    go_ret
    exact ⟨rfl, HB.out⟩
  have z1 : decide (4 ≤ p) = true := by simpa using h1
  by_cases h2 : p ≤ 4096
  rotate_left
  · have z2 : decide (p ≤ 4096) = false := by simpa using h2
    have e : decide ((4 ≤ p ∧ p ≤ 4096) ∧ 1 ≤ f ∧ f ≤ 8) = false := by simp; omega
    rw [e]
    clear e h1 h2
    go_enter Try.func26, Try.ntmps26
    go_wp2_with fail
    go_ret
    exact ⟨rfl, HB.out⟩
  have z2 : decide (p ≤ 4096) = true := by simpa using h2
  by_cases h3 : 1 ≤ f
  rotate_left
  · have z3 : decide (1 ≤ f) = false := by simpa using h3
    have e : decide ((4 ≤ p ∧ p ≤ 4096) ∧ 1 ≤ f ∧ f ≤ 8) = false := by simp; omega
    rw [e]
    clear e h1 h2 h3
    go_enter Try.func26, Try.ntmps26
    go_wp2_with fail
    go_ret
    exact ⟨rfl, HB.out⟩
  have z3 : decide (1 ≤ f) = true := by simpa using h3
  by_cases h4 : f ≤ 8
  · have z4 : decide (f ≤ 8) = true := by simpa using h4
    have e : decide ((4 ≤ p ∧ p ≤ 4096) ∧ 1 ≤ f ∧ f ≤ 8) = true := by simp; omega
    rw [e]
    clear e h1 h2 h3 h4
    go_enter Try.func26, Try.ntmps26
    go_wp2_with fail
    go_ret
    exact ⟨rfl, HB.out⟩
  · have z4 : decide (f ≤ 8) = false := by simpa using h4
    have e : decide ((4 ≤ p ∧ p ≤ 4096) ∧ 1 ≤ f ∧ f ≤ 8) = false := by simp; omega
    rw [e]
    clear e h1 h2 h3 h4
    go_enter Try.func26, Try.ntmps26
    go_wp2_with fail
    go_ret
    exact ⟨rfl, HB.out⟩
end Go.Proofs.Ytifcgimpgbeocaa
/- opened. -/
set_option linter.unusedVariables false
set_option linter.unusedSimpArgs false
namespace Go.Proofs.Ytifcgimpgbeocaa
open Go.RowKit
attribute [local go_sem] Oper.semAt_some
/-- The store that Create makes. -/
def stNew (n f : Int) : St := ⟨(createD n f).1, (1, 0, f.toNat, 0), [], [], empties f.toNat, empties f.toNat, []⟩
def OpenedPost (st : St) (w : World) (e : Ending) (w' : World) : Prop :=
  ∃ S U vp vq, e = .returned (.tuple #[.pointer (some ⟨S, 0, none⟩), .agg #[vp, vq], .bool true]) ∧ Hold w U S st w' ∧ Keep U w' (fun x => RdS x vp st.dk.1) ∧ Keep U w' (fun x => RdW x vq st.dk.2)
set_option maxHeartbeats 2000000 in
set_option maxRecDepth 100000 in
theorem opened_any (n f : Int) (w : World) (hn : 4 ≤ n ∧ n ≤ 4096) (hf : 1 ≤ f ∧ f ≤ 8) : Calls Try.prog 27 #[.int .i64 n, .int .i64 f] w (OpenedPost (stNew n f) w) := by
  have HBW := hid (B2.new w 27 (.slice none 0 0) (.slice none 0 0))
  have HC := hid (fun w' => create_any n f w')
  have he : (createD n f).2 = 0 := by rw [createD_ok hn hf]
  have hlen : (createD n f).1.2.length = 0 := by rw [createD_ok hn hf]; rfl
  have hop : openD (createD n f).1 = (some (stNew n f), 0) := open_as (create_open hn hf)
  rw [he] at HC
  have hdk : (stNew n f).dk = (createD n f).1 := rfl
  obtain ⟨st, hst⟩ : ∃ st, stNew n f = st := ⟨_, rfl⟩
  rw [hst] at hop hdk ⊢
  generalize (createD n f).1 = d at *
  subst hdk
  have HOP := hid (fun vp vq w' hp hq => open_any st.dk vp vq w' hp hq (by omega))
  rw [hop] at HOP
  clear he hop hst hn hf hlen
  go_enter Try.func27, Try.ntmps27
  go_wp2_with fail
  refine (HC.out _).mono ?_
  rintro e w1 ⟨up, uq, rfl, ho1, ho2, hb1⟩
  have hB1 : B2 w w.heap.size w1 := HBW.out.below hb1
  have hz0 : w.heap.size < w1.heap.size := hB1.lt
  obtain ⟨o1, c1, rfl, -, -⟩ := ho1.rd
  obtain ⟨o2, c2, rfl, -, -⟩ := ho2.rd
  obtain ⟨N1, hN1⟩ : ∃ N, st.dk.1.length = N := ⟨_, rfl⟩
  obtain ⟨N2, hN2⟩ : ∃ N, st.dk.2.length = N := ⟨_, rfl⟩
  simp only [hN1, hN2] at ho1 ho2 ⊢
  obtain ⟨W2, hW2⟩ : ∃ W2, W2 = w1.alloc (.cells #[.slice o1 N1 c1, .slice o2 N2 c2] 27) := ⟨_, rfl⟩
  have hba : Below w1.heap.size w1 W2 := by rw [hW2]; exact balloc (Below.refl _ _) _
  have HB2 := hid (hB1.below hba)
  have HO1 := hid (ho1.below hba); have HO2 := hid (ho2.below hba)
  have d0 : W2.cell? ⟨w1.heap.size, 0, none⟩ = some (.slice o1 N1 c1) := by rw [hW2]; exact cell_new _ _ _ 0 _ rfl
  have d1 : W2.cell? ⟨w1.heap.size, 1, none⟩ = some (.slice o2 N2 c2) := by rw [hW2]; exact cell_new _ _ _ 1 _ rfl
  have HW2 := hid hW2
  have HZ0 := hid hz0
  clear hW2 hba ho1 ho2 hb1 hB1 HBW HC hN1 hN2 hz0
  go_upto_region 2 with fail
  have e := HW2.out
  rw [← e]
  clear e HW2
  obtain ⟨D, hD⟩ : ∃ D, w1.heap.size = D := ⟨_, rfl⟩
  simp only [hD] at d0 d1 HZ0 ⊢
  clear hD
  go_wp2_with fail
  refine (HOP.out _ _ _ HO1.out.rd HO2.out.rd).mono ?_
  rintro e w3 ⟨hb3, hS, -⟩
  obtain ⟨S, U, rfl, hso, hU⟩ := hS st rfl
  have HB3 := hid (HB2.out.below hb3)
  have d0 := keepc hb3 d0; have d1 := keepc hb3 d1
  have hz2 : w.heap.size < W2.heap.size := HB2.out.lt
  have HUR : Hid (∀ k, U k → k ≠ w.heap.size) := fun k hk e => by have := hU k hk; omega
  have HU0 : Hid (∀ k, U k → w.heap.size ≤ k) := fun k hk => by have := hU k hk; omega
  have n1 : ∀ k, (Value.slice o1 N1 c1).ownBlock = some k → ¬ (U k ∨ k = w.heap.size) := fun k hk => by
    have h1 := (World.ownsRow.lt HO1.out k hk).1
    have h2 := (World.ownsRow.lt HO1.out k hk).2
    rintro (hu | hu)
    · have := hU k hu; omega
    · rw [World.size_alloc] at h1; omega
  have n2 : ∀ k, (Value.slice o2 N2 c2).ownBlock = some k → ¬ (U k ∨ k = w.heap.size) := fun k hk => by
    have h1 := (World.ownsRow.lt HO2.out k hk).1
    have h2 := (World.ownsRow.lt HO2.out k hk).2
    rintro (hu | hu)
    · have := hU k hu; omega
    · rw [World.size_alloc] at h1; omega
  have HK1 := hid (keep_S (U := fun k => U k ∨ k = w.heap.size) (HO1.out.below hb3) n1)
  have HK2 := hid (keep_W (U := fun k => U k ∨ k = w.heap.size) (HO2.out.below hb3) n2)
  have HSO := hid hso
  clear n1 n2 hU hso hb3 hS HO1 HO2 HB2 hz2
  obtain ⟨⟨v0, y0⟩, f0⟩ := HB3.out.2.1
  obtain ⟨⟨v1, y1⟩, f1⟩ := HB3.out.2.2
  go_wp2_with fail
  go_region
  all_goals
    go_wp2_with fail
    obtain ⟨W9, hW9⟩ : ∃ W9, W9 = (((w3.setCell ⟨w.heap.size, 0, none⟩ (.slice o1 N1 c1)).setCell ⟨w.heap.size, 1, none⟩ (.slice o2 N2 c2)).drew) := ⟨_, rfl⟩
    have hf9 : Frm (fun k => k = w.heap.size) w3 W9 := by rw [hW9]; exact frm_two' _ _ _ _ _ _
    have hb9 : Below w.heap.size w W9 := Frm.below HB3.out.1 hf9 (fun k hk => by rw [hk]; exact Nat.le_refl _) HB3.out.1.size
    have hz := HB3.out.lt
    refine bodyPost_ret (v := .tuple #[.pointer (some ⟨S, 0, none⟩), .agg #[.slice o1 N1 c1, .slice o2 N2 c2], .bool true]) (by simp [results, Try.results27, go_sem, y0, y1, f0, f1, hz]) rfl ⟨S, U, _, _, rfl, ⟨?_, ?_, HU0.out⟩, ?_, ?_⟩
    · rw [← hW9]; exact HSO.out.frm hf9 HUR.out
    · rw [← hW9]; exact hb9
    · rw [← hW9]; exact HK1.out.step (hf9.mono fun i _ h => .inr h) (fun k hk => .inl (.inl hk))
    · rw [← hW9]; exact HK2.out.step (hf9.mono fun i _ h => .inr h) (fun k hk => .inl (.inl hk))
end Go.Proofs.Ytifcgimpgbeocaa
/- behind. -/
set_option linter.unusedVariables false
set_option linter.unusedSimpArgs false
namespace Go.Proofs.Ytifcgimpgbeocaa
open Go.RowKit
attribute [local go_sem] Oper.semAt_some
def RetDkB (d : Dk) (w : World) (e : Ending) (w' : World) : Prop := ∃ vp vq, e = .returned (.tuple #[.agg #[vp, vq], .bool true]) ∧ OS w' w.heap.size vp d.1 ∧ OW w' w.heap.size vq d.2 ∧ Below w.heap.size w w'
theorem acted_dk {d : Dk} {acts : List Ac} (hd : isDk d = true) (ha : Acted d.1.length acts) (k : Nat) : isDk ((acts.take k).foldl actDk d) = true ∧ ((acts.take k).foldl actDk d).1.length = d.1.length ∧ ((acts.take k).foldl actDk d).2.length ≤ d.2.length + acts.length := by
  refine ⟨fold_dk _ _ hd (fun a h e he => ha a (List.mem_of_mem_take h) e he), fold_len _ _, ?_⟩
  have h1 := fold_wait (acts.take k) d
  have h2 : (acts.take k).length ≤ acts.length := List.length_take_le' _ _
  omega
theorem acted_step {d : Dk} {acts : List Ac} {k : Nat} {a : Ac} (hd : isDk d = true) (ha : Acted d.1.length acts) (hk : acts[k]? = some a) : actE ((acts.take k).foldl actDk d) a = ((acts.take (k + 1)).foldl actDk d, 0) := by
  obtain ⟨h1, h2, -⟩ := acted_dk hd ha k
  unfold actE
  rw [if_pos h1, if_pos (ha a (List.mem_of_getElem? hk) _ h2), List.take_add_one, hk, List.foldl_append]
  rfl
theorem setF {w : World} {B i : Nat} {x : Value} (v : Value) (h : w.cell? ⟨B, i, none⟩ = some x) : (w.setCell ⟨B, i, none⟩ v).cell? ⟨B, i, none⟩ = some v := World.cell?_setCell_same _ _ _ h
theorem setO (w : World) (S i : Nat) (v : Value) (j : Nat) (h : j ≠ i) : (w.setCell ⟨S, i, none⟩ v).cell? ⟨S, j, none⟩ = w.cell? ⟨S, j, none⟩ := World.cell?_setCell_other _ _ _ _ (fun e => h (by cases e; rfl))
set_option maxHeartbeats 2000000 in
set_option maxRecDepth 100000 in
theorem behind_any (d : Dk) (acts : List Ac) (cuts : List Int) (vp vq va vc : Value) (w : World) (hp : RdS w vp d.1) (hq : RdW w vq d.2) (ha : RdA w va acts) (hc : RdI w vc cuts) (hd : isDk d = true) (hac : Acted d.1.length acts) (hl : d.2.length + acts.length ≤ 1000000) :
    Calls Try.prog 23 #[.agg #[vp, vq], va, vc] w (RetDkB (crashDk (acts.foldl actDk d) cuts) w) := by
  have HDK := hid (acted_dk hd hac)
  have HST := hid (fun k a (h : acts[k]? = some a) => acted_step hd hac h)
  have HL := hid hl
  have HCU := hid (fun w' (hb : Below w.heap.size w w') => hc.below hb)
  obtain ⟨oc, cc, hvc, -, -⟩ := id hc
  subst hvc
  obtain ⟨op, cp, rfl, hcp, hpc⟩ := id hp
  obtain ⟨oq, cq, rfl, hcq, hqc⟩ := id hq
  obtain ⟨oa, ca, rfl, hca, haa⟩ := ha
  have HAA := hid haa
  obtain ⟨N, hN⟩ : ∃ N, acts.length = N := ⟨_, rfl⟩
  have HN := hid hN
  rw [hN] at hca ⊢
  have HT0 : Hid (((acts.take 0).foldl actDk d) = d) := rfl
  obtain ⟨N1, hN1⟩ : ∃ N1, d.1.length = N1 := ⟨_, rfl⟩
  obtain ⟨N2, hN2⟩ : ∃ N2, d.2.length = N2 := ⟨_, rfl⟩
  simp only [hN1, hN2] at hp hq ⊢
  have HN1 := hid hN1; have HN2 := hid hN2
  obtain ⟨M, hM⟩ : ∃ M, cuts.length = M := ⟨_, rfl⟩
  simp only [hM] at HCU ⊢
  have hNE : N ≤ 1000000 := by omega
  obtain ⟨W0, hW0⟩ : ∃ W0, W0 = w.alloc (.cells #[.slice op N1 cp, .slice oq N2 cq] 27) := ⟨_, rfl⟩
  have hb0 : Below w.heap.size w W0 := by rw [hW0]; exact balloc (Below.refl _ _) _
  have hz0 : W0.heap.size = w.heap.size + 1 := by rw [hW0]; simp
  have e0 : W0.cell? ⟨w.heap.size, 0, none⟩ = some (.slice op N1 cp) := by rw [hW0]; exact cell_new _ _ _ 0 _ rfl
  have e1 : W0.cell? ⟨w.heap.size, 1, none⟩ = some (.slice oq N2 cq) := by rw [hW0]; exact cell_new _ _ _ 1 _ rfl
  have fz : ∀ j, W0.frozen? ⟨w.heap.size, j, none⟩ = false := fun j => by rw [hW0]; unfold World.frozen?; rw [heap_alloc_new]; simp
  have hB2 := B2.new W0 27 (.slice none 0 0) (.slice none 0 0)
  obtain ⟨W1, hW1⟩ : ∃ W1, W1 = W0.alloc (.cells #[.slice none 0 0, .slice none 0 0] 27) := ⟨_, rfl⟩
  rw [← hW1] at hB2
  have hz1 : W1.heap.size = W0.heap.size + 1 := by rw [hW1]; simp
  have hb1 := below_step hB2.1 hb0
  have HF : Hid (∀ k, (k = w.heap.size ∨ k = w.heap.size + 1) → w.heap.size ≤ k) := fun k hk => by omega
  have HP := hid (keep_of_below (F := fun k => k = w.heap.size ∨ k = w.heap.size + 1) (fun w' hb => hp.below hb) hb1 HF.out)
  have HQ := hid (keep_of_below (F := fun k => k = w.heap.size ∨ k = w.heap.size + 1) (fun w' hb => hq.below hb) hb1 HF.out)
  have E0 := hid (keepc hB2.1 e0); have E1 := hid (keepc hB2.1 e1)
  have FZ : Hid (∀ j, W1.frozen? ⟨w.heap.size, j, none⟩ = false) := fun j => (hB2.1.frozen (p := ⟨w.heap.size, j, none⟩) (by show w.heap.size < _; omega)).trans (fz j)
  have HR0 := hid hB2.2.1; have HR1 := hid hB2.2.2
  rw [hz0] at HR0 HR1
  have HZ1 : Hid (W1.heap.size = w.heap.size + 2) := by unfold Hid; omega
  have HB1 := hid hb1
  have HW0 := hid hW0; have HW1 := hid hW1
  have HZ0 := hid hz0
  have HPQ1 : Hid (Keep (fun k => k = w.heap.size ∨ k = w.heap.size + 1) W1 (fun x => RdS x (.slice op N1 cp) ((acts.take 0).foldl actDk d).1)) := HP.out
  have HPQ2 : Hid (Keep (fun k => k = w.heap.size ∨ k = w.heap.size + 1) W1 (fun x => RdW x (.slice oq N2 cq) ((acts.take 0).foldl actDk d).2)) := HQ.out
  clear hp hq hpc hqc haa hc hN hN1 hN2 hM hW0 hW1 hz0 hz1 hb0 hb1 hB2 e0 e1 fz HP HQ hl hd hac hcp hcq
  go_enter Try.func23, Try.ntmps23
  go_upto_region 1 with fail
  have e := HW0.out
  rw [← e]
  have e2 := HW1.out
  rw [← e2]
  try rw [HZ0.out]
  clear e e2 HW0 HW1
  go_wp2_with fail
  go_loopw [16] (fun i wr => ∃ (k : Nat) (op : Option Addr) (cp : Nat) (oq : Option Addr) (n2 cq : Nat), i = .int .i64 k ∧ k ≤ N ∧ Hid (wr.cell? ⟨w.heap.size, 0, none⟩ = some (.slice op N1 cp)) ∧ Hid (wr.cell? ⟨w.heap.size, 1, none⟩ = some (.slice oq n2 cq)) ∧ Hid (∀ j, wr.frozen? ⟨w.heap.size, j, none⟩ = false) ∧
    Hid (OwnC wr ⟨w.heap.size + 1, 0, none⟩) ∧ Hid (OwnC wr ⟨w.heap.size + 1, 1, none⟩) ∧ Hid (Keep (fun k => k = w.heap.size ∨ k = w.heap.size + 1) wr (fun x => RdS x (.slice op N1 cp) ((acts.take k).foldl actDk d).1)) ∧
    Hid (Keep (fun k => k = w.heap.size ∨ k = w.heap.size + 1) wr (fun x => RdW x (.slice oq n2 cq) ((acts.take k).foldl actDk d).2)) ∧ Hid (Below w.heap.size w wr) ∧ Hid (w.heap.size + 2 ≤ wr.heap.size)) (fun i _ => N - (intOf i).toNat)
  case atStart => exact ⟨0, op, cp, oq, N2, cq, rfl, Nat.zero_le _, E0, E1, FZ, HR0, HR1, HPQ1, HPQ2, HB1, by unfold Hid; have := HZ1.out; omega⟩
  case round =>
    clear E0 E1 FZ HR0 HR1 HPQ1 HPQ2 HB1 HZ1
    obtain ⟨k, op, cp, oq, n2, cq, rfl, hk, E0, E1, FZ, HR0, HR1, HPQ1, HPQ2, HB, HZ⟩ := hrel
    obtain ⟨dk, hdk⟩ : ∃ dk, (acts.take k).foldl actDk d = dk := ⟨_, rfl⟩
    have hDK := HDK.out k
    rw [hdk] at hDK HPQ1 HPQ2
    have HDK1 := hid hDK
    have e0 := E0.out; have e1 := E1.out
    by_cases hlt : k < N
    rotate_left
    · have hall : acts.foldl actDk d = dk := by rw [← hdk, List.take_of_length_le (by have := HN.out; omega)]
      have HALL := hid hall
      have HCR := hid (crashE_any dk _ _ cuts _ wr HPQ1.out.now HPQ2.out.now (HCU.out wr HB.out) (by have := hDK.2.2; have := HL.out; omega))
      have hce : crashE dk cuts = (crashDk dk cuts, 0) := by unfold crashE; rw [if_pos hDK.1]
      rw [hce] at HCR
      clear hall hdk hDK hce
      go_wp2_with fail
      refine HCR.out.mono ?_
      rintro e w5 ⟨u1, u2, rfl, ho1, ho2, hb5⟩
      obtain ⟨o1, c1, rfl, -, -⟩ := ho1.rd
      obtain ⟨o2, c2, rfl, -, -⟩ := ho2.rd
      generalize hq1 : (crashDk dk cuts).1.length = q1 at *
      generalize hq2 : (crashDk dk cuts).2.length = q2 at *
      obtain ⟨w6, hw6⟩ : ∃ w6, w6 = w5.alloc (.cells #[.slice o1 q1 c1, .slice o2 q2 c2] 27) := ⟨_, rfl⟩
      have hba : Below w5.heap.size w5 w6 := by rw [hw6]; exact balloc (Below.refl _ _) _
      have hb6 := below_step hba hb5
      have HO1 := hid (ho1.below hba); have HO2 := hid (ho2.below hba)
      have d0 : w6.cell? ⟨w5.heap.size, 0, none⟩ = some (.slice o1 q1 c1) := by rw [hw6]; exact cell_new _ _ _ 0 _ rfl
      have d1 : w6.cell? ⟨w5.heap.size, 1, none⟩ = some (.slice o2 q2 c2) := by rw [hw6]; exact cell_new _ _ _ 1 _ rfl
      have HR0 := hid (keepOwn hb6 HR0.out); have HR1 := hid (keepOwn hb6 HR1.out)
      have HB6 := hid (below_step hb6 HB.out)
      have HW6 := hid hw6
      clear hw6 hba hb6 hb5 ho1 ho2 e0 e1
      go_upto_region 10 with fail
      have e := HW6.out
      rw [← e]
      clear e HW6
      obtain ⟨⟨v0, y0⟩, f0⟩ := HR0.out
      obtain ⟨⟨v1, y1⟩, f1⟩ := HR1.out
      go_wp2_with fail
      obtain ⟨W9, hW9⟩ : ∃ W9, W9 = ((w6.setCell ⟨w.heap.size + 1, 0, none⟩ (.slice o1 q1 c1)).setCell ⟨w.heap.size + 1, 1, none⟩ (.slice o2 q2 c2)) := ⟨_, rfl⟩
      have hf9 : Frm (fun k => k = w.heap.size + 1) w6 W9 := by rw [hW9]; exact frm_two _ _ _ _ _ _
      have hz := World.block_lt_of_cell? _ _ y0
      simp only at hz
      have n1 := own_not HO1.out (U := fun k => k = w.heap.size + 1) (fun k hk => by have := HZ.out; omega)
      have n2 := own_not HO2.out (U := fun k => k = w.heap.size + 1) (fun k hk => by have := HZ.out; omega)
      rw [HALL.out]
      refine bodyPost_ret (v := .tuple #[.agg #[.slice o1 q1 c1, .slice o2 q2 c2], .bool true]) (by simp [results, Try.results23, go_sem, y0, y1, f0, f1, hz]) rfl ⟨_, _, rfl, ?_, ?_, ?_⟩
      · rw [← hW9]; exact OS.mono (hf9.row HO1.out n1) (by have := HZ.out; omega)
      · rw [← hW9]; exact OW.mono (hf9.row HO2.out n2) (by have := HZ.out; omega)
      · rw [← hW9]; exact Frm.below HB6.out hf9 (fun k hk => by omega) HB6.out.size
    · obtain ⟨⟨ab, ai, asx⟩, hx⟩ : ∃ r, acts[k]? = some r := ⟨_, List.getElem?_eq_getElem (by have := HN.out; omega)⟩
      have hHC := HAA.out
      rcases hHC with hq | ⟨b1, off, rfl, hbq, hq⟩
      · rw [hq] at hx; simp at hx
      obtain ⟨c0, c1, c2⟩ := hq k _ hx
      have c0 := keepc HB.out c0; have c1 := keepc HB.out c1; have c2 := keepc HB.out c2
      have hst := HST.out k _ hx
      rw [hdk] at hst
      have HNX := hid hst
      obtain ⟨wx, hwx⟩ : ∃ wx, wx = wr.alloc (.cells #[.bool ab, .int .i64 ai, strV asx] 104) := ⟨_, rfl⟩
      have hba : Below wr.heap.size wr wx := by rw [hwx]; exact balloc (Below.refl _ _) _
      have x0 : wx.cell? ⟨wr.heap.size, 0, none⟩ = some (.bool ab) := by rw [hwx]; exact cell_new _ _ _ 0 _ rfl
      have x1 : wx.cell? ⟨wr.heap.size, 1, none⟩ = some (.int .i64 ai) := by rw [hwx]; exact cell_new _ _ _ 1 _ rfl
      have x2 : wx.cell? ⟨wr.heap.size, 2, none⟩ = some (strV asx) := by rw [hwx]; exact cell_new _ _ _ 2 _ rfl
      have e0 := keepc hba e0; have e1 := keepc hba e1
      have HPX := hid (HPQ1.out.below hba); have HQX := hid (HPQ2.out.below hba)
      have HAC := hid (actE_any dk ab ai asx _ _ wx HPX.out.now HQX.out.now (by have := hDK.2.2; have := HL.out; omega))
      rw [hst] at HAC
      have HBX := hid hba
      have HWX := hid hwx
      have hltk : (k : Int) < (N : Int) := by omega
      clear hwx hba hq hx hst hdk hbq hDK
      go_upto_region 4 with fail
      have e := HWX.out
      rw [← e]
      clear e HWX c0 c1 c2
      go_wp2_with fail
      refine HAC.out.mono ?_
      rintro e w5 ⟨u1, u2, rfl, ho1, ho2, hb5⟩
      obtain ⟨hd1, hd2, hd3⟩ := HDK.out (k + 1)
      obtain ⟨dk2, hdk2⟩ : ∃ dk, (acts.take (k + 1)).foldl actDk d = dk := ⟨_, rfl⟩
      rw [hdk2] at hd1 hd2 hd3 ho1 ho2
      have HD2 := hid hdk2
      obtain ⟨o1, c1, rfl, -, -⟩ := ho1.rd
      obtain ⟨o2, c2, rfl, -, -⟩ := ho2.rd
      have hq1 : dk2.1.length = N1 := by rw [hd2]; exact HN1.out
      rw [hq1] at ho1
      simp only [hq1]
      obtain ⟨q2, hq2⟩ : ∃ q2, dk2.2.length = q2 := ⟨_, rfl⟩
      rw [hq2] at ho2
      simp only [hq2]
      obtain ⟨w6, hw6⟩ : ∃ w6, w6 = w5.alloc (.cells #[.slice o1 N1 c1, .slice o2 q2 c2] 27) := ⟨_, rfl⟩
      have hba : Below w5.heap.size w5 w6 := by rw [hw6]; exact balloc (Below.refl _ _) _
      have hb6 := below_step hba hb5
      have hb6r := below_step hb6 HBX.out
      have HO1 := hid (ho1.below hba); have HO2 := hid (ho2.below hba)
      have d0 : w6.cell? ⟨w5.heap.size, 0, none⟩ = some (.slice o1 N1 c1) := by rw [hw6]; exact cell_new _ _ _ 0 _ rfl
      have d1 : w6.cell? ⟨w5.heap.size, 1, none⟩ = some (.slice o2 q2 c2) := by rw [hw6]; exact cell_new _ _ _ 1 _ rfl
      have e0 := keepc hb6 e0; have e1 := keepc hb6 e1
      have HR0 := hid (keepOwn hb6r HR0.out); have HR1 := hid (keepOwn hb6r HR1.out)
      have FZ6 : Hid (∀ j, w6.frozen? ⟨w.heap.size, j, none⟩ = false) := fun j => (hb6r.frozen (p := ⟨w.heap.size, j, none⟩) (by have := HZ.out; show w.heap.size < _; omega)).trans (FZ.out j)
      have HB6 := hid (below_step hb6r HB.out)
      have HZ6 : Hid (w.heap.size + 2 ≤ w6.heap.size) := by have := hb6r.size; have := HZ.out; unfold Hid; omega
      have HZX := HBX.out.size
      have n1 := own_not HO1.out (U := fun k => k = w.heap.size ∨ k = w.heap.size + 1) (fun k hk => by have := HZ.out; omega)
      have n2 := own_not HO2.out (U := fun k => k = w.heap.size ∨ k = w.heap.size + 1) (fun k hk => by have := HZ.out; omega)
      have HK1 := hid (keep_S HO1.out n1)
      have HK2 := hid (keep_W HO2.out n2)
      have f0 := FZ6.out 0; have f1 := FZ6.out 1
      have HW6 := hid hw6
      clear hw6 hba hb6 hb6r hb5 ho1 ho2 n1 n2 hd1 hd2 hd3 hdk2 hq1 hq2 HZX x0 x1 x2 HPX HQX HPQ1 HPQ2 HO1 HO2 HBX FZ
      go_upto_region 5 with fail
      have e := HW6.out
      rw [← e]
      clear e HW6
      go_wp2_with fail
      obtain ⟨W9, hW9⟩ : ∃ W9, W9 = ((w6.setCell ⟨w.heap.size, 0, none⟩ (.slice o1 N1 c1)).setCell ⟨w.heap.size, 1, none⟩ (.slice o2 q2 c2)) := ⟨_, rfl⟩
      have hf9 : Frm (fun k => k = w.heap.size) w6 W9 := by rw [hW9]; exact frm_two _ _ _ _ _ _
      go_roundw
      case rel =>
        rw [← hW9]
        refine ⟨k + 1, o1, c1, o2, q2, c2, by go_num, by omega, ?_, ?_, ?_, ?_, ?_, ?_, ?_, ?_, ?_⟩
        · rw [hW9]; unfold Hid; rw [setO _ _ _ _ _ (by decide)]; exact setF _ e0
        · rw [hW9]; exact setF (w := w6.setCell _ _) _ (by rw [setO _ _ _ _ _ (by decide)]; exact e1)
        · intro j; rw [hW9, World.frozen?_setCell, World.frozen?_setCell]; exact FZ6.out j
        · exact hf9.ownc (by simp) HR0.out
        · exact hf9.ownc (by simp) HR1.out
        · rw [HD2.out]; exact HK1.out.step (hf9.mono fun i _ h => .inl h) (fun k hk => .inl hk)
        · rw [HD2.out]; exact HK2.out.step (hf9.mono fun i _ h => .inl h) (fun k hk => .inl hk)
        · exact Frm.below HB6.out hf9 (fun k hk => by omega) HB6.out.size
        · have := hf9.size; have := HZ6.out; unfold Hid; omega
      case measure => simp [intOf]; omega
end Go.Proofs.Ytifcgimpgbeocaa
/- allowed. -/
set_option linter.unusedVariables false
set_option linter.unusedSimpArgs false
namespace Go.Proofs.Ytifcgimpgbeocaa
open Go.RowKit
attribute [local go_sem] Oper.semAt_some
theorem lastTo_succ {H : Hist} {at_ k n : Nat} {x : List Ds} (h : H[k]? = some (n, x)) : lastTo H at_ (k + 1) = if n ≤ at_ then k else lastTo H at_ k := by
  show (match H[k]? with | some x => if x.1 ≤ at_ then k else lastTo H at_ k | none => lastTo H at_ k) = _
  rw [h]
set_option maxHeartbeats 2000000 in
set_option maxRecDepth 100000 in
theorem allowed_any (H : Hist) (va vd vx : Value) (at_ : Nat) (data : List Ds) (w : World) (hA : RdI w va (H.map (fun x => (x.1 : Int)))) (hD : RdH w vd (H.map (·.2))) (hX : RdD w vx data) (hal : AllowedP H at_ data) (hH : H.length ≤ 1000) (hat : at_ ≤ 1000000000) (hl : data.length ≤ 8) (hds : AllDs data) :
    Calls Try.prog 24 #[.agg #[va, vd], .int .i64 (at_ : Int), vx] w (Ret (.bool true) w) := by
  obtain ⟨n, x, hn, hcase⟩ := allowed_parts hal
  have hlt := lastTo_le H at_ H.length
  have HSM := hid (fun y vy w' (hb : Below w.heap.size w w') (h : RdD w' vy y) => rsameall_any data y vx vy w' (hX.below hb) h (by unfold maxLen; omega) (fun d hd => by have := isDs_len (hds d hd); unfold maxLen; omega))
  obtain ⟨oA, cA, rfl, hcA, hAA⟩ := hA
  obtain ⟨oD, cD, rfl, hcD, hDD⟩ := hD
  obtain ⟨oX, cX, rfl⟩ := hX.slice
  simp only [List.length_map] at hcA hcD ⊢
  obtain ⟨N, hN⟩ : ∃ N, H.length = N := ⟨_, rfl⟩
  rw [hN] at hn hcase hH hlt hcA hcD ⊢
  have HN := hid hN
  have HA : Hid (∀ (k m : Nat) (y : List Ds), H[k]? = some (m, y) → ∃ b off, oA = some ⟨b, off, none⟩ ∧ b < w.heap.size ∧ w.cell? ⟨b, off + k, none⟩ = some (.int .i64 (m : Int))) := fun k m y h => by
    rcases hAA with h1 | ⟨b, off, e, hb, h1⟩
    · rw [List.map_eq_nil_iff] at h1; rw [h1] at h; simp at h
    · exact ⟨b, off, e, hb, h1 k (m : Int) (by rw [List.getElem?_map, h]; rfl)⟩
  have HD : Hid (∀ (k m : Nat) (y : List Ds), H[k]? = some (m, y) → ∃ b off u, oD = some ⟨b, off, none⟩ ∧ w.cell? ⟨b, off + k, none⟩ = some u ∧ RdD w u y) := fun k m y h => by
    rcases hDD with h1 | ⟨b, off, e, hb, h1⟩
    · rw [List.map_eq_nil_iff] at h1; rw [h1] at h; simp at h
    · obtain ⟨u, h2, h3⟩ := h1 k y (by rw [List.getElem?_map, h]; rfl)
      exact ⟨b, off, u, e, h2, h3⟩
  have HLS := hid (fun (k m : Nat) (y : List Ds) (h : H[k]? = some (m, y)) => lastTo_succ (at_ := at_) h)
  have HLE := hid (lastTo_le H at_)
  obtain ⟨L, hL⟩ : ∃ L, lastTo H at_ N = L := ⟨_, rfl⟩
  rw [hL] at hn hcase hlt
  have hLN : L < N := by rw [← hN]; exact (List.getElem?_eq_some_iff.1 hn).1
  have HLL := hid hL
  have HNN := hid hn
  have HCS := hid hcase
  obtain ⟨bA, offA, rfl, hbA, cAL⟩ := HA.out L n x hn
  obtain ⟨bD, offD, uL, rfl, cDL, hRL⟩ := HD.out L n x hn
  have HRL := hid hRL
  obtain ⟨W, hW⟩ : ∃ W, W = w.alloc (.cells #[.slice (some ⟨bA, offA, none⟩) N cA, .slice (some ⟨bD, offD, none⟩) N cD] 37) := ⟨_, rfl⟩
  have hbW : Below w.heap.size w W := by rw [hW]; exact balloc (Below.refl _ _) _
  have k0 : W.cell? ⟨w.heap.size, 0, none⟩ = some (.slice (some ⟨bA, offA, none⟩) N cA) := by rw [hW]; exact cell_new _ _ _ 0 _ rfl
  have k1 : W.cell? ⟨w.heap.size, 1, none⟩ = some (.slice (some ⟨bD, offD, none⟩) N cD) := by rw [hW]; exact cell_new _ _ _ 1 _ rfl
  have CAL := hid (keepc hbW cAL); have CDL := hid (keepc hbW cDL)
  have HBW := hid hbW
  have HW := hid hW
  have hL0 : Hid (lastTo H at_ 0 = 0) := rfl
  generalize data.length = ND at *
  clear hW hbW hAA hDD hcase hn hL hN cAL cDL hRL hal hds hX hl
  go_enter Try.func24, Try.ntmps24
  go_upto_region 1 with fail
  have e := HW.out
  rw [← e]
  clear e HW
  obtain ⟨Z, hZ⟩ : ∃ Z, w.heap.size = Z := ⟨_, rfl⟩
  simp only [hZ] at k0 k1 ⊢
  clear hZ
  go_wp2_with fail
  go_loopw [7, 13] (fun u i wr => ∃ k : Nat, i = .int .i64 k ∧ k ≤ N ∧ u = .int .i64 ((lastTo H at_ k : Nat) : Int) ∧ Hid (Below W.heap.size W wr)) (fun _ i _ => N - (intOf i).toNat)
  case atStart => exact ⟨0, rfl, Nat.zero_le _, by rw [hL0.out]; rfl, Below.refl _ _⟩
  case round =>
    obtain ⟨k, rfl, hk, rfl, HB⟩ := hrel
    have k0 := keepc HB.out k0; have k1 := keepc HB.out k1
    by_cases hlt2 : k < N
    · obtain ⟨⟨m, y⟩, hy⟩ : ∃ r, H[k]? = some r := ⟨_, List.getElem?_eq_getElem (by have := HN.out; omega)⟩
      obtain ⟨b, off, e, hbl, cm⟩ := HA.out k m y hy
      cases e
      have cm := keepc HB.out (keepc HBW.out cm)
      have HS := hid (HLS.out k m y hy)
      have hle := HLE.out k
      obtain ⟨Q, hQ⟩ : ∃ Q, lastTo H at_ k = Q := ⟨_, rfl⟩
      rw [hQ] at hle ⊢
      have HQ := hid hQ
      clear hy hQ
      by_cases hm : m ≤ at_
      · have hm' : (m : Int) ≤ (at_ : Int) := by omega
        go_wp2_with fail
        go_roundw
        case rel => exact ⟨k + 1, by go_num, by omega, by rw [HS.out, if_pos hm], HB⟩
        case measure => simp [intOf]; omega
      · have hm' : ¬ (m : Int) ≤ (at_ : Int) := by omega
        go_wp2_with fail
        go_roundw
        case rel => exact ⟨k + 1, by go_num, by omega, by rw [HS.out, if_neg hm, HQ.out], HB⟩
        case measure => simp [intOf]; omega
    · have hk2 : k = N := by omega
      have hge : ¬ (k : Int) < (N : Int) := by omega
      rw [hk2, HLL.out]
      have CAL := hid (keepc HB.out CAL.out)
      have cdl := keepc HB.out CDL.out
      have hLi : (L : Int) < (N : Int) := by omega
      have HSX := hid (HSM.out x uL wr (below_step HB.out HBW.out) ((HRL.out.below HBW.out).below HB.out))
      have HCX := HCS.out
      clear hk2 HCS
      rcases HCX with hx | ⟨hx, hna, m, y, hy, hyd⟩
      · have hd : decide (data = x) = true := by simpa using hx
        rw [hd] at HSX
        clear hx hd
        go_wp2_with fail
        refine HSX.out.mono ?_
        rintro e w5 ⟨rfl, hb5⟩
        have HB5 := hid (below_step hb5 (below_step HB.out HBW.out))
        clear hb5
        go_wp2_with fail
        go_ret
        exact ⟨rfl, HB5.out⟩
      · have hd : decide (data = x) = false := by simpa using hx
        rw [hd] at HSX
        obtain ⟨b, off, u2, e, cy, hRy⟩ := HD.out (L + 1) m y hy
        cases e
        have hL1 : L + 1 < N := by rw [← HN.out]; exact (List.getElem?_eq_some_iff.1 hy).1
        have HSY := hid (fun w' (hb : Below W.heap.size W w') => HSM.out y u2 w' (below_step hb HBW.out) ((hRy.below HBW.out).below hb))
        have hd2 : decide (data = y) = true := by simpa using hyd
        rw [hd2] at HSY
        have CY := hid (keepc HBW.out cy)
        have hL1i : (L : Int) + 1 < (N : Int) := by omega
        have hgt : (n : Int) < (at_ : Int) := by omega
        clear hx hd hy hyd hRy cy hd2
        go_wp2_with fail
        refine HSX.out.mono ?_
        rintro e w5 ⟨rfl, hb5⟩
        have HB5 := hid (below_step hb5 HB.out)
        have k0 := keepc hb5 k0; have k1 := keepc hb5 k1
        have cal := keepc hb5 CAL.out
        have cy := keepc HB5.out CY.out
        clear hb5 cdl
        have cyi : w5.cell? ⟨bD, offD + (L + 1), none⟩ = some u2 := cy
        go_wp2_with fail
        refine (HSY.out _ HB5.out).mono ?_
        rintro e w6 ⟨rfl, hb6⟩
        have HB6 := hid (below_step hb6 (below_step HB5.out HBW.out))
        clear hb6
        go_wp2_with fail
        go_ret
        exact ⟨rfl, HB6.out⟩
end Go.Proofs.Ytifcgimpgbeocaa
/- writes. -/
set_option linter.unusedVariables false
set_option linter.unusedSimpArgs false
namespace Go.Proofs.Ytifcgimpgbeocaa
open Go.RowKit
attribute [local go_sem] Oper.semAt_some
theorem wrD_take_le : ∀ (d : Ds) (k : Nat), wrD (d.take k) ≤ wrD d
  | [], k => by simp [wrD]
  | r :: d, 0 => by simp [wrD]
  | r :: d, k + 1 => by have := wrD_take_le d k; simp only [List.take_succ_cons, wrD]; omega
theorem wrAll_take_le : ∀ (d : List Ds) (k : Nat), wrAll (d.take k) ≤ wrAll d
  | [], k => by simp [wrAll]
  | r :: d, 0 => by simp [wrAll]
  | r :: d, k + 1 => by have := wrAll_take_le d k; simp only [List.take_succ_cons, wrAll]; omega
set_option maxHeartbeats 1000000 in
set_option maxRecDepth 100000 in
theorem writes_any (l : List Ds) (v : Value) (w : World) (hR : RdD w v l) (ha : AllDs l) (hl : l.length ≤ 8) : Calls Try.prog 58 #[v] w (Ret (.int .i64 (wrAll l : Int)) w) := by
  have HBD := hid (wrAll_bd l ha)
  have HBD2 : Hid (wrAll l ≤ 140800) := by have := HBD.out; unfold Hid; omega
  have HA := hid ha
  obtain ⟨o, cap, rfl, hcap, hc⟩ := hR
  have HC := hid hc
  obtain ⟨N, hN⟩ : ∃ N, l.length = N := ⟨_, rfl⟩
  have HN := hid hN
  rw [hN] at hl hcap ⊢
  have HTK := hid (wrAll_take_le l)
  clear hc hN ha HBD
  go_enter Try.func58, Try.ntmps58
  go_wp2_with fail
  go_loopw [3, 10] (fun u i wr => ∃ k : Nat, i = .int .i64 k ∧ k ≤ N ∧ u = .int .i64 ((wrAll (l.take k) : Nat) : Int) ∧ Hid (Below w.heap.size w wr)) (fun _ i _ => N - (intOf i).toNat)
  case atStart => exact ⟨0, rfl, Nat.zero_le _, by simp [wrAll], Below.refl _ _⟩
  case round =>
    obtain ⟨k, rfl, hk, rfl, HB⟩ := hrel
    by_cases hlt : k < N
    rotate_left
    · have e : l.take k = l := List.take_of_length_le (by have := HN.out; omega)
      rw [e]
      clear e
      generalize wrAll l = T at *
      go_wp2_with fail
      go_ret
      exact ⟨rfl, HB.out⟩
    obtain ⟨d, hd⟩ : ∃ r, l[k]? = some r := ⟨_, List.getElem?_eq_getElem (by have := HN.out; omega)⟩
    have hC := HC.out
    rcases hC with hq | ⟨b1, off1, rfl, hbl1, hq⟩
    · rw [hq] at hd; simp at hd
    obtain ⟨u, c0, hu⟩ := hq k d hd
    have c0 := HB.out.cell (p := ⟨b1, off1 + k, none⟩) hbl1 |>.trans c0
    have HT := hid (wrAll_take hd)
    have HLE := hid (HTK.out (k + 1))
    obtain ⟨T, hT⟩ : ∃ T, wrAll (l.take k) = T := ⟨_, rfl⟩
    have hT1 := HT.out
    rw [hT] at hT1
    rw [hT]
    have HT1 := hid hT1
    have hu' := hu.below HB.out
    obtain ⟨ou, cu, rfl, hcu, hcc⟩ := hu'
    have HCC := hid hcc
    obtain ⟨M, hM⟩ : ∃ M, d.length = M := ⟨_, rfl⟩
    have HM := hid hM
    rw [hM] at hcu c0
    have h64 : M ≤ 64 := by rw [← hM]; exact isDs_len (HA.out d (List.mem_of_getElem? hd))
    have HTK2 := hid (wrD_take_le d)
    clear hd hq hu hT hT1 hcc hM HT
    obtain ⟨W1, hW1⟩ : ∃ W1, W1 = wr := ⟨_, rfl⟩
    subst hW1
    go_wp2_with fail
    go_loopw [3, 16] (fun u i wx => ∃ j : Nat, i = .int .i64 j ∧ j ≤ M ∧ u = .int .i64 ((T + wrD (d.take j) : Nat) : Int) ∧ Hid (Below W1.heap.size W1 wx)) (fun _ i _ => M - (intOf i).toNat)
    case atStart => exact ⟨0, rfl, Nat.zero_le _, by simp [wrD], Below.refl _ _⟩
    case round =>
      obtain ⟨j, rfl, hj, rfl, HBJ⟩ := hrel
      by_cases hltj : j < M
      rotate_left
      · have e : d.take j = d := List.take_of_length_le (by have := HM.out; omega)
        rw [e]
        clear e
        have hk1 : (k : Int) + 1 < 9223372036854775807 := by omega
        have fk : IntKind.i64.wrap ((k : Int) + 1) = ((k + 1 : Nat) : Int) := by rw [IntWalk.i64_in _ ⟨by omega, by omega⟩]; omega
        go_wp2_with fail
        go_roundw
        case rel => exact ⟨k + 1, rfl, by omega, by rw [HT1.out], below_step HBJ.out HB.out⟩
        case measure => simp [intOf]; omega
      obtain ⟨x, hx⟩ : ∃ r, d[j]? = some r := ⟨_, List.getElem?_eq_getElem (by have := HM.out; omega)⟩
      have hC2 := HCC.out
      rcases hC2 with hq2 | ⟨b2, off2, rfl, hbl2, hq2⟩
      · rw [hq2] at hx; simp at hx
      obtain ⟨x0, x1⟩ := hq2 j x hx
      have x0 := keepc HBJ.out x0
      have x1 := keepc HBJ.out x1
      have HTJ := hid (wrD_take hx)
      have hle := HTK2.out (j + 1)
      have hle2 := HLE.out
      have hle3 := HBD2.out
      rw [HT1.out] at hle2
      rw [HTJ.out] at hle
      have hw1 : wr1 x = 4 + x.1.length + x.2.length := rfl
      obtain ⟨Q, hQ⟩ : ∃ Q, wrD (d.take j) = Q := ⟨_, rfl⟩
      rw [hQ] at hle ⊢
      obtain ⟨n1, hn1⟩ : ∃ n, x.1.length = n := ⟨_, rfl⟩
      obtain ⟨n2, hn2⟩ : ∃ n, x.2.length = n := ⟨_, rfl⟩
      have HN1 := hid hn1; have HN2 := hid hn2
      have HE : Hid (wrD (d.take (j + 1)) = Q + (4 + n1 + n2)) := by unfold Hid; rw [HTJ.out, hQ, hw1, hn1, hn2]
      have hbd : T + Q + (4 + n1 + n2) ≤ 140800 := by rw [hw1, hn1, hn2] at hle; omega
      clear hle hle2 hle3 hw1 hQ hx hq2 hn1 hn2
      obtain ⟨wx2, hwx2⟩ : ∃ wx2, wx2 = wr.alloc (.cells #[strV x.1, strV x.2] 59) := ⟨_, rfl⟩
      have y0 : wx2.cell? ⟨wr.heap.size, 0, none⟩ = some (strV x.1) := by rw [hwx2]; exact cell_new _ _ _ 0 _ rfl
      have y1 : wx2.cell? ⟨wr.heap.size, 1, none⟩ = some (strV x.2) := by rw [hwx2]; exact cell_new _ _ _ 1 _ rfl
      have HB2 : Hid (Below W1.heap.size W1 wx2) := by rw [hwx2]; exact below_step (balloc (Below.refl _ _) _) HBJ.out
      have HW2 := hid hwx2
      clear hwx2
      go_upto_region 8 with fail
      have e := HW2.out
      rw [← e]
      clear e HW2 x0 x1
      have f1 : IntKind.i64.wrap (4 + (n1 : Int)) = 4 + n1 := IntWalk.i64_in _ ⟨by omega, by omega⟩
      have f2 : IntKind.i64.wrap (4 + (n1 : Int) + n2) = 4 + n1 + n2 := IntWalk.i64_in _ ⟨by omega, by omega⟩
      have f3 : IntKind.i64.wrap (((T + Q : Nat) : Int) + (4 + n1 + n2)) = ((T + Q : Nat) : Int) + (4 + n1 + n2) := IntWalk.i64_in _ ⟨by omega, by omega⟩
      have l1 := HN1.out
      have l2 := HN2.out
      go_wp2_with fail
      go_roundw
      case rel => exact ⟨j + 1, by go_num, by omega, by rw [HE.out]; go_num, HB2.out⟩
      case measure => simp [intOf]; omega
end Go.Proofs.Ytifcgimpgbeocaa
