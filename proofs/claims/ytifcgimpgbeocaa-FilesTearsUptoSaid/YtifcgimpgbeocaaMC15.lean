/- The law FilesDisks, walked. -/
import Derived.Test.YtifcgimpgbeocaaK38
import Derived.Test.YtifcgimpgbeocaaK37
import Derived.Test.YtifcgimpgbeocaaMB22
import Derived.Test.YtifcgimpgbeocaaK27
import Derived.Test.YtifcgimpgbeocaaK33
set_option linter.unusedVariables false
set_option linter.unusedSimpArgs false
namespace Go.Proofs.Ytifcgimpgbeocaa
open Go.RowKit
attribute [local go_sem] Oper.semAt_some
theorem newDk_small (n : Int) : (newDk n).1.1.length ≤ 4096 ∧ (newDk n).1.2.length ≤ 4096 := by
  unfold newDk
  split
  · simp; omega
  · simp
theorem crashE_small (d : Dk) (cuts : List Int) : (crashE d cuts).1.1.length ≤ d.1.length ∧ (crashE d cuts).1.2.length ≤ d.2.length := by
  unfold crashE crashDk
  split
  · simp [crashTo_len]
  · simp
theorem actE_small (d : Dk) (a : Ac) : (actE d a).1.1.length ≤ d.1.length ∧ (actE d a).1.2.length ≤ d.2.length + 1 := by
  unfold actE
  split
  · split
    · exact ⟨Nat.le_of_eq (fold_len [a] d), by simpa using fold_wait [a] d⟩
    · simp
  · simp
/-- A disk in two cells, and its rows. -/
structure DB (w : World) (Y : Nat) (v1 v2 : Value) (d : Dk) : Prop where
  c0 : w.cell? ⟨Y, 0, none⟩ = some v1
  c1 : w.cell? ⟨Y, 1, none⟩ = some v2
  s : RdS w v1 d.1
  q : RdW w v2 d.2
theorem DB.below {w w' : World} {Y : Nat} {v1 v2 : Value} {d : Dk} (h : DB w Y v1 v2 d) (hb : Below w.heap.size w w') : DB w' Y v1 v2 d :=
  ⟨keepc hb h.c0, keepc hb h.c1, h.s.below hb, h.q.below hb⟩
theorem DB.new {w w1 : World} {v1 v2 : Value} {d : Dk} (h1 : RdS w v1 d.1) (h2 : RdW w v2 d.2) (e : w1 = w.alloc (.cells #[v1, v2] 27)) : DB w1 w.heap.size v1 v2 d := by
  subst e
  have hb := balloc (Below.refl w.heap.size w) (.cells #[v1, v2] 27)
  exact ⟨cell_new _ _ _ 0 _ rfl, cell_new _ _ _ 1 _ rfl, h1.below hb, h2.below hb⟩
theorem DB.same {w : World} {Y Y' : Nat} {v1 v2 u1 u2 : Value} {d : Dk} (h : DB w Y v1 v2 d) (h' : DB w Y' u1 u2 d) (hl1 : d.1.length ≤ 1000000000) (hl2 : d.2.length ≤ 1000000000) : ∀ w', Below w.heap.size w w' →
    Calls Try.prog 72 #[.agg #[v1, v2], .agg #[u1, u2]] w' (Ret (.bool true) w') :=
  fun w' hb => rsamedisk_self d _ _ _ _ w' (h.s.below hb) (h.q.below hb) (h'.s.below hb) (h'.q.below hb) hl1 hl2
set_option maxHeartbeats 8000000 in
set_option maxRecDepth 100000 in
theorem disks_law (d : Dk) (b : Bool) (p : Int) (s : Bs) (cuts : List Int) (vp vq vc : Value) (w : World) (hp : RdS w vp d.1) (hq : RdW w vq d.2) (hc : RdI w vc cuts) (hl1 : d.1.length ≤ 100000000) (hl2 : d.2.length ≤ 900000) (hl3 : cuts.length ≤ maxLen) (hs : s.length ≤ maxLen) :
    Calls Try.prog 14 #[.agg #[vp, vq], .agg #[.bool b, .int .i64 p, strV s], vc] w (Ret (.bool true) w) := by
  have HS := hid (fun w' => sane_any w')
  have HN1 := hid (fun w' => newdisk_any p w')
  have HN2 := hid (fun w' => rnewdisk_any p w')
  have HP1 := hid (fun w' (hb : Below w.heap.size w w') => readpage_any d vp vq p w' (hp.below hb) (hq.below hb) (by omega))
  have HP2 := hid (fun w' (hb : Below w.heap.size w w') => rreadpage_any d vp vq p w' (hp.below hb) (hq.below hb) (by omega) (by omega))
  have HA1 := hid (fun w' (hb : Below w.heap.size w w') => actE_any d b p s vp vq w' (hp.below hb) (hq.below hb) (by omega))
  have HA2 := hid (fun w' (hb : Below w.heap.size w w') => ract_any d b p s vp vq w' (hp.below hb) (hq.below hb) (by omega) (by omega) hs)
  have HC1 := hid (fun w' (hb : Below w.heap.size w w') => crashE_any d vp vq cuts vc w' (hp.below hb) (hq.below hb) (hc.below hb) (by omega))
  have HC2 := hid (fun w' (hb : Below w.heap.size w w') => rcrash_any d vp vq cuts vc w' (hp.below hb) (hq.below hb) (hc.below hb) (by omega) (by omega) hl3)
  have HK1 : Hid (∀ w' (hb : Below w.heap.size w w'), Calls Try.prog 70 #[.agg #[vp, vq]] w' (Ret (.int .i64 (chkD d)) w')) := fun w' hb => checkdisk_any d vp vq w' (hp.below hb) (hq.below hb) (by omega)
  have HK2 := hid (fun w' (hb : Below w.heap.size w w') => rcheckdisk_any d vp vq w' (hp.below hb) (hq.below hb) (by omega) (by omega))
  have sm1 := newDk_small p
  have sm2 := actE_small d (b, p, s)
  have sm3 := crashE_small d cuts
  obtain ⟨⟨D1, e1⟩, h1⟩ : ∃ r, newDk p = r := ⟨_, rfl⟩
  obtain ⟨⟨D2, e2⟩, h2⟩ : ∃ r, actE d (b, p, s) = r := ⟨_, rfl⟩
  obtain ⟨⟨D3, e3⟩, h3⟩ : ∃ r, crashE d cuts = r := ⟨_, rfl⟩
  obtain ⟨⟨P, e4⟩, h4⟩ : ∃ r, readPg d p = r := ⟨_, rfl⟩
  obtain ⟨e5, h5⟩ : ∃ r, chkD d = r := ⟨_, rfl⟩
  simp only [h1, h2, h3, h4, h5] at HN1 HN2 HP1 HP2 HA1 HA2 HC1 HC2 HK1 HK2 sm1 sm2 sm3
  have SM1 := hid (show D1.1.length ≤ 1000000000 ∧ D1.2.length ≤ 1000000000 by omega)
  have SM2 := hid (show D2.1.length ≤ 1000000000 ∧ D2.2.length ≤ 1000000000 by omega)
  have SM3 := hid (show D3.1.length ≤ 1000000000 ∧ D3.2.length ≤ 1000000000 by omega)
  obtain ⟨op, cp, rfl, -, -⟩ := id hp
  obtain ⟨oq, cq, rfl, -, -⟩ := id hq
  obtain ⟨oc, cc, rfl, -, -⟩ := id hc
  obtain ⟨N, hN⟩ : ∃ N, d.1.length = N := ⟨_, rfl⟩
  obtain ⟨M, hM⟩ : ∃ M, d.2.length = M := ⟨_, rfl⟩
  obtain ⟨L, hL⟩ : ∃ L, cuts.length = L := ⟨_, rfl⟩
  simp only [hN, hM, hL] at HP1 HP2 HA1 HA2 HC1 HC2 HK1 HK2 ⊢
  obtain ⟨W0, hW0⟩ : ∃ W0, W0 = w.alloc (.cells #[.slice op N cp, .slice oq M cq] 27) := ⟨_, rfl⟩
  have hb0 : Below w.heap.size w W0 := by rw [hW0]; exact balloc (Below.refl _ _) _
  have hz0 : W0.heap.size = w.heap.size + 1 := by rw [hW0]; simp
  have z0 : W0.cell? ⟨w.heap.size, 0, none⟩ = some (.slice op N cp) := by rw [hW0]; exact cell_new _ _ _ 0 _ rfl
  have z1 : W0.cell? ⟨w.heap.size, 1, none⟩ = some (.slice oq M cq) := by rw [hW0]; exact cell_new _ _ _ 1 _ rfl
  obtain ⟨W1, hW1⟩ : ∃ W1, W1 = W0.alloc (.cells #[.bool b, .int .i64 p, strV s] 104) := ⟨_, rfl⟩
  have hb1 : Below W0.heap.size W0 W1 := by rw [hW1]; exact balloc (Below.refl _ _) _
  have a0 : W1.cell? ⟨W0.heap.size, 0, none⟩ = some (.bool b) := by rw [hW1]; exact cell_new _ _ _ 0 _ rfl
  have a1 : W1.cell? ⟨W0.heap.size, 1, none⟩ = some (.int .i64 p) := by rw [hW1]; exact cell_new _ _ _ 1 _ rfl
  have a2 : W1.cell? ⟨W0.heap.size, 2, none⟩ = some (strV s) := by rw [hW1]; exact cell_new _ _ _ 2 _ rfl
  rw [hz0] at a0 a1 a2
  have Z0 := hid (keepc hb1 z0); have Z1 := hid (keepc hb1 z1)
  have A0 := hid a0; have A1 := hid a1; have A2 := hid a2
  have HB1 := hid (below_step hb1 hb0)
  have HW0 := hid hW0; have HW1 := hid hW1; have HZ0 := hid hz0
  clear hp hq hc hl1 hl2 hl3 hs sm1 sm2 sm3 h1 h2 h3 h4 h5 hN hM hL hW0 hW1 hb0 hb1 hz0 z0 z1 a0 a1 a2
  go_enter Try.func14, Try.ntmps14
  go_upto_region 1 with fail
  have ew := HW0.out
  simp only [← ew]
  have ew2 := HW1.out
  simp only [← ew2]
  clear ew ew2 HW0 HW1
  try rw [HZ0.out]
  obtain ⟨Z, hZ⟩ : ∃ Z, w.heap.size = Z := ⟨_, rfl⟩
  have HZ := hid hZ
  simp only [hZ] at Z0 Z1 A0 A1 A2 ⊢
  clear hZ HZ0
  go_wp2_with fail
  refine (HS.out _).mono ?_
  rintro e w1 ⟨rfl, hb1⟩
  have HB1 := hid (below_step hb1 HB1.out)
  have Z0 := hid (keepc hb1 Z0.out); have Z1 := hid (keepc hb1 Z1.out); have A0 := hid (keepc hb1 A0.out); have A1 := hid (keepc hb1 A1.out); have A2 := hid (keepc hb1 A2.out)
  clear hb1
  have z0 := Z0.out; have z1 := Z1.out; have a0 := A0.out; have a1 := A1.out; have a2 := A2.out
  go_wp2_with fail
  clear z0 z1 a0 a1 a2
  refine (HN1.out _).mono ?_
  rintro e w2 ⟨v1, v2, rfl, ho1, ho2, hb2⟩
  obtain ⟨o1x1, c1x1, rfl, -, -⟩ := ho1.rd
  obtain ⟨o2x1, c2x1, rfl, -, -⟩ := ho2.rd
  obtain ⟨n1x1, hn1⟩ : ∃ n, D1.1.length = n := ⟨_, rfl⟩
  obtain ⟨n2x1, hn2⟩ : ∃ n, D1.2.length = n := ⟨_, rfl⟩
  simp only [hn1, hn2] at ho1 ho2 ⊢
  obtain ⟨w3, hw3⟩ : ∃ w3, w3 = w2.alloc (.cells #[.slice o1x1 n1x1 c1x1, .slice o2x1 n2x1 c2x1] 27) := ⟨_, rfl⟩
  have DB1 := hid (DB.new ho1.rd ho2.rd hw3)
  have hba : Below w2.heap.size w2 w3 := by rw [hw3]; exact balloc (Below.refl _ _) _
  have hbb := below_step hba hb2
  have Z0 := hid (keepc hbb Z0.out); have Z1 := hid (keepc hbb Z1.out); have A0 := hid (keepc hbb A0.out); have A1 := hid (keepc hbb A1.out); have A2 := hid (keepc hbb A2.out)
  have HB1 := hid (below_step hbb HB1.out)
  have HW3 := hid hw3
  clear hw3 hba hbb hb2 ho1 ho2 hn1 hn2
  go_upto_region 4 with fail
  have ew := HW3.out
  rw [← ew]
  clear ew HW3
  obtain ⟨Y1, hY⟩ : ∃ Y, w2.heap.size = Y := ⟨_, rfl⟩
  simp only [hY] at DB1 ⊢
  clear hY
  obtain ⟨w1, hw1⟩ : ∃ w1, w1 = w3 := ⟨_, rfl⟩
  subst hw1
  have z0 := Z0.out; have z1 := Z1.out; have a0 := A0.out; have a1 := A1.out; have a2 := A2.out
  go_wp2_with fail
  clear z0 z1 a0 a1 a2
  refine (HN2.out _).mono ?_
  rintro e w2 ⟨v1, v2, rfl, ho1, ho2, hb2⟩
  obtain ⟨o1x2, c1x2, rfl, -, -⟩ := ho1.rd
  obtain ⟨o2x2, c2x2, rfl, -, -⟩ := ho2.rd
  obtain ⟨n1x2, hn1⟩ : ∃ n, D1.1.length = n := ⟨_, rfl⟩
  obtain ⟨n2x2, hn2⟩ : ∃ n, D1.2.length = n := ⟨_, rfl⟩
  simp only [hn1, hn2] at ho1 ho2 ⊢
  obtain ⟨w3, hw3⟩ : ∃ w3, w3 = w2.alloc (.cells #[.slice o1x2 n1x2 c1x2, .slice o2x2 n2x2 c2x2] 27) := ⟨_, rfl⟩
  have DB2 := hid (DB.new ho1.rd ho2.rd hw3)
  have hba : Below w2.heap.size w2 w3 := by rw [hw3]; exact balloc (Below.refl _ _) _
  have hbb := below_step hba hb2
  have Z0 := hid (keepc hbb Z0.out); have Z1 := hid (keepc hbb Z1.out); have A0 := hid (keepc hbb A0.out); have A1 := hid (keepc hbb A1.out); have A2 := hid (keepc hbb A2.out); have DB1 := hid (DB1.out.below hbb)
  have HB1 := hid (below_step hbb HB1.out)
  have HW3 := hid hw3
  clear hw3 hba hbb hb2 ho1 ho2 hn1 hn2
  go_upto_region 5 with fail
  have ew := HW3.out
  rw [← ew]
  clear ew HW3
  obtain ⟨Y2, hY⟩ : ∃ Y, w2.heap.size = Y := ⟨_, rfl⟩
  simp only [hY] at DB2 ⊢
  clear hY
  obtain ⟨w1, hw1⟩ : ∃ w1, w1 = w3 := ⟨_, rfl⟩
  subst hw1
  have z0 := Z0.out; have z1 := Z1.out; have a0 := A0.out; have a1 := A1.out; have a2 := A2.out
  go_wp2_with fail
  clear z0 z1 a0 a1 a2
  refine (HP1.out _ HB1.out).mono ?_
  rintro e w2 ⟨rfl, hb2⟩
  have Z0 := hid (keepc hb2 Z0.out); have Z1 := hid (keepc hb2 Z1.out); have A0 := hid (keepc hb2 A0.out); have A1 := hid (keepc hb2 A1.out); have A2 := hid (keepc hb2 A2.out); have DB1 := hid (DB1.out.below hb2); have DB2 := hid (DB2.out.below hb2)
  have HB1 := hid (below_step hb2 HB1.out)
  clear hb2
  obtain ⟨w1, hw1⟩ : ∃ w1, w1 = w2 := ⟨_, rfl⟩
  subst hw1
  have z0 := Z0.out; have z1 := Z1.out; have a0 := A0.out; have a1 := A1.out; have a2 := A2.out
  go_wp2_with fail
  clear z0 z1 a0 a1 a2
  refine (HP2.out _ HB1.out).mono ?_
  rintro e w2 ⟨rfl, hb2⟩
  have Z0 := hid (keepc hb2 Z0.out); have Z1 := hid (keepc hb2 Z1.out); have A0 := hid (keepc hb2 A0.out); have A1 := hid (keepc hb2 A1.out); have A2 := hid (keepc hb2 A2.out); have DB1 := hid (DB1.out.below hb2); have DB2 := hid (DB2.out.below hb2)
  have HB1 := hid (below_step hb2 HB1.out)
  clear hb2
  obtain ⟨w1, hw1⟩ : ∃ w1, w1 = w2 := ⟨_, rfl⟩
  subst hw1
  go_upto_region 7 with fail
  have z0 := Z0.out; have z1 := Z1.out; have a0 := A0.out; have a1 := A1.out; have a2 := A2.out
  go_wp2_with fail
  clear z0 z1 a0 a1 a2
  refine (HA1.out _ HB1.out).mono ?_
  rintro e w2 ⟨v1, v2, rfl, ho1, ho2, hb2⟩
  obtain ⟨o1x3, c1x3, rfl, -, -⟩ := ho1.rd
  obtain ⟨o2x3, c2x3, rfl, -, -⟩ := ho2.rd
  obtain ⟨n1x3, hn1⟩ : ∃ n, D2.1.length = n := ⟨_, rfl⟩
  obtain ⟨n2x3, hn2⟩ : ∃ n, D2.2.length = n := ⟨_, rfl⟩
  simp only [hn1, hn2] at ho1 ho2 ⊢
  obtain ⟨w3, hw3⟩ : ∃ w3, w3 = w2.alloc (.cells #[.slice o1x3 n1x3 c1x3, .slice o2x3 n2x3 c2x3] 27) := ⟨_, rfl⟩
  have DB3 := hid (DB.new ho1.rd ho2.rd hw3)
  have hba : Below w2.heap.size w2 w3 := by rw [hw3]; exact balloc (Below.refl _ _) _
  have hbb := below_step hba hb2
  have Z0 := hid (keepc hbb Z0.out); have Z1 := hid (keepc hbb Z1.out); have A0 := hid (keepc hbb A0.out); have A1 := hid (keepc hbb A1.out); have A2 := hid (keepc hbb A2.out); have DB1 := hid (DB1.out.below hbb); have DB2 := hid (DB2.out.below hbb)
  have HB1 := hid (below_step hbb HB1.out)
  have HW3 := hid hw3
  clear hw3 hba hbb hb2 ho1 ho2 hn1 hn2
  go_upto_region 8 with fail
  have ew := HW3.out
  rw [← ew]
  clear ew HW3
  obtain ⟨Y3, hY⟩ : ∃ Y, w2.heap.size = Y := ⟨_, rfl⟩
  simp only [hY] at DB3 ⊢
  clear hY
  obtain ⟨w1, hw1⟩ : ∃ w1, w1 = w3 := ⟨_, rfl⟩
  subst hw1
  have z0 := Z0.out; have z1 := Z1.out; have a0 := A0.out; have a1 := A1.out; have a2 := A2.out
  go_wp2_with fail
  clear z0 z1 a0 a1 a2
  refine (HA2.out _ HB1.out).mono ?_
  rintro e w2 ⟨v1, v2, rfl, ho1, ho2, hb2⟩
  obtain ⟨o1x4, c1x4, rfl, -, -⟩ := ho1.rd
  obtain ⟨o2x4, c2x4, rfl, -, -⟩ := ho2.rd
  obtain ⟨n1x4, hn1⟩ : ∃ n, D2.1.length = n := ⟨_, rfl⟩
  obtain ⟨n2x4, hn2⟩ : ∃ n, D2.2.length = n := ⟨_, rfl⟩
  simp only [hn1, hn2] at ho1 ho2 ⊢
  obtain ⟨w3, hw3⟩ : ∃ w3, w3 = w2.alloc (.cells #[.slice o1x4 n1x4 c1x4, .slice o2x4 n2x4 c2x4] 27) := ⟨_, rfl⟩
  have DB4 := hid (DB.new ho1.rd ho2.rd hw3)
  have hba : Below w2.heap.size w2 w3 := by rw [hw3]; exact balloc (Below.refl _ _) _
  have hbb := below_step hba hb2
  have Z0 := hid (keepc hbb Z0.out); have Z1 := hid (keepc hbb Z1.out); have A0 := hid (keepc hbb A0.out); have A1 := hid (keepc hbb A1.out); have A2 := hid (keepc hbb A2.out); have DB1 := hid (DB1.out.below hbb); have DB2 := hid (DB2.out.below hbb); have DB3 := hid (DB3.out.below hbb)
  have HB1 := hid (below_step hbb HB1.out)
  have HW3 := hid hw3
  clear hw3 hba hbb hb2 ho1 ho2 hn1 hn2
  go_upto_region 9 with fail
  have ew := HW3.out
  rw [← ew]
  clear ew HW3
  obtain ⟨Y4, hY⟩ : ∃ Y, w2.heap.size = Y := ⟨_, rfl⟩
  simp only [hY] at DB4 ⊢
  clear hY
  obtain ⟨w1, hw1⟩ : ∃ w1, w1 = w3 := ⟨_, rfl⟩
  subst hw1
  have z0 := Z0.out; have z1 := Z1.out; have a0 := A0.out; have a1 := A1.out; have a2 := A2.out
  go_wp2_with fail
  clear z0 z1 a0 a1 a2
  refine (HC1.out _ HB1.out).mono ?_
  rintro e w2 ⟨v1, v2, rfl, ho1, ho2, hb2⟩
  obtain ⟨o1x5, c1x5, rfl, -, -⟩ := ho1.rd
  obtain ⟨o2x5, c2x5, rfl, -, -⟩ := ho2.rd
  obtain ⟨n1x5, hn1⟩ : ∃ n, D3.1.length = n := ⟨_, rfl⟩
  obtain ⟨n2x5, hn2⟩ : ∃ n, D3.2.length = n := ⟨_, rfl⟩
  simp only [hn1, hn2] at ho1 ho2 ⊢
  obtain ⟨w3, hw3⟩ : ∃ w3, w3 = w2.alloc (.cells #[.slice o1x5 n1x5 c1x5, .slice o2x5 n2x5 c2x5] 27) := ⟨_, rfl⟩
  have DB5 := hid (DB.new ho1.rd ho2.rd hw3)
  have hba : Below w2.heap.size w2 w3 := by rw [hw3]; exact balloc (Below.refl _ _) _
  have hbb := below_step hba hb2
  have Z0 := hid (keepc hbb Z0.out); have Z1 := hid (keepc hbb Z1.out); have A0 := hid (keepc hbb A0.out); have A1 := hid (keepc hbb A1.out); have A2 := hid (keepc hbb A2.out); have DB1 := hid (DB1.out.below hbb); have DB2 := hid (DB2.out.below hbb); have DB3 := hid (DB3.out.below hbb); have DB4 := hid (DB4.out.below hbb)
  have HB1 := hid (below_step hbb HB1.out)
  have HW3 := hid hw3
  clear hw3 hba hbb hb2 ho1 ho2 hn1 hn2
  go_upto_region 10 with fail
  have ew := HW3.out
  rw [← ew]
  clear ew HW3
  obtain ⟨Y5, hY⟩ : ∃ Y, w2.heap.size = Y := ⟨_, rfl⟩
  simp only [hY] at DB5 ⊢
  clear hY
  obtain ⟨w1, hw1⟩ : ∃ w1, w1 = w3 := ⟨_, rfl⟩
  subst hw1
  have z0 := Z0.out; have z1 := Z1.out; have a0 := A0.out; have a1 := A1.out; have a2 := A2.out
  go_wp2_with fail
  clear z0 z1 a0 a1 a2
  refine (HC2.out _ HB1.out).mono ?_
  rintro e w2 ⟨v1, v2, rfl, ho1, ho2, hb2⟩
  obtain ⟨o1x6, c1x6, rfl, -, -⟩ := ho1.rd
  obtain ⟨o2x6, c2x6, rfl, -, -⟩ := ho2.rd
  obtain ⟨n1x6, hn1⟩ : ∃ n, D3.1.length = n := ⟨_, rfl⟩
  obtain ⟨n2x6, hn2⟩ : ∃ n, D3.2.length = n := ⟨_, rfl⟩
  simp only [hn1, hn2] at ho1 ho2 ⊢
  obtain ⟨w3, hw3⟩ : ∃ w3, w3 = w2.alloc (.cells #[.slice o1x6 n1x6 c1x6, .slice o2x6 n2x6 c2x6] 27) := ⟨_, rfl⟩
  have DB6 := hid (DB.new ho1.rd ho2.rd hw3)
  have hba : Below w2.heap.size w2 w3 := by rw [hw3]; exact balloc (Below.refl _ _) _
  have hbb := below_step hba hb2
  have Z0 := hid (keepc hbb Z0.out); have Z1 := hid (keepc hbb Z1.out); have A0 := hid (keepc hbb A0.out); have A1 := hid (keepc hbb A1.out); have A2 := hid (keepc hbb A2.out); have DB1 := hid (DB1.out.below hbb); have DB2 := hid (DB2.out.below hbb); have DB3 := hid (DB3.out.below hbb); have DB4 := hid (DB4.out.below hbb); have DB5 := hid (DB5.out.below hbb)
  have HB1 := hid (below_step hbb HB1.out)
  have HW3 := hid hw3
  clear hw3 hba hbb hb2 ho1 ho2 hn1 hn2
  go_upto_region 11 with fail
  have ew := HW3.out
  rw [← ew]
  clear ew HW3
  obtain ⟨Y6, hY⟩ : ∃ Y, w2.heap.size = Y := ⟨_, rfl⟩
  simp only [hY] at DB6 ⊢
  clear hY
  obtain ⟨w1, hw1⟩ : ∃ w1, w1 = w3 := ⟨_, rfl⟩
  subst hw1
  have HSD1 := hid (DB1.out.same DB2.out SM1.out.1 SM1.out.2)
  have HSD2 := hid (DB3.out.same DB4.out SM2.out.1 SM2.out.2)
  have HSD3 := hid (DB5.out.same DB6.out SM3.out.1 SM3.out.2)
  obtain ⟨W, hW⟩ : ∃ W, W = w1 := ⟨_, rfl⟩
  subst hW
  refine (fun hm hB S hS h => wp_region_freeL S hm hB hS h) (by kernel_rfl) (by kernel_rfl) (fun L w' => Below W.heap.size W w' ∧ w'.cell? ⟨Z, 0, none⟩ = some (.slice op N cp) ∧ w'.cell? ⟨Z, 1, none⟩ = some (.slice oq M cq) ∧ w'.cell? ⟨Y1, 0, none⟩ = some (.slice o1x1 n1x1 c1x1) ∧ w'.cell? ⟨Y1, 1, none⟩ = some (.slice o2x1 n2x1 c2x1) ∧ w'.cell? ⟨Y2, 0, none⟩ = some (.slice o1x2 n1x2 c1x2) ∧ w'.cell? ⟨Y2, 1, none⟩ = some (.slice o2x2 n2x2 c2x2) ∧ w'.cell? ⟨Y3, 0, none⟩ = some (.slice o1x3 n1x3 c1x3) ∧ w'.cell? ⟨Y3, 1, none⟩ = some (.slice o2x3 n2x3 c2x3) ∧ w'.cell? ⟨Y4, 0, none⟩ = some (.slice o1x4 n1x4 c1x4) ∧ w'.cell? ⟨Y4, 1, none⟩ = some (.slice o2x4 n2x4 c2x4) ∧ w'.cell? ⟨Y5, 0, none⟩ = some (.slice o1x5 n1x5 c1x5) ∧ w'.cell? ⟨Y5, 1, none⟩ = some (.slice o2x5 n2x5 c2x5) ∧ w'.cell? ⟨Y6, 0, none⟩ = some (.slice o1x6 n1x6 c1x6) ∧ w'.cell? ⟨Y6, 1, none⟩ = some (.slice o2x6 n2x6 c2x6)) ⟨((Below.refl W.heap.size W)).drew, (keepc (Below.refl W.heap.size W).drew Z0.out), (keepc (Below.refl W.heap.size W).drew Z1.out), (keepc (Below.refl W.heap.size W).drew DB1.out.c0), (keepc (Below.refl W.heap.size W).drew DB1.out.c1), (keepc (Below.refl W.heap.size W).drew DB2.out.c0), (keepc (Below.refl W.heap.size W).drew DB2.out.c1), (keepc (Below.refl W.heap.size W).drew DB3.out.c0), (keepc (Below.refl W.heap.size W).drew DB3.out.c1), (keepc (Below.refl W.heap.size W).drew DB4.out.c0), (keepc (Below.refl W.heap.size W).drew DB4.out.c1), (keepc (Below.refl W.heap.size W).drew DB5.out.c0), (keepc (Below.refl W.heap.size W).drew DB5.out.c1), (keepc (Below.refl W.heap.size W).drew DB6.out.c0), (keepc (Below.refl W.heap.size W).drew DB6.out.c1)⟩ ?_
  refine wpFreeL_val rfl (fun _ _ _ h => h) (fun K hK => ?_); apply Exists.intro; refine ⟨fun L w' hS => ?_, ?_⟩; (have hb := hS.1; have g0 := hS.2.1; have g1 := hS.2.2.1; have g2 := hS.2.2.2.1; have g3 := hS.2.2.2.2.1; have g4 := hS.2.2.2.2.2.1; have g5 := hS.2.2.2.2.2.2.1; have g6 := hS.2.2.2.2.2.2.2.1; have g7 := hS.2.2.2.2.2.2.2.2.1; have g8 := hS.2.2.2.2.2.2.2.2.2.1; have g9 := hS.2.2.2.2.2.2.2.2.2.2.1; have g10 := hS.2.2.2.2.2.2.2.2.2.2.2.1; have g11 := hS.2.2.2.2.2.2.2.2.2.2.2.2.1; have g12 := hS.2.2.2.2.2.2.2.2.2.2.2.2.2.1; have g13 := hS.2.2.2.2.2.2.2.2.2.2.2.2.2.2; clear hS; go_simp; rfl); (go_simp; refine hK _ ?_; clear hK K)
  refine wpFreeL_gen rfl (fun K hK => ?_); apply Exists.intro; refine ⟨fun L w' hcl hL hdep hS => ?_, ?_⟩
  · have hb := hS.1; have g0 := hS.2.1; have g1 := hS.2.2.1; have g2 := hS.2.2.2.1; have g3 := hS.2.2.2.2.1; have g4 := hS.2.2.2.2.2.1; have g5 := hS.2.2.2.2.2.2.1; have g6 := hS.2.2.2.2.2.2.2.1; have g7 := hS.2.2.2.2.2.2.2.2.1; have g8 := hS.2.2.2.2.2.2.2.2.2.1; have g9 := hS.2.2.2.2.2.2.2.2.2.2.1; have g10 := hS.2.2.2.2.2.2.2.2.2.2.2.1; have g11 := hS.2.2.2.2.2.2.2.2.2.2.2.2.1; have g12 := hS.2.2.2.2.2.2.2.2.2.2.2.2.2.1; have g13 := hS.2.2.2.2.2.2.2.2.2.2.2.2.2.2; go_simp; refine (HK1.out _ (below_step hb HB1.out)).mono ?_; rintro e w1 ⟨rfl, hb1⟩; exact ⟨rfl, ⟨hb.trans (hb1.mono (by have := hb.size; omega)), keepc hb1 g0, keepc hb1 g1, keepc hb1 g2, keepc hb1 g3, keepc hb1 g4, keepc hb1 g5, keepc hb1 g6, keepc hb1 g7, keepc hb1 g8, keepc hb1 g9, keepc hb1 g10, keepc hb1 g11, keepc hb1 g12, keepc hb1 g13⟩⟩
  go_simp; refine hK _ ?_; clear hK K
  refine wpFreeL_val rfl (fun _ _ _ h => h) (fun K hK => ?_); apply Exists.intro; refine ⟨fun L w' hS => ?_, ?_⟩; (have hb := hS.1; have g0 := hS.2.1; have g1 := hS.2.2.1; have g2 := hS.2.2.2.1; have g3 := hS.2.2.2.2.1; have g4 := hS.2.2.2.2.2.1; have g5 := hS.2.2.2.2.2.2.1; have g6 := hS.2.2.2.2.2.2.2.1; have g7 := hS.2.2.2.2.2.2.2.2.1; have g8 := hS.2.2.2.2.2.2.2.2.2.1; have g9 := hS.2.2.2.2.2.2.2.2.2.2.1; have g10 := hS.2.2.2.2.2.2.2.2.2.2.2.1; have g11 := hS.2.2.2.2.2.2.2.2.2.2.2.2.1; have g12 := hS.2.2.2.2.2.2.2.2.2.2.2.2.2.1; have g13 := hS.2.2.2.2.2.2.2.2.2.2.2.2.2.2; clear hS; go_simp; rfl); (go_simp; refine hK _ ?_; clear hK K)
  refine wpFreeL_gen rfl (fun K hK => ?_); apply Exists.intro; refine ⟨fun L w' hcl hL hdep hS => ?_, ?_⟩
  · have hb := hS.1; have g0 := hS.2.1; have g1 := hS.2.2.1; have g2 := hS.2.2.2.1; have g3 := hS.2.2.2.2.1; have g4 := hS.2.2.2.2.2.1; have g5 := hS.2.2.2.2.2.2.1; have g6 := hS.2.2.2.2.2.2.2.1; have g7 := hS.2.2.2.2.2.2.2.2.1; have g8 := hS.2.2.2.2.2.2.2.2.2.1; have g9 := hS.2.2.2.2.2.2.2.2.2.2.1; have g10 := hS.2.2.2.2.2.2.2.2.2.2.2.1; have g11 := hS.2.2.2.2.2.2.2.2.2.2.2.2.1; have g12 := hS.2.2.2.2.2.2.2.2.2.2.2.2.2.1; have g13 := hS.2.2.2.2.2.2.2.2.2.2.2.2.2.2; go_simp; refine (HK2.out _ (below_step hb HB1.out)).mono ?_; rintro e w1 ⟨rfl, hb1⟩; exact ⟨rfl, ⟨hb.trans (hb1.mono (by have := hb.size; omega)), keepc hb1 g0, keepc hb1 g1, keepc hb1 g2, keepc hb1 g3, keepc hb1 g4, keepc hb1 g5, keepc hb1 g6, keepc hb1 g7, keepc hb1 g8, keepc hb1 g9, keepc hb1 g10, keepc hb1 g11, keepc hb1 g12, keepc hb1 g13⟩⟩
  go_simp; refine hK _ ?_; clear hK K
  refine wpFreeL_val rfl (fun _ _ _ h => h) (fun K hK => ?_); apply Exists.intro; refine ⟨fun L w' hS => ?_, ?_⟩; (have hb := hS.1; have g0 := hS.2.1; have g1 := hS.2.2.1; have g2 := hS.2.2.2.1; have g3 := hS.2.2.2.2.1; have g4 := hS.2.2.2.2.2.1; have g5 := hS.2.2.2.2.2.2.1; have g6 := hS.2.2.2.2.2.2.2.1; have g7 := hS.2.2.2.2.2.2.2.2.1; have g8 := hS.2.2.2.2.2.2.2.2.2.1; have g9 := hS.2.2.2.2.2.2.2.2.2.2.1; have g10 := hS.2.2.2.2.2.2.2.2.2.2.2.1; have g11 := hS.2.2.2.2.2.2.2.2.2.2.2.2.1; have g12 := hS.2.2.2.2.2.2.2.2.2.2.2.2.2.1; have g13 := hS.2.2.2.2.2.2.2.2.2.2.2.2.2.2; clear hS; go_simp; rfl); (go_simp; refine hK _ ?_; clear hK K)
  refine wpFreeL_val rfl (fun _ _ _ h => h) (fun K hK => ?_); apply Exists.intro; refine ⟨fun L w' hS => ?_, ?_⟩; (have hb := hS.1; have g0 := hS.2.1; have g1 := hS.2.2.1; have g2 := hS.2.2.2.1; have g3 := hS.2.2.2.2.1; have g4 := hS.2.2.2.2.2.1; have g5 := hS.2.2.2.2.2.2.1; have g6 := hS.2.2.2.2.2.2.2.1; have g7 := hS.2.2.2.2.2.2.2.2.1; have g8 := hS.2.2.2.2.2.2.2.2.2.1; have g9 := hS.2.2.2.2.2.2.2.2.2.2.1; have g10 := hS.2.2.2.2.2.2.2.2.2.2.2.1; have g11 := hS.2.2.2.2.2.2.2.2.2.2.2.2.1; have g12 := hS.2.2.2.2.2.2.2.2.2.2.2.2.2.1; have g13 := hS.2.2.2.2.2.2.2.2.2.2.2.2.2.2; clear hS; go_simp; rfl); (go_simp; refine hK _ ?_; clear hK K)
  refine wpFreeL_val rfl (fun _ _ _ h => h) (fun K hK => ?_); apply Exists.intro; refine ⟨fun L w' hS => ?_, ?_⟩; (have hb := hS.1; have g0 := hS.2.1; have g1 := hS.2.2.1; have g2 := hS.2.2.2.1; have g3 := hS.2.2.2.2.1; have g4 := hS.2.2.2.2.2.1; have g5 := hS.2.2.2.2.2.2.1; have g6 := hS.2.2.2.2.2.2.2.1; have g7 := hS.2.2.2.2.2.2.2.2.1; have g8 := hS.2.2.2.2.2.2.2.2.2.1; have g9 := hS.2.2.2.2.2.2.2.2.2.2.1; have g10 := hS.2.2.2.2.2.2.2.2.2.2.2.1; have g11 := hS.2.2.2.2.2.2.2.2.2.2.2.2.1; have g12 := hS.2.2.2.2.2.2.2.2.2.2.2.2.2.1; have g13 := hS.2.2.2.2.2.2.2.2.2.2.2.2.2.2; clear hS; go_simp; rfl); (go_simp; refine hK _ ?_; clear hK K)
  refine wpFreeL_val rfl (fun _ _ _ h => h) (fun K hK => ?_); apply Exists.intro; refine ⟨fun L w' hS => ?_, ?_⟩; (have hb := hS.1; have g0 := hS.2.1; have g1 := hS.2.2.1; have g2 := hS.2.2.2.1; have g3 := hS.2.2.2.2.1; have g4 := hS.2.2.2.2.2.1; have g5 := hS.2.2.2.2.2.2.1; have g6 := hS.2.2.2.2.2.2.2.1; have g7 := hS.2.2.2.2.2.2.2.2.1; have g8 := hS.2.2.2.2.2.2.2.2.2.1; have g9 := hS.2.2.2.2.2.2.2.2.2.2.1; have g10 := hS.2.2.2.2.2.2.2.2.2.2.2.1; have g11 := hS.2.2.2.2.2.2.2.2.2.2.2.2.1; have g12 := hS.2.2.2.2.2.2.2.2.2.2.2.2.2.1; have g13 := hS.2.2.2.2.2.2.2.2.2.2.2.2.2.2; clear hS; go_simp; rfl); (go_simp; refine hK _ ?_; clear hK K)
  refine wpFreeL_gen rfl (fun K hK => ?_); apply Exists.intro; refine ⟨fun L w' hcl hL hdep hS => ?_, ?_⟩
  · have hb := hS.1; have g0 := hS.2.1; have g1 := hS.2.2.1; have g2 := hS.2.2.2.1; have g3 := hS.2.2.2.2.1; have g4 := hS.2.2.2.2.2.1; have g5 := hS.2.2.2.2.2.2.1; have g6 := hS.2.2.2.2.2.2.2.1; have g7 := hS.2.2.2.2.2.2.2.2.1; have g8 := hS.2.2.2.2.2.2.2.2.2.1; have g9 := hS.2.2.2.2.2.2.2.2.2.2.1; have g10 := hS.2.2.2.2.2.2.2.2.2.2.2.1; have g11 := hS.2.2.2.2.2.2.2.2.2.2.2.2.1; have g12 := hS.2.2.2.2.2.2.2.2.2.2.2.2.2.1; have g13 := hS.2.2.2.2.2.2.2.2.2.2.2.2.2.2; go_simp; refine (HSD1.out _ hb).mono ?_; rintro e w1 ⟨rfl, hb1⟩; exact ⟨rfl, ⟨hb.trans (hb1.mono (by have := hb.size; omega)), keepc hb1 g0, keepc hb1 g1, keepc hb1 g2, keepc hb1 g3, keepc hb1 g4, keepc hb1 g5, keepc hb1 g6, keepc hb1 g7, keepc hb1 g8, keepc hb1 g9, keepc hb1 g10, keepc hb1 g11, keepc hb1 g12, keepc hb1 g13⟩⟩
  go_simp; refine hK _ ?_; clear hK K
  refine wpFreeL_val rfl (fun _ _ _ h => h) (fun K hK => ?_); apply Exists.intro; refine ⟨fun L w' hS => ?_, ?_⟩; (have hb := hS.1; have g0 := hS.2.1; have g1 := hS.2.2.1; have g2 := hS.2.2.2.1; have g3 := hS.2.2.2.2.1; have g4 := hS.2.2.2.2.2.1; have g5 := hS.2.2.2.2.2.2.1; have g6 := hS.2.2.2.2.2.2.2.1; have g7 := hS.2.2.2.2.2.2.2.2.1; have g8 := hS.2.2.2.2.2.2.2.2.2.1; have g9 := hS.2.2.2.2.2.2.2.2.2.2.1; have g10 := hS.2.2.2.2.2.2.2.2.2.2.2.1; have g11 := hS.2.2.2.2.2.2.2.2.2.2.2.2.1; have g12 := hS.2.2.2.2.2.2.2.2.2.2.2.2.2.1; have g13 := hS.2.2.2.2.2.2.2.2.2.2.2.2.2.2; clear hS; go_simp; rfl); (go_simp; refine hK _ ?_; clear hK K)
  refine wpFreeL_val rfl (fun _ _ _ h => h) (fun K hK => ?_); apply Exists.intro; refine ⟨fun L w' hS => ?_, ?_⟩; (have hb := hS.1; have g0 := hS.2.1; have g1 := hS.2.2.1; have g2 := hS.2.2.2.1; have g3 := hS.2.2.2.2.1; have g4 := hS.2.2.2.2.2.1; have g5 := hS.2.2.2.2.2.2.1; have g6 := hS.2.2.2.2.2.2.2.1; have g7 := hS.2.2.2.2.2.2.2.2.1; have g8 := hS.2.2.2.2.2.2.2.2.2.1; have g9 := hS.2.2.2.2.2.2.2.2.2.2.1; have g10 := hS.2.2.2.2.2.2.2.2.2.2.2.1; have g11 := hS.2.2.2.2.2.2.2.2.2.2.2.2.1; have g12 := hS.2.2.2.2.2.2.2.2.2.2.2.2.2.1; have g13 := hS.2.2.2.2.2.2.2.2.2.2.2.2.2.2; clear hS; go_simp; rfl); (go_simp; refine hK _ ?_; clear hK K)
  refine wpFreeL_val rfl (fun _ _ _ h => h) (fun K hK => ?_); apply Exists.intro; refine ⟨fun L w' hS => ?_, ?_⟩; (have hb := hS.1; have g0 := hS.2.1; have g1 := hS.2.2.1; have g2 := hS.2.2.2.1; have g3 := hS.2.2.2.2.1; have g4 := hS.2.2.2.2.2.1; have g5 := hS.2.2.2.2.2.2.1; have g6 := hS.2.2.2.2.2.2.2.1; have g7 := hS.2.2.2.2.2.2.2.2.1; have g8 := hS.2.2.2.2.2.2.2.2.2.1; have g9 := hS.2.2.2.2.2.2.2.2.2.2.1; have g10 := hS.2.2.2.2.2.2.2.2.2.2.2.1; have g11 := hS.2.2.2.2.2.2.2.2.2.2.2.2.1; have g12 := hS.2.2.2.2.2.2.2.2.2.2.2.2.2.1; have g13 := hS.2.2.2.2.2.2.2.2.2.2.2.2.2.2; clear hS; go_simp; rfl); (go_simp; refine hK _ ?_; clear hK K)
  refine wpFreeL_val rfl (fun _ _ _ h => h) (fun K hK => ?_); apply Exists.intro; refine ⟨fun L w' hS => ?_, ?_⟩; (have hb := hS.1; have g0 := hS.2.1; have g1 := hS.2.2.1; have g2 := hS.2.2.2.1; have g3 := hS.2.2.2.2.1; have g4 := hS.2.2.2.2.2.1; have g5 := hS.2.2.2.2.2.2.1; have g6 := hS.2.2.2.2.2.2.2.1; have g7 := hS.2.2.2.2.2.2.2.2.1; have g8 := hS.2.2.2.2.2.2.2.2.2.1; have g9 := hS.2.2.2.2.2.2.2.2.2.2.1; have g10 := hS.2.2.2.2.2.2.2.2.2.2.2.1; have g11 := hS.2.2.2.2.2.2.2.2.2.2.2.2.1; have g12 := hS.2.2.2.2.2.2.2.2.2.2.2.2.2.1; have g13 := hS.2.2.2.2.2.2.2.2.2.2.2.2.2.2; clear hS; go_simp; rfl); (go_simp; refine hK _ ?_; clear hK K)
  refine wpFreeL_val rfl (fun _ _ _ h => h) (fun K hK => ?_); apply Exists.intro; refine ⟨fun L w' hS => ?_, ?_⟩; (have hb := hS.1; have g0 := hS.2.1; have g1 := hS.2.2.1; have g2 := hS.2.2.2.1; have g3 := hS.2.2.2.2.1; have g4 := hS.2.2.2.2.2.1; have g5 := hS.2.2.2.2.2.2.1; have g6 := hS.2.2.2.2.2.2.2.1; have g7 := hS.2.2.2.2.2.2.2.2.1; have g8 := hS.2.2.2.2.2.2.2.2.2.1; have g9 := hS.2.2.2.2.2.2.2.2.2.2.1; have g10 := hS.2.2.2.2.2.2.2.2.2.2.2.1; have g11 := hS.2.2.2.2.2.2.2.2.2.2.2.2.1; have g12 := hS.2.2.2.2.2.2.2.2.2.2.2.2.2.1; have g13 := hS.2.2.2.2.2.2.2.2.2.2.2.2.2.2; clear hS; go_simp; rfl); (go_simp; refine hK _ ?_; clear hK K)
  refine wpFreeL_val rfl (fun _ _ _ h => h) (fun K hK => ?_); apply Exists.intro; refine ⟨fun L w' hS => ?_, ?_⟩; (have hb := hS.1; have g0 := hS.2.1; have g1 := hS.2.2.1; have g2 := hS.2.2.2.1; have g3 := hS.2.2.2.2.1; have g4 := hS.2.2.2.2.2.1; have g5 := hS.2.2.2.2.2.2.1; have g6 := hS.2.2.2.2.2.2.2.1; have g7 := hS.2.2.2.2.2.2.2.2.1; have g8 := hS.2.2.2.2.2.2.2.2.2.1; have g9 := hS.2.2.2.2.2.2.2.2.2.2.1; have g10 := hS.2.2.2.2.2.2.2.2.2.2.2.1; have g11 := hS.2.2.2.2.2.2.2.2.2.2.2.2.1; have g12 := hS.2.2.2.2.2.2.2.2.2.2.2.2.2.1; have g13 := hS.2.2.2.2.2.2.2.2.2.2.2.2.2.2; clear hS; go_simp; rfl); (go_simp; refine hK _ ?_; clear hK K)
  refine wpFreeL_val rfl (fun _ _ _ h => h) (fun K hK => ?_); apply Exists.intro; refine ⟨fun L w' hS => ?_, ?_⟩; (have hb := hS.1; have g0 := hS.2.1; have g1 := hS.2.2.1; have g2 := hS.2.2.2.1; have g3 := hS.2.2.2.2.1; have g4 := hS.2.2.2.2.2.1; have g5 := hS.2.2.2.2.2.2.1; have g6 := hS.2.2.2.2.2.2.2.1; have g7 := hS.2.2.2.2.2.2.2.2.1; have g8 := hS.2.2.2.2.2.2.2.2.2.1; have g9 := hS.2.2.2.2.2.2.2.2.2.2.1; have g10 := hS.2.2.2.2.2.2.2.2.2.2.2.1; have g11 := hS.2.2.2.2.2.2.2.2.2.2.2.2.1; have g12 := hS.2.2.2.2.2.2.2.2.2.2.2.2.2.1; have g13 := hS.2.2.2.2.2.2.2.2.2.2.2.2.2.2; clear hS; go_simp; rfl); (go_simp; refine hK _ ?_; clear hK K)
  refine wpFreeL_val rfl (fun _ _ _ h => h) (fun K hK => ?_); apply Exists.intro; refine ⟨fun L w' hS => ?_, ?_⟩; (have hb := hS.1; have g0 := hS.2.1; have g1 := hS.2.2.1; have g2 := hS.2.2.2.1; have g3 := hS.2.2.2.2.1; have g4 := hS.2.2.2.2.2.1; have g5 := hS.2.2.2.2.2.2.1; have g6 := hS.2.2.2.2.2.2.2.1; have g7 := hS.2.2.2.2.2.2.2.2.1; have g8 := hS.2.2.2.2.2.2.2.2.2.1; have g9 := hS.2.2.2.2.2.2.2.2.2.2.1; have g10 := hS.2.2.2.2.2.2.2.2.2.2.2.1; have g11 := hS.2.2.2.2.2.2.2.2.2.2.2.2.1; have g12 := hS.2.2.2.2.2.2.2.2.2.2.2.2.2.1; have g13 := hS.2.2.2.2.2.2.2.2.2.2.2.2.2.2; clear hS; go_simp; rfl); (go_simp; refine hK _ ?_; clear hK K)
  refine wpFreeL_val rfl (fun _ _ _ h => h) (fun K hK => ?_); apply Exists.intro; refine ⟨fun L w' hS => ?_, ?_⟩; (have hb := hS.1; have g0 := hS.2.1; have g1 := hS.2.2.1; have g2 := hS.2.2.2.1; have g3 := hS.2.2.2.2.1; have g4 := hS.2.2.2.2.2.1; have g5 := hS.2.2.2.2.2.2.1; have g6 := hS.2.2.2.2.2.2.2.1; have g7 := hS.2.2.2.2.2.2.2.2.1; have g8 := hS.2.2.2.2.2.2.2.2.2.1; have g9 := hS.2.2.2.2.2.2.2.2.2.2.1; have g10 := hS.2.2.2.2.2.2.2.2.2.2.2.1; have g11 := hS.2.2.2.2.2.2.2.2.2.2.2.2.1; have g12 := hS.2.2.2.2.2.2.2.2.2.2.2.2.2.1; have g13 := hS.2.2.2.2.2.2.2.2.2.2.2.2.2.2; clear hS; go_simp; rfl); (go_simp; refine hK _ ?_; clear hK K)
  refine wpFreeL_val rfl (fun _ _ _ h => h) (fun K hK => ?_); apply Exists.intro; refine ⟨fun L w' hS => ?_, ?_⟩; (have hb := hS.1; have g0 := hS.2.1; have g1 := hS.2.2.1; have g2 := hS.2.2.2.1; have g3 := hS.2.2.2.2.1; have g4 := hS.2.2.2.2.2.1; have g5 := hS.2.2.2.2.2.2.1; have g6 := hS.2.2.2.2.2.2.2.1; have g7 := hS.2.2.2.2.2.2.2.2.1; have g8 := hS.2.2.2.2.2.2.2.2.2.1; have g9 := hS.2.2.2.2.2.2.2.2.2.2.1; have g10 := hS.2.2.2.2.2.2.2.2.2.2.2.1; have g11 := hS.2.2.2.2.2.2.2.2.2.2.2.2.1; have g12 := hS.2.2.2.2.2.2.2.2.2.2.2.2.2.1; have g13 := hS.2.2.2.2.2.2.2.2.2.2.2.2.2.2; clear hS; go_simp; rfl); (go_simp; refine hK _ ?_; clear hK K)
  refine wpFreeL_val rfl (fun _ _ _ h => h) (fun K hK => ?_); apply Exists.intro; refine ⟨fun L w' hS => ?_, ?_⟩; (have hb := hS.1; have g0 := hS.2.1; have g1 := hS.2.2.1; have g2 := hS.2.2.2.1; have g3 := hS.2.2.2.2.1; have g4 := hS.2.2.2.2.2.1; have g5 := hS.2.2.2.2.2.2.1; have g6 := hS.2.2.2.2.2.2.2.1; have g7 := hS.2.2.2.2.2.2.2.2.1; have g8 := hS.2.2.2.2.2.2.2.2.2.1; have g9 := hS.2.2.2.2.2.2.2.2.2.2.1; have g10 := hS.2.2.2.2.2.2.2.2.2.2.2.1; have g11 := hS.2.2.2.2.2.2.2.2.2.2.2.2.1; have g12 := hS.2.2.2.2.2.2.2.2.2.2.2.2.2.1; have g13 := hS.2.2.2.2.2.2.2.2.2.2.2.2.2.2; clear hS; go_simp; rfl); (go_simp; refine hK _ ?_; clear hK K)
  refine wpFreeL_val rfl (fun _ _ _ h => h) (fun K hK => ?_); apply Exists.intro; refine ⟨fun L w' hS => ?_, ?_⟩; (have hb := hS.1; have g0 := hS.2.1; have g1 := hS.2.2.1; have g2 := hS.2.2.2.1; have g3 := hS.2.2.2.2.1; have g4 := hS.2.2.2.2.2.1; have g5 := hS.2.2.2.2.2.2.1; have g6 := hS.2.2.2.2.2.2.2.1; have g7 := hS.2.2.2.2.2.2.2.2.1; have g8 := hS.2.2.2.2.2.2.2.2.2.1; have g9 := hS.2.2.2.2.2.2.2.2.2.2.1; have g10 := hS.2.2.2.2.2.2.2.2.2.2.2.1; have g11 := hS.2.2.2.2.2.2.2.2.2.2.2.2.1; have g12 := hS.2.2.2.2.2.2.2.2.2.2.2.2.2.1; have g13 := hS.2.2.2.2.2.2.2.2.2.2.2.2.2.2; clear hS; go_simp; rfl); (go_simp; refine hK _ ?_; clear hK K)
  refine wpFreeL_val rfl (fun _ _ _ h => h) (fun K hK => ?_); apply Exists.intro; refine ⟨fun L w' hS => ?_, ?_⟩; (have hb := hS.1; have g0 := hS.2.1; have g1 := hS.2.2.1; have g2 := hS.2.2.2.1; have g3 := hS.2.2.2.2.1; have g4 := hS.2.2.2.2.2.1; have g5 := hS.2.2.2.2.2.2.1; have g6 := hS.2.2.2.2.2.2.2.1; have g7 := hS.2.2.2.2.2.2.2.2.1; have g8 := hS.2.2.2.2.2.2.2.2.2.1; have g9 := hS.2.2.2.2.2.2.2.2.2.2.1; have g10 := hS.2.2.2.2.2.2.2.2.2.2.2.1; have g11 := hS.2.2.2.2.2.2.2.2.2.2.2.2.1; have g12 := hS.2.2.2.2.2.2.2.2.2.2.2.2.2.1; have g13 := hS.2.2.2.2.2.2.2.2.2.2.2.2.2.2; clear hS; go_simp; rfl); (go_simp; refine hK _ ?_; clear hK K)
  refine wpFreeL_val rfl (fun _ _ _ h => h) (fun K hK => ?_); apply Exists.intro; refine ⟨fun L w' hS => ?_, ?_⟩; (have hb := hS.1; have g0 := hS.2.1; have g1 := hS.2.2.1; have g2 := hS.2.2.2.1; have g3 := hS.2.2.2.2.1; have g4 := hS.2.2.2.2.2.1; have g5 := hS.2.2.2.2.2.2.1; have g6 := hS.2.2.2.2.2.2.2.1; have g7 := hS.2.2.2.2.2.2.2.2.1; have g8 := hS.2.2.2.2.2.2.2.2.2.1; have g9 := hS.2.2.2.2.2.2.2.2.2.2.1; have g10 := hS.2.2.2.2.2.2.2.2.2.2.2.1; have g11 := hS.2.2.2.2.2.2.2.2.2.2.2.2.1; have g12 := hS.2.2.2.2.2.2.2.2.2.2.2.2.2.1; have g13 := hS.2.2.2.2.2.2.2.2.2.2.2.2.2.2; clear hS; go_simp; rfl); (go_simp; refine hK _ ?_; clear hK K)
  refine wpFreeL_val rfl (fun _ _ _ h => h) (fun K hK => ?_); apply Exists.intro; refine ⟨fun L w' hS => ?_, ?_⟩; (have hb := hS.1; have g0 := hS.2.1; have g1 := hS.2.2.1; have g2 := hS.2.2.2.1; have g3 := hS.2.2.2.2.1; have g4 := hS.2.2.2.2.2.1; have g5 := hS.2.2.2.2.2.2.1; have g6 := hS.2.2.2.2.2.2.2.1; have g7 := hS.2.2.2.2.2.2.2.2.1; have g8 := hS.2.2.2.2.2.2.2.2.2.1; have g9 := hS.2.2.2.2.2.2.2.2.2.2.1; have g10 := hS.2.2.2.2.2.2.2.2.2.2.2.1; have g11 := hS.2.2.2.2.2.2.2.2.2.2.2.2.1; have g12 := hS.2.2.2.2.2.2.2.2.2.2.2.2.2.1; have g13 := hS.2.2.2.2.2.2.2.2.2.2.2.2.2.2; clear hS; go_simp; rfl); (go_simp; refine hK _ ?_; clear hK K)
  refine wpFreeL_val rfl (fun _ _ _ h => h) (fun K hK => ?_); apply Exists.intro; refine ⟨fun L w' hS => ?_, ?_⟩; (have hb := hS.1; have g0 := hS.2.1; have g1 := hS.2.2.1; have g2 := hS.2.2.2.1; have g3 := hS.2.2.2.2.1; have g4 := hS.2.2.2.2.2.1; have g5 := hS.2.2.2.2.2.2.1; have g6 := hS.2.2.2.2.2.2.2.1; have g7 := hS.2.2.2.2.2.2.2.2.1; have g8 := hS.2.2.2.2.2.2.2.2.2.1; have g9 := hS.2.2.2.2.2.2.2.2.2.2.1; have g10 := hS.2.2.2.2.2.2.2.2.2.2.2.1; have g11 := hS.2.2.2.2.2.2.2.2.2.2.2.2.1; have g12 := hS.2.2.2.2.2.2.2.2.2.2.2.2.2.1; have g13 := hS.2.2.2.2.2.2.2.2.2.2.2.2.2.2; clear hS; go_simp; rfl); (go_simp; refine hK _ ?_; clear hK K)
  refine wpFreeL_val rfl (fun _ _ _ h => h) (fun K hK => ?_); apply Exists.intro; refine ⟨fun L w' hS => ?_, ?_⟩; (have hb := hS.1; have g0 := hS.2.1; have g1 := hS.2.2.1; have g2 := hS.2.2.2.1; have g3 := hS.2.2.2.2.1; have g4 := hS.2.2.2.2.2.1; have g5 := hS.2.2.2.2.2.2.1; have g6 := hS.2.2.2.2.2.2.2.1; have g7 := hS.2.2.2.2.2.2.2.2.1; have g8 := hS.2.2.2.2.2.2.2.2.2.1; have g9 := hS.2.2.2.2.2.2.2.2.2.2.1; have g10 := hS.2.2.2.2.2.2.2.2.2.2.2.1; have g11 := hS.2.2.2.2.2.2.2.2.2.2.2.2.1; have g12 := hS.2.2.2.2.2.2.2.2.2.2.2.2.2.1; have g13 := hS.2.2.2.2.2.2.2.2.2.2.2.2.2.2; clear hS; go_simp; rfl); (go_simp; refine hK _ ?_; clear hK K)
  refine wpFreeL_val rfl (fun _ _ _ h => h) (fun K hK => ?_); apply Exists.intro; refine ⟨fun L w' hS => ?_, ?_⟩; (have hb := hS.1; have g0 := hS.2.1; have g1 := hS.2.2.1; have g2 := hS.2.2.2.1; have g3 := hS.2.2.2.2.1; have g4 := hS.2.2.2.2.2.1; have g5 := hS.2.2.2.2.2.2.1; have g6 := hS.2.2.2.2.2.2.2.1; have g7 := hS.2.2.2.2.2.2.2.2.1; have g8 := hS.2.2.2.2.2.2.2.2.2.1; have g9 := hS.2.2.2.2.2.2.2.2.2.2.1; have g10 := hS.2.2.2.2.2.2.2.2.2.2.2.1; have g11 := hS.2.2.2.2.2.2.2.2.2.2.2.2.1; have g12 := hS.2.2.2.2.2.2.2.2.2.2.2.2.2.1; have g13 := hS.2.2.2.2.2.2.2.2.2.2.2.2.2.2; clear hS; go_simp; rfl); (go_simp; refine hK _ ?_; clear hK K)
  refine wpFreeL_val rfl (fun _ _ _ h => h) (fun K hK => ?_); apply Exists.intro; refine ⟨fun L w' hS => ?_, ?_⟩; (have hb := hS.1; have g0 := hS.2.1; have g1 := hS.2.2.1; have g2 := hS.2.2.2.1; have g3 := hS.2.2.2.2.1; have g4 := hS.2.2.2.2.2.1; have g5 := hS.2.2.2.2.2.2.1; have g6 := hS.2.2.2.2.2.2.2.1; have g7 := hS.2.2.2.2.2.2.2.2.1; have g8 := hS.2.2.2.2.2.2.2.2.2.1; have g9 := hS.2.2.2.2.2.2.2.2.2.2.1; have g10 := hS.2.2.2.2.2.2.2.2.2.2.2.1; have g11 := hS.2.2.2.2.2.2.2.2.2.2.2.2.1; have g12 := hS.2.2.2.2.2.2.2.2.2.2.2.2.2.1; have g13 := hS.2.2.2.2.2.2.2.2.2.2.2.2.2.2; clear hS; go_simp; rfl); (go_simp; refine hK _ ?_; clear hK K)
  refine wpFreeL_gen rfl (fun K hK => ?_); apply Exists.intro; refine ⟨fun L w' hcl hL hdep hS => ?_, ?_⟩
  · have hb := hS.1; have g0 := hS.2.1; have g1 := hS.2.2.1; have g2 := hS.2.2.2.1; have g3 := hS.2.2.2.2.1; have g4 := hS.2.2.2.2.2.1; have g5 := hS.2.2.2.2.2.2.1; have g6 := hS.2.2.2.2.2.2.2.1; have g7 := hS.2.2.2.2.2.2.2.2.1; have g8 := hS.2.2.2.2.2.2.2.2.2.1; have g9 := hS.2.2.2.2.2.2.2.2.2.2.1; have g10 := hS.2.2.2.2.2.2.2.2.2.2.2.1; have g11 := hS.2.2.2.2.2.2.2.2.2.2.2.2.1; have g12 := hS.2.2.2.2.2.2.2.2.2.2.2.2.2.1; have g13 := hS.2.2.2.2.2.2.2.2.2.2.2.2.2.2; go_simp; refine (HSD2.out _ hb).mono ?_; rintro e w1 ⟨rfl, hb1⟩; exact ⟨rfl, ⟨hb.trans (hb1.mono (by have := hb.size; omega)), keepc hb1 g0, keepc hb1 g1, keepc hb1 g2, keepc hb1 g3, keepc hb1 g4, keepc hb1 g5, keepc hb1 g6, keepc hb1 g7, keepc hb1 g8, keepc hb1 g9, keepc hb1 g10, keepc hb1 g11, keepc hb1 g12, keepc hb1 g13⟩⟩
  go_simp; refine hK _ ?_; clear hK K
  refine wpFreeL_val rfl (fun _ _ _ h => h) (fun K hK => ?_); apply Exists.intro; refine ⟨fun L w' hS => ?_, ?_⟩; (have hb := hS.1; have g0 := hS.2.1; have g1 := hS.2.2.1; have g2 := hS.2.2.2.1; have g3 := hS.2.2.2.2.1; have g4 := hS.2.2.2.2.2.1; have g5 := hS.2.2.2.2.2.2.1; have g6 := hS.2.2.2.2.2.2.2.1; have g7 := hS.2.2.2.2.2.2.2.2.1; have g8 := hS.2.2.2.2.2.2.2.2.2.1; have g9 := hS.2.2.2.2.2.2.2.2.2.2.1; have g10 := hS.2.2.2.2.2.2.2.2.2.2.2.1; have g11 := hS.2.2.2.2.2.2.2.2.2.2.2.2.1; have g12 := hS.2.2.2.2.2.2.2.2.2.2.2.2.2.1; have g13 := hS.2.2.2.2.2.2.2.2.2.2.2.2.2.2; clear hS; go_simp; rfl); (go_simp; refine hK _ ?_; clear hK K)
  refine wpFreeL_val rfl (fun _ _ _ h => h) (fun K hK => ?_); apply Exists.intro; refine ⟨fun L w' hS => ?_, ?_⟩; (have hb := hS.1; have g0 := hS.2.1; have g1 := hS.2.2.1; have g2 := hS.2.2.2.1; have g3 := hS.2.2.2.2.1; have g4 := hS.2.2.2.2.2.1; have g5 := hS.2.2.2.2.2.2.1; have g6 := hS.2.2.2.2.2.2.2.1; have g7 := hS.2.2.2.2.2.2.2.2.1; have g8 := hS.2.2.2.2.2.2.2.2.2.1; have g9 := hS.2.2.2.2.2.2.2.2.2.2.1; have g10 := hS.2.2.2.2.2.2.2.2.2.2.2.1; have g11 := hS.2.2.2.2.2.2.2.2.2.2.2.2.1; have g12 := hS.2.2.2.2.2.2.2.2.2.2.2.2.2.1; have g13 := hS.2.2.2.2.2.2.2.2.2.2.2.2.2.2; clear hS; go_simp; rfl); (go_simp; refine hK _ ?_; clear hK K)
  refine wpFreeL_val rfl (fun _ _ _ h => h) (fun K hK => ?_); apply Exists.intro; refine ⟨fun L w' hS => ?_, ?_⟩; (have hb := hS.1; have g0 := hS.2.1; have g1 := hS.2.2.1; have g2 := hS.2.2.2.1; have g3 := hS.2.2.2.2.1; have g4 := hS.2.2.2.2.2.1; have g5 := hS.2.2.2.2.2.2.1; have g6 := hS.2.2.2.2.2.2.2.1; have g7 := hS.2.2.2.2.2.2.2.2.1; have g8 := hS.2.2.2.2.2.2.2.2.2.1; have g9 := hS.2.2.2.2.2.2.2.2.2.2.1; have g10 := hS.2.2.2.2.2.2.2.2.2.2.2.1; have g11 := hS.2.2.2.2.2.2.2.2.2.2.2.2.1; have g12 := hS.2.2.2.2.2.2.2.2.2.2.2.2.2.1; have g13 := hS.2.2.2.2.2.2.2.2.2.2.2.2.2.2; clear hS; go_simp; rfl); (go_simp; refine hK _ ?_; clear hK K)
  refine wpFreeL_val rfl (fun _ _ _ h => h) (fun K hK => ?_); apply Exists.intro; refine ⟨fun L w' hS => ?_, ?_⟩; (have hb := hS.1; have g0 := hS.2.1; have g1 := hS.2.2.1; have g2 := hS.2.2.2.1; have g3 := hS.2.2.2.2.1; have g4 := hS.2.2.2.2.2.1; have g5 := hS.2.2.2.2.2.2.1; have g6 := hS.2.2.2.2.2.2.2.1; have g7 := hS.2.2.2.2.2.2.2.2.1; have g8 := hS.2.2.2.2.2.2.2.2.2.1; have g9 := hS.2.2.2.2.2.2.2.2.2.2.1; have g10 := hS.2.2.2.2.2.2.2.2.2.2.2.1; have g11 := hS.2.2.2.2.2.2.2.2.2.2.2.2.1; have g12 := hS.2.2.2.2.2.2.2.2.2.2.2.2.2.1; have g13 := hS.2.2.2.2.2.2.2.2.2.2.2.2.2.2; clear hS; go_simp; rfl); (go_simp; refine hK _ ?_; clear hK K)
  refine wpFreeL_val rfl (fun _ _ _ h => h) (fun K hK => ?_); apply Exists.intro; refine ⟨fun L w' hS => ?_, ?_⟩; (have hb := hS.1; have g0 := hS.2.1; have g1 := hS.2.2.1; have g2 := hS.2.2.2.1; have g3 := hS.2.2.2.2.1; have g4 := hS.2.2.2.2.2.1; have g5 := hS.2.2.2.2.2.2.1; have g6 := hS.2.2.2.2.2.2.2.1; have g7 := hS.2.2.2.2.2.2.2.2.1; have g8 := hS.2.2.2.2.2.2.2.2.2.1; have g9 := hS.2.2.2.2.2.2.2.2.2.2.1; have g10 := hS.2.2.2.2.2.2.2.2.2.2.2.1; have g11 := hS.2.2.2.2.2.2.2.2.2.2.2.2.1; have g12 := hS.2.2.2.2.2.2.2.2.2.2.2.2.2.1; have g13 := hS.2.2.2.2.2.2.2.2.2.2.2.2.2.2; clear hS; go_simp; rfl); (go_simp; refine hK _ ?_; clear hK K)
  refine wpFreeL_val rfl (fun _ _ _ h => h) (fun K hK => ?_); apply Exists.intro; refine ⟨fun L w' hS => ?_, ?_⟩; (have hb := hS.1; have g0 := hS.2.1; have g1 := hS.2.2.1; have g2 := hS.2.2.2.1; have g3 := hS.2.2.2.2.1; have g4 := hS.2.2.2.2.2.1; have g5 := hS.2.2.2.2.2.2.1; have g6 := hS.2.2.2.2.2.2.2.1; have g7 := hS.2.2.2.2.2.2.2.2.1; have g8 := hS.2.2.2.2.2.2.2.2.2.1; have g9 := hS.2.2.2.2.2.2.2.2.2.2.1; have g10 := hS.2.2.2.2.2.2.2.2.2.2.2.1; have g11 := hS.2.2.2.2.2.2.2.2.2.2.2.2.1; have g12 := hS.2.2.2.2.2.2.2.2.2.2.2.2.2.1; have g13 := hS.2.2.2.2.2.2.2.2.2.2.2.2.2.2; clear hS; go_simp; rfl); (go_simp; refine hK _ ?_; clear hK K)
  refine wpFreeL_val rfl (fun _ _ _ h => h) (fun K hK => ?_); apply Exists.intro; refine ⟨fun L w' hS => ?_, ?_⟩; (have hb := hS.1; have g0 := hS.2.1; have g1 := hS.2.2.1; have g2 := hS.2.2.2.1; have g3 := hS.2.2.2.2.1; have g4 := hS.2.2.2.2.2.1; have g5 := hS.2.2.2.2.2.2.1; have g6 := hS.2.2.2.2.2.2.2.1; have g7 := hS.2.2.2.2.2.2.2.2.1; have g8 := hS.2.2.2.2.2.2.2.2.2.1; have g9 := hS.2.2.2.2.2.2.2.2.2.2.1; have g10 := hS.2.2.2.2.2.2.2.2.2.2.2.1; have g11 := hS.2.2.2.2.2.2.2.2.2.2.2.2.1; have g12 := hS.2.2.2.2.2.2.2.2.2.2.2.2.2.1; have g13 := hS.2.2.2.2.2.2.2.2.2.2.2.2.2.2; clear hS; go_simp; rfl); (go_simp; refine hK _ ?_; clear hK K)
  refine wpFreeL_val rfl (fun _ _ _ h => h) (fun K hK => ?_); apply Exists.intro; refine ⟨fun L w' hS => ?_, ?_⟩; (have hb := hS.1; have g0 := hS.2.1; have g1 := hS.2.2.1; have g2 := hS.2.2.2.1; have g3 := hS.2.2.2.2.1; have g4 := hS.2.2.2.2.2.1; have g5 := hS.2.2.2.2.2.2.1; have g6 := hS.2.2.2.2.2.2.2.1; have g7 := hS.2.2.2.2.2.2.2.2.1; have g8 := hS.2.2.2.2.2.2.2.2.2.1; have g9 := hS.2.2.2.2.2.2.2.2.2.2.1; have g10 := hS.2.2.2.2.2.2.2.2.2.2.2.1; have g11 := hS.2.2.2.2.2.2.2.2.2.2.2.2.1; have g12 := hS.2.2.2.2.2.2.2.2.2.2.2.2.2.1; have g13 := hS.2.2.2.2.2.2.2.2.2.2.2.2.2.2; clear hS; go_simp; rfl); (go_simp; refine hK _ ?_; clear hK K)
  refine wpFreeL_val rfl (fun _ _ _ h => h) (fun K hK => ?_); apply Exists.intro; refine ⟨fun L w' hS => ?_, ?_⟩; (have hb := hS.1; have g0 := hS.2.1; have g1 := hS.2.2.1; have g2 := hS.2.2.2.1; have g3 := hS.2.2.2.2.1; have g4 := hS.2.2.2.2.2.1; have g5 := hS.2.2.2.2.2.2.1; have g6 := hS.2.2.2.2.2.2.2.1; have g7 := hS.2.2.2.2.2.2.2.2.1; have g8 := hS.2.2.2.2.2.2.2.2.2.1; have g9 := hS.2.2.2.2.2.2.2.2.2.2.1; have g10 := hS.2.2.2.2.2.2.2.2.2.2.2.1; have g11 := hS.2.2.2.2.2.2.2.2.2.2.2.2.1; have g12 := hS.2.2.2.2.2.2.2.2.2.2.2.2.2.1; have g13 := hS.2.2.2.2.2.2.2.2.2.2.2.2.2.2; clear hS; go_simp; rfl); (go_simp; refine hK _ ?_; clear hK K)
  refine wpFreeL_gen rfl (fun K hK => ?_); apply Exists.intro; refine ⟨fun L w' hcl hL hdep hS => ?_, ?_⟩
  · have hb := hS.1; have g0 := hS.2.1; have g1 := hS.2.2.1; have g2 := hS.2.2.2.1; have g3 := hS.2.2.2.2.1; have g4 := hS.2.2.2.2.2.1; have g5 := hS.2.2.2.2.2.2.1; have g6 := hS.2.2.2.2.2.2.2.1; have g7 := hS.2.2.2.2.2.2.2.2.1; have g8 := hS.2.2.2.2.2.2.2.2.2.1; have g9 := hS.2.2.2.2.2.2.2.2.2.2.1; have g10 := hS.2.2.2.2.2.2.2.2.2.2.2.1; have g11 := hS.2.2.2.2.2.2.2.2.2.2.2.2.1; have g12 := hS.2.2.2.2.2.2.2.2.2.2.2.2.2.1; have g13 := hS.2.2.2.2.2.2.2.2.2.2.2.2.2.2; go_simp; refine (HSD3.out _ hb).mono ?_; rintro e w1 ⟨rfl, hb1⟩; exact ⟨rfl, ⟨hb.trans (hb1.mono (by have := hb.size; omega)), keepc hb1 g0, keepc hb1 g1, keepc hb1 g2, keepc hb1 g3, keepc hb1 g4, keepc hb1 g5, keepc hb1 g6, keepc hb1 g7, keepc hb1 g8, keepc hb1 g9, keepc hb1 g10, keepc hb1 g11, keepc hb1 g12, keepc hb1 g13⟩⟩
  go_simp; refine hK _ ?_; clear hK K
  refine wpFreeL_val rfl (fun _ _ _ h => h) (fun K hK => ?_); apply Exists.intro; refine ⟨fun L w' hS => ?_, ?_⟩; (have hb := hS.1; have g0 := hS.2.1; have g1 := hS.2.2.1; have g2 := hS.2.2.2.1; have g3 := hS.2.2.2.2.1; have g4 := hS.2.2.2.2.2.1; have g5 := hS.2.2.2.2.2.2.1; have g6 := hS.2.2.2.2.2.2.2.1; have g7 := hS.2.2.2.2.2.2.2.2.1; have g8 := hS.2.2.2.2.2.2.2.2.2.1; have g9 := hS.2.2.2.2.2.2.2.2.2.2.1; have g10 := hS.2.2.2.2.2.2.2.2.2.2.2.1; have g11 := hS.2.2.2.2.2.2.2.2.2.2.2.2.1; have g12 := hS.2.2.2.2.2.2.2.2.2.2.2.2.2.1; have g13 := hS.2.2.2.2.2.2.2.2.2.2.2.2.2.2; clear hS; go_simp; rfl); (go_simp; refine hK _ ?_; clear hK K)
  refine wpFreeL_val rfl (fun _ _ _ h => h) (fun K hK => ?_); apply Exists.intro; refine ⟨fun L w' hS => ?_, ?_⟩; (have hb := hS.1; have g0 := hS.2.1; have g1 := hS.2.2.1; have g2 := hS.2.2.2.1; have g3 := hS.2.2.2.2.1; have g4 := hS.2.2.2.2.2.1; have g5 := hS.2.2.2.2.2.2.1; have g6 := hS.2.2.2.2.2.2.2.1; have g7 := hS.2.2.2.2.2.2.2.2.1; have g8 := hS.2.2.2.2.2.2.2.2.2.1; have g9 := hS.2.2.2.2.2.2.2.2.2.2.1; have g10 := hS.2.2.2.2.2.2.2.2.2.2.2.1; have g11 := hS.2.2.2.2.2.2.2.2.2.2.2.2.1; have g12 := hS.2.2.2.2.2.2.2.2.2.2.2.2.2.1; have g13 := hS.2.2.2.2.2.2.2.2.2.2.2.2.2.2; clear hS; go_simp; rfl); (go_simp; refine hK _ ?_; clear hK K)
  refine wpFreeL_val rfl (fun _ _ _ h => h) (fun K hK => ?_); apply Exists.intro; refine ⟨fun L w' hS => ?_, ?_⟩; (have hb := hS.1; have g0 := hS.2.1; have g1 := hS.2.2.1; have g2 := hS.2.2.2.1; have g3 := hS.2.2.2.2.1; have g4 := hS.2.2.2.2.2.1; have g5 := hS.2.2.2.2.2.2.1; have g6 := hS.2.2.2.2.2.2.2.1; have g7 := hS.2.2.2.2.2.2.2.2.1; have g8 := hS.2.2.2.2.2.2.2.2.2.1; have g9 := hS.2.2.2.2.2.2.2.2.2.2.1; have g10 := hS.2.2.2.2.2.2.2.2.2.2.2.1; have g11 := hS.2.2.2.2.2.2.2.2.2.2.2.2.1; have g12 := hS.2.2.2.2.2.2.2.2.2.2.2.2.2.1; have g13 := hS.2.2.2.2.2.2.2.2.2.2.2.2.2.2; clear hS; go_simp; rfl); (go_simp; refine hK _ ?_; clear hK K)
  refine wpFreeL_val rfl (fun _ _ _ h => h) (fun K hK => ?_); apply Exists.intro; refine ⟨fun L w' hS => ?_, ?_⟩; (have hb := hS.1; have g0 := hS.2.1; have g1 := hS.2.2.1; have g2 := hS.2.2.2.1; have g3 := hS.2.2.2.2.1; have g4 := hS.2.2.2.2.2.1; have g5 := hS.2.2.2.2.2.2.1; have g6 := hS.2.2.2.2.2.2.2.1; have g7 := hS.2.2.2.2.2.2.2.2.1; have g8 := hS.2.2.2.2.2.2.2.2.2.1; have g9 := hS.2.2.2.2.2.2.2.2.2.2.1; have g10 := hS.2.2.2.2.2.2.2.2.2.2.2.1; have g11 := hS.2.2.2.2.2.2.2.2.2.2.2.2.1; have g12 := hS.2.2.2.2.2.2.2.2.2.2.2.2.2.1; have g13 := hS.2.2.2.2.2.2.2.2.2.2.2.2.2.2; clear hS; go_simp; rfl); (go_simp; refine hK _ ?_; clear hK K)
  refine wpFreeL_val rfl (fun _ _ _ h => h) (fun K hK => ?_); apply Exists.intro; refine ⟨fun L w' hS => ?_, ?_⟩; (have hb := hS.1; have g0 := hS.2.1; have g1 := hS.2.2.1; have g2 := hS.2.2.2.1; have g3 := hS.2.2.2.2.1; have g4 := hS.2.2.2.2.2.1; have g5 := hS.2.2.2.2.2.2.1; have g6 := hS.2.2.2.2.2.2.2.1; have g7 := hS.2.2.2.2.2.2.2.2.1; have g8 := hS.2.2.2.2.2.2.2.2.2.1; have g9 := hS.2.2.2.2.2.2.2.2.2.2.1; have g10 := hS.2.2.2.2.2.2.2.2.2.2.2.1; have g11 := hS.2.2.2.2.2.2.2.2.2.2.2.2.1; have g12 := hS.2.2.2.2.2.2.2.2.2.2.2.2.2.1; have g13 := hS.2.2.2.2.2.2.2.2.2.2.2.2.2.2; clear hS; go_simp; rfl); (go_simp; refine hK _ ?_; clear hK K)
  refine wpFreeL_val rfl (fun _ _ _ h => h) (fun K hK => ?_); apply Exists.intro; refine ⟨fun L w' hS => ?_, ?_⟩; (have hb := hS.1; have g0 := hS.2.1; have g1 := hS.2.2.1; have g2 := hS.2.2.2.1; have g3 := hS.2.2.2.2.1; have g4 := hS.2.2.2.2.2.1; have g5 := hS.2.2.2.2.2.2.1; have g6 := hS.2.2.2.2.2.2.2.1; have g7 := hS.2.2.2.2.2.2.2.2.1; have g8 := hS.2.2.2.2.2.2.2.2.2.1; have g9 := hS.2.2.2.2.2.2.2.2.2.2.1; have g10 := hS.2.2.2.2.2.2.2.2.2.2.2.1; have g11 := hS.2.2.2.2.2.2.2.2.2.2.2.2.1; have g12 := hS.2.2.2.2.2.2.2.2.2.2.2.2.2.1; have g13 := hS.2.2.2.2.2.2.2.2.2.2.2.2.2.2; clear hS; go_simp; rfl); (go_simp; refine hK _ ?_; clear hK K)
  refine wpFreeL_val rfl (fun _ _ _ h => h) (fun K hK => ?_); apply Exists.intro; refine ⟨fun L w' hS => ?_, ?_⟩; (have hb := hS.1; have g0 := hS.2.1; have g1 := hS.2.2.1; have g2 := hS.2.2.2.1; have g3 := hS.2.2.2.2.1; have g4 := hS.2.2.2.2.2.1; have g5 := hS.2.2.2.2.2.2.1; have g6 := hS.2.2.2.2.2.2.2.1; have g7 := hS.2.2.2.2.2.2.2.2.1; have g8 := hS.2.2.2.2.2.2.2.2.2.1; have g9 := hS.2.2.2.2.2.2.2.2.2.2.1; have g10 := hS.2.2.2.2.2.2.2.2.2.2.2.1; have g11 := hS.2.2.2.2.2.2.2.2.2.2.2.2.1; have g12 := hS.2.2.2.2.2.2.2.2.2.2.2.2.2.1; have g13 := hS.2.2.2.2.2.2.2.2.2.2.2.2.2.2; clear hS; go_simp; rfl); (go_simp; refine hK _ ?_; clear hK K)
  refine wpFreeL_nil (fun L w' hL hS => ?_)
  have hb := hS.1; have g0 := hS.2.1; have g1 := hS.2.2.1; have g2 := hS.2.2.2.1; have g3 := hS.2.2.2.2.1; have g4 := hS.2.2.2.2.2.1; have g5 := hS.2.2.2.2.2.2.1; have g6 := hS.2.2.2.2.2.2.2.1; have g7 := hS.2.2.2.2.2.2.2.2.1; have g8 := hS.2.2.2.2.2.2.2.2.2.1; have g9 := hS.2.2.2.2.2.2.2.2.2.2.1; have g10 := hS.2.2.2.2.2.2.2.2.2.2.2.1; have g11 := hS.2.2.2.2.2.2.2.2.2.2.2.2.1; have g12 := hS.2.2.2.2.2.2.2.2.2.2.2.2.2.1; have g13 := hS.2.2.2.2.2.2.2.2.2.2.2.2.2.2
  clear hL hS
  have HBE := hid (below_step hb HB1.out)
  go_wp2_with fail
  go_ret
  exact ⟨rfl, HBE.out⟩
end Go.Proofs.Ytifcgimpgbeocaa
