/- The walk of area.Alloc: what it makes of the raw bytes. Printed by gen/alloc.py. -/
import Derived.Test.YtcfmimfkaabmkaaXB
set_option linter.unusedVariables false
set_option linter.unusedSimpArgs false
namespace Go.Proofs.Ytcfmimfkaabmkaa
open Go.RowKit
attribute [local go_sem] Oper.semAt_some
def allocAct (s : ByteArray) (n m4 : Int) (N N1 N3 b l : Nat) (Bx : Nat) (u : Int × Int × Int) : Act := { tmps := #[.string s, .int .i64 n, undef, .pointer (some ⟨N, 0, none⟩), .pointer (some ⟨N + 1, 0, none⟩), .pointer (some ⟨N + 1 + 1, 0, none⟩), .pointer (some ⟨N + 1 + 1 + 1, 0, none⟩), .pointer (some ⟨N1, 0, none⟩), .bool true, .pointer (some ⟨Bx, 0, none⟩), undef, undef, undef, .tuple #[.slice (some ⟨b, 0, none⟩) l l, .bool true], .string s, .tuple #[.slice (some ⟨b, 0, none⟩) l l, .bool true], .slice (some ⟨b, 0, none⟩) l l, .bool true, .bool true, .bool false, .int .i64 n, .bool false, .bool false, .int .i64 n, .bool false, .bool false, .slice (some ⟨b, 0, none⟩) l l, .slice (some ⟨b, 0, none⟩) l l, .int .i64 m4, .int .i64 (m4 + 1), .tuple #[], .slice (some ⟨b, 0, none⟩) l l, .func (.func 84) #[] #[.pointer (some ⟨N3, 0, none⟩)], .agg #[.int .i64 u.1, .int .i64 u.2.1, .int .i64 u.2.2], undef, undef, undef, undef, undef, undef, undef, undef, undef, undef, undef, undef, undef, undef, undef, undef, undef, undef, undef, undef, undef, undef, undef, undef, undef, undef, undef, undef, undef, undef, undef, undef, undef, undef, undef, undef, undef, undef, undef, undef, undef, undef, undef, undef, undef, undef, undef, undef, undef, undef, undef, undef, undef, undef, undef, undef, undef, undef], defers := [] }
theorem byt_set_ne (l : List UInt8) (k i : Nat) (c : UInt8) (h : k ≠ i) : byt (l.set k c) i = byt l i := by unfold byt; rw [List.getElem?_set_ne h]
theorem num_set_ne (l : List UInt8) (k x i : Nat) (h : i + 4 ≤ k ∨ k + 4 ≤ i) : num (setL l k x) i = num l i := by
  unfold num setL
  simp only [byt_set_ne _ _ _ _ (show k ≠ i by omega), byt_set_ne _ _ _ _ (show k + 1 ≠ i by omega), byt_set_ne _ _ _ _ (show k + 2 ≠ i by omega), byt_set_ne _ _ _ _ (show k + 3 ≠ i by omega),
    byt_set_ne _ _ _ _ (show k ≠ i + 1 by omega), byt_set_ne _ _ _ _ (show k + 1 ≠ i + 1 by omega), byt_set_ne _ _ _ _ (show k + 2 ≠ i + 1 by omega), byt_set_ne _ _ _ _ (show k + 3 ≠ i + 1 by omega),
    byt_set_ne _ _ _ _ (show k ≠ i + 2 by omega), byt_set_ne _ _ _ _ (show k + 1 ≠ i + 2 by omega), byt_set_ne _ _ _ _ (show k + 2 ≠ i + 2 by omega), byt_set_ne _ _ _ _ (show k + 3 ≠ i + 2 by omega),
    byt_set_ne _ _ _ _ (show k ≠ i + 3 by omega), byt_set_ne _ _ _ _ (show k + 1 ≠ i + 3 by omega), byt_set_ne _ _ _ _ (show k + 2 ≠ i + 3 by omega), byt_set_ne _ _ _ _ (show k + 3 ≠ i + 3 by omega)]
theorem ul_set4 {l : List UInt8} {en a : Int} {us : List (Int × Int × Int)} (h : UL l en a us) (x : Nat) : UL (setL l 4 x) en a us := by
  induction h with
  | nil h => exact .nil h
  | @cons a r h h0 h1 hr ih =>
    have e1 : num (setL l 4 x) a.toNat = num l a.toNat := num_set_ne _ _ _ _ (.inr (by omega))
    have e2 : num (setL l 4 x) (a.toNat + 4) = num l (a.toNat + 4) := num_set_ne _ _ _ _ (.inr (by omega))
    have := UL.cons (l := setL l 4 x) h h0 (by rw [e1]; exact h1) (by rw [e1]; exact ih)
    rwa [e1, e2] at this
/-- Between two rounds: nothing has changed, no unit so far fits. -/
def AllocI (n : Int) (us : List (Int × Int × Int)) (W0 : World) (k : Nat) (W : World) : Prop := Below W0.heap.size W0 W ∧ (us.take k).find? (allocFit n) = none
def AllocX (r : List UInt8 × Int × Int) (w : World) (c : Code) (_ : Nat) (W : World) : Prop :=
  c = .ret ∧ Below w.heap.size w W ∧ W.cell? ⟨w.heap.size + 1, 0, none⟩ = some (strV r.1) ∧ W.cell? ⟨w.heap.size + 2, 0, none⟩ = some (.int .i64 r.2.1) ∧ W.cell? ⟨w.heap.size + 3, 0, none⟩ = some (.int .i64 r.2.2)
theorem allocI_own (n : Int) (us : List (Int × Int × Int)) (W0 : World) (B : Nat) (h : W0.heap.size ≤ B) : OwnFrom B (AllocI n us W0) :=
  OwnFrom.and (ownFrom_below (Nat.le_refl _) h) (ownF_pure _)
set_option maxHeartbeats 1000000 in
set_option maxRecDepth 100000 in
theorem alloc_main (s : ByteArray) (n : Int) (us : List (Int × Int × Int)) (l : List UInt8) (w : World) (hs : s.size ≤ maxLen) (hl : s.data.toList = l) (h : openS l = true) (hn : 1 ≤ n) (hn2 : n ≤ 8192)
    (hu : UL l (8 + num l 0) 8 us) (h1 : 16 ≤ l.length) (h2 : l.length ≤ 8192) (h3 : 8 + num l 0 ≤ l.length) (h4 : num l 4 ≤ 8192) :
    Calls Try.prog 20 #[.string s, .int .i64 n] w (TriPost (allocRaw l us n) w) := by
  have HO := fun w => open_any s w hs
  rw [hl] at HO
  have HO := hid HO
  have HH := hid h; clear h hl hs
  have HBD := hid (us_bd hu (by omega))
  have HU := hid hu; clear hu
  have hd1 : decide (n < 1) = false := by simp; omega
  have hd2 : decide (8192 < n) = false := by simp; omega
  have hn0 := num_bd l 0
  have hn4 := num_bd l 4
  refine (callsIn_wide (n := 0)).1 (callsIn_of_wp_marks Try.func20 rfl trivial ?_ rfl)
  simp only [Try.ntmps20, List.size_toArray, List.length_cons, List.length_nil, Nat.reduceAdd, Nat.reduceSub, Array.replicate_succ, Array.replicate_zero, List.push_toArray, List.append_toArray, List.nil_append, List.cons_append]
  gi_wp2_with fail
  refine ⟨trivial, rfl, ?_⟩
  refine (callsIn_wide.2 (HO.out _)).mono ?_
  rintro e w1 ⟨hb, hx⟩
  rw [HH.out, if_pos rfl] at hx
  obtain ⟨b, rfl, hB, hBl⟩ := hx
  have hbw : Below w.heap.size w w1 := ((((Below.refl w.heap.size w).alloc (Nat.le_refl _) _).alloc (by simp) _).alloc (by simp; omega) _ |>.alloc (by simp; omega) _).trans (hb.mono (by simp; omega))
  obtain ⟨hc, hf⟩ := bcell hb
  have hz : w.heap.size + 3 < w1.heap.size := by have := hb.size; simp at this; omega
  have hz2 : w.heap.size + 2 < w1.heap.size := by omega
  have hz1 : w.heap.size + 1 < w1.heap.size := by omega
  have hz0 : w.heap.size < w1.heap.size := by omega
  have hbl : w.heap.size + 3 < b := by simp at hBl; omega
  have hblt : b < w1.heap.size := hB.lt
  have c0 : w1.cell? ⟨w.heap.size, 0, none⟩ = some (.int .i64 n) := by rw [hc _ _ (by simp; omega)]; go_simp
  have f1 : OwnC w1 ⟨w.heap.size + 1, 0, none⟩ := ⟨⟨.string ⟨#[]⟩, by rw [hc _ _ (by simp <;> omega)]; go_simp⟩, by rw [hf _ _ (by simp <;> omega)]; go_simp⟩
  have f2 : OwnC w1 ⟨w.heap.size + 2, 0, none⟩ := ⟨⟨.int .i64 0, by rw [hc _ _ (by simp <;> omega)]; go_simp⟩, by rw [hf _ _ (by simp <;> omega)]; go_simp⟩
  have f3 : OwnC w1 ⟨w.heap.size + 3, 0, none⟩ := ⟨⟨.int .i64 0, by rw [hc _ _ (by simp <;> omega)]; go_simp⟩, by rw [hf _ _ (by simp <;> omega)]; go_simp⟩
  clear hc hf hb hBl HO HH
  have hbz : w.heap.size ≤ b := by omega
  obtain ⟨W2, hW2⟩ : ∃ W2, W2 = w1.alloc (.cells #[.slice (some ⟨b, 0, none⟩) l.length l.length] 79) := ⟨_, rfl⟩
  have hz4 : w1.heap.size < W2.heap.size := by rw [hW2]; simp
  have hbw2 : Below w.heap.size w W2 := by rw [hW2]; exact hbw.alloc (by omega) _
  have hB2 : Bytes W2 b l := by rw [hW2]; exact hB.grow1 _
  have ch : W2.cell? ⟨w1.heap.size, 0, none⟩ = some (.slice (some ⟨b, 0, none⟩) l.length l.length) := by rw [hW2]; go_simp
  have c0 : W2.cell? ⟨w.heap.size, 0, none⟩ = some (.int .i64 n) := by rw [hW2]; exact keep_alloc c0 _
  have f1 : OwnC W2 ⟨w.heap.size + 1, 0, none⟩ := by rw [hW2]; exact own_alloc f1 _
  have f2 : OwnC W2 ⟨w.heap.size + 2, 0, none⟩ := by rw [hW2]; exact own_alloc f2 _
  have f3 : OwnC W2 ⟨w.heap.size + 3, 0, none⟩ := by rw [hW2]; exact own_alloc f3 _
  gi_wp2_with fail
  rw [← hW2]
  clear hW2 hbw hB
  have h4w : IntKind.i64.wrap (num l 4 + 1) = num l 4 + 1 := IntWalk.i64_in _ ⟨by omega, by omega⟩
  refine wpIn_region_freeL open_wide (by kernel_rfl) (by kernel_rfl) (fun L w' => Below w.heap.size w w' ∧ Bytes w' b (if L 4 = true then (setL l 4 (num l 4 + 1).toNat) else l) ∧ w'.cell? ⟨w.heap.size, 0, none⟩ = some (.int .i64 n) ∧ w'.cell? ⟨w1.heap.size, 0, none⟩ = some (.slice (some ⟨b, 0, none⟩) l.length l.length) ∧ OwnC w' ⟨w.heap.size + 1, 0, none⟩ ∧ OwnC w' ⟨w.heap.size + 2, 0, none⟩ ∧ OwnC w' ⟨w.heap.size + 3, 0, none⟩) ⟨(hbw2).drew, hB2, c0, ch, f1, f2, f3⟩ ?_
  refine wpFreeL_val rfl (fun _ _ _ h => h) (fun K hK => ?_); apply Exists.intro; refine ⟨fun L w' hS => ?_, ?_⟩; (have hb := hS.1; have hB := hS.2.1; have g0 := hS.2.2.1; have g1 := hS.2.2.2.1; have o0 := hS.2.2.2.2.1; have o1 := hS.2.2.2.2.2.1; have o2 := hS.2.2.2.2.2.2; clear hS; go_simp; rfl); (go_simp; refine hK _ ?_; clear hK K)
  refine wpFreeL_val rfl (fun _ _ _ h => h) (fun K hK => ?_); apply Exists.intro; refine ⟨fun L w' hS => ?_, ?_⟩; (have hb := hS.1; have hB := hS.2.1; have g0 := hS.2.2.1; have g1 := hS.2.2.2.1; have o0 := hS.2.2.2.2.1; have o1 := hS.2.2.2.2.2.1; have o2 := hS.2.2.2.2.2.2; clear hS; go_simp; rfl); (go_simp; refine hK _ ?_; clear hK K)
  refine wpFreeL_gen rfl (fun K hK => ?_); apply Exists.intro; refine ⟨fun L w' hcl hL hdep hS => ?_, ?_⟩
  · have hB := hS.2.1; have h4f : L 4 = false := (by cases hh : L 4 with | false => rfl | true => exact absurd ((hcl 3 _ rfl (hcl 4 _ rfl hh ⟨3, .data⟩ (by simp) rfl)) ⟨2, .data⟩ (by simp) rfl) (by rw [hL]; simp)); rw [h4f, if_neg (by simp)] at hB; go_simp; refine (get_any b _ _ l 4 _ hB rfl (by omega) (by omega) (Nat.le_refl _) (by omega)).mono ?_; rintro e w1' ⟨rfl, rfl⟩; exact ⟨rfl, hS⟩
  go_simp; refine hK _ ?_; clear hK K
  refine wpFreeL_val rfl (fun _ _ _ h => h) (fun K hK => ?_); apply Exists.intro; refine ⟨fun L w' hS => ?_, ?_⟩; (have hb := hS.1; have hB := hS.2.1; have g0 := hS.2.2.1; have g1 := hS.2.2.2.1; have o0 := hS.2.2.2.2.1; have o1 := hS.2.2.2.2.2.1; have o2 := hS.2.2.2.2.2.2; clear hS; go_simp; rfl); (go_simp; refine hK _ ?_; clear hK K)
  refine wpFreeL_gen rfl (fun K hK => ?_); apply Exists.intro; refine ⟨fun L w' hcl hL hdep hS => ?_, ?_⟩
  · have hb := hS.1; have hB := hS.2.1; have g0 := hS.2.2.1; have g1 := hS.2.2.2.1; have o0 := hS.2.2.2.2.1; have o1 := hS.2.2.2.2.2.1; have o2 := hS.2.2.2.2.2.2; have hwf : L 4 = false := hL; rw [hwf, if_neg (by simp)] at hB; go_simp; refine (set_any b _ _ l 4 (num l 4 + 1) _ hB rfl (by omega) (by omega) (Nat.le_refl _) (by omega) (by omega) (by omega)).mono ?_; rintro e w1 ⟨rfl, hB1, hg1, hsz⟩; exact ⟨rfl, ⟨below_grown hb hg1 hbz, hB1, hg1.cell g0 (by simp; omega), hg1.cell g1 (by simp; omega), own_grown o0 hg1 (by dsimp only; omega), own_grown o1 hg1 (by dsimp only; omega), own_grown o2 hg1 (by dsimp only; omega)⟩⟩
  go_simp; refine hK _ ?_; clear hK K
  refine wpFreeL_nil (fun L w' hL hS => ?_)
  have hb := hS.1; have hB := hS.2.1; have g0 := hS.2.2.1; have g1 := hS.2.2.2.1; have o0 := hS.2.2.2.2.1; have o1 := hS.2.2.2.2.2.1; have o2 := hS.2.2.2.2.2.2
  rw [hL 4 (by decide), if_pos rfl] at hB
  clear hL hS
  have HB := hid hB; clear hB
  have HBW := hid hb; clear hb
  have HU := HU; clear hbw2 hB2 ch c0 f1 f2 f3
  gi_wp2_with fail
  refine ⟨trivial, rfl, ?_⟩
  refine (callsIn_wide.2 (units_any _ _ _ _ rfl _)).mono ?_
  rintro e w2 ⟨rfl, rfl⟩
  gi_wp2_with fail
  obtain ⟨W0, hW0⟩ : ∃ W0, W0 = w'.alloc (.cells #[.slice (some ⟨b, 0, none⟩) l.length l.length] 79) := ⟨_, rfl⟩
  rw [← hW0]
  have hlt1 : w1.heap.size < w'.heap.size := World.block_lt_of_cell? _ _ g1
  have hz5 : W0.heap.size ≤ w'.heap.size + 1 := by rw [hW0]; simp
  have hz5' : w'.heap.size < W0.heap.size := by rw [hW0]; simp
  have hbw0 : Below w.heap.size w W0 := by rw [hW0]; exact HBW.out.alloc (by omega) _
  have hB0 : Bytes W0 b (setL l 4 (num l 4 + 1).toNat) := by rw [hW0]; exact HB.out.grow1 _
  have c0 : W0.cell? ⟨w.heap.size, 0, none⟩ = some (.int .i64 n) := by rw [hW0]; exact keep_alloc g0 _
  have ch : W0.cell? ⟨w1.heap.size, 0, none⟩ = some (.slice (some ⟨b, 0, none⟩) l.length l.length) := by rw [hW0]; exact keep_alloc g1 _
  have cr : W0.cell? ⟨w'.heap.size, 0, none⟩ = some (.slice (some ⟨b, 0, none⟩) l.length l.length) := by rw [hW0]; exact cell_new _ _ _ _ _ rfl
  have f1 : OwnC W0 ⟨w.heap.size + 1, 0, none⟩ := by rw [hW0]; exact own_alloc o0 _
  have f2 : OwnC W0 ⟨w.heap.size + 2, 0, none⟩ := by rw [hW0]; exact own_alloc o1 _
  have f3 : OwnC W0 ⟨w.heap.size + 3, 0, none⟩ := by rw [hW0]; exact own_alloc o2 _
  clear hW0 g0 g1 o0 o1 o2
  have HW0 := hid hbw0; clear hbw0 HBW HB
  obtain ⟨l1, hl1⟩ : ∃ l1, l1 = setL l 4 (num l 4 + 1).toNat := ⟨_, rfl⟩
  rw [← hl1] at hB0
  have hl1l : l1.length = l.length := by rw [hl1, setL_length]
  have hn01 : num l1 0 = num l 0 := by rw [hl1]; exact num_set_ne _ _ _ _ (.inl (by omega))
  have hu1 : UL l1 (8 + num l1 0) 8 us := by rw [hn01, hl1]; exact ul_set4 HU.out _
  have hen : 8 + num l 0 ≤ 8192 := by omega
  rw [← hl1l] at h1 h2 h3 ch cr ⊢
  have hen3 := h3
  rw [← hn01] at h3
  have HL1 := hid hl1; have HLL := hid hl1l; have HN01 := hid hn01; clear hl1 hl1l hn01
  refine wp_range (us := us.map encU) (R := Reads b w'.heap.size l1) rfl (enters_of Try.func84 (by kernel_rfl) rfl) (units_seq b w'.heap.size l1 us hu1 h1 h2 h3) ?hps
    (AllocI n us W0) (AllocX (allocRaw l us n) w) (UBox W0.heap.size us (allocAct s n (num l 4) w.heap.size w1.heap.size w'.heap.size b l1.length) (AllocI n us W0))
    ?hI ?hIx ?hAx ?hR ?h0 ?hassign ?hbody ?hdone ?hstop
  case hps =>
    intro k x hx
    obtain ⟨u, _, rfl⟩ := map_some hx
    rfl
  case hI => exact allocI_own _ _ _ _ (by omega)
  case hIx => exact fun c => OwnFrom.and (ownF_pure _) (OwnFrom.and (ownFrom_below (Nat.le_refl _) (by omega)) (OwnFrom.and (ownF_cell _ _) (OwnFrom.and (ownF_cell _ _) (ownF_cell _ _))))
  case hAx => exact ubox_own (allocI_own _ _ _ _ (by omega))
  case hR => exact fun k W hi => ⟨hB0.below hi.1 hB0.lt, keepc hi.1 cr⟩
  case h0 => exact ⟨Below.refl _ _, rfl⟩
  case hassign =>
    intro lp k x W hx hi hsz
    obtain ⟨u, hu1, rfl⟩ := map_some hx
    simp only [encU]
    go_simp
    gi_wp2_with fail
    exact ubox_new hu1 (by omega) rfl ⟨hi.1.alloc (by omega) _, hi.2⟩
  case hbody =>
    rintro lp k x a₁ W hx ⟨Bx, u, ⟨hu1, hBx, rfl⟩, q0, q1, q2, hbw, hno⟩ hsz
    have HNO := hid hno
    have HBK := hid hbw
    have d0 := keepc hbw c0
    have dh := keepc hbw ch
    have f1 := keepOwn hbw f1
    have f2 := keepOwn hbw f2
    have f3 := keepOwn hbw f3
    have hB := hB0.below hbw hB0.lt
    have hub := HBD.out u (List.mem_of_getElem? hu1)
    have HU1 := hid hu1
    clear hx hu1 hbw hno c0 ch cr hB0
    obtain ⟨a, s', m⟩ := u
    simp only at q0 q1 q2 hub
    obtain ⟨hub0, hub1, hub2⟩ := hub
    have hup := upZ_bd s' hub1
    have hun := upZ_bd n (by omega)
    have hlt0 : Bx < W.heap.size := World.block_lt_of_cell? _ _ q0
    have hlt2 : w1.heap.size < W.heap.size := World.block_lt_of_cell? _ _ dh
    obtain ⟨W1, hW1⟩ : ∃ W1, W1 = W.alloc (.cells #[.int .i64 a, .int .i64 n, .int .i64 1] 88) := ⟨_, rfl⟩
    have hzW : W.heap.size < W1.heap.size := by rw [hW1]; simp
    have hbW : Below W.heap.size W W1 := by rw [hW1]; exact (Below.refl W.heap.size W).alloc (Nat.le_refl _) _
    have t0 : W1.cell? ⟨W.heap.size, 0, none⟩ = some (.int .i64 a) := by rw [hW1]; exact cell_new _ _ _ _ _ rfl
    have t1 : W1.cell? ⟨W.heap.size, 1, none⟩ = some (.int .i64 n) := by rw [hW1]; exact cell_new _ _ _ _ _ rfl
    have t2 : W1.cell? ⟨W.heap.size, 2, none⟩ = some (.int .i64 1) := by rw [hW1]; exact cell_new _ _ _ _ _ rfl
    have r0 := keepc hbW q0
    have r1 := keepc hbW q1
    have r2 := keepc hbW q2
    have d0' := keepc hbW d0
    have dh' := keepc hbW dh
    have f1' := keepOwn hbW f1
    have f2' := keepOwn hbW f2
    have f3' := keepOwn hbW f3
    have hB' := hB.below hbW hB.lt
    unfold allocAct
    gi_wp2_with fail
    rw [← hW1]
    clear hW1 q1 q2 dh f1 f2 f3 hB
    have hnext : allocFit n (a, s', m) = false → (us.take (k + 1)).find? (allocFit n) = none := fun h => by
      rw [List.take_add_one, HU1.out, List.find?_append, HNO.out]; simp [h]
    have hfin : ∀ W2, Below W.heap.size W W2 → Rnd W0.heap.size W W2 ∧ (allocFit n (a, s', m) = false → AllocI n us W0 (k + 1) W2) := fun W2 h2 => ⟨(Rnd.refl _ _).below h2, fun h => ⟨below_step h2 HBK.out, hnext h⟩⟩
    have HF := hid hfin; clear hfin
    by_cases hm : m = 1
    · subst hm
      have g1 : ((1 : Int) == 1) = true := rfl
      refine wpIn_region_freeL (open_round lp) (by kernel_rfl) (by kernel_rfl) (fun L w' => Below W.heap.size W w' ∧ w'.cell? ⟨w.heap.size, 0, none⟩ = some (.int .i64 n) ∧ w'.cell? ⟨w1.heap.size, 0, none⟩ = some (.slice (some ⟨b, 0, none⟩) l1.length l1.length) ∧ w'.cell? ⟨Bx, 0, none⟩ = some (.int .i64 a) ∧ w'.cell? ⟨Bx, 1, none⟩ = some (.int .i64 s') ∧ w'.cell? ⟨Bx, 2, none⟩ = some (.int .i64 1) ∧ w'.cell? ⟨W.heap.size, 0, none⟩ = some (.int .i64 a) ∧ w'.cell? ⟨W.heap.size, 1, none⟩ = some (.int .i64 n) ∧ w'.cell? ⟨W.heap.size, 2, none⟩ = some (.int .i64 1)) ⟨(hbW).drew, d0', dh', r0, r1, r2, t0, t1, t2⟩ ?_
      refine wpFreeL_val rfl (fun _ _ _ h => h) (fun K hK => ?_); apply Exists.intro; refine ⟨fun L w' hS => ?_, ?_⟩; (have hb := hS.1; have g0 := hS.2.1; have g1 := hS.2.2.1; have g2 := hS.2.2.2.1; have g3 := hS.2.2.2.2.1; have g4 := hS.2.2.2.2.2.1; have g5 := hS.2.2.2.2.2.2.1; have g6 := hS.2.2.2.2.2.2.2.1; have g7 := hS.2.2.2.2.2.2.2.2; clear hS; go_simp; rfl); (go_simp; refine hK _ ?_; clear hK K)
      refine wpFreeL_val rfl (fun _ _ _ h => h) (fun K hK => ?_); apply Exists.intro; refine ⟨fun L w' hS => ?_, ?_⟩; (have hb := hS.1; have g0 := hS.2.1; have g1 := hS.2.2.1; have g2 := hS.2.2.2.1; have g3 := hS.2.2.2.2.1; have g4 := hS.2.2.2.2.2.1; have g5 := hS.2.2.2.2.2.2.1; have g6 := hS.2.2.2.2.2.2.2.1; have g7 := hS.2.2.2.2.2.2.2.2; clear hS; go_simp; rfl); (go_simp; refine hK _ ?_; clear hK K)
      refine wpFreeL_val rfl (fun _ _ _ h => h) (fun K hK => ?_); apply Exists.intro; refine ⟨fun L w' hS => ?_, ?_⟩; (have hb := hS.1; have g0 := hS.2.1; have g1 := hS.2.2.1; have g2 := hS.2.2.2.1; have g3 := hS.2.2.2.2.1; have g4 := hS.2.2.2.2.2.1; have g5 := hS.2.2.2.2.2.2.1; have g6 := hS.2.2.2.2.2.2.2.1; have g7 := hS.2.2.2.2.2.2.2.2; clear hS; go_simp; rfl); (go_simp; refine hK _ ?_; clear hK K)
      refine wpFreeL_val rfl (fun _ _ _ h => h) (fun K hK => ?_); apply Exists.intro; refine ⟨fun L w' hS => ?_, ?_⟩; (have hb := hS.1; have g0 := hS.2.1; have g1 := hS.2.2.1; have g2 := hS.2.2.2.1; have g3 := hS.2.2.2.2.1; have g4 := hS.2.2.2.2.2.1; have g5 := hS.2.2.2.2.2.2.1; have g6 := hS.2.2.2.2.2.2.2.1; have g7 := hS.2.2.2.2.2.2.2.2; clear hS; go_simp; rfl); (go_simp; refine hK _ ?_; clear hK K)
      refine wpFreeL_skip rfl (fun _ _ _ h => h) (fun K hK => ?_); go_simp; refine hK _ ?_; clear hK K
      refine wpFreeL_skip rfl (fun _ _ _ h => h) (fun K hK => ?_); go_simp; refine hK _ ?_; clear hK K
      refine wpFreeL_skip rfl (fun _ _ _ h => h) (fun K hK => ?_); go_simp; refine hK _ ?_; clear hK K
      refine wpFreeL_skip rfl (fun _ _ _ h => h) (fun K hK => ?_); go_simp; refine hK _ ?_; clear hK K
      refine wpFreeL_skip rfl (fun _ _ _ h => h) (fun K hK => ?_); go_simp; refine hK _ ?_; clear hK K
      refine wpFreeL_val rfl (fun _ _ _ h => h) (fun K hK => ?_); apply Exists.intro; refine ⟨fun L w' hS => ?_, ?_⟩; (have hb := hS.1; have g0 := hS.2.1; have g1 := hS.2.2.1; have g2 := hS.2.2.2.1; have g3 := hS.2.2.2.2.1; have g4 := hS.2.2.2.2.2.1; have g5 := hS.2.2.2.2.2.2.1; have g6 := hS.2.2.2.2.2.2.2.1; have g7 := hS.2.2.2.2.2.2.2.2; clear hS; go_simp; rfl); (go_simp; refine hK _ ?_; clear hK K)
      refine wpFreeL_nil (fun L w' hL hS => ?_)
      have hb := hS.1; have g0 := hS.2.1; have g1 := hS.2.2.1; have g2 := hS.2.2.2.1; have g3 := hS.2.2.2.2.1; have g4 := hS.2.2.2.2.2.1; have g5 := hS.2.2.2.2.2.2.1; have g6 := hS.2.2.2.2.2.2.2.1; have g7 := hS.2.2.2.2.2.2.2.2
      clear hL hS
      gi_wp2_with fail
      exact ⟨(HF.out _ hb).1, (HF.out _ hb).2 (by unfold allocFit; rfl)⟩
    · have g0 : (m == 1) = false := by simpa using hm
      by_cases hd : upZ s' < upZ n
      · have hd3 : decide (upZ s' < upZ n) = true := by simpa using hd
        have HI := (HF.out · · |>.2 (by unfold allocFit; simp; omega))
        clear hm hd
        refine wpIn_region_freeL (open_round lp) (by kernel_rfl) (by kernel_rfl) (fun L w' => Below W.heap.size W w' ∧ w'.cell? ⟨w.heap.size, 0, none⟩ = some (.int .i64 n) ∧ w'.cell? ⟨w1.heap.size, 0, none⟩ = some (.slice (some ⟨b, 0, none⟩) l1.length l1.length) ∧ w'.cell? ⟨Bx, 0, none⟩ = some (.int .i64 a) ∧ w'.cell? ⟨Bx, 1, none⟩ = some (.int .i64 s') ∧ w'.cell? ⟨Bx, 2, none⟩ = some (.int .i64 m) ∧ w'.cell? ⟨W.heap.size, 0, none⟩ = some (.int .i64 a) ∧ w'.cell? ⟨W.heap.size, 1, none⟩ = some (.int .i64 n) ∧ w'.cell? ⟨W.heap.size, 2, none⟩ = some (.int .i64 1)) ⟨(hbW).drew, d0', dh', r0, r1, r2, t0, t1, t2⟩ ?_
        refine wpFreeL_val rfl (fun _ _ _ h => h) (fun K hK => ?_); apply Exists.intro; refine ⟨fun L w' hS => ?_, ?_⟩; (have hb := hS.1; have g0 := hS.2.1; have g1 := hS.2.2.1; have g2 := hS.2.2.2.1; have g3 := hS.2.2.2.2.1; have g4 := hS.2.2.2.2.2.1; have g5 := hS.2.2.2.2.2.2.1; have g6 := hS.2.2.2.2.2.2.2.1; have g7 := hS.2.2.2.2.2.2.2.2; clear hS; go_simp; rfl); (go_simp; refine hK _ ?_; clear hK K)
        refine wpFreeL_val rfl (fun _ _ _ h => h) (fun K hK => ?_); apply Exists.intro; refine ⟨fun L w' hS => ?_, ?_⟩; (have hb := hS.1; have g0 := hS.2.1; have g1 := hS.2.2.1; have g2 := hS.2.2.2.1; have g3 := hS.2.2.2.2.1; have g4 := hS.2.2.2.2.2.1; have g5 := hS.2.2.2.2.2.2.1; have g6 := hS.2.2.2.2.2.2.2.1; have g7 := hS.2.2.2.2.2.2.2.2; clear hS; go_simp; rfl); (go_simp; refine hK _ ?_; clear hK K)
        refine wpFreeL_val rfl (fun _ _ _ h => h) (fun K hK => ?_); apply Exists.intro; refine ⟨fun L w' hS => ?_, ?_⟩; (have hb := hS.1; have g0 := hS.2.1; have g1 := hS.2.2.1; have g2 := hS.2.2.2.1; have g3 := hS.2.2.2.2.1; have g4 := hS.2.2.2.2.2.1; have g5 := hS.2.2.2.2.2.2.1; have g6 := hS.2.2.2.2.2.2.2.1; have g7 := hS.2.2.2.2.2.2.2.2; clear hS; go_simp; rfl); (go_simp; refine hK _ ?_; clear hK K)
        refine wpFreeL_val rfl (fun _ _ _ h => h) (fun K hK => ?_); apply Exists.intro; refine ⟨fun L w' hS => ?_, ?_⟩; (have hb := hS.1; have g0 := hS.2.1; have g1 := hS.2.2.1; have g2 := hS.2.2.2.1; have g3 := hS.2.2.2.2.1; have g4 := hS.2.2.2.2.2.1; have g5 := hS.2.2.2.2.2.2.1; have g6 := hS.2.2.2.2.2.2.2.1; have g7 := hS.2.2.2.2.2.2.2.2; clear hS; go_simp; rfl); (go_simp; refine hK _ ?_; clear hK K)
        refine wpFreeL_val rfl (fun _ _ _ h => h) (fun K hK => ?_); apply Exists.intro; refine ⟨fun L w' hS => ?_, ?_⟩; (have hb := hS.1; have g0 := hS.2.1; have g1 := hS.2.2.1; have g2 := hS.2.2.2.1; have g3 := hS.2.2.2.2.1; have g4 := hS.2.2.2.2.2.1; have g5 := hS.2.2.2.2.2.2.1; have g6 := hS.2.2.2.2.2.2.2.1; have g7 := hS.2.2.2.2.2.2.2.2; clear hS; go_simp; rfl); (go_simp; refine hK _ ?_; clear hK K)
        refine wpFreeL_gen rfl (fun K hK => ?_); apply Exists.intro; refine ⟨fun L w' hcl hL hdep hS => ?_, ?_⟩
        · have hb := hS.1; have g0 := hS.2.1; have g1 := hS.2.2.1; have g2 := hS.2.2.2.1; have g3 := hS.2.2.2.2.1; have g4 := hS.2.2.2.2.2.1; have g5 := hS.2.2.2.2.2.2.1; have g6 := hS.2.2.2.2.2.2.2.1; have g7 := hS.2.2.2.2.2.2.2.2; go_simp; refine (end_any a n 1 _ (by omega) (by omega) (by omega) (by omega)).mono ?_; rintro e w1 ⟨rfl, hb1⟩; exact ⟨rfl, ⟨hb.trans (hb1.mono (by have := hb.size; omega)), keepc hb1 g0, keepc hb1 g1, keepc hb1 g2, keepc hb1 g3, keepc hb1 g4, keepc hb1 g5, keepc hb1 g6, keepc hb1 g7⟩⟩
        go_simp; refine hK _ ?_; clear hK K
        refine wpFreeL_val rfl (fun _ _ _ h => h) (fun K hK => ?_); apply Exists.intro; refine ⟨fun L w' hS => ?_, ?_⟩; (have hb := hS.1; have g0 := hS.2.1; have g1 := hS.2.2.1; have g2 := hS.2.2.2.1; have g3 := hS.2.2.2.2.1; have g4 := hS.2.2.2.2.2.1; have g5 := hS.2.2.2.2.2.2.1; have g6 := hS.2.2.2.2.2.2.2.1; have g7 := hS.2.2.2.2.2.2.2.2; clear hS; go_simp; rfl); (go_simp; refine hK _ ?_; clear hK K)
        refine wpFreeL_gen rfl (fun K hK => ?_); apply Exists.intro; refine ⟨fun L w' hcl hL hdep hS => ?_, ?_⟩
        · have hb := hS.1; have g0 := hS.2.1; have g1 := hS.2.2.1; have g2 := hS.2.2.2.1; have g3 := hS.2.2.2.2.1; have g4 := hS.2.2.2.2.2.1; have g5 := hS.2.2.2.2.2.2.1; have g6 := hS.2.2.2.2.2.2.2.1; have g7 := hS.2.2.2.2.2.2.2.2; go_simp; refine (end_any a s' m _ (by omega) (by omega) (by omega) (by omega)).mono ?_; rintro e w1 ⟨rfl, hb1⟩; exact ⟨rfl, ⟨hb.trans (hb1.mono (by have := hb.size; omega)), keepc hb1 g0, keepc hb1 g1, keepc hb1 g2, keepc hb1 g3, keepc hb1 g4, keepc hb1 g5, keepc hb1 g6, keepc hb1 g7⟩⟩
        go_simp; refine hK _ ?_; clear hK K
        refine wpFreeL_val rfl (fun _ _ _ h => h) (fun K hK => ?_); apply Exists.intro; refine ⟨fun L w' hS => ?_, ?_⟩; (have hb := hS.1; have g0 := hS.2.1; have g1 := hS.2.2.1; have g2 := hS.2.2.2.1; have g3 := hS.2.2.2.2.1; have g4 := hS.2.2.2.2.2.1; have g5 := hS.2.2.2.2.2.2.1; have g6 := hS.2.2.2.2.2.2.2.1; have g7 := hS.2.2.2.2.2.2.2.2; clear hS; go_simp; rfl); (go_simp; refine hK _ ?_; clear hK K)
        refine wpFreeL_val rfl (fun _ _ _ h => h) (fun K hK => ?_); apply Exists.intro; refine ⟨fun L w' hS => ?_, ?_⟩; (have hb := hS.1; have g0 := hS.2.1; have g1 := hS.2.2.1; have g2 := hS.2.2.2.1; have g3 := hS.2.2.2.2.1; have g4 := hS.2.2.2.2.2.1; have g5 := hS.2.2.2.2.2.2.1; have g6 := hS.2.2.2.2.2.2.2.1; have g7 := hS.2.2.2.2.2.2.2.2; clear hS; go_simp; rfl); (go_simp; refine hK _ ?_; clear hK K)
        refine wpFreeL_nil (fun L w' hL hS => ?_)
        have hb := hS.1; have g0 := hS.2.1; have g1 := hS.2.2.1; have g2 := hS.2.2.2.1; have g3 := hS.2.2.2.2.1; have g4 := hS.2.2.2.2.2.1; have g5 := hS.2.2.2.2.2.2.1; have g6 := hS.2.2.2.2.2.2.2.1; have g7 := hS.2.2.2.2.2.2.2.2
        clear hL hS
        gi_wp2_with fail
        exact ⟨(HF.out _ hb).1, HI _ hb⟩
      · have hd3 : decide (upZ s' < upZ n) = false := by simpa using hd
        have hfit : allocFit n (a, s', m) = true := by unfold allocFit; simp [g0]; omega
        refine wpIn_region_freeL (open_round lp) (by kernel_rfl) (by kernel_rfl) (fun L w' => Below W.heap.size W w' ∧ Bytes w' b (l1) ∧ w'.cell? ⟨w.heap.size, 0, none⟩ = some (.int .i64 n) ∧ w'.cell? ⟨w1.heap.size, 0, none⟩ = some (.slice (some ⟨b, 0, none⟩) l1.length l1.length) ∧ w'.cell? ⟨Bx, 0, none⟩ = some (.int .i64 a) ∧ w'.cell? ⟨Bx, 1, none⟩ = some (.int .i64 s') ∧ w'.cell? ⟨Bx, 2, none⟩ = some (.int .i64 m) ∧ w'.cell? ⟨W.heap.size, 0, none⟩ = some (.int .i64 a) ∧ w'.cell? ⟨W.heap.size, 1, none⟩ = some (.int .i64 n) ∧ w'.cell? ⟨W.heap.size, 2, none⟩ = some (.int .i64 1) ∧ OwnC w' ⟨w.heap.size + 1, 0, none⟩ ∧ OwnC w' ⟨w.heap.size + 2, 0, none⟩ ∧ OwnC w' ⟨w.heap.size + 3, 0, none⟩) ⟨(hbW).drew, hB', d0', dh', r0, r1, r2, t0, t1, t2, f1', f2', f3'⟩ ?_
        refine wpFreeL_val rfl (fun _ _ _ h => h) (fun K hK => ?_); apply Exists.intro; refine ⟨fun L w' hS => ?_, ?_⟩; (have hb := hS.1; have hB := hS.2.1; have g0 := hS.2.2.1; have g1 := hS.2.2.2.1; have g2 := hS.2.2.2.2.1; have g3 := hS.2.2.2.2.2.1; have g4 := hS.2.2.2.2.2.2.1; have g5 := hS.2.2.2.2.2.2.2.1; have g6 := hS.2.2.2.2.2.2.2.2.1; have g7 := hS.2.2.2.2.2.2.2.2.2.1; have o0 := hS.2.2.2.2.2.2.2.2.2.2.1; have o1 := hS.2.2.2.2.2.2.2.2.2.2.2.1; have o2 := hS.2.2.2.2.2.2.2.2.2.2.2.2; clear hS; go_simp; rfl); (go_simp; refine hK _ ?_; clear hK K)
        refine wpFreeL_val rfl (fun _ _ _ h => h) (fun K hK => ?_); apply Exists.intro; refine ⟨fun L w' hS => ?_, ?_⟩; (have hb := hS.1; have hB := hS.2.1; have g0 := hS.2.2.1; have g1 := hS.2.2.2.1; have g2 := hS.2.2.2.2.1; have g3 := hS.2.2.2.2.2.1; have g4 := hS.2.2.2.2.2.2.1; have g5 := hS.2.2.2.2.2.2.2.1; have g6 := hS.2.2.2.2.2.2.2.2.1; have g7 := hS.2.2.2.2.2.2.2.2.2.1; have o0 := hS.2.2.2.2.2.2.2.2.2.2.1; have o1 := hS.2.2.2.2.2.2.2.2.2.2.2.1; have o2 := hS.2.2.2.2.2.2.2.2.2.2.2.2; clear hS; go_simp; rfl); (go_simp; refine hK _ ?_; clear hK K)
        refine wpFreeL_val rfl (fun _ _ _ h => h) (fun K hK => ?_); apply Exists.intro; refine ⟨fun L w' hS => ?_, ?_⟩; (have hb := hS.1; have hB := hS.2.1; have g0 := hS.2.2.1; have g1 := hS.2.2.2.1; have g2 := hS.2.2.2.2.1; have g3 := hS.2.2.2.2.2.1; have g4 := hS.2.2.2.2.2.2.1; have g5 := hS.2.2.2.2.2.2.2.1; have g6 := hS.2.2.2.2.2.2.2.2.1; have g7 := hS.2.2.2.2.2.2.2.2.2.1; have o0 := hS.2.2.2.2.2.2.2.2.2.2.1; have o1 := hS.2.2.2.2.2.2.2.2.2.2.2.1; have o2 := hS.2.2.2.2.2.2.2.2.2.2.2.2; clear hS; go_simp; rfl); (go_simp; refine hK _ ?_; clear hK K)
        refine wpFreeL_val rfl (fun _ _ _ h => h) (fun K hK => ?_); apply Exists.intro; refine ⟨fun L w' hS => ?_, ?_⟩; (have hb := hS.1; have hB := hS.2.1; have g0 := hS.2.2.1; have g1 := hS.2.2.2.1; have g2 := hS.2.2.2.2.1; have g3 := hS.2.2.2.2.2.1; have g4 := hS.2.2.2.2.2.2.1; have g5 := hS.2.2.2.2.2.2.2.1; have g6 := hS.2.2.2.2.2.2.2.2.1; have g7 := hS.2.2.2.2.2.2.2.2.2.1; have o0 := hS.2.2.2.2.2.2.2.2.2.2.1; have o1 := hS.2.2.2.2.2.2.2.2.2.2.2.1; have o2 := hS.2.2.2.2.2.2.2.2.2.2.2.2; clear hS; go_simp; rfl); (go_simp; refine hK _ ?_; clear hK K)
        refine wpFreeL_val rfl (fun _ _ _ h => h) (fun K hK => ?_); apply Exists.intro; refine ⟨fun L w' hS => ?_, ?_⟩; (have hb := hS.1; have hB := hS.2.1; have g0 := hS.2.2.1; have g1 := hS.2.2.2.1; have g2 := hS.2.2.2.2.1; have g3 := hS.2.2.2.2.2.1; have g4 := hS.2.2.2.2.2.2.1; have g5 := hS.2.2.2.2.2.2.2.1; have g6 := hS.2.2.2.2.2.2.2.2.1; have g7 := hS.2.2.2.2.2.2.2.2.2.1; have o0 := hS.2.2.2.2.2.2.2.2.2.2.1; have o1 := hS.2.2.2.2.2.2.2.2.2.2.2.1; have o2 := hS.2.2.2.2.2.2.2.2.2.2.2.2; clear hS; go_simp; rfl); (go_simp; refine hK _ ?_; clear hK K)
        refine wpFreeL_gen rfl (fun K hK => ?_); apply Exists.intro; refine ⟨fun L w' hcl hL hdep hS => ?_, ?_⟩
        · have hb := hS.1; have hB := hS.2.1; have g0 := hS.2.2.1; have g1 := hS.2.2.2.1; have g2 := hS.2.2.2.2.1; have g3 := hS.2.2.2.2.2.1; have g4 := hS.2.2.2.2.2.2.1; have g5 := hS.2.2.2.2.2.2.2.1; have g6 := hS.2.2.2.2.2.2.2.2.1; have g7 := hS.2.2.2.2.2.2.2.2.2.1; have o0 := hS.2.2.2.2.2.2.2.2.2.2.1; have o1 := hS.2.2.2.2.2.2.2.2.2.2.2.1; have o2 := hS.2.2.2.2.2.2.2.2.2.2.2.2; go_simp; refine (end_any a n 1 _ (by omega) (by omega) (by omega) (by omega)).mono ?_; rintro e w1 ⟨rfl, hb1⟩; exact ⟨rfl, ⟨hb.trans (hb1.mono (by have := hb.size; omega)), hB.below hb1 hB.lt, keepc hb1 g0, keepc hb1 g1, keepc hb1 g2, keepc hb1 g3, keepc hb1 g4, keepc hb1 g5, keepc hb1 g6, keepc hb1 g7, keepOwn hb1 o0, keepOwn hb1 o1, keepOwn hb1 o2⟩⟩
        go_simp; refine hK _ ?_; clear hK K
        refine wpFreeL_val rfl (fun _ _ _ h => h) (fun K hK => ?_); apply Exists.intro; refine ⟨fun L w' hS => ?_, ?_⟩; (have hb := hS.1; have hB := hS.2.1; have g0 := hS.2.2.1; have g1 := hS.2.2.2.1; have g2 := hS.2.2.2.2.1; have g3 := hS.2.2.2.2.2.1; have g4 := hS.2.2.2.2.2.2.1; have g5 := hS.2.2.2.2.2.2.2.1; have g6 := hS.2.2.2.2.2.2.2.2.1; have g7 := hS.2.2.2.2.2.2.2.2.2.1; have o0 := hS.2.2.2.2.2.2.2.2.2.2.1; have o1 := hS.2.2.2.2.2.2.2.2.2.2.2.1; have o2 := hS.2.2.2.2.2.2.2.2.2.2.2.2; clear hS; go_simp; rfl); (go_simp; refine hK _ ?_; clear hK K)
        refine wpFreeL_gen rfl (fun K hK => ?_); apply Exists.intro; refine ⟨fun L w' hcl hL hdep hS => ?_, ?_⟩
        · have hb := hS.1; have hB := hS.2.1; have g0 := hS.2.2.1; have g1 := hS.2.2.2.1; have g2 := hS.2.2.2.2.1; have g3 := hS.2.2.2.2.2.1; have g4 := hS.2.2.2.2.2.2.1; have g5 := hS.2.2.2.2.2.2.2.1; have g6 := hS.2.2.2.2.2.2.2.2.1; have g7 := hS.2.2.2.2.2.2.2.2.2.1; have o0 := hS.2.2.2.2.2.2.2.2.2.2.1; have o1 := hS.2.2.2.2.2.2.2.2.2.2.2.1; have o2 := hS.2.2.2.2.2.2.2.2.2.2.2.2; go_simp; refine (end_any a s' m _ (by omega) (by omega) (by omega) (by omega)).mono ?_; rintro e w1 ⟨rfl, hb1⟩; exact ⟨rfl, ⟨hb.trans (hb1.mono (by have := hb.size; omega)), hB.below hb1 hB.lt, keepc hb1 g0, keepc hb1 g1, keepc hb1 g2, keepc hb1 g3, keepc hb1 g4, keepc hb1 g5, keepc hb1 g6, keepc hb1 g7, keepOwn hb1 o0, keepOwn hb1 o1, keepOwn hb1 o2⟩⟩
        go_simp; refine hK _ ?_; clear hK K
        refine wpFreeL_val rfl (fun _ _ _ h => h) (fun K hK => ?_); apply Exists.intro; refine ⟨fun L w' hS => ?_, ?_⟩; (have hb := hS.1; have hB := hS.2.1; have g0 := hS.2.2.1; have g1 := hS.2.2.2.1; have g2 := hS.2.2.2.2.1; have g3 := hS.2.2.2.2.2.1; have g4 := hS.2.2.2.2.2.2.1; have g5 := hS.2.2.2.2.2.2.2.1; have g6 := hS.2.2.2.2.2.2.2.2.1; have g7 := hS.2.2.2.2.2.2.2.2.2.1; have o0 := hS.2.2.2.2.2.2.2.2.2.2.1; have o1 := hS.2.2.2.2.2.2.2.2.2.2.2.1; have o2 := hS.2.2.2.2.2.2.2.2.2.2.2.2; clear hS; go_simp; rfl); (go_simp; refine hK _ ?_; clear hK K)
        refine wpFreeL_val rfl (fun _ _ _ h => h) (fun K hK => ?_); apply Exists.intro; refine ⟨fun L w' hS => ?_, ?_⟩; (have hb := hS.1; have hB := hS.2.1; have g0 := hS.2.2.1; have g1 := hS.2.2.2.1; have g2 := hS.2.2.2.2.1; have g3 := hS.2.2.2.2.2.1; have g4 := hS.2.2.2.2.2.2.1; have g5 := hS.2.2.2.2.2.2.2.1; have g6 := hS.2.2.2.2.2.2.2.2.1; have g7 := hS.2.2.2.2.2.2.2.2.2.1; have o0 := hS.2.2.2.2.2.2.2.2.2.2.1; have o1 := hS.2.2.2.2.2.2.2.2.2.2.2.1; have o2 := hS.2.2.2.2.2.2.2.2.2.2.2.2; clear hS; go_simp; rfl); (go_simp; refine hK _ ?_; clear hK K)
        refine wpFreeL_nil (fun L w' hL hS => ?_)
        have hb := hS.1; have hB := hS.2.1; have g0 := hS.2.2.1; have g1 := hS.2.2.2.1; have g2 := hS.2.2.2.2.1; have g3 := hS.2.2.2.2.2.1; have g4 := hS.2.2.2.2.2.2.1; have g5 := hS.2.2.2.2.2.2.2.1; have g6 := hS.2.2.2.2.2.2.2.2.1; have g7 := hS.2.2.2.2.2.2.2.2.2.1; have o0 := hS.2.2.2.2.2.2.2.2.2.2.1; have o1 := hS.2.2.2.2.2.2.2.2.2.2.2.1; have o2 := hS.2.2.2.2.2.2.2.2.2.2.2.2
        clear hL hS
        have hbo := (HW0.out.trans (HBK.out.mono (by omega))).trans (hb.mono (by omega))
        have hr := (Rnd.refl W0.heap.size W).below hb
        have hlt3 : W.heap.size < w'.heap.size := World.block_lt_of_cell? _ _ g5
        have HBY := hid hB; clear hB hb
        have HBO := hid hbo; clear hbo
        have HR := hid hr; clear hr
        gi_wp2_with fail
        refine ⟨trivial, rfl, ?_⟩
        refine ((open_round lp).calls (head_any b _ _ l1 a n 1 _ HBY.out rfl (by omega) (by omega) (Nat.le_refl _) (by omega) (by omega) (by omega) (by omega) (by omega))).mono ?_
        rintro e w3 ⟨rfl, hB3, hg3⟩
        obtain ⟨l2, hl2⟩ : ∃ l2, l2 = putHead l1 a n 1 := ⟨_, rfl⟩
        have hB3 : Bytes w3 b l2 := by rw [hl2]; exact hB3
        have hl2l : l2.length = l1.length := by rw [hl2]; simp only [putHead, setL_length]
        have HL2 := hid hl2; clear hl2
        have hb := below_grown HBO.out hg3 hbz
        have hr := HR.out.grown hg3 (fun _ e => by cases e; exact .inl (by omega))
        have g0 := hg3.cell g0 (by simp; omega)
        have g1 := hg3.cell g1 (by simp; omega)
        have g2 := hg3.cell g2 (by simp; omega)
        have g3 := hg3.cell g3 (by simp; omega)
        have g4 := hg3.cell g4 (by simp; omega)
        have g5 := hg3.cell g5 (by simp; omega)
        have g6 := hg3.cell g6 (by simp; omega)
        have g7 := hg3.cell g7 (by simp; omega)
        have o0 := own_grown o0 hg3 (by dsimp only; omega)
        have o1 := own_grown o1 hg3 (by dsimp only; omega)
        have o2 := own_grown o2 hg3 (by dsimp only; omega)
        clear hg3
        rw [← hl2l] at g1
        have HB3 := hid hB3; clear hB3
        have HBO := hid hb; clear hb
        have HR := hid hr; clear hr
        have HL2L := hid hl2l; clear hl2l
        have hw1 : IntKind.i64.wrap (a + 8 + upZ s' - (a + 8 + upZ n)) = upZ s' - upZ n := by rw [IntWalk.i64_in _ ⟨by omega, by omega⟩]; omega
        have hw2 : IntKind.i64.wrap (upZ s' - upZ n) = upZ s' - upZ n := IntWalk.i64_in _ ⟨by omega, by omega⟩
        have hua := upZ_8 s'
        have hub8 := upZ_8 n
        gi_wp2_with fail
        refine wpIn_region_freeL (open_round lp) (by kernel_rfl) (by kernel_rfl) (fun L w' => Below w.heap.size w w' ∧ Bytes w' b (l2) ∧ Rnd W0.heap.size W w' ∧ w'.cell? ⟨w.heap.size, 0, none⟩ = some (.int .i64 n) ∧ w'.cell? ⟨w1.heap.size, 0, none⟩ = some (.slice (some ⟨b, 0, none⟩) l2.length l2.length) ∧ w'.cell? ⟨Bx, 0, none⟩ = some (.int .i64 a) ∧ w'.cell? ⟨Bx, 1, none⟩ = some (.int .i64 s') ∧ w'.cell? ⟨Bx, 2, none⟩ = some (.int .i64 m) ∧ w'.cell? ⟨W.heap.size, 0, none⟩ = some (.int .i64 a) ∧ w'.cell? ⟨W.heap.size, 1, none⟩ = some (.int .i64 n) ∧ w'.cell? ⟨W.heap.size, 2, none⟩ = some (.int .i64 1) ∧ OwnC w' ⟨w.heap.size + 1, 0, none⟩ ∧ OwnC w' ⟨w.heap.size + 2, 0, none⟩ ∧ OwnC w' ⟨w.heap.size + 3, 0, none⟩) ⟨(HBO.out).drew, HB3.out, (HR.out).drew, g0, g1, g2, g3, g4, g5, g6, g7, o0, o1, o2⟩ ?_
        refine wpFreeL_val rfl (fun _ _ _ h => h) (fun K hK => ?_); apply Exists.intro; refine ⟨fun L w' hS => ?_, ?_⟩; (have hb := hS.1; have hB := hS.2.1; have hr := hS.2.2.1; have g0 := hS.2.2.2.1; have g1 := hS.2.2.2.2.1; have g2 := hS.2.2.2.2.2.1; have g3 := hS.2.2.2.2.2.2.1; have g4 := hS.2.2.2.2.2.2.2.1; have g5 := hS.2.2.2.2.2.2.2.2.1; have g6 := hS.2.2.2.2.2.2.2.2.2.1; have g7 := hS.2.2.2.2.2.2.2.2.2.2.1; have o0 := hS.2.2.2.2.2.2.2.2.2.2.2.1; have o1 := hS.2.2.2.2.2.2.2.2.2.2.2.2.1; have o2 := hS.2.2.2.2.2.2.2.2.2.2.2.2.2; clear hS; go_simp; rfl); (go_simp; refine hK _ ?_; clear hK K)
        refine wpFreeL_gen rfl (fun K hK => ?_); apply Exists.intro; refine ⟨fun L w' hcl hL hdep hS => ?_, ?_⟩
        · have hb := hS.1; have hB := hS.2.1; have hr := hS.2.2.1; have g0 := hS.2.2.2.1; have g1 := hS.2.2.2.2.1; have g2 := hS.2.2.2.2.2.1; have g3 := hS.2.2.2.2.2.2.1; have g4 := hS.2.2.2.2.2.2.2.1; have g5 := hS.2.2.2.2.2.2.2.2.1; have g6 := hS.2.2.2.2.2.2.2.2.2.1; have g7 := hS.2.2.2.2.2.2.2.2.2.2.1; have o0 := hS.2.2.2.2.2.2.2.2.2.2.2.1; have o1 := hS.2.2.2.2.2.2.2.2.2.2.2.2.1; have o2 := hS.2.2.2.2.2.2.2.2.2.2.2.2.2; go_simp; refine (end_any a s' m _ (by omega) (by omega) (by omega) (by omega)).mono ?_; rintro e w1 ⟨rfl, hb1⟩; exact ⟨rfl, ⟨hb.trans (hb1.mono (by have := hb.size; omega)), hB.below hb1 hB.lt, hr.below hb1, keepc hb1 g0, keepc hb1 g1, keepc hb1 g2, keepc hb1 g3, keepc hb1 g4, keepc hb1 g5, keepc hb1 g6, keepc hb1 g7, keepOwn hb1 o0, keepOwn hb1 o1, keepOwn hb1 o2⟩⟩
        go_simp; refine hK _ ?_; clear hK K
        refine wpFreeL_val rfl (fun _ _ _ h => h) (fun K hK => ?_); apply Exists.intro; refine ⟨fun L w' hS => ?_, ?_⟩; (have hb := hS.1; have hB := hS.2.1; have hr := hS.2.2.1; have g0 := hS.2.2.2.1; have g1 := hS.2.2.2.2.1; have g2 := hS.2.2.2.2.2.1; have g3 := hS.2.2.2.2.2.2.1; have g4 := hS.2.2.2.2.2.2.2.1; have g5 := hS.2.2.2.2.2.2.2.2.1; have g6 := hS.2.2.2.2.2.2.2.2.2.1; have g7 := hS.2.2.2.2.2.2.2.2.2.2.1; have o0 := hS.2.2.2.2.2.2.2.2.2.2.2.1; have o1 := hS.2.2.2.2.2.2.2.2.2.2.2.2.1; have o2 := hS.2.2.2.2.2.2.2.2.2.2.2.2.2; clear hS; go_simp; rfl); (go_simp; refine hK _ ?_; clear hK K)
        refine wpFreeL_gen rfl (fun K hK => ?_); apply Exists.intro; refine ⟨fun L w' hcl hL hdep hS => ?_, ?_⟩
        · have hb := hS.1; have hB := hS.2.1; have hr := hS.2.2.1; have g0 := hS.2.2.2.1; have g1 := hS.2.2.2.2.1; have g2 := hS.2.2.2.2.2.1; have g3 := hS.2.2.2.2.2.2.1; have g4 := hS.2.2.2.2.2.2.2.1; have g5 := hS.2.2.2.2.2.2.2.2.1; have g6 := hS.2.2.2.2.2.2.2.2.2.1; have g7 := hS.2.2.2.2.2.2.2.2.2.2.1; have o0 := hS.2.2.2.2.2.2.2.2.2.2.2.1; have o1 := hS.2.2.2.2.2.2.2.2.2.2.2.2.1; have o2 := hS.2.2.2.2.2.2.2.2.2.2.2.2.2; go_simp; refine (end_any a n 1 _ (by omega) (by omega) (by omega) (by omega)).mono ?_; rintro e w1 ⟨rfl, hb1⟩; exact ⟨rfl, ⟨hb.trans (hb1.mono (by have := hb.size; omega)), hB.below hb1 hB.lt, hr.below hb1, keepc hb1 g0, keepc hb1 g1, keepc hb1 g2, keepc hb1 g3, keepc hb1 g4, keepc hb1 g5, keepc hb1 g6, keepc hb1 g7, keepOwn hb1 o0, keepOwn hb1 o1, keepOwn hb1 o2⟩⟩
        go_simp; refine hK _ ?_; clear hK K
        refine wpFreeL_val rfl (fun _ _ _ h => h) (fun K hK => ?_); apply Exists.intro; refine ⟨fun L w' hS => ?_, ?_⟩; (have hb := hS.1; have hB := hS.2.1; have hr := hS.2.2.1; have g0 := hS.2.2.2.1; have g1 := hS.2.2.2.2.1; have g2 := hS.2.2.2.2.2.1; have g3 := hS.2.2.2.2.2.2.1; have g4 := hS.2.2.2.2.2.2.2.1; have g5 := hS.2.2.2.2.2.2.2.2.1; have g6 := hS.2.2.2.2.2.2.2.2.2.1; have g7 := hS.2.2.2.2.2.2.2.2.2.2.1; have o0 := hS.2.2.2.2.2.2.2.2.2.2.2.1; have o1 := hS.2.2.2.2.2.2.2.2.2.2.2.2.1; have o2 := hS.2.2.2.2.2.2.2.2.2.2.2.2.2; clear hS; have hw1 := hw1; have hw2 := hw2; go_simp; rfl); (go_simp; refine hK _ ?_; clear hK K)
        refine wpFreeL_val rfl (fun _ _ _ h => h) (fun K hK => ?_); apply Exists.intro; refine ⟨fun L w' hS => ?_, ?_⟩; (have hb := hS.1; have hB := hS.2.1; have hr := hS.2.2.1; have g0 := hS.2.2.2.1; have g1 := hS.2.2.2.2.1; have g2 := hS.2.2.2.2.2.1; have g3 := hS.2.2.2.2.2.2.1; have g4 := hS.2.2.2.2.2.2.2.1; have g5 := hS.2.2.2.2.2.2.2.2.1; have g6 := hS.2.2.2.2.2.2.2.2.2.1; have g7 := hS.2.2.2.2.2.2.2.2.2.2.1; have o0 := hS.2.2.2.2.2.2.2.2.2.2.2.1; have o1 := hS.2.2.2.2.2.2.2.2.2.2.2.2.1; have o2 := hS.2.2.2.2.2.2.2.2.2.2.2.2.2; clear hS; go_simp; rfl); (go_simp; refine hK _ ?_; clear hK K)
        refine wpFreeL_nil (fun L w' hL hS => ?_)
        have hb := hS.1; have hB := hS.2.1; have hr := hS.2.2.1; have g0 := hS.2.2.2.1; have g1 := hS.2.2.2.2.1; have g2 := hS.2.2.2.2.2.1; have g3 := hS.2.2.2.2.2.2.1; have g4 := hS.2.2.2.2.2.2.2.1; have g5 := hS.2.2.2.2.2.2.2.2.1; have g6 := hS.2.2.2.2.2.2.2.2.2.1; have g7 := hS.2.2.2.2.2.2.2.2.2.2.1; have o0 := hS.2.2.2.2.2.2.2.2.2.2.2.1; have o1 := hS.2.2.2.2.2.2.2.2.2.2.2.2.1; have o2 := hS.2.2.2.2.2.2.2.2.2.2.2.2.2
        clear hL hS
        have HB4 := hid hB; clear hB HB3
        have HBO := hid hb; clear hb
        have HR := hid hr; clear hr
        have hfind : us.find? (allocFit n) = some (a, s', m) := by
          have hsp : us = us.take k ++ ((a, s', m) :: us.drop (k + 1)) := by
            have := List.take_append_drop k us
            rw [List.drop_eq_getElem_cons (by have := (List.getElem?_eq_some_iff.1 HU1.out).1; exact this)] at this
            have he : us[k]'((List.getElem?_eq_some_iff.1 HU1.out).1) = (a, s', m) := (List.getElem?_eq_some_iff.1 HU1.out).2
            rw [he] at this
            exact this.symm
          rw [hsp, List.find?_append, HNO.out]
          simp [hfit]
        have HFD := hid hfind; clear hfind hfit
        by_cases hrest : upZ n < upZ s'
        · have hd4 : decide (upZ n < upZ s') = true := by simpa using hrest
          have hd5 : decide (0 < upZ s' - upZ n) = true := by simp; omega
          have hw3 : IntKind.i64.wrap (upZ s' - upZ n - 8) = upZ s' - upZ n - 8 := IntWalk.i64_in _ ⟨by omega, by omega⟩
          have hpos : 8 ≤ upZ s' - upZ n := by omega
          gi_wp2_with fail
          refine wpIn_region_freeL (open_round lp) (by kernel_rfl) (by kernel_rfl) (fun L w' => Below w.heap.size w w' ∧ Bytes w' b (if L 6 = true then (putHead l2 (a + 8 + upZ n) (upZ s' - upZ n - 8) 2) else l2) ∧ Rnd W0.heap.size W w' ∧ w'.cell? ⟨w.heap.size, 0, none⟩ = some (.int .i64 n) ∧ w'.cell? ⟨w1.heap.size, 0, none⟩ = some (.slice (some ⟨b, 0, none⟩) l2.length l2.length) ∧ w'.cell? ⟨Bx, 0, none⟩ = some (.int .i64 a) ∧ w'.cell? ⟨Bx, 1, none⟩ = some (.int .i64 s') ∧ w'.cell? ⟨Bx, 2, none⟩ = some (.int .i64 m) ∧ w'.cell? ⟨W.heap.size, 0, none⟩ = some (.int .i64 a) ∧ w'.cell? ⟨W.heap.size, 1, none⟩ = some (.int .i64 n) ∧ w'.cell? ⟨W.heap.size, 2, none⟩ = some (.int .i64 1) ∧ OwnC w' ⟨w.heap.size + 1, 0, none⟩ ∧ OwnC w' ⟨w.heap.size + 2, 0, none⟩ ∧ OwnC w' ⟨w.heap.size + 3, 0, none⟩) ⟨(HBO.out).drew, HB4.out, (HR.out).drew, g0, g1, g2, g3, g4, g5, g6, g7, o0, o1, o2⟩ ?_
          refine wpFreeL_val rfl (fun _ _ _ h => h) (fun K hK => ?_); apply Exists.intro; refine ⟨fun L w' hS => ?_, ?_⟩; (have hb := hS.1; have hB := hS.2.1; have hr := hS.2.2.1; have g0 := hS.2.2.2.1; have g1 := hS.2.2.2.2.1; have g2 := hS.2.2.2.2.2.1; have g3 := hS.2.2.2.2.2.2.1; have g4 := hS.2.2.2.2.2.2.2.1; have g5 := hS.2.2.2.2.2.2.2.2.1; have g6 := hS.2.2.2.2.2.2.2.2.2.1; have g7 := hS.2.2.2.2.2.2.2.2.2.2.1; have o0 := hS.2.2.2.2.2.2.2.2.2.2.2.1; have o1 := hS.2.2.2.2.2.2.2.2.2.2.2.2.1; have o2 := hS.2.2.2.2.2.2.2.2.2.2.2.2.2; clear hS; go_simp; rfl); (go_simp; refine hK _ ?_; clear hK K)
          refine wpFreeL_val rfl (fun _ _ _ h => h) (fun K hK => ?_); apply Exists.intro; refine ⟨fun L w' hS => ?_, ?_⟩; (have hb := hS.1; have hB := hS.2.1; have hr := hS.2.2.1; have g0 := hS.2.2.2.1; have g1 := hS.2.2.2.2.1; have g2 := hS.2.2.2.2.2.1; have g3 := hS.2.2.2.2.2.2.1; have g4 := hS.2.2.2.2.2.2.2.1; have g5 := hS.2.2.2.2.2.2.2.2.1; have g6 := hS.2.2.2.2.2.2.2.2.2.1; have g7 := hS.2.2.2.2.2.2.2.2.2.2.1; have o0 := hS.2.2.2.2.2.2.2.2.2.2.2.1; have o1 := hS.2.2.2.2.2.2.2.2.2.2.2.2.1; have o2 := hS.2.2.2.2.2.2.2.2.2.2.2.2.2; clear hS; go_simp; rfl); (go_simp; refine hK _ ?_; clear hK K)
          refine wpFreeL_gen rfl (fun K hK => ?_); apply Exists.intro; refine ⟨fun L w' hcl hL hdep hS => ?_, ?_⟩
          · have hb := hS.1; have hB := hS.2.1; have hr := hS.2.2.1; have g0 := hS.2.2.2.1; have g1 := hS.2.2.2.2.1; have g2 := hS.2.2.2.2.2.1; have g3 := hS.2.2.2.2.2.2.1; have g4 := hS.2.2.2.2.2.2.2.1; have g5 := hS.2.2.2.2.2.2.2.2.1; have g6 := hS.2.2.2.2.2.2.2.2.2.1; have g7 := hS.2.2.2.2.2.2.2.2.2.2.1; have o0 := hS.2.2.2.2.2.2.2.2.2.2.2.1; have o1 := hS.2.2.2.2.2.2.2.2.2.2.2.2.1; have o2 := hS.2.2.2.2.2.2.2.2.2.2.2.2.2; go_simp; refine (end_any a n 1 _ (by omega) (by omega) (by omega) (by omega)).mono ?_; rintro e w1 ⟨rfl, hb1⟩; exact ⟨rfl, ⟨hb.trans (hb1.mono (by have := hb.size; omega)), hB.below hb1 hB.lt, hr.below hb1, keepc hb1 g0, keepc hb1 g1, keepc hb1 g2, keepc hb1 g3, keepc hb1 g4, keepc hb1 g5, keepc hb1 g6, keepc hb1 g7, keepOwn hb1 o0, keepOwn hb1 o1, keepOwn hb1 o2⟩⟩
          go_simp; refine hK _ ?_; clear hK K
          refine wpFreeL_val rfl (fun _ _ _ h => h) (fun K hK => ?_); apply Exists.intro; refine ⟨fun L w' hS => ?_, ?_⟩; (have hb := hS.1; have hB := hS.2.1; have hr := hS.2.2.1; have g0 := hS.2.2.2.1; have g1 := hS.2.2.2.2.1; have g2 := hS.2.2.2.2.2.1; have g3 := hS.2.2.2.2.2.2.1; have g4 := hS.2.2.2.2.2.2.2.1; have g5 := hS.2.2.2.2.2.2.2.2.1; have g6 := hS.2.2.2.2.2.2.2.2.2.1; have g7 := hS.2.2.2.2.2.2.2.2.2.2.1; have o0 := hS.2.2.2.2.2.2.2.2.2.2.2.1; have o1 := hS.2.2.2.2.2.2.2.2.2.2.2.2.1; have o2 := hS.2.2.2.2.2.2.2.2.2.2.2.2.2; clear hS; go_simp; rfl); (go_simp; refine hK _ ?_; clear hK K)
          refine wpFreeL_val rfl (fun _ _ _ h => h) (fun K hK => ?_); apply Exists.intro; refine ⟨fun L w' hS => ?_, ?_⟩; (have hb := hS.1; have hB := hS.2.1; have hr := hS.2.2.1; have g0 := hS.2.2.2.1; have g1 := hS.2.2.2.2.1; have g2 := hS.2.2.2.2.2.1; have g3 := hS.2.2.2.2.2.2.1; have g4 := hS.2.2.2.2.2.2.2.1; have g5 := hS.2.2.2.2.2.2.2.2.1; have g6 := hS.2.2.2.2.2.2.2.2.2.1; have g7 := hS.2.2.2.2.2.2.2.2.2.2.1; have o0 := hS.2.2.2.2.2.2.2.2.2.2.2.1; have o1 := hS.2.2.2.2.2.2.2.2.2.2.2.2.1; have o2 := hS.2.2.2.2.2.2.2.2.2.2.2.2.2; clear hS; go_simp; rfl); (go_simp; refine hK _ ?_; clear hK K)
          refine wpFreeL_val rfl (fun _ _ _ h => h) (fun K hK => ?_); apply Exists.intro; refine ⟨fun L w' hS => ?_, ?_⟩; (have hb := hS.1; have hB := hS.2.1; have hr := hS.2.2.1; have g0 := hS.2.2.2.1; have g1 := hS.2.2.2.2.1; have g2 := hS.2.2.2.2.2.1; have g3 := hS.2.2.2.2.2.2.1; have g4 := hS.2.2.2.2.2.2.2.1; have g5 := hS.2.2.2.2.2.2.2.2.1; have g6 := hS.2.2.2.2.2.2.2.2.2.1; have g7 := hS.2.2.2.2.2.2.2.2.2.2.1; have o0 := hS.2.2.2.2.2.2.2.2.2.2.2.1; have o1 := hS.2.2.2.2.2.2.2.2.2.2.2.2.1; have o2 := hS.2.2.2.2.2.2.2.2.2.2.2.2.2; clear hS; go_simp; rfl); (go_simp; refine hK _ ?_; clear hK K)
          refine wpFreeL_gen rfl (fun K hK => ?_); apply Exists.intro; refine ⟨fun L w' hcl hL hdep hS => ?_, ?_⟩
          · have hb := hS.1; have hB := hS.2.1; have hr := hS.2.2.1; have g0 := hS.2.2.2.1; have g1 := hS.2.2.2.2.1; have g2 := hS.2.2.2.2.2.1; have g3 := hS.2.2.2.2.2.2.1; have g4 := hS.2.2.2.2.2.2.2.1; have g5 := hS.2.2.2.2.2.2.2.2.1; have g6 := hS.2.2.2.2.2.2.2.2.2.1; have g7 := hS.2.2.2.2.2.2.2.2.2.2.1; have o0 := hS.2.2.2.2.2.2.2.2.2.2.2.1; have o1 := hS.2.2.2.2.2.2.2.2.2.2.2.2.1; have o2 := hS.2.2.2.2.2.2.2.2.2.2.2.2.2; have hwf : L 6 = false := hL; rw [hwf, if_neg (by simp)] at hB; go_simp; refine (head_any b _ _ l2 (a + 8 + upZ n) (upZ s' - upZ n - 8) 2 _ hB rfl (by omega) (by have := HL2L.out; omega) (Nat.le_refl _) (by have := HL2L.out; omega) (by omega) (by omega) (by omega) (by omega)).mono ?_; rintro e w1 ⟨rfl, hB1, hg1⟩; exact ⟨rfl, ⟨below_grown hb hg1 hbz, hB1, hr.grown hg1 (fun _ e => by cases e; exact .inl (by omega)), hg1.cell g0 (by simp; omega), hg1.cell g1 (by simp; omega), hg1.cell g2 (by simp; omega), hg1.cell g3 (by simp; omega), hg1.cell g4 (by simp; omega), hg1.cell g5 (by simp; omega), hg1.cell g6 (by simp; omega), hg1.cell g7 (by simp; omega), own_grown o0 hg1 (by dsimp only; omega), own_grown o1 hg1 (by dsimp only; omega), own_grown o2 hg1 (by dsimp only; omega)⟩⟩
          go_simp; refine hK _ ?_; clear hK K
          refine wpFreeL_nil (fun L w' hL hS => ?_)
          have hb := hS.1; have hB := hS.2.1; have hr := hS.2.2.1; have g0 := hS.2.2.2.1; have g1 := hS.2.2.2.2.1; have g2 := hS.2.2.2.2.2.1; have g3 := hS.2.2.2.2.2.2.1; have g4 := hS.2.2.2.2.2.2.2.1; have g5 := hS.2.2.2.2.2.2.2.2.1; have g6 := hS.2.2.2.2.2.2.2.2.2.1; have g7 := hS.2.2.2.2.2.2.2.2.2.2.1; have o0 := hS.2.2.2.2.2.2.2.2.2.2.2.1; have o1 := hS.2.2.2.2.2.2.2.2.2.2.2.2.1; have o2 := hS.2.2.2.2.2.2.2.2.2.2.2.2.2
          rw [hL 6 (by decide), if_pos rfl] at hB
          clear hL hS
          obtain ⟨l3, hl3⟩ : ∃ l3, l3 = putHead l2 (a + 8 + upZ n) (upZ s' - upZ n - 8) 2 := ⟨_, rfl⟩
          rw [← hl3] at hB
          have hl3l : l3.length = l2.length := by rw [hl3]; simp only [putHead, setL_length]
          rw [← hl3l] at g1
          have HL3 := hid hl3; clear hl3 hl3l
          have HB5 := hid hB; clear hB HB4
          have HBO := hid hb; clear hb
          have HR := hid hr; clear hr
          have hres : allocRaw l us n = (l3, a + 8, 0) := by
            unfold allocRaw; rw [HFD.out]; simp only []; rw [if_pos hrest, HL3.out, HL2.out, HL1.out]
          have HRS := hid hres; clear hres hrest
          gi_wp2_with fail
          refine wpIn_region_freeL (open_round lp) (by kernel_rfl) (by kernel_rfl) (fun L w' => Below w.heap.size w w' ∧ Bytes w' b (l3) ∧ Rnd W0.heap.size W w' ∧ w'.cell? ⟨w.heap.size, 0, none⟩ = some (.int .i64 n) ∧ w'.cell? ⟨w1.heap.size, 0, none⟩ = some (.slice (some ⟨b, 0, none⟩) l3.length l3.length) ∧ w'.cell? ⟨Bx, 0, none⟩ = some (.int .i64 a) ∧ w'.cell? ⟨Bx, 1, none⟩ = some (.int .i64 s') ∧ w'.cell? ⟨Bx, 2, none⟩ = some (.int .i64 m) ∧ w'.cell? ⟨W.heap.size, 0, none⟩ = some (.int .i64 a) ∧ w'.cell? ⟨W.heap.size, 1, none⟩ = some (.int .i64 n) ∧ w'.cell? ⟨W.heap.size, 2, none⟩ = some (.int .i64 1) ∧ OwnC w' ⟨w.heap.size + 1, 0, none⟩ ∧ OwnC w' ⟨w.heap.size + 2, 0, none⟩ ∧ OwnC w' ⟨w.heap.size + 3, 0, none⟩ ∧ (L 5 = true → w'.cell? ⟨w.heap.size + 1, 0, none⟩ = some (.string ⟨l3.toArray⟩)) ∧ (L 6 = true → w'.cell? ⟨w.heap.size + 2, 0, none⟩ = some (.int .i64 (a + 8))) ∧ (L 7 = true → w'.cell? ⟨w.heap.size + 3, 0, none⟩ = some (.int .i64 0))) ⟨(HBO.out).drew, HB5.out, (HR.out).drew, g0, g1, g2, g3, g4, g5, g6, g7, o0, o1, o2, fun h => absurd h (by decide), fun h => absurd h (by decide), fun h => absurd h (by decide)⟩ ?_
          refine wpFreeL_val rfl (fun _ _ _ h => h) (fun K hK => ?_); apply Exists.intro; refine ⟨fun L w' hS => ?_, ?_⟩; (have hb := hS.1; have hB := hS.2.1; have hr := hS.2.2.1; have g0 := hS.2.2.2.1; have g1 := hS.2.2.2.2.1; have g2 := hS.2.2.2.2.2.1; have g3 := hS.2.2.2.2.2.2.1; have g4 := hS.2.2.2.2.2.2.2.1; have g5 := hS.2.2.2.2.2.2.2.2.1; have g6 := hS.2.2.2.2.2.2.2.2.2.1; have g7 := hS.2.2.2.2.2.2.2.2.2.2.1; have o0 := hS.2.2.2.2.2.2.2.2.2.2.2.1; have o1 := hS.2.2.2.2.2.2.2.2.2.2.2.2.1; have o2 := hS.2.2.2.2.2.2.2.2.2.2.2.2.2.1; clear hS; go_simp; rfl); (go_simp; refine hK _ ?_; clear hK K)
          refine wpFreeL_val rfl (fun _ _ _ h => h) (fun K hK => ?_); apply Exists.intro; refine ⟨fun L w' hS => ?_, ?_⟩; (have hb := hS.1; have hB := hS.2.1; have hr := hS.2.2.1; have g0 := hS.2.2.2.1; have g1 := hS.2.2.2.2.1; have g2 := hS.2.2.2.2.2.1; have g3 := hS.2.2.2.2.2.2.1; have g4 := hS.2.2.2.2.2.2.2.1; have g5 := hS.2.2.2.2.2.2.2.2.1; have g6 := hS.2.2.2.2.2.2.2.2.2.1; have g7 := hS.2.2.2.2.2.2.2.2.2.2.1; have o0 := hS.2.2.2.2.2.2.2.2.2.2.2.1; have o1 := hS.2.2.2.2.2.2.2.2.2.2.2.2.1; have o2 := hS.2.2.2.2.2.2.2.2.2.2.2.2.2.1; clear hS; have hq := run_str79 w' b l3.length l3 hB; go_simp; rfl); (go_simp; refine hK _ ?_; clear hK K)
          refine wpFreeL_val rfl (fun _ _ _ h => h) (fun K hK => ?_); apply Exists.intro; refine ⟨fun L w' hS => ?_, ?_⟩; (have hb := hS.1; have hB := hS.2.1; have hr := hS.2.2.1; have g0 := hS.2.2.2.1; have g1 := hS.2.2.2.2.1; have g2 := hS.2.2.2.2.2.1; have g3 := hS.2.2.2.2.2.2.1; have g4 := hS.2.2.2.2.2.2.2.1; have g5 := hS.2.2.2.2.2.2.2.2.1; have g6 := hS.2.2.2.2.2.2.2.2.2.1; have g7 := hS.2.2.2.2.2.2.2.2.2.2.1; have o0 := hS.2.2.2.2.2.2.2.2.2.2.2.1; have o1 := hS.2.2.2.2.2.2.2.2.2.2.2.2.1; have o2 := hS.2.2.2.2.2.2.2.2.2.2.2.2.2.1; clear hS; go_simp; rfl); (go_simp; refine hK _ ?_; clear hK K)
          refine wpFreeL_gen rfl (fun K hK => ?_); apply Exists.intro; refine ⟨fun L w' hcl hL hdep hS => ?_, ?_⟩
          · have hb := hS.1; have hB := hS.2.1; have hr := hS.2.2.1; have g0 := hS.2.2.2.1; have g1 := hS.2.2.2.2.1; have g2 := hS.2.2.2.2.2.1; have g3 := hS.2.2.2.2.2.2.1; have g4 := hS.2.2.2.2.2.2.2.1; have g5 := hS.2.2.2.2.2.2.2.2.1; have g6 := hS.2.2.2.2.2.2.2.2.2.1; have g7 := hS.2.2.2.2.2.2.2.2.2.2.1; have o0 := hS.2.2.2.2.2.2.2.2.2.2.2.1; have o1 := hS.2.2.2.2.2.2.2.2.2.2.2.2.1; have o2 := hS.2.2.2.2.2.2.2.2.2.2.2.2.2.1; have s0 := hS.2.2.2.2.2.2.2.2.2.2.2.2.2.2.1; have s1 := hS.2.2.2.2.2.2.2.2.2.2.2.2.2.2.2.1; have s2 := hS.2.2.2.2.2.2.2.2.2.2.2.2.2.2.2.2; go_simp; refine (piece_any a n 1 _ (by omega) (by omega)).mono ?_; rintro e w1 ⟨rfl, hb1⟩; exact ⟨rfl, ⟨hb.trans (hb1.mono (by have := hb.size; omega)), hB.below hb1 hB.lt, hr.below hb1, keepc hb1 g0, keepc hb1 g1, keepc hb1 g2, keepc hb1 g3, keepc hb1 g4, keepc hb1 g5, keepc hb1 g6, keepc hb1 g7, keepOwn hb1 o0, keepOwn hb1 o1, keepOwn hb1 o2, fun h => keepc hb1 (s0 h), fun h => keepc hb1 (s1 h), fun h => keepc hb1 (s2 h)⟩⟩
          go_simp; refine hK _ ?_; clear hK K
          refine wpFreeL_val rfl (fun _ _ _ h => h) (fun K hK => ?_); apply Exists.intro; refine ⟨fun L w' hS => ?_, ?_⟩; (have hb := hS.1; have hB := hS.2.1; have hr := hS.2.2.1; have g0 := hS.2.2.2.1; have g1 := hS.2.2.2.2.1; have g2 := hS.2.2.2.2.2.1; have g3 := hS.2.2.2.2.2.2.1; have g4 := hS.2.2.2.2.2.2.2.1; have g5 := hS.2.2.2.2.2.2.2.2.1; have g6 := hS.2.2.2.2.2.2.2.2.2.1; have g7 := hS.2.2.2.2.2.2.2.2.2.2.1; have o0 := hS.2.2.2.2.2.2.2.2.2.2.2.1; have o1 := hS.2.2.2.2.2.2.2.2.2.2.2.2.1; have o2 := hS.2.2.2.2.2.2.2.2.2.2.2.2.2.1; clear hS; go_simp; rfl); (go_simp; refine hK _ ?_; clear hK K)
          refine wpFreeL_gen rfl (fun K hK => ?_); refine ⟨undef, fun L w' _ hL hdep hS => ?_, ?_⟩
          · have hb := hS.1; have hB := hS.2.1; have hr := hS.2.2.1; have g0 := hS.2.2.2.1; have g1 := hS.2.2.2.2.1; have g2 := hS.2.2.2.2.2.1; have g3 := hS.2.2.2.2.2.2.1; have g4 := hS.2.2.2.2.2.2.2.1; have g5 := hS.2.2.2.2.2.2.2.2.1; have g6 := hS.2.2.2.2.2.2.2.2.2.1; have g7 := hS.2.2.2.2.2.2.2.2.2.2.1; have o0 := hS.2.2.2.2.2.2.2.2.2.2.2.1; have o1 := hS.2.2.2.2.2.2.2.2.2.2.2.2.1; have o2 := hS.2.2.2.2.2.2.2.2.2.2.2.2.2.1; have s0 := hS.2.2.2.2.2.2.2.2.2.2.2.2.2.2.1; have s1 := hS.2.2.2.2.2.2.2.2.2.2.2.2.2.2.2.1; have s2 := hS.2.2.2.2.2.2.2.2.2.2.2.2.2.2.2.2; clear hS
            have o0' := o0; obtain ⟨⟨u0, e0⟩, f0⟩ := o0'
            go_simp
            refine ⟨rfl, ⟨(Below.setCell (p := ⟨w.heap.size + 1, 0, none⟩) hb (by dsimp only; omega) _), (bytes_other hB (p := ⟨w.heap.size + 1, 0, none⟩) (by dsimp only; omega) _), (Rnd.setCell (p := ⟨w.heap.size + 1, 0, none⟩) hr (.inl (by dsimp only; omega)) _), by go_simp, by go_simp, by go_simp, by go_simp, by go_simp, by go_simp, by go_simp, by go_simp, (o0.set _ _), (o1.set _ _), (o2.set _ _), fun _ => by go_simp, fun h => by have q := s1 h; go_simp, fun h => by have q := s2 h; go_simp⟩⟩
          go_simp; refine hK _ ?_; clear hK K
          refine wpFreeL_gen rfl (fun K hK => ?_); refine ⟨undef, fun L w' _ hL hdep hS => ?_, ?_⟩
          · have hb := hS.1; have hB := hS.2.1; have hr := hS.2.2.1; have g0 := hS.2.2.2.1; have g1 := hS.2.2.2.2.1; have g2 := hS.2.2.2.2.2.1; have g3 := hS.2.2.2.2.2.2.1; have g4 := hS.2.2.2.2.2.2.2.1; have g5 := hS.2.2.2.2.2.2.2.2.1; have g6 := hS.2.2.2.2.2.2.2.2.2.1; have g7 := hS.2.2.2.2.2.2.2.2.2.2.1; have o0 := hS.2.2.2.2.2.2.2.2.2.2.2.1; have o1 := hS.2.2.2.2.2.2.2.2.2.2.2.2.1; have o2 := hS.2.2.2.2.2.2.2.2.2.2.2.2.2.1; have s0 := hS.2.2.2.2.2.2.2.2.2.2.2.2.2.2.1; have s1 := hS.2.2.2.2.2.2.2.2.2.2.2.2.2.2.2.1; have s2 := hS.2.2.2.2.2.2.2.2.2.2.2.2.2.2.2.2; clear hS
            have o1' := o1; obtain ⟨⟨u1, e1⟩, f1⟩ := o1'
            go_simp
            refine ⟨rfl, ⟨(Below.setCell (p := ⟨w.heap.size + 2, 0, none⟩) hb (by dsimp only; omega) _), (bytes_other hB (p := ⟨w.heap.size + 2, 0, none⟩) (by dsimp only; omega) _), (Rnd.setCell (p := ⟨w.heap.size + 2, 0, none⟩) hr (.inl (by dsimp only; omega)) _), by go_simp, by go_simp, by go_simp, by go_simp, by go_simp, by go_simp, by go_simp, by go_simp, (o0.set _ _), (o1.set _ _), (o2.set _ _), fun h => by have q := s0 h; go_simp, fun _ => by go_simp, fun h => by have q := s2 h; go_simp⟩⟩
          go_simp; refine hK _ ?_; clear hK K
          refine wpFreeL_gen rfl (fun K hK => ?_); refine ⟨undef, fun L w' _ hL hdep hS => ?_, ?_⟩
          · have hb := hS.1; have hB := hS.2.1; have hr := hS.2.2.1; have g0 := hS.2.2.2.1; have g1 := hS.2.2.2.2.1; have g2 := hS.2.2.2.2.2.1; have g3 := hS.2.2.2.2.2.2.1; have g4 := hS.2.2.2.2.2.2.2.1; have g5 := hS.2.2.2.2.2.2.2.2.1; have g6 := hS.2.2.2.2.2.2.2.2.2.1; have g7 := hS.2.2.2.2.2.2.2.2.2.2.1; have o0 := hS.2.2.2.2.2.2.2.2.2.2.2.1; have o1 := hS.2.2.2.2.2.2.2.2.2.2.2.2.1; have o2 := hS.2.2.2.2.2.2.2.2.2.2.2.2.2.1; have s0 := hS.2.2.2.2.2.2.2.2.2.2.2.2.2.2.1; have s1 := hS.2.2.2.2.2.2.2.2.2.2.2.2.2.2.2.1; have s2 := hS.2.2.2.2.2.2.2.2.2.2.2.2.2.2.2.2; clear hS
            have o2' := o2; obtain ⟨⟨u2, e2⟩, f2⟩ := o2'
            go_simp
            refine ⟨rfl, ⟨(Below.setCell (p := ⟨w.heap.size + 3, 0, none⟩) hb (by dsimp only; omega) _), (bytes_other hB (p := ⟨w.heap.size + 3, 0, none⟩) (by dsimp only; omega) _), (Rnd.setCell (p := ⟨w.heap.size + 3, 0, none⟩) hr (.inl (by dsimp only; omega)) _), by go_simp, by go_simp, by go_simp, by go_simp, by go_simp, by go_simp, by go_simp, by go_simp, (o0.set _ _), (o1.set _ _), (o2.set _ _), fun h => by have q := s0 h; go_simp, fun h => by have q := s1 h; go_simp, fun _ => by go_simp⟩⟩
          go_simp; refine hK _ ?_; clear hK K
          refine wpFreeL_nil (fun L w' hL hS => ?_)
          have hb := hS.1; have hB := hS.2.1; have hr := hS.2.2.1; have g0 := hS.2.2.2.1; have g1 := hS.2.2.2.2.1; have g2 := hS.2.2.2.2.2.1; have g3 := hS.2.2.2.2.2.2.1; have g4 := hS.2.2.2.2.2.2.2.1; have g5 := hS.2.2.2.2.2.2.2.2.1; have g6 := hS.2.2.2.2.2.2.2.2.2.1; have g7 := hS.2.2.2.2.2.2.2.2.2.2.1; have o0 := hS.2.2.2.2.2.2.2.2.2.2.2.1; have o1 := hS.2.2.2.2.2.2.2.2.2.2.2.2.1; have o2 := hS.2.2.2.2.2.2.2.2.2.2.2.2.2.1; have s0 := hS.2.2.2.2.2.2.2.2.2.2.2.2.2.2.1 (hL 5 (by decide)); have s1 := hS.2.2.2.2.2.2.2.2.2.2.2.2.2.2.2.1 (hL 6 (by decide)); have s2 := hS.2.2.2.2.2.2.2.2.2.2.2.2.2.2.2.2 (hL 7 (by decide))
          clear hL hS
          gi_wp2_with fail
          refine ⟨hr, rfl, hb, ?_, ?_, ?_⟩
          · rw [HRS.out]; exact s0
          · rw [HRS.out]; exact s1
          · rw [HRS.out]; exact s2
        · have hd4 : decide (upZ n < upZ s') = false := by simpa using hrest
          have hd5 : decide (0 < upZ s' - upZ n) = false := by simp; omega
          have hres : allocRaw l us n = (l2, a + 8, 0) := by
            unfold allocRaw; rw [HFD.out]; simp only []; rw [if_neg hrest, HL2.out, HL1.out]
          have HRS := hid hres; clear hres hrest
          have HB5 := hid HB4.out
          gi_wp2_with fail
          refine wpIn_region_freeL (open_round lp) (by kernel_rfl) (by kernel_rfl) (fun L w' => Below w.heap.size w w' ∧ Bytes w' b (l2) ∧ Rnd W0.heap.size W w' ∧ w'.cell? ⟨w.heap.size, 0, none⟩ = some (.int .i64 n) ∧ w'.cell? ⟨w1.heap.size, 0, none⟩ = some (.slice (some ⟨b, 0, none⟩) l2.length l2.length) ∧ w'.cell? ⟨Bx, 0, none⟩ = some (.int .i64 a) ∧ w'.cell? ⟨Bx, 1, none⟩ = some (.int .i64 s') ∧ w'.cell? ⟨Bx, 2, none⟩ = some (.int .i64 m) ∧ w'.cell? ⟨W.heap.size, 0, none⟩ = some (.int .i64 a) ∧ w'.cell? ⟨W.heap.size, 1, none⟩ = some (.int .i64 n) ∧ w'.cell? ⟨W.heap.size, 2, none⟩ = some (.int .i64 1) ∧ OwnC w' ⟨w.heap.size + 1, 0, none⟩ ∧ OwnC w' ⟨w.heap.size + 2, 0, none⟩ ∧ OwnC w' ⟨w.heap.size + 3, 0, none⟩ ∧ (L 5 = true → w'.cell? ⟨w.heap.size + 1, 0, none⟩ = some (.string ⟨l2.toArray⟩)) ∧ (L 6 = true → w'.cell? ⟨w.heap.size + 2, 0, none⟩ = some (.int .i64 (a + 8))) ∧ (L 7 = true → w'.cell? ⟨w.heap.size + 3, 0, none⟩ = some (.int .i64 0))) ⟨(HBO.out).drew, HB5.out, (HR.out).drew, g0, g1, g2, g3, g4, g5, g6, g7, o0, o1, o2, fun h => absurd h (by decide), fun h => absurd h (by decide), fun h => absurd h (by decide)⟩ ?_
          refine wpFreeL_val rfl (fun _ _ _ h => h) (fun K hK => ?_); apply Exists.intro; refine ⟨fun L w' hS => ?_, ?_⟩; (have hb := hS.1; have hB := hS.2.1; have hr := hS.2.2.1; have g0 := hS.2.2.2.1; have g1 := hS.2.2.2.2.1; have g2 := hS.2.2.2.2.2.1; have g3 := hS.2.2.2.2.2.2.1; have g4 := hS.2.2.2.2.2.2.2.1; have g5 := hS.2.2.2.2.2.2.2.2.1; have g6 := hS.2.2.2.2.2.2.2.2.2.1; have g7 := hS.2.2.2.2.2.2.2.2.2.2.1; have o0 := hS.2.2.2.2.2.2.2.2.2.2.2.1; have o1 := hS.2.2.2.2.2.2.2.2.2.2.2.2.1; have o2 := hS.2.2.2.2.2.2.2.2.2.2.2.2.2.1; clear hS; go_simp; rfl); (go_simp; refine hK _ ?_; clear hK K)
          refine wpFreeL_val rfl (fun _ _ _ h => h) (fun K hK => ?_); apply Exists.intro; refine ⟨fun L w' hS => ?_, ?_⟩; (have hb := hS.1; have hB := hS.2.1; have hr := hS.2.2.1; have g0 := hS.2.2.2.1; have g1 := hS.2.2.2.2.1; have g2 := hS.2.2.2.2.2.1; have g3 := hS.2.2.2.2.2.2.1; have g4 := hS.2.2.2.2.2.2.2.1; have g5 := hS.2.2.2.2.2.2.2.2.1; have g6 := hS.2.2.2.2.2.2.2.2.2.1; have g7 := hS.2.2.2.2.2.2.2.2.2.2.1; have o0 := hS.2.2.2.2.2.2.2.2.2.2.2.1; have o1 := hS.2.2.2.2.2.2.2.2.2.2.2.2.1; have o2 := hS.2.2.2.2.2.2.2.2.2.2.2.2.2.1; clear hS; have hq := run_str79 w' b l2.length l2 hB; go_simp; rfl); (go_simp; refine hK _ ?_; clear hK K)
          refine wpFreeL_val rfl (fun _ _ _ h => h) (fun K hK => ?_); apply Exists.intro; refine ⟨fun L w' hS => ?_, ?_⟩; (have hb := hS.1; have hB := hS.2.1; have hr := hS.2.2.1; have g0 := hS.2.2.2.1; have g1 := hS.2.2.2.2.1; have g2 := hS.2.2.2.2.2.1; have g3 := hS.2.2.2.2.2.2.1; have g4 := hS.2.2.2.2.2.2.2.1; have g5 := hS.2.2.2.2.2.2.2.2.1; have g6 := hS.2.2.2.2.2.2.2.2.2.1; have g7 := hS.2.2.2.2.2.2.2.2.2.2.1; have o0 := hS.2.2.2.2.2.2.2.2.2.2.2.1; have o1 := hS.2.2.2.2.2.2.2.2.2.2.2.2.1; have o2 := hS.2.2.2.2.2.2.2.2.2.2.2.2.2.1; clear hS; go_simp; rfl); (go_simp; refine hK _ ?_; clear hK K)
          refine wpFreeL_gen rfl (fun K hK => ?_); apply Exists.intro; refine ⟨fun L w' hcl hL hdep hS => ?_, ?_⟩
          · have hb := hS.1; have hB := hS.2.1; have hr := hS.2.2.1; have g0 := hS.2.2.2.1; have g1 := hS.2.2.2.2.1; have g2 := hS.2.2.2.2.2.1; have g3 := hS.2.2.2.2.2.2.1; have g4 := hS.2.2.2.2.2.2.2.1; have g5 := hS.2.2.2.2.2.2.2.2.1; have g6 := hS.2.2.2.2.2.2.2.2.2.1; have g7 := hS.2.2.2.2.2.2.2.2.2.2.1; have o0 := hS.2.2.2.2.2.2.2.2.2.2.2.1; have o1 := hS.2.2.2.2.2.2.2.2.2.2.2.2.1; have o2 := hS.2.2.2.2.2.2.2.2.2.2.2.2.2.1; have s0 := hS.2.2.2.2.2.2.2.2.2.2.2.2.2.2.1; have s1 := hS.2.2.2.2.2.2.2.2.2.2.2.2.2.2.2.1; have s2 := hS.2.2.2.2.2.2.2.2.2.2.2.2.2.2.2.2; go_simp; refine (piece_any a n 1 _ (by omega) (by omega)).mono ?_; rintro e w1 ⟨rfl, hb1⟩; exact ⟨rfl, ⟨hb.trans (hb1.mono (by have := hb.size; omega)), hB.below hb1 hB.lt, hr.below hb1, keepc hb1 g0, keepc hb1 g1, keepc hb1 g2, keepc hb1 g3, keepc hb1 g4, keepc hb1 g5, keepc hb1 g6, keepc hb1 g7, keepOwn hb1 o0, keepOwn hb1 o1, keepOwn hb1 o2, fun h => keepc hb1 (s0 h), fun h => keepc hb1 (s1 h), fun h => keepc hb1 (s2 h)⟩⟩
          go_simp; refine hK _ ?_; clear hK K
          refine wpFreeL_val rfl (fun _ _ _ h => h) (fun K hK => ?_); apply Exists.intro; refine ⟨fun L w' hS => ?_, ?_⟩; (have hb := hS.1; have hB := hS.2.1; have hr := hS.2.2.1; have g0 := hS.2.2.2.1; have g1 := hS.2.2.2.2.1; have g2 := hS.2.2.2.2.2.1; have g3 := hS.2.2.2.2.2.2.1; have g4 := hS.2.2.2.2.2.2.2.1; have g5 := hS.2.2.2.2.2.2.2.2.1; have g6 := hS.2.2.2.2.2.2.2.2.2.1; have g7 := hS.2.2.2.2.2.2.2.2.2.2.1; have o0 := hS.2.2.2.2.2.2.2.2.2.2.2.1; have o1 := hS.2.2.2.2.2.2.2.2.2.2.2.2.1; have o2 := hS.2.2.2.2.2.2.2.2.2.2.2.2.2.1; clear hS; go_simp; rfl); (go_simp; refine hK _ ?_; clear hK K)
          refine wpFreeL_gen rfl (fun K hK => ?_); refine ⟨undef, fun L w' _ hL hdep hS => ?_, ?_⟩
          · have hb := hS.1; have hB := hS.2.1; have hr := hS.2.2.1; have g0 := hS.2.2.2.1; have g1 := hS.2.2.2.2.1; have g2 := hS.2.2.2.2.2.1; have g3 := hS.2.2.2.2.2.2.1; have g4 := hS.2.2.2.2.2.2.2.1; have g5 := hS.2.2.2.2.2.2.2.2.1; have g6 := hS.2.2.2.2.2.2.2.2.2.1; have g7 := hS.2.2.2.2.2.2.2.2.2.2.1; have o0 := hS.2.2.2.2.2.2.2.2.2.2.2.1; have o1 := hS.2.2.2.2.2.2.2.2.2.2.2.2.1; have o2 := hS.2.2.2.2.2.2.2.2.2.2.2.2.2.1; have s0 := hS.2.2.2.2.2.2.2.2.2.2.2.2.2.2.1; have s1 := hS.2.2.2.2.2.2.2.2.2.2.2.2.2.2.2.1; have s2 := hS.2.2.2.2.2.2.2.2.2.2.2.2.2.2.2.2; clear hS
            have o0' := o0; obtain ⟨⟨u0, e0⟩, f0⟩ := o0'
            go_simp
            refine ⟨rfl, ⟨(Below.setCell (p := ⟨w.heap.size + 1, 0, none⟩) hb (by dsimp only; omega) _), (bytes_other hB (p := ⟨w.heap.size + 1, 0, none⟩) (by dsimp only; omega) _), (Rnd.setCell (p := ⟨w.heap.size + 1, 0, none⟩) hr (.inl (by dsimp only; omega)) _), by go_simp, by go_simp, by go_simp, by go_simp, by go_simp, by go_simp, by go_simp, by go_simp, (o0.set _ _), (o1.set _ _), (o2.set _ _), fun _ => by go_simp, fun h => by have q := s1 h; go_simp, fun h => by have q := s2 h; go_simp⟩⟩
          go_simp; refine hK _ ?_; clear hK K
          refine wpFreeL_gen rfl (fun K hK => ?_); refine ⟨undef, fun L w' _ hL hdep hS => ?_, ?_⟩
          · have hb := hS.1; have hB := hS.2.1; have hr := hS.2.2.1; have g0 := hS.2.2.2.1; have g1 := hS.2.2.2.2.1; have g2 := hS.2.2.2.2.2.1; have g3 := hS.2.2.2.2.2.2.1; have g4 := hS.2.2.2.2.2.2.2.1; have g5 := hS.2.2.2.2.2.2.2.2.1; have g6 := hS.2.2.2.2.2.2.2.2.2.1; have g7 := hS.2.2.2.2.2.2.2.2.2.2.1; have o0 := hS.2.2.2.2.2.2.2.2.2.2.2.1; have o1 := hS.2.2.2.2.2.2.2.2.2.2.2.2.1; have o2 := hS.2.2.2.2.2.2.2.2.2.2.2.2.2.1; have s0 := hS.2.2.2.2.2.2.2.2.2.2.2.2.2.2.1; have s1 := hS.2.2.2.2.2.2.2.2.2.2.2.2.2.2.2.1; have s2 := hS.2.2.2.2.2.2.2.2.2.2.2.2.2.2.2.2; clear hS
            have o1' := o1; obtain ⟨⟨u1, e1⟩, f1⟩ := o1'
            go_simp
            refine ⟨rfl, ⟨(Below.setCell (p := ⟨w.heap.size + 2, 0, none⟩) hb (by dsimp only; omega) _), (bytes_other hB (p := ⟨w.heap.size + 2, 0, none⟩) (by dsimp only; omega) _), (Rnd.setCell (p := ⟨w.heap.size + 2, 0, none⟩) hr (.inl (by dsimp only; omega)) _), by go_simp, by go_simp, by go_simp, by go_simp, by go_simp, by go_simp, by go_simp, by go_simp, (o0.set _ _), (o1.set _ _), (o2.set _ _), fun h => by have q := s0 h; go_simp, fun _ => by go_simp, fun h => by have q := s2 h; go_simp⟩⟩
          go_simp; refine hK _ ?_; clear hK K
          refine wpFreeL_gen rfl (fun K hK => ?_); refine ⟨undef, fun L w' _ hL hdep hS => ?_, ?_⟩
          · have hb := hS.1; have hB := hS.2.1; have hr := hS.2.2.1; have g0 := hS.2.2.2.1; have g1 := hS.2.2.2.2.1; have g2 := hS.2.2.2.2.2.1; have g3 := hS.2.2.2.2.2.2.1; have g4 := hS.2.2.2.2.2.2.2.1; have g5 := hS.2.2.2.2.2.2.2.2.1; have g6 := hS.2.2.2.2.2.2.2.2.2.1; have g7 := hS.2.2.2.2.2.2.2.2.2.2.1; have o0 := hS.2.2.2.2.2.2.2.2.2.2.2.1; have o1 := hS.2.2.2.2.2.2.2.2.2.2.2.2.1; have o2 := hS.2.2.2.2.2.2.2.2.2.2.2.2.2.1; have s0 := hS.2.2.2.2.2.2.2.2.2.2.2.2.2.2.1; have s1 := hS.2.2.2.2.2.2.2.2.2.2.2.2.2.2.2.1; have s2 := hS.2.2.2.2.2.2.2.2.2.2.2.2.2.2.2.2; clear hS
            have o2' := o2; obtain ⟨⟨u2, e2⟩, f2⟩ := o2'
            go_simp
            refine ⟨rfl, ⟨(Below.setCell (p := ⟨w.heap.size + 3, 0, none⟩) hb (by dsimp only; omega) _), (bytes_other hB (p := ⟨w.heap.size + 3, 0, none⟩) (by dsimp only; omega) _), (Rnd.setCell (p := ⟨w.heap.size + 3, 0, none⟩) hr (.inl (by dsimp only; omega)) _), by go_simp, by go_simp, by go_simp, by go_simp, by go_simp, by go_simp, by go_simp, by go_simp, (o0.set _ _), (o1.set _ _), (o2.set _ _), fun h => by have q := s0 h; go_simp, fun h => by have q := s1 h; go_simp, fun _ => by go_simp⟩⟩
          go_simp; refine hK _ ?_; clear hK K
          refine wpFreeL_nil (fun L w' hL hS => ?_)
          have hb := hS.1; have hB := hS.2.1; have hr := hS.2.2.1; have g0 := hS.2.2.2.1; have g1 := hS.2.2.2.2.1; have g2 := hS.2.2.2.2.2.1; have g3 := hS.2.2.2.2.2.2.1; have g4 := hS.2.2.2.2.2.2.2.1; have g5 := hS.2.2.2.2.2.2.2.2.1; have g6 := hS.2.2.2.2.2.2.2.2.2.1; have g7 := hS.2.2.2.2.2.2.2.2.2.2.1; have o0 := hS.2.2.2.2.2.2.2.2.2.2.2.1; have o1 := hS.2.2.2.2.2.2.2.2.2.2.2.2.1; have o2 := hS.2.2.2.2.2.2.2.2.2.2.2.2.2.1; have s0 := hS.2.2.2.2.2.2.2.2.2.2.2.2.2.2.1 (hL 5 (by decide)); have s1 := hS.2.2.2.2.2.2.2.2.2.2.2.2.2.2.2.1 (hL 6 (by decide)); have s2 := hS.2.2.2.2.2.2.2.2.2.2.2.2.2.2.2.2 (hL 7 (by decide))
          clear hL hS
          gi_wp2_with fail
          refine ⟨hr, rfl, hb, ?_, ?_, ?_⟩
          · rw [HRS.out]; exact s0
          · rw [HRS.out]; exact s1
          · rw [HRS.out]; exact s2
  case hstop =>
    rintro D c k W hD ⟨rfl, hbw, d1, d2, d3⟩ hK
    have HBW := hid hbw; clear hbw
    have hlt3 : w.heap.size + 3 < W.heap.size := World.block_lt_of_cell? _ _ d3
    have HK := hid hK; clear hK
    clear c0 ch cr hB0 f1 f2 f3
    gi_wp2_with fail
    refine ⟨by simp, .inl ⟨_, _, rfl, run_takeDeferred HK.out, .tuple #[strV (allocRaw l us n).1, .int .i64 (allocRaw l us n).2.1, .int .i64 (allocRaw l us n).2.2], ?_, rfl, below_put HBW.out (by omega) _⟩⟩
    have p1 := cell_put (o' := .deferred none) HK.out rfl d1
    have p2 := cell_put (o' := .deferred none) HK.out rfl d2
    have p3 := cell_put (o' := .deferred none) HK.out rfl d3
    simp [results, Try.results20, go_sem, p1, p2, p3]
  case hdone =>
    rintro D W hD ⟨hbw, hno⟩ hK
    rw [List.length_map, List.take_length] at hno
    have HNO := hid hno; clear hno
    have HK := hid hK
    have hDlt : D < W.heap.size := (Array.getElem?_eq_some_iff.1 hK).1
    have d0 := keepc hbw c0
    have dh := keepc hbw ch
    have f1 := keepOwn hbw f1
    have f2 := keepOwn hbw f2
    have f3 := keepOwn hbw f3
    have HB := hid (hB0.below hbw hB0.lt)
    have HBO := hid (HW0.out.trans (hbw.mono (by omega)))
    have HR := hid (Rnd.refl W0.heap.size W)
    have hn1 := num_bd l1 0
    have hun := upZ_bd n (by omega)
    have hlt2 : w1.heap.size < W.heap.size := World.block_lt_of_cell? _ _ dh
    have hzW : W0.heap.size ≤ W.heap.size := hbw.size
    clear hbw c0 ch cr hB0 hK
    gi_wp2_with fail
    refine wpIn_region_freeL open_wide (by kernel_rfl) (by kernel_rfl) (fun L w' => Below w.heap.size w w' ∧ Bytes w' b (l1) ∧ Rnd W0.heap.size W w' ∧ w'.cell? ⟨w.heap.size, 0, none⟩ = some (.int .i64 n) ∧ w'.cell? ⟨w1.heap.size, 0, none⟩ = some (.slice (some ⟨b, 0, none⟩) l1.length l1.length) ∧ OwnC w' ⟨w.heap.size + 1, 0, none⟩ ∧ OwnC w' ⟨w.heap.size + 2, 0, none⟩ ∧ OwnC w' ⟨w.heap.size + 3, 0, none⟩ ∧ w'.heap.size = W.heap.size + (if L 4 = true then 1 else 0) ∧ (L 4 = true → OwnC w' ⟨W.heap.size, 0, none⟩ ∧ OwnC w' ⟨W.heap.size, 1, none⟩ ∧ OwnC w' ⟨W.heap.size, 2, none⟩) ∧ (L 5 = true → w'.cell? ⟨W.heap.size, 0, none⟩ = some (.int .i64 (8 + num l1 0)) ∧ w'.cell? ⟨W.heap.size, 1, none⟩ = some (.int .i64 n) ∧ w'.cell? ⟨W.heap.size, 2, none⟩ = some (.int .i64 1))) ⟨(HBO.out).drew, HB.out, (HR.out).drew, d0, dh, f1, f2, f3, rfl, fun h => absurd h (by decide), fun h => absurd h (by decide)⟩ ?_
    refine wpFreeL_val rfl (fun _ _ _ h => h) (fun K hK => ?_); apply Exists.intro; refine ⟨fun L w' hS => ?_, ?_⟩; (have hb := hS.1; have hB := hS.2.1; have hr := hS.2.2.1; have g0 := hS.2.2.2.1; have g1 := hS.2.2.2.2.1; have o0 := hS.2.2.2.2.2.1; have o1 := hS.2.2.2.2.2.2.1; have o2 := hS.2.2.2.2.2.2.2.1; clear hS; go_simp; rfl); (go_simp; refine hK _ ?_; clear hK K)
    refine wpFreeL_gen rfl (fun K hK => ?_); apply Exists.intro; refine ⟨fun L w' hcl hL hdep hS => ?_, ?_⟩
    · have hb := hS.1; have hB := hS.2.1; have hr := hS.2.2.1; have g0 := hS.2.2.2.1; have g1 := hS.2.2.2.2.1; have o0 := hS.2.2.2.2.2.1; have o1 := hS.2.2.2.2.2.2.1; have o2 := hS.2.2.2.2.2.2.2.1; go_simp; refine (hend_any b _ _ l1 _ hB rfl (by omega) (Nat.le_refl _) (by omega)).mono ?_; rintro e w1 ⟨rfl, rfl⟩; exact ⟨rfl, hS⟩
    go_simp; refine hK _ ?_; clear hK K
    refine wpFreeL_val rfl (fun _ _ _ h => h) (fun K hK => ?_); apply Exists.intro; refine ⟨fun L w' hS => ?_, ?_⟩; (have hb := hS.1; have hB := hS.2.1; have hr := hS.2.2.1; have g0 := hS.2.2.2.1; have g1 := hS.2.2.2.2.1; have o0 := hS.2.2.2.2.2.1; have o1 := hS.2.2.2.2.2.2.1; have o2 := hS.2.2.2.2.2.2.2.1; clear hS; go_simp; rfl); (go_simp; refine hK _ ?_; clear hK K)
    refine wpFreeL_val rfl (fun _ _ _ h => h) (fun K hK => ?_); apply Exists.intro; refine ⟨fun L w' hS => ?_, ?_⟩; (have hb := hS.1; have hB := hS.2.1; have hr := hS.2.2.1; have g0 := hS.2.2.2.1; have g1 := hS.2.2.2.2.1; have o0 := hS.2.2.2.2.2.1; have o1 := hS.2.2.2.2.2.2.1; have o2 := hS.2.2.2.2.2.2.2.1; clear hS; go_simp; rfl); (go_simp; refine hK _ ?_; clear hK K)
    refine wpFreeL_gen rfl (fun K hK => ?_); refine ⟨.pointer (some ⟨W.heap.size, 0, none⟩), fun L w' _ hL _ hS => ?_, ?_⟩
    · have hb := hS.1; have hB := hS.2.1; have hr := hS.2.2.1; have g0 := hS.2.2.2.1; have g1 := hS.2.2.2.2.1; have o0 := hS.2.2.2.2.2.1; have o1 := hS.2.2.2.2.2.2.1; have o2 := hS.2.2.2.2.2.2.2.1; have hz := hS.2.2.2.2.2.2.2.2.1; have hs := hS.2.2.2.2.2.2.2.2.2.2; clear hS
      rw [hL] at hz; rw [if_neg (by simp), Nat.add_zero] at hz
      have hno : L 5 = true → False := fun h => by have h1 := (hs h).1; have := World.block_lt_of_cell? _ _ h1; simp only at this; omega
      clear hs
      go_simp
      refine ⟨rfl, ⟨hb.alloc (by omega) _, hB.grow1 _, hr.alloc _, keep_alloc g0 _, keep_alloc g1 _, own_alloc o0 _, own_alloc o1 _, own_alloc o2 _, ?_, ?_, ?_⟩⟩
      · simp [hz, addTo]
      · intro _; rw [← hz]; refine ⟨ownc_new _ _ _ 0 (by decide), ownc_new _ _ _ 1 (by decide), ownc_new _ _ _ 2 (by decide)⟩
      · intro h; exact (hno h).elim
    go_simp; refine hK _ ?_; clear hK K
    refine wpFreeL_gen rfl (fun K hK => ?_); refine ⟨undef, fun L w' _ hL hdep hS => ?_, ?_⟩
    · have hb := hS.1; have hB := hS.2.1; have hr := hS.2.2.1; have g0 := hS.2.2.2.1; have g1 := hS.2.2.2.2.1; have o0 := hS.2.2.2.2.2.1; have o1 := hS.2.2.2.2.2.2.1; have o2 := hS.2.2.2.2.2.2.2.1; have hz := hS.2.2.2.2.2.2.2.2.1; have ho := hS.2.2.2.2.2.2.2.2.2.1; clear hS
      have hal : L 4 = true := (hdep ⟨4, .data⟩ (by simp) rfl)
      have hoo := ho hal; have n0 := hoo.1; have n1 := hoo.2.1; have n2 := hoo.2.2
      have n0' := n0; obtain ⟨⟨u0, e0⟩, f0⟩ := n0'
      have n1' := n1; obtain ⟨⟨u1, e1⟩, f1⟩ := n1'
      have n2' := n2; obtain ⟨⟨u2, e2⟩, f2⟩ := n2'
      rw [hal, if_pos rfl] at hz
      go_simp
      refine ⟨rfl, ⟨(Below.setCell (p := ⟨W.heap.size, _, none⟩) (Below.setCell (p := ⟨W.heap.size, _, none⟩) (Below.setCell (p := ⟨W.heap.size, _, none⟩) hb (by show w.heap.size ≤ W.heap.size; omega) _) (by show w.heap.size ≤ W.heap.size; omega) _) (by show w.heap.size ≤ W.heap.size; omega) _), (bytes_other (bytes_other (bytes_other hB (p := ⟨W.heap.size, _, none⟩) (by show _ ≠ W.heap.size; omega) _) (p := ⟨W.heap.size, _, none⟩) (by show _ ≠ W.heap.size; omega) _) (p := ⟨W.heap.size, _, none⟩) (by show _ ≠ W.heap.size; omega) _), (Rnd.setCell (p := ⟨W.heap.size, _, none⟩) (Rnd.setCell (p := ⟨W.heap.size, _, none⟩) (Rnd.setCell (p := ⟨W.heap.size, _, none⟩) hr (.inr (Nat.le_refl _)) _) (.inr (Nat.le_refl _)) _) (.inr (Nat.le_refl _)) _), by go_simp, by go_simp, (((o0.set _ _).set _ _).set _ _), (((o1.set _ _).set _ _).set _ _), (((o2.set _ _).set _ _).set _ _), ?_, ?_, ?_⟩⟩
      · simp [World.setCell, addTo, hz, hal]
      · intro _; exact ⟨(((n0.set _ _).set _ _).set _ _), (((n1.set _ _).set _ _).set _ _), (((n2.set _ _).set _ _).set _ _)⟩
      · intro _; exact ⟨by go_simp, by go_simp, by go_simp⟩
    go_simp; refine hK _ ?_; clear hK K
    refine wpFreeL_nil (fun L w' hL hS => ?_)
    have hb := hS.1; have hB := hS.2.1; have hr := hS.2.2.1; have g0 := hS.2.2.2.1; have g1 := hS.2.2.2.2.1; have o0 := hS.2.2.2.2.2.1; have o1 := hS.2.2.2.2.2.2.1; have o2 := hS.2.2.2.2.2.2.2.1
    have hz := hS.2.2.2.2.2.2.2.2.1; rw [hL 4 (by decide), if_pos rfl] at hz; have hss := hS.2.2.2.2.2.2.2.2.2.2 (hL 5 (by decide)); have hoo := hS.2.2.2.2.2.2.2.2.2.1 (hL 4 (by decide)); have r0 := hss.1; have r1 := hss.2.1; have r2 := hss.2.2; have n0 := hoo.1; have n1 := hoo.2.1; have n2 := hoo.2.2; clear hss hoo
    clear hL hS
    have HB1 := hid hB; clear hB HB
    have HBO := hid hb; clear hb
    have HR := hid hr; clear hr n0 n1 n2
    have hlt5 : W.heap.size < w'.heap.size := by omega
    clear hz
    gi_wp2_with fail
    refine wpIn_region_freeL open_wide (by kernel_rfl) (by kernel_rfl) (fun L w' => Below w.heap.size w w' ∧ Bytes w' b (l1) ∧ Rnd W0.heap.size W w' ∧ w'.cell? ⟨w.heap.size, 0, none⟩ = some (.int .i64 n) ∧ w'.cell? ⟨w1.heap.size, 0, none⟩ = some (.slice (some ⟨b, 0, none⟩) l1.length l1.length) ∧ w'.cell? ⟨W.heap.size, 0, none⟩ = some (.int .i64 (8 + num l1 0)) ∧ w'.cell? ⟨W.heap.size, 1, none⟩ = some (.int .i64 n) ∧ w'.cell? ⟨W.heap.size, 2, none⟩ = some (.int .i64 1) ∧ OwnC w' ⟨w.heap.size + 1, 0, none⟩ ∧ OwnC w' ⟨w.heap.size + 2, 0, none⟩ ∧ OwnC w' ⟨w.heap.size + 3, 0, none⟩) ⟨(HBO.out).drew, HB1.out, (HR.out).drew, g0, g1, r0, r1, r2, o0, o1, o2⟩ ?_
    refine wpFreeL_val rfl (fun _ _ _ h => h) (fun K hK => ?_); apply Exists.intro; refine ⟨fun L w' hS => ?_, ?_⟩; (have hb := hS.1; have hB := hS.2.1; have hr := hS.2.2.1; have g0 := hS.2.2.2.1; have g1 := hS.2.2.2.2.1; have g2 := hS.2.2.2.2.2.1; have g3 := hS.2.2.2.2.2.2.1; have g4 := hS.2.2.2.2.2.2.2.1; have o0 := hS.2.2.2.2.2.2.2.2.1; have o1 := hS.2.2.2.2.2.2.2.2.2.1; have o2 := hS.2.2.2.2.2.2.2.2.2.2; clear hS; go_simp; rfl); (go_simp; refine hK _ ?_; clear hK K)
    refine wpFreeL_gen rfl (fun K hK => ?_); apply Exists.intro; refine ⟨fun L w' hcl hL hdep hS => ?_, ?_⟩
    · have hb := hS.1; have hB := hS.2.1; have hr := hS.2.2.1; have g0 := hS.2.2.2.1; have g1 := hS.2.2.2.2.1; have g2 := hS.2.2.2.2.2.1; have g3 := hS.2.2.2.2.2.2.1; have g4 := hS.2.2.2.2.2.2.2.1; have o0 := hS.2.2.2.2.2.2.2.2.1; have o1 := hS.2.2.2.2.2.2.2.2.2.1; have o2 := hS.2.2.2.2.2.2.2.2.2.2; go_simp; refine (end_any (8 + num l1 0) n 1 _ (by omega) (by omega) (by omega) (by omega)).mono ?_; rintro e w1 ⟨rfl, hb1⟩; exact ⟨rfl, ⟨hb.trans (hb1.mono (by have := hb.size; omega)), hB.below hb1 hB.lt, hr.below hb1, keepc hb1 g0, keepc hb1 g1, keepc hb1 g2, keepc hb1 g3, keepc hb1 g4, keepOwn hb1 o0, keepOwn hb1 o1, keepOwn hb1 o2⟩⟩
    go_simp; refine hK _ ?_; clear hK K
    refine wpFreeL_val rfl (fun _ _ _ h => h) (fun K hK => ?_); apply Exists.intro; refine ⟨fun L w' hS => ?_, ?_⟩; (have hb := hS.1; have hB := hS.2.1; have hr := hS.2.2.1; have g0 := hS.2.2.2.1; have g1 := hS.2.2.2.2.1; have g2 := hS.2.2.2.2.2.1; have g3 := hS.2.2.2.2.2.2.1; have g4 := hS.2.2.2.2.2.2.2.1; have o0 := hS.2.2.2.2.2.2.2.2.1; have o1 := hS.2.2.2.2.2.2.2.2.2.1; have o2 := hS.2.2.2.2.2.2.2.2.2.2; clear hS; go_simp; rfl); (go_simp; refine hK _ ?_; clear hK K)
    refine wpFreeL_val rfl (fun _ _ _ h => h) (fun K hK => ?_); apply Exists.intro; refine ⟨fun L w' hS => ?_, ?_⟩; (have hb := hS.1; have hB := hS.2.1; have hr := hS.2.2.1; have g0 := hS.2.2.2.1; have g1 := hS.2.2.2.2.1; have g2 := hS.2.2.2.2.2.1; have g3 := hS.2.2.2.2.2.2.1; have g4 := hS.2.2.2.2.2.2.2.1; have o0 := hS.2.2.2.2.2.2.2.2.1; have o1 := hS.2.2.2.2.2.2.2.2.2.1; have o2 := hS.2.2.2.2.2.2.2.2.2.2; clear hS; go_simp; rfl); (go_simp; refine hK _ ?_; clear hK K)
    refine wpFreeL_val rfl (fun _ _ _ h => h) (fun K hK => ?_); apply Exists.intro; refine ⟨fun L w' hS => ?_, ?_⟩; (have hb := hS.1; have hB := hS.2.1; have hr := hS.2.2.1; have g0 := hS.2.2.2.1; have g1 := hS.2.2.2.2.1; have g2 := hS.2.2.2.2.2.1; have g3 := hS.2.2.2.2.2.2.1; have g4 := hS.2.2.2.2.2.2.2.1; have o0 := hS.2.2.2.2.2.2.2.2.1; have o1 := hS.2.2.2.2.2.2.2.2.2.1; have o2 := hS.2.2.2.2.2.2.2.2.2.2; clear hS; go_simp; rfl); (go_simp; refine hK _ ?_; clear hK K)
    refine wpFreeL_nil (fun L w' hL hS => ?_)
    have hb := hS.1; have hB := hS.2.1; have hr := hS.2.2.1; have g0 := hS.2.2.2.1; have g1 := hS.2.2.2.2.1; have g2 := hS.2.2.2.2.2.1; have g3 := hS.2.2.2.2.2.2.1; have g4 := hS.2.2.2.2.2.2.2.1; have o0 := hS.2.2.2.2.2.2.2.2.1; have o1 := hS.2.2.2.2.2.2.2.2.2.1; have o2 := hS.2.2.2.2.2.2.2.2.2.2
    clear hL hS
    have HB2 := hid hB; clear hB HB1
    have HBO := hid hb; clear hb
    have HR := hid hr; clear hr
    have hlt6 : W.heap.size < w'.heap.size := World.block_lt_of_cell? _ _ g2
    by_cases hf : 8 + num l1 0 + 8 + upZ n > l1.length
    · have hd3 : decide ((l1.length : Int) < 8 + num l1 0 + 8 + upZ n) = true := by simpa using hf
      have hres : allocRaw l us n = ([], 0, 121) := by
        unfold allocRaw; rw [HNO.out]; simp only []; rw [if_pos (by rw [HN01.out, HLL.out] at hf; exact hf)]
      have HRS := hid hres; clear hres g0 g1 g2 g3 g4
      have o0' := o0
      have o1' := o1
      have o2' := o2
      obtain ⟨⟨u0, e0⟩, k0⟩ := o0'
      obtain ⟨⟨u1, e1⟩, k1⟩ := o1'
      obtain ⟨⟨u2, e2⟩, k2⟩ := o2'
      have hl1 : w.heap.size + 1 < w'.heap.size := by omega
      have hl2 : w.heap.size + 2 < w'.heap.size := by omega
      have hl3 : w.heap.size + 3 < w'.heap.size := by omega
      gi_wp2_with fail
      have HK2 : (((w'.setCell ⟨w.heap.size + 1, 0, none⟩ (.string ⟨#[]⟩)).setCell ⟨w.heap.size + 1 + 1, 0, none⟩ (.int .i64 0)).setCell ⟨w.heap.size + 1 + 1 + 1, 0, none⟩ (.int .i64 121)).heap[D]? = some (.deferred (some [])) := by
        rw [Below.heap_setCell _ _ _ _ (by dsimp only; omega), Below.heap_setCell _ _ _ _ (by dsimp only; omega), Below.heap_setCell _ _ _ _ (by dsimp only; omega)]; exact (HR.out.same D hD hDlt).trans HK.out
      refine ⟨by simp, .inl ⟨_, _, rfl, run_takeDeferred HK2, .tuple #[.string ⟨#[]⟩, .int .i64 0, .int .i64 121], ?_, by rw [HRS.out]; rfl, ?_⟩⟩
      · have p1 := cell_put (o' := .deferred none) HK2 rfl (show World.cell? _ ⟨w.heap.size + 1, 0, none⟩ = some (.string ⟨#[]⟩) by go_simp)
        have p2 := cell_put (o' := .deferred none) HK2 rfl (show World.cell? _ ⟨w.heap.size + 2, 0, none⟩ = some (.int .i64 0) by go_simp)
        have p3 := cell_put (o' := .deferred none) HK2 rfl (show World.cell? _ ⟨w.heap.size + 3, 0, none⟩ = some (.int .i64 121) by go_simp)
        simp [results, Try.results20, go_sem, p1, p2, p3]
      · refine below_put ?_ (by omega) _
        clear e0 e1 e2 k0 k1 k2 o0 o1 o2
        repeat (first | exact HBO.out | refine Below.alloc ?_ (by simp [World.setCell]; try omega) _ | refine Below.setCell ?_ (by dsimp only; omega) _)
    · have hd3 : decide ((l1.length : Int) < 8 + num l1 0 + 8 + upZ n) = false := by simpa using hf
      gi_wp2_with fail
      refine ⟨trivial, rfl, ?_⟩
      refine (callsIn_wide.2 (head_any b _ _ l1 (8 + num l1 0) n 1 _ HB2.out rfl (by omega) (by omega) (Nat.le_refl _) (by omega) (by omega) (by omega) (by omega) (by omega))).mono ?_
      rintro e w3 ⟨rfl, hB3, hg3⟩
      obtain ⟨l2, hl2⟩ : ∃ l2, l2 = putHead l1 (8 + num l1 0) n 1 := ⟨_, rfl⟩
      have hB3 : Bytes w3 b l2 := by rw [hl2]; exact hB3
      have hl2l : l2.length = l1.length := by rw [hl2]; simp only [putHead, setL_length]
      have HL2 := hid hl2; clear hl2
      have hb := below_grown HBO.out hg3 hbz
      have hr := HR.out.grown hg3 (fun _ e => by cases e; exact .inl (by omega))
      have g0 := hg3.cell g0 (by simp; omega)
      have g1 := hg3.cell g1 (by simp; omega)
      have g2 := hg3.cell g2 (by simp; omega)
      have g3 := hg3.cell g3 (by simp; omega)
      have g4 := hg3.cell g4 (by simp; omega)
      have o0 := own_grown o0 hg3 (by dsimp only; omega)
      have o1 := own_grown o1 hg3 (by dsimp only; omega)
      have o2 := own_grown o2 hg3 (by dsimp only; omega)
      clear hg3
      rw [← hl2l] at g1
      have HB3 := hid hB3; clear hB3
      have HBO := hid hb; clear hb
      have HR := hid hr; clear hr
      have HL2L := hid hl2l; clear hl2l
      have hw1 : IntKind.i64.wrap (8 + num l1 0 + 8 + upZ n - 8) = num l1 0 + 8 + upZ n := by rw [IntWalk.i64_in _ ⟨by omega, by omega⟩]; omega
      gi_wp2_with fail
      refine wpIn_region_freeL open_wide (by kernel_rfl) (by kernel_rfl) (fun L w' => Below w.heap.size w w' ∧ Bytes w' b (if L 4 = true then (setL l2 0 (num l1 0 + 8 + upZ n).toNat) else l2) ∧ Rnd W0.heap.size W w' ∧ w'.cell? ⟨w.heap.size, 0, none⟩ = some (.int .i64 n) ∧ w'.cell? ⟨w1.heap.size, 0, none⟩ = some (.slice (some ⟨b, 0, none⟩) l2.length l2.length) ∧ w'.cell? ⟨W.heap.size, 0, none⟩ = some (.int .i64 (8 + num l1 0)) ∧ w'.cell? ⟨W.heap.size, 1, none⟩ = some (.int .i64 n) ∧ w'.cell? ⟨W.heap.size, 2, none⟩ = some (.int .i64 1) ∧ OwnC w' ⟨w.heap.size + 1, 0, none⟩ ∧ OwnC w' ⟨w.heap.size + 2, 0, none⟩ ∧ OwnC w' ⟨w.heap.size + 3, 0, none⟩) ⟨(HBO.out).drew, HB3.out, (HR.out).drew, g0, g1, g2, g3, g4, o0, o1, o2⟩ ?_
      refine wpFreeL_val rfl (fun _ _ _ h => h) (fun K hK => ?_); apply Exists.intro; refine ⟨fun L w' hS => ?_, ?_⟩; (have hb := hS.1; have hB := hS.2.1; have hr := hS.2.2.1; have g0 := hS.2.2.2.1; have g1 := hS.2.2.2.2.1; have g2 := hS.2.2.2.2.2.1; have g3 := hS.2.2.2.2.2.2.1; have g4 := hS.2.2.2.2.2.2.2.1; have o0 := hS.2.2.2.2.2.2.2.2.1; have o1 := hS.2.2.2.2.2.2.2.2.2.1; have o2 := hS.2.2.2.2.2.2.2.2.2.2; clear hS; go_simp; rfl); (go_simp; refine hK _ ?_; clear hK K)
      refine wpFreeL_val rfl (fun _ _ _ h => h) (fun K hK => ?_); apply Exists.intro; refine ⟨fun L w' hS => ?_, ?_⟩; (have hb := hS.1; have hB := hS.2.1; have hr := hS.2.2.1; have g0 := hS.2.2.2.1; have g1 := hS.2.2.2.2.1; have g2 := hS.2.2.2.2.2.1; have g3 := hS.2.2.2.2.2.2.1; have g4 := hS.2.2.2.2.2.2.2.1; have o0 := hS.2.2.2.2.2.2.2.2.1; have o1 := hS.2.2.2.2.2.2.2.2.2.1; have o2 := hS.2.2.2.2.2.2.2.2.2.2; clear hS; go_simp; rfl); (go_simp; refine hK _ ?_; clear hK K)
      refine wpFreeL_gen rfl (fun K hK => ?_); apply Exists.intro; refine ⟨fun L w' hcl hL hdep hS => ?_, ?_⟩
      · have hb := hS.1; have hB := hS.2.1; have hr := hS.2.2.1; have g0 := hS.2.2.2.1; have g1 := hS.2.2.2.2.1; have g2 := hS.2.2.2.2.2.1; have g3 := hS.2.2.2.2.2.2.1; have g4 := hS.2.2.2.2.2.2.2.1; have o0 := hS.2.2.2.2.2.2.2.2.1; have o1 := hS.2.2.2.2.2.2.2.2.2.1; have o2 := hS.2.2.2.2.2.2.2.2.2.2; go_simp; refine (end_any (8 + num l1 0) n 1 _ (by omega) (by omega) (by omega) (by omega)).mono ?_; rintro e w1 ⟨rfl, hb1⟩; exact ⟨rfl, ⟨hb.trans (hb1.mono (by have := hb.size; omega)), hB.below hb1 hB.lt, hr.below hb1, keepc hb1 g0, keepc hb1 g1, keepc hb1 g2, keepc hb1 g3, keepc hb1 g4, keepOwn hb1 o0, keepOwn hb1 o1, keepOwn hb1 o2⟩⟩
      go_simp; refine hK _ ?_; clear hK K
      refine wpFreeL_val rfl (fun _ _ _ h => h) (fun K hK => ?_); apply Exists.intro; refine ⟨fun L w' hS => ?_, ?_⟩; (have hb := hS.1; have hB := hS.2.1; have hr := hS.2.2.1; have g0 := hS.2.2.2.1; have g1 := hS.2.2.2.2.1; have g2 := hS.2.2.2.2.2.1; have g3 := hS.2.2.2.2.2.2.1; have g4 := hS.2.2.2.2.2.2.2.1; have o0 := hS.2.2.2.2.2.2.2.2.1; have o1 := hS.2.2.2.2.2.2.2.2.2.1; have o2 := hS.2.2.2.2.2.2.2.2.2.2; clear hS; go_simp; rfl); (go_simp; refine hK _ ?_; clear hK K)
      refine wpFreeL_gen rfl (fun K hK => ?_); apply Exists.intro; refine ⟨fun L w' hcl hL hdep hS => ?_, ?_⟩
      · have hb := hS.1; have hB := hS.2.1; have hr := hS.2.2.1; have g0 := hS.2.2.2.1; have g1 := hS.2.2.2.2.1; have g2 := hS.2.2.2.2.2.1; have g3 := hS.2.2.2.2.2.2.1; have g4 := hS.2.2.2.2.2.2.2.1; have o0 := hS.2.2.2.2.2.2.2.2.1; have o1 := hS.2.2.2.2.2.2.2.2.2.1; have o2 := hS.2.2.2.2.2.2.2.2.2.2; have hwf : L 4 = false := hL; rw [hwf, if_neg (by simp)] at hB; go_simp; refine (set_any b _ _ l2 0 (num l1 0 + 8 + upZ n) _ hB rfl (by omega) (by have := HL2L.out; omega) (Nat.le_refl _) (by have := HL2L.out; omega) (by omega) (by omega)).mono ?_; rintro e w1 ⟨rfl, hB1, hg1, hsz⟩; exact ⟨rfl, ⟨below_grown hb hg1 hbz, hB1, hr.grown hg1 (fun _ e => by cases e; exact .inl (by omega)), hg1.cell g0 (by simp; omega), hg1.cell g1 (by simp; omega), hg1.cell g2 (by simp; omega), hg1.cell g3 (by simp; omega), hg1.cell g4 (by simp; omega), own_grown o0 hg1 (by dsimp only; omega), own_grown o1 hg1 (by dsimp only; omega), own_grown o2 hg1 (by dsimp only; omega)⟩⟩
      go_simp; refine hK _ ?_; clear hK K
      refine wpFreeL_nil (fun L w' hL hS => ?_)
      have hb := hS.1; have hB := hS.2.1; have hr := hS.2.2.1; have g0 := hS.2.2.2.1; have g1 := hS.2.2.2.2.1; have g2 := hS.2.2.2.2.2.1; have g3 := hS.2.2.2.2.2.2.1; have g4 := hS.2.2.2.2.2.2.2.1; have o0 := hS.2.2.2.2.2.2.2.2.1; have o1 := hS.2.2.2.2.2.2.2.2.2.1; have o2 := hS.2.2.2.2.2.2.2.2.2.2
      rw [hL 4 (by decide), if_pos rfl] at hB
      clear hL hS
      obtain ⟨l3, hl3⟩ : ∃ l3, l3 = setL l2 0 (num l1 0 + 8 + upZ n).toNat := ⟨_, rfl⟩
      rw [← hl3] at hB
      have hl3l : l3.length = l2.length := by rw [hl3]; simp only [setL_length]
      rw [← hl3l] at g1
      have HL3 := hid hl3; clear hl3 hl3l
      have HB5 := hid hB; clear hB HB3
      have HBO := hid hb; clear hb
      have HR := hid hr; clear hr
      have hres : allocRaw l us n = (l3, 8 + num l1 0 + 8, 0) := by
        unfold allocRaw; rw [HNO.out]; simp only []; rw [if_neg (by have := hf; rw [HN01.out, HLL.out] at this; omega), HL3.out, HL2.out, HN01.out, HL1.out]
      have HRS := hid hres; clear hres hf
      gi_wp2_with fail
      refine wpIn_region_freeL open_wide (by kernel_rfl) (by kernel_rfl) (fun L w' => Below w.heap.size w w' ∧ Bytes w' b (l3) ∧ Rnd W0.heap.size W w' ∧ w'.cell? ⟨w.heap.size, 0, none⟩ = some (.int .i64 n) ∧ w'.cell? ⟨w1.heap.size, 0, none⟩ = some (.slice (some ⟨b, 0, none⟩) l3.length l3.length) ∧ w'.cell? ⟨W.heap.size, 0, none⟩ = some (.int .i64 (8 + num l1 0)) ∧ w'.cell? ⟨W.heap.size, 1, none⟩ = some (.int .i64 n) ∧ w'.cell? ⟨W.heap.size, 2, none⟩ = some (.int .i64 1) ∧ OwnC w' ⟨w.heap.size + 1, 0, none⟩ ∧ OwnC w' ⟨w.heap.size + 2, 0, none⟩ ∧ OwnC w' ⟨w.heap.size + 3, 0, none⟩ ∧ (L 5 = true → w'.cell? ⟨w.heap.size + 1, 0, none⟩ = some (.string ⟨l3.toArray⟩)) ∧ (L 6 = true → w'.cell? ⟨w.heap.size + 2, 0, none⟩ = some (.int .i64 (8 + num l1 0 + 8))) ∧ (L 7 = true → w'.cell? ⟨w.heap.size + 3, 0, none⟩ = some (.int .i64 0))) ⟨(HBO.out).drew, HB5.out, (HR.out).drew, g0, g1, g2, g3, g4, o0, o1, o2, fun h => absurd h (by decide), fun h => absurd h (by decide), fun h => absurd h (by decide)⟩ ?_
      refine wpFreeL_val rfl (fun _ _ _ h => h) (fun K hK => ?_); apply Exists.intro; refine ⟨fun L w' hS => ?_, ?_⟩; (have hb := hS.1; have hB := hS.2.1; have hr := hS.2.2.1; have g0 := hS.2.2.2.1; have g1 := hS.2.2.2.2.1; have g2 := hS.2.2.2.2.2.1; have g3 := hS.2.2.2.2.2.2.1; have g4 := hS.2.2.2.2.2.2.2.1; have o0 := hS.2.2.2.2.2.2.2.2.1; have o1 := hS.2.2.2.2.2.2.2.2.2.1; have o2 := hS.2.2.2.2.2.2.2.2.2.2.1; clear hS; go_simp; rfl); (go_simp; refine hK _ ?_; clear hK K)
      refine wpFreeL_val rfl (fun _ _ _ h => h) (fun K hK => ?_); apply Exists.intro; refine ⟨fun L w' hS => ?_, ?_⟩; (have hb := hS.1; have hB := hS.2.1; have hr := hS.2.2.1; have g0 := hS.2.2.2.1; have g1 := hS.2.2.2.2.1; have g2 := hS.2.2.2.2.2.1; have g3 := hS.2.2.2.2.2.2.1; have g4 := hS.2.2.2.2.2.2.2.1; have o0 := hS.2.2.2.2.2.2.2.2.1; have o1 := hS.2.2.2.2.2.2.2.2.2.1; have o2 := hS.2.2.2.2.2.2.2.2.2.2.1; clear hS; have hq := run_str79 w' b l3.length l3 hB; go_simp; rfl); (go_simp; refine hK _ ?_; clear hK K)
      refine wpFreeL_val rfl (fun _ _ _ h => h) (fun K hK => ?_); apply Exists.intro; refine ⟨fun L w' hS => ?_, ?_⟩; (have hb := hS.1; have hB := hS.2.1; have hr := hS.2.2.1; have g0 := hS.2.2.2.1; have g1 := hS.2.2.2.2.1; have g2 := hS.2.2.2.2.2.1; have g3 := hS.2.2.2.2.2.2.1; have g4 := hS.2.2.2.2.2.2.2.1; have o0 := hS.2.2.2.2.2.2.2.2.1; have o1 := hS.2.2.2.2.2.2.2.2.2.1; have o2 := hS.2.2.2.2.2.2.2.2.2.2.1; clear hS; go_simp; rfl); (go_simp; refine hK _ ?_; clear hK K)
      refine wpFreeL_gen rfl (fun K hK => ?_); apply Exists.intro; refine ⟨fun L w' hcl hL hdep hS => ?_, ?_⟩
      · have hb := hS.1; have hB := hS.2.1; have hr := hS.2.2.1; have g0 := hS.2.2.2.1; have g1 := hS.2.2.2.2.1; have g2 := hS.2.2.2.2.2.1; have g3 := hS.2.2.2.2.2.2.1; have g4 := hS.2.2.2.2.2.2.2.1; have o0 := hS.2.2.2.2.2.2.2.2.1; have o1 := hS.2.2.2.2.2.2.2.2.2.1; have o2 := hS.2.2.2.2.2.2.2.2.2.2.1; have s0 := hS.2.2.2.2.2.2.2.2.2.2.2.1; have s1 := hS.2.2.2.2.2.2.2.2.2.2.2.2.1; have s2 := hS.2.2.2.2.2.2.2.2.2.2.2.2.2; go_simp; refine (piece_any (8 + num l1 0) n 1 _ (by omega) (by omega)).mono ?_; rintro e w1 ⟨rfl, hb1⟩; exact ⟨rfl, ⟨hb.trans (hb1.mono (by have := hb.size; omega)), hB.below hb1 hB.lt, hr.below hb1, keepc hb1 g0, keepc hb1 g1, keepc hb1 g2, keepc hb1 g3, keepc hb1 g4, keepOwn hb1 o0, keepOwn hb1 o1, keepOwn hb1 o2, fun h => keepc hb1 (s0 h), fun h => keepc hb1 (s1 h), fun h => keepc hb1 (s2 h)⟩⟩
      go_simp; refine hK _ ?_; clear hK K
      refine wpFreeL_val rfl (fun _ _ _ h => h) (fun K hK => ?_); apply Exists.intro; refine ⟨fun L w' hS => ?_, ?_⟩; (have hb := hS.1; have hB := hS.2.1; have hr := hS.2.2.1; have g0 := hS.2.2.2.1; have g1 := hS.2.2.2.2.1; have g2 := hS.2.2.2.2.2.1; have g3 := hS.2.2.2.2.2.2.1; have g4 := hS.2.2.2.2.2.2.2.1; have o0 := hS.2.2.2.2.2.2.2.2.1; have o1 := hS.2.2.2.2.2.2.2.2.2.1; have o2 := hS.2.2.2.2.2.2.2.2.2.2.1; clear hS; go_simp; rfl); (go_simp; refine hK _ ?_; clear hK K)
      refine wpFreeL_gen rfl (fun K hK => ?_); refine ⟨undef, fun L w' _ hL hdep hS => ?_, ?_⟩
      · have hb := hS.1; have hB := hS.2.1; have hr := hS.2.2.1; have g0 := hS.2.2.2.1; have g1 := hS.2.2.2.2.1; have g2 := hS.2.2.2.2.2.1; have g3 := hS.2.2.2.2.2.2.1; have g4 := hS.2.2.2.2.2.2.2.1; have o0 := hS.2.2.2.2.2.2.2.2.1; have o1 := hS.2.2.2.2.2.2.2.2.2.1; have o2 := hS.2.2.2.2.2.2.2.2.2.2.1; have s0 := hS.2.2.2.2.2.2.2.2.2.2.2.1; have s1 := hS.2.2.2.2.2.2.2.2.2.2.2.2.1; have s2 := hS.2.2.2.2.2.2.2.2.2.2.2.2.2; clear hS
        have o0' := o0; obtain ⟨⟨u0, e0⟩, f0⟩ := o0'
        go_simp
        refine ⟨rfl, ⟨(Below.setCell (p := ⟨w.heap.size + 1, 0, none⟩) hb (by dsimp only; omega) _), (bytes_other hB (p := ⟨w.heap.size + 1, 0, none⟩) (by dsimp only; omega) _), (Rnd.setCell (p := ⟨w.heap.size + 1, 0, none⟩) hr (.inl (by dsimp only; omega)) _), by go_simp, by go_simp, by go_simp, by go_simp, by go_simp, (o0.set _ _), (o1.set _ _), (o2.set _ _), fun _ => by go_simp, fun h => by have q := s1 h; go_simp, fun h => by have q := s2 h; go_simp⟩⟩
      go_simp; refine hK _ ?_; clear hK K
      refine wpFreeL_gen rfl (fun K hK => ?_); refine ⟨undef, fun L w' _ hL hdep hS => ?_, ?_⟩
      · have hb := hS.1; have hB := hS.2.1; have hr := hS.2.2.1; have g0 := hS.2.2.2.1; have g1 := hS.2.2.2.2.1; have g2 := hS.2.2.2.2.2.1; have g3 := hS.2.2.2.2.2.2.1; have g4 := hS.2.2.2.2.2.2.2.1; have o0 := hS.2.2.2.2.2.2.2.2.1; have o1 := hS.2.2.2.2.2.2.2.2.2.1; have o2 := hS.2.2.2.2.2.2.2.2.2.2.1; have s0 := hS.2.2.2.2.2.2.2.2.2.2.2.1; have s1 := hS.2.2.2.2.2.2.2.2.2.2.2.2.1; have s2 := hS.2.2.2.2.2.2.2.2.2.2.2.2.2; clear hS
        have o1' := o1; obtain ⟨⟨u1, e1⟩, f1⟩ := o1'
        go_simp
        refine ⟨rfl, ⟨(Below.setCell (p := ⟨w.heap.size + 2, 0, none⟩) hb (by dsimp only; omega) _), (bytes_other hB (p := ⟨w.heap.size + 2, 0, none⟩) (by dsimp only; omega) _), (Rnd.setCell (p := ⟨w.heap.size + 2, 0, none⟩) hr (.inl (by dsimp only; omega)) _), by go_simp, by go_simp, by go_simp, by go_simp, by go_simp, (o0.set _ _), (o1.set _ _), (o2.set _ _), fun h => by have q := s0 h; go_simp, fun _ => by go_simp, fun h => by have q := s2 h; go_simp⟩⟩
      go_simp; refine hK _ ?_; clear hK K
      refine wpFreeL_gen rfl (fun K hK => ?_); refine ⟨undef, fun L w' _ hL hdep hS => ?_, ?_⟩
      · have hb := hS.1; have hB := hS.2.1; have hr := hS.2.2.1; have g0 := hS.2.2.2.1; have g1 := hS.2.2.2.2.1; have g2 := hS.2.2.2.2.2.1; have g3 := hS.2.2.2.2.2.2.1; have g4 := hS.2.2.2.2.2.2.2.1; have o0 := hS.2.2.2.2.2.2.2.2.1; have o1 := hS.2.2.2.2.2.2.2.2.2.1; have o2 := hS.2.2.2.2.2.2.2.2.2.2.1; have s0 := hS.2.2.2.2.2.2.2.2.2.2.2.1; have s1 := hS.2.2.2.2.2.2.2.2.2.2.2.2.1; have s2 := hS.2.2.2.2.2.2.2.2.2.2.2.2.2; clear hS
        have o2' := o2; obtain ⟨⟨u2, e2⟩, f2⟩ := o2'
        go_simp
        refine ⟨rfl, ⟨(Below.setCell (p := ⟨w.heap.size + 3, 0, none⟩) hb (by dsimp only; omega) _), (bytes_other hB (p := ⟨w.heap.size + 3, 0, none⟩) (by dsimp only; omega) _), (Rnd.setCell (p := ⟨w.heap.size + 3, 0, none⟩) hr (.inl (by dsimp only; omega)) _), by go_simp, by go_simp, by go_simp, by go_simp, by go_simp, (o0.set _ _), (o1.set _ _), (o2.set _ _), fun h => by have q := s0 h; go_simp, fun h => by have q := s1 h; go_simp, fun _ => by go_simp⟩⟩
      go_simp; refine hK _ ?_; clear hK K
      refine wpFreeL_nil (fun L w' hL hS => ?_)
      have hb := hS.1; have hB := hS.2.1; have hr := hS.2.2.1; have g0 := hS.2.2.2.1; have g1 := hS.2.2.2.2.1; have g2 := hS.2.2.2.2.2.1; have g3 := hS.2.2.2.2.2.2.1; have g4 := hS.2.2.2.2.2.2.2.1; have o0 := hS.2.2.2.2.2.2.2.2.1; have o1 := hS.2.2.2.2.2.2.2.2.2.1; have o2 := hS.2.2.2.2.2.2.2.2.2.2.1; have s0 := hS.2.2.2.2.2.2.2.2.2.2.2.1 (hL 5 (by decide)); have s1 := hS.2.2.2.2.2.2.2.2.2.2.2.2.1 (hL 6 (by decide)); have s2 := hS.2.2.2.2.2.2.2.2.2.2.2.2.2 (hL 7 (by decide))
      clear hL hS
      have HK2 := (hr.same D hD hDlt).trans HK.out
      clear hr
      gi_wp2_with fail
      refine ⟨by simp, .inl ⟨_, _, rfl, run_takeDeferred HK2, .tuple #[.string ⟨l3.toArray⟩, .int .i64 (8 + num l1 0 + 8), .int .i64 0], ?_, by rw [HRS.out]; rfl, below_put hb (by omega) _⟩⟩
      have p1 := cell_put (o' := .deferred none) HK2 rfl s0
      have p2 := cell_put (o' := .deferred none) HK2 rfl s1
      have p3 := cell_put (o' := .deferred none) HK2 rfl s2
      simp [results, Try.results20, go_sem, p1, p2, p3]
end Go.Proofs.Ytcfmimfkaabmkaa
