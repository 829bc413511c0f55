/- R.Compact. -/
import Derived.Test.YtcfmimfkaabmkaaO4
set_option linter.unusedVariables false
set_option linter.unusedSimpArgs false
namespace Go.Proofs.Ytcfmimfkaabmkaa
open Go.RowKit
attribute [local go_sem] Oper.semAt_some
attribute [local irreducible] num
def MovesPost (x : List UInt8 × List Mv × Int) (w : World) (e : Ending) (w' : World) : Prop := ∃ v, e = .returned (.tuple #[.string ⟨x.1.toArray⟩, v, .int .i64 x.2.2]) ∧ OM w' w.heap.size v x.2.1 ∧ Below w.heap.size w w'
def rcCfg (N m : Nat) (o : Option Addr) (cap : Nat) (b off k : Nat) (p n1 ek : Int) (w1 : World) (v3 : Value) (qs : List (Int × Int)) (v9 : Value) (ms : List Mv) (hN : N = w1.heap.size) : RowCfg where
  n0 := N
  ty := 78
  sz := 3
  fx := fun i => match i with
    | 0 => some v9
    | 1 => some (.slice (some ⟨b, off, none⟩) m cap)
    | 2 => some (.int .i64 k)
    | 3 => some (.pointer (some ⟨b, off + k * 2, none⟩))
    | 4 => some (.pointer (some ⟨b, off + k * 2, none⟩))
    | 5 => some (.int .i64 p)
    | 6 => some (.int .i64 (ek + 8))
    | 7 => some (.slice (some ⟨b, off, none⟩) m cap)
    | 8 => some (.int .i64 k)
    | 9 => some (.pointer (some ⟨b, off + k * 2, none⟩))
    | 10 => some (.pointer (some ⟨b, off + k * 2 + 1, none⟩))
    | 11 => some (.int .i64 n1)
    | 12 => some (.agg #[.int .i64 p, .int .i64 (ek + 8), .int .i64 n1])
    | _ => none
  is := 13
  ia := 14
  iz := 15
  v := v9
  n := ms.length
  xs := encM ms
  es := [.int .i64 p, .int .i64 (ek + 8), .int .i64 n1]
  R := fun W => Below N w1 W ∧ OP W N v3 qs
  hle := fun W h => by have := h.1.size; omega
  rB := fun W W' h hb => ⟨h.1.trans (hb.mono (by have := h.1.size; omega)), h.2.below hb⟩
  rG := fun W W' h ho hg => ⟨h.1.grown hg (by have := h.1.size; omega) (fun k hk => (World.ownsRow.lt ho k hk).1), h.2.keptM ho hg⟩
  his := rfl
  hia := rfl
  hiz := rfl
  h1 := by decide
  h2 := by decide
  h3 := by decide
def RComI (lay : Lay) (N : Nat) (W0 : World) (k : Nat) (v8 v9 : Value) (wr : World) : Prop := OP wr N v8 (psOf (itsOf (compL 8 (lay.take k)))) ∧ OM wr N v9 (movesL 8 (lay.take k)) ∧ Below N W0 wr
theorem ok_take {lay : Lay} (h : ok true 8 lay) (k : Nat) : ok true 8 (lay.take k) := ((ok_append (lay.take k) (lay.drop k) true 8).1 (by rw [List.take_append_drop]; exact h)).1
set_option maxHeartbeats 4000000 in
set_option maxRecDepth 100000 in
theorem rcompact_main (l : List UInt8) (lay : Lay) (w : World) (hA : Area l lay) : Calls Try.prog 33 #[.string ⟨l.toArray⟩] w (MovesPost (render l.length (compL 8 lay), movesL 8 lay, 0) w) := by
  have hl1 := hA.1
  have hl2 := hA.2.1
  have hend := hA.2.2.2.1
  have HBC := hid (build_comp hA)
  have HCA := hid (comp_area hA).2
  have HP := hid (fun w => rparts_lay l lay w hA)
  have HSm := hid (tries_small hA)
  have hlen : lay.length ≤ 8192 := (area_num4 hA).2
  have HLA := hid (fun k p s h => lay_at hA.2.2.1 (k := k) (p := p) (s := s) h)
  have HCE := hid (fun k => compL_end (lay.take k) true 8 8 (ok_take hA.2.2.1 k) (Nat.le_refl 8))
  have HOK := hid hA.2.2.1
  have hpl : (psOf (itsOf lay)).length = lay.length := by simp [psOf, itsOf]
  obtain ⟨ps, hps⟩ : ∃ ps, psOf (itsOf lay) = ps := ⟨_, rfl⟩
  have hpk : ∀ (k p : Nat) (s : List UInt8), lay[k]? = some (p, s) → ps[k]? = some ((p : Int), (s.length : Int)) := fun k p s h => by rw [← hps]; unfold psOf itsOf; simp [h]
  have HPK := hid hpk
  have HCL := hid (fun k => compL_len (lay.take k) 8)
  have HML := hid (fun k => movesL_len (lay.take k) 8)
  unfold PartsOk at HP
  rw [hps] at HP HSm hpl
  clear hA hps hpk
  obtain ⟨m, hm⟩ : ∃ m, lay.length = m := ⟨_, rfl⟩
  rw [hm] at hlen hpl
  have HM := hid hm; have HPL := hid hpl; clear hm hpl
  go_enter Try.func33, Try.ntmps33
  go_wp2_with fail
  refine (HP.out _).mono ?_
  rintro e w1 ⟨v1, v2, rfl, hop, hos, hb1⟩
  obtain ⟨o, cap, rfl, hc⟩ := hop.rp
  rw [HPL.out]
  have HC := hid hc
  have HOS := hid hos
  have HB1 := hid hb1; have hz1 := hb1.size
  clear hb1 hop hos hc
  go_wp2_with fail
  have hI0 : Hid (RComI lay w1.heap.size w1 0 (.slice (some ⟨w1.heap.size, 0, none⟩) 0 0) (.slice (some ⟨w1.heap.size + 1, 0, none⟩) 0 0) ((w1.alloc (.cells #[] 37)).alloc (.cells #[] 78))) := by
    refine ⟨(op_new w1 w1.heap.size (Nat.le_refl _)).below ((Below.refl _ _).alloc (Nat.le_refl _) _), ?_, ((Below.refl _ _).alloc (Nat.le_refl _) _).alloc (by simp) _⟩
    have h := om_new (w1.alloc (.cells #[] 37)) w1.heap.size (by simp)
    simp only [World.size_alloc] at h
    rw [List.take_zero, movesL]
    exact h
  go_loopw [8, 9, 10, 11] (fun v8 v9 a q wr => ∃ (k : Nat), q = .int .i64 k ∧ a = .int .i64 (endOf 8 (compL 8 (lay.take k)) : Nat) ∧ k ≤ m ∧ Hid (RComI lay w1.heap.size w1 k v8 v9 wr)) (fun _ _ _ q _ => m - (intOf q).toNat)
  case atStart => exact ⟨0, rfl, rfl, Nat.zero_le _, by first | exact hI0 | simpa using hI0⟩
  case round =>
    clear hI0
    obtain ⟨k, rfl, rfl, hk, HI⟩ := hrel
    obtain ⟨hop, hom, hbw⟩ := HI.out
    have HOP := hid hop
    have HOM := hid hom
    have HBW := hid hbw
    have hbw0 := hbw.size
    clear hop hom hbw HI
    by_cases hlt : k < m
    · obtain ⟨⟨p, s⟩, hy⟩ : ∃ y, lay[k]? = some y := ⟨_, List.getElem?_eq_getElem (by have := HM.out; omega)⟩
      have hyp := HPK.out k p s hy
      have hc := HC.out
      rcases hc with hc | ⟨b, off, rfl, hbl, hc⟩
      · rw [hc] at hyp; simp at hyp
      have d0 := (hc k _ hyp).1
      have d1 := (hc k _ hyp).2
      simp only at d0 d1
      obtain ⟨k1, k2, k3, k4, k5, k6⟩ := HLA.out k p s hy
      have HCS := hid (compL_snoc (lay.take k) 8 p s)
      have HMS := hid (movesL_snoc (lay.take k) 8 p s)
      have HES := hid (endOf_snoc (compL 8 (lay.take k)) 8 (endOf 8 (compL 8 (lay.take k)) + 8) s)
      rw [← HCS.out] at HES
      rw [← take_snoc hy] at HCS HMS HES
      have hcek := HCE.out k
      have hege := endOf_ge (compL_ok (lay.take k) true true 8 8 (ok_take HOK.out k) rfl)
      obtain ⟨ek, hek⟩ : ∃ ek, endOf 8 (compL 8 (lay.take k)) = ek := ⟨_, rfl⟩
      rw [hek] at HMS HES HCS hcek hege ⊢
      have hekb : ek + 8 ≤ p := by omega
      obtain ⟨e0, he0⟩ : ∃ e0, endOf 8 (lay.take k) = e0 := ⟨_, rfl⟩
      rw [he0] at hcek k1 k3 k5
      clear hek hc hyp hy he0
      have hub := upN_bd s.length
      have huz : upZ (s.length : Int) = (upN s.length : Int) := upZ_nat _
      have hPS : Hid (psOf (itsOf (compL 8 (lay.take (k + 1)))) = psOf (itsOf (compL 8 (lay.take k))) ++ [((ek : Int) + 8, (s.length : Int))]) := by
        unfold Hid; rw [HCS.out]; unfold psOf itsOf; rw [List.map_append, List.map_append]; rfl
      have HMS2 : Hid (movesL 8 (lay.take (k + 1)) = movesL 8 (lay.take k) ++ [((p : Int), (ek : Int) + 8, (s.length : Int))]) := by unfold Hid; rw [HMS.out]; rfl
      have hqsl : (psOf (itsOf (compL 8 (lay.take k)))).length ≤ 1000000 := by
        have h := HCL.out k
        rw [List.length_take] at h
        simp only [psOf, itsOf, List.length_map]; omega
      have hmsl : (movesL 8 (lay.take k)).length ≤ 1000000 := by
        have h := HML.out k
        rw [List.length_take] at h
        omega
      obtain ⟨qs, hqs⟩ : ∃ qs, psOf (itsOf (compL 8 (lay.take k))) = qs := ⟨_, rfl⟩
      obtain ⟨ms, hms⟩ : ∃ ms, movesL 8 (lay.take k) = ms := ⟨_, rfl⟩
      rw [hqs] at hPS HOP hqsl
      rw [hms] at HMS2 HOM hmsl
      clear hqs hms HCS HMS
      obtain ⟨n1, hn1⟩ : ∃ n1, s.length = n1 := ⟨_, rfl⟩
      rw [hn1] at d1 k4 k6 hub huz HES hPS HMS2
      obtain ⟨un, hun⟩ : ∃ un, upN n1 = un := ⟨_, rfl⟩
      rw [hun] at k4 hub huz HES
      clear hun hn1
      have D0 := hid d0; have D1 := hid d1
      have d0 := keepB HBW.out (by dsimp only; omega) d0
      have d1 := keepB HBW.out (by dsimp only; omega) d1
      have hw0 : IntKind.i64.wrap ((ek : Int) + 8) = (ek : Int) + 8 := by rw [IntWalk.i64_in _ ⟨by omega, by omega⟩]
      have hw1 : IntKind.i64.wrap ((ek : Int) + 8 + upZ (n1 : Int)) = ((ek + 8 + un : Nat) : Int) := by rw [huz, IntWalk.i64_in _ ⟨by omega, by omega⟩]; omega
      have HH := hid hw1
      have HH0 := hid hw0
      clear hw1
      go_upto_region 12 with (at_builtin; refine app_piece rfl _ _ rfl (w1.heap.size) _ qs ((ek : Int) + 8, (n1 : Int)) _ _ rfl rfl (HOP.out.below ((Below.refl _ _).alloc (Nat.le_refl _) _)) (cell_new _ _ _ 0 _ rfl) (cell_new _ _ _ 1 _ rfl) (by omega) (by simp; omega) ?_)
      intro v3 w3 hop3 hg3
      have hb3 := (HOP.out.below ((Below.refl _ _).alloc (Nat.le_refl _) _)).grown (HBW.out.alloc (by omega) _) hg3 (by simp; omega)
      have hom3 := (HOM.out.below ((Below.refl wr.heap.size _).alloc (Nat.le_refl _) _)).keptP (HOP.out.below ((Below.refl wr.heap.size _).alloc (Nat.le_refl _) _)) hg3
      have HOP3 := hid hop3; have HB3 := hid hb3; have hz3 := hb3.size; have HOM3 := hid hom3; clear hop3 hb3 hg3 hom3
      go_upto_region 12 with fail
      have hNN : w1.heap.size = w1.heap.size := rfl
      refine wp_region_freeX (by kernel_rfl) (by kernel_rfl) (rcCfg w1.heap.size m (some ⟨b, off, none⟩) cap b off k p n1 ek w1 v3 (qs ++ [((ek : Int) + 8, (n1 : Int))]) u9 ms hNN).S ?_ ?_
      · intro vals
        exact RowCfg.start ⟨HB3.out.drew, HOP3.out.below (Below.refl _ _).drew⟩ (HOM3.out.below (Below.refl _ _).drew)
      intro vals
      refine wpX_op rfl ?_ (fun K hK => ?_)
      · intro L w' hC hL hdep hS
        have HS := hid hS; clear hS
        go_simp
        exact HS.out.val rfl
      go_simp; refine hK _ ?_; clear hK K
      refine wpX_op rfl ?_ (fun K hK => ?_)
      · intro L w' hC hL hdep hS
        have HS := hid hS; clear hS
        go_simp
        exact HS.out.val rfl
      go_simp; refine hK _ ?_; clear hK K
      refine wpX_op rfl ?_ (fun K hK => ?_)
      · intro L w' hC hL hdep hS
        have HS := hid hS; clear hS
        go_simp
        exact HS.out.val rfl
      go_simp; refine hK _ ?_; clear hK K
      refine wpX_op rfl ?_ (fun K hK => ?_)
      · intro L w' hC hL hdep hS
        have e1 := hS.fix (i := 1) rfl (hdep ⟨1, .data⟩ (by simp) rfl)
        have e2 := hS.fix (i := 2) rfl (hdep ⟨2, .data⟩ (by simp) rfl)
        have HS := hid hS; clear hS
        go_simp
        exact HS.out.val rfl
      go_simp; refine hK _ ?_; clear hK K
      refine wpX_op rfl ?_ (fun K hK => ?_)
      · intro L w' hC hL hdep hS
        have e3 := hS.fix (i := 3) rfl (hdep ⟨3, .data⟩ (by simp) rfl)
        have HS := hid hS; clear hS
        go_simp
        exact HS.out.val rfl
      go_simp; refine hK _ ?_; clear hK K
      refine wpX_op rfl ?_ (fun K hK => ?_)
      · intro L w' hC hL hdep hS
        have e4 := hS.fix (i := 4) rfl (hdep ⟨4, .data⟩ (by simp) rfl)
        have d0 := keepB hS.1.1 (by dsimp only; omega) D0.out
        have HS := hid hS; clear hS
        go_simp
        exact HS.out.val rfl
      go_simp; refine hK _ ?_; clear hK K
      refine wpX_op rfl ?_ (fun K hK => ?_)
      · intro L w' hC hL hdep hS
        have HS := hid hS; clear hS
        go_simp
        exact HS.out.val rfl
      go_simp; refine hK _ ?_; clear hK K
      refine wpX_op rfl ?_ (fun K hK => ?_)
      · intro L w' hC hL hdep hS
        have HS := hid hS; clear hS
        go_simp
        exact HS.out.val rfl
      go_simp; refine hK _ ?_; clear hK K
      refine wpX_op rfl ?_ (fun K hK => ?_)
      · intro L w' hC hL hdep hS
        have HS := hid hS; clear hS
        go_simp
        exact HS.out.val rfl
      go_simp; refine hK _ ?_; clear hK K
      refine wpX_op rfl ?_ (fun K hK => ?_)
      · intro L w' hC hL hdep hS
        have e7 := hS.fix (i := 7) rfl (hdep ⟨7, .data⟩ (by simp) rfl)
        have e8 := hS.fix (i := 8) rfl (hdep ⟨8, .data⟩ (by simp) rfl)
        have HS := hid hS; clear hS
        go_simp
        exact HS.out.val rfl
      go_simp; refine hK _ ?_; clear hK K
      refine wpX_op rfl ?_ (fun K hK => ?_)
      · intro L w' hC hL hdep hS
        have e9 := hS.fix (i := 9) rfl (hdep ⟨9, .data⟩ (by simp) rfl)
        have HS := hid hS; clear hS
        go_simp
        exact HS.out.val rfl
      go_simp; refine hK _ ?_; clear hK K
      refine wpX_op rfl ?_ (fun K hK => ?_)
      · intro L w' hC hL hdep hS
        have e10 := hS.fix (i := 10) rfl (hdep ⟨10, .data⟩ (by simp) rfl)
        have d1 := keepB hS.1.1 (by dsimp only; omega) D1.out
        have HS := hid hS; clear hS
        go_simp
        exact HS.out.val rfl
      go_simp; refine hK _ ?_; clear hK K
      refine wpX_op rfl ?_ (fun K hK => ?_)
      · intro L w' hC hL hdep hS
        have e5 := hS.fix (i := 5) rfl (hdep ⟨5, .data⟩ (by simp) rfl)
        have e6 := hS.fix (i := 6) rfl (hdep ⟨6, .data⟩ (by simp) rfl)
        have e11 := hS.fix (i := 11) rfl (hdep ⟨11, .data⟩ (by simp) rfl)
        have HS := hid hS; clear hS
        go_simp
        exact HS.out.val rfl
      go_simp; refine hK _ ?_; clear hK K
      refine wpX_op rfl ?_ (fun K hK => ?_)
      · intro L w' hC hL hdep hS
        have e12 := hS.fix (i := 12) rfl (hdep ⟨12, .data⟩ (by simp) rfl)
        have HS := hid hS; clear hS
        go_simp
        exact HS.out.slice rfl (fun j u h => by simpa [rcCfg] using h)
      go_simp; refine hK _ ?_; clear hK K
      refine wpX_op rfl ?_ (fun K hK => ?_)
      · intro L w' hC hL hdep hS
        have h15 : L 15 = false := by
          cases h15 : L 15 with
          | false => rfl
          | true => have := hC 15 _ rfl h15 ⟨14, .data⟩ (by simp) rfl; rw [hL] at this; cases this
        obtain ⟨g, e1, e2⟩ := hS.2.2.1 (hdep ⟨13, .data⟩ (by simp) rfl) hL
        have e0_ := hS.fix (i := 0) rfl (hdep ⟨0, .data⟩ (by simp) rfl)
        exact uponX_row (.tmp 43) (.tmp 56) 42 78 (.agg #[.int .i64 0, .int .i64 0, .int .i64 0]) 3 24 under42 info78 rfl (by decide) rfl w1.heap.size u9 _ (encM ms) _ g 1 e0_ e1 (hS.2.2.2.1 hL) rfl e2 (by intro u hu; simp [rcCfg] at hu; rcases hu with rfl | rfl | rfl <;> rfl) hmsl (by omega) ((rcCfg w1.heap.size m (some ⟨b, off, none⟩) cap b off k p n1 ek w1 v3 (qs ++ [((ek : Int) + 8, (n1 : Int))]) u9 ms hNN).hle _ hS.1) (fun v1 w2 hr hg => hS.app hL h15 hr hg)
      go_simp; refine hK _ ?_; clear hK K
      refine wpX_op rfl ?_ (fun K hK => ?_)
      · intro L w' hC hL hdep hS
        have ha := hdep ⟨14, .data⟩ (by simp) rfl
        obtain ⟨o, cap, e4⟩ := row_slice (hS.2.2.2.2.1 ha)
        have HF := hS.lay
        simp only [rcCfg] at HF e4
        rw [e4] at HF
        have HF := hid HF; clear hS
        go_simp
        exact HF.out
      go_simp; refine hK _ ?_; clear hK K
      refine wpX_nil (fun L w' hL hS => ?_)
      obtain ⟨r1, -, -, -, r6, r7⟩ := hS
      have r6 := r6 (hL 14 (by decide))
      have r7 := r7 (hL 15 (by decide))
      simp only [rcCfg] at r1 r6 r7
      obtain ⟨s1, s2⟩ := r1
      obtain ⟨o4, cap4, hv4⟩ := row_slice r6
      have HR6 : Hid (OM w' w1.heap.size (.slice o4 (ms.length + 1) cap4) (ms ++ [((p : Int), (ek : Int) + 8, (n1 : Int))])) := by
        unfold Hid OM; rw [← hv4, encM_append, List.length_append]; exact r6
      rw [r7, hv4]
      have S1 := hid s1; have S2 := hid s2
      have d1 := keepB s1 (by dsimp only; omega) D1.out
      clear s1 s2 r6 r7 hv4
      go_wp2_with fail
      have hw1 := HH.out
      clear hw1
      refine (rup_any (n1 : Int) _ (by omega) (by omega)).mono ?_
      rintro e w5 ⟨rfl, hw5⟩
      subst hw5
      have hw1 := HH.out
      have hE : Hid (RComI lay w1.heap.size w1 (k + 1) v3 (.slice o4 (ms.length + 1) cap4) w') := by unfold Hid RComI; rw [hPS.out, HMS2.out]; exact ⟨S2.out, HR6.out, S1.out⟩
      go_wp2_with fail
      go_roundw
      case rel => exact ⟨k + 1, by go_num, by rw [HES.out]; exact congrArg (Value.int IntKind.i64) (by omega), by omega, hE⟩
      case measure => simp [intOf]; omega
    · have hkm : k = m := by omega
      have hT : lay.take k = lay := List.take_of_length_le (by have := HM.out; omega)
      rw [hT] at HOP HOM
      have HWF : Hid (Below w.heap.size w wr) := HB1.out.trans (HBW.out.mono hz1)
      obtain ⟨o9, cap9, rfl, -⟩ := HOM.out.rm
      have hcl : (psOf (itsOf (compL 8 lay))).length ≤ 10000000 := by have h := HCL.out k; rw [hT] at h; simp only [psOf, itsOf, List.length_map]; have := HM.out; omega
      have hbl2 : (bsOf (itsOf lay)).length ≤ 10000000 := by simp only [bsOf, itsOf, List.length_map]; have := HM.out; omega
      have HSX : ∀ t ∈ bsOf (itsOf lay), t.length ≤ 10000000 := fun t ht => by
        obtain ⟨x, hx, rfl⟩ := List.mem_map.1 ht
        obtain ⟨y, hy, rfl⟩ := List.mem_map.1 hx
        have h1 := ends_le lay _ _ HOK.out y hy
        have h2 := upN_bd y.2.length
        show y.2.length ≤ 10000000
        omega
      clear hT hkm
      go_wp2_with fail
      refine (build_any (l.length : Int) u8 v2 (psOf (itsOf (compL 8 lay))) (bsOf (itsOf lay)) wr HOP.out.rp ((HOS.out.below (HBW.out)).rs) hcl hbl2 HSX).mono ?_
      rw [HBC.out]
      rintro e w5 ⟨rfl, hb5⟩
      have HB5 := hid hb5; clear hb5
      go_wp2_with fail
      refine bodyPost_ret (v := .tuple #[.string ⟨(render l.length (compL 8 lay)).toArray⟩, .slice o9 (movesL 8 lay).length cap9, .int .i64 0]) (by simp [results, Try.results33, go_sem, strV]) rfl ?_
      exact ⟨_, rfl, (HOM.out.below HB5.out).mono hz1, below_step HB5.out HWF.out⟩
theorem rcompact_any (l : List UInt8) (w : World) (hl : l.length ≤ maxLen) : Calls Try.prog 33 #[.string ⟨l.toArray⟩] w (MovesPost (compactS l) w) := by
  cases h : openS l with
  | true =>
    have HX : compactS l = (render l.length (compL 8 (layD l)), movesL 8 (layD l), 0) := by unfold compactS; rw [h]; exact if_pos rfl
    rw [HX]; exact rcompact_main l _ w (area_D h)
  | false =>
    have HX : Hid (compactS l = ([], [], 120)) := by unfold Hid compactS; rw [h]; exact if_neg (by simp)
    have HP := hid (fun w => rparts_bad l w hl h)
    clear h
    go_enter Try.func33, Try.ntmps33
    go_wp2_with fail
    refine (HP.out _).mono ?_
    rintro e w1 ⟨rfl, hb1⟩
    have HB1 := hid hb1; clear hb1
    go_wp2_with fail
    refine bodyPost_ret (v := .tuple #[.string ⟨#[]⟩, .slice none 0 0, .int .i64 120]) (by simp [results, Try.results33, go_sem, strV]) rfl ?_
    rw [HX.out]
    exact ⟨_, rfl, World.ownsRow_nil _ _ _ _, HB1.out⟩
end Go.Proofs.Ytcfmimfkaabmkaa
