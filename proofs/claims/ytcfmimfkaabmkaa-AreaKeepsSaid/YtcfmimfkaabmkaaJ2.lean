/- The walk of the law AreaUndone. -/
import Derived.Test.YtcfmimfkaabmkaaJ1
import Derived.Deep.DeepCutAuto
set_option linter.unusedVariables false
set_option linter.unusedSimpArgs false
namespace Go.Proofs.Ytcfmimfkaabmkaa
open Go.RowKit
attribute [local go_sem] Oper.semAt_some
attribute [local irreducible] num
/-- The slice v reads as len bytes. -/
def RB (w : World) (v : Value) (len : Nat) : Prop :=
  ∃ o cap, v = .slice o len cap ∧ (len = 0 ∨ ∃ b off, o = some ⟨b, off, none⟩ ∧ b < w.heap.size ∧ ∀ i, i < len → ∃ x : Int, 0 ≤ x ∧ x ≤ 255 ∧ w.cell? ⟨b, off + i, none⟩ = some (.int .u8 x))
theorem OP.cells {w : World} {B : Nat} {v : Value} {ps : List (Int × Int)} (h : OP w B v ps) (hne : 0 < ps.length) :
    ∃ g cap, v = .slice (some ⟨g, 0, none⟩) ps.length cap ∧ B ≤ g ∧ g < w.heap.size ∧ ps.length ≤ cap ∧ ∀ i p, ps[i]? = some p → w.cell? ⟨g, i * 2, none⟩ = some (.int .i64 p.1) ∧ w.cell? ⟨g, i * 2 + 1, none⟩ = some (.int .i64 p.2) := by
  obtain ⟨hl, ⟨rfl, hn⟩ | ⟨g, cap, cur, rfl, hb, hg, hnc, hcm, hcs, ht⟩⟩ := h
  · omega
  · refine ⟨g, cap, rfl, hb, (Array.getElem?_eq_some_iff.1 hg).1, hnc, fun i p hi => ?_⟩
    obtain ⟨e1, e2⟩ := encP_at ps i p hi
    have hlt : i < ps.length := (List.getElem?_eq_some_iff.1 hi).1
    have hcell : ∀ j, j < ps.length * 2 → w.cell? ⟨g, j, none⟩ = (encP ps)[j]? := fun j hj => by
      rw [← ht, List.getElem?_take_of_lt hj]
      simp [World.cell?, hg]
    exact ⟨by rw [hcell _ (by omega), e1], by rw [hcell _ (by omega), e2]⟩
def lenV : Value → Nat | .slice _ n _ => n | _ => 0
theorem sizeOf37 (w : World) : (sizeOf 37).run Try.prog w = .ok 2 w := by kernel_rfl
theorem elem33 : Try.prog.elem 33 = 37 := by kernel_rfl
theorem slice33 : Try.prog.underlying 33 = some (.slice (Try.prog.elem 33)) := by kernel_rfl
def cutA (g l cap : Nat) : Addr := if cap = l then ⟨g, 0, none⟩ else ⟨g, l * 2, none⟩
@[go_sem high] theorem run_cutl33 (g len cap : Nat) (w : World) (kl : IntKind) (l : Int) (h0 : 0 ≤ l) (h1 : l ≤ len) :
    (Instr.slice 33 (.slice (some ⟨g, 0, none⟩) len cap) (some (.int kl l)) none none).run Try.prog w = .ok (.slice (some (cutA g l.toNat cap)) (len - l.toNat) (cap - l.toNat)) w := by
  rw [run_slice_l (t := 33) (ht := slice33) (kl := kl) (l := l) (h0 := h0) (h1 := h1), elem33, sizeOf37]
  simp only [Result.andThen, sliced, cutA]
  split <;> simp [addr_add]
@[go_sem high] theorem run_cuth33 (g len cap : Nat) (w : World) (kh : IntKind) (h : Int) (h0 : 0 ≤ h) (h1 : h ≤ cap) :
    (Instr.slice 33 (.slice (some ⟨g, 0, none⟩) len cap) none (some (.int kh h)) none).run Try.prog w = .ok (.slice (some ⟨g, 0, none⟩) h.toNat cap) w := by
  rw [run_slice_h (t := 33) (ht := slice33) (kh := kh) (h := h) (h0 := h0) (h2 := h1), elem33, sizeOf37]
  simp only [Result.andThen, sliced, Nat.zero_mul, Nat.sub_zero]
  split <;> simp [addr_add]
theorem ps_erase (lay : Lay) (i : Nat) : psOf (itsOf (lay.eraseIdx i)) = (psOf (itsOf lay)).eraseIdx i := by
  simp only [List.eraseIdx_eq_take_drop_succ, psOf, itsOf, List.map_append, List.map_take, List.map_drop]
/-- What Free does at an allocation of an area. -/
theorem free_step {l : List UInt8} {lay : Lay} (h : Area l lay) {x : Nat × List UInt8} (hx : x ∈ lay) :
    ∃ d, Area d (rm x.1 lay) ∧ d.length = l.length ∧ d = render l.length (rm x.1 lay) ∧ ∀ w, Calls Try.prog 22 #[.string ⟨l.toArray⟩, .int .i64 (x.1 : Int)] w (fun e w' => e = .returned (.tuple #[.string ⟨d.toArray⟩, .int .i64 0]) ∧ Below w.heap.size w w') := by
  obtain ⟨h1, h2, h3⟩ := freeA_rm h hx
  refine ⟨_, h2, h3, rfl, fun w => ?_⟩
  have := free_any l x.1 lay w h
  rw [h1] at this
  exact this
theorem free_two {l d : List UInt8} {lay : Lay} (h : Area l lay) {x y : Nat × List UInt8} (hx : x ∈ lay) (hy : y ∈ lay) (hne : x.1 ≠ y.1) (hd : Area d (rm x.1 lay)) (hdl : d.length = l.length) :
    ∃ (z e : List UInt8), (∀ w, Calls Try.prog 22 #[.string ⟨d.toArray⟩, .int .i64 (y.1 : Int)] w (fun e w' => e = .returned (.tuple #[.string ⟨z.toArray⟩, .int .i64 0]) ∧ Below w.heap.size w w')) ∧
      (∀ w, Calls Try.prog 22 #[.string ⟨l.toArray⟩, .int .i64 (y.1 : Int)] w (fun e' w' => e' = .returned (.tuple #[.string ⟨e.toArray⟩, .int .i64 0]) ∧ Below w.heap.size w w')) ∧
      (∀ w, Calls Try.prog 22 #[.string ⟨e.toArray⟩, .int .i64 (x.1 : Int)] w (fun e' w' => e' = .returned (.tuple #[.string ⟨z.toArray⟩, .int .i64 0]) ∧ Below w.heap.size w w')) := by
  obtain ⟨z, -, -, hz, cz⟩ := free_step hd (x := y) (List.mem_filter.2 ⟨hy, by simp; omega⟩)
  obtain ⟨e, he, hel, -, ce⟩ := free_step h hy
  obtain ⟨z2, -, -, hz2, cz2⟩ := free_step he (x := x) (List.mem_filter.2 ⟨hx, by simp; omega⟩)
  have : z2 = z := by rw [hz, hz2, hdl, hel, rm_comm]
  subst this
  exact ⟨z2, e, cz, ce, cz2⟩
def UndI (l : List UInt8) (B : Nat) (Lc : Lay) (cl : List UInt8) (v : Value) (wr : World) : Prop := Area cl Lc ∧ cl.length = l.length ∧ OP wr B v (psOf (itsOf Lc))
set_option maxHeartbeats 4000000 in
set_option maxRecDepth 100000 in
theorem undone_no (l : List UInt8) (n : Int) (v : Value) (w : World) (hl : l.length ≤ maxLen) (h : openS l = false) : Calls Try.prog 4 #[.string ⟨l.toArray⟩, .int .i64 n, v] w (SanePost w) := by
  have HC := hid (fun w => rcheck_any l w hl)
  have HD := hid (fun w => check_l l w hl)
  have HK : Hid (chkS l = 120) := by unfold Hid chkS; rw [h]; exact if_neg (by simp)
  clear h
  go_enter Try.func4, Try.ntmps4
  go_wp2_with fail
  refine (sane_any _).mono ?_
  rintro e w1 ⟨rfl, hb1⟩
  have HB1 := hid hb1; clear hb1
  go_wp2_with fail
  refine (HC.out _).mono ?_
  rintro e w2 ⟨rfl, hb2⟩
  have HB2 := hid hb2; clear hb2
  rw [HK.out]
  go_wp2_with fail
  refine (HD.out _).mono ?_
  rintro e w3 ⟨rfl, hb3⟩
  have HB3 := hid hb3; clear hb3
  rw [HK.out]
  go_wp2_with fail
  go_ret
  exact ⟨rfl, below_step HB3.out (below_step HB2.out HB1.out)⟩
set_option maxHeartbeats 8000000 in
set_option maxRecDepth 100000 in
theorem undone_yes (l : List UInt8) (n : Int) (v : Value) (len : Nat) (w : World) (hl : l.length ≤ maxLen) (h : openS l = true) (hv : RB w v len) (hlen : len ≤ maxLen) : Calls Try.prog 4 #[.string ⟨l.toArray⟩, .int .i64 n, v] w (SanePost w) := by
  obtain ⟨o, cap, rfl, hord⟩ := hv
  have HORD := hid hord; clear hord
  have HC := hid (fun w => rcheck_any l w hl)
  have HK : Hid (chkS l = 0) := by unfold Hid chkS; rw [h]; exact if_pos rfl
  have HBL := hid (fun w => blocks_any l w hl)
  have HBK : Hid (blocksS l = (psOf (itsOf (layD l)), 0)) := by unfold Hid blocksS; rw [h]; exact if_pos rfl
  have hA := area_D h
  have HA := hid hA
  have hl1 := hA.1
  have hl2 := hA.2.1
  have hlay : (layD l).length ≤ 8192 := (area_num4 hA).2
  obtain ⟨lay, hlayd⟩ : ∃ lay, layD l = lay := ⟨_, rfl⟩
  rw [hlayd] at HA HBK hlay
  have hal := fun w => alloc_any l n lay w HA.out
  have haf := alloc_free HA.out n
  obtain ⟨⟨b1, b2, b3⟩, hb⟩ : ∃ r, allocA l.length lay n = r := ⟨_, rfl⟩
  rw [hb] at hal haf
  have HAL : Hid (∀ w, Calls Try.prog 20 #[.string ⟨l.toArray⟩, .int .i64 n] w (fun e w' => e = .returned (.tuple #[.string ⟨b1.toArray⟩, .int .i64 b2, .int .i64 b3]) ∧ Below w.heap.size w w')) := hal
  have HAF := hid haf
  have hnw : ∀ w, Calls Try.prog 27 #[.int .i64 (l.length : Int)] w (fun e w' => e = .returned (.tuple #[.string ⟨(zs l.length).toArray⟩, .int .i64 0]) ∧ Below w.heap.size w w') := fun w => by
    have h1 := new_any l.length w
    have h2 : newS (l.length : Int) = (zs l.length, 0) := by unfold newS; rw [if_neg (by omega), Int.toNat_natCast]
    unfold NewPost at h1
    rw [h2] at h1
    exact h1
  have HNW := hid hnw; clear hnw
  clear hA h hlayd hal haf hb
  go_enter Try.func4, Try.ntmps4
  go_wp2_with fail
  refine (sane_any _).mono ?_
  rintro e w1 ⟨rfl, hb1⟩
  have HB1 := hid hb1; clear hb1
  go_wp2_with fail
  refine (HC.out _).mono ?_
  rintro e w2 ⟨rfl, hb2⟩
  have HB2 := hid hb2; clear hb2
  rw [HK.out]
  go_wp2_with fail
  refine (HAL.out _).mono ?_
  rintro e w3 ⟨rfl, hb3⟩
  have HB3 := hid hb3; clear hb3
  go_upto_if 42 with (fail)
  go_cut [42] (fun s wx => Hid (Below w.heap.size w wx))
  case first =>
    by_cases hb3 : b3 = 0
    · obtain ⟨lay', hA', hF'⟩ := HAF.out hb3
      have hfr := fun w => free_any b1 b2 lay' w hA'
      rw [hF'] at hfr
      have HFR : Hid (∀ w, Calls Try.prog 22 #[.string ⟨b1.toArray⟩, .int .i64 b2] w (fun e w' => e = .returned (.tuple #[.string ⟨l.toArray⟩, .int .i64 0]) ∧ Below w.heap.size w w')) := hfr
      clear hA' hF' hfr
      subst hb3
      go_wp2_with fail
      refine (HFR.out _).mono ?_
      rintro e w4 ⟨rfl, hb4⟩
      have HB4 := hid hb4; clear hb4
      go_wp2_with fail
      go_meet
      case rel => exact below_step HB4.out (below_step HB3.out (below_step HB2.out HB1.out))
    · have g1 : (b3 == 0) = false := by rw [beq_eq_false_iff_ne]; exact hb3
      clear hb3
      go_wp2_with fail
      go_meet
      case rel => exact below_step HB3.out (below_step HB2.out HB1.out)
  case rest =>
    have HBC := hcut; clear hcut
    go_wp2_with fail
    refine (HBL.out _).mono ?_
    rintro e w4 ⟨v4, rfl, hop4, hb4⟩
    rw [HBK.out] at hop4 ⊢
    have HOP4 := hid hop4
    have HB4 := hid hb4
    have hz4 := hb4.size
    have hz3 := HBC.out.size
    clear hop4 hb4
    have HW4 : Hid (Below w.heap.size w w4) := below_step HB4.out HBC.out
    have hI0 : Hid (UndI l wc.heap.size lay l v4 w4) := ⟨HA.out, rfl, HOP4.out⟩
    have hpl : (psOf (itsOf lay)).length = lay.length := by rw [psOf_length]; simp [itsOf]
    have HPL := hid hpl; clear hpl
    obtain ⟨B, hBe⟩ : ∃ B, wc.heap.size = B := ⟨_, rfl⟩
    rw [hBe] at hI0 hz3
    have hzB : B ≤ w4.heap.size := by omega
    clear hz4 hBe
    go_wp2_with fail
    go_loopw [12, 13, 14] (fun p q r wr => ∃ (Lc : Lay) (cl : List UInt8) (kk : Nat), lenV p = Lc.length ∧ q = .string ⟨cl.toArray⟩ ∧ r = .int .i64 kk ∧ kk + Lc.length ≤ 8192 ∧ Hid (UndI l B Lc cl p wr) ∧ Hid (Below w.heap.size w wr) ∧ B ≤ wr.heap.size) (fun p _ _ _ => lenV p)
    case atStart =>
      refine ⟨lay, l, 0, ?_, rfl, rfl, by omega, hI0, HW4, hzB⟩
      obtain ⟨o4, c4, e4, -⟩ := hI0.out.2.2.rp
      rw [e4]; exact HPL.out
    case round =>
      clear hI0 HW4 hzB
      obtain ⟨Lc, cl, kk, hlv, rfl, rfl, hkk, HI, HBR, hBr⟩ := hrel
      have HPL2 : Hid ((psOf (itsOf Lc)).length = Lc.length) := by unfold Hid; rw [psOf_length]; simp [itsOf]
      by_cases hne : 0 < Lc.length
      · obtain ⟨m, hm⟩ : ∃ m, Lc.length = m := ⟨_, rfl⟩
        have HM := hid hm
        rw [hm] at hkk hne
        obtain ⟨hAc, hcl, hop⟩ := HI.out
        obtain ⟨g, gc, hv12, hgB, hgl, hgc, hcells⟩ := hop.cells (by rw [HPL2.out]; omega)
        rw [HPL2.out, hm] at hv12 hgc
        subst hv12
        have HCE := hid hcells
        have HAc := hid hAc; have HCL := hid hcl; have HOP := hid hop
        clear hAc hcl hop hcells hlv hm HI
        -- the index
        go_upto_if 72 with (fail)
        go_cut [15] (fun s wx => ∃ i : Nat, s = .int .i64 i ∧ i < m ∧ Hid (Below wr.heap.size wr wx))
        case first =>
          by_cases hk : kk < len
          · rcases HORD.out with h0 | ⟨ob, ooff, rfl, hobl, hoc⟩
            · omega
            obtain ⟨x, hx0, hx1, hxc⟩ := hoc kk hk
            have hxc := keepc HBR.out hxc
            have hmod : x % (m : Int) = ((x.toNat % m : Nat) : Int) := by rw [Int.natCast_emod, Int.toNat_of_nonneg hx0]
            have HMOD := hid hmod
            have hlt2 : x.toNat % m < m := Nat.mod_lt _ hne
            clear hoc hmod
            go_wp2_with fail
            go_meet
            case rel => exact ⟨x.toNat % m, by rw [← HMOD.out] <;> rfl, hlt2, Below.refl _ _⟩
          · go_wp2_with fail
            go_meet
            case rel => exact ⟨0, rfl, hne, Below.refl _ _⟩
        case rest =>
          obtain ⟨i, rfl, hi, HBX⟩ := hcut
          obtain ⟨x, hx⟩ : ∃ x, Lc[i]? = some x := ⟨_, List.getElem?_eq_getElem (by have := HM.out; omega)⟩
          have hxp : (psOf (itsOf Lc))[i]? = some ((x.1 : Int), (x.2.length : Int)) := by simp [psOf, itsOf, hx]
          obtain ⟨e0, e1⟩ := HCE.out i _ hxp
          have e0 := keepc HBX.out e0
          simp only at e0
          have hxm := List.mem_of_getElem? hx
          obtain ⟨d, hdA, hdl, -, hdc⟩ := free_step HAc.out hxm
          have HDC := hid hdc; have HDA := hid hdA; have HDL := hid hdl; have HXM := hid hxm; have HXI := hid hx
          have hz5 := HBX.out.size
          have HWX : Hid (Below w.heap.size w wc) := below_step HBX.out HBR.out
          have hoff : (x.1 : Int) ≤ 8192 := by have := offs_lt Lc _ _ HAc.out.2.2.1 x hxm; have := HAc.out.2.2.2.1; have := HAc.out.2.1; omega
          clear hdc hdA hdl hxm hx hxp e1
          go_wp2_with fail
          refine (HDC.out _).mono ?_
          rintro e w5 ⟨rfl, hb5⟩
          have HB5 := hid hb5
          have hz6 := hb5.size
          clear hb5 e0
          go_upto_if 95 with (fail)
          go_cut [95] (fun s wx => Hid (Below w5.heap.size w5 wx))
          case first =>
            by_cases h2 : 1 < m
            · obtain ⟨j, hj⟩ : ∃ j, (i + 1) % m = j := ⟨_, rfl⟩
              have hjm : j < m := by rw [← hj]; exact Nat.mod_lt _ hne
              have hij : i ≠ j := by
                intro hij
                rcases Nat.lt_or_ge (i + 1) m with h3 | h3
                · rw [Nat.mod_eq_of_lt h3] at hj; omega
                · rw [show i + 1 = m by omega, Nat.mod_self] at hj; omega
              have HMOD : Hid (((i : Int) + 1) % (m : Int) = (j : Int)) := by unfold Hid; rw [← hj, Int.natCast_emod]; rfl
              obtain ⟨y, hy⟩ : ∃ y, Lc[j]? = some y := ⟨_, List.getElem?_eq_getElem (by have := HM.out; omega)⟩
              have hxp : (psOf (itsOf Lc))[i]? = some ((x.1 : Int), (x.2.length : Int)) := by simp [psOf, itsOf, HXI.out]
              have hyp : (psOf (itsOf Lc))[j]? = some ((y.1 : Int), (y.2.length : Int)) := by simp [psOf, itsOf, hy]
              obtain ⟨z, yl, c1, c2, c3⟩ := free_two HAc.out HXM.out (List.mem_of_getElem? hy) (offs_ne Lc _ _ i j x y HAc.out.2.2.1 HXI.out hy hij) HDA.out HDL.out
              have C1 := hid c1; have C2 := hid c2; have C3 := hid c3
              have f0 := keepc HB5.out (keepc HBX.out (HCE.out i _ hxp).1)
              have f1 := keepc HB5.out (keepc HBX.out (HCE.out j _ hyp).1)
              simp only at f0 f1
              have hmodb1 : 0 ≤ ((i : Int) + 1) % (m : Int) := by rw [HMOD.out]; omega
              clear c1 c2 c3 hxp hyp hy hj
              go_upto_region 25 with (fail)
              rw [HMOD.out]
              go_wp2_with fail
              refine (C1.out _).mono ?_
              rintro e w6 ⟨rfl, hb6⟩
              have f0 := keepc hb6 f0; have f1 := keepc hb6 f1
              have HB6 := hid hb6; clear hb6
              go_wp2_with fail
              refine (C2.out _).mono ?_
              rintro e w7 ⟨rfl, hb7⟩
              have f0 := keepc hb7 f0
              have HB7 := hid hb7; clear hb7
              go_wp2_with fail
              refine (C3.out _).mono ?_
              rintro e w8 ⟨rfl, hb8⟩
              have HB8 := hid hb8; clear hb8
              go_wp2_with fail
              go_meet
              case rel => exact below_step HB8.out (below_step HB7.out HB6.out)
            · have g2 : decide (1 < m) = false := by simpa using h2
              go_wp2_with fail
              go_meet
              case rel => exact Below.refl _ _
          case rest =>
            have HBD := hcut; clear hcut
            have hz7 := HBD.out.size
            have HOPD := hid (((HOP.out.below HBX.out).below HB5.out).below HBD.out)
            go_upto_region 31 with (fail)
            have q1 : (i : Int) ≤ gc := by omega
            have q2 : (i : Int) + 1 ≤ m := by omega
            have q3 : (0 : Int) ≤ (i : Int) + 1 := by omega
            have hw1 : IntKind.i64.wrap ((i : Int) + 1) = (i : Int) + 1 := IntWalk.i64_in _ ⟨by omega, by omega⟩
            have hN : (psOf (itsOf Lc)).length = m := by rw [HPL2.out, HM.out]
            have HN := hid hN; clear hN
            go_region_law (refine step_del rfl (.tmp 149) (.tmp 153) rfl B g m gc i (gc - (i + 1)) (cutA g (i + 1) gc) (psOf (itsOf Lc)) (by simp [Act.eval, Act.put]) (by simp [Act.eval, Act.put]) HOPD.out HN.out hi (by unfold cutA; split <;> simp <;> omega) ?_; intro w9 hop9 hg9)
            go_wp2_with fail
            go_roundw
            case measure => simp only [lenV]; omega
            case rel =>
              have hop9 : OP w9 B (.slice (some ⟨g, 0, none⟩) (m - 1) gc) (psOf (itsOf (Lc.eraseIdx i))) := by rw [ps_erase]; exact hop9
              have hW9 : Below w.heap.size w w9 := ((below_step HBD.out (below_step HB5.out HWX.out)).drew).grown hg9 (by show _ ≤ wc.heap.size; have := HWX.out.size; omega) ((HOPD.out.mono hz3).own)
              have her : rm x.1 Lc = Lc.eraseIdx i := rm_erase Lc _ _ i x HAc.out.2.2.1 HXI.out
              have hln : (Lc.eraseIdx i).length = m - 1 := by rw [List.length_eraseIdx, HM.out, if_pos hi]
              refine ⟨Lc.eraseIdx i, d, kk + 1, ?_, rfl, ?_, ?_, ⟨?_, HDL.out.trans HCL.out, hop9⟩, hW9, ?_⟩
              · rw [hln]; rfl
              · first | rfl | (congr 1; omega)
              · rw [hln]; omega
              · rw [← her]; exact HDA.out
              · have h1 : wc.heap.size ≤ w9.heap.size := hg9.size
                omega
      · have hL : Lc = [] := List.length_eq_zero_iff.1 (by omega)
        subst hL
        obtain ⟨hAc, hcl, hop⟩ := HI.out
        obtain ⟨o9, c9, e9, -⟩ := hop.rp
        have hclz : cl = zs l.length := by
          have h2 := hAc.2.2.2.2
          rw [hcl, render_nil _ (by omega)] at h2
          exact h2
        subst hclz
        subst e9
        have hc0 : (psOf (itsOf ([] : Lay))).length = 0 := rfl
        clear hAc hcl hop HI HAF HAL HBK HBL
        go_wp2_with fail
        refine (HNW.out _).mono ?_
        rintro e w5 ⟨rfl, hb5⟩
        have HB5 := hid hb5; clear hb5
        go_wp2_with fail
        go_ret
        exact ⟨rfl, below_step HB5.out HBR.out⟩
theorem undone_law (l : List UInt8) (n : Int) (v : Value) (len : Nat) (w : World) (hl : l.length ≤ maxLen) (hv : RB w v len) (hlen : len ≤ maxLen) : Calls Try.prog 4 #[.string ⟨l.toArray⟩, .int .i64 n, v] w (SanePost w) := by
  rcases h : openS l with _ | _
  · exact undone_no l n v w hl h
  · exact undone_yes l n v len w hl h hv hlen
end Go.Proofs.Ytcfmimfkaabmkaa
