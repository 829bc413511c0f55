/- The walk of the law AreaResized. -/
import Derived.Test.YtcfmimfkaabmkaaH2
set_option linter.unusedVariables false
set_option linter.unusedSimpArgs false
namespace Go.Proofs.Ytcfmimfkaabmkaa
open Go.RowKit
attribute [local go_sem] Oper.semAt_some
attribute [local irreducible] num
/-- The function f, called with these arguments, returns these two values, and turns nothing. -/
def Gives (f : Nat) (a : Array Value) (v : Value) : Prop := ∀ w, Calls Try.prog f a w (fun e w' => e = .returned v ∧ Below w.heap.size w w')
/-- An area in another length that has room. -/
theorem resized_area {l : List UInt8} {lay : Lay} (h : Area l lay) (k : Nat) (h1 : 16 ≤ k) (h2 : k ≤ 8192) (h3 : endOf 8 lay ≤ k) :
    Area (render k lay) lay ∧ openS (render k lay) = true ∧ layD (render k lay) = lay ∧ (render k lay).length = k := by
  have hA := area_render h.2.2.1 h1 h2 h3
  exact ⟨hA, (openS_iff _).2 ⟨_, hA⟩, layD_area hA, render_length h.2.2.1 h3⟩
theorem area_zs (k : Nat) (h1 : 16 ≤ k) (h2 : k ≤ 8192) : openS (zs k) = true := by
  have hA := area_render (lay := []) (n := k) (by decide) h1 h2 (by show 8 ≤ k; omega)
  have : render k [] = zs k := by
    have e : four 0 = zs 4 := rfl
    simp only [render, endOf, enc, List.length_nil, Nat.sub_self, List.nil_append]
    rw [e, ← zs_add, ← zs_add]
    congr 1
    omega
  rw [this] at hA
  exact (openS_iff _).2 ⟨_, hA⟩
set_option maxHeartbeats 4000000 in
set_option maxRecDepth 100000 in
theorem resized_no (l : List UInt8) (n m : Int) (w : World) (hl : l.length ≤ maxLen) (h : openS l = false ∨ n < 16 ∨ 8192 < n) : Calls Try.prog 8 #[.string ⟨l.toArray⟩, .int .i64 n, .int .i64 m] w (SanePost w) := by
  obtain ⟨c, hc⟩ : ∃ c, chkS l = c := ⟨_, rfl⟩
  have h1 : Gives 24 #[.string ⟨l.toArray⟩] (.int .i64 c) := fun w => by rw [← hc]; exact rcheck_any l w hl
  have h2 : Gives 25 #[.string ⟨l.toArray⟩] (.int .i64 c) := fun w => by rw [← hc]; exact check_l l w hl
  have H1 := hid h1; have H2 := hid h2
  have hcc : c ≠ 0 ∨ n < 16 ∨ 8192 < n := h.imp_left fun h => by rw [← hc]; unfold chkS; rw [h]; decide
  clear h1 h2 hc h
  go_enter Try.func8, Try.ntmps8
  go_wp2_with fail
  refine (sane_any _).mono ?_
  rintro e w1 ⟨rfl, hb1⟩
  have HB1 := hid hb1; clear hb1
  go_wp2_with fail
  refine (H1.out _).mono ?_
  rintro e w2 ⟨rfl, hb2⟩
  have HB2 := hid hb2; clear hb2
  by_cases hc : c = 0
  · subst hc
    have hn : n < 16 ∨ 8192 < n := by omega
    clear hcc
    by_cases hn1 : n < 16
    · go_wp2_with fail
      refine (H2.out _).mono ?_
      rintro e w3 ⟨rfl, hb3⟩
      have HB3 := hid hb3; clear hb3
      go_wp2_with fail
      refine (H1.out _).mono ?_
      rintro e w4 ⟨rfl, hb4⟩
      have HB4 := hid hb4; clear hb4
      go_wp2_with fail
      go_ret
      exact ⟨rfl, below_step HB4.out (below_step HB3.out (below_step HB2.out HB1.out))⟩
    · have hn2 : 8192 < n := by omega
      clear hn
      go_wp2_with fail
      refine (H2.out _).mono ?_
      rintro e w3 ⟨rfl, hb3⟩
      have HB3 := hid hb3; clear hb3
      go_wp2_with fail
      refine (H1.out _).mono ?_
      rintro e w4 ⟨rfl, hb4⟩
      have HB4 := hid hb4; clear hb4
      go_wp2_with fail
      go_ret
      exact ⟨rfl, below_step HB4.out (below_step HB3.out (below_step HB2.out HB1.out))⟩
  · have g1 : (c == 0) = false := by rw [beq_eq_false_iff_ne]; exact hc
    clear hcc
    go_wp2_with fail
    refine (H2.out _).mono ?_
    rintro e w3 ⟨rfl, hb3⟩
    have HB3 := hid hb3; clear hb3
    go_wp2_with fail
    refine (H1.out _).mono ?_
    rintro e w4 ⟨rfl, hb4⟩
    have HB4 := hid hb4; clear hb4
    go_wp2_with fail
    go_ret
    exact ⟨rfl, below_step HB4.out (below_step HB3.out (below_step HB2.out HB1.out))⟩
set_option maxHeartbeats 4000000 in
set_option maxRecDepth 100000 in
theorem resized_full (l : List UInt8) (n m : Int) (w : World) (hl : l.length ≤ maxLen) (h : openS l = true) (h1 : 16 ≤ n) (h2 : n ≤ 8192) (h3 : n < (endOf 8 (layD l) : Int)) : Calls Try.prog 8 #[.string ⟨l.toArray⟩, .int .i64 n, .int .i64 m] w (SanePost w) := by
  have hcn : chkS l = 0 := by unfold chkS; rw [h]; exact if_pos rfl
  have hex : extentS l = ((endOf 8 (layD l) : Int), 0) := by unfold extentS; rw [h]; exact if_pos rfl
  have hrs : resizeS l n = ([], 121) := by unfold resizeS; rw [h, if_pos rfl]; unfold resizeA; rw [if_neg (by omega), if_neg (by omega)]
  obtain ⟨c, hc⟩ : ∃ c : Int, (endOf 8 (layD l) : Int) = c := ⟨_, rfl⟩
  rw [hc] at hex h3
  have g1 : Gives 24 #[.string ⟨l.toArray⟩] (.int .i64 0) := fun w => by rw [← hcn]; exact rcheck_any l w hl
  have g2 : Gives 39 #[.string ⟨l.toArray⟩] (.tuple #[.int .i64 c, .int .i64 0]) := fun w => by have := extent_any l w hl; rw [hex] at this; exact this
  have g3 : Gives 30 #[.string ⟨l.toArray⟩, .int .i64 n] (.tuple #[.string ⟨#[]⟩, .int .i64 121]) := fun w => by have := resize_any l n w hl; rw [hrs] at this; exact this
  have H1 := hid g1; have H2 := hid g2; have H3 := hid g3
  clear g1 g2 g3 hcn hex hrs hc h
  go_enter Try.func8, Try.ntmps8
  go_wp2_with fail
  refine (sane_any _).mono ?_
  rintro e w1 ⟨rfl, hb1⟩
  have HB1 := hid hb1; clear hb1
  go_wp2_with fail
  refine (H1.out _).mono ?_
  rintro e w2 ⟨rfl, hb2⟩
  have HB2 := hid hb2; clear hb2
  go_wp2_with fail
  refine (H2.out _).mono ?_
  rintro e w3 ⟨rfl, hb3⟩
  have HB3 := hid hb3; clear hb3
  go_wp2_with fail
  refine (H3.out _).mono ?_
  rintro e w4 ⟨rfl, hb4⟩
  have HB4 := hid hb4; clear hb4
  go_wp2_with fail
  go_ret
  exact ⟨rfl, (below_step HB4.out (below_step HB3.out (below_step HB2.out HB1.out)))⟩
set_option maxHeartbeats 4000000 in
set_option maxRecDepth 100000 in
theorem resized_yes (l : List UInt8) (n m : Int) (w : World) (hl : l.length ≤ maxLen) (h : openS l = true) (h1 : 16 ≤ n) (h2 : n ≤ 8192) (h3 : (endOf 8 (layD l) : Int) ≤ n) : Calls Try.prog 8 #[.string ⟨l.toArray⟩, .int .i64 n, .int .i64 m] w (SanePost w) := by
  have hA := area_D h
  obtain ⟨k, rfl⟩ := Int.eq_ofNat_of_zero_le (show 0 ≤ n by omega)
  obtain ⟨r1, r2, r3, r4⟩ := resized_area hA k (by omega) (by omega) (by omega)
  have hz := area_zs k (by omega) (by omega)
  have hcn : chkS l = 0 := by unfold chkS; rw [h]; exact if_pos rfl
  have hex : extentS l = ((endOf 8 (layD l) : Int), 0) := by unfold extentS; rw [h]; exact if_pos rfl
  have hrs : resizeS l k = (render k (layD l), 0) := by unfold resizeS; rw [h, if_pos rfl]; unfold resizeA; rw [if_neg (by omega), if_pos (by omega), Int.toNat_natCast]
  have hbk : resizeS (render k (layD l)) l.length = (l, 0) := by
    unfold resizeS; rw [r2, if_pos rfl, r3]; unfold resizeA
    rw [if_neg (by have := hA.1; have := hA.2.1; omega), if_pos (by have := hA.2.2.2.1; omega), Int.toNat_natCast, ← hA.2.2.2.2]
  have has : assignS (zs k) l = (render k (layD l), 0) := by
    unfold assignS; rw [hz, h, Bool.and_self, if_pos rfl]; unfold resizeA
    rw [zs_length, if_neg (by omega), if_pos (by omega), Int.toNat_natCast]
  have hnw : newS (k : Int) = (zs k, 0) := by unfold newS; rw [if_neg (by omega), Int.toNat_natCast]
  obtain ⟨c, hc⟩ : ∃ c : Int, (endOf 8 (layD l) : Int) = c := ⟨_, rfl⟩
  rw [hc] at hex h3
  obtain ⟨b, hb⟩ : ∃ b, render k (layD l) = b := ⟨_, rfl⟩
  have hlm : b.length ≤ maxLen := by rw [← hb, r4]; unfold maxLen; omega
  have hzl : (zs k).length ≤ maxLen := by rw [zs_length]; unfold maxLen; omega
  rw [hb] at hrs hbk has r2 r3 r4
  have hbs : (ByteArray.mk b.toArray).size = k := by show b.toArray.size = k; rw [List.size_toArray]; exact r4
  have g1 : Gives 24 #[.string ⟨l.toArray⟩] (.int .i64 0) := fun w => by rw [← hcn]; exact rcheck_any l w hl
  have g2 : Gives 39 #[.string ⟨l.toArray⟩] (.tuple #[.int .i64 c, .int .i64 0]) := fun w => by have := extent_any l w hl; rw [hex] at this; exact this
  have g3 : Gives 30 #[.string ⟨l.toArray⟩, .int .i64 (k : Int)] (.tuple #[.string ⟨b.toArray⟩, .int .i64 0]) := fun w => by have := resize_any l k w hl; rw [hrs] at this; exact this
  have g4 : Gives 30 #[.string ⟨b.toArray⟩, .int .i64 (l.length : Int)] (.tuple #[.string ⟨l.toArray⟩, .int .i64 0]) := fun w => by have := resize_any b l.length w hlm; rw [hbk] at this; exact this
  have g5 : Gives 27 #[.int .i64 (k : Int)] (.tuple #[.string ⟨(zs k).toArray⟩, .int .i64 0]) := fun w => by have := new_any k w; unfold NewPost at this; rw [hnw] at this; exact this
  have g6 : Gives 28 #[.string ⟨(zs k).toArray⟩, .string ⟨l.toArray⟩] (.tuple #[.string ⟨b.toArray⟩, .int .i64 0]) := fun w => by have := assign_any (zs k) l w hzl hl; rw [has] at this; exact this
  obtain ⟨zk, hzk⟩ : ∃ zk, zs k = zk := ⟨_, rfl⟩
  rw [hzk] at g5 g6
  have H1 := hid g1; have H2 := hid g2; have H3 := hid g3; have H4 := hid g4; have H5 := hid g5; have H6 := hid g6
  have hdd : ∀ t, assignS t b = assignS t l := fun t => by unfold assignS; rw [r2, h, r3]
  clear g1 g2 g3 g4 g5 g6 hcn hex hrs hbk has hnw hb hzk hz hA hc r1 hzl
  have HR4 := hid r4
  by_cases hm : m < 16 ∨ 8192 < m
  · have hnm : newS m = ([], 1) := by unfold newS; rw [if_pos hm]
    have g7 : Gives 27 #[.int .i64 m] (.tuple #[.string ⟨#[]⟩, .int .i64 1]) := fun w => by have := new_any m w; unfold NewPost at this; rw [hnm] at this; exact this
    have H7 := hid g7
    clear g7 hnm hdd r2 r3 r4 h
    by_cases hm1 : m < 16
    · clear hm
      go_enter Try.func8, Try.ntmps8
      go_wp2_with fail
      refine (sane_any _).mono ?_
      rintro e w1 ⟨rfl, hb1⟩
      have HB1 := hid hb1; clear hb1
      go_wp2_with fail
      refine (H1.out _).mono ?_
      rintro e w2 ⟨rfl, hb2⟩
      have HB2 := hid hb2; clear hb2
      go_wp2_with fail
      refine (H2.out _).mono ?_
      rintro e w3 ⟨rfl, hb3⟩
      have HB3 := hid hb3; clear hb3
      go_wp2_with fail
      refine (H3.out _).mono ?_
      rintro e w4 ⟨rfl, hb4⟩
      have HB4 := hid hb4; clear hb4
      go_wp2_with fail
      refine (H4.out _).mono ?_
      rintro e w5 ⟨rfl, hb5⟩
      have HB5 := hid hb5; clear hb5
      go_wp2_with fail
      refine (H5.out _).mono ?_
      rintro e w6 ⟨rfl, hb6⟩
      have HB6 := hid hb6; clear hb6
      go_wp2_with fail
      refine (H6.out _).mono ?_
      rintro e w7 ⟨rfl, hb7⟩
      have HB7 := hid hb7; clear hb7
      go_wp2_with fail
      refine (H7.out _).mono ?_
      rintro e w8 ⟨rfl, hb8⟩
      have HB8 := hid hb8; clear hb8
      go_wp2_with fail
      go_ret
      exact ⟨rfl, (below_step HB8.out (below_step HB7.out (below_step HB6.out (below_step HB5.out (below_step HB4.out (below_step HB3.out (below_step HB2.out HB1.out)))))))⟩
    · have hm2 : 8192 < m := by omega
      clear hm
      go_enter Try.func8, Try.ntmps8
      go_wp2_with fail
      refine (sane_any _).mono ?_
      rintro e w1 ⟨rfl, hb1⟩
      have HB1 := hid hb1; clear hb1
      go_wp2_with fail
      refine (H1.out _).mono ?_
      rintro e w2 ⟨rfl, hb2⟩
      have HB2 := hid hb2; clear hb2
      go_wp2_with fail
      refine (H2.out _).mono ?_
      rintro e w3 ⟨rfl, hb3⟩
      have HB3 := hid hb3; clear hb3
      go_wp2_with fail
      refine (H3.out _).mono ?_
      rintro e w4 ⟨rfl, hb4⟩
      have HB4 := hid hb4; clear hb4
      go_wp2_with fail
      refine (H4.out _).mono ?_
      rintro e w5 ⟨rfl, hb5⟩
      have HB5 := hid hb5; clear hb5
      go_wp2_with fail
      refine (H5.out _).mono ?_
      rintro e w6 ⟨rfl, hb6⟩
      have HB6 := hid hb6; clear hb6
      go_wp2_with fail
      refine (H6.out _).mono ?_
      rintro e w7 ⟨rfl, hb7⟩
      have HB7 := hid hb7; clear hb7
      go_wp2_with fail
      refine (H7.out _).mono ?_
      rintro e w8 ⟨rfl, hb8⟩
      have HB8 := hid hb8; clear hb8
      go_wp2_with fail
      go_ret
      exact ⟨rfl, (below_step HB8.out (below_step HB7.out (below_step HB6.out (below_step HB5.out (below_step HB4.out (below_step HB3.out (below_step HB2.out HB1.out)))))))⟩
  · have hnm : newS m = (zs m.toNat, 0) := by unfold newS; rw [if_neg hm]
    have hml : (zs m.toNat).length ≤ maxLen := by rw [zs_length]; unfold maxLen; omega
    have g7 : Gives 27 #[.int .i64 m] (.tuple #[.string ⟨(zs m.toNat).toArray⟩, .int .i64 0]) := fun w => by have := new_any m w; unfold NewPost at this; rw [hnm] at this; exact this
    obtain ⟨t, ht⟩ : ∃ t, zs m.toNat = t := ⟨_, rfl⟩
    rw [ht] at g7 hml
    obtain ⟨⟨x1, x2⟩, hx⟩ : ∃ x, assignS t l = x := ⟨_, rfl⟩
    have g8 : Gives 28 #[.string ⟨t.toArray⟩, .string ⟨b.toArray⟩] (.tuple #[.string ⟨x1.toArray⟩, .int .i64 x2]) := fun w => by have := assign_any t b w hml hlm; rw [hdd, hx] at this; exact this
    have g9 : Gives 28 #[.string ⟨t.toArray⟩, .string ⟨l.toArray⟩] (.tuple #[.string ⟨x1.toArray⟩, .int .i64 x2]) := fun w => by have := assign_any t l w hml hl; rw [hx] at this; exact this
    have H7 := hid g7; have H8 := hid g8; have H9 := hid g9
    clear g7 g8 g9 hnm hdd r2 r3 r4 h ht hx
    go_enter Try.func8, Try.ntmps8
    go_wp2_with fail
    refine (sane_any _).mono ?_
    rintro e w1 ⟨rfl, hb1⟩
    have HB1 := hid hb1; clear hb1
    go_wp2_with fail
    refine (H1.out _).mono ?_
    rintro e w2 ⟨rfl, hb2⟩
    have HB2 := hid hb2; clear hb2
    go_wp2_with fail
    refine (H2.out _).mono ?_
    rintro e w3 ⟨rfl, hb3⟩
    have HB3 := hid hb3; clear hb3
    go_wp2_with fail
    refine (H3.out _).mono ?_
    rintro e w4 ⟨rfl, hb4⟩
    have HB4 := hid hb4; clear hb4
    go_wp2_with fail
    refine (H4.out _).mono ?_
    rintro e w5 ⟨rfl, hb5⟩
    have HB5 := hid hb5; clear hb5
    go_wp2_with fail
    refine (H5.out _).mono ?_
    rintro e w6 ⟨rfl, hb6⟩
    have HB6 := hid hb6; clear hb6
    go_wp2_with fail
    refine (H6.out _).mono ?_
    rintro e w7 ⟨rfl, hb7⟩
    have HB7 := hid hb7; clear hb7
    go_wp2_with fail
    refine (H7.out _).mono ?_
    rintro e w8 ⟨rfl, hb8⟩
    have HB8 := hid hb8; clear hb8
    go_wp2_with fail
    refine (H8.out _).mono ?_
    rintro e w9 ⟨rfl, hb9⟩
    have HB9 := hid hb9; clear hb9
    go_wp2_with fail
    refine (H9.out _).mono ?_
    rintro e w10 ⟨rfl, hb10⟩
    have HB10 := hid hb10; clear hb10
    go_wp2_with fail
    go_ret
    exact ⟨rfl, (below_step HB10.out (below_step HB9.out (below_step HB8.out (below_step HB7.out (below_step HB6.out (below_step HB5.out (below_step HB4.out (below_step HB3.out (below_step HB2.out HB1.out)))))))))⟩
theorem resized_law (l : List UInt8) (n m : Int) (w : World) (hl : l.length ≤ maxLen) : Calls Try.prog 8 #[.string ⟨l.toArray⟩, .int .i64 n, .int .i64 m] w (SanePost w) := by
  rcases h : openS l with _ | _
  · exact resized_no l n m w hl (.inl h)
  · by_cases h1 : n < 16
    · exact resized_no l n m w hl (.inr (.inl h1))
    · by_cases h2 : 8192 < n
      · exact resized_no l n m w hl (.inr (.inr h2))
      · by_cases h3 : (endOf 8 (layD l) : Int) ≤ n
        · exact resized_yes l n m w hl h (by omega) (by omega) h3
        · exact resized_full l n m w hl h (by omega) (by omega) (by omega)
end Go.Proofs.Ytcfmimfkaabmkaa
