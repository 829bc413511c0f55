/- Arithmetic of the bits that package area uses: the mask that rounds down to a multiple of 8, the join of four bytes. -/
import Derived.Test.YtcfmimfkaabmkaaBase
set_option linter.unusedVariables false
set_option linter.unusedSimpArgs false
namespace Go.Proofs.Ytcfmimfkaabmkaa
open Go.RowKit
theorem wraps_i64 (n : Int) (h₀ : 0 ≤ n) (h₁ : n < 2 ^ 63) : IntKind.i64.wrap n = n := by rw [IntKind.wrap_i64]; omega
theorem i64_or8 (x y : Int) (hx₀ : 0 ≤ x) (hx : x % 256 = 0) (hx₁ : x < 4611686018427387904) (h₀ : 0 ≤ y) (h₁ : y < 256) : bits .or .i64 x y = x + y :=
  bits_join .i64 63 (by decide) wraps_i64 8 x y hx₀ hx (by omega) h₀ h₁ (by omega)
theorem and_mask8 (a : Nat) (ha : a < 2 ^ 64) : a &&& 18446744073709551608 = a / 8 * 8 := by
  apply Nat.eq_of_testBit_eq
  intro i
  have e1 : (18446744073709551608 : Nat) = (2 ^ 61 - 1) * 2 ^ 3 := by decide
  have e2 : a / 8 * 8 = (a / 2 ^ 3) * 2 ^ 3 := rfl
  rw [Nat.testBit_and, e1, e2, Nat.testBit_mul_two_pow, Nat.testBit_mul_two_pow, Nat.testBit_two_pow_sub_one, Nat.testBit_div_two_pow]
  by_cases h3 : 3 ≤ i
  · by_cases h64 : i - 3 < 61
    · simp [h3, h64]
    · have : a.testBit i = false := Nat.testBit_lt_two_pow (Nat.lt_of_lt_of_le ha (Nat.pow_le_pow_right (by decide) (by omega)))
      simp [h3, this]
  · simp [h3]
theorem i64_mask8 (x : Int) (h0 : 0 ≤ x) (h1 : x < 4611686018427387904) : bits .andNot .i64 x 7 = x / 8 * 8 := by
  obtain ⟨a, rfl⟩ := Int.eq_ofNat_of_zero_le h0
  have ha : a < 4611686018427387904 := by omega
  have e : ((BitVec.ofInt IntKind.i64.bits (a : Int)) &&& ~~~(BitVec.ofInt IntKind.i64.bits 7)).toNat = a / 8 * 8 := by
    rw [BitVec.toNat_and]
    have e1 : (BitVec.ofInt IntKind.i64.bits (a : Int)).toNat = a := by
      rw [BitVec.ofInt_natCast, BitVec.toNat_ofNat]
      exact Nat.mod_eq_of_lt (Nat.lt_trans ha (by decide))
    have e2 : (~~~(BitVec.ofInt IntKind.i64.bits 7)).toNat = 18446744073709551608 := by decide
    rw [e1, e2]
    exact and_mask8 a (Nat.lt_trans ha (by decide))
  show IntKind.i64.wrap _ = _
  simp only [e]
  rw [wraps_i64]
  · simp
  · omega
  · have : a / 8 * 8 ≤ a := Nat.div_mul_le_self a 8
    omega
theorem up_bits (n : Int) (h0 : 0 ≤ n) (h1 : n ≤ 1000000000) : bits BinOp.andNot IntKind.i64 (n + 7) 7 = upZ n :=
  i64_mask8 (n + 7) (by omega) (by omega)
theorem num_of_bits (b0 b1 b2 b3 : Int) (B0 : 0 ≤ b0 ∧ b0 ≤ 255) (B1 : 0 ≤ b1 ∧ b1 ≤ 255) (B2 : 0 ≤ b2 ∧ b2 ≤ 255) (B3 : 0 ≤ b3 ∧ b3 ≤ 255) :
    bits BinOp.or IntKind.i64 (wrap64 (bits BinOp.or IntKind.i64 (wrap64 (bits BinOp.or IntKind.i64 (wrap64 (bits BinOp.or IntKind.i64 0 b0 * 256)) b1 * 256)) b2 * 256)) b3 =
      b0 * 16777216 + b1 * 65536 + b2 * 256 + b3 := by
  have w : ∀ n : Int, 0 ≤ n → n < 1000000000000 → wrap64 n = n := fun n h h' => IntWalk.wrap64_in n ⟨by omega, by omega⟩
  have e0 : bits BinOp.or IntKind.i64 0 b0 = b0 := by rw [i64_or8 0 b0 (by omega) (by omega) (by omega) (by omega) (by omega)]; omega
  rw [e0, w (b0 * 256) (by omega) (by omega), i64_or8 (b0 * 256) b1 (by omega) (by omega) (by omega) (by omega) (by omega),
    w ((b0 * 256 + b1) * 256) (by omega) (by omega), i64_or8 _ b2 (by omega) (by omega) (by omega) (by omega) (by omega),
    w (((b0 * 256 + b1) * 256 + b2) * 256) (by omega) (by omega), i64_or8 _ b3 (by omega) (by omega) (by omega) (by omega) (by omega)]
  omega
end Go.Proofs.Ytcfmimfkaabmkaa
