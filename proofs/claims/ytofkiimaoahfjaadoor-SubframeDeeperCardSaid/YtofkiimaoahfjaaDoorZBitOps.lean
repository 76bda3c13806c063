/-
  What Go's &, |, ^ on whole numbers come to, in sums and remainders.
-/
import Derived.Laws.BitsAllLaws
import Derived.Laws.BitsLemmas
import Derived.IntWalk
set_option maxRecDepth 100000
set_option linter.unusedVariables false
set_option linter.unusedSimpArgs false
namespace Go.Proofs.YtofkiimaoahfjaaDoor

theorem wraps_i64 (n : Int) (h₀ : 0 ≤ n) (h₁ : n < 2 ^ 63) : IntKind.i64.wrap n = n := IntWalk.i64_in _ (by omega)
theorem wraps_u64 (n : Int) (h₀ : 0 ≤ n) (h₁ : n < 2 ^ 64) : IntKind.u64.wrap n = n := IntWalk.u64_in _ (by omega)

theorem toNat_ofInt64 (x : Int) : (BitVec.ofInt 64 x).toNat = (x % 18446744073709551616).toNat := by
  rw [BitVec.toNat_ofInt]; rfl

/-- x & (2^i - 1), whatever sign x has. -/
theorem and_mask (i : Nat) (hi : i ≤ 62) (x : Int) : bits .and .i64 x (2 ^ i - 1) = x % 2 ^ i := by
  show IntKind.i64.wrap ((BitVec.ofInt 64 x &&& BitVec.ofInt 64 (2 ^ i - 1)).toNat : Int) = _
  have hp : (2 : Int) ^ i ≤ 2 ^ 62 := by exact_mod_cast Nat.pow_le_pow_right (show 0 < 2 by omega) hi
  have hp0 : (0 : Int) < 2 ^ i := Int.pow_pos (by omega)
  rw [BitVec.toNat_and, toNat_ofInt64, toNat_ofInt64, Int.emod_eq_of_lt (show (0:Int) ≤ 2 ^ i - 1 by omega) (by omega)]
  have e : ((2 : Int) ^ i - 1).toNat = 2 ^ i - 1 := by
    have : ((2 : Int) ^ i) = ((2 ^ i : Nat) : Int) := by exact_mod_cast rfl
    omega
  rw [e, Nat.and_two_pow_sub_one_eq_mod]
  have h2 : (((x % 18446744073709551616).toNat % 2 ^ i : Nat) : Int) = x % 2 ^ i := by
    rw [Int.natCast_emod, Int.toNat_of_nonneg (Int.emod_nonneg _ (by omega))]
    have : ((2 ^ i : Nat) : Int) = 2 ^ i := by exact_mod_cast rfl
    rw [this]
    exact Int.emod_emod_of_dvd x ⟨2 ^ (64 - i), by rw [← Int.pow_add, show i + (64 - i) = 64 by omega]; rfl⟩
  rw [h2]
  have h3 := Int.emod_nonneg x (show (2:Int) ^ i ≠ 0 by omega)
  have h4 := Int.emod_lt_of_pos x hp0
  exact IntWalk.i64_in _ (by omega)

theorem and1 (x : Int) : bits .and .i64 x 1 = x % 2 := and_mask 1 (by omega) x
theorem and3 (x : Int) : bits .and .i64 x 3 = x % 4 := and_mask 2 (by omega) x
theorem and7 (x : Int) : bits .and .i64 x 7 = x % 8 := and_mask 3 (by omega) x
theorem and63 (x : Int) : bits .and .i64 x 63 = x % 64 := and_mask 6 (by omega) x

theorem or_join (i : Nat) (x y : Int) (hx₀ : 0 ≤ x) (hx : x % 2 ^ i = 0) (hx₁ : x < 2 ^ 63) (hy₀ : 0 ≤ y) (hy : y < 2 ^ i) (hi : i ≤ 63) : bits .or .i64 x y = x + y := by
  have : (2 : Int) ^ i ≤ 2 ^ 63 := by exact_mod_cast Nat.pow_le_pow_right (show 0 < 2 by omega) hi
  exact bits_join .i64 63 (by decide) wraps_i64 i x y hx₀ hx hx₁ hy₀ hy (by omega)

theorem or1 (x y : Int) (hx₀ : 0 ≤ x) (hx₁ : x < 2 ^ 60) (hy₀ : 0 ≤ y) (hy : y < 2) : bits .or .i64 (2 * x) y = 2 * x + y :=
  or_join 1 _ _ (by omega) (by omega) (by omega) hy₀ (by omega) (by omega)
theorem or6 (x y : Int) (hx₀ : 0 ≤ x) (hx₁ : x < 2 ^ 56) (hy₀ : 0 ≤ y) (hy : y < 64) : bits .or .i64 (x * 64) y = x * 64 + y :=
  or_join 6 _ _ (by omega) (by omega) (by omega) hy₀ (by omega) (by omega)

theorem xor_zero (x : Int) (h0 : -9223372036854775808 ≤ x) (h1 : x ≤ 9223372036854775807) : bits .xor .i64 x 0 = x := by
  show IntKind.i64.wrap ((BitVec.ofInt 64 x ^^^ BitVec.ofInt 64 0).toNat : Int) = _
  have e : BitVec.ofInt 64 0 = 0#64 := by decide
  rw [e, BitVec.xor_zero, toNat_ofInt64, IntKind.wrap_i64]
  omega
theorem xor_ones (x : Int) (h0 : -9223372036854775808 ≤ x) (h1 : x ≤ 9223372036854775807) : bits .xor .i64 x (-1) = -1 - x := by
  show IntKind.i64.wrap ((BitVec.ofInt 64 x ^^^ BitVec.ofInt 64 (-1)).toNat : Int) = _
  have e : BitVec.ofInt 64 (-1) = BitVec.allOnes 64 := by decide
  rw [e, BitVec.xor_allOnes, BitVec.toNat_not, toNat_ofInt64, IntKind.wrap_i64]
  omega
/-- x ^ x >> 63 -/
theorem xor_sign (x y : Int) (h0 : -9223372036854775808 ≤ x) (h1 : x ≤ 9223372036854775807) (hy : y = 0 ∨ y = -1) : bits .xor .i64 x y = if y = 0 then x else -1 - x := by
  rcases hy with rfl | rfl
  · rw [if_pos rfl, xor_zero x h0 h1]
  · rw [if_neg (by omega), xor_ones x h0 h1]

theorem u8_not (x : Int) (h0 : 0 ≤ x) (h1 : x ≤ 255) : bits .xor .u8 255 x = 255 - x := by
  show IntKind.u8.wrap ((BitVec.ofInt 8 255 ^^^ BitVec.ofInt 8 x).toNat : Int) = _
  have e : BitVec.ofInt 8 255 = BitVec.allOnes 8 := by decide
  rw [e, BitVec.allOnes_xor, BitVec.toNat_not, BitVec.toNat_ofInt, IntKind.wrap_u8]
  omega
/-- As the walk spells it. -/
theorem u8_not' (x : Int) (h0 : 0 ≤ x) (h1 : x ≤ 255) : bits .xor .u8 (if IntKind.u8.signed = true then -1 else IntKind.u8.max) x = 255 - x := u8_not x h0 h1
theorem u8_or_join (i : Nat) (x y : Int) (hx₀ : 0 ≤ x) (hx : x % 2 ^ i = 0) (hx₁ : x < 256) (hy₀ : 0 ≤ y) (hy : y < 2 ^ i) (hi : i ≤ 8) : bits .or .u8 x y = x + y := by
  have : (2 : Int) ^ i ≤ 2 ^ 8 := by exact_mod_cast Nat.pow_le_pow_right (show 0 < 2 by omega) hi
  exact bits_join .u8 8 (by decide) wraps_u8 i x y hx₀ hx (by omega) hy₀ hy (by omega)

end Go.Proofs.YtofkiimaoahfjaaDoor
