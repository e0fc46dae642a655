import Derived.WalkKit
import Derived.WalkSpells
import Derived.Laws.BitsAllLaws
namespace Go.Proofs.Ymbrcs
open Go.RowKit

/-! Plain laws on Go's bit operations, as the walk spells them. No program in sight. -/
theorem and15_u32 (x : Int) : bits .and .u32 x 15 = x % 16 := by
  have h : (BitVec.ofInt 32 15).toNat = 2 ^ 4 - 1 := by decide
  have key : (BitVec.ofInt 32 x &&& BitVec.ofInt 32 15).toNat = (x % ((2 ^ 32 : Nat) : Int)).toNat % 2 ^ 4 := by
    rw [BitVec.toNat_and, BitVec.toNat_ofInt, h, Nat.and_two_pow_sub_one_eq_mod]
  show IntKind.u32.wrap ((BitVec.ofInt 32 x &&& BitVec.ofInt 32 15).toNat : Nat) = x % 16
  rw [key, IntKind.wrap_u32']
  omega
theorem and15_u8 (x : Int) : bits .and .u8 x 15 = x % 16 := by
  have h : (BitVec.ofInt 8 15).toNat = 2 ^ 4 - 1 := by decide
  have key : (BitVec.ofInt 8 x &&& BitVec.ofInt 8 15).toNat = (x % ((2 ^ 8 : Nat) : Int)).toNat % 2 ^ 4 := by
    rw [BitVec.toNat_and, BitVec.toNat_ofInt, h, Nat.and_two_pow_sub_one_eq_mod]
  show IntKind.u8.wrap ((BitVec.ofInt 8 x &&& BitVec.ofInt 8 15).toNat : Nat) = x % 16
  rw [key, IntKind.wrap_u8']
  omega
/-- 'x &^ 15'. -/
theorem andNot15_u32 (x : Int) (h0 : 0 ≤ x) (h1 : x < 4294967296) : bits .andNot .u32 x 15 = x - x % 16 := by
  obtain ⟨n, rfl⟩ := Int.eq_ofNat_of_zero_le h0
  rw [u32_andNot _ _ (by omega) (by omega) (by decide) (by decide)]
  have hn : n < 2 ^ 32 := by omega
  have e : n &&& 4294967280 = n - n % 16 := by
    have e2 : n - n % 16 = (n / 16) <<< 4 := by rw [Nat.shiftLeft_eq]; omega
    rw [e2]
    apply Nat.eq_of_testBit_eq
    intro i
    rw [Nat.testBit_and, Nat.testBit_shiftLeft, show n / 16 = n / 2 ^ 4 from rfl, Nat.testBit_div_two_pow]
    by_cases hi : 4 ≤ i
    · by_cases hi2 : i < 32
      · have : Nat.testBit 4294967280 i = true := by
          have : i = 4 ∨ i = 5 ∨ i = 6 ∨ i = 7 ∨ i = 8 ∨ i = 9 ∨ i = 10 ∨ i = 11 ∨ i = 12 ∨ i = 13 ∨ i = 14 ∨ i = 15 ∨ i = 16 ∨ i = 17 ∨ i = 18 ∨ i = 19 ∨ i = 20 ∨ i = 21 ∨ i = 22 ∨ i = 23 ∨ i = 24 ∨ i = 25 ∨ i = 26 ∨ i = 27 ∨ i = 28 ∨ i = 29 ∨ i = 30 ∨ i = 31 := by omega
          rcases this with rfl | rfl | rfl | rfl | rfl | rfl | rfl | rfl | rfl | rfl | rfl | rfl | rfl | rfl | rfl | rfl | rfl | rfl | rfl | rfl | rfl | rfl | rfl | rfl | rfl | rfl | rfl | rfl <;> decide
        simp [this, hi, Nat.sub_add_cancel hi]
      · have : n.testBit i = false := Nat.testBit_lt_two_pow (Nat.lt_of_lt_of_le hn (Nat.pow_le_pow_right (by decide) (by omega)))
        simp [this, Nat.sub_add_cancel hi]
    · have : i = 0 ∨ i = 1 ∨ i = 2 ∨ i = 3 := by omega
      have h4 : Nat.testBit 4294967280 i = false := by rcases this with rfl | rfl | rfl | rfl <;> decide
      simp [h4, hi]
  simp only [Int.toNat_natCast]
  show ((n &&& 4294967280 : Nat) : Int) = _
  rw [e]; omega
/-- '^x'. -/
theorem not_u32 (x : Int) (h0 : 0 ≤ x) (h1 : x < 4294967296) : bits .xor .u32 IntKind.u32.max x = 4294967295 - x := by
  have e : BitVec.ofInt 32 IntKind.u32.max = BitVec.allOnes 32 := by decide
  show IntKind.u32.wrap ((BitVec.ofInt 32 IntKind.u32.max ^^^ BitVec.ofInt 32 x).toNat : Nat) = _
  rw [e, BitVec.allOnes_xor, BitVec.toNat_not, BitVec.toNat_ofInt, IntKind.wrap_u32']
  omega
/-- 'x << 4 | v'. -/
theorem or4_u32 (x v : Int) (h0 : 0 ≤ x) (h1 : x < 268435456) (g0 : 0 ≤ v) (g1 : v < 16) : bits .or .u32 (x * 16) v = x * 16 + v := by
  rw [u32_or _ _ (by omega) (by omega) (by omega) (by omega), nat_join 4 _ _ (by omega) (by omega)]
  omega
theorem or4_u8 (x v : Int) (h0 : 0 ≤ x) (h1 : x < 16) (g0 : 0 ≤ v) (g1 : v < 16) : bits .or .u8 (x * 16) v = x * 16 + v := by
  rw [u8_or _ _ (by omega) (by omega) (by omega) (by omega), nat_join 4 _ _ (by omega) (by omega)]
  omega
end Go.Proofs.Ymbrcs
