/-
  Masks and joins of int's bits, at whatever sign.
-/
import Derived.Test.YtlaodkolkoefgaaBase
namespace Go.Proofs.Ytlaodkolkoefgaa
set_option linter.unusedSimpArgs false
set_option linter.unusedVariables false
open Go.RowKit

theorem i64_mask (i : Nat) (hi : i ≤ 62) (x : Int) : bits .and .i64 x (2 ^ i - 1) = x % 2 ^ i := by
  have hp : (2 : Nat) ^ i ≤ 2 ^ 62 := Nat.pow_le_pow_right (by decide) hi
  have hp0 : 0 < (2 : Nat) ^ i := Nat.pow_pos (by decide)
  have e : ((2 : Int) ^ i - 1) = (((2 : Nat) ^ i - 1 : Nat) : Int) := by
    rw [Int.natCast_sub (by omega)]; simp
  have hb : (BitVec.ofInt 64 ((2 : Int) ^ i - 1)).toNat = 2 ^ i - 1 := by
    rw [e, BitVec.ofInt_natCast, BitVec.toNat_ofNat]
    exact Nat.mod_eq_of_lt (by omega)
  have hr : (BitVec.ofInt 64 x &&& BitVec.ofInt 64 ((2 : Int) ^ i - 1)).toNat = (x % 2 ^ i).toNat := by
    rw [BitVec.toNat_and, hb, Nat.and_two_pow_sub_one_eq_mod, BitVec.toNat_ofInt]
    have hd : ((2 : Int) ^ i) ∣ ((2 : Int) ^ 64) := ⟨2 ^ (64 - i), by rw [← Int.pow_add]; congr 1; omega⟩
    have h1 : (((x % ((2 : Nat) ^ 64 : Nat)).toNat % 2 ^ i : Nat) : Int) = x % 2 ^ i := by
      rw [Int.natCast_emod, Int.toNat_of_nonneg (Int.emod_nonneg _ (by decide))]
      simp only [Int.natCast_pow]
      exact Int.emod_emod_of_dvd x hd
    have h2 := congrArg Int.toNat h1
    rwa [Int.toNat_natCast] at h2
  have hlo : 0 ≤ x % (2 : Int) ^ i := Int.emod_nonneg _ (by have : (0 : Int) < 2 ^ i := Int.pow_pos (by decide); omega)
  have hlt : x % (2 : Int) ^ i < 2 ^ i := Int.emod_lt_of_pos _ (Int.pow_pos (by decide))
  have hle : (2 : Int) ^ i ≤ 4611686018427387904 := by
    have : ((2 : Nat) ^ i : Int) ≤ ((2 ^ 62 : Nat) : Int) := by exact_mod_cast hp
    simpa using this
  show IntKind.wrap .i64 (((BitVec.ofInt 64 x &&& BitVec.ofInt 64 ((2 : Int) ^ i - 1)).toNat : Nat) : Int) = x % 2 ^ i
  rw [hr, Int.toNat_of_nonneg hlo]
  exact IntWalk.i64_in _ (by omega)

theorem i64_and15 (x : Int) : bits .and .i64 x 15 = x % 16 := i64_mask 4 (by decide) x
theorem i64_and7 (x : Int) : bits .and .i64 x 7 = x % 8 := i64_mask 3 (by decide) x
theorem i64_and4095 (x : Int) : bits .and .i64 x 4095 = x % 4096 := i64_mask 12 (by decide) x

theorem wraps_i64 : ∀ n : Int, 0 ≤ n → n < 2 ^ 62 → IntKind.i64.wrap n = n := fun n h0 h1 => IntWalk.i64_in n (by omega)
theorem i64_or (i : Nat) (x y : Int) (hx0 : 0 ≤ x) (hx : x % 2 ^ i = 0) (hx1 : x < 2 ^ 62) (hy0 : 0 ≤ y) (hy : y < 2 ^ i) (hy1 : y < 2 ^ 62) : bits .or .i64 x y = x + y :=
  bits_join .i64 62 (by decide) wraps_i64 i x y hx0 hx hx1 hy0 hy hy1
end Go.Proofs.Ytlaodkolkoefgaa
