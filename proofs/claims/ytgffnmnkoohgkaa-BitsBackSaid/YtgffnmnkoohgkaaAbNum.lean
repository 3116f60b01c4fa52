/- Whole numbers as the model keeps them, and bit vectors: plain law. -/
import Derived.Test.YtgffnmnkoohgkaaAbX
set_option linter.unusedSimpArgs false
set_option linter.unusedVariables false
namespace Go.Ab

theorem pow64 : (2 : Int) ^ (64 : Nat) = 18446744073709551616 := by decide
theorem wrap_u64 (n : Int) : IntKind.u64.wrap n = n % 18446744073709551616 := by
  simp [IntKind.wrap, IntKind.bits, IntKind.signed]
theorem wrap_u64_bv (n : Int) : IntKind.u64.wrap n = ((BitVec.ofInt 64 n).toNat : Int) := by
  rw [wrap_u64, BitVec.toNat_ofInt]
  omega
theorem wrap_i64 (n : Int) : IntKind.i64.wrap n = if 9223372036854775808 ≤ n % 18446744073709551616 then n % 18446744073709551616 - 18446744073709551616 else n % 18446744073709551616 := by
  simp [IntKind.wrap, IntKind.bits, IntKind.signed]
theorem wrap_i64_id {n : Int} (h1 : -9223372036854775808 ≤ n) (h2 : n < 9223372036854775808) : IntKind.i64.wrap n = n := by
  rw [wrap_i64]; split <;> omega
theorem wrap_u64_id {n : Int} (h1 : 0 ≤ n) (h2 : n < 18446744073709551616) : IntKind.u64.wrap n = n := by
  rw [wrap_u64]; omega
theorem wrap_u64_toNat (x : BitVec 64) : IntKind.u64.wrap (x.toNat : Int) = x.toNat := by
  have := x.isLt
  exact wrap_u64_id (by omega) (by omega)
theorem ofInt_toNat (x : BitVec 64) : BitVec.ofInt 64 (x.toNat : Int) = x := by
  apply BitVec.eq_of_toNat_eq
  rw [BitVec.toNat_ofInt]
  have := x.isLt
  omega
theorem ofInt_toInt (x : BitVec 64) : BitVec.ofInt 64 x.toInt = x := by simp
theorem shl_u64 (x : BitVec 64) (j : Nat) : IntKind.u64.wrap ((x.toNat : Int) * 2 ^ (min j 64)) = ((x <<< j).toNat : Int) := by
  rw [wrap_u64, BitVec.toNat_shiftLeft, Nat.shiftLeft_eq]
  by_cases h : j ≤ 64
  · rw [Nat.min_eq_left h, Int.natCast_emod, Int.natCast_mul, Int.natCast_pow]
    rfl
  · rw [Nat.min_eq_right (by omega)]
    have h1 : (x.toNat * 2 ^ j) % 2 ^ 64 = 0 := by
      have : (2 : Nat) ^ j = 2 ^ 64 * 2 ^ (j - 64) := by rw [← Nat.pow_add]; congr 1; omega
      rw [this, Nat.mul_left_comm]; exact Nat.mul_mod_right _ _
    rw [h1, pow64]
    exact Int.mul_emod_left _ _
theorem shr_u64 (x : BitVec 64) (j : Nat) : (x.toNat : Int).fdiv (2 ^ (min j 64)) = ((x >>> j).toNat : Int) := by
  rw [BitVec.toNat_ushiftRight, Nat.shiftRight_eq_div_pow]
  have hx := x.isLt
  by_cases h : j ≤ 64
  · rw [Nat.min_eq_left h, Int.fdiv_eq_ediv_of_nonneg _ (Int.pow_nonneg (by omega)), Int.natCast_ediv, Int.natCast_pow]
    rfl
  · rw [Nat.min_eq_right (by omega), Int.fdiv_eq_ediv_of_nonneg _ (Int.pow_nonneg (by omega)), pow64]
    have h1 : x.toNat / 2 ^ j = 0 := by
      apply Nat.div_eq_of_lt
      exact Nat.lt_of_lt_of_le hx (Nat.pow_le_pow_right (by omega) (by omega))
    rw [h1]
    omega
theorem tmod_neg {n k : Int} (hk : 0 < k) (h : n.tmod k < 0) : n.tmod k + k = n % k := by
  rw [Int.tmod_eq_emod] at h ⊢
  have := Int.emod_nonneg n (show k ≠ 0 by omega)
  split at h <;> rename_i hc
  · omega
  · rw [if_neg hc]; omega
theorem tmod_pos {n k : Int} (hk : 0 < k) (h : ¬ n.tmod k < 0) : n.tmod k = n % k := by
  rw [Int.tmod_eq_emod] at h ⊢
  have := Int.emod_lt_of_pos n hk
  split at h <;> rename_i hc
  · rw [if_pos hc]; omega
  · omega
theorem iand_u64 (x y : BitVec 64) : iand .u64 (x.toNat : Int) (y.toNat : Int) = ((x &&& y).toNat : Int) := by
  have h : iand .u64 (x.toNat : Int) (y.toNat : Int) = IntKind.u64.wrap ((BitVec.ofInt 64 (x.toNat : Int) &&& BitVec.ofInt 64 (y.toNat : Int)).toNat : Int) := rfl
  rw [h, ofInt_toNat, ofInt_toNat, wrap_u64_toNat]
theorem ior_u64 (x y : BitVec 64) : ior .u64 (x.toNat : Int) (y.toNat : Int) = ((x ||| y).toNat : Int) := by
  have h : ior .u64 (x.toNat : Int) (y.toNat : Int) = IntKind.u64.wrap ((BitVec.ofInt 64 (x.toNat : Int) ||| BitVec.ofInt 64 (y.toNat : Int)).toNat : Int) := rfl
  rw [h, ofInt_toNat, ofInt_toNat, wrap_u64_toNat]
theorem ixor_u64 (x y : BitVec 64) : ixor .u64 (x.toNat : Int) (y.toNat : Int) = ((x ^^^ y).toNat : Int) := by
  have h : ixor .u64 (x.toNat : Int) (y.toNat : Int) = IntKind.u64.wrap ((BitVec.ofInt 64 (x.toNat : Int) ^^^ BitVec.ofInt 64 (y.toNat : Int)).toNat : Int) := rfl
  rw [h, ofInt_toNat, ofInt_toNat, wrap_u64_toNat]
theorem ishl_u64 (x : BitVec 64) (j : Int) : ishl .u64 (x.toNat : Int) j = ((x <<< j.toNat).toNat : Int) := shl_u64 x j.toNat
theorem ishr_u64 (x : BitVec 64) (j : Int) : ishr .u64 (x.toNat : Int) j = ((x >>> j.toNat).toNat : Int) := shr_u64 x j.toNat
theorem iand_one (x : BitVec 64) : iand .u64 (x.toNat : Int) 1 = ((x &&& 1#64).toNat : Int) := iand_u64 x 1#64
theorem iand63 (k : Int) : iand .i64 k 63 = k % 64 := by
  have h : (BitVec.ofInt 64 k &&& BitVec.ofInt 64 63).toNat = (k % 64).toNat := by
    rw [BitVec.toNat_and, BitVec.toNat_ofInt]
    have : (BitVec.ofInt 64 63).toNat = 2 ^ 6 - 1 := by decide
    rw [this, Nat.and_two_pow_sub_one_eq_mod]
    omega
  have e : iand .i64 k 63 = IntKind.i64.wrap ((BitVec.ofInt 64 k &&& BitVec.ofInt 64 63).toNat : Int) := rfl
  rw [e, h, wrap_i64_id] <;> omega
theorem toNat_sub64 (j : Int) (h0 : 0 ≤ j) : (64 - j).toNat = 64 - j.toNat := by omega
end Go.Ab
