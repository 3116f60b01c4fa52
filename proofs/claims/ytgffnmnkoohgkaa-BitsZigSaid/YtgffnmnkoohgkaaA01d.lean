/- Chapter 01: Zig and Zag. -/
import Derived.Test.YtgffnmnkoohgkaaA01b
namespace Go.Ab
open Go.Proofs
set_option maxRecDepth 100000
set_option linter.unusedSimpArgs false

def zigI (n : Int) : Int := if n < 0 then -2 * n - 1 else 2 * n
def zagI (u : Int) : Int := if u % 2 = 1 then -(u / 2) - 1 else u / 2

theorem ixor_zero {a : Int} (h0 : 0 ≤ a) (h1 : a < 18446744073709551616) : ixor .u64 a 0 = a := by
  have e : a = ((BitVec.ofInt 64 a).toNat : Int) := by rw [BitVec.toNat_ofInt]; omega
  rw [e]
  have := ixor_u64 (BitVec.ofInt 64 a) 0#64
  simpa using this
theorem ixor_ones {a : Int} (h0 : 0 ≤ a) (h1 : a < 18446744073709551616) : ixor .u64 a 18446744073709551615 = 18446744073709551615 - a := by
  have e : a = ((BitVec.ofInt 64 a).toNat : Int) := by rw [BitVec.toNat_ofInt]; omega
  rw [e]
  have h := ixor_u64 (BitVec.ofInt 64 a) (BitVec.allOnes 64)
  rw [BitVec.xor_allOnes, BitVec.toNat_not] at h
  have h2 : ((BitVec.allOnes 64).toNat : Int) = 18446744073709551615 := by decide
  rw [h2] at h
  rw [h]
  have := (BitVec.ofInt 64 a).isLt
  omega

theorem zig_ok (n : Int) (h1 : -9223372036854775808 ≤ n) (h2 : n < 9223372036854775808) (M : Mem) : CallOk Try.prog 28 [.int .i64 n] M (.int .u64 (zigI n)) M := by
  refine CallW.alone ?_ rfl rfl M
  refine CallW.ofBody (rs := [.tmp 2]) Try.func28 rfl Try.ntmps28 rfl ?_
  have key : ixor .u64 (ishl .u64 (IntKind.u64.wrap n) 1) (IntKind.u64.wrap (ishr .i64 n 63)) = zigI n := by
    have e1 : ishl .u64 (IntKind.u64.wrap n) 1 = (n % 18446744073709551616 * 2) % 18446744073709551616 := by
      unfold ishl; rw [wrap_u64, wrap_u64]; rfl
    have e2 : ishr .i64 n 63 = n / 9223372036854775808 := by
      unfold ishr
      rw [Int.fdiv_eq_ediv_of_nonneg _ (Int.pow_nonneg (by omega))]; rfl
    rw [e1, e2, wrap_u64]
    unfold zigI
    by_cases hn : n < 0
    · rw [if_pos hn, show n / 9223372036854775808 % 18446744073709551616 = 18446744073709551615 by omega, ixor_ones (by omega) (by omega)]
      omega
    · rw [if_neg hn, show n / 9223372036854775808 % 18446744073709551616 = 0 by omega, ixor_zero (by omega) (by omega)]
      omega
  refine W.pRow rfl rfl ?_
  simp only [go_sem, sint, Nat.reduceEqDiff, Nat.reduceLT, Nat.reduceAdd, Nat.reduceSub, reduceIte, reduceCtorEq]
  refine W.pRow rfl rfl ?_
  simp only [go_sem, vconv_int Try.underlying3 Try.underlying25, sint, Nat.reduceEqDiff, Nat.reduceLT, Nat.reduceAdd, Nat.reduceSub, reduceIte, reduceCtorEq, Int.reduceLT, key]
  refine W.pRet rfl ?_
  simp only [go_sem, Nat.reduceEqDiff, Nat.reduceLT, Nat.reduceAdd, Nat.reduceSub, reduceIte, reduceCtorEq]

theorem iand_u64_one {u : Int} (h0 : 0 ≤ u) (h1 : u < 18446744073709551616) : iand .u64 u 1 = u % 2 := by
  have e : u = ((BitVec.ofInt 64 u).toNat : Int) := by rw [BitVec.toNat_ofInt]; omega
  have h := iand_u64 (BitVec.ofInt 64 u) 1#64
  rw [← e] at h
  have e2 : iand .u64 u 1 = iand .u64 u ((1#64 : BitVec 64).toNat : Int) := rfl
  rw [e2, h, BitVec.toNat_and]
  have e3 : (1#64 : BitVec 64).toNat = 2 ^ 1 - 1 := rfl
  rw [e3, Nat.and_two_pow_sub_one_eq_mod]
  omega
theorem ixor_i64_zero {a : Int} (h0 : 0 ≤ a) (h1 : a < 9223372036854775808) : ixor .i64 a 0 = a := by
  have e : ixor .i64 a 0 = IntKind.i64.wrap ((BitVec.ofInt 64 a ^^^ 0#64).toNat : Int) := rfl
  rw [e, BitVec.xor_zero, BitVec.toNat_ofInt, wrap_i64_id] <;> omega
theorem ixor_i64_ones {a : Int} (h0 : 0 ≤ a) (h1 : a < 9223372036854775808) : ixor .i64 a (-1) = -a - 1 := by
  have e : ixor .i64 a (-1) = IntKind.i64.wrap ((BitVec.ofInt 64 a ^^^ BitVec.allOnes 64).toNat : Int) := rfl
  rw [e, BitVec.xor_allOnes, BitVec.toNat_not, BitVec.toNat_ofInt, wrap_i64]
  split <;> omega

theorem zag_ok (u : Int) (h1 : 0 ≤ u) (h2 : u < 18446744073709551616) (M : Mem) : CallOk Try.prog 30 [.int .u64 u] M (.int .i64 (zagI u)) M := by
  refine CallW.alone ?_ rfl rfl M
  refine CallW.ofBody (rs := [.tmp 2]) Try.func30 rfl Try.ntmps30 rfl ?_
  have key : ixor .i64 (IntKind.i64.wrap (ishr .u64 u 1)) (IntKind.i64.wrap (-IntKind.i64.wrap (iand .u64 u 1))) = zagI u := by
    have e2 : ishr .u64 u 1 = u / 2 := by
      unfold ishr
      rw [Int.fdiv_eq_ediv_of_nonneg _ (Int.pow_nonneg (by omega))]; rfl
    rw [e2, iand_u64_one h1 h2, wrap_i64_id (n := u / 2) (by omega) (by omega), wrap_i64_id (n := u % 2) (by omega) (by omega)]
    unfold zagI
    by_cases hu : u % 2 = 1
    · rw [if_pos hu, hu, show IntKind.i64.wrap (-1) = -1 from wrap_i64_id (by omega) (by omega), ixor_i64_ones (by omega) (by omega)]
    · rw [if_neg hu, show u % 2 = 0 by omega, show IntKind.i64.wrap (-0) = 0 from wrap_i64_id (by omega) (by omega), ixor_i64_zero (by omega) (by omega)]
  refine W.pRow rfl rfl ?_
  simp only [go_sem, sint, Nat.reduceEqDiff, Nat.reduceLT, Nat.reduceAdd, Nat.reduceSub, reduceIte, reduceCtorEq]
  refine W.pRow rfl rfl ?_
  simp only [go_sem, vconv_int Try.underlying25 Try.underlying3, sint, Nat.reduceEqDiff, Nat.reduceLT, Nat.reduceAdd, Nat.reduceSub, reduceIte, reduceCtorEq, Int.reduceLT, key]
  refine W.pRet rfl ?_
  simp only [go_sem, Nat.reduceEqDiff, Nat.reduceLT, Nat.reduceAdd, Nat.reduceSub, reduceIte, reduceCtorEq]

theorem zag_zig {n : Int} (h1 : -9223372036854775808 ≤ n) (h2 : n < 9223372036854775808) : zagI (zigI n) = n := by unfold zagI zigI; split <;> split at * <;> omega
theorem zig_zag {u : Int} (h1 : 0 ≤ u) (h2 : u < 18446744073709551616) : zigI (zagI u) = u := by unfold zagI zigI; split <;> split at * <;> omega
end Go.Ab
