/- Chapter 01: BitsZig, the whole. -/
import Derived.Test.YtgffnmnkoohgkaaA01i
namespace Go.Ab
open Go.Proofs
set_option maxRecDepth 100000
set_option linter.unusedSimpArgs false

theorem zig_law (n u k : Int) (hn0 : -9223372036854775808 ≤ n) (hn1 : n < 9223372036854775808) (hk0 : -9223372036854775808 ≤ k) (hk1 : k < 9223372036854775808) (hu0 : 0 ≤ u) (hu : u < 18446744073709551616) (M : Mem) :
    CallW Try.prog 6 [.int .i64 n, .int .u64 u, .int .i64 k] M fun v _ => v = .bool true := by
  have hz0 : 0 ≤ zigI n := by unfold zigI; split <;> omega
  have hz1 : zigI n < 18446744073709551616 := by unfold zigI; split <;> omega
  have hg0 : -9223372036854775808 ≤ zagI u := by unfold zagI; split <;> omega
  have hg1 : zagI u < 9223372036854775808 := by unfold zagI; split <;> omega
  refine CallW.ofBody (rs := [.tmp 6]) Try.func6 rfl Try.ntmps6 rfl ?_
  refine W.pRow rfl rfl ?_
  simp only [go_sem, sint, Nat.reduceEqDiff, Nat.reduceLT, Nat.reduceAdd, Nat.reduceSub, reduceIte, reduceCtorEq]
  refine W.pSeq rfl (W.pRow rfl rfl ?_)
  simp only [go_sem, sint, Nat.reduceEqDiff, Nat.reduceLT, Nat.reduceAdd, Nat.reduceSub, reduceIte, reduceCtorEq]
  refine stCall rfl (by kernel_rfl) (zig_ok n hn0 hn1 M) (by simp only [go_sem, Nat.reduceEqDiff, Nat.reduceLT, Nat.reduceAdd, Nat.reduceSub, reduceIte]) ?_
  simp only [go_sem, sint, Nat.reduceEqDiff, Nat.reduceLT, Nat.reduceAdd, Nat.reduceSub, reduceIte, reduceCtorEq]
  refine stCall rfl (by kernel_rfl) (zag_ok (zigI n) hz0 hz1 M) (by simp only [go_sem, Nat.reduceEqDiff, Nat.reduceLT, Nat.reduceAdd, Nat.reduceSub, reduceIte]) ?_
  rw [zag_zig hn0 hn1]
  simp only [go_sem, sint, Nat.reduceEqDiff, Nat.reduceLT, Nat.reduceAdd, Nat.reduceSub, reduceIte, reduceCtorEq, bne_self_eq_false]
  repeat (refine sGuard rfl ?_; simp only [go_sem, sint, Nat.reduceEqDiff, Nat.reduceLT, Nat.reduceAdd, Nat.reduceSub, reduceIte, reduceCtorEq])
  refine stCall rfl (by kernel_rfl) (zag_ok u hu0 hu M) (by simp only [go_sem, Nat.reduceEqDiff, Nat.reduceLT, Nat.reduceAdd, Nat.reduceSub, reduceIte, reduceCtorEq]) ?_
  repeat (refine sGuard rfl ?_; simp only [go_sem, sint, Nat.reduceEqDiff, Nat.reduceLT, Nat.reduceAdd, Nat.reduceSub, reduceIte, reduceCtorEq, bne_self_eq_false])
  refine stCall rfl (by kernel_rfl) (zig_ok (zagI u) hg0 hg1 M) (by simp only [go_sem, Nat.reduceEqDiff, Nat.reduceLT, Nat.reduceAdd, Nat.reduceSub, reduceIte, reduceCtorEq]) ?_
  rw [zig_zag hu0 hu]
  repeat (refine sGuard rfl ?_; simp only [go_sem, sint, Nat.reduceEqDiff, Nat.reduceLT, Nat.reduceAdd, Nat.reduceSub, reduceIte, reduceCtorEq, bne_self_eq_false])
  refine W.pCond rfl false rfl (by simp only [go_sem, Nat.reduceEqDiff, Nat.reduceLT, Nat.reduceAdd, Nat.reduceSub, reduceIte, reduceCtorEq]) (fun h => by cases h) fun _ => W.pSkip rfl ?_
  simp only [go_sem]
  refine W.pRow rfl rfl ?_
  simp only [go_sem, sint, Nat.reduceEqDiff, Nat.reduceLT, Nat.reduceAdd, Nat.reduceSub, reduceIte, reduceCtorEq, bne_self_eq_false]
  refine W.pSeq rfl (W.pRow rfl rfl ?_)
  simp only [go_sem, sint, Nat.reduceEqDiff, Nat.reduceLT, Nat.reduceAdd, Nat.reduceSub, reduceIte, reduceCtorEq]
  refine W.pCond rfl (decide (n < 0)) rfl (by simp only [go_sem, Nat.reduceEqDiff, Nat.reduceLT, Nat.reduceAdd, Nat.reduceSub, reduceIte, reduceCtorEq]) ?_ ?_
  · intro hb
    have hn : n < 0 := by simpa using hb
    have wn1 : IntKind.i64.wrap (n + 1) = n + 1 := wrap_i64_id (by omega) (by omega)
    have wn2 : IntKind.i64.wrap (-(n + 1)) = -(n + 1) := wrap_i64_id (by omega) (by omega)
    refine W.pRegion rfl ?_
    simp only [go_sem, sint, Nat.reduceEqDiff, Nat.reduceLT, Nat.reduceAdd, Nat.reduceSub, reduceIte, reduceCtorEq]
    refine W.pSeq rfl (W.pRow rfl rfl ?_)
    simp only [go_sem, sint, Nat.reduceEqDiff, Nat.reduceLT, Nat.reduceAdd, Nat.reduceSub, reduceIte, reduceCtorEq]
    refine W.pCond rfl (decide (k < 0)) rfl (by simp only [go_sem, Nat.reduceEqDiff, Nat.reduceLT, Nat.reduceAdd, Nat.reduceSub, reduceIte, reduceCtorEq]) ?_ ?_
    · intro hb2
      have hk : k < 0 := by simpa using hb2
      have wk1 : IntKind.i64.wrap (k + 1) = k + 1 := wrap_i64_id (by omega) (by omega)
      have wk2 : IntKind.i64.wrap (-(k + 1)) = -(k + 1) := wrap_i64_id (by omega) (by omega)
      refine W.pRegion rfl ?_
      simp only [go_sem, sint, Nat.reduceEqDiff, Nat.reduceLT, Nat.reduceAdd, Nat.reduceSub, reduceIte, reduceCtorEq]
      refine zig_mid n u k hn0 hn1 hk0 hk1 hu0 hu _ _ ?_ ?_ ?_ ?_ ?_ ?_
      all_goals simp only [go_sem, farI, hk, hn, wn1, wn2, wk1, wk2, Nat.reduceEqDiff, Nat.reduceLT, Nat.reduceAdd, Nat.reduceSub, reduceIte, reduceCtorEq]
    · intro hb2
      have hk : ¬ k < 0 := by simpa using hb2
      refine W.pSkip rfl ?_
      simp only [go_sem]
      refine zig_mid n u k hn0 hn1 hk0 hk1 hu0 hu _ _ ?_ ?_ ?_ ?_ ?_ ?_
      all_goals simp only [go_sem, farI, hk, hn, wn1, wn2, Nat.reduceEqDiff, Nat.reduceLT, Nat.reduceAdd, Nat.reduceSub, reduceIte, reduceCtorEq]
  · intro hb
    have hn : ¬ n < 0 := by simpa using hb
    refine W.pSkip rfl ?_
    simp only [go_sem]
    refine W.pSeq rfl (W.pRow rfl rfl ?_)
    simp only [go_sem, sint, Nat.reduceEqDiff, Nat.reduceLT, Nat.reduceAdd, Nat.reduceSub, reduceIte, reduceCtorEq]
    refine W.pCond rfl (decide (k < 0)) rfl (by simp only [go_sem, Nat.reduceEqDiff, Nat.reduceLT, Nat.reduceAdd, Nat.reduceSub, reduceIte, reduceCtorEq]) ?_ ?_
    · intro hb2
      have hk : k < 0 := by simpa using hb2
      have wk1 : IntKind.i64.wrap (k + 1) = k + 1 := wrap_i64_id (by omega) (by omega)
      have wk2 : IntKind.i64.wrap (-(k + 1)) = -(k + 1) := wrap_i64_id (by omega) (by omega)
      refine W.pRegion rfl ?_
      simp only [go_sem, sint, Nat.reduceEqDiff, Nat.reduceLT, Nat.reduceAdd, Nat.reduceSub, reduceIte, reduceCtorEq]
      refine zig_mid n u k hn0 hn1 hk0 hk1 hu0 hu _ _ ?_ ?_ ?_ ?_ ?_ ?_
      all_goals simp only [go_sem, farI, hk, hn, wk1, wk2, Nat.reduceEqDiff, Nat.reduceLT, Nat.reduceAdd, Nat.reduceSub, reduceIte, reduceCtorEq]
    · intro hb2
      have hk : ¬ k < 0 := by simpa using hb2
      refine W.pSkip rfl ?_
      simp only [go_sem]
      refine zig_mid n u k hn0 hn1 hk0 hk1 hu0 hu _ _ ?_ ?_ ?_ ?_ ?_ ?_
      all_goals simp only [go_sem, farI, hk, hn, Nat.reduceEqDiff, Nat.reduceLT, Nat.reduceAdd, Nat.reduceSub, reduceIte, reduceCtorEq]
end Go.Ab
