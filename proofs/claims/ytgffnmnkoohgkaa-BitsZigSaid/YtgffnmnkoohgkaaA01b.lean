/- Chapter 01: Reverse. -/
import Derived.Test.YtgffnmnkoohgkaaA01
namespace Go.Ab
open Go.Proofs
set_option maxRecDepth 100000
set_option linter.unusedSimpArgs false

theorem reverse_ok (x : BitVec 64) (k : Int) (hk1 : -9223372036854775808 ≤ k) (M : Mem) : CallOk Try.prog 18 [.int .u64 x.toNat, .int .i64 k] M (.int .u64 ((revB (max 0 (min k 64)).toNat 0 x).toNat : Nat)) M := by
  refine CallW.alone ?_ rfl rfl M
  refine CallW.ofBody (rs := [.tmp 4]) Try.func18 rfl Try.ntmps18 rfl ?_
  refine W.pRow rfl rfl ?_
  simp only [go_sem, sint, Nat.reduceEqDiff, Nat.reduceLT, Nat.reduceAdd, Nat.reduceSub, reduceIte, reduceCtorEq]
  refine W.pSeq rfl (W.pRow rfl rfl ?_)
  simp only [go_sem, sint, Nat.reduceEqDiff, Nat.reduceLT, Nat.reduceAdd, Nat.reduceSub, reduceIte, reduceCtorEq]
  have hw : (if (if 64 < k then 64 else k) > 0 then (if 64 < k then 64 else k) else 0) = (((max 0 (min k 64)).toNat : Nat) : Int) := by split <;> split at * <;> omega
  rw [hw]
  have hw64 : (max 0 (min k 64)).toNat ≤ 64 := by omega
  generalize (max 0 (min k 64)).toNat = w at hw64
  refine W.pBlock rfl ?_
  refine W.pLoop rfl (fun m r M => ∃ (i : Nat) (out y : BitVec 64), m = w - i ∧ i ≤ w ∧ r.size = 19 ∧ r.get 0 = .int .u64 (y.toNat : Int) ∧ r.get 4 = .int .u64 (out.toNat : Int) ∧ r.get 7 = .int .i64 (w : Int) ∧ r.get 8 = .int .i64 (i : Int) ∧ revB (w - i) out y = revB w 0 x) w ?_ ?_
  · refine ⟨0, 0, x, by omega, by omega, ?_, ?_, ?_, ?_, ?_, rfl⟩ <;>
    simp only [go_sem, Nat.reduceEqDiff, Nat.reduceLT, Nat.reduceAdd, Nat.reduceSub, reduceIte, reduceCtorEq]
    · rfl
    · rfl
  · rintro m r M ⟨i, out, y, rfl, hi, hs, h0, h4, h7, h8, hrev⟩
    refine W.pRow rfl rfl ?_
    simp only [go_sem, sint, hs, h0, h4, h7, h8, Nat.reduceEqDiff, Nat.reduceLT, Nat.reduceAdd, Nat.reduceSub, reduceIte, reduceCtorEq]
    refine W.pSeq rfl (W.pCond rfl (decide ((i : Int) < w)) rfl ?_ ?_ ?_)
    · simp only [go_sem, hs, Nat.reduceEqDiff, Nat.reduceLT, Nat.reduceAdd, Nat.reduceSub, reduceIte]
    · intro hb
      have hlt : i < w := by simpa using hb
      refine W.pSkip rfl ?_
      simp only [go_sem]
      refine W.pSeq rfl (W.pBlock rfl (W.pRow rfl rfl ?_))
      simp only [go_sem, sint, hs, h0, h4, h7, h8, Nat.reduceEqDiff, Nat.reduceLT, Nat.reduceAdd, Nat.reduceSub, reduceIte, reduceCtorEq, ishl_u64, iand_one, ior_u64, Int.reduceLT]
      refine W.pRegion rfl ?_
      simp only [go_sem, sint, hs, h0, h4, h7, h8, Nat.reduceEqDiff, Nat.reduceLT, Nat.reduceAdd, Nat.reduceSub, reduceIte, reduceCtorEq, ishr_u64, Int.reduceLT]
      refine W.pRegion rfl ?_
      simp only [go_sem, sint, hs, h0, h4, h7, h8, Nat.reduceEqDiff, Nat.reduceLT, Nat.reduceAdd, Nat.reduceSub, reduceIte, reduceCtorEq]
      have hi1 : IntKind.i64.wrap ((i : Int) + 1) = ((i + 1 : Nat) : Int) := by rw [wrap_i64_id] <;> omega
      rw [loopK_normal]
      refine ⟨w - (i + 1), by omega, i + 1, out <<< 1 ||| (y &&& 1#64), y >>> 1, rfl, by omega, ?_, ?_, ?_, ?_, ?_, ?_⟩
      · simp only [go_sem, hs]
      · simp only [go_sem, hs, h0, Nat.reduceEqDiff, Nat.reduceLT, reduceIte]; rfl
      · simp only [go_sem, hs, Nat.reduceEqDiff, Nat.reduceLT, reduceIte]; rfl
      · simp only [go_sem, hs, h7, Nat.reduceEqDiff, Nat.reduceLT, reduceIte]
      · simp only [go_sem, hs, h8, Nat.reduceEqDiff, Nat.reduceLT, reduceIte, hi1]
      · rw [← hrev, show w - i = (w - (i + 1)) + 1 by omega]; rfl
    · intro hb
      have hlt : ¬ i < w := by simpa using hb
      have hiw : i = w := by omega
      subst hiw
      refine W.pExit rfl ?_
      simp only [go_sem, reduceIte]
      refine W.pRow rfl rfl ?_
      simp only [go_sem, sint, hs, h0, h4, h7, h8, Nat.reduceEqDiff, Nat.reduceLT, Nat.reduceAdd, Nat.reduceSub, reduceIte, reduceCtorEq]
      refine W.pRet rfl ?_
      simp only [go_sem, sint, hs, h0, h4, h7, h8, Nat.reduceEqDiff, Nat.reduceLT, Nat.reduceAdd, Nat.reduceSub, reduceIte, reduceCtorEq]
      rw [← hrev, Nat.sub_self]
      rfl
end Go.Ab
