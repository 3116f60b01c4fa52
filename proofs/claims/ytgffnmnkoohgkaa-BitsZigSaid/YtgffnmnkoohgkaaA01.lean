/- Chapter 01: the chapter's examples, run; numbers' contracts. -/
import Derived.Test.YtgffnmnkoohgkaaAbNum
import Derived.Test.YtgffnmnkoohgkaaP01
import Derived.Test.YtgffnmnkoohgkaaChecked
import Derived.KernelRfl
namespace Go.Ab
open Go.Proofs
set_option maxRecDepth 100000
set_option linter.unusedSimpArgs false

theorem mixed : Try.prog.follows .mixedOrders = true := by kernel_rfl

def okTrue : Option (Value × Mem) → Bool
  | some (.bool true, _) => true
  | _ => false
theorem okTrue_eq {x : Option (Value × Mem)} (h : okTrue x = true) : ∃ M, x = some (.bool true, M) := by
  unfold okTrue at h
  split at h
  · exact ⟨_, rfl⟩
  · cases h

theorem works_run : okTrue (aCall Try.prog 1000 50 14 [] Mem.empty) = true := by kernel_rfl
theorem works_ok (M : Mem) : CallOk Try.prog 14 [] M (.bool true) M := by
  obtain ⟨M', h⟩ := okTrue_eq works_run
  exact (aCall_ok mixed 1000 50 14 [] Mem.empty _ M' h).alone rfl rfl M

theorem CallW.alone {P : Program} {f : FuncId} {args : List Value} {v : Value} (h : CallW P f args Mem.empty fun u _ => u = v) (ha : args.all (flat 4) = true) (hv : flat 4 v = true) (M : Mem) : CallOk P f args M v M := by
  obtain ⟨u, M', h1, rfl⟩ := h
  exact h1.alone ha hv M

theorem bring_ok (n k : Int) (hk : 0 < k) (hk2 : k < 9223372036854775808) (M : Mem) : CallOk Try.prog 19 [.int .i64 n, .int .i64 k] M (.int .i64 (n % k)) M := by
  have hn : IntKind.i64.wrap (n % k) = n % k := by
    have h1 := Int.emod_nonneg n (show k ≠ 0 by omega)
    have h2 := Int.emod_lt_of_pos n hk
    rw [wrap_i64_id] <;> omega
  refine CallW.alone ?_ rfl rfl M
  refine CallW.ofBody (rs := [.tmp 4]) Try.func19 rfl Try.ntmps19 rfl ?_
  have hk0 : ¬ k = 0 := by omega
  refine W.pRow rfl rfl ?_
  simp only [go_sem, sint, Nat.reduceEqDiff, Nat.reduceLT, Nat.reduceAdd, Nat.reduceSub, reduceIte, reduceCtorEq, hk0]
  refine W.pRow rfl rfl ?_
  simp only [go_sem, sint, Nat.reduceEqDiff, Nat.reduceLT, Nat.reduceAdd, Nat.reduceSub, reduceIte, reduceCtorEq, hk0]
  refine W.pSeq rfl (W.pRow rfl rfl ?_)
  simp only [go_sem, sint, Nat.reduceEqDiff, Nat.reduceLT, Nat.reduceAdd, Nat.reduceSub, reduceIte, reduceCtorEq, hk0]
  refine W.pCond rfl (decide (n.tmod k < 0)) rfl ?_ ?_ ?_
  · simp only [go_sem, Nat.reduceEqDiff, Nat.reduceLT, Nat.reduceAdd, Nat.reduceSub, reduceIte]
  · intro hb
    have hlt : n.tmod k < 0 := by simpa using hb
    refine W.pRegion rfl ?_
    simp only [go_sem, sint, Nat.reduceEqDiff, Nat.reduceLT, Nat.reduceAdd, Nat.reduceSub, reduceIte, reduceCtorEq]
    refine W.pRow rfl rfl ?_
    simp only [go_sem, sint, Nat.reduceEqDiff, Nat.reduceLT, Nat.reduceAdd, Nat.reduceSub, reduceIte, reduceCtorEq]
    refine W.pRet rfl ?_
    simp only [go_sem, sint, Nat.reduceEqDiff, Nat.reduceLT, Nat.reduceAdd, Nat.reduceSub, reduceIte, reduceCtorEq]
    rw [tmod_neg hk hlt, hn]
  · intro hb
    have hge : ¬ n.tmod k < 0 := by simpa using hb
    refine W.pSkip rfl ?_
    simp only [go_sem]
    refine W.pRow rfl rfl ?_
    simp only [go_sem, sint, Nat.reduceEqDiff, Nat.reduceLT, Nat.reduceAdd, Nat.reduceSub, reduceIte, reduceCtorEq]
    refine W.pRet rfl ?_
    simp only [go_sem, sint, Nat.reduceEqDiff, Nat.reduceLT, Nat.reduceAdd, Nat.reduceSub, reduceIte, reduceCtorEq]
    rw [tmod_pos hk hge]

theorem rotate_ok (x : BitVec 64) (k : Int) (M : Mem) : CallOk Try.prog 17 [.int .u64 x.toNat, .int .i64 k] M (.int .u64 ((rotB x (k % 64).toNat).toNat : Nat)) M := by
  unfold rotB
  refine CallW.alone ?_ rfl rfl M
  refine CallW.ofBody (rs := [.tmp 4]) Try.func17 rfl Try.ntmps17 rfl ?_
  have h0 : 0 ≤ k % 64 := Int.emod_nonneg _ (by omega)
  have h64 : k % 64 < 64 := Int.emod_lt_of_pos _ (by omega)
  have hj : ¬ (k % 64 < 0) := by omega
  have hj2 : ¬ (64 - k % 64 < 0) := by omega
  have hs : IntKind.i64.wrap (64 - k % 64) = 64 - k % 64 := wrap_i64_id (by omega) (by omega)
  refine W.pRow rfl rfl ?_
  simp only [go_sem, sint, Nat.reduceEqDiff, Nat.reduceLT, Nat.reduceAdd, Nat.reduceSub, reduceIte, reduceCtorEq]
  refine W.pRow rfl rfl ?_
  simp only [go_sem, sint, Nat.reduceEqDiff, Nat.reduceLT, Nat.reduceAdd, Nat.reduceSub, reduceIte, reduceCtorEq, iand63]
  refine W.pDrawRow mixed (n := 15) (call := fun _ _ _ => none) (fun f args M v M' h => by cases h) rfl rfl (by kernel_rfl) (by kernel_rfl) (by simp only [go_sem]) (by kernel_rfl) ?_
  simp only [go_sem, sint, Nat.reduceEqDiff, Nat.reduceLT, Nat.reduceAdd, Nat.reduceSub, reduceIte, reduceCtorEq, iand63, hj, hj2, hs, ishl_u64, ishr_u64, ior_u64]
  refine W.pRet rfl ?_
  simp only [go_sem, sint, Nat.reduceEqDiff, Nat.reduceLT, Nat.reduceAdd, Nat.reduceSub, reduceIte, reduceCtorEq, toNat_sub64 _ h0]
end Go.Ab
