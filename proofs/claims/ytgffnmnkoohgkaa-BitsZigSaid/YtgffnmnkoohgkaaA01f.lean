/- Chapter 01: Varint of no bytes. -/
import Derived.Test.YtgffnmnkoohgkaaA01e
namespace Go.Ab
open Go.Proofs
set_option maxRecDepth 100000
set_option linter.unusedSimpArgs false
section
variable {P : Program} {r : Env} {M : Mem} {d : Option Tmp} {ty : TypeId} {p : String} {af : Array Edge} {g : Option (Nat × Bool)}
theorem oBuild1 {t : TypeId} {x : Operand} : vOp P r ⟨d, .buildSlice t 1 #[(0, x)], ty, p, af, g⟩ M = gd (okOperand x && true) (omem (abuildSlice P t 1 [(0, r.eval x)] M)) := rfl
end

theorem varint_nil (u : Int) (hu0 : 0 ≤ u) (hu : u < 18446744073709551616) (M : Mem) : CallW Try.prog 15 [.slice none 0 0, .int .u64 u] M (fun v M' => SlB M' v (vb 10 u) ∧ M.next ≤ M'.next) := by
  refine CallW.ofBody (rs := [.tmp 4]) Try.func15 rfl Try.ntmps15 rfl ?_
  refine W.pRow rfl rfl ?_
  simp only [go_sem, sint, Nat.reduceEqDiff, Nat.reduceLT, Nat.reduceAdd, Nat.reduceSub, reduceIte, reduceCtorEq]
  refine W.pRow rfl rfl ?_
  simp only [go_sem, sint, Nat.reduceEqDiff, Nat.reduceLT, Nat.reduceAdd, Nat.reduceSub, reduceIte, reduceCtorEq]
  refine stCall rfl (by kernel_rfl) (clone_nil M) (by simp only [go_sem, Nat.reduceEqDiff, Nat.reduceLT, Nat.reduceAdd, Nat.reduceSub, reduceIte]) ?_
  simp only [go_sem, sint, Nat.reduceEqDiff, Nat.reduceLT, Nat.reduceAdd, Nat.reduceSub, reduceIte, reduceCtorEq]
  refine W.pSeq rfl (W.pBlock rfl (W.pLoop rfl (fun m r M' => ∃ (k : Nat) (y : Int) (bs : List Int) (v : Value), m = k ∧ 0 ≤ y ∧ y < 18446744073709551616 ∧ y < 128 ^ (k - 1) * 2 ∧ 1 ≤ k ∧ k ≤ 10 ∧ bs.length + k = 10 ∧ r.size = 23 ∧ r.get 1 = .int .u64 y ∧ r.get 5 = v ∧ SlB M' v bs ∧ bs ++ vb k y = vb 10 u ∧ M.next ≤ M'.next) 10 ?_ ?_))
  · refine ⟨10, u, [], .slice none 0 0, rfl, hu0, hu, by omega, by omega, by omega, by simp, ?_, ?_, ?_, .inl ⟨rfl, rfl⟩, rfl, by omega⟩ <;>
    simp only [go_sem, Nat.reduceEqDiff, Nat.reduceLT, Nat.reduceAdd, Nat.reduceSub, reduceIte]
  · rintro m r M' ⟨k, y, bs, v, rfl, hy0, hy, hyk, hk1, hk10, hlen, hs, h1, h5, hv, hvb, hn⟩
    refine W.pSeq rfl (W.pRow rfl rfl ?_)
    simp only [go_sem, sint, hs, h1, h5, Nat.reduceEqDiff, Nat.reduceLT, Nat.reduceAdd, Nat.reduceSub, reduceIte, reduceCtorEq]
    refine W.pCond rfl (decide (y ≥ 128)) rfl (by simp only [go_sem, hs, Nat.reduceEqDiff, Nat.reduceLT, reduceIte]) ?_ ?_
    · intro hb
      have hge : 128 ≤ y := by simpa using hb
      refine W.pSkip rfl ?_
      simp only [go_sem]
      obtain ⟨lit, M1, v', M2, e1, e2, hv', hn'⟩ := push_ok M' hv (by omega) (y % 128 + 128)
      refine W.pSeq rfl (W.pBlock rfl (W.pRegion rfl ?_))
      simp only [go_sem, sint, oBuild1, wrap_u8, ior_u8_128, vconv_int Try.underlying25 Try.underlying5, e1, e2, hs, h1, h5, Nat.reduceEqDiff, Nat.reduceLT, Nat.reduceAdd, Nat.reduceSub, reduceIte, reduceCtorEq]
      refine W.pRegion rfl ?_
      have hshr : ishr .u64 y 7 = y / 128 := by
        unfold ishr
        rw [Int.fdiv_eq_ediv_of_nonneg _ (Int.pow_nonneg (by omega))]; rfl
      simp only [go_sem, sint, hs, h1, h5, hshr, Int.reduceLT, Nat.reduceEqDiff, Nat.reduceLT, Nat.reduceAdd, Nat.reduceSub, reduceIte, reduceCtorEq]
      rw [loopK_normal]
      obtain ⟨j, rfl⟩ : ∃ j, m = j + 1 := ⟨m - 1, by omega⟩
      rw [Nat.add_sub_cancel] at hyk
      obtain ⟨l, rfl⟩ : ∃ l, j = l + 1 := by
        cases j with
        | zero => simp at hyk; omega
        | succ l => exact ⟨l, rfl⟩
      rw [Int.pow_succ] at hyk
      refine ⟨l + 1, by omega, l + 1, y / 128, bs ++ [y % 128 + 128], v', rfl, by omega, by omega, ?_, by omega, by omega, by simp; omega, ?_, ?_, ?_, hv', ?_, by omega⟩
      · show y / 128 < 128 ^ l * 2
        omega
      · simp only [go_sem, hs]
      · simp only [go_sem, hs, Nat.reduceEqDiff, Nat.reduceLT, Nat.reduceAdd, Nat.reduceSub, reduceIte, reduceCtorEq]
      · simp only [go_sem, hs, Nat.reduceEqDiff, Nat.reduceLT, Nat.reduceAdd, Nat.reduceSub, reduceIte, reduceCtorEq]
      · have hv1 : vb (l + 1 + 1) y = (y % 128 + 128) :: vb (l + 1) (y / 128) := if_neg (by omega)
        rw [← hvb, hv1, List.append_assoc]; rfl
    · intro hb
      have hlt : y < 128 := by simpa using hb
      refine W.pExit rfl ?_
      simp only [go_sem, reduceIte]
      obtain ⟨lit, M1, v', M2, e1, e2, hv', hn'⟩ := push_ok M' hv (by omega) y
      have hm : y % 256 = y := by omega
      refine W.pRow rfl rfl ?_
      simp only [go_sem, sint, oBuild1, wrap_u8, hm, vconv_int Try.underlying25 Try.underlying5, e1, e2, hs, h1, h5, Nat.reduceEqDiff, Nat.reduceLT, Nat.reduceAdd, Nat.reduceSub, reduceIte, reduceCtorEq]
      refine W.pRet rfl ?_
      simp only [go_sem, hs, Nat.reduceEqDiff, Nat.reduceLT, Nat.reduceAdd, Nat.reduceSub, reduceIte, reduceCtorEq]
      obtain ⟨j, rfl⟩ : ∃ j, m = j + 1 := ⟨m - 1, by omega⟩
      rw [vb, if_pos hlt] at hvb
      rw [← hvb]
      exact ⟨hv', by omega⟩
end Go.Ab
