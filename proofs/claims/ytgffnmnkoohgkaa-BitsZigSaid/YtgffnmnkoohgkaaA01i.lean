/- Chapter 01: BitsZig, the code ahead. -/
import Derived.Test.YtgffnmnkoohgkaaA01h
namespace Go.Ab
open Go.Proofs
set_option maxRecDepth 100000
set_option linter.unusedSimpArgs false

def farI (n : Int) : Int := if n < 0 then -(n + 1) else n

theorem far_le {n k : Int} (h : farI n < farI k) : zigI n ≤ zigI k := by
  unfold farI at h
  unfold zigI
  by_cases h1 : n < 0
  · by_cases h2 : k < 0
    · rw [if_pos h1, if_pos h2] at *; omega
    · rw [if_pos h1, if_neg h2] at *; omega
  · by_cases h2 : k < 0
    · rw [if_neg h1, if_pos h2] at *; omega
    · rw [if_neg h1, if_neg h2] at *; omega

theorem zig_mid (n u k : Int) (hn0 : -9223372036854775808 ≤ n) (hn1 : n < 9223372036854775808) (hk0 : -9223372036854775808 ≤ k) (hk1 : k < 9223372036854775808) (hu0 : 0 ≤ u) (hu : u < 18446744073709551616) (r : Env) (M : Mem)
    (hs : r.size = 79) (h0 : r.get 0 = .int .i64 n) (h1 : r.get 1 = .int .u64 u) (h2 : r.get 2 = .int .i64 k) (h7 : r.get 7 = .int .i64 (farI n)) (h8 : r.get 8 = .int .i64 (farI k)) :
    W Try.prog (R (R (R (R (R (bodyOf Try.f6)))))) r M (resK Try.prog [.tmp 6] fun v _ => v = .bool true) := by
  refine W.pSeq rfl (W.pRow rfl rfl ?_)
  simp only [go_sem, sint, hs, h0, h1, h2, h7, h8, Nat.reduceEqDiff, Nat.reduceLT, Nat.reduceAdd, Nat.reduceSub, reduceIte, reduceCtorEq]
  by_cases hlt : farI n < farI k
  · obtain ⟨v1, M1, hc1, hp1, hm1⟩ := int_nil n hn0 hn1 M
    obtain ⟨v2, M2, hc2, hp2, hm2⟩ := int_nil k hk0 hk1 M1
    obtain ⟨a1, c1, rfl⟩ := len_SlB hp1
    obtain ⟨a2, c2, rfl⟩ := len_SlB hp2
    have hle : (vb 10 (zigI n)).length ≤ (vb 10 (zigI k)).length := by
      refine vb_mono ?_ ?_ ?_
      · unfold zigI; split <;> omega
      · exact far_le hlt
      · unfold zigI; split <;> omega
    have hg : decide (((vb 10 (zigI n)).length : Int) > ((vb 10 (zigI k)).length : Int)) = false := decide_eq_false (by omega)
    have hd : decide (farI n < farI k) = true := decide_eq_true hlt
    repeat (refine sGuard rfl ?_; simp only [go_sem, sint, goInt, Try.underlying22, hs, h0, h1, h2, h7, h8, hd, hg, Nat.reduceEqDiff, Nat.reduceLT, Nat.reduceAdd, Nat.reduceSub, reduceIte, reduceCtorEq])
    refine stCall rfl (by kernel_rfl) hc1 (by simp only [go_sem, hs, h0, h1, h2, h7, h8, Nat.reduceEqDiff, Nat.reduceLT, Nat.reduceAdd, Nat.reduceSub, reduceIte, reduceCtorEq]) ?_
    repeat (refine sGuard rfl ?_; simp only [go_sem, sint, goInt, Try.underlying22, hs, h0, h1, h2, h7, h8, hd, hg, Nat.reduceEqDiff, Nat.reduceLT, Nat.reduceAdd, Nat.reduceSub, reduceIte, reduceCtorEq])
    refine stCall rfl (by kernel_rfl) hc2 (by simp only [go_sem, hs, h0, h1, h2, h7, h8, Nat.reduceEqDiff, Nat.reduceLT, Nat.reduceAdd, Nat.reduceSub, reduceIte, reduceCtorEq]) ?_
    repeat (refine sGuard rfl ?_; simp only [go_sem, sint, goInt, Try.underlying22, hs, h0, h1, h2, h7, h8, hd, hg, Nat.reduceEqDiff, Nat.reduceLT, Nat.reduceAdd, Nat.reduceSub, reduceIte, reduceCtorEq])
    refine W.pCond rfl false rfl (by simp only [go_sem, hs, Nat.reduceEqDiff, Nat.reduceLT, Nat.reduceAdd, Nat.reduceSub, reduceIte, reduceCtorEq]) (fun h => by cases h) fun _ => W.pSkip rfl ?_
    simp only [go_sem]
    refine zig_tail u hu0 hu _ _ ?_ ?_
    all_goals simp only [go_sem, hs, h1, Nat.reduceEqDiff, Nat.reduceLT, Nat.reduceAdd, Nat.reduceSub, reduceIte, reduceCtorEq]
  · have hd : decide (farI n < farI k) = false := decide_eq_false hlt
    repeat (refine sGuard rfl ?_; simp only [go_sem, sint, hs, h0, h1, h2, h7, h8, hd, Nat.reduceEqDiff, Nat.reduceLT, Nat.reduceAdd, Nat.reduceSub, reduceIte, reduceCtorEq])
    refine W.pCond rfl false rfl (by simp only [go_sem, hs, Nat.reduceEqDiff, Nat.reduceLT, Nat.reduceAdd, Nat.reduceSub, reduceIte]) (fun h => by cases h) fun _ => W.pSkip rfl ?_
    simp only [go_sem]
    refine zig_tail u hu0 hu _ _ ?_ ?_
    all_goals simp only [go_sem, hs, h1, Nat.reduceEqDiff, Nat.reduceLT, Nat.reduceAdd, Nat.reduceSub, reduceIte]
end Go.Ab
