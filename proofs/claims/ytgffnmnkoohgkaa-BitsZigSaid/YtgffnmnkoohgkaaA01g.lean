/- Chapter 01: Int of no bytes; how long a varint is. -/
import Derived.Test.YtgffnmnkoohgkaaA01f
namespace Go.Ab
open Go.Proofs
set_option maxRecDepth 100000
set_option linter.unusedSimpArgs false

theorem int_nil (n : Int) (h1 : -9223372036854775808 ≤ n) (h2 : n < 9223372036854775808) (M : Mem) : CallW Try.prog 25 [.slice none 0 0, .int .i64 n] M (fun v M' => SlB M' v (vb 10 (zigI n)) ∧ M.next ≤ M'.next) := by
  have hz0 : 0 ≤ zigI n := by unfold zigI; split <;> omega
  have hz1 : zigI n < 18446744073709551616 := by unfold zigI; split <;> omega
  obtain ⟨v, M', hc, hp⟩ := varint_nil (zigI n) hz0 hz1 M
  refine CallW.ofBody (rs := [.tmp 4]) Try.func25 rfl Try.ntmps25 rfl ?_
  refine W.pRow rfl rfl ?_
  simp only [go_sem, sint, Nat.reduceEqDiff, Nat.reduceLT, Nat.reduceAdd, Nat.reduceSub, reduceIte, reduceCtorEq]
  refine W.pRow rfl rfl ?_
  simp only [go_sem, sint, Nat.reduceEqDiff, Nat.reduceLT, Nat.reduceAdd, Nat.reduceSub, reduceIte, reduceCtorEq]
  refine stCall rfl (by kernel_rfl) (zig_ok n h1 h2 M) (by simp only [go_sem, Nat.reduceEqDiff, Nat.reduceLT, Nat.reduceAdd, Nat.reduceSub, reduceIte]) ?_
  simp only [go_sem, sint, Nat.reduceEqDiff, Nat.reduceLT, Nat.reduceAdd, Nat.reduceSub, reduceIte, reduceCtorEq]
  refine stCall rfl (by kernel_rfl) hc (by simp only [go_sem, Nat.reduceEqDiff, Nat.reduceLT, Nat.reduceAdd, Nat.reduceSub, reduceIte]) ?_
  simp only [go_sem, sint, Nat.reduceEqDiff, Nat.reduceLT, Nat.reduceAdd, Nat.reduceSub, reduceIte, reduceCtorEq]
  refine W.pRet rfl ?_
  simp only [go_sem, Nat.reduceEqDiff, Nat.reduceLT, Nat.reduceAdd, Nat.reduceSub, reduceIte, reduceCtorEq]
  exact hp

/-- How many bytes a varint has. -/
theorem vb_length : ∀ (k : Nat) (u : Int), 0 ≤ u → 1 ≤ k → u < 128 ^ (k - 1) * 128 → 1 ≤ (vb k u).length ∧ (vb k u).length ≤ k ∧ u < 128 ^ (vb k u).length ∧ ((vb k u).length = 1 ∨ 128 ^ ((vb k u).length - 1) ≤ u)
  | 0, _, _, h, _ => by omega
  | k + 1, u, h0, _, hu => by
    unfold vb
    by_cases h : u < 128
    · rw [if_pos h]; simp; omega
    · rw [if_neg h]
      cases k with
      | zero => simp at hu; omega
      | succ l =>
        have hu' : u < 128 ^ l * 128 * 128 := by rw [← Int.pow_succ]; exact hu
        obtain ⟨a, b, c, d⟩ := vb_length (l + 1) (u / 128) (by omega) (by omega) (by show u / 128 < 128 ^ l * 128; omega)
        rw [List.length_cons]
        generalize (vb (l + 1) (u / 128)).length = n at a b c d
        refine ⟨by omega, by omega, ?_, .inr ?_⟩
        · rw [Int.pow_succ]; omega
        · rw [Nat.add_sub_cancel]
          rcases d with rfl | d
          · simp; omega
          · obtain ⟨m, rfl⟩ : ∃ m, n = m + 1 := ⟨n - 1, by omega⟩
            rw [Nat.add_sub_cancel] at d
            rw [Int.pow_succ]; omega

theorem pow_mono {a b : Nat} (h : a ≤ b) : (128 : Int) ^ a ≤ 128 ^ b := by
  obtain ⟨c, rfl⟩ : ∃ c, b = a + c := ⟨b - a, by omega⟩
  induction c with
  | zero => simp
  | succ c ih =>
    have h1 := ih (by omega)
    rw [show a + (c + 1) = (a + c) + 1 by omega, Int.pow_succ]
    have : (0 : Int) ≤ 128 ^ (a + c) := Int.pow_nonneg (by omega)
    omega

theorem vb_mono {u w : Int} (hu : 0 ≤ u) (h : u ≤ w) (hw : w < 18446744073709551616) : (vb 10 u).length ≤ (vb 10 w).length := by
  have e : (128 : Int) ^ (10 - 1) * 128 = 1180591620717411303424 := by decide
  obtain ⟨a1, b1, c1, d1⟩ := vb_length 10 u hu (by omega) (by rw [e]; omega)
  obtain ⟨a2, b2, c2, d2⟩ := vb_length 10 w (by omega) (by omega) (by rw [e]; omega)
  rcases d1 with d1 | d1
  · omega
  · rcases Nat.lt_or_ge (vb 10 w).length (vb 10 u).length with h2 | h2
    · have := pow_mono (show (vb 10 w).length ≤ (vb 10 u).length - 1 by omega)
      omega
    · exact h2
end Go.Ab
