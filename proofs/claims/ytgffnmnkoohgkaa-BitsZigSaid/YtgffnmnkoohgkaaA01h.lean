/- Chapter 01: BitsZig. -/
import Derived.Test.YtgffnmnkoohgkaaA01g
namespace Go.Ab
open Go.Proofs
set_option maxRecDepth 100000
set_option linter.unusedSimpArgs false

theorem len_SlB {M : Mem} {v : Value} {bs : List Int} (h : SlB M v bs) : ∃ a c, v = .slice a bs.length c := by
  rcases h with ⟨rfl, rfl⟩ | ⟨A, rfl, _⟩
  · exact ⟨_, _, rfl⟩
  · exact ⟨_, _, rfl⟩

theorem zig_tail (u : Int) (hu0 : 0 ≤ u) (hu : u < 18446744073709551616) (r : Env) (M : Mem) (hs : r.size = 79) (h1 : r.get 1 = .int .u64 u) :
    W Try.prog (R (R (R (R (R (R (bodyOf Try.f6))))))) r M (resK Try.prog [.tmp 6] fun v _ => v = .bool true) := by
  obtain ⟨v, M', hc, hp, hn⟩ := varint_nil u hu0 hu M
  obtain ⟨a, c, rfl⟩ := len_SlB hp
  have e : (128 : Int) ^ (10 - 1) * 128 = 1180591620717411303424 := by decide
  obtain ⟨l1, l2, l3, l4⟩ := vb_length 10 u hu0 (by omega) (by rw [e]; omega)
  generalize (vb 10 u).length = l at hp hc l1 l2 l3 l4
  refine W.pRow rfl rfl ?_
  simp only [go_sem, sint, hs, h1, Nat.reduceEqDiff, Nat.reduceLT, Nat.reduceAdd, Nat.reduceSub, reduceIte, reduceCtorEq]
  refine stCall rfl (by kernel_rfl) hc (by simp only [go_sem, hs, h1, Nat.reduceEqDiff, Nat.reduceLT, Nat.reduceAdd, Nat.reduceSub, reduceIte]) ?_
  simp only [go_sem, sint, hs, h1, Try.underlying22, Nat.reduceEqDiff, Nat.reduceLT, Nat.reduceAdd, Nat.reduceSub, reduceIte, reduceCtorEq]
  refine W.pSeq rfl (W.pRow rfl rfl ?_)
  simp only [go_sem, sint, hs, h1, Nat.reduceEqDiff, Nat.reduceLT, Nat.reduceAdd, Nat.reduceSub, reduceIte, reduceCtorEq]
  have hA : l < 10 → ishr .u64 u (7 * (l : Int)) = 0 := by
    intro hl
    have e2 : (128 : Int) ^ l = 2 ^ (7 * l) := by rw [Int.pow_mul]; rfl
    have e3 : (7 * (l : Int)).toNat = 7 * l := by omega
    unfold ishr
    rw [e3, show IntKind.u64.bits = 64 from rfl, Nat.min_eq_left (by omega), Int.fdiv_eq_ediv_of_nonneg _ (Int.pow_nonneg (by omega)), ← e2]
    exact Int.ediv_eq_zero_of_lt hu0 l3
  have hB : 1 < l → ¬ ishr .u64 u (7 * ((l : Int) - 1)) = 0 := by
    intro hl
    have e2 : (128 : Int) ^ (l - 1) = 2 ^ (7 * (l - 1)) := by rw [Int.pow_mul]; rfl
    have e3 : (7 * ((l : Int) - 1)).toNat = 7 * (l - 1) := by omega
    have l5 : (128 : Int) ^ (l - 1) ≤ u := by omega
    have hpos : (0 : Int) < 128 ^ (l - 1) := Int.pow_pos (by omega)
    unfold ishr
    rw [e3, show IntKind.u64.bits = 64 from rfl, Nat.min_eq_left (by omega), Int.fdiv_eq_ediv_of_nonneg _ (Int.pow_nonneg (by omega)), ← e2]
    have h6 : 1 ≤ u / 128 ^ (l - 1) := Int.le_ediv_of_mul_le hpos (by omega)
    omega
  clear l3 l4 hc hp e
  have c1 : decide ((l : Int) < 1) = false := decide_eq_false (by omega)
  have c2 : decide ((l : Int) > 10) = false := decide_eq_false (by omega)
  have w1 : IntKind.i64.wrap (7 * (l : Int)) = 7 * (l : Int) := wrap_i64_id (by omega) (by omega)
  have w2 : IntKind.i64.wrap ((l : Int) - 1) = (l : Int) - 1 := wrap_i64_id (by omega) (by omega)
  have w3 : IntKind.i64.wrap (7 * ((l : Int) - 1)) = 7 * ((l : Int) - 1) := wrap_i64_id (by omega) (by omega)
  have p1 : ¬ (7 * (l : Int) < 0) := by omega
  have p2 : ¬ (7 * ((l : Int) - 1) < 0) := by omega
  have vA : l < 10 → (ishr .u64 u (7 * (l : Int)) != 0) = false := fun h => by rw [hA h]; rfl
  have vB : 1 < l → (ishr .u64 u (7 * ((l : Int) - 1)) == 0) = false := fun h => by simpa using hB h
  by_cases h10 : l < 10
  · have c3 : decide ((l : Int) < 10) = true := decide_eq_true (by omega)
    by_cases h11 : 1 < l
    · have c4 : decide ((l : Int) > 1) = true := decide_eq_true (by omega)
      replace vA := vA h10
      replace vB := vB h11
      repeat (refine sGuard rfl ?_; simp only [go_sem, sint, goInt, hs, h1, c1, c2, c3, c4, w1, w2, w3, p1, p2, vA, vB, Bool.not_true, bne_self_eq_false, Nat.reduceEqDiff, Nat.reduceLT, Nat.reduceAdd, Nat.reduceSub, reduceIte, reduceCtorEq])
      refine W.pCond rfl false rfl (by simp only [go_sem, hs, Nat.reduceEqDiff, Nat.reduceLT, Nat.reduceAdd, Nat.reduceSub, reduceIte, reduceCtorEq]) (fun h => by cases h) fun _ => W.pSkip rfl ?_
      simp only [go_sem]
      refine W.pRow rfl rfl ?_
      simp only [go_sem, hs, Nat.reduceEqDiff, Nat.reduceLT, Nat.reduceAdd, Nat.reduceSub, reduceIte, reduceCtorEq]
      refine stCall rfl (by kernel_rfl) (works_ok _) (by simp only [go_sem]) ?_
      simp only [go_sem, hs, Nat.reduceEqDiff, Nat.reduceLT, Nat.reduceAdd, Nat.reduceSub, reduceIte, reduceCtorEq]
      refine W.pRet rfl ?_
      simp only [go_sem, hs, Nat.reduceEqDiff, Nat.reduceLT, Nat.reduceAdd, Nat.reduceSub, reduceIte, reduceCtorEq]
    · have c4 : decide ((l : Int) > 1) = false := decide_eq_false (by omega)
      replace vA := vA h10
      repeat (refine sGuard rfl ?_; simp only [go_sem, sint, goInt, hs, h1, c1, c2, c3, c4, w1, w2, w3, p1, p2, vA, Bool.not_true, bne_self_eq_false, Nat.reduceEqDiff, Nat.reduceLT, Nat.reduceAdd, Nat.reduceSub, reduceIte, reduceCtorEq])
      refine W.pCond rfl false rfl (by simp only [go_sem, hs, Nat.reduceEqDiff, Nat.reduceLT, Nat.reduceAdd, Nat.reduceSub, reduceIte, reduceCtorEq]) (fun h => by cases h) fun _ => W.pSkip rfl ?_
      simp only [go_sem]
      refine W.pRow rfl rfl ?_
      simp only [go_sem, hs, Nat.reduceEqDiff, Nat.reduceLT, Nat.reduceAdd, Nat.reduceSub, reduceIte, reduceCtorEq]
      refine stCall rfl (by kernel_rfl) (works_ok _) (by simp only [go_sem]) ?_
      simp only [go_sem, hs, Nat.reduceEqDiff, Nat.reduceLT, Nat.reduceAdd, Nat.reduceSub, reduceIte, reduceCtorEq]
      refine W.pRet rfl ?_
      simp only [go_sem, hs, Nat.reduceEqDiff, Nat.reduceLT, Nat.reduceAdd, Nat.reduceSub, reduceIte, reduceCtorEq]
  · have c3 : decide ((l : Int) < 10) = false := decide_eq_false (by omega)
    have c4 : decide ((l : Int) > 1) = true := decide_eq_true (by omega)
    replace vB := vB (by omega)
    repeat (refine sGuard rfl ?_; simp only [go_sem, sint, goInt, hs, h1, c1, c2, c3, c4, w1, w2, w3, p1, p2, vB, Bool.not_true, bne_self_eq_false, Nat.reduceEqDiff, Nat.reduceLT, Nat.reduceAdd, Nat.reduceSub, reduceIte, reduceCtorEq])
    refine W.pCond rfl false rfl (by simp only [go_sem, hs, Nat.reduceEqDiff, Nat.reduceLT, Nat.reduceAdd, Nat.reduceSub, reduceIte, reduceCtorEq]) (fun h => by cases h) fun _ => W.pSkip rfl ?_
    simp only [go_sem]
    refine W.pRow rfl rfl ?_
    simp only [go_sem, hs, Nat.reduceEqDiff, Nat.reduceLT, Nat.reduceAdd, Nat.reduceSub, reduceIte, reduceCtorEq]
    refine stCall rfl (by kernel_rfl) (works_ok _) (by simp only [go_sem]) ?_
    simp only [go_sem, hs, Nat.reduceEqDiff, Nat.reduceLT, Nat.reduceAdd, Nat.reduceSub, reduceIte, reduceCtorEq]
    refine W.pRet rfl ?_
    simp only [go_sem, hs, Nat.reduceEqDiff, Nat.reduceLT, Nat.reduceAdd, Nat.reduceSub, reduceIte, reduceCtorEq]
end Go.Ab
