/- Chapter 01: BitsTurns. -/
import Derived.Test.YtgffnmnkoohgkaaA01b
namespace Go.Ab
open Go.Proofs
set_option maxRecDepth 100000
set_option linter.unusedSimpArgs false

def tab : CallF := fun f args M =>
  match args with
  | [.int .u64 n, .int .i64 k] => if f = 17 ∧ 0 ≤ n ∧ n < 18446744073709551616 then some (.int .u64 ((rotB (BitVec.ofInt 64 n) (k % 64).toNat).toNat : Nat), M) else none
  | [.int .i64 n, .int .i64 k] => if f = 19 ∧ 0 < k ∧ k < 9223372036854775808 then some (.int .i64 (n % k), M) else none
  | _ => none
theorem tab_ok : CallsOk Try.prog tab := by
  intro f args M v M' h
  unfold tab at h
  split at h
  · rename_i n k
    split at h
    · rename_i hc
      obtain ⟨rfl, h0, h1⟩ := hc
      simp only [Option.some.injEq, Prod.mk.injEq] at h
      obtain ⟨rfl, rfl⟩ := h
      have e : n = ((BitVec.ofInt 64 n).toNat : Int) := by rw [BitVec.toNat_ofInt]; omega
      have := rotate_ok (BitVec.ofInt 64 n) k M
      rw [← e] at this
      exact this
    · cases h
  · rename_i n k
    split at h
    · rename_i hc
      obtain ⟨rfl, h0, h1⟩ := hc
      simp only [Option.some.injEq, Prod.mk.injEq] at h
      obtain ⟨rfl, rfl⟩ := h
      exact bring_ok n k h0 h1 M
    · cases h
  · cases h
theorem tab_rot (x : BitVec 64) (k : Int) (M : Mem) : tab 17 [.int .u64 (x.toNat : Int), .int .i64 k] M = some (.int .u64 ((rotB x (k % 64).toNat).toNat : Nat), M) := by
  have h1 : (x.toNat : Int) < 18446744073709551616 := by have := x.isLt; omega
  have h0 : (0 : Int) ≤ x.toNat := by omega
  simp only [tab, h0, h1, and_self, if_true, ofInt_toNat]
theorem tab_bring (n k : Int) (M : Mem) (h0 : 0 < k) (h1 : k < 9223372036854775808) : tab 19 [.int .i64 n, .int .i64 k] M = some (.int .i64 (n % k), M) := by
  simp only [tab, h0, h1, and_self, if_true]

theorem turns_tail (x : BitVec 64) (k : Int) (w i : Nat) (h1 : -9223372036854775808 < k) (h2 : k < 9223372036854775808) (hi : i < 64) (r : Env) (M : Mem) (hs : r.size = 75) (h0 : r.get 0 = .int .u64 (x.toNat : Int)) (hk : r.get 1 = .int .i64 k)
    (h5 : r.get 5 = .int .i64 (w : Int)) (h6 : r.get 6 = .int .u64 ((revB w 0 x).toNat : Int)) (h7 : r.get 7 = .int .i64 (i : Int)) (h8 : r.get 8 = .int .u64 ((revB w 0 x >>> i &&& 1#64).toNat : Int))
    (K : Ex → Env → Mem → Prop) (hK : ∀ r' M', r'.size = 75 → r'.get 0 = r.get 0 → r'.get 1 = r.get 1 → r'.get 5 = r.get 5 → r'.get 6 = r.get 6 → r'.get 7 = r.get 7 → K .normal r' M') :
    W Try.prog (R (R (L (L (R (L (L (R (L (R (R (R (R (R (bodyOf Try.f4))))))))))))))) r M K := by
  have hi0 : ¬ ((i : Int) < 0) := by omega
  have hkm0 : 0 ≤ k % 64 := Int.emod_nonneg _ (by omega)
  have hkm : k % 64 < 64 := Int.emod_lt_of_pos _ (by omega)
  have hsum : IntKind.i64.wrap ((i : Int) + k % 64) = (i : Int) + k % 64 := wrap_i64_id (by omega) (by omega)
  have hm0 : ¬ (((i : Int) + k % 64) % 64 < 0) := by omega
  have hmn : (((i : Int) + k % 64) % 64).toNat = (i + (k % 64).toNat) % 64 := by omega
  have hbit : rotB x (k % 64).toNat >>> (((i : Int) + k % 64) % 64).toNat &&& 1#64 = x >>> i &&& 1#64 := by
    rw [bit_eq, hmn]; exact rotB_at x (by omega) hi
  refine W.pDrawRow mixed (n := 75) tab_ok rfl rfl (by kernel_rfl) (by kernel_rfl) hs (by kernel_rfl) ?_
  simp only [go_sem, sint, hs, h0, hk, h5, h6, h7, h8, hi0, ishr_u64, iand_one, Int.toNat_natCast, Nat.reduceEqDiff, Nat.reduceLT, Nat.reduceAdd, Nat.reduceSub, reduceIte, reduceCtorEq, bne_self_eq_false]
  refine dGuard rfl ?_
  simp only [go_sem, sint, hs, h0, hk, h5, h6, h7, h8, hi0, ishr_u64, iand_one, Int.toNat_natCast, Nat.reduceEqDiff, Nat.reduceLT, Nat.reduceAdd, Nat.reduceSub, reduceIte, reduceCtorEq, bne_self_eq_false]
  refine dGuard rfl ?_
  simp only [go_sem, sint, hs, h0, hk, h5, h6, h7, h8, hi0, ishr_u64, iand_one, Int.toNat_natCast, Nat.reduceEqDiff, Nat.reduceLT, Nat.reduceAdd, Nat.reduceSub, reduceIte, reduceCtorEq, bne_self_eq_false]
  refine dGuard rfl ?_
  simp only [go_sem, sint, hs, h0, hk, h5, h6, h7, h8, hi0, ishr_u64, iand_one, Int.toNat_natCast, Nat.reduceEqDiff, Nat.reduceLT, Nat.reduceAdd, Nat.reduceSub, reduceIte, reduceCtorEq, bne_self_eq_false]
  refine dtCall rfl (by kernel_rfl) (tab_rot x k _) (by simp only [go_sem, hs, h0, hk, h5, h6, h7, h8, Nat.reduceEqDiff, Nat.reduceLT, reduceIte]) ?_
  refine dGuard rfl ?_
  simp only [go_sem, sint, hs, h0, hk, h5, h6, h7, h8, hi0, ishr_u64, iand_one, Int.toNat_natCast, Nat.reduceEqDiff, Nat.reduceLT, Nat.reduceAdd, Nat.reduceSub, reduceIte, reduceCtorEq, bne_self_eq_false]
  refine dGuard rfl ?_
  simp only [go_sem, sint, hs, h0, hk, h5, h6, h7, h8, hi0, ishr_u64, iand_one, Int.toNat_natCast, Nat.reduceEqDiff, Nat.reduceLT, Nat.reduceAdd, Nat.reduceSub, reduceIte, reduceCtorEq, bne_self_eq_false]
  refine dGuard rfl ?_
  simp only [go_sem, sint, hs, h0, hk, h5, h6, h7, h8, hi0, ishr_u64, iand_one, Int.toNat_natCast, Nat.reduceEqDiff, Nat.reduceLT, Nat.reduceAdd, Nat.reduceSub, reduceIte, reduceCtorEq, bne_self_eq_false]
  refine dtCall rfl (by kernel_rfl) (tab_bring k 64 _ (by omega) (by omega)) (by simp only [go_sem, hs, h0, hk, h5, h6, h7, h8, Nat.reduceEqDiff, Nat.reduceLT, reduceIte]) ?_
  refine dGuard rfl ?_
  simp only [go_sem, sint, hs, h0, hk, h5, h6, h7, h8, hi0, hsum, hm0, hbit, ishr_u64, iand_one, Int.toNat_natCast, Nat.reduceEqDiff, Nat.reduceLT, Nat.reduceAdd, Nat.reduceSub, reduceIte, reduceCtorEq, bne_self_eq_false]
  refine dGuard rfl ?_
  simp only [go_sem, sint, hs, h0, hk, h5, h6, h7, h8, hi0, hsum, hm0, hbit, ishr_u64, iand_one, Int.toNat_natCast, Nat.reduceEqDiff, Nat.reduceLT, Nat.reduceAdd, Nat.reduceSub, reduceIte, reduceCtorEq, bne_self_eq_false]
  refine dtCall rfl (by kernel_rfl) (tab_bring ((i : Int) + k % 64) 64 _ (by omega) (by omega)) (by simp only [go_sem, hs, h0, hk, h5, h6, h7, h8, hsum, Nat.reduceEqDiff, Nat.reduceLT, reduceIte]) ?_
  refine dGuard rfl ?_
  simp only [go_sem, sint, hs, h0, hk, h5, h6, h7, h8, hi0, hsum, hm0, hbit, ishr_u64, iand_one, Int.toNat_natCast, Nat.reduceEqDiff, Nat.reduceLT, Nat.reduceAdd, Nat.reduceSub, reduceIte, reduceCtorEq, bne_self_eq_false]
  refine dGuard rfl ?_
  simp only [go_sem, sint, hs, h0, hk, h5, h6, h7, h8, hi0, hsum, hm0, hbit, ishr_u64, iand_one, Int.toNat_natCast, Nat.reduceEqDiff, Nat.reduceLT, Nat.reduceAdd, Nat.reduceSub, reduceIte, reduceCtorEq, bne_self_eq_false]
  refine dGuard rfl ?_
  simp only [go_sem, sint, hs, h0, hk, h5, h6, h7, h8, hi0, hsum, hm0, hbit, ishr_u64, iand_one, Int.toNat_natCast, Nat.reduceEqDiff, Nat.reduceLT, Nat.reduceAdd, Nat.reduceSub, reduceIte, reduceCtorEq, bne_self_eq_false]
  refine dGuard rfl ?_
  simp only [go_sem, sint, hs, h0, hk, h5, h6, h7, h8, hi0, hsum, hm0, hbit, ishr_u64, iand_one, Int.toNat_natCast, Nat.reduceEqDiff, Nat.reduceLT, Nat.reduceAdd, Nat.reduceSub, reduceIte, reduceCtorEq, bne_self_eq_false]
  refine dGuard rfl ?_
  simp only [go_sem, sint, hs, h0, hk, h5, h6, h7, h8, hi0, hsum, hm0, hbit, ishr_u64, iand_one, Int.toNat_natCast, Nat.reduceEqDiff, Nat.reduceLT, Nat.reduceAdd, Nat.reduceSub, reduceIte, reduceCtorEq, bne_self_eq_false]
  refine dGuard rfl ?_
  simp only [go_sem, sint, hs, h0, hk, h5, h6, h7, h8, hi0, hsum, hm0, hbit, ishr_u64, iand_one, Int.toNat_natCast, Nat.reduceEqDiff, Nat.reduceLT, Nat.reduceAdd, Nat.reduceSub, reduceIte, reduceCtorEq, bne_self_eq_false]
  refine dGuard rfl ?_
  simp only [go_sem, sint, hs, h0, hk, h5, h6, h7, h8, hi0, hsum, hm0, hbit, ishr_u64, iand_one, Int.toNat_natCast, Nat.reduceEqDiff, Nat.reduceLT, Nat.reduceAdd, Nat.reduceSub, reduceIte, reduceCtorEq, bne_self_eq_false]
  refine W.pCond rfl false rfl (by simp only [go_sem, hs, Nat.reduceEqDiff, Nat.reduceLT, Nat.reduceAdd, reduceIte]) (fun h => by cases h) fun _ => W.pSkip rfl ?_
  refine hK _ _ ?_ ?_ ?_ ?_ ?_ ?_ <;> simp only [go_sem, hs, Nat.reduceEqDiff, Nat.reduceLT, Nat.reduceAdd, reduceIte]

theorem turns_rest (x : BitVec 64) (k : Int) (h1 : -9223372036854775808 < k) (h2 : k < 9223372036854775808) (r : Env) (M : Mem) (hs : r.size = 75) (h0 : r.get 0 = .int .u64 (x.toNat : Int)) (hk : r.get 1 = .int .i64 k) :
    W Try.prog (R (R (bodyOf Try.f4))) r M (resK Try.prog [.tmp 4] fun u _ => u = .bool true) := by
  have hback : rotB (rotB x (k % 64).toNat) ((-k) % 64).toNat = x := rotB_back x (by omega) (by omega) (by omega)
  have hneg : IntKind.i64.wrap (-k) = -k := wrap_i64_id (by omega) (by omega)
  have h64 : rotB x ((64 : Int) % 64).toNat = x := rotB_zero x
  have hrr : revB (max 0 (min (64 : Int) 64)).toNat 0 (revB (max 0 (min (64 : Int) 64)).toNat 0 x) = x := revB_rev x
  refine W.pSeq rfl (W.pRow rfl rfl ?_)
  simp only [go_sem, sint, hs, h0, hk, Nat.reduceEqDiff, Nat.reduceLT, Nat.reduceAdd, Nat.reduceSub, reduceIte, reduceCtorEq]
  refine stCall rfl (by kernel_rfl) (rotate_ok x k M) (by simp only [go_sem, hs, h0, hk, Nat.reduceEqDiff, Nat.reduceLT, reduceIte]) ?_
  simp only [go_sem, sint, hs, h0, hk, Nat.reduceEqDiff, Nat.reduceLT, Nat.reduceAdd, Nat.reduceSub, reduceIte, reduceCtorEq, hneg]
  refine stCall rfl (by kernel_rfl) (rotate_ok (rotB x (k % 64).toNat) (-k) M) (by simp only [go_sem, hs, h0, hk, Nat.reduceEqDiff, Nat.reduceLT, reduceIte]) ?_
  simp only [go_sem, sint, hs, h0, hk, Nat.reduceEqDiff, Nat.reduceLT, Nat.reduceAdd, Nat.reduceSub, reduceIte, reduceCtorEq, hback, bne_self_eq_false]
  refine sGuard rfl ?_
  simp only [go_sem, sint, hs, h0, hk, Nat.reduceEqDiff, Nat.reduceLT, Nat.reduceAdd, Nat.reduceSub, reduceIte, reduceCtorEq]
  refine sGuard rfl ?_
  simp only [go_sem, sint, hs, h0, hk, Nat.reduceEqDiff, Nat.reduceLT, Nat.reduceAdd, Nat.reduceSub, reduceIte, reduceCtorEq]
  refine stCall rfl (by kernel_rfl) (reverse_ok x 64 (by omega) M) (by simp only [go_sem, hs, h0, hk, Nat.reduceEqDiff, Nat.reduceLT, reduceIte]) ?_
  refine sGuard rfl ?_
  simp only [go_sem, sint, hs, h0, hk, Nat.reduceEqDiff, Nat.reduceLT, Nat.reduceAdd, Nat.reduceSub, reduceIte, reduceCtorEq]
  refine stCall rfl (by kernel_rfl) (reverse_ok (revB (max 0 (min (64 : Int) 64)).toNat 0 x) 64 (by omega) M) (by simp only [go_sem, hs, h0, hk, Nat.reduceEqDiff, Nat.reduceLT, reduceIte]) ?_
  rw [hrr]
  refine sGuard rfl ?_
  simp only [go_sem, sint, hs, h0, hk, Nat.reduceEqDiff, Nat.reduceLT, Nat.reduceAdd, Nat.reduceSub, reduceIte, reduceCtorEq]
  refine sGuard rfl ?_
  simp only [go_sem, sint, hs, h0, hk, Nat.reduceEqDiff, Nat.reduceLT, Nat.reduceAdd, Nat.reduceSub, reduceIte, reduceCtorEq, bne_self_eq_false]
  refine sGuard rfl ?_
  simp only [go_sem, sint, hs, h0, hk, Nat.reduceEqDiff, Nat.reduceLT, Nat.reduceAdd, Nat.reduceSub, reduceIte, reduceCtorEq]
  refine sGuard rfl ?_
  simp only [go_sem, sint, hs, h0, hk, Nat.reduceEqDiff, Nat.reduceLT, Nat.reduceAdd, Nat.reduceSub, reduceIte, reduceCtorEq]
  refine stCall rfl (by kernel_rfl) (rotate_ok x 64 M) (by simp only [go_sem, hs, h0, hk, Nat.reduceEqDiff, Nat.reduceLT, reduceIte]) ?_
  rw [h64]
  refine sGuard rfl ?_
  simp only [go_sem, sint, hs, h0, hk, Nat.reduceEqDiff, Nat.reduceLT, Nat.reduceAdd, Nat.reduceSub, reduceIte, reduceCtorEq]
  refine sGuard rfl ?_
  simp only [go_sem, sint, hs, h0, hk, Nat.reduceEqDiff, Nat.reduceLT, Nat.reduceAdd, Nat.reduceSub, reduceIte, reduceCtorEq, bne_self_eq_false]
  refine W.pCond rfl false rfl (by simp only [go_sem, hs, Nat.reduceEqDiff, Nat.reduceLT, Nat.reduceAdd, reduceIte]) (fun h => by cases h) fun _ => W.pSkip rfl ?_
  simp only [go_sem]
  refine W.pRow rfl rfl ?_
  simp only [go_sem, sint, hs, h0, hk, Nat.reduceEqDiff, Nat.reduceLT, Nat.reduceAdd, Nat.reduceSub, reduceIte, reduceCtorEq]
  refine stCall rfl (by kernel_rfl) (bring_ok k 65 (by omega) (by omega) M) (by simp only [go_sem, hs, h0, hk, Nat.reduceEqDiff, Nat.reduceLT, reduceIte]) ?_
  simp only [go_sem, sint, hs, h0, hk, Nat.reduceEqDiff, Nat.reduceLT, Nat.reduceAdd, Nat.reduceSub, reduceIte, reduceCtorEq]
  have hw0 : 0 ≤ k % 65 := Int.emod_nonneg _ (by omega)
  have hw65 : k % 65 < 65 := Int.emod_lt_of_pos _ (by omega)
  refine W.pRow rfl rfl ?_
  simp only [go_sem, sint, hs, h0, hk, Nat.reduceEqDiff, Nat.reduceLT, Nat.reduceAdd, Nat.reduceSub, reduceIte, reduceCtorEq]
  refine stCall rfl (by kernel_rfl) (reverse_ok x (k % 65) (by omega) M) (by simp only [go_sem, hs, h0, hk, Nat.reduceEqDiff, Nat.reduceLT, reduceIte]) ?_
  simp only [go_sem, sint, hs, h0, hk, Nat.reduceEqDiff, Nat.reduceLT, Nat.reduceAdd, Nat.reduceSub, reduceIte, reduceCtorEq]
  have hwn : (max 0 (min (k % 65) 64)).toNat = (k % 65).toNat := by omega
  rw [hwn]
  have hwi : k % 65 = ((k % 65).toNat : Int) := by omega
  rw [hwi]
  have hw64 : (k % 65).toNat ≤ 64 := by omega
  generalize (k % 65).toNat = w at hw64
  refine W.pSeq rfl (W.pRow rfl rfl ?_)
  simp only [go_sem, sint, hs, h0, hk, Nat.reduceEqDiff, Nat.reduceLT, Nat.reduceAdd, Nat.reduceSub, reduceIte, reduceCtorEq]
  refine W.pBlock rfl (W.pLoop rfl (fun m r M => ∃ i : Nat, m = 64 - i ∧ i ≤ 64 ∧ r.size = 75 ∧ r.get 0 = .int .u64 (x.toNat : Int) ∧ r.get 1 = .int .i64 k ∧ r.get 5 = .int .i64 (w : Int) ∧ r.get 6 = .int .u64 ((revB w 0 x).toNat : Int) ∧ r.get 7 = .int .i64 (i : Int)) 64 ?_ ?_)
  · refine ⟨0, rfl, by omega, ?_, ?_, ?_, ?_, ?_, ?_⟩ <;> simp only [go_sem, hs, h0, hk, Nat.reduceEqDiff, Nat.reduceLT, Nat.reduceAdd, Nat.reduceSub, reduceIte, reduceCtorEq]
    all_goals rfl
  · clear hs h0 hk
    rintro m r M ⟨i, rfl, hi, hs, h0, hk, h5, h6, h7⟩
    refine W.pSeq rfl (W.pRow rfl rfl ?_)
    simp only [go_sem, sint, hs, h0, hk, h5, h6, h7, Nat.reduceEqDiff, Nat.reduceLT, Nat.reduceAdd, Nat.reduceSub, reduceIte, reduceCtorEq]
    refine W.pCond rfl (decide ((i : Int) < 64)) rfl (by simp only [go_sem, hs, Nat.reduceEqDiff, Nat.reduceLT, Nat.reduceAdd, Nat.reduceSub, reduceIte, reduceCtorEq]) ?_ ?_
    · intro hb
      have hlt : i < 64 := by have h : (i : Int) < 64 := (by simpa using hb); omega
      refine W.pSkip rfl ?_
      simp only [go_sem]
      refine W.pSeq rfl (W.pBlock rfl (W.pRow rfl rfl ?_))
      simp only [go_sem, sint, hs, h0, hk, h5, h6, h7, Nat.reduceEqDiff, Nat.reduceLT, Nat.reduceAdd, Nat.reduceSub, reduceIte, reduceCtorEq]
      refine W.pSeq rfl (W.pRow rfl rfl ?_)
      simp only [go_sem, sint, hs, h0, hk, h5, h6, h7, Nat.reduceEqDiff, Nat.reduceLT, Nat.reduceAdd, Nat.reduceSub, reduceIte, reduceCtorEq]
      have hi1 : IntKind.i64.wrap ((i : Int) + 1) = ((i + 1 : Nat) : Int) := by rw [wrap_i64_id] <;> omega
      have fin : ∀ r M, r.size = 75 → r.get 0 = .int .u64 (x.toNat : Int) → r.get 1 = .int .i64 k → r.get 5 = .int .i64 (w : Int) → r.get 6 = .int .u64 ((revB w 0 x).toNat : Int) → r.get 7 = .int .i64 (i : Int) →
          W Try.prog (R (R (L (L (R (L (R (R (R (R (R (bodyOf Try.f4)))))))))))) r M (loopK (fun m r M => ∃ i : Nat, m = 64 - i ∧ i ≤ 64 ∧ r.size = 75 ∧ r.get 0 = .int .u64 (x.toNat : Int) ∧ r.get 1 = .int .i64 k ∧ r.get 5 = .int .i64 (w : Int) ∧ r.get 6 = .int .u64 ((revB w 0 x).toNat : Int) ∧ r.get 7 = .int .i64 (i : Int)) (64 - i) (blockK 0 (thenK Try.prog (R (R (R (R (R (R (bodyOf Try.f4))))))) (resK Try.prog [.tmp 4] fun u _ => u = .bool true)))) := by
        intro r M hs h0 hk h5 h6 h7
        refine W.pRegion rfl ?_
        simp only [go_sem, sint, hs, h0, hk, h5, h6, h7, Nat.reduceEqDiff, Nat.reduceLT, Nat.reduceAdd, Nat.reduceSub, reduceIte, reduceCtorEq]
        rw [loopK_normal]
        refine ⟨64 - (i + 1), by omega, i + 1, rfl, by omega, ?_, ?_, ?_, ?_, ?_, ?_⟩ <;> simp only [go_sem, hs, h0, hk, h5, h6, h7, hi1, Nat.reduceEqDiff, Nat.reduceLT, Nat.reduceAdd, Nat.reduceSub, reduceIte, reduceCtorEq]
      refine W.pCond rfl (decide ((i : Int) < w)) rfl (by simp only [go_sem, hs, Nat.reduceEqDiff, Nat.reduceLT, Nat.reduceAdd, Nat.reduceSub, reduceIte, reduceCtorEq]) ?_ ?_
      · intro hb2
        have hiw : i < w := by have h : (i : Int) < w := (by simpa using hb2); omega
        have e1 : IntKind.i64.wrap ((w : Int) - 1) = (w : Int) - 1 := wrap_i64_id (by omega) (by omega)
        have e2 : IntKind.i64.wrap ((w : Int) - 1 - i) = (w : Int) - 1 - i := wrap_i64_id (by omega) (by omega)
        have e3 : ¬ ((w : Int) - 1 - i < 0) := by omega
        have e4 : x >>> ((w : Int) - 1 - i).toNat &&& 1#64 = revB w 0 x >>> i &&& 1#64 := by
          rw [bit_eq, revB_bit w 0 x i hw64 hlt, if_pos hiw]; congr 1; omega
        refine W.pRegion rfl ?_
        simp only [go_sem, sint, hs, h0, hk, h5, h6, h7, e1, e2, e3, ishr_u64, iand_one, e4, Nat.reduceEqDiff, Nat.reduceLT, Nat.reduceAdd, Nat.reduceSub, reduceIte, reduceCtorEq]
        refine turns_tail x k w i h1 h2 hlt _ _ ?_ ?_ ?_ ?_ ?_ ?_ ?_ _ (fun r' M' a b c d e f => ?_)
        case refine_8 =>
          simp only [blockK_normal, thenK_normal]
          simp only [go_sem, hs, h0, hk, h5, h6, h7, Nat.reduceEqDiff, Nat.reduceLT, Nat.reduceAdd, Nat.reduceSub, reduceIte, reduceCtorEq] at b c d e f
          exact fin r' M' a b c d e f
        all_goals simp only [go_sem, hs, h0, hk, h5, h6, h7, Nat.reduceEqDiff, Nat.reduceLT, Nat.reduceAdd, Nat.reduceSub, reduceIte, reduceCtorEq]
      · intro hb2
        have hiw : ¬ i < w := by have h : ¬ (i : Int) < w := (by simpa using hb2); omega
        have e4 : revB w 0 x >>> i &&& 1#64 = 0#64 := by
          rw [bit_zero, revB_bit w 0 x i hw64 hlt, if_neg hiw]; exact BitVec.getLsbD_zero
        refine W.pSkip rfl ?_
        simp only [go_sem]
        refine turns_tail x k w i h1 h2 hlt _ _ ?_ ?_ ?_ ?_ ?_ ?_ ?_ _ (fun r' M' a b c d e f => ?_)
        case refine_8 =>
          simp only [blockK_normal, thenK_normal]
          simp only [go_sem, hs, h0, hk, h5, h6, h7, Nat.reduceEqDiff, Nat.reduceLT, Nat.reduceAdd, Nat.reduceSub, reduceIte, reduceCtorEq] at b c d e f
          exact fin r' M' a b c d e f
        all_goals simp only [go_sem, hs, h0, hk, h5, h6, h7, e4, Nat.reduceEqDiff, Nat.reduceLT, Nat.reduceAdd, Nat.reduceSub, reduceIte, reduceCtorEq]
        all_goals rfl
    · intro hb
      have hlt : ¬ i < 64 := by have h : ¬ (i : Int) < 64 := (by simpa using hb); omega
      refine W.pExit rfl ?_
      simp only [go_sem, reduceIte]
      refine W.pRow rfl rfl ?_
      simp only [go_sem, sint, hs, h0, hk, h5, h6, h7, Nat.reduceEqDiff, Nat.reduceLT, Nat.reduceAdd, Nat.reduceSub, reduceIte, reduceCtorEq]
      refine stCall rfl (by kernel_rfl) (works_ok M) (by simp only [go_sem]) ?_
      simp only [go_sem, sint, hs, h0, hk, h5, h6, h7, Nat.reduceEqDiff, Nat.reduceLT, Nat.reduceAdd, Nat.reduceSub, reduceIte, reduceCtorEq]
      refine W.pRet rfl ?_
      simp only [go_sem, sint, hs, h0, hk, h5, h6, h7, Nat.reduceEqDiff, Nat.reduceLT, Nat.reduceAdd, Nat.reduceSub, reduceIte, reduceCtorEq]

theorem turns_ok (x : BitVec 64) (k : Int) (h1 : -9223372036854775808 ≤ k) (h2 : k < 9223372036854775808) (M : Mem) : CallW Try.prog 4 [.int .u64 (x.toNat : Int), .int .i64 k] M (fun u _ => u = .bool true) := by
  refine CallW.ofBody (rs := [.tmp 4]) Try.func4 rfl Try.ntmps4 rfl ?_
  refine W.pRow rfl rfl ?_
  simp only [go_sem, sint, Nat.reduceEqDiff, Nat.reduceLT, Nat.reduceAdd, Nat.reduceSub, reduceIte, reduceCtorEq]
  refine W.pSeq rfl (W.pRow rfl rfl ?_)
  simp only [go_sem, sint, Nat.reduceEqDiff, Nat.reduceLT, Nat.reduceAdd, Nat.reduceSub, reduceIte, reduceCtorEq]
  refine W.pCond rfl (k == -9223372036854775808) rfl (by simp only [go_sem, Nat.reduceEqDiff, Nat.reduceLT, Nat.reduceAdd, Nat.reduceSub, reduceIte, reduceCtorEq]) ?_ ?_
  · intro hb
    refine W.pRegion rfl ?_
    simp only [go_sem, sint, Nat.reduceEqDiff, Nat.reduceLT, Nat.reduceAdd, Nat.reduceSub, reduceIte, reduceCtorEq]
    refine turns_rest x 0 (by omega) (by omega) _ _ ?_ ?_ ?_
    all_goals simp only [go_sem, Nat.reduceEqDiff, Nat.reduceLT, Nat.reduceAdd, Nat.reduceSub, reduceIte, reduceCtorEq]
  · intro hb
    have hne : k ≠ -9223372036854775808 := by simpa using hb
    refine W.pSkip rfl ?_
    simp only [go_sem]
    refine turns_rest x k (by omega) (by omega) _ _ ?_ ?_ ?_
    all_goals simp only [go_sem, Nat.reduceEqDiff, Nat.reduceLT, Nat.reduceAdd, Nat.reduceSub, reduceIte, reduceCtorEq]
end Go.Ab
