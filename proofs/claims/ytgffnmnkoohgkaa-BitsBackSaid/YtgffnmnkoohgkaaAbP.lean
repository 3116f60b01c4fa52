/- Numbers' bits turned round; numbers of a size: plain laws. -/
import Derived.Test.YtgffnmnkoohgkaaAbN2
set_option linter.unusedSimpArgs false
set_option linter.unusedVariables false
namespace Go.Ab
def rotB (x : BitVec 64) (j : Nat) : BitVec 64 := x <<< j ||| x >>> (64 - j)
theorem rotB_bit (x : BitVec 64) {j i : Nat} (hj : j < 64) (hi : i < 64) : (rotB x j).getLsbD i = if i < j then x.getLsbD (64 - j + i) else x.getLsbD (i - j) := by
  unfold rotB
  rw [BitVec.getLsbD_or, BitVec.getLsbD_shiftLeft, BitVec.getLsbD_ushiftRight]
  split
  · rename_i h; simp [h]
  · rename_i h
    rw [BitVec.getLsbD_of_ge x (64 - j + i) (by omega)]
    simp [h, hi]
theorem rotB_zero (x : BitVec 64) : rotB x 0 = x := by
  apply BitVec.eq_of_getLsbD_eq
  intro i hi
  rw [rotB_bit x (by omega) hi, if_neg (by omega), Nat.sub_zero]
theorem rotB_back (x : BitVec 64) {j l : Nat} (hj : j < 64) (hl : l < 64) (h : (j + l) % 64 = 0) : rotB (rotB x j) l = x := by
  apply BitVec.eq_of_getLsbD_eq
  intro i hi
  rw [rotB_bit _ hl hi]
  split
  · rename_i h1
    rw [rotB_bit x hj (by omega)]
    split
    · congr 1; omega
    · congr 1; omega
  · rename_i h1
    rw [rotB_bit x hj (by omega)]
    split
    · congr 1; omega
    · congr 1; omega
theorem rotB_at (x : BitVec 64) {j i : Nat} (hj : j < 64) (hi : i < 64) : (rotB x j).getLsbD ((i + j) % 64) = x.getLsbD i := by
  rw [rotB_bit x hj (Nat.mod_lt _ (by omega))]
  split
  · congr 1; omega
  · congr 1; omega

def revB : Nat → BitVec 64 → BitVec 64 → BitVec 64
  | 0, out, _ => out
  | w + 1, out, x => revB w (out <<< 1 ||| (x &&& 1#64)) (x >>> 1)
theorem one_bit (i : Nat) (x : BitVec 64) : (x &&& 1#64).getLsbD i = (decide (i = 0) && x.getLsbD 0) := by
  rw [BitVec.getLsbD_and]
  by_cases h : i = 0
  · subst h; simp
  · have : (1#64).getLsbD i = false := by
      rw [BitVec.getLsbD_one]; simp [h]
    rw [this]; simp [h]
theorem revB_bit : ∀ (w : Nat) (out x : BitVec 64) (i : Nat), w ≤ 64 → i < 64 → (revB w out x).getLsbD i = if i < w then x.getLsbD (w - 1 - i) else out.getLsbD (i - w)
  | 0, out, x, i, _, _ => by simp [revB]
  | w + 1, out, x, i, hw, hi => by
    rw [revB, revB_bit w _ _ i (by omega) hi]
    by_cases h : i < w
    · rw [if_pos h, if_pos (by omega), BitVec.getLsbD_ushiftRight]
      congr 1; omega
    · rw [if_neg h, BitVec.getLsbD_or, one_bit, BitVec.getLsbD_shiftLeft]
      by_cases h2 : i = w
      · subst h2
        rw [if_pos (by omega)]
        simp
      · rw [if_neg (by omega)]
        have : ¬ i - w = 0 := by omega
        have h3 : i - w < 64 := by omega
        have h4 : ¬ i - w < 1 := by omega
        simp only [this, h3, h4, decide_true, decide_false, Bool.not_false, Bool.true_and, Bool.false_and, Bool.or_false]
        congr 1
theorem revB_rev (x : BitVec 64) : revB 64 0 (revB 64 0 x) = x := by
  apply BitVec.eq_of_getLsbD_eq
  intro i hi
  rw [revB_bit 64 _ _ i (by omega) hi, if_pos hi, revB_bit 64 _ _ _ (by omega) (by omega), if_pos (by omega)]
  congr 1; omega

/-- One bit, as a number. -/
theorem bit_eq (x y : BitVec 64) (i j : Nat) : ((x >>> i &&& 1#64) = (y >>> j &&& 1#64)) ↔ x.getLsbD i = y.getLsbD j := by
  constructor
  · intro h
    have := congrArg (fun b => b.getLsbD 0) h
    simp only [one_bit, BitVec.getLsbD_ushiftRight, Nat.add_zero, decide_true, Bool.true_and] at this
    exact this
  · intro h
    apply BitVec.eq_of_getLsbD_eq
    intro k hk
    simp only [one_bit, BitVec.getLsbD_ushiftRight, Nat.add_zero, h]
theorem bit_zero (x : BitVec 64) (i : Nat) : ((x >>> i &&& 1#64) = 0#64) ↔ x.getLsbD i = false := by
  constructor
  · intro h
    have := congrArg (fun b => b.getLsbD 0) h
    simp only [one_bit, BitVec.getLsbD_ushiftRight, Nat.add_zero, decide_true, Bool.true_and, BitVec.getLsbD_zero] at this
    exact this
  · intro h
    apply BitVec.eq_of_getLsbD_eq
    intro k hk
    simp only [one_bit, BitVec.getLsbD_ushiftRight, Nat.add_zero, h, Bool.and_false, BitVec.getLsbD_zero]

/-! ### The document's way -/
theorem rotB_step (x : BitVec 64) {j : Nat} (hj : j < 63) : rotB (rotB x j) 1 = rotB x (j + 1) := by
  apply BitVec.eq_of_getLsbD_eq
  intro i hi
  rw [rotB_bit _ (by omega) hi, rotB_bit x (by omega) hi]
  by_cases h : i < 1
  · rw [if_pos h, if_pos (by omega), rotB_bit x (by omega) (by omega)]
    split
    · congr 1; omega
    · congr 1; omega
  · rw [if_neg h, rotB_bit x (by omega) (by omega)]
    by_cases h2 : i - 1 < j
    · rw [if_pos h2, if_pos (by omega)]; congr 1; omega
    · rw [if_neg h2, if_neg (by omega)]; congr 1; omega
theorem or_bit {m b : Nat} (h : b < 2) : (2 * m) ||| b = 2 * m + b := by
  have := or_add (a := b) (b := m) (j := 1) (by omega)
  rw [Nat.or_comm, show 2 * m = m * 2 ^ 1 by omega, this]; omega
theorem rot1 (x : BitVec 64) : IntKind.u64.wrap (IntKind.u64.wrap ((x.toNat : Int) * 2) + (x.toNat : Int).tdiv 9223372036854775808) = ((rotB x 1).toNat : Int) := by
  have hx := x.isLt
  rw [Int.tdiv_eq_ediv_of_nonneg (by omega), wrap_u64, wrap_u64]
  unfold rotB
  rw [BitVec.toNat_or, BitVec.toNat_shiftLeft, BitVec.toNat_ushiftRight, Nat.shiftLeft_eq, Nat.shiftRight_eq_div_pow]
  have e : x.toNat * 2 ^ 1 % 2 ^ 64 = 2 * (x.toNat % 2 ^ 63) := by omega
  rw [e, or_bit (by omega)]
  omega
theorem rev1 (out x : BitVec 64) : IntKind.u64.wrap (IntKind.u64.wrap (2 * (out.toNat : Int)) + (x.toNat : Int).tmod 2) = ((out <<< 1 ||| (x &&& 1#64)).toNat : Int) := by
  have hx := x.isLt
  have ho := out.isLt
  rw [Int.tmod_eq_emod_of_nonneg (by omega), wrap_u64, wrap_u64, BitVec.toNat_or, BitVec.toNat_shiftLeft, BitVec.toNat_and, Nat.shiftLeft_eq]
  have e1 : (1#64 : BitVec 64).toNat = 2 ^ 1 - 1 := rfl
  have e : out.toNat * 2 ^ 1 % 2 ^ 64 = 2 * (out.toNat % 2 ^ 63) := by omega
  rw [e1, Nat.and_two_pow_sub_one_eq_mod, e, or_bit (by omega)]
  omega
theorem half (x : BitVec 64) : (x.toNat : Int).tdiv 2 = ((x >>> 1).toNat : Int) := by
  rw [Int.tdiv_eq_ediv_of_nonneg (by omega), BitVec.toNat_ushiftRight, Nat.shiftRight_eq_div_pow]
  omega
theorem ofI {n : Int} (h0 : 0 ≤ n) (h1 : n < 18446744073709551616) : ∃ x : BitVec 64, n = (x.toNat : Int) := ⟨BitVec.ofInt 64 n, by rw [BitVec.toNat_ofInt]; omega⟩

theorem div_div' {a b c : Int} (h : 0 ≤ b) : a / b / c = a / (b * c) := by
  rw [Int.ediv_ediv, if_neg (by omega)]; omega

/-! ### Numbers of a size -/
def szB (k : Int) : Bool := k == 8 || k == 16 || k == 32 || k == 64
theorem szB_q {k : Int} (h : szB k = true) : ∃ q : Nat, k = 8 * (q : Int) ∧ 1 ≤ q ∧ q ≤ 8 := by
  simp only [szB, Bool.or_eq_true, beq_iff_eq] at h
  rcases h with ((rfl | rfl) | rfl) | rfl
  · exact ⟨1, rfl, by omega, by omega⟩
  · exact ⟨2, rfl, by omega, by omega⟩
  · exact ⟨4, rfl, by omega, by omega⟩
  · exact ⟨8, rfl, by omega, by omega⟩
/-- The first i of q bytes, the greatest first. -/
def beTop (q : Nat) (n : Int) : Nat → List Int
  | 0 => []
  | i + 1 => beTop q n i ++ [n / 2 ^ (8 * (q - 1 - i)) % 256]
theorem beTop_length (q : Nat) (n : Int) : ∀ i, (beTop q n i).length = i
  | 0 => rfl
  | i + 1 => by rw [beTop, List.length_append, beTop_length q n i]; rfl
theorem beTop_isB (q : Nat) (n : Int) : ∀ i, isB (beTop q n i)
  | 0 => isB.nil
  | i + 1 => (beTop_isB q n i).app fun b hb => by simp at hb; omega
def putI (bs : List Int) (k n : Int) : List Int × Int :=
  if szB k = false then ([], 2) else if n / 2 ^ k.toNat ≠ 0 then ([], 9) else (bs ++ beTop (k.toNat / 8) n (k.toNat / 8), 0)
theorem putI_isB {bs : List Int} (h : isB bs) (k n : Int) : isB (putI bs k n).1 := by
  unfold putI
  split
  · exact isB.nil
  · split
    · exact isB.nil
    · exact h.app (beTop_isB _ _ _)
theorem ishr_nn {n : Int} {j : Nat} (hj : j ≤ 64) : ishr .u64 n (j : Int) = n / 2 ^ j := by
  unfold ishr
  rw [Int.fdiv_eq_ediv_of_nonneg _ (Int.pow_nonneg (by omega)), Int.toNat_natCast, Nat.min_eq_left (by show j ≤ 64; exact hj)]
theorem put_over {n : Int} {q : Nat} (h1 : 1 ≤ q) (h8 : q ≤ 8) : ishr .u64 (ishr .u64 n (8 * (q : Int) - 1)) 1 = n / 2 ^ (8 * q) := by
  rw [show (8 * (q : Int) - 1) = ((8 * q - 1 : Nat) : Int) by omega, ishr_nn (by omega), show (1 : Int) = ((1 : Nat) : Int) from rfl, ishr_nn (by omega), div_div' (Int.pow_nonneg (by omega))]
  congr 1
  rw [← Int.pow_add]
  congr 1
  omega
theorem put_byte {n : Int} {q i : Nat} (h8 : q ≤ 8) (hi : i < q) : IntKind.u8.wrap (ishr .u64 n (8 * (q : Int) - 8 - 8 * (i : Int))) = n / 2 ^ (8 * (q - 1 - i)) % 256 := by
  rw [show (8 * (q : Int) - 8 - 8 * (i : Int)) = ((8 * (q - 1 - i) : Nat) : Int) by omega, ishr_nn (by omega), wrap_u8_eq]
/-- The bytes, read. -/
theorem beTop_read (q : Nat) (n : Int) (hn : n / 2 ^ (8 * q) = 0) : ∀ i, i ≤ q → (beTop q n i).foldl (fun a b => a * 256 + b) 0 = n / 2 ^ (8 * (q - i))
  | 0, _ => by rw [Nat.sub_zero, hn]; rfl
  | i + 1, h => by
    rw [beTop, List.foldl_append, beTop_read q n hn i (by omega)]
    show n / 2 ^ (8 * (q - i)) * 256 + n / 2 ^ (8 * (q - 1 - i)) % 256 = _
    rw [show q - 1 - i = q - (i + 1) by omega, show q - i = q - (i + 1) + 1 by omega, Nat.mul_add, Int.pow_add, ← div_div' (Int.pow_nonneg (by omega))]
    generalize n / 2 ^ (8 * (q - (i + 1))) = y
    show y / 256 * 256 + y % 256 = y
    omega
end Go.Ab
