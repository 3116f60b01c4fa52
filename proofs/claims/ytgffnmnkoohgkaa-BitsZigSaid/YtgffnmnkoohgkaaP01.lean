/- Chapter 01, plain law: turning bits. -/
namespace Go.Ab
def rotB (x : BitVec 64) (j : Nat) : BitVec 64 := x <<< j ||| x >>> (64 - j)
theorem rotB_bit (x : BitVec 64) {j i : Nat} (hj : j < 64) (hi : i < 64) : (rotB x j).getLsbD i = if i < j then x.getLsbD (64 - j + i) else x.getLsbD (i - j) := by
  unfold rotB
  rw [BitVec.getLsbD_or, BitVec.getLsbD_shiftLeft, BitVec.getLsbD_ushiftRight]
  split
  · rename_i h; simp [h]
  · rename_i h
    rw [BitVec.getLsbD_of_ge x (64 - j + i) (by omega)]
    simp [h, hi]
theorem rotB_zero (x : BitVec 64) : rotB x 0 = x := by
  apply BitVec.eq_of_getLsbD_eq
  intro i hi
  rw [rotB_bit x (by omega) hi, if_neg (by omega), Nat.sub_zero]
theorem rotB_back (x : BitVec 64) {j l : Nat} (hj : j < 64) (hl : l < 64) (h : (j + l) % 64 = 0) : rotB (rotB x j) l = x := by
  apply BitVec.eq_of_getLsbD_eq
  intro i hi
  rw [rotB_bit _ hl hi]
  split
  · rename_i h1
    rw [rotB_bit x hj (by omega)]
    split
    · congr 1; omega
    · congr 1; omega
  · rename_i h1
    rw [rotB_bit x hj (by omega)]
    split
    · congr 1; omega
    · congr 1; omega
theorem rotB_at (x : BitVec 64) {j i : Nat} (hj : j < 64) (hi : i < 64) : (rotB x j).getLsbD ((i + j) % 64) = x.getLsbD i := by
  rw [rotB_bit x hj (Nat.mod_lt _ (by omega))]
  split
  · congr 1; omega
  · congr 1; omega

def revB : Nat → BitVec 64 → BitVec 64 → BitVec 64
  | 0, out, _ => out
  | w + 1, out, x => revB w (out <<< 1 ||| (x &&& 1#64)) (x >>> 1)
theorem one_bit (i : Nat) (x : BitVec 64) : (x &&& 1#64).getLsbD i = (decide (i = 0) && x.getLsbD 0) := by
  rw [BitVec.getLsbD_and]
  by_cases h : i = 0
  · subst h; simp
  · have : (1#64).getLsbD i = false := by
      rw [BitVec.getLsbD_one]; simp [h]
    rw [this]; simp [h]
theorem revB_bit : ∀ (w : Nat) (out x : BitVec 64) (i : Nat), w ≤ 64 → i < 64 → (revB w out x).getLsbD i = if i < w then x.getLsbD (w - 1 - i) else out.getLsbD (i - w)
  | 0, out, x, i, _, _ => by simp [revB]
  | w + 1, out, x, i, hw, hi => by
    rw [revB, revB_bit w _ _ i (by omega) hi]
    by_cases h : i < w
    · rw [if_pos h, if_pos (by omega), BitVec.getLsbD_ushiftRight]
      congr 1; omega
    · rw [if_neg h, BitVec.getLsbD_or, one_bit, BitVec.getLsbD_shiftLeft]
      by_cases h2 : i = w
      · subst h2
        rw [if_pos (by omega)]
        simp
      · rw [if_neg (by omega)]
        have : ¬ i - w = 0 := by omega
        have h3 : i - w < 64 := by omega
        have h4 : ¬ i - w < 1 := by omega
        simp only [this, h3, h4, decide_true, decide_false, Bool.not_false, Bool.true_and, Bool.false_and, Bool.or_false]
        congr 1
theorem revB_rev (x : BitVec 64) : revB 64 0 (revB 64 0 x) = x := by
  apply BitVec.eq_of_getLsbD_eq
  intro i hi
  rw [revB_bit 64 _ _ i (by omega) hi, if_pos hi, revB_bit 64 _ _ _ (by omega) (by omega), if_pos (by omega)]
  congr 1; omega

/-- One bit, as a number. -/
theorem bit_eq (x y : BitVec 64) (i j : Nat) : ((x >>> i &&& 1#64) = (y >>> j &&& 1#64)) ↔ x.getLsbD i = y.getLsbD j := by
  constructor
  · intro h
    have := congrArg (fun b => b.getLsbD 0) h
    simp only [one_bit, BitVec.getLsbD_ushiftRight, Nat.add_zero, decide_true, Bool.true_and] at this
    exact this
  · intro h
    apply BitVec.eq_of_getLsbD_eq
    intro k hk
    simp only [one_bit, BitVec.getLsbD_ushiftRight, Nat.add_zero, h]
theorem bit_zero (x : BitVec 64) (i : Nat) : ((x >>> i &&& 1#64) = 0#64) ↔ x.getLsbD i = false := by
  constructor
  · intro h
    have := congrArg (fun b => b.getLsbD 0) h
    simp only [one_bit, BitVec.getLsbD_ushiftRight, Nat.add_zero, decide_true, Bool.true_and, BitVec.getLsbD_zero] at this
    exact this
  · intro h
    apply BitVec.eq_of_getLsbD_eq
    intro k hk
    simp only [one_bit, BitVec.getLsbD_ushiftRight, Nat.add_zero, h, Bool.and_false, BitVec.getLsbD_zero]
end Go.Ab
