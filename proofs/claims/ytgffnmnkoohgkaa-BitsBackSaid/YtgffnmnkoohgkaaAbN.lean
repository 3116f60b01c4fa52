/- Numbers and their bytes: plain laws. -/
import Derived.Test.YtgffnmnkoohgkaaAbE3
set_option linter.unusedSimpArgs false
set_option linter.unusedVariables false
namespace Go.Ab
def zigI (n : Int) : Int := if n < 0 then -2 * n - 1 else 2 * n
def zagI (u : Int) : Int := if u % 2 = 1 then -(u / 2) - 1 else u / 2

theorem ixor_zero {a : Int} (h0 : 0 ≤ a) (h1 : a < 18446744073709551616) : ixor .u64 a 0 = a := by
  have e : a = ((BitVec.ofInt 64 a).toNat : Int) := by rw [BitVec.toNat_ofInt]; omega
  rw [e]
  have := ixor_u64 (BitVec.ofInt 64 a) 0#64
  simpa using this
theorem ixor_ones {a : Int} (h0 : 0 ≤ a) (h1 : a < 18446744073709551616) : ixor .u64 a 18446744073709551615 = 18446744073709551615 - a := by
  have e : a = ((BitVec.ofInt 64 a).toNat : Int) := by rw [BitVec.toNat_ofInt]; omega
  rw [e]
  have h := ixor_u64 (BitVec.ofInt 64 a) (BitVec.allOnes 64)
  rw [BitVec.xor_allOnes, BitVec.toNat_not] at h
  have h2 : ((BitVec.allOnes 64).toNat : Int) = 18446744073709551615 := by decide
  rw [h2] at h
  rw [h]
  have := (BitVec.ofInt 64 a).isLt
  omega

theorem zig_key {n : Int} (h1 : -9223372036854775808 ≤ n) (h2 : n < 9223372036854775808) : ixor .u64 (ishl .u64 (IntKind.u64.wrap n) 1) (IntKind.u64.wrap (ishr .i64 n 63)) = zigI n := by
  have e1 : ishl .u64 (IntKind.u64.wrap n) 1 = (n % 18446744073709551616 * 2) % 18446744073709551616 := by
    unfold ishl; rw [wrap_u64, wrap_u64]; rfl
  have e2 : ishr .i64 n 63 = n / 9223372036854775808 := by
    unfold ishr
    rw [Int.fdiv_eq_ediv_of_nonneg _ (Int.pow_nonneg (by omega))]; rfl
  rw [e1, e2, wrap_u64]
  unfold zigI
  by_cases hn : n < 0
  · rw [if_pos hn, show n / 9223372036854775808 % 18446744073709551616 = 18446744073709551615 by omega, ixor_ones (by omega) (by omega)]
    omega
  · rw [if_neg hn, show n / 9223372036854775808 % 18446744073709551616 = 0 by omega, ixor_zero (by omega) (by omega)]
    omega
theorem iand_u64_one {u : Int} (h0 : 0 ≤ u) (h1 : u < 18446744073709551616) : iand .u64 u 1 = u % 2 := by
  have e : u = ((BitVec.ofInt 64 u).toNat : Int) := by rw [BitVec.toNat_ofInt]; omega
  have h := iand_u64 (BitVec.ofInt 64 u) 1#64
  rw [← e] at h
  have e2 : iand .u64 u 1 = iand .u64 u ((1#64 : BitVec 64).toNat : Int) := rfl
  rw [e2, h, BitVec.toNat_and]
  have e3 : (1#64 : BitVec 64).toNat = 2 ^ 1 - 1 := rfl
  rw [e3, Nat.and_two_pow_sub_one_eq_mod]
  omega
theorem ixor_i64_zero {a : Int} (h0 : 0 ≤ a) (h1 : a < 9223372036854775808) : ixor .i64 a 0 = a := by
  have e : ixor .i64 a 0 = IntKind.i64.wrap ((BitVec.ofInt 64 a ^^^ 0#64).toNat : Int) := rfl
  rw [e, BitVec.xor_zero, BitVec.toNat_ofInt, wrap_i64_id] <;> omega
theorem ixor_i64_ones {a : Int} (h0 : 0 ≤ a) (h1 : a < 9223372036854775808) : ixor .i64 a (-1) = -a - 1 := by
  have e : ixor .i64 a (-1) = IntKind.i64.wrap ((BitVec.ofInt 64 a ^^^ BitVec.allOnes 64).toNat : Int) := rfl
  rw [e, BitVec.xor_allOnes, BitVec.toNat_not, BitVec.toNat_ofInt, wrap_i64]
  split <;> omega

theorem zag_key {u : Int} (h1 : 0 ≤ u) (h2 : u < 18446744073709551616) : ixor .i64 (IntKind.i64.wrap (ishr .u64 u 1)) (IntKind.i64.wrap (-IntKind.i64.wrap (iand .u64 u 1))) = zagI u := by
  have e2 : ishr .u64 u 1 = u / 2 := by
    unfold ishr
    rw [Int.fdiv_eq_ediv_of_nonneg _ (Int.pow_nonneg (by omega))]; rfl
  rw [e2, iand_u64_one h1 h2, wrap_i64_id (n := u / 2) (by omega) (by omega), wrap_i64_id (n := u % 2) (by omega) (by omega)]
  unfold zagI
  by_cases hu : u % 2 = 1
  · rw [if_pos hu, hu, show IntKind.i64.wrap (-1) = -1 from wrap_i64_id (by omega) (by omega), ixor_i64_ones (by omega) (by omega)]
  · rw [if_neg hu, show u % 2 = 0 by omega, show IntKind.i64.wrap (-0) = 0 from wrap_i64_id (by omega) (by omega), ixor_i64_zero (by omega) (by omega)]
theorem zag_zig {n : Int} (h1 : -9223372036854775808 ≤ n) (h2 : n < 9223372036854775808) : zagI (zigI n) = n := by unfold zagI zigI; split <;> split at * <;> omega
theorem zig_zag {u : Int} (h1 : 0 ≤ u) (h2 : u < 18446744073709551616) : zigI (zagI u) = u := by unfold zagI zigI; split <;> split at * <;> omega

/-- A varint is read: from the k-th byte on, u being read already. -/
def rv : Nat → Int → List Int → Int × List Int × Int
  | _, _, [] => (0, [], 3)
  | k, u, c :: rest =>
    if 9 ≤ k ∧ 1 < c then (0, [], 9)
    else if 0 < k ∧ c = 0 then (0, [], 4)
    else if c < 128 then (u + c % 128 * 2 ^ (7 * k), rest, 0)
    else rv (k + 1) (u + c % 128 * 2 ^ (7 * k)) rest
def rvar (bs : List Int) (e : Int) : Int × List Int × Int := if e = 0 then rv 0 0 bs else (0, [], e)

def isB (bs : List Int) : Prop := ∀ b ∈ bs, 0 ≤ b ∧ b < 256

theorem wrap_small {c p : Int} (h0 : 0 ≤ c) (hp : 0 ≤ p) (h : c * p < 18446744073709551616) : IntKind.u64.wrap (c * p) = c * p := wrap_u64_id (Int.mul_nonneg h0 hp) h
theorem part_lt {c : Int} (h0 : 0 ≤ c) {k : Nat} (hk : k ≤ 8 ∨ (k = 9 ∧ c ≤ 1)) : c % 128 * 2 ^ (7 * k) < 18446744073709551616 := by
  have hp : (0 : Int) ≤ 2 ^ (7 * k) := Int.pow_nonneg (by omega)
  rcases hk with hk | ⟨rfl, hc⟩
  · have h1 : (2 : Int) ^ (7 * k) ≤ 2 ^ 56 := by
      have := Nat.pow_le_pow_right (n := 2) (by omega) (show 7 * k ≤ 56 by omega)
      exact_mod_cast this
    have h2 : c % 128 * 2 ^ (7 * k) ≤ 127 * 2 ^ (7 * k) := Int.mul_le_mul_of_nonneg_right (by omega) hp
    generalize (2 : Int) ^ (7 * k) = p at *
    have : (2 : Int) ^ 56 = 72057594037927936 := by decide
    omega
  · have h2 : c % 128 * 2 ^ (7 * 9) ≤ 1 * 2 ^ (7 * 9) := Int.mul_le_mul_of_nonneg_right (by omega) hp
    have : (2 : Int) ^ (7 * 9) = 9223372036854775808 := by decide
    omega
theorem iand127 {c : Int} (h0 : 0 ≤ c) (h1 : c < 256) : iand .u8 c 127 = c % 128 := by
  have e : iand .u8 c 127 = IntKind.u8.wrap ((BitVec.ofInt 8 c &&& 127#8).toNat : Int) := rfl
  have h : ∀ x : BitVec 8, (x &&& 127#8).toNat = x.toNat % 128 := by decide
  rw [e, h, BitVec.toNat_ofInt, wrap_u8_eq]
  omega
theorem shl_part {c : Int} (h0 : 0 ≤ c) (h1 : c < 256) {k : Nat} (hk : k ≤ 8 ∨ (k = 9 ∧ c ≤ 1)) : ishl .u64 (IntKind.u64.wrap (iand .u8 c 127)) (7 * (k : Int)) = c % 128 * 2 ^ (7 * k) := by
  rw [iand127 h0 h1, wrap_u64_id (by omega) (by omega)]
  unfold ishl
  have e : (7 * (k : Int)).toNat = 7 * k := by omega
  rw [e, Nat.min_eq_left (by show 7 * k ≤ 64; omega)]
  exact wrap_small (by omega) (Int.pow_nonneg (by omega)) (part_lt h0 hk)
/-- Bits that do not meet are added. -/
theorem or_add {a b : Nat} {j : Nat} (h : a < 2 ^ j) : a ||| (b * 2 ^ j) = a + b * 2 ^ j := by
  rw [← Nat.shiftLeft_eq, Nat.or_comm, ← Nat.shiftLeft_add_eq_or_of_lt h, Nat.add_comm]
theorem ior_nat {a b : Nat} (ha : a < 18446744073709551616) (hb : b < 18446744073709551616) : ior .u64 (a : Int) (b : Int) = ((a ||| b : Nat) : Int) := by
  have h := ior_u64 (BitVec.ofNat 64 a) (BitVec.ofNat 64 b)
  rw [BitVec.toNat_or, BitVec.toNat_ofNat, BitVec.toNat_ofNat, Nat.mod_eq_of_lt ha, Nat.mod_eq_of_lt hb] at h
  exact h
theorem or_part {u c : Int} {k : Nat} (h0 : 0 ≤ u) (h1 : u < 2 ^ (7 * k)) (hc : 0 ≤ c) (hk : k ≤ 8 ∨ (k = 9 ∧ c ≤ 1)) : ior .u64 u (c % 128 * 2 ^ (7 * k)) = u + c % 128 * 2 ^ (7 * k) := by
  have hlt := part_lt hc hk
  obtain ⟨a, rfl⟩ := Int.eq_ofNat_of_zero_le h0
  obtain ⟨d, hd⟩ := Int.eq_ofNat_of_zero_le (show 0 ≤ c % 128 by omega)
  rw [hd] at hlt ⊢
  have e : ((d : Int) * 2 ^ (7 * k)) = ((d * 2 ^ (7 * k) : Nat) : Int) := by simp
  have h1' : a < 2 ^ (7 * k) := by exact_mod_cast h1
  rw [e] at hlt ⊢
  have hp : 2 ^ (7 * k) ≤ 2 ^ 63 := Nat.pow_le_pow_right (by omega) (by omega)
  rw [ior_nat (by omega) (by omega), or_add h1']
  simp
theorem rv_bound {u c : Int} {k : Nat} (h1 : u < 2 ^ (7 * k)) : u + c % 128 * 2 ^ (7 * k) < 2 ^ (7 * (k + 1)) := by
  have e : (2 : Int) ^ (7 * (k + 1)) = 2 ^ (7 * k) * 128 := by rw [Nat.mul_add, Int.pow_add]; rfl
  rw [e]
  have hp : (0 : Int) ≤ 2 ^ (7 * k) := Int.pow_nonneg (by omega)
  generalize (2 : Int) ^ (7 * k) = p at *
  have h2 : c % 128 * p ≤ 127 * p := Int.mul_le_mul_of_nonneg_right (by omega) hp
  omega

theorem zigI_range {n : Int} (h1 : -9223372036854775808 ≤ n) (h2 : n < 9223372036854775808) : 0 ≤ zigI n ∧ zigI n < 18446744073709551616 := by unfold zigI; split <;> omega
theorem zagI_range {u : Int} (h1 : 0 ≤ u) (h2 : u < 18446744073709551616) : -9223372036854775808 ≤ zagI u ∧ zagI u < 9223372036854775808 := by unfold zagI; split <;> omega

/-! ### What is read is in range -/
theorem isB.tail {c : Int} {l : List Int} (h : isB (c :: l)) : isB l := fun b hb => h b (List.mem_cons_of_mem _ hb)
theorem isB.head {c : Int} {l : List Int} (h : isB (c :: l)) : 0 ≤ c ∧ c < 256 := h c (List.mem_cons_self ..)
theorem isB.app {a b : List Int} (h : isB a) (k : isB b) : isB (a ++ b) := fun x hx => by
  rcases List.mem_append.1 hx with hx | hx
  · exact h x hx
  · exact k x hx
theorem isB.drop {l : List Int} (h : isB l) (n : Nat) : isB (l.drop n) := fun b hb => h b (List.mem_of_mem_drop hb)
theorem isB.take {l : List Int} (h : isB l) (n : Nat) : isB (l.take n) := fun b hb => h b (List.mem_of_mem_take hb)
theorem isB.nil : isB [] := fun b hb => by cases hb
theorem rv_spec : ∀ (l : List Int) (k : Nat) (u : Int), isB l → 0 ≤ u → u < 2 ^ (7 * k) → k ≤ 9 →
    0 ≤ (rv k u l).1 ∧ (rv k u l).1 < 18446744073709551616 ∧ isB (rv k u l).2.1 ∧ (rv k u l).2.1.length ≤ l.length ∧ ((rv k u l).2.2 ≠ 0 → (rv k u l).2.1 = [] ∧ (rv k u l).1 = 0)
  | [], k, u, _, h0, h1, hk => by simp [rv, isB.nil]
  | c :: l, k, u, hb, h0, h1, hk => by
    obtain ⟨hc0, hc1⟩ := hb.head
    unfold rv
    by_cases hbad : 9 ≤ k ∧ 1 < c
    · rw [if_pos hbad]; simp [isB.nil]
    · rw [if_neg hbad]
      by_cases hz : 0 < k ∧ c = 0
      · rw [if_pos hz]; simp [isB.nil]
      · rw [if_neg hz]
        have hk' : k ≤ 8 ∨ (k = 9 ∧ c ≤ 1) := by omega
        have hp := part_lt hc0 hk'
        have h2 : 0 ≤ c % 128 * 2 ^ (7 * k) := Int.mul_nonneg (by omega) (Int.pow_nonneg (by omega))
        have hu64 : u + c % 128 * 2 ^ (7 * k) < 18446744073709551616 := by
          rcases hk' with h8 | ⟨rfl, hc⟩
          · have h3 := rv_bound (c := c) h1
            have h4 : (2 : Int) ^ (7 * (k + 1)) ≤ 2 ^ 63 := by
              have := Nat.pow_le_pow_right (n := 2) (by omega) (show 7 * (k + 1) ≤ 63 by omega)
              exact_mod_cast this
            have : (2 : Int) ^ 63 = 9223372036854775808 := by decide
            omega
          · have e : (2 : Int) ^ (7 * 9) = 9223372036854775808 := by decide
            rw [e] at h1 ⊢
            omega
        by_cases hlt : c < 128
        · rw [if_pos hlt]
          exact ⟨by omega, hu64, hb.tail, by simp, fun h => absurd rfl h⟩
        · rw [if_neg hlt]
          have hk9 : k + 1 ≤ 9 := by omega
          have := rv_spec l (k + 1) (u + c % 128 * 2 ^ (7 * k)) hb.tail (by omega) (rv_bound h1) hk9
          exact ⟨this.1, this.2.1, this.2.2.1, by simp; omega, this.2.2.2.2⟩
theorem rvar_spec {bs : List Int} {e : Int} (hb : isB bs) : 0 ≤ (rvar bs e).1 ∧ (rvar bs e).1 < 18446744073709551616 ∧ isB (rvar bs e).2.1 ∧ (rvar bs e).2.1.length ≤ bs.length ∧ ((rvar bs e).2.2 ≠ 0 → (rvar bs e).2.1 = [] ∧ (rvar bs e).1 = 0) := by
  unfold rvar
  split
  · exact rv_spec bs 0 0 hb (by omega) (by omega) (by omega)
  · simp [isB.nil]

/-! ### Bytes of a varint -/
def vb : Nat → Int → List Int
  | 0, _ => []
  | k + 1, u => if u < 128 then [u] else (u % 128 + 128) :: vb k (u / 128)
theorem ior128 (n : Int) : ior .u8 (n % 256) 128 = n % 128 + 128 := by
  have e : ior .u8 (n % 256) 128 = IntKind.u8.wrap ((BitVec.ofInt 8 (n % 256) ||| 128#8).toNat : Int) := rfl
  have h : ∀ x : BitVec 8, (x ||| 128#8).toNat = x.toNat % 128 + 128 := by decide
  rw [e, h, BitVec.toNat_ofInt, wrap_u8_eq]
  omega
theorem shr7 {u : Int} : ishr .u64 u 7 = u / 128 := by
  unfold ishr
  rw [Int.fdiv_eq_ediv_of_nonneg _ (Int.pow_nonneg (by omega))]; rfl
theorem vb_isB : ∀ (k : Nat) (u : Int), 0 ≤ u → isB (vb k u)
  | 0, _, _ => isB.nil
  | k + 1, u, h => by
    unfold vb
    split
    · intro b hb; simp at hb; subst hb; omega
    · intro b hb
      rcases List.mem_cons.1 hb with rfl | hb
      · omega
      · exact vb_isB k (u / 128) (by omega) b hb
theorem vb_len : ∀ (k : Nat) (u : Int), (vb k u).length ≤ k
  | 0, _ => Nat.le_refl _
  | k + 1, u => by
    unfold vb
    split
    · simp
    · simp; exact vb_len k _
end Go.Ab
