/- Numbers of a size, read; what was written is read: plain laws. -/
import Derived.Test.YtgffnmnkoohgkaaAbSl2
set_option linter.unusedSimpArgs false
set_option linter.unusedVariables false
namespace Go.Ab
def beF (bs : List Int) : Int := bs.foldl (fun a b => a * 256 + b) 0
theorem beF_snoc (bs : List Int) (c : Int) : beF (bs ++ [c]) = beF bs * 256 + c := by unfold beF; rw [List.foldl_append]; rfl
theorem pow256 (n : Nat) : (2 : Int) ^ (8 * (n + 1)) = 2 ^ (8 * n) * 256 := by rw [Nat.mul_add, Int.pow_add]; rfl
theorem beF_range : ∀ (n : Nat) (bs : List Int), bs.length = n → isB bs → 0 ≤ beF bs ∧ beF bs < 2 ^ (8 * n)
  | 0, bs, h, _ => by
    have : bs = [] := List.eq_nil_of_length_eq_zero h
    subst this
    exact ⟨by simp [beF], by simp [beF]⟩
  | n + 1, bs, h, hb => by
    have hne : bs ≠ [] := by intro e; subst e; simp at h
    obtain ⟨l, c, rfl⟩ : ∃ l c, bs = l ++ [c] := ⟨_, _, (List.dropLast_concat_getLast hne).symm⟩
    have h1 := beF_range n l (by simpa using h) (fun b hb' => hb b (List.mem_append_left _ hb'))
    have h2 := hb c (List.mem_append_right _ (by simp))
    rw [beF_snoc, pow256]
    omega
/-- A number of k bits is read. -/
def rnum (bs : List Int) (e k : Int) : Int × List Int × Int :=
  if e ≠ 0 then (0, [], e) else if szB k = false then (0, [], 2) else if bs.length < k.toNat / 8 then (0, [], 3)
  else (beF (bs.take (k.toNat / 8)), bs.drop (k.toNat / 8), 0)
theorem or_byte {a c : Int} (h0 : 0 ≤ a) (h1 : a < 72057594037927936) (c0 : 0 ≤ c) (c1 : c < 256) : ior .u64 (ishl .u64 a 8) (IntKind.u64.wrap c) = a * 256 + c := by
  have e1 : ishl .u64 a 8 = a * 256 := by
    unfold ishl
    show IntKind.u64.wrap (a * 2 ^ 8) = _
    exact wrap_u64_id (by omega) (by omega)
  rw [e1, wrap_u64_id (by omega) (by omega)]
  obtain ⟨m, rfl⟩ := Int.eq_ofNat_of_zero_le h0
  obtain ⟨b, rfl⟩ := Int.eq_ofNat_of_zero_le c0
  have e2 : ((m : Int) * 256) = ((m * 2 ^ 8 : Nat) : Int) := by omega
  rw [e2, ior_nat (by omega) (by omega), Nat.or_comm, or_add (by omega)]
  omega
theorem take_snoc1 {bs : List Int} {i : Nat} {c : Int} {rest : List Int} (h : bs.drop i = c :: rest) : bs.take (i + 1) = bs.take i ++ [c] ∧ bs.drop (i + 1) = rest := by
  have hi : i < bs.length := by
    rcases Nat.lt_or_ge i bs.length with h' | h'
    · exact h'
    · rw [List.drop_eq_nil_of_le h'] at h; cases h
  have h2 := List.drop_eq_getElem_cons hi
  rw [h2] at h
  obtain ⟨rfl, rfl⟩ := List.cons.inj h
  exact ⟨by rw [List.take_succ_eq_append_getElem hi], rfl⟩

/-! ### BitsBack's bytes -/
def top (u : Int) (q : Nat) : Int := u / 2 ^ (64 - 8 * q)
def piece (u : Int) (i : Nat) : List Int := beTop (2 ^ i) (top u (2 ^ i)) (2 ^ i)
def pre (u : Int) : Nat → List Int
  | 0 => []
  | i + 1 => pre u i ++ piece u i
def suf (u : Int) (x : List Int) : Nat → List Int
  | 0 => x
  | j + 1 => piece u (3 - j) ++ suf u x j
theorem pre_suf (u : Int) (x : List Int) : pre u 4 ++ x = suf u x 4 := by simp [pre, suf]
theorem piece_isB (u : Int) (i : Nat) : isB (piece u i) := beTop_isB _ _ _
theorem piece_length (u : Int) (i : Nat) : (piece u i).length = 2 ^ i := beTop_length _ _ _
theorem pre_isB (u : Int) : ∀ i, isB (pre u i)
  | 0 => isB.nil
  | i + 1 => (pre_isB u i).app (piece_isB u i)
theorem suf_isB (u : Int) (x : List Int) (h : isB x) : ∀ i, isB (suf u x i)
  | 0 => h
  | i + 1 => (piece_isB u _).app (suf_isB u x h i)
theorem suf_len (u : Int) (x : List Int) : ∀ j, (suf u x j).length ≤ 8 * j + x.length
  | 0 => by simp [suf]
  | j + 1 => by
    have := suf_len u x j
    have h8 : 2 ^ (3 - j) ≤ 8 := Nat.pow_le_pow_right (n := 2) (by omega) (show 3 - j ≤ 3 by omega)
    rw [suf, List.length_append, piece_length]; omega
theorem pre_length (u : Int) : ∀ i, (pre u i).length = 2 ^ i - 1
  | 0 => rfl
  | i + 1 => by rw [pre, List.length_append, pre_length u i, piece_length, Nat.pow_succ]; have := Nat.pos_of_ne_zero (show 2 ^ i ≠ 0 by simp); omega
theorem top_range {u : Int} (h0 : 0 ≤ u) (h1 : u < 18446744073709551616) {q : Nat} (hq : q ≤ 8) : 0 ≤ top u q ∧ top u q < 18446744073709551616 ∧ top u q / 2 ^ (8 * q) = 0 := by
  have hp : (0 : Int) < 2 ^ (64 - 8 * q) := Int.pow_pos (by omega)
  unfold top
  refine ⟨Int.ediv_nonneg h0 (by omega), ?_, ?_⟩
  · have := Int.ediv_le_self (2 ^ (64 - 8 * q)) h0
    omega
  · rw [div_div' (by omega), ← Int.pow_add, show 64 - 8 * q + 8 * q = 64 by omega]
    exact Int.ediv_eq_zero_of_lt h0 h1
theorem top_shr {u : Int} {q : Nat} (h1 : 1 ≤ q) (hq : q ≤ 8) : ishr .u64 u (64 - 8 * (q : Int)) = top u q := by
  rw [show (64 - 8 * (q : Int)) = ((64 - 8 * q : Nat) : Int) by omega, ishr_nn (by omega)]; rfl
theorem putI_top {u : Int} (h0 : 0 ≤ u) (h1 : u < 18446744073709551616) (bs : List Int) {q : Nat} (hq : q ≤ 8) (hz : szB (8 * (q : Int)) = true) : putI bs (8 * (q : Int)) (top u q) = (bs ++ beTop q (top u q) q, 0) := by
  have e1 : (8 * (q : Int)).toNat = 8 * q := by omega
  have e2 : 8 * q / 8 = q := by omega
  unfold putI
  rw [if_neg (by simp [hz]), e1, e2, if_neg (by simp [(top_range h0 h1 hq).2.2])]
theorem rnum_top {u : Int} (h0 : 0 ≤ u) (h1 : u < 18446744073709551616) (rest : List Int) {q : Nat} (hq : q ≤ 8) (hz : szB (8 * (q : Int)) = true) : rnum (beTop q (top u q) q ++ rest) 0 (8 * (q : Int)) = (top u q, rest, 0) := by
  have e1 : (8 * (q : Int)).toNat = 8 * q := by omega
  have e2 : 8 * q / 8 = q := by omega
  have hl := beTop_length q (top u q) q
  unfold rnum
  rw [if_neg (by simp), if_neg (by simp [hz]), e1, e2, if_neg (by rw [List.length_append]; omega), List.take_left' hl, List.drop_left' hl]
  have := beTop_read q (top u q) (top_range h0 h1 hq).2.2 q (Nat.le_refl _)
  rw [Nat.sub_self] at this
  unfold beF
  rw [this]; simp
end Go.Ab
