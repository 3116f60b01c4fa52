/- Varints: what is read has just these bytes; what was written is read. -/
import Derived.Test.YtgffnmnkoohgkaaAbN
set_option linter.unusedSimpArgs false
set_option linter.unusedVariables false
namespace Go.Ab
theorem pow128 (k : Nat) : (2 : Int) ^ (7 * (k + 1)) = 128 * 2 ^ (7 * k) := by rw [Nat.mul_add, Int.pow_add, Int.mul_comm]; rfl

theorem rv_again : ∀ (l : List Int) (k : Nat) (u w : Int) (rest : List Int), isB l → k ≤ 9 → rv k u l = (w, rest, 0) → ∃ t : Int, 0 ≤ t ∧ w = u + t * 2 ^ (7 * k) ∧ l = vb (10 - k) t ++ rest ∧ (0 < k → t ≠ 0)
  | [], k, u, w, rest, _, _, h => by simp [rv] at h
  | c :: l, k, u, w, rest, hb, hk, h => by
    obtain ⟨hc0, hc1⟩ := hb.head
    unfold rv at h
    by_cases hbad : 9 ≤ k ∧ 1 < c
    · rw [if_pos hbad] at h; simp at h
    rw [if_neg hbad] at h
    by_cases hz : 0 < k ∧ c = 0
    · rw [if_pos hz] at h; simp at h
    rw [if_neg hz] at h
    obtain ⟨m, hm⟩ : ∃ m, 10 - k = m + 1 := ⟨9 - k, by omega⟩
    by_cases hlt : c < 128
    · rw [if_pos hlt] at h
      simp only [Prod.mk.injEq] at h
      obtain ⟨rfl, rfl, _⟩ := h
      refine ⟨c, hc0, by rw [show c % 128 = c by omega], ?_, fun hk0 => by omega⟩
      rw [hm, vb, if_pos hlt]; rfl
    · rw [if_neg hlt] at h
      obtain ⟨t, h1, h2, h3, h4⟩ := rv_again l (k + 1) _ w rest hb.tail (by omega) h
      have h4 := h4 (by omega)
      refine ⟨c % 128 + 128 * t, by omega, ?_, ?_, fun _ => by omega⟩
      · rw [h2, pow128, Int.add_mul, Int.add_assoc]
        congr 2
        rw [← Int.mul_assoc, Int.mul_comm t 128]
      · rw [hm, vb, if_neg (by omega), h3]
        have e1 : (c % 128 + 128 * t) / 128 = t := by omega
        have e2 : (c % 128 + 128 * t) % 128 + 128 = c := by omega
        rw [e1, e2, show 10 - (k + 1) = m by omega]; rfl

theorem rvar_again {bs : List Int} (hb : isB bs) (h : (rvar bs 0).2.2 = 0) : bs = vb 10 (rvar bs 0).1 ++ (rvar bs 0).2.1 := by
  have e : rv 0 0 bs = ((rvar bs 0).1, (rvar bs 0).2.1, 0) := by
    show rv 0 0 bs = ((rv 0 0 bs).1, (rv 0 0 bs).2.1, 0)
    have h' : (rv 0 0 bs).2.2 = 0 := h
    exact Prod.ext rfl (Prod.ext rfl h')
  obtain ⟨t, h1, h2, h3, _⟩ := rv_again bs 0 0 (rvar bs 0).1 (rvar bs 0).2.1 hb (by omega) e
  have : (rvar bs 0).1 = t := by rw [h2]; simp
  rw [this]; exact h3

/-- What was written is read. -/
theorem rv_back : ∀ (m k : Nat) (t u : Int) (rest : List Int), m + k = 10 → 0 ≤ t → t < 128 ^ (m - 1) * 2 → 1 ≤ m → (0 < k → t ≠ 0) → rv k u (vb m t ++ rest) = (u + t * 2 ^ (7 * k), rest, 0)
  | 0, k, t, u, rest, _, _, _, h, _ => by omega
  | m + 1, k, t, u, rest, hmk, h0, ht, _, hz => by
    rw [Nat.add_sub_cancel] at ht
    rw [vb]
    by_cases hlt : t < 128
    · rw [if_pos hlt]
      show rv k u (t :: rest) = _
      rw [rv, if_neg (by
        rintro ⟨h9, h1⟩
        have : m = 0 := by omega
        subst this
        simp at ht; omega), if_neg (by rintro ⟨h1, h2⟩; exact hz h1 h2), if_pos hlt, show t % 128 = t by omega]
    · rw [if_neg hlt]
      cases m with
      | zero => simp at ht; omega
      | succ m =>
        rw [Int.pow_succ] at ht
        show rv k u ((t % 128 + 128) :: (vb (m + 1) (t / 128) ++ rest)) = _
        rw [rv, if_neg (by omega), if_neg (by omega), if_neg (by omega), rv_back (m + 1) (k + 1) (t / 128) _ rest (by omega) (by omega) (by show t / 128 < 128 ^ m * 2; omega) (by omega) (fun _ => by omega)]
        congr 1
        rw [pow128, show (t % 128 + 128) % 128 = t % 128 by omega, ← Int.mul_assoc, Int.add_assoc, ← Int.add_mul]
        congr 2
        omega
theorem rvar_back (u : Int) (rest : List Int) (h0 : 0 ≤ u) (h1 : u < 18446744073709551616) : rvar (vb 10 u ++ rest) 0 = (u, rest, 0) := by
  have := rv_back 10 0 u 0 rest rfl h0 (by have : (128 : Int) ^ (10 - 1) * 2 = 18446744073709551616 := by decide
                                           omega) (by omega) (fun h => by omega)
  unfold rvar
  rw [if_pos rfl, this]
  simp
end Go.Ab
