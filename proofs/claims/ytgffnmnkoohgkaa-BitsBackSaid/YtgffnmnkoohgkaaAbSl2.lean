/- One's own bytes, written. -/
import Derived.Test.YtgffnmnkoohgkaaAbP
set_option linter.unusedSimpArgs false
set_option linter.unusedVariables false
namespace Go.Ab
variable {P : Program} {M : Mem} {lo : Nat} {v : Value}
theorem bc_set {bs : List Int} {i : Nat} {y : Int} (hi : i < bs.length) : (bc bs).take i ++ [.int .u8 y] ++ (bc bs).drop (i + 1) = bc (bs.set i y) := by
  have h : i < (bc bs).length := by rw [bc_length]; exact hi
  unfold bc at *
  rw [List.map_set, List.set_eq_take_append_cons_drop, if_pos h]
  simp
theorem OwB.put {bs : List Int} (h : OwB lo M v bs) {t e : TypeId} (ht : el P t = some (true, 0, e)) (hz : sz P e = some 1) {i : Nat} {x : Int} (hx : bs[i]? = some x) :
    ∃ A, (∀ kk : IntKind, aindex P t v (.int kk (i : Int)) = some (.pointer (some ⟨A, i, none⟩))) ∧ lo ≤ A ∧ A < M.next ∧ M.get A = some (.cells (bc bs) 1 false) ∧ (bc bs)[i]? = some (.int .u8 x) ∧ blk v = some A ∧ Nat.ble (i + 1) bs.length = true ∧
      ∀ (y : Int) (l : List Slot), OwB lo (X M [(A, some (.cells (bc (bs.set i y)) 1 false))] l) v (bs.set i y) := by
  have hi : i < bs.length := (List.getElem?_eq_some_iff.1 hx).1
  have hv := h.val
  obtain ⟨h1, h2, ⟨rfl, h3⟩ | ⟨A, c, ro, h3, h4, rfl, h5, h6⟩⟩ := h
  · omega
  · have hro : ro = false := by rcases h6 with h | h; exact h.2; exact h.2.2
    subst hro
    refine ⟨A, fun kk => ?_, h3, h4, h5, ?_, rfl, Nat.ble_eq_true_of_le hi, fun y l => ?_⟩
    · rw [aindex_slice ht hz rfl hi, Nat.zero_add, Nat.mul_one]
    · unfold bc; rw [List.getElem?_map, hx]; rfl
    · refine ⟨by rw [bc_length, Nat.mul_one], bc_one _, .inr ⟨A, c, false, h3, X_lt h4, by rw [List.length_set], ?_, by rw [List.length_set]; exact h6⟩⟩
      rw [X_get_base h4]
      simp [look]
end Go.Ab
