/- Rows of bytes: making and appending, as equations. -/
import Derived.Test.YtgffnmnkoohgkaaAbNum
namespace Go.Ab
section
variable {P : Program} {M : Mem} {t e : TypeId} {i : TypeInfo} {z : Value}

def bc (bs : List Int) : List Value := bs.map (Value.int .u8)
theorem bc_length (bs : List Int) : (bc bs).length = bs.length := List.length_map ..
theorem bc_one (bs : List Int) : (bc bs).all one = true := by
  rw [List.all_eq_true]; intro v hv
  obtain ⟨n, _, rfl⟩ := List.mem_map.1 hv
  rfl
theorem bc_append (a b : List Int) : bc (a ++ b) = bc a ++ bc b := List.map_append ..

/-- A slice type whose elements have one cell and one byte. -/
structure ByteSlice (P : Program) (t e : TypeId) (i : TypeInfo) (z : Value) : Prop where
  under : P.underlying t = some (.slice e)
  info : P.info? e = some i
  size : i.size = 1
  zero : i.zero = some z
  cells : z.cells.size = 1
  bytes : i.bytes = 1

theorem asrc_bytes (hP : ByteSlice P t e i z) {B c : Nat} {ys : List Int} {esz : Nat} {ro : Bool} (he : esz = 1) (hB : M.get B = some (.cells (bc ys) esz ro)) : asrc P t i.size M (.slice (some ⟨B, 0, none⟩) ys.length c) = some (ys.length, bc ys) := by
  subst he
  unfold asrc
  simp only [hP.under, hB, hP.size, List.drop_zero, Nat.mul_one]
  have h : (bc ys).take ys.length = bc ys := by rw [← bc_length ys, List.take_length]
  rw [h, beqT rfl, beqT (bc_length ys), bc_one]
  rfl

theorem append_nil_bytes (hP : ByteSlice P t e i z) {B c : Nat} {ys : List Int} {ro : Bool} (hB : M.get B = some (.cells (bc ys) 1 ro)) (h0 : ys ≠ []) (hl : ys.length ≤ 140737488355328) :
    aappend P t t M (.slice none 0 0) (.slice (some ⟨B, 0, none⟩) ys.length c) = some (.slice (some ⟨M.next, 0, none⟩) ys.length capU, M.new (.cells (bc ys) 1 false)) := by
  have hn : ys.length ≠ 0 := fun h => h0 (List.eq_nil_of_length_eq_zero h)
  unfold aappend
  simp only [hP.under, hP.info, hP.zero, asrc_bytes hP rfl hB]
  rw [hP.size, hP.cells, hP.bytes, beqF hn, Nat.mul_one, Nat.ble_eq_true_of_le hl, Nat.ble_eq_true_of_le (show ys.length ≤ 9223372036854775807 by omega)]
  rfl

theorem append_bytes (hP : ByteSlice P t e i z) {A B c : Nat} {xs ys : List Int} {ro : Bool} (hA : M.get A = some (.cells (bc xs) 1 false)) (hB : M.get B = some (.cells (bc ys) 1 ro)) (h0 : ys ≠ []) (hl : xs.length + ys.length ≤ 140737488355328) :
    aappend P t t M (.slice (some ⟨A, 0, none⟩) xs.length capU) (.slice (some ⟨B, 0, none⟩) ys.length c) = some (.slice (some ⟨M.next, 0, none⟩) (xs.length + ys.length) capU, (M.del A).new (.cells (bc xs ++ bc ys) 1 false)) := by
  have hn : ys.length ≠ 0 := fun h => h0 (List.eq_nil_of_length_eq_zero h)
  have ht : (bc xs).take xs.length = bc xs := by rw [← bc_length xs, List.take_length]
  unfold aappend
  simp only [hP.under, hP.info, hP.zero, asrc_bytes hP rfl hB, hA, List.drop_zero]
  have hnot : Nat.ble (0 + (xs.length + ys.length) * 1) (bc xs).length = false := by
    rw [bc_length]
    cases h : Nat.ble (0 + (xs.length + ys.length) * 1) xs.length with
    | false => rfl
    | true => have := Nat.le_of_ble_eq_true h; omega
  rw [hP.size, hP.cells, hP.bytes, hnot, beqF hn, Nat.mul_one, Nat.mul_one, ht, beqT (bc_length xs), Nat.ble_eq_true_of_le hl, Nat.ble_eq_true_of_le (show xs.length + ys.length ≤ 9223372036854775807 by omega), beqT (rfl : capU = capU)]
  rfl

def okBS (P : Program) (e : TypeId) : Bool :=
  match P.info? e with
  | some i => Nat.beq i.size 1 && Nat.beq i.bytes 1 && (match i.zero with | some z => Nat.beq z.cells.size 1 && flat 4 z | none => false)
  | none => false
theorem byteSlice (hu : P.underlying t = some (.slice e)) (h : okBS P e = true) : ∃ i z, ByteSlice P t e i z ∧ flat 4 z = true := by
  unfold okBS at h
  split at h
  · rename_i i hi
    simp only [Bool.and_eq_true] at h
    obtain ⟨⟨h1, h2⟩, h3⟩ := h
    split at h3
    · rename_i z hz
      simp only [Bool.and_eq_true] at h3
      exact ⟨i, z, ⟨hu, hi, beq_eq h1, hz, beq_eq h3.1, beq_eq h2⟩, h3.2⟩
    · cases h3
  · cases h

/-- A literal of one byte. -/
theorem build_one (hP : ByteSlice P t e i z) (hz : flat 4 z = true) {b : Int} : abuildSlice P t 1 [(0, .int .u8 b)] M = some (.slice (some ⟨M.next, 0, none⟩) 1 1, M.new (.cells (bc [b]) 1 false)) := by
  unfold abuildSlice
  simp only [hP.under, hP.info, hP.zero, hP.size, hz]
  rfl
end
end Go.Ab
