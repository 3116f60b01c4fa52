/- Chapter 01: Varint of no bytes (under way). -/
import Derived.Test.YtgffnmnkoohgkaaA01d
import Derived.Test.YtgffnmnkoohgkaaAbB
namespace Go.Ab
open Go.Proofs
set_option maxRecDepth 100000
set_option linter.unusedSimpArgs false

def okNil : Option (Value × Mem) → Bool
  | some (.slice none 0 0, _) => true
  | _ => false
theorem okNil_eq {x : Option (Value × Mem)} (h : okNil x = true) : ∃ M, x = some (.slice none 0 0, M) := by
  unfold okNil at h
  split at h
  · exact ⟨_, rfl⟩
  · cases h
theorem clone_run : okNil (aCall Try.prog 10 5 38 [.slice none 0 0] Mem.empty) = true := by kernel_rfl
theorem clone_nil (M : Mem) : CallOk Try.prog 38 [.slice none 0 0] M (.slice none 0 0) M := by
  obtain ⟨M', h⟩ := okNil_eq clone_run
  exact (aCall_ok mixed 10 5 38 [.slice none 0 0] Mem.empty _ M' h).alone rfl rfl M

theorem wrap_u8 (n : Int) : IntKind.u8.wrap n = n % 256 := by simp [IntKind.wrap, IntKind.bits, IntKind.signed]
theorem ior_u8_128 (n : Int) : ior .u8 (n % 256) 128 = n % 128 + 128 := by
  have e : ior .u8 (n % 256) 128 = IntKind.u8.wrap ((BitVec.ofInt 8 (n % 256) ||| 128#8).toNat : Int) := rfl
  have h : ∀ x : BitVec 8, (x ||| 128#8).toNat = x.toNat % 128 + 128 := by decide
  rw [e, h, BitVec.toNat_ofInt, wrap_u8]
  omega

/-- A varint's bytes. -/
def vb : Nat → Int → List Int
  | 0, _ => []
  | k + 1, u => if u < 128 then [u] else (u % 128 + 128) :: vb k (u / 128)

theorem bytes22 : ∃ i z, ByteSlice Try.prog 22 5 i z ∧ flat 4 z = true := byteSlice Try.underlying22 (by kernel_rfl)

/-- A slice that holds just these bytes, or nil. -/
def SlB (M : Mem) (v : Value) (bs : List Int) : Prop :=
  (bs = [] ∧ v = .slice none 0 0) ∨ ∃ A, v = .slice (some ⟨A, 0, none⟩) bs.length capU ∧ M.get A = some (.cells (bc bs) 1 false) ∧ A < M.next

/-- One byte more, by a literal. -/
theorem push_ok (M : Mem) {v : Value} {bs : List Int} (hv : SlB M v bs) (hl : bs.length < 140737488355328) (b : Int) :
    ∃ lit M1 v' M2, abuildSlice Try.prog 22 1 [(0, .int .u8 b)] M = some (lit, M1) ∧ aappend Try.prog 22 22 M1 v lit = some (v', M2) ∧ SlB M2 v' (bs ++ [b]) ∧ M.next ≤ M2.next := by
  obtain ⟨i, z, hP, hz⟩ := bytes22
  rcases hv with ⟨rfl, rfl⟩ | ⟨A, rfl, hA, hlt⟩
  · refine ⟨_, _, _, _, build_one hP hz, append_nil_bytes (ys := [b]) hP (ro := false) (by rw [Mem.get_new, if_pos rfl]) (by simp) (by simp), .inr ⟨M.next + 1, rfl, ?_, ?_⟩, ?_⟩
    · rw [Mem.get_new]; exact if_pos rfl
    · simp [Mem.new]
    · simp [Mem.new]; omega
  · refine ⟨_, _, _, _, build_one hP hz, append_bytes (ys := [b]) hP (ro := false) (A := A) (B := M.next) (by rw [Mem.get_new, if_neg (by omega)]; exact hA) (by rw [Mem.get_new, if_pos rfl]) (by simp) (by simp; omega), .inr ⟨M.next + 1, ?_, ?_, ?_⟩, ?_⟩
    · simp; rfl
    · rw [Mem.get_new, bc_append]; exact if_pos rfl
    · simp [Mem.new, Mem.del]
    · simp [Mem.new, Mem.del]; omega
end Go.Ab
