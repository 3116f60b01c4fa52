/- Rows of bytes: making and appending, as equations. -/
import Derived.Test.YtgffnmnkoohgkaaAbNum
set_option linter.unusedSimpArgs false
set_option linter.unusedVariables false
namespace Go.Ab
section

def bc (bs : List Int) : List Value := bs.map (Value.int .u8)
theorem bc_length (bs : List Int) : (bc bs).length = bs.length := List.length_map ..
theorem bc_one (bs : List Int) : (bc bs).all one = true := by
  rw [List.all_eq_true]; intro v hv
  obtain ⟨n, _, rfl⟩ := List.mem_map.1 hv
  rfl
theorem bc_append (a b : List Int) : bc (a ++ b) = bc a ++ bc b := List.map_append ..

end
end Go.Ab
