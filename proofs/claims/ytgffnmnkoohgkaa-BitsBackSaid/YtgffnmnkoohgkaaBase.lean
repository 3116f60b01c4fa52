/- The program, and what all walks ask of it. -/
import Derived.Test.YtgffnmnkoohgkaaTb
set_option linter.unusedSimpArgs false
set_option linter.unusedVariables false
namespace Go.Ab
open Go.Proofs
set_option maxRecDepth 100000
theorem mixed : Try.prog.follows .mixedOrders = true := by kernel_rfl
end Go.Ab
