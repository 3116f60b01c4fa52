/- The chapter's examples, run. -/
import Derived.Test.YtgffnmnkoohgkaaBase
set_option linter.unusedSimpArgs false
set_option linter.unusedVariables false
namespace Go.Ab
open Go.Proofs
set_option maxRecDepth 100000
def okTrue : Option (Value × Mem) → Bool
  | some (.bool true, _) => true
  | _ => false
theorem okTrue_eq {x : Option (Value × Mem)} (h : okTrue x = true) : ∃ M, x = some (.bool true, M) := by
  unfold okTrue at h
  split at h
  · exact ⟨_, rfl⟩
  · cases h
theorem works_run : okTrue (aCall Try.prog 1000 50 14 [] Mem.empty) = true := by kernel_rfl
theorem works_ok (M : Mem) : CallW Try.prog 14 [] M (fun v M' => M' = M ∧ v = .bool true) := by
  obtain ⟨M', h⟩ := okTrue_eq works_run
  exact ⟨_, _, (aCall_ok mixed 1000 50 14 [] Mem.empty _ M' h).alone rfl rfl M, rfl, rfl⟩
end Go.Ab
