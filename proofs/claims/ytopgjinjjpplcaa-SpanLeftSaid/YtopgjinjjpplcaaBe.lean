/- The evaluator and the contracts that the walk leans on, part Be: SvBase. -/
import Derived.Test.YtopgjinjjpplcaaBd
import Derived.Test.YtopgjinjjpplcaaProg
namespace Go.Sv
open Go.Proofs
theorem sprog_ok : ProgOk Try.prog ∧ RegsOk Try.prog := progOk (by kernel_rfl) (by kernel_rfl) (by kernel_rfl) (by kernel_rfl) (by kernel_rfl)
end Go.Sv
