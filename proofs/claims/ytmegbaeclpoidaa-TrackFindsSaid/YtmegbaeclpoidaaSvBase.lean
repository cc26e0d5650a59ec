/- What is asked of the program once. -/
import Derived.Test.YtmegbaeclpoidaaSvL
import Derived.Test.YtmegbaeclpoidaaProg
namespace Go.Sv
open Go.Proofs
theorem sprog_ok : ProgOk Try.prog ∧ RegsOk Try.prog := progOk (by kernel_rfl) (by kernel_rfl) (by kernel_rfl) (by kernel_rfl) (by kernel_rfl)
end Go.Sv
