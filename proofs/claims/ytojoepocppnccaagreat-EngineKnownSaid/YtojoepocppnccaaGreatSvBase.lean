/- What is asked of the program once. -/
import Derived.Test.YtojoepocppnccaaGreatSvL
import Derived.Test.YtojoepocppnccaaGreatProg
namespace Go.Sv
noncomputable section
open Go.Proofs
theorem sprog_ok : ProgOk Tryz.prog ∧ RegsOk Tryz.prog := progOk (by kernel_rfl) (by kernel_rfl) (by kernel_rfl) (by kernel_rfl) (by kernel_rfl)
end
end Go.Sv
