/- The walk of StateKnown: its call returns true. No conditions. -/
import Derived.Test.YtmegbaeclpoidaaBr
namespace Go.Proofs.Ytmegbaeclpoidaa.Law
open Go.Sv Go.RowKit Go.Proofs
set_option maxRecDepth 100000 in
theorem stateKnown_ev : evFn Try.prog KSD L0 (regB Try.prog) 400 15 [] ⟨0, []⟩ ret = some (.bool true) := by kernel_rfl
theorem stateKnown_walk (w : World) : CallsV Try.prog 15 [] (.bool true) w :=
  calls_of_ev (gh := fun _ => .nilFunc) sprog_ok.1 sprog_ok.2 KSD_ok l0_ok rfl .nil stateKnown_ev
end Go.Proofs.Ytmegbaeclpoidaa.Law
