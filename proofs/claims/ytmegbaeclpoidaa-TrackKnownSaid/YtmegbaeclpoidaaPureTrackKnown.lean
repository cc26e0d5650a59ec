/- The walk of TrackKnown: the evaluation of its code, in the kernel. -/
import Derived.Test.YtmegbaeclpoidaaSvK2
import Derived.Test.YtmegbaeclpoidaaSvT
namespace Go.Proofs.Ytmegbaeclpoidaa.Law
open Go.Sv Go.RowKit Go.Proofs
set_option maxRecDepth 100000 in
theorem trackKnown_ev : evFn Try.prog KA L18 (regB Try.prog) 400 9 [] ⟨0, []⟩ ret = some (.bool true) := by kernel_rfl
theorem trackKnown_walk (w : World) : CallsV Try.prog 9 [] (.bool true) w :=
  calls_of_ev (gh := fun _ => .nilFunc) sprog_ok.1 sprog_ok.2 KA_ok L18_ok rfl .nil trackKnown_ev
end Go.Proofs.Ytmegbaeclpoidaa.Law
