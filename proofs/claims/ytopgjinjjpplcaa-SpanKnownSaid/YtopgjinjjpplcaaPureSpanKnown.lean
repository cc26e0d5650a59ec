/- SpanKnown comes to true. -/
import Derived.Test.YtopgjinjjpplcaaSpanK
namespace Go.Ev
open Go.Proofs
theorem spanKnown_tree : evFn Try.prog K9 (regB Try.prog) 300 7 [] st0 ret = some (.bool true) := by kernel_rfl
end Go.Ev
namespace Go.Proofs.Ytopgjinjjpplcaa.Law
open Go.Ev
theorem spanKnown_walk : PureFn Try.prog 7 [] (.bool true) := pure_of_ev prog_ok k9_ok rfl rfl spanKnown_tree
end Go.Proofs.Ytopgjinjjpplcaa.Law
