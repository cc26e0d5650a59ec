/- The evaluator and the contracts that the walk leans on, part Bn: S4a. -/
import Derived.Test.YtmegbaeclpoidaaBm
namespace Go.Sv
open Go.RowKit Go.Proofs
set_option linter.unusedSimpArgs false
set_option linter.unusedVariables false
theorem evTChk1 (t : St) : evFn Try.prog KS3 L0 (regB Try.prog) 60 46 [stA t] ⟨0, []⟩ ret =
  ifs (chkL t) (some (.int .i64 2)) (bif okL (kf t.kn) t.kn.length [] then bif chkE (kl (kf t.kn) t.kn.length []) != 0 then some (.int .i64 2) else some (.int .i64 0) else none) := by kernel_rfl
end Go.Sv
