/- SpanCompares comes to true, of all numbers. -/
import Derived.Test.YtopgjinjjpplcaaSpanB
namespace Go.Ev
open Go.Proofs
def cmpAt (op : Int) : Nat → Int
  | 0 => op
  | i + 1 => ((i + 1 : Nat) : Int)
def cmpLoop (op a b : Int) : Nat → Nat → Option Value
  | 0, _ => some (.bool true)
  | n + 1, i => bif cmpB (cmpAt op i) a b != cmpB (cmpAt op i) a b then some (.bool false) else bif cmpE (cmpAt op i) != cmpE (cmpAt op i) then some (.bool false) else cmpLoop op a b n (i + 1)
theorem cmpLoop_true (op a b : Int) : ∀ n i, cmpLoop op a b n i = some (.bool true)
  | 0, _ => rfl
  | n + 1, i => by simp only [cmpLoop, bne_self_eq_false, cond_false]; exact cmpLoop_true op a b n (i + 1)
theorem spanCompares_tree (op a b : Int) : evFn Try.prog K2 (regB Try.prog) 300 5 [.int .u8 op, .int .u64 a, .int .u64 b] st0 ret = cmpLoop op a b 40 0 := by kernel_rfl
end Go.Ev
namespace Go.Proofs.Ytopgjinjjpplcaa.Law
open Go.Ev
theorem spanCompares_walk (op a b : Int) (_ : (Lit.int .u8 op).wf = true) (_ : (Lit.int .u64 a).wf = true) (_ : (Lit.int .u64 b).wf = true) :
    PureFn Try.prog 5 [.int .u8 op, .int .u64 a, .int .u64 b] (.bool true) := pure_of_ev prog_ok k2_ok rfl rfl ((spanCompares_tree op a b).trans (cmpLoop_true op a b 40 0))
end Go.Proofs.Ytopgjinjjpplcaa.Law
