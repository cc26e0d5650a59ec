/- The chapter's test comes to true; what is known of it, for every evaluation. -/
import Derived.Test.YtopgjinjjpplcaaBase
namespace Go.Ev
open Go.Proofs
abbrev sp (a b : Int) : Value := .agg #[.int .u64 a, .int .u64 b]
theorem works_pure : PureFn Try.prog 13 [] (.bool true) := pure_of_ev prog_ok k0_ok (fuel := 200) rfl rfl (by kernel_rfl)
def K1 : KT := fun _ g args st => match g, args with | 13, [] => some (fun k => k (.bool true) st) | _, _ => none
theorem k1_ok : KOk Try.prog K1 := by
  intro R g vs st F h k r hk
  unfold K1 at h
  split at h
  · simp only [Option.some.injEq] at h; subst h; exact works_pure.k rfl rfl hk
  · cases h
end Go.Ev
