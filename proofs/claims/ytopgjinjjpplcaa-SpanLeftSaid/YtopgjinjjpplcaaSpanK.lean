/- Contracts of Do, Cut and Compare. -/
import Derived.Test.YtopgjinjjpplcaaSpanJ
namespace Go.Ev
open Go.Proofs
def K9 : KT := fun R g args st => bif Nat.beq g 16 then K2 R g args st else K8 R g args st
theorem k9_ok : KOk Try.prog K9 := by
  intro R g vs st F h k r hk
  unfold K9 at h
  cases e : Nat.beq g 16 <;> rw [e] at h
  · exact k8_ok R g vs st F h k r hk
  · exact k2_ok R g vs st F h k r hk
end Go.Ev
