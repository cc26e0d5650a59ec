/- The walk of VerifyKnown: its call returns true. No conditions. -/
import Derived.Test.YtojoepocppnccaaGreatVW
import Derived.Test.YtojoepocppnccaaGreatBe
namespace Go.Proofs.YtojoepocppnccaaGreat.Law
open Go.Sv Go.RowKit Go.Proofs
theorem verifyKnown_run : Nat.beq (isT (evFnF Tryz.prog KW2 L18 800 4 [] ⟨0, []⟩ Go.Sv.ret)) 1 = true := by kernel_rfl
theorem verifyKnown_walk (w : World) : CallsV Tryz.prog 4 [] (.bool true) w :=
  calls_of_ev (gh := fun _ => .nilFunc) sprog_ok.1 sprog_ok.2 KW2_ok L18_ok rfl .nil ((evFnF_eq _ _ _ _ _ _ _ _).symm.trans (isT_eq verifyKnown_run))
end Go.Proofs.YtojoepocppnccaaGreat.Law
