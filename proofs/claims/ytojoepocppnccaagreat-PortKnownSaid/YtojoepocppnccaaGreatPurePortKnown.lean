/- The walk of PortKnown: its call returns true. No conditions. -/
import Derived.Test.YtojoepocppnccaaGreatSvBase
import Derived.Test.YtojoepocppnccaaGreatSvX
import Derived.Test.YtojoepocppnccaaGreatSvO
namespace Go.Proofs.YtojoepocppnccaaGreat.Law
open Go.Sv Go.RowKit Go.Proofs
theorem portKnown_run : Nat.beq (isT (evFnF Tryz.prog K0 L0 600 6 [] ⟨0, []⟩ Go.Sv.ret)) 1 = true := by kernel_rfl
theorem portKnown_walk (w : World) : CallsV Tryz.prog 6 [] (.bool true) w :=
  calls_of_ev (gh := fun _ => .nilFunc) sprog_ok.1 sprog_ok.2 k0_ok l0_ok rfl .nil ((evFnF_eq _ _ _ _ _ _ _ _).symm.trans (isT_eq portKnown_run))
end Go.Proofs.YtojoepocppnccaaGreat.Law
