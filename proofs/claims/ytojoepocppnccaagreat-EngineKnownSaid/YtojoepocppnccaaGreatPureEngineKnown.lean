/- The walk of EngineKnown: its call returns true. No conditions. -/
import Derived.Test.YtojoepocppnccaaGreatVE
import Derived.Test.YtojoepocppnccaaGreatSvRo
import Derived.Test.YtojoepocppnccaaGreatSvO
namespace Go.Proofs.YtojoepocppnccaaGreat.Law
noncomputable section
open Go.Sv Go.RowKit Go.Proofs
def engR1 : KT := roK Tryz.prog KE L18 200 [186, 187, 188, 189, 190, 191, 192, 193, 194, 195, 197, 198, 199, 200, 201]
theorem engR1_ok : KOk Tryz.prog engR1 := roK_ok sprog_ok.1 sprog_ok.2 KE_ok L18_ok 200 _
def engR2 : KT := roK Tryz.prog engR1 L18 200 [139]
theorem engR2_ok : KOk Tryz.prog engR2 := roK_ok sprog_ok.1 sprog_ok.2 engR1_ok L18_ok 200 _
theorem engineKnown_run : Nat.beq (isT (evFnF Tryz.prog engR2 L18 800 5 [] ⟨0, []⟩ Go.Sv.ret)) 1 = true := by kernel_rfl
theorem engineKnown_walk (w : World) : CallsV Tryz.prog 5 [] (.bool true) w :=
  calls_of_ev (gh := fun _ => .nilFunc) sprog_ok.1 sprog_ok.2 engR2_ok L18_ok rfl .nil ((evFnF_eq _ _ _ _ _ _ _ _).symm.trans (isT_eq engineKnown_run))
end
end Go.Proofs.YtojoepocppnccaaGreat.Law
