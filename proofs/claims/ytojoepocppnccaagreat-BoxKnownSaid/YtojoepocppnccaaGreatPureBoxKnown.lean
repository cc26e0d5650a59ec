/- The walk of BoxKnown: its call returns true. No conditions. -/
import Derived.Test.YtojoepocppnccaaGreatBXR
import Derived.Test.YtojoepocppnccaaGreatBX0
import Derived.Test.YtojoepocppnccaaGreatBX1
import Derived.Test.YtojoepocppnccaaGreatBX2
import Derived.Test.YtojoepocppnccaaGreatBX3
import Derived.Test.YtojoepocppnccaaGreatBX4
import Derived.Test.YtojoepocppnccaaGreatBX6
import Derived.Test.YtojoepocppnccaaGreatBX7
namespace Go.Proofs.YtojoepocppnccaaGreat.Law
noncomputable section
open Go.Sv Go.RowKit Go.Proofs
set_option maxRecDepth 100000
def boxKnownK : KT := (ckK 70 [bxck78] (ckK 69 [bxck66] (ckK 68 [bxck61] (ckK 67 [bxck49] (ckK 65 [bxck5, bxck6, bxck13, bxck15, bxck17, bxck19, bxck21, bxck23, bxck25, bxck27, bxck29, bxck31, bxck33, bxck35, bxck37] (ckK 63 [bxck10, bxck11] (ckK 58 [bxck2] (ckK 55 [bxck1] KB2))))))))
theorem boxKnownK_ok : KOk Tryz.prog boxKnownK := (ckK_ok (fun c hc => by
    simp only [List.mem_cons, List.not_mem_nil, or_false] at hc
    rcases hc with rfl
    · exact bxck78_ok) (ckK_ok (fun c hc => by
    simp only [List.mem_cons, List.not_mem_nil, or_false] at hc
    rcases hc with rfl
    · exact bxck66_ok) (ckK_ok (fun c hc => by
    simp only [List.mem_cons, List.not_mem_nil, or_false] at hc
    rcases hc with rfl
    · exact bxck61_ok) (ckK_ok (fun c hc => by
    simp only [List.mem_cons, List.not_mem_nil, or_false] at hc
    rcases hc with rfl
    · exact bxck49_ok) (ckK_ok (fun c hc => by
    simp only [List.mem_cons, List.not_mem_nil, or_false] at hc
    rcases hc with rfl | rfl | rfl | rfl | rfl | rfl | rfl | rfl | rfl | rfl | rfl | rfl | rfl | rfl | rfl
    · exact bxck5_ok
    · exact bxck6_ok
    · exact bxck13_ok
    · exact bxck15_ok
    · exact bxck17_ok
    · exact bxck19_ok
    · exact bxck21_ok
    · exact bxck23_ok
    · exact bxck25_ok
    · exact bxck27_ok
    · exact bxck29_ok
    · exact bxck31_ok
    · exact bxck33_ok
    · exact bxck35_ok
    · exact bxck37_ok) (ckK_ok (fun c hc => by
    simp only [List.mem_cons, List.not_mem_nil, or_false] at hc
    rcases hc with rfl | rfl
    · exact bxck10_ok
    · exact bxck11_ok) (ckK_ok (fun c hc => by
    simp only [List.mem_cons, List.not_mem_nil, or_false] at hc
    rcases hc with rfl
    · exact bxck2_ok) (ckK_ok (fun c hc => by
    simp only [List.mem_cons, List.not_mem_nil, or_false] at hc
    rcases hc with rfl
    · exact bxck1_ok) KB2_ok))))))))
theorem boxKnown_run : Nat.beq (isT (evFnF Tryz.prog boxKnownK L18 800 8 [] ⟨0, []⟩ Go.Sv.ret)) 1 = true := by kernel_rfl
theorem boxKnown_walk (w : World) : CallsV Tryz.prog 8 [] (.bool true) w :=
  calls_of_ev (gh := fun _ => .nilFunc) sprog_ok.1 sprog_ok.2 boxKnownK_ok L18_ok rfl .nil ((evFnF_eq _ _ _ _ _ _ _ _).symm.trans (isT_eq boxKnown_run))
end
end Go.Proofs.YtojoepocppnccaaGreat.Law
