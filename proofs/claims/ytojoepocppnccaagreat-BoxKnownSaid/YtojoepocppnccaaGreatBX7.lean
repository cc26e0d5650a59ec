/- Calls that BoxKnown's run meets, each by evaluation, part 7. -/
import Derived.Test.YtojoepocppnccaaGreatBXR
namespace Go.Sv
noncomputable section
open Go.RowKit Go.Proofs
set_option maxRecDepth 100000
def bxck66 : Ck := ⟨[], 6815, [], (.bool true), 7104, [], []⟩
theorem bxck66_ok : CkOk Tryz.prog 69 bxck66 := ck_ok (fuel := 600) sprog_ok.1 sprog_ok.2
  (K := KB2)
  KB2_ok L18_ok rfl (by kernel_rfl)
def bxck78 : Ck := ⟨[], 7114, [], (.bool true), 7640, [], []⟩
theorem bxck78_ok : CkOk Tryz.prog 70 bxck78 := ck_ok (fuel := 600) sprog_ok.1 sprog_ok.2
  (K := KB2)
  KB2_ok L18_ok rfl (by kernel_rfl)
end
end Go.Sv
