/- Contracts by evaluation, for boxes and models. -/
import Derived.Test.YtojoepocppnccaaGreatCl
namespace Go.Sv
noncomputable section
open Go.RowKit Go.Proofs
def KB1 : KT := memoK Tryz.prog (cloneK KM3) L18 300 [62, 64]
theorem KB1_ok : KOk Tryz.prog KB1 := memoK_ok sprog_ok.1 sprog_ok.2 (cloneK_ok KM3_ok) L18_ok 300 _
def KB2 : KT := memoK Tryz.prog KB1 L18 500 [11]
theorem KB2_ok : KOk Tryz.prog KB2 := memoK_ok sprog_ok.1 sprog_ok.2 KB1_ok L18_ok 500 _
def KMo : KT := dfK Tryz.prog KB2 L18 400 [215]
theorem KMo_ok : KOk Tryz.prog KMo := dfK_ok sprog_ok.1 sprog_ok.2 KB2_ok L18_ok 400 _
end
end Go.Sv
