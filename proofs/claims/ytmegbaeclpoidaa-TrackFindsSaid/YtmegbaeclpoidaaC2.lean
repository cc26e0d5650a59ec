/- The contract of works() of chapter 16: it returns true. No conditions. -/
import Derived.Test.YtmegbaeclpoidaaC1
import Derived.Test.YtmegbaeclpoidaaSvK2
namespace Go.Sv
open Go.RowKit Go.Proofs
def fTrue (R : Type) (vs : List AV) (k : AV → AS → Option R) : Option R :=
  match vs with
  | [] => k (.bool true) ⟨0, []⟩
  | _ => none
set_option maxRecDepth 100000 in
theorem evWorks16 : evFn Try.prog KA L18 (regB Try.prog) 100 23 [] ⟨0, []⟩ ret = some (.bool true) := by kernel_rfl
theorem okWorks16 : FnOk Try.prog 23 fTrue := fnOk_plain sprog_ok.1 sprog_ok.2 KA_ok L18_ok fun R vs k r h => by
  unfold fTrue at h
  split at h
  · exact ⟨_, h, trivial, rfl, rfl, 100, evWorks16⟩
  · cases h
def hasC2 : FuncId → Bool := addHas 23 hasC1
def specC2 : SpecT := addS 23 fTrue specC1
theorem specC2_ok : SpecOk Try.prog hasC2 specC2 := addS_ok okWorks16 specC1_ok
def KC2 : KT := orK (specK hasC2 specC2) KA
theorem KC2_ok : KOk Try.prog KC2 := orK_ok (specK_ok specC2_ok) KA_ok
end Go.Sv
