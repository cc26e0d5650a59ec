/- Chapter 18's closed statement: what its own functions come to. -/
import Derived.Test.YtojoepocppnccaaGreatVN
namespace Go.Sv
noncomputable section
open Go.RowKit Go.Proofs
theorem v18works : TabEnt Tryz.prog 9 ([], .bool true) := ent_n (fuel := 600) sprog_ok.1 sprog_ok.2 KN_ok L18_ok rfl rfl (by kernel_rfl)
theorem v18refusals : TabEnt Tryz.prog 17 ([], .bool true) := ent_n (fuel := 600) sprog_ok.1 sprog_ok.2 KN_ok L18_ok rfl rfl (by kernel_rfl)
theorem v18spans : TabEnt Tryz.prog 18 ([], .bool true) := ent_n (fuel := 600) sprog_ok.1 sprog_ok.2 KN_ok L18_ok rfl rfl (by kernel_rfl)
def KW0 : KT := tabK 9 [([], .bool true)] KN
theorem KW0_ok : KOk Tryz.prog KW0 := tabK_ok (fun e he => by simp only [List.mem_cons, List.not_mem_nil, or_false] at he; subst he; exact v18works) KN_ok
def KW1 : KT := tabK 17 [([], .bool true)] KW0
theorem KW1_ok : KOk Tryz.prog KW1 := tabK_ok (fun e he => by simp only [List.mem_cons, List.not_mem_nil, or_false] at he; subst he; exact v18refusals) KW0_ok
def KW2 : KT := tabK 18 [([], .bool true)] KW1
theorem KW2_ok : KOk Tryz.prog KW2 := tabK_ok (fun e he => by simp only [List.mem_cons, List.not_mem_nil, or_false] at he; subst he; exact v18spans) KW1_ok
end
end Go.Sv
