/- Calls that BoxKnown's run meets, each by evaluation, part 4. -/
import Derived.Test.YtojoepocppnccaaGreatBXR
import Derived.Test.YtojoepocppnccaaGreatBX3
namespace Go.Sv
noncomputable section
open Go.RowKit Go.Proofs
set_option maxRecDepth 100000
def bxck49 : Ck := ⟨[], 4054, [], (.bool true), 4790, [], []⟩
theorem bxck49_ok : CkOk Tryz.prog 67 bxck49 := ck_ok (fuel := 600) sprog_ok.1 sprog_ok.2
  (K := (ckK 58 [bxck43, bxck45, bxck47] KB2))
  (ckK_ok (fun c hc => by
    simp only [List.mem_cons, List.not_mem_nil, or_false] at hc
    rcases hc with rfl | rfl | rfl
    · exact bxck43_ok
    · exact bxck45_ok
    · exact bxck47_ok) KB2_ok) L18_ok rfl (by kernel_rfl)
def bxck51 : Ck := ⟨[(.ptr 4792 [] 0), (.slc 4810 [] 0 0 5 8 8)], 4811, [(4810, bxr75), (4790, bxr0), (4791, (.cells [(.arr 1 2 (rl [(2, [(.int .u64 0)])]) [])] true false)), (4800, bxr1), (4799, bxr1), (4798, bxr76), (4795, bxr1), (4794, bxr1), (4793, bxr77), (4802, (.cells [(.ptr 4793 [] 0), (.ptr 4798 [] 0)] true true)), (4792, bxr78)], (.tup [(.int .i64 0), (.bool true)]), 5571, [], [(5550, (.cells [(.int .i64 7)] true false)), (5547, bxr3), (5549, (.cells [(.int .u64 2)] true false)), (5552, (.cells [(.fn 187 [] [(.ptr 5549 [] 0)])] true false)), (5541, (.cells [(.int .i64 6)] true false)), (5538, bxr79), (5527, (.cells [(.int .i64 5)] true false)), (5524, bxr80), (5526, (.cells [(.int .u64 9)] true false)), (5529, (.cells [(.fn 187 [] [(.ptr 5526 [] 0)])] true false)), (5518, (.cells [(.int .i64 4)] true false)), (5515, bxr81), (5517, (.cells [(.int .u64 1)] true false)), (5520, (.cells [(.fn 187 [] [(.ptr 5517 [] 0)])] true false)), (5509, (.cells [(.int .i64 3)] true false)), (5506, bxr62), (5508, (.cells [(.int .u64 0)] true false)), (5511, (.cells [(.fn 187 [] [(.ptr 5508 [] 0)])] true false)), (5500, (.cells [(.int .i64 2)] true false)), (5497, bxr4), (5486, (.cells [(.int .i64 1)] true false)), (5483, bxr62), (5485, (.cells [(.int .u64 0)] true false)), (5488, (.cells [(.fn 187 [] [(.ptr 5485 [] 0)])] true false)), (5568, bxr82), (5481, (.cells [(.slc 5568 [] 0 0 1 8 8), (.raw (.slice none 0 0)), (.bool false)] true false)), (5570, (.cells [(.ptr 5481 [] 0)] true true)), (4792, bxr83)]⟩
theorem bxck51_ok : CkOk Tryz.prog 65 bxck51 := ck_ok (fuel := 600) sprog_ok.1 sprog_ok.2
  (K := KB2)
  KB2_ok L18_ok rfl (by kernel_rfl)
end
end Go.Sv
