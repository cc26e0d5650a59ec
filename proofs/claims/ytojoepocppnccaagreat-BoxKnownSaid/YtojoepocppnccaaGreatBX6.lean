/- Calls that BoxKnown's run meets, each by evaluation, part 6. -/
import Derived.Test.YtojoepocppnccaaGreatBXR
import Derived.Test.YtojoepocppnccaaGreatBX4
import Derived.Test.YtojoepocppnccaaGreatBX5
namespace Go.Sv
noncomputable section
open Go.RowKit Go.Proofs
set_option maxRecDepth 100000
def bxck59 : Ck := ⟨[(.ptr 4792 [] 0), (.int .i64 0), (.slc 6663 [] 0 0 1 2 2)], 6664, [(6663, (.cells [(.arr 1 2 (rl [(1, [(.int .u8 1)]), (1, [(.int .u8 2)])]) [])] true false)), (6662, (.cells [(.int .u8 1), (.int .i64 0), (.raw (.slice none 0 0))] true false)), (4790, bxr98), (6485, (.cells [(.ptr 5481 [] 0), (.ptr 5939 [] 0), (.ptr 6428 [] 0)] true true)), (4791, (.cells [(.arr 1 2 (rl [(1, [(.int .u64 0)]), (1, [(.int .u64 1)])]) [])] true false)), (4800, bxr1), (6636, (.cells [(.arr 1 1 (rl [(1, [(.int .u8 3)])]) [])] true true)), (4799, bxr97), (5967, (.cells [(.int .i64 3)] true false)), (5964, bxr85), (5966, (.cells [(.int .u64 1)] true false)), (5969, (.cells [(.fn 187 [] [(.ptr 5966 [] 0)])] true false)), (5958, (.cells [(.int .i64 2)] true false)), (5955, bxr4), (5944, (.cells [(.int .i64 1)] true false)), (5941, bxr86), (5943, (.cells [(.int .u64 7)] true false)), (5946, (.cells [(.fn 187 [] [(.ptr 5943 [] 0)])] true false)), (5985, bxr87), (5939, (.cells [(.slc 5985 [] 0 0 1 4 4), (.raw (.slice none 0 0)), (.bool false)] true false)), (4798, bxr96), (4795, bxr94), (4794, bxr1), (6465, (.cells [(.int .i64 4)] true false)), (6462, bxr90), (6451, (.cells [(.int .i64 3)] true false)), (6448, bxr60), (6450, (.cells [(.int .u64 0)] true false)), (6453, (.cells [(.fn 187 [] [(.ptr 6450 [] 0)])] true false)), (6442, (.cells [(.int .i64 2)] true false)), (6439, bxr81), (6441, (.cells [(.int .u64 1)] true false)), (6444, (.cells [(.fn 187 [] [(.ptr 6441 [] 0)])] true false)), (6433, (.cells [(.int .i64 1)] true false)), (6430, bxr62), (6432, (.cells [(.int .u64 0)] true false)), (6435, (.cells [(.fn 187 [] [(.ptr 6432 [] 0)])] true false)), (6483, bxr91), (6428, (.cells [(.slc 6483 [] 0 0 1 5 5), (.raw (.slice none 0 0)), (.bool false)] true false)), (5550, (.cells [(.int .i64 7)] true false)), (5547, bxr3), (5549, (.cells [(.int .u64 2)] true false)), (5552, (.cells [(.fn 187 [] [(.ptr 5549 [] 0)])] true false)), (5541, (.cells [(.int .i64 6)] true false)), (5538, bxr79), (5527, (.cells [(.int .i64 5)] true false)), (5524, bxr80), (5526, (.cells [(.int .u64 9)] true false)), (5529, (.cells [(.fn 187 [] [(.ptr 5526 [] 0)])] true false)), (5518, (.cells [(.int .i64 4)] true false)), (5515, bxr81), (5517, (.cells [(.int .u64 1)] true false)), (5520, (.cells [(.fn 187 [] [(.ptr 5517 [] 0)])] true false)), (5509, (.cells [(.int .i64 3)] true false)), (5506, bxr62), (5508, (.cells [(.int .u64 0)] true false)), (5511, (.cells [(.fn 187 [] [(.ptr 5508 [] 0)])] true false)), (5500, (.cells [(.int .i64 2)] true false)), (5497, bxr4), (5486, (.cells [(.int .i64 1)] true false)), (5483, bxr62), (5485, (.cells [(.int .u64 0)] true false)), (5488, (.cells [(.fn 187 [] [(.ptr 5485 [] 0)])] true false)), (5568, bxr82), (5481, (.cells [(.slc 5568 [] 0 0 1 8 8), (.raw (.slice none 0 0)), (.bool false)] true false)), (4793, bxr99), (4802, (.cells [(.ptr 4793 [] 0), (.ptr 4798 [] 0)] true true)), (4792, bxr92)], (.tup [(.agg [(.int .u8 2), (.int .i64 18), (.int .i64 0), (.int .i64 1), (.int .i64 1)]), (.int .i64 0)]), 6810, [], [(4793, bxr100), (6798, (.cells [(.arr 1 2 (rl [(1, [(.int .u8 1)]), (1, [(.int .u8 2)])]) [])] true true)), (4795, bxr101)]⟩
theorem bxck59_ok : CkOk Tryz.prog 58 bxck59 := ck_ok (fuel := 600) sprog_ok.1 sprog_ok.2
  (K := KB2)
  KB2_ok L18_ok rfl (by kernel_rfl)
def bxck61 : Ck := ⟨[], 4790, [], (.bool true), 6815, [], []⟩
theorem bxck61_ok : CkOk Tryz.prog 68 bxck61 := ck_ok (fuel := 600) sprog_ok.1 sprog_ok.2
  (K := (ckK 58 [bxck58, bxck59] (ckK 65 [bxck51, bxck53, bxck55] KB2)))
  (ckK_ok (fun c hc => by
    simp only [List.mem_cons, List.not_mem_nil, or_false] at hc
    rcases hc with rfl | rfl
    · exact bxck58_ok
    · exact bxck59_ok) (ckK_ok (fun c hc => by
    simp only [List.mem_cons, List.not_mem_nil, or_false] at hc
    rcases hc with rfl | rfl | rfl
    · exact bxck51_ok
    · exact bxck53_ok
    · exact bxck55_ok) KB2_ok)) L18_ok rfl (by kernel_rfl)
end
end Go.Sv
