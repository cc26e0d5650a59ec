/- Chapter 18's closed statement: what its own functions come to: numbers at places. -/
import Derived.Test.YtojoepocppnccaaGreatVV
import Derived.Test.YtojoepocppnccaaGreatBe
namespace Go.Sv
noncomputable section
open Go.RowKit Go.Proofs
def lstA (c : List Ins) : AV := .lst 5 (cf c) c.length []
def nv0 : List Ins := [(1, 0, 0, 0, -1), (36, 0, 0, 0, 0)]
theorem num0 : TabEnt Tryz.prog 79 ([lstA nv0, .int .i64 1, .int .i64 0], .tup [.agg [.int .u64 18446744073709551615, .int .u64 18446744073709551615], .bool true]) := ent_n (fuel := 600) sprog_ok.1 sprog_ok.2 KV_ok L18_ok rfl rfl (by kernel_rfl)
def nv1 : List Ins := [(17, 0, 0, 0, 0), (36, 0, 0, 0, 0)]
theorem num1 : TabEnt Tryz.prog 79 ([lstA nv1, .int .i64 1, .int .i64 0], .tup [.agg [.int .u64 0, .int .u64 7], .bool true]) := ent_n (fuel := 600) sprog_ok.1 sprog_ok.2 KV_ok L18_ok rfl rfl (by kernel_rfl)
def nv2 : List Ins := [(1, 0, 0, 0, 1), (33, 0, 0, 0, 4), (3, 0, 0, 0, 2), (34, 0, 0, 0, 0), (36, 0, 0, 0, 0)]
theorem num2 : TabEnt Tryz.prog 79 ([lstA nv2, .int .i64 2, .int .i64 0], .tup [.agg [.int .u64 1, .int .u64 7], .bool true]) := ent_n (fuel := 600) sprog_ok.1 sprog_ok.2 KV_ok L18_ok rfl rfl (by kernel_rfl)
def nv3 : List Ins := [(1, 0, 0, 0, 1), (33, 0, 0, 0, 4), (3, 0, 0, 0, 2), (34, 0, 0, 0, 0), (36, 0, 0, 0, 0)]
theorem num3 : TabEnt Tryz.prog 79 ([lstA nv3, .int .i64 3, .int .i64 0], .tup [.agg [.int .u64 3, .int .u64 9], .bool true]) := ent_n (fuel := 600) sprog_ok.1 sprog_ok.2 KV_ok L18_ok rfl rfl (by kernel_rfl)
def nv4 : List Ins := [(1, 0, 0, 0, 1), (33, 0, 0, 0, 4), (3, 0, 0, 0, 2), (34, 0, 0, 0, 0), (36, 0, 0, 0, 0)]
theorem num4 : TabEnt Tryz.prog 79 ([lstA nv4, .int .i64 4, .int .i64 0], .tup [.agg [.int .u64 9, .int .u64 9], .bool true]) := ent_n (fuel := 600) sprog_ok.1 sprog_ok.2 KV_ok L18_ok rfl rfl (by kernel_rfl)
def nv5 : List Ins := [(16, 0, 0, 0, 0), (1, 1, 0, 0, 5), (29, 1, 0, 1, 0), (36, 0, 0, 0, 0), (36, 0, 0, 0, 0)]
theorem num5 : TabEnt Tryz.prog 79 ([lstA nv5, .int .i64 4, .int .i64 0], .tup [.agg [.int .u64 6, .int .u64 2048], .bool true]) := ent_n (fuel := 600) sprog_ok.1 sprog_ok.2 KV_ok L18_ok rfl rfl (by kernel_rfl)
def nv6 : List Ins := [(16, 0, 0, 0, 0), (1, 1, 0, 0, 5), (29, 1, 0, 1, 0), (36, 0, 0, 0, 0), (36, 0, 0, 0, 0)]
theorem num6 : TabEnt Tryz.prog 79 ([lstA nv6, .int .i64 3, .int .i64 0], .tup [.agg [.int .u64 0, .int .u64 5], .bool true]) := ent_n (fuel := 600) sprog_ok.1 sprog_ok.2 KV_ok L18_ok rfl rfl (by kernel_rfl)
def tabN : Tab := [([lstA nv0, .int .i64 1, .int .i64 0], .tup [.agg [.int .u64 18446744073709551615, .int .u64 18446744073709551615], .bool true]), ([lstA nv1, .int .i64 1, .int .i64 0], .tup [.agg [.int .u64 0, .int .u64 7], .bool true]), ([lstA nv2, .int .i64 2, .int .i64 0], .tup [.agg [.int .u64 1, .int .u64 7], .bool true]), ([lstA nv3, .int .i64 3, .int .i64 0], .tup [.agg [.int .u64 3, .int .u64 9], .bool true]), ([lstA nv4, .int .i64 4, .int .i64 0], .tup [.agg [.int .u64 9, .int .u64 9], .bool true]), ([lstA nv5, .int .i64 4, .int .i64 0], .tup [.agg [.int .u64 6, .int .u64 2048], .bool true]), ([lstA nv6, .int .i64 3, .int .i64 0], .tup [.agg [.int .u64 0, .int .u64 5], .bool true])]
theorem tabN_ok : TabOk Tryz.prog 79 tabN := fun e he => by
  simp only [tabN, List.mem_cons, List.not_mem_nil, or_false] at he
  rcases he with rfl | rfl | rfl | rfl | rfl | rfl | rfl
  · exact num0
  · exact num1
  · exact num2
  · exact num3
  · exact num4
  · exact num5
  · exact num6
def KN : KT := tabK 79 tabN KV
theorem KN_ok : KOk Tryz.prog KN := tabK_ok tabN_ok KV_ok
end
end Go.Sv
