/- What Admit comes to, of chapter 18's programs. -/
import Derived.Test.YtojoepocppnccaaGreatVV0
import Derived.Test.YtojoepocppnccaaGreatVV1
import Derived.Test.YtojoepocppnccaaGreatVV2
import Derived.Test.YtojoepocppnccaaGreatVV3
namespace Go.Sv
noncomputable section
open Go.RowKit Go.Proofs
def tabV : Tab := [([modA pv0], .tup [.int .i64 0, .int .i64 0]), ([modA pv1], .tup [.int .i64 1, .int .i64 172]), ([modA pv2], .tup [.int .i64 1, .int .i64 171]), ([modA pv3], .tup [.int .i64 2, .int .i64 172]), ([modA pv4], .tup [.int .i64 2, .int .i64 171]), ([modA pv5], .tup [.int .i64 1, .int .i64 170]), ([modA pv6], .tup [.int .i64 0, .int .i64 0]), ([modA pv7], .tup [.int .i64 0, .int .i64 0]), ([modA pv8], .tup [.int .i64 0, .int .i64 170]), ([modA pv9], .tup [.int .i64 0, .int .i64 0]), ([modA pv10], .tup [.int .i64 1, .int .i64 160]), ([modA pv11], .tup [.int .i64 0, .int .i64 0]), ([modA pv12], .tup [.int .i64 1, .int .i64 171]), ([modA pv13], .tup [.int .i64 1, .int .i64 171]), ([modA pv14], .tup [.int .i64 6, .int .i64 160]), ([modA pv15], .tup [.int .i64 3, .int .i64 172]), ([modA pv16], .tup [.int .i64 1, .int .i64 171]), ([modA pv17], .tup [.int .i64 1, .int .i64 172]), ([modA pv18], .tup [.int .i64 2, .int .i64 171]), ([modA pv19], .tup [.int .i64 2, .int .i64 171]), ([modA pv20], .tup [.int .i64 2, .int .i64 171]), ([modA pv21], .tup [.int .i64 2, .int .i64 170]), ([modA pv22], .tup [.int .i64 6, .int .i64 160]), ([modA pv23], .tup [.int .i64 5, .int .i64 171]), ([modA pv24], .tup [.int .i64 0, .int .i64 140]), ([modA pv25], .tup [.int .i64 1, .int .i64 171]), ([modA pv26], .tup [.int .i64 0, .int .i64 0]), ([modA pv27], .tup [.int .i64 1, .int .i64 171]), ([modA pv28], .tup [.int .i64 2, .int .i64 171]), ([modA pv29], .tup [.int .i64 2, .int .i64 180]), ([modA pv30], .tup [.int .i64 0, .int .i64 220])]
theorem tabV_ok : TabOk Tryz.prog 11 tabV := fun e he => by
  simp only [tabV, List.mem_cons, List.not_mem_nil, or_false] at he
  rcases he with rfl | rfl | rfl | rfl | rfl | rfl | rfl | rfl | rfl | rfl | rfl | rfl | rfl | rfl | rfl | rfl | rfl | rfl | rfl | rfl | rfl | rfl | rfl | rfl | rfl | rfl | rfl | rfl | rfl | rfl | rfl
  · exact adv0
  · exact adv1
  · exact adv2
  · exact adv3
  · exact adv4
  · exact adv5
  · exact adv6
  · exact adv7
  · exact adv8
  · exact adv9
  · exact adv10
  · exact adv11
  · exact adv12
  · exact adv13
  · exact adv14
  · exact adv15
  · exact adv16
  · exact adv17
  · exact adv18
  · exact adv19
  · exact adv20
  · exact adv21
  · exact adv22
  · exact adv23
  · exact adv24
  · exact adv25
  · exact adv26
  · exact adv27
  · exact adv28
  · exact adv29
  · exact adv30
def KV : KT := tabK 11 tabV KM3
theorem KV_ok : KOk Tryz.prog KV := tabK_ok tabV_ok KM3_ok
end
end Go.Sv
