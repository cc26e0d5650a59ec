/- What Admit comes to, of chapter 18's programs, part 0: each by evaluation. -/
import Derived.Test.YtojoepocppnccaaGreatM
namespace Go.Sv
noncomputable section
open Go.RowKit Go.Proofs
def pv0 : List Ins := [(1, 0, 0, 0, 1), (36, 0, 0, 0, 0)]
theorem adv0 : TabEnt Tryz.prog 11 ([modA pv0], .tup [.int .i64 0, .int .i64 0]) := ent_ok (fuel := 600) sprog_ok.1 sprog_ok.2 KM3_ok L18_ok rfl rfl rfl (by kernel_rfl)
def pv1 : List Ins := [(14, 1, 0, 0, 0), (3, 1, 0, 0, -1), (1, 0, 0, 0, 1), (36, 0, 0, 0, 0)]
theorem adv1 : TabEnt Tryz.prog 11 ([modA pv1], .tup [.int .i64 1, .int .i64 172]) := ent_ok (fuel := 600) sprog_ok.1 sprog_ok.2 KM3_ok L18_ok rfl rfl rfl (by kernel_rfl)
def pv2 : List Ins := [(14, 1, 0, 0, 0), (6, 1, 0, 0, 1), (1, 0, 0, 0, 1), (36, 0, 0, 0, 0)]
theorem adv2 : TabEnt Tryz.prog 11 ([modA pv2], .tup [.int .i64 1, .int .i64 171]) := ent_ok (fuel := 600) sprog_ok.1 sprog_ok.2 KM3_ok L18_ok rfl rfl rfl (by kernel_rfl)
def pv3 : List Ins := [(14, 1, 0, 0, 0), (1, 3, 0, 0, -1), (4, 1, 3, 0, 0), (1, 0, 0, 0, 1), (36, 0, 0, 0, 0)]
theorem adv3 : TabEnt Tryz.prog 11 ([modA pv3], .tup [.int .i64 2, .int .i64 172]) := ent_ok (fuel := 600) sprog_ok.1 sprog_ok.2 KM3_ok L18_ok rfl rfl rfl (by kernel_rfl)
def pv4 : List Ins := [(14, 1, 0, 0, 0), (1, 0, 0, 0, 1), (19, 0, 1, 0, 1), (36, 0, 0, 0, 0)]
theorem adv4 : TabEnt Tryz.prog 11 ([modA pv4], .tup [.int .i64 2, .int .i64 171]) := ent_ok (fuel := 600) sprog_ok.1 sprog_ok.2 KM3_ok L18_ok rfl rfl rfl (by kernel_rfl)
def pv5 : List Ins := [(1, 0, 0, 0, 1), (35, 0, 0, 0, 8), (36, 0, 0, 0, 0)]
theorem adv5 : TabEnt Tryz.prog 11 ([modA pv5], .tup [.int .i64 1, .int .i64 170]) := ent_ok (fuel := 600) sprog_ok.1 sprog_ok.2 KM3_ok L18_ok rfl rfl rfl (by kernel_rfl)
def pv6 : List Ins := [(14, 6, 0, 0, 0), (15, 7, 0, 0, 0), (2, 8, 6, 0, 0), (3, 8, 0, 0, 14), (1, 9, 0, 0, 0), (31, 8, 7, 1, 0), (18, 4, 6, 12, 2), (1, 0, 0, 0, 1), (36, 0, 0, 0, 0)]
theorem adv6 : TabEnt Tryz.prog 11 ([modA pv6], .tup [.int .i64 0, .int .i64 0]) := ent_ok (fuel := 600) sprog_ok.1 sprog_ok.2 KM3_ok L18_ok rfl rfl rfl (by kernel_rfl)
def pv7 : List Ins := [(1, 0, 0, 0, 1), (23, 0, 0, 1, 1), (2, 0, 9, 0, 0), (36, 0, 0, 0, 0)]
theorem adv7 : TabEnt Tryz.prog 11 ([modA pv7], .tup [.int .i64 0, .int .i64 0]) := ent_ok (fuel := 600) sprog_ok.1 sprog_ok.2 KM3_ok L18_ok rfl rfl rfl (by kernel_rfl)
end
end Go.Sv
