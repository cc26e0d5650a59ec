/- What Admit comes to, of chapter 18's programs, part 1: each by evaluation. -/
import Derived.Test.YtojoepocppnccaaGreatM
namespace Go.Sv
noncomputable section
open Go.RowKit Go.Proofs
def pv8 : List Ins := [(36, 0, 0, 0, 0)]
theorem adv8 : TabEnt Tryz.prog 11 ([modA pv8], .tup [.int .i64 0, .int .i64 170]) := ent_ok (fuel := 600) sprog_ok.1 sprog_ok.2 KM3_ok L18_ok rfl rfl rfl (by kernel_rfl)
def pv9 : List Ins := [(14, 1, 0, 0, 0), (3, 1, 0, 0, 2048), (1, 0, 0, 0, 1), (36, 0, 0, 0, 0)]
theorem adv9 : TabEnt Tryz.prog 11 ([modA pv9], .tup [.int .i64 0, .int .i64 0]) := ent_ok (fuel := 600) sprog_ok.1 sprog_ok.2 KM3_ok L18_ok rfl rfl rfl (by kernel_rfl)
def pv10 : List Ins := [(14, 1, 0, 0, 0), (18, 3, 1, 0, 1), (1, 0, 0, 0, 1), (36, 0, 0, 0, 0)]
theorem adv10 : TabEnt Tryz.prog 11 ([modA pv10], .tup [.int .i64 1, .int .i64 160]) := ent_ok (fuel := 600) sprog_ok.1 sprog_ok.2 KM3_ok L18_ok rfl rfl rfl (by kernel_rfl)
def pv11 : List Ins := [(14, 1, 0, 0, 0), (1, 3, 0, 0, 2048), (4, 1, 3, 0, 0), (1, 0, 0, 0, 1), (36, 0, 0, 0, 0)]
theorem adv11 : TabEnt Tryz.prog 11 ([modA pv11], .tup [.int .i64 0, .int .i64 0]) := ent_ok (fuel := 600) sprog_ok.1 sprog_ok.2 KM3_ok L18_ok rfl rfl rfl (by kernel_rfl)
def pv12 : List Ins := [(14, 1, 0, 0, 0), (23, 1, 0, 0, 0), (1, 0, 0, 0, 1), (36, 0, 0, 0, 0)]
theorem adv12 : TabEnt Tryz.prog 11 ([modA pv12], .tup [.int .i64 1, .int .i64 171]) := ent_ok (fuel := 600) sprog_ok.1 sprog_ok.2 KM3_ok L18_ok rfl rfl rfl (by kernel_rfl)
def pv13 : List Ins := [(14, 1, 0, 0, 0), (35, 0, 0, 0, 6), (36, 0, 0, 0, 0)]
theorem adv13 : TabEnt Tryz.prog 11 ([modA pv13], .tup [.int .i64 1, .int .i64 171]) := ent_ok (fuel := 600) sprog_ok.1 sprog_ok.2 KM3_ok L18_ok rfl rfl rfl (by kernel_rfl)
def pv14 : List Ins := [(14, 6, 0, 0, 0), (15, 7, 0, 0, 0), (2, 8, 6, 0, 0), (3, 8, 0, 0, 14), (1, 9, 0, 0, 0), (31, 8, 7, 1, 0), (19, 6, 9, 13, 2), (1, 0, 0, 0, 1), (36, 0, 0, 0, 0)]
theorem adv14 : TabEnt Tryz.prog 11 ([modA pv14], .tup [.int .i64 6, .int .i64 160]) := ent_ok (fuel := 600) sprog_ok.1 sprog_ok.2 KM3_ok L18_ok rfl rfl rfl (by kernel_rfl)
def pv15 : List Ins := [(14, 1, 0, 0, 0), (16, 3, 0, 0, 0), (6, 3, 0, 0, 2), (4, 1, 3, 0, 0), (1, 0, 0, 0, 1), (36, 0, 0, 0, 0)]
theorem adv15 : TabEnt Tryz.prog 11 ([modA pv15], .tup [.int .i64 3, .int .i64 172]) := ent_ok (fuel := 600) sprog_ok.1 sprog_ok.2 KM3_ok L18_ok rfl rfl rfl (by kernel_rfl)
end
end Go.Sv
