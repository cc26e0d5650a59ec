/- What Admit comes to, of chapter 18's programs, part 2: each by evaluation. -/
import Derived.Test.YtojoepocppnccaaGreatM
namespace Go.Sv
noncomputable section
open Go.RowKit Go.Proofs
def pv16 : List Ins := [(14, 0, 0, 0, 0), (36, 0, 0, 0, 0)]
theorem adv16 : TabEnt Tryz.prog 11 ([modA pv16], .tup [.int .i64 1, .int .i64 171]) := ent_ok (fuel := 600) sprog_ok.1 sprog_ok.2 KM3_ok L18_ok rfl rfl rfl (by kernel_rfl)
def pv17 : List Ins := [(14, 1, 0, 0, 0), (3, 1, 0, 0, 2049), (1, 0, 0, 0, 1), (36, 0, 0, 0, 0)]
theorem adv17 : TabEnt Tryz.prog 11 ([modA pv17], .tup [.int .i64 1, .int .i64 172]) := ent_ok (fuel := 600) sprog_ok.1 sprog_ok.2 KM3_ok L18_ok rfl rfl rfl (by kernel_rfl)
def pv18 : List Ins := [(14, 1, 0, 0, 0), (15, 2, 0, 0, 0), (5, 2, 1, 0, 0), (1, 0, 0, 0, 1), (36, 0, 0, 0, 0)]
theorem adv18 : TabEnt Tryz.prog 11 ([modA pv18], .tup [.int .i64 2, .int .i64 171]) := ent_ok (fuel := 600) sprog_ok.1 sprog_ok.2 KM3_ok L18_ok rfl rfl rfl (by kernel_rfl)
def pv19 : List Ins := [(14, 1, 0, 0, 0), (1, 0, 0, 0, 1), (4, 0, 1, 0, 0), (36, 0, 0, 0, 0)]
theorem adv19 : TabEnt Tryz.prog 11 ([modA pv19], .tup [.int .i64 2, .int .i64 171]) := ent_ok (fuel := 600) sprog_ok.1 sprog_ok.2 KM3_ok L18_ok rfl rfl rfl (by kernel_rfl)
def pv20 : List Ins := [(14, 1, 0, 0, 0), (15, 2, 0, 0, 0), (27, 1, 2, 0, 0), (1, 0, 0, 0, 1), (36, 0, 0, 0, 0)]
theorem adv20 : TabEnt Tryz.prog 11 ([modA pv20], .tup [.int .i64 2, .int .i64 171]) := ent_ok (fuel := 600) sprog_ok.1 sprog_ok.2 KM3_ok L18_ok rfl rfl rfl (by kernel_rfl)
def pv21 : List Ins := [(1, 1, 0, 0, 0), (35, 0, 0, 0, 6), (2, 2, 1, 0, 0), (36, 0, 0, 0, 0)]
theorem adv21 : TabEnt Tryz.prog 11 ([modA pv21], .tup [.int .i64 2, .int .i64 170]) := ent_ok (fuel := 600) sprog_ok.1 sprog_ok.2 KM3_ok L18_ok rfl rfl rfl (by kernel_rfl)
def pv22 : List Ins := [(14, 6, 0, 0, 0), (15, 7, 0, 0, 0), (2, 8, 6, 0, 0), (3, 8, 0, 0, 14), (1, 9, 0, 0, 0), (29, 8, 7, 1, 0), (18, 4, 6, 12, 2), (1, 0, 0, 0, 1), (36, 0, 0, 0, 0)]
theorem adv22 : TabEnt Tryz.prog 11 ([modA pv22], .tup [.int .i64 6, .int .i64 160]) := ent_ok (fuel := 600) sprog_ok.1 sprog_ok.2 KM3_ok L18_ok rfl rfl rfl (by kernel_rfl)
def pv23 : List Ins := [(14, 1, 0, 0, 0), (15, 2, 0, 0, 0), (2, 3, 1, 0, 0), (3, 3, 0, 0, 8), (31, 3, 2, 1, 0), (19, 1, 2, 0, 8), (1, 0, 0, 0, 1), (36, 0, 0, 0, 0)]
theorem adv23 : TabEnt Tryz.prog 11 ([modA pv23], .tup [.int .i64 5, .int .i64 171]) := ent_ok (fuel := 600) sprog_ok.1 sprog_ok.2 KM3_ok L18_ok rfl rfl rfl (by kernel_rfl)
end
end Go.Sv
