/- What Admit comes to, of chapter 18's programs, part 3: each by evaluation. -/
import Derived.Test.YtojoepocppnccaaGreatM
namespace Go.Sv
noncomputable section
open Go.RowKit Go.Proofs
def pv24 : List Ins := [(34, 0, 0, 0, 0), (36, 0, 0, 0, 0)]
theorem adv24 : TabEnt Tryz.prog 11 ([modA pv24], .tup [.int .i64 0, .int .i64 140]) := ent_ok (fuel := 600) sprog_ok.1 sprog_ok.2 KM3_ok L18_ok rfl rfl rfl (by kernel_rfl)
def pv25 : List Ins := [(15, 2, 0, 0, 0), (3, 2, 0, 0, 1), (1, 0, 0, 0, 1), (36, 0, 0, 0, 0)]
theorem adv25 : TabEnt Tryz.prog 11 ([modA pv25], .tup [.int .i64 1, .int .i64 171]) := ent_ok (fuel := 600) sprog_ok.1 sprog_ok.2 KM3_ok L18_ok rfl rfl rfl (by kernel_rfl)
def pv26 : List Ins := [(14, 1, 0, 0, 0), (16, 3, 0, 0, 0), (4, 1, 3, 0, 0), (1, 0, 0, 0, 1), (36, 0, 0, 0, 0)]
theorem adv26 : TabEnt Tryz.prog 11 ([modA pv26], .tup [.int .i64 0, .int .i64 0]) := ent_ok (fuel := 600) sprog_ok.1 sprog_ok.2 KM3_ok L18_ok rfl rfl rfl (by kernel_rfl)
def pv27 : List Ins := [(14, 1, 0, 0, 0), (20, 0, 1, 0, 0), (1, 0, 0, 0, 1), (36, 0, 0, 0, 0)]
theorem adv27 : TabEnt Tryz.prog 11 ([modA pv27], .tup [.int .i64 1, .int .i64 171]) := ent_ok (fuel := 600) sprog_ok.1 sprog_ok.2 KM3_ok L18_ok rfl rfl rfl (by kernel_rfl)
def pv28 : List Ins := [(14, 1, 0, 0, 0), (14, 1, 0, 0, 0), (29, 1, 1, 0, 0), (1, 0, 0, 0, 1), (36, 0, 0, 0, 0)]
theorem adv28 : TabEnt Tryz.prog 11 ([modA pv28], .tup [.int .i64 2, .int .i64 171]) := ent_ok (fuel := 600) sprog_ok.1 sprog_ok.2 KM3_ok L18_ok rfl rfl rfl (by kernel_rfl)
def pv29 : List Ins := [(1, 1, 0, 0, 0), (1, 2, 0, 0, 0), (35, 0, 0, 0, 8), (36, 0, 0, 0, 0)]
theorem adv29 : TabEnt Tryz.prog 11 ([modA pv29], .tup [.int .i64 2, .int .i64 180]) := ent_ok (fuel := 600) sprog_ok.1 sprog_ok.2 KM3_ok L18_ok rfl rfl rfl (by kernel_rfl)
def pv30 : List Ins := [(33, 0, 0, 0, 16), (33, 0, 0, 0, 16), (33, 0, 0, 0, 16), (1, 0, 0, 0, 1), (1, 0, 0, 0, 1), (1, 0, 0, 0, 1), (1, 0, 0, 0, 1), (1, 0, 0, 0, 1), (34, 0, 0, 0, 0), (34, 0, 0, 0, 0), (34, 0, 0, 0, 0), (36, 0, 0, 0, 0)]
theorem adv30 : TabEnt Tryz.prog 11 ([modA pv30], .tup [.int .i64 0, .int .i64 220]) := ent_ok (fuel := 600) sprog_ok.1 sprog_ok.2 KM3_ok L18_ok rfl rfl rfl (by kernel_rfl)
end
end Go.Sv
