/- What Admit comes to, of chapter 25's modules: each by evaluation. -/
import Derived.Test.YtojoepocppnccaaGreatM
namespace Go.Sv
noncomputable section
open Go.RowKit Go.Proofs
/-- Chapter 25's guarded program, with a load at some place; the program that writes. -/
def gd (k : Int) : List Ins := [(14, 1, 0, 0, 0), (15, 2, 0, 0, 0), (2, 3, 1, 0, 0), (3, 3, 0, 0, 14), (31, 3, 2, 1, 0), (18, 4, 1, k, 2), (1, 0, 0, 0, 1), (36, 0, 0, 0, 0)]
def wr : List Ins := [(14, 6, 0, 0, 0), (15, 7, 0, 0, 0), (2, 8, 6, 0, 0), (3, 8, 0, 0, 1), (31, 8, 7, 2, 0), (1, 9, 0, 0, 255), (19, 6, 9, 0, 1), (1, 0, 0, 0, 2), (36, 0, 0, 0, 0)]
def okT (a b : Int) : AV := .tup [.int .i64 a, .int .i64 b]
theorem admGd12 : TabEnt Tryz.prog 11 ([modA (gd 12)], okT 0 0) := ent_ok (fuel := 600) sprog_ok.1 sprog_ok.2 KM2_ok L18_ok rfl rfl rfl (by kernel_rfl)
theorem admGd13 : TabEnt Tryz.prog 11 ([modA (gd 13)], okT 5 160) := ent_ok (fuel := 600) sprog_ok.1 sprog_ok.2 KM2_ok L18_ok rfl rfl rfl (by kernel_rfl)
theorem admWr : TabEnt Tryz.prog 11 ([modA wr], okT 0 0) := ent_ok (fuel := 600) sprog_ok.1 sprog_ok.2 KM2_ok L18_ok rfl rfl rfl (by kernel_rfl)
def tabE : Tab := [([modA (gd 12)], okT 0 0), ([modA (gd 13)], okT 5 160), ([modA wr], okT 0 0)]
theorem tabE_ok : TabOk Tryz.prog 11 tabE := fun e he => by
  simp only [tabE, List.mem_cons, List.not_mem_nil, or_false] at he
  rcases he with rfl | rfl | rfl
  · exact admGd12
  · exact admGd13
  · exact admWr
def KE : KT := tabK 11 tabE KM2
theorem KE_ok : KOk Tryz.prog KE := tabK_ok tabE_ok KM2_ok
end
end Go.Sv
