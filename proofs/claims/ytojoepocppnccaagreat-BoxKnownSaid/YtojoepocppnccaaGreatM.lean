/- Contracts by evaluation for closed statements; modules as arguments. -/
import Derived.Test.YtojoepocppnccaaGreatBe
namespace Go.Sv
noncomputable section
open Go.RowKit Go.Proofs
abbrev Ins := Int × Int × Int × Int × Int
def insA (x : Ins) : List AV := [.int .u8 x.1, .int .u8 x.2.1, .int .u8 x.2.2.1, .int .i16 x.2.2.2.1, .int .i32 x.2.2.2.2]
def cf (c : List Ins) (i : Nat) : List AV := insA (c.getD i (0, 0, 0, 0, 0))
def modA (c : List Ins) : AV := .agg [.lst 5 (cf c) c.length [], .raw (.slice none 0 0)]
def KM1 : KT := memoK Tryz.prog KA L18 200 [157, 130]
theorem KM1_ok : KOk Tryz.prog KM1 := memoK_ok sprog_ok.1 sprog_ok.2 KA_ok L18_ok 200 _
def KM2 : KT := memoK Tryz.prog KM1 L18 300 [124, 125, 80, 77, 128, 141, 183, 229, 251]
theorem KM2_ok : KOk Tryz.prog KM2 := memoK_ok sprog_ok.1 sprog_ok.2 KM1_ok L18_ok 300 _
def KM3 : KT := roK Tryz.prog KM2 L18 200 [174, 175, 176]
theorem KM3_ok : KOk Tryz.prog KM3 := roK_ok sprog_ok.1 sprog_ok.2 KM2_ok L18_ok 200 _
end
end Go.Sv
