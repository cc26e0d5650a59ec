/- Contracts of functions that take plain numbers alone, for the second evaluator. -/
import Derived.Test.YtmegbaeclpoidaaSvW
import Derived.Test.YtmegbaeclpoidaaSvBase
namespace Go.Sv
open Go.RowKit Go.Proofs

theorem wrap_in64 {x : Int} (h : -9223372036854775808 ≤ x) (h' : x ≤ 9223372036854775807) : IntKind.wrap .i64 x = x := by simp [IntKind.wrap, IntKind.bits, IntKind.signed]; omega
/-! ### sallyportref00.Bring -/
def fBring (R : Type) (vs : List AV) (k : AV → AS → Option R) : Option R :=
  match vs with
  | [.int .i64 i, .int .i64 n] => bif decide (0 < n) && decide (n < 4611686018427387904) then k (.int .i64 (i % n)) ⟨0, []⟩ else none
  | _ => none
theorem evBring (i n : Int) : evFn Try.prog K0 L0 (regB Try.prog) 50 30 [.int .i64 i, .int .i64 n] ⟨0, []⟩ ret =
    bif decide (n = 0) then none else bif decide (i.tmod n < 0) then some (AV.int .i64 (IntKind.i64.wrap (i.tmod n + n))) else some (AV.int .i64 (i.tmod n)) := by kernel_rfl
theorem okBring : FnOk Try.prog 30 fBring := fnOk_plain sprog_ok.1 sprog_ok.2 k0_ok l0_ok fun R vs k r h => by
  unfold fBring at h
  split at h
  · rename_i i n
    obtain ⟨hc, h⟩ := cond_some h
    simp only [Bool.and_eq_true, decide_eq_true_eq] at hc
    refine ⟨_, h, trivial, rfl, rfl, 50, ?_⟩
    rw [evBring]
    have hn : n ≠ 0 := by omega
    simp only [hn, decide_false, cond_false]
    have h1 := Int.tmod_lt_of_pos i hc.1
    have h2 : i % n = if i.tmod n < 0 then i.tmod n + n else i.tmod n := by
      have e1 := Int.emod_eq_tmod (a := i) (b := n)
      have e2 : (n.natAbs : Int) = n := by omega
      rw [e1]
      by_cases h0 : 0 ≤ i
      · have := Int.tmod_nonneg n h0
        simp [h0]; omega
      · by_cases hd : n ∣ i
        · have := Int.tmod_eq_zero_of_dvd hd
          simp [hd, this]
        · have h3 : i.tmod n ≠ 0 := fun e => hd (Int.dvd_of_tmod_eq_zero e)
          have h4 : i.tmod n ≤ 0 := by
            have := Int.tmod_nonneg n (a := -i) (by omega)
            rw [Int.neg_tmod] at this; omega
          have h5 : ¬ (0 ≤ i ∨ n ∣ i) := by simp [hd]; omega
          rw [if_neg h5, if_pos (by omega), e2]
    rw [h2]
    by_cases h3 : i.tmod n < 0
    · have h4 : -n < i.tmod n := by
        have := Int.tmod_lt_of_pos (-i) hc.1
        rw [Int.neg_tmod] at this; omega
      rw [wrap_in64 (by omega) (by omega)]
      simp [h3]
    · simp [h3]
  · cases h

/-! ### tests of values -/
def idB (a : Int) : Bool := decide (0 ≤ a) && decide (a ≤ 256)
def ptrB (a b c d e : Int) : Bool := (a == 2 && (b == 0 && c == 0)) && (idB d && (decide (0 ≤ e) && decide (e ≤ 2048)))
def endB (a b c d e : Int) : Bool := a == 3 && (b == 0 && c == 0) && (d == 0 && e == 0)
def fId (R : Type) (vs : List AV) (k : AV → AS → Option R) : Option R :=
  match vs with
  | [.int .i64 i] => k (.bool (idB i)) ⟨0, []⟩
  | _ => none
theorem okId1 : FnOk Try.prog 79 fId := fnOk_plain sprog_ok.1 sprog_ok.2 k0_ok l0_ok fun R vs k r h => by
  unfold fId at h
  split at h
  · rename_i i
    refine ⟨_, h, trivial, rfl, rfl, 50, ?_⟩
    have h1 : evFn Try.prog K0 L0 (regB Try.prog) 50 79 [.int .i64 i] ⟨0, []⟩ ret = bif decide (i ≥ 0) then some (AV.bool (bif true then decide (i ≤ 256) else false)) else some (AV.bool false) := by kernel_rfl
    rw [h1]
    by_cases h : 0 ≤ i <;> simp [h, idB]
  · cases h
theorem okId2 : FnOk Try.prog 80 fId := fnOk_plain sprog_ok.1 sprog_ok.2 k0_ok l0_ok fun R vs k r h => by
  unfold fId at h
  split at h
  · rename_i i
    refine ⟨_, h, trivial, rfl, rfl, 50, ?_⟩
    have h1 : evFn Try.prog K0 L0 (regB Try.prog) 50 80 [.int .i64 i] ⟨0, []⟩ ret = bif decide (i ≥ 0) then some (AV.bool (bif true then decide (i ≤ 256) else false)) else some (AV.bool false) := by kernel_rfl
    rw [h1]
    by_cases h : 0 ≤ i <;> simp [h, idB]
  · cases h
def fIn (R : Type) (vs : List AV) (k : AV → AS → Option R) : Option R :=
  match vs with
  | [.int .i64 a, .int .i64 b, .int .i64 c] => k (.bool (decide (b ≤ a) && decide (a ≤ c))) ⟨0, []⟩
  | _ => none
theorem okIn : FnOk Try.prog 76 fIn := fnOk_plain sprog_ok.1 sprog_ok.2 k0_ok l0_ok fun R vs k r h => by
  unfold fIn at h
  split at h
  · rename_i a b c
    refine ⟨_, h, trivial, rfl, rfl, 50, ?_⟩
    have h1 : evFn Try.prog K0 L0 (regB Try.prog) 50 76 [.int .i64 a, .int .i64 b, .int .i64 c] ⟨0, []⟩ ret = bif decide (a ≥ b) then some (AV.bool (bif true then decide (a ≤ c) else false)) else some (AV.bool false) := by kernel_rfl
    rw [h1]
    by_cases h : b ≤ a <;> simp [h]
  · cases h
def fPtr (R : Type) (vs : List AV) (k : AV → AS → Option R) : Option R :=
  match vs with
  | [.agg [.int .u8 a, .int .u64 b, .int .u64 c, .int .i64 d, .int .i64 e]] => k (.bool (ptrB a b c d e)) ⟨0, []⟩
  | _ => none
theorem okPtr1 : FnOk Try.prog 74 fPtr := fnOk_plain sprog_ok.1 sprog_ok.2 k0_ok l0_ok fun R vs k r h => by
  unfold fPtr at h
  split at h
  · rename_i a b c d e
    refine ⟨_, h, trivial, rfl, rfl, 50, ?_⟩
    have h1 : evFn Try.prog K0 L0 (regB Try.prog) 50 74 [.agg [.int .u8 a, .int .u64 b, .int .u64 c, .int .i64 d, .int .i64 e]] ⟨0, []⟩ ret = bif a == Int.ofNat 2 && (b == Int.ofNat 0 && (c == Int.ofNat 0 && true) && (d == d && (e == e && true))) then
  bif decide (d ≥ 0) then
    bif bif true then bif true then decide (d ≤ 256) else false else false then
      bif bif true then decide (e ≥ 0) else false then some (AV.bool (bif true then decide (e ≤ 2048) else false))
      else some (AV.bool false)
    else some (AV.bool false)
  else some (AV.bool false)
else some (AV.bool false) := by kernel_rfl
    rw [h1]
    cases ha : (a == 2) <;> cases hb : (b == 0) <;> cases hc : (c == 0) <;> by_cases hd : 0 ≤ d <;> by_cases hd' : d ≤ 256 <;> by_cases he : 0 ≤ e <;> simp [ptrB, idB, ha, hb, hc, hd, hd', he]
  · cases h
theorem okPtr2 : FnOk Try.prog 75 fPtr := fnOk_plain sprog_ok.1 sprog_ok.2 k0_ok l0_ok fun R vs k r h => by
  unfold fPtr at h
  split at h
  · rename_i a b c d e
    refine ⟨_, h, trivial, rfl, rfl, 50, ?_⟩
    have h1 : evFn Try.prog K0 L0 (regB Try.prog) 50 75 [.agg [.int .u8 a, .int .u64 b, .int .u64 c, .int .i64 d, .int .i64 e]] ⟨0, []⟩ ret = bif a == Int.ofNat 2 then
  bif bif true then b == Int.ofNat 0 && (c == Int.ofNat 0 && true) else false then
    bif decide (d ≥ 0) then
      bif bif true then bif true then decide (d ≤ 256) else false else false then
        bif decide (e ≥ 0) then some (AV.bool (bif true then bif true then decide (e ≤ 2048) else false else false))
        else some (AV.bool false)
      else some (AV.bool false)
    else some (AV.bool false)
  else some (AV.bool false)
else some (AV.bool false) := by kernel_rfl
    rw [h1]
    cases ha : (a == 2) <;> cases hb : (b == 0) <;> cases hc : (c == 0) <;> by_cases hd : 0 ≤ d <;> by_cases hd' : d ≤ 256 <;> by_cases he : 0 ≤ e <;> simp [ptrB, idB, ha, hb, hc, hd, hd', he]
  · cases h
def fEnd (R : Type) (vs : List AV) (k : AV → AS → Option R) : Option R :=
  match vs with
  | [.agg [.int .u8 a, .int .u64 b, .int .u64 c, .int .i64 d, .int .i64 e]] => k (.bool (endB a b c d e)) ⟨0, []⟩
  | _ => none
theorem okEnd : FnOk Try.prog 77 fEnd := fnOk_plain sprog_ok.1 sprog_ok.2 k0_ok l0_ok fun R vs k r h => by
  unfold fEnd at h
  split at h
  · rename_i a b c d e
    refine ⟨_, h, trivial, rfl, rfl, 50, ?_⟩
    have h1 : evFn Try.prog K0 L0 (regB Try.prog) 50 77 [.agg [.int .u8 a, .int .u64 b, .int .u64 c, .int .i64 d, .int .i64 e]] ⟨0, []⟩ ret = some (AV.bool (a == Int.ofNat 3 && (b == Int.ofNat 0 && (c == Int.ofNat 0 && true) && (d == Int.ofNat 0 && (e == Int.ofNat 0 && true))))) := by kernel_rfl
    rw [h1]
    simp [endB, Bool.and_assoc]
  · cases h
/-- The table of these. -/
def hasC1 : FuncId → Bool := addHas 30 (addHas 79 (addHas 80 (addHas 76 (addHas 74 (addHas 75 (addHas 77 has0))))))
def specC1 : SpecT := addS 30 fBring (addS 79 fId (addS 80 fId (addS 76 fIn (addS 74 fPtr (addS 75 fPtr (addS 77 fEnd S0))))))
theorem specC1_ok : SpecOk Try.prog hasC1 specC1 := addS_ok okBring (addS_ok okId1 (addS_ok okId2 (addS_ok okIn (addS_ok okPtr1 (addS_ok okPtr2 (addS_ok okEnd s0_ok))))))
end Go.Sv
