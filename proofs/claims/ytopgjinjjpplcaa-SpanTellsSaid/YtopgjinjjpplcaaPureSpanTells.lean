/- SpanTells comes to true, of all numbers. -/
import Derived.Test.YtopgjinjjpplcaaSpanA
namespace Go.Ev
open Go.Proofs
theorem spanTells_tree (a b c d n : Int) : evFn Try.prog K1 (regB Try.prog) 200 10 [sp a b, sp c d, .int .u64 n] st0 ret =
bif n == n && (n == n && true) then
  bif decide (a > b) then
    bif decide (a > b) then
      bif decide (a ≤ n) then
        bif decide (n ≥ a) then
          bif decide (n ≤ b) == decide (n ≤ b) then
            bif
                ((if c < a then c else a) == if c < a then c else a) &&
                  (((if d > b then d else b) == if d > b then d else b) && true) then
              bif decide (a ≥ c) then
                bif decide (a ≥ c) then
                  bif decide (b ≤ d) == decide (b ≤ d) then some (Value.bool true) else some (Value.bool false)
                else bif decide (b ≤ d) == false then some (Value.bool true) else some (Value.bool false)
              else
                bif decide (a ≥ c) then
                  bif false == decide (b ≤ d) then some (Value.bool true) else some (Value.bool false)
                else some (Value.bool true)
            else some (Value.bool false)
          else some (Value.bool false)
        else
          bif decide (n ≤ b) == false then
            bif
                ((if c < a then c else a) == if c < a then c else a) &&
                  (((if d > b then d else b) == if d > b then d else b) && true) then
              bif decide (a ≥ c) then
                bif decide (a ≥ c) then
                  bif decide (b ≤ d) == decide (b ≤ d) then some (Value.bool true) else some (Value.bool false)
                else bif decide (b ≤ d) == false then some (Value.bool true) else some (Value.bool false)
              else
                bif decide (a ≥ c) then
                  bif false == decide (b ≤ d) then some (Value.bool true) else some (Value.bool false)
                else some (Value.bool true)
            else some (Value.bool false)
          else some (Value.bool false)
      else
        bif decide (n ≥ a) then
          bif false == decide (n ≤ b) then
            bif
                ((if c < a then c else a) == if c < a then c else a) &&
                  (((if d > b then d else b) == if d > b then d else b) && true) then
              bif decide (a ≥ c) then
                bif decide (a ≥ c) then
                  bif decide (b ≤ d) == decide (b ≤ d) then some (Value.bool true) else some (Value.bool false)
                else bif decide (b ≤ d) == false then some (Value.bool true) else some (Value.bool false)
              else
                bif decide (a ≥ c) then
                  bif false == decide (b ≤ d) then some (Value.bool true) else some (Value.bool false)
                else some (Value.bool true)
            else some (Value.bool false)
          else some (Value.bool false)
        else
          bif
              ((if c < a then c else a) == if c < a then c else a) &&
                (((if d > b then d else b) == if d > b then d else b) && true) then
            bif decide (a ≥ c) then
              bif decide (a ≥ c) then
                bif decide (b ≤ d) == decide (b ≤ d) then some (Value.bool true) else some (Value.bool false)
              else bif decide (b ≤ d) == false then some (Value.bool true) else some (Value.bool false)
            else
              bif decide (a ≥ c) then
                bif false == decide (b ≤ d) then some (Value.bool true) else some (Value.bool false)
              else some (Value.bool true)
          else some (Value.bool false)
    else some (Value.bool false)
  else
    bif decide (a > b) then some (Value.bool false)
    else
      bif decide (a ≤ n) then
        bif decide (n ≥ a) then
          bif decide (n ≤ b) == decide (n ≤ b) then
            bif
                ((if c < a then c else a) == if c < a then c else a) &&
                  (((if d > b then d else b) == if d > b then d else b) && true) then
              bif decide (a ≥ c) then
                bif decide (a ≥ c) then
                  bif decide (b ≤ d) == decide (b ≤ d) then some (Value.bool true) else some (Value.bool false)
                else bif decide (b ≤ d) == false then some (Value.bool true) else some (Value.bool false)
              else
                bif decide (a ≥ c) then
                  bif false == decide (b ≤ d) then some (Value.bool true) else some (Value.bool false)
                else some (Value.bool true)
            else some (Value.bool false)
          else some (Value.bool false)
        else
          bif decide (n ≤ b) == false then
            bif
                ((if c < a then c else a) == if c < a then c else a) &&
                  (((if d > b then d else b) == if d > b then d else b) && true) then
              bif decide (a ≥ c) then
                bif decide (a ≥ c) then
                  bif decide (b ≤ d) == decide (b ≤ d) then some (Value.bool true) else some (Value.bool false)
                else bif decide (b ≤ d) == false then some (Value.bool true) else some (Value.bool false)
              else
                bif decide (a ≥ c) then
                  bif false == decide (b ≤ d) then some (Value.bool true) else some (Value.bool false)
                else some (Value.bool true)
            else some (Value.bool false)
          else some (Value.bool false)
      else
        bif decide (n ≥ a) then
          bif false == decide (n ≤ b) then
            bif
                ((if c < a then c else a) == if c < a then c else a) &&
                  (((if d > b then d else b) == if d > b then d else b) && true) then
              bif decide (a ≥ c) then
                bif decide (a ≥ c) then
                  bif decide (b ≤ d) == decide (b ≤ d) then some (Value.bool true) else some (Value.bool false)
                else bif decide (b ≤ d) == false then some (Value.bool true) else some (Value.bool false)
              else
                bif decide (a ≥ c) then
                  bif false == decide (b ≤ d) then some (Value.bool true) else some (Value.bool false)
                else some (Value.bool true)
            else some (Value.bool false)
          else some (Value.bool false)
        else
          bif
              ((if c < a then c else a) == if c < a then c else a) &&
                (((if d > b then d else b) == if d > b then d else b) && true) then
            bif decide (a ≥ c) then
              bif decide (a ≥ c) then
                bif decide (b ≤ d) == decide (b ≤ d) then some (Value.bool true) else some (Value.bool false)
              else bif decide (b ≤ d) == false then some (Value.bool true) else some (Value.bool false)
            else
              bif decide (a ≥ c) then
                bif false == decide (b ≤ d) then some (Value.bool true) else some (Value.bool false)
              else some (Value.bool true)
          else some (Value.bool false)
else some (Value.bool false)
 := by kernel_rfl
theorem spanTells_true (a b c d n : Int) : evFn Try.prog K1 (regB Try.prog) 200 10 [sp a b, sp c d, .int .u64 n] st0 ret = some (.bool true) := by
  rw [spanTells_tree]
  simp only [ge_iff_le, gt_iff_lt, beq_self_eq_true, Bool.and_self, cond_true]
  cases decide (b < a) <;> cases decide (a ≤ n) <;> cases decide (n ≤ b) <;> cases decide (c ≤ a) <;> cases decide (b ≤ d) <;> rfl
end Go.Ev
namespace Go.Proofs.Ytopgjinjjpplcaa.Law
open Go.Ev
theorem spanTells_walk (a b c d n : Int) (_ : (Lit.int .u64 a).wf = true) (_ : (Lit.int .u64 b).wf = true) (_ : (Lit.int .u64 c).wf = true) (_ : (Lit.int .u64 d).wf = true) (_ : (Lit.int .u64 n).wf = true) :
    PureFn Try.prog 10 [sp a b, sp c d, .int .u64 n] (.bool true) := pure_of_ev prog_ok k1_ok rfl rfl (spanTells_true a b c d n)
end Go.Proofs.Ytopgjinjjpplcaa.Law
