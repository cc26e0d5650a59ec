/- What Compare answers, the program's and the document's. -/
import Derived.Test.YtopgjinjjpplcaaSpanA
namespace Go.Ev
open Go.Proofs
/-- Whether a comparison is so of two numbers. -/
def cmpB (op a b : Int) : Bool :=
  bif op == 23 || op == 27 then a == b
  else bif op == 24 || op == 28 then a != b
  else bif op == 25 || op == 29 then decide (a < b)
  else bif op == 30 then decide (a ≤ b)
  else bif op == 31 then decide (b < a)
  else bif op == 26 || op == 32 then decide (b ≤ a)
  else false
def cmpE (op : Int) : Int := bif decide (23 ≤ op) && decide (op ≤ 32) then 0 else 2
def cmpV (op a b : Int) : Value := .tuple #[.bool (cmpB op a b), .int .i64 (cmpE op)]

theorem op_cases (op : Int) : op < 23 ∨ op = 23 ∨ op = 24 ∨ op = 25 ∨ op = 26 ∨ op = 27 ∨ op = 28 ∨ op = 29 ∨ op = 30 ∨ op = 31 ∨ op = 32 ∨ 32 < op := by omega
theorem cmp_low {op : Int} (h : op < 23 ∨ 32 < op) (a b : Int) : cmpV op a b = .tuple #[.bool false, .int .i64 2] := by
  unfold cmpV cmpB cmpE
  have e1 : (op == 23) = false := by simp; omega
  have e2 : (op == 24) = false := by simp; omega
  have e3 : (op == 25) = false := by simp; omega
  have e4 : (op == 26) = false := by simp; omega
  have e5 : (op == 27) = false := by simp; omega
  have e6 : (op == 28) = false := by simp; omega
  have e7 : (op == 29) = false := by simp; omega
  have e8 : (op == 30) = false := by simp; omega
  have e9 : (op == 31) = false := by simp; omega
  have e10 : (op == 32) = false := by simp; omega
  have e11 : (decide (23 ≤ op) && decide (op ≤ 32)) = false := by simp; omega
  simp only [e1, e2, e3, e4, e5, e6, e7, e8, e9, e10, e11, Bool.or_false, cond_false]
theorem compare_tree (op a b : Int) : evFn Try.prog K1 (regB Try.prog) 200 16 [.int .u8 op, .int .u64 a, .int .u64 b] st0 ret =
bif op == Int.ofNat 23 then some (Value.tuple (Array.mk [Value.bool (a == b), Value.int IntKind.i64 (Int.ofNat 0)]))
else
  bif op == Int.ofNat 24 then some (Value.tuple (Array.mk [Value.bool (a != b), Value.int IntKind.i64 (Int.ofNat 0)]))
  else
    bif op == Int.ofNat 25 then
      some (Value.tuple (Array.mk [Value.bool (decide (a < b)), Value.int IntKind.i64 (Int.ofNat 0)]))
    else
      bif op == Int.ofNat 26 then
        bif a == b then some (Value.tuple (Array.mk [Value.bool true, Value.int IntKind.i64 (Int.ofNat 0)]))
        else some (Value.tuple (Array.mk [Value.bool (decide (a > b)), Value.int IntKind.i64 (Int.ofNat 0)]))
      else
        bif decide (op < 27) then some (Value.tuple (Array.mk [Value.bool false, Value.int IntKind.i64 (Int.ofNat 2)]))
        else
          bif decide (op > 32) then
            some (Value.tuple (Array.mk [Value.bool false, Value.int IntKind.i64 (Int.ofNat 2)]))
          else
            bif op == Int.ofNat 27 then
              some (Value.tuple (Array.mk [Value.bool (a == b), Value.int IntKind.i64 (Int.ofNat 0)]))
            else
              bif op == Int.ofNat 28 then
                some (Value.tuple (Array.mk [Value.bool (a != b), Value.int IntKind.i64 (Int.ofNat 0)]))
              else
                bif op == Int.ofNat 30 then
                  bif a == b then some (Value.tuple (Array.mk [Value.bool true, Value.int IntKind.i64 (Int.ofNat 0)]))
                  else some (Value.tuple (Array.mk [Value.bool (decide (a < b)), Value.int IntKind.i64 (Int.ofNat 0)]))
                else
                  bif op == Int.ofNat 29 then
                    some (Value.tuple (Array.mk [Value.bool (decide (a < b)), Value.int IntKind.i64 (Int.ofNat 0)]))
                  else
                    bif op == Int.ofNat 32 then
                      bif a == b then
                        some (Value.tuple (Array.mk [Value.bool true, Value.int IntKind.i64 (Int.ofNat 0)]))
                      else
                        some (Value.tuple (Array.mk [Value.bool (decide (a > b)), Value.int IntKind.i64 (Int.ofNat 0)]))
                    else
                      bif op == Int.ofNat 31 then
                        some (Value.tuple (Array.mk [Value.bool (decide (a > b)), Value.int IntKind.i64 (Int.ofNat 0)]))
                      else some (Value.tuple (Array.mk [Value.bool false, Value.int IntKind.i64 (Int.ofNat 0)]))
 := by kernel_rfl
theorem compare_ev (op a b : Int) : evFn Try.prog K1 (regB Try.prog) 200 16 [.int .u8 op, .int .u64 a, .int .u64 b] st0 ret = some (cmpV op a b) := by
  rw [compare_tree]
  rcases op_cases op with h | h | h | h | h | h | h | h | h | h | h | h
  case inl =>
    rw [cmp_low (.inl h)]
    have e1 : (op == Int.ofNat 23) = false := by simp; omega
    have e2 : (op == Int.ofNat 24) = false := by simp; omega
    have e3 : (op == Int.ofNat 25) = false := by simp; omega
    have e4 : (op == Int.ofNat 26) = false := by simp; omega
    have e5 : decide (op < 27) = true := by simp; omega
    simp only [e1, e2, e3, e4, e5, cond_false, cond_true]
    rfl
  case inr.inr.inr.inr.inr.inr.inr.inr.inr.inr.inr =>
    rw [cmp_low (.inr h)]
    have e1 : (op == Int.ofNat 23) = false := by simp; omega
    have e2 : (op == Int.ofNat 24) = false := by simp; omega
    have e3 : (op == Int.ofNat 25) = false := by simp; omega
    have e4 : (op == Int.ofNat 26) = false := by simp; omega
    have e5 : decide (op < 27) = false := by simp; omega
    have e6 : decide (op > 32) = true := by simp; omega
    simp only [e1, e2, e3, e4, e5, e6, cond_false, cond_true]
    rfl
  all_goals
    subst h
    first
      | rfl
      | (rcases Int.lt_trichotomy a b with h | h | h
         · have e1 : (a == b) = false := by simp; omega
           simp [cmpV, cmpB, cmpE, e1]; omega
         · subst h; simp [cmpV, cmpB, cmpE]
         · have e1 : (a == b) = false := by simp; omega
           simp [cmpV, cmpB, cmpE, e1]; omega)
theorem refCompare_tree (op a b : Int) : evFn Try.prog K1 (regB Try.prog) 200 17 [.int .u8 op, .int .u64 a, .int .u64 b] st0 ret =
bif decide (op ≥ 23) then
  bif !decide (op ≤ 32) then some (Value.tuple (Array.mk [Value.bool false, Value.int IntKind.i64 (Int.ofNat 2)]))
  else
    bif decide (op ≤ 26) then
      bif decide (IntKind.wrap IntKind.u8 (op - 23) = ↑0) then
        some (Value.tuple (Array.mk [Value.bool (a == b), Value.int IntKind.i64 (Int.ofNat 0)]))
      else
        bif decide (IntKind.wrap IntKind.u8 (op - 23) = ↑(0 + 1)) then
          some (Value.tuple (Array.mk [Value.bool (a != b), Value.int IntKind.i64 (Int.ofNat 0)]))
        else
          bif decide (IntKind.wrap IntKind.u8 (op - 23) = ↑(0 + 1 + 1)) then
            some (Value.tuple (Array.mk [Value.bool (decide (a < b)), Value.int IntKind.i64 (Int.ofNat 0)]))
          else
            bif decide (IntKind.wrap IntKind.u8 (op - 23) = ↑(0 + 1 + 1 + 1)) then
              some (Value.tuple (Array.mk [Value.bool (decide (a ≥ b)), Value.int IntKind.i64 (Int.ofNat 0)]))
            else none
    else
      bif op == Int.ofNat 27 then
        some (Value.tuple (Array.mk [Value.bool (a == b), Value.int IntKind.i64 (Int.ofNat 0)]))
      else
        bif op == Int.ofNat 28 then
          some (Value.tuple (Array.mk [Value.bool (a != b), Value.int IntKind.i64 (Int.ofNat 0)]))
        else
          bif op == Int.ofNat 29 then
            some (Value.tuple (Array.mk [Value.bool (decide (a < b)), Value.int IntKind.i64 (Int.ofNat 0)]))
          else
            bif op == Int.ofNat 30 then
              some (Value.tuple (Array.mk [Value.bool (decide (a ≤ b)), Value.int IntKind.i64 (Int.ofNat 0)]))
            else
              bif op == Int.ofNat 31 then
                some (Value.tuple (Array.mk [Value.bool (decide (a > b)), Value.int IntKind.i64 (Int.ofNat 0)]))
              else some (Value.tuple (Array.mk [Value.bool (decide (a ≥ b)), Value.int IntKind.i64 (Int.ofNat 0)]))
else some (Value.tuple (Array.mk [Value.bool false, Value.int IntKind.i64 (Int.ofNat 2)]))
 := by kernel_rfl
theorem refCompare_ev (op a b : Int) : evFn Try.prog K1 (regB Try.prog) 200 17 [.int .u8 op, .int .u64 a, .int .u64 b] st0 ret = some (cmpV op a b) := by
  rw [refCompare_tree]
  rcases op_cases op with h | h | h | h | h | h | h | h | h | h | h | h
  case inl =>
    rw [cmp_low (.inl h)]
    have e1 : decide (op ≥ 23) = false := by simp; omega
    simp only [e1, cond_false]
    rfl
  case inr.inr.inr.inr.inr.inr.inr.inr.inr.inr.inr =>
    rw [cmp_low (.inr h)]
    have e1 : decide (op ≥ 23) = true := by simp; omega
    have e2 : (!decide (op ≤ 32)) = true := by simp; omega
    simp only [e1, e2, cond_true]
    rfl
  all_goals (subst h; rfl)
theorem compare_pure (op a b : Int) : PureFn Try.prog 16 [.int .u8 op, .int .u64 a, .int .u64 b] (cmpV op a b) := pure_of_ev prog_ok k1_ok rfl rfl (compare_ev op a b)
theorem refCompare_pure (op a b : Int) : PureFn Try.prog 17 [.int .u8 op, .int .u64 a, .int .u64 b] (cmpV op a b) := pure_of_ev prog_ok k1_ok rfl rfl (refCompare_ev op a b)
def K2 : KT := fun _ g args st => match g, args with
  | 13, [] => some (fun k => k (.bool true) st)
  | 16, [.int .u8 op, .int .u64 a, .int .u64 b] => some (fun k => k (cmpV op a b) st)
  | 17, [.int .u8 op, .int .u64 a, .int .u64 b] => some (fun k => k (cmpV op a b) st)
  | _, _ => none
theorem k2_ok : KOk Try.prog K2 := by
  intro R g vs st F h k r hk
  unfold K2 at h
  split at h
  · simp only [Option.some.injEq] at h; subst h; exact works_pure.k rfl rfl hk
  · simp only [Option.some.injEq] at h; subst h; exact (compare_pure _ _ _).k rfl rfl hk
  · simp only [Option.some.injEq] at h; subst h; exact (refCompare_pure _ _ _).k rfl rfl hk
  · cases h
end Go.Ev
