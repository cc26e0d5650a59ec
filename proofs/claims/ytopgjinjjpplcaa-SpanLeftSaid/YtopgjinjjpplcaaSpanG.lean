/- What Do makes of spans, in the program and in the chapter. -/
import Derived.Test.YtopgjinjjpplcaaSpanF
namespace Go.Ev
open Go.Proofs
def pw1 (c : Int) : Int := Int.ofNat (1 * 2 ^ min (Int.toNat c) (IntKind.bits IntKind.u64) % Int.natAbs (2 ^ IntKind.bits IntKind.u64))
def pw2 (c : Int) : Int := Int.ofNat (2 ^ min (Int.toNat c) (IntKind.bits IntKind.u64))
theorem pw2_eq {c : Int} (h0 : 0 ≤ c) (h : c ≤ 63) : pw2 c = pow2 c := by
  unfold pw2 pow2
  rw [show min (Int.toNat c) (IntKind.bits IntKind.u64) = c.toNat from Nat.min_eq_left (by simp [IntKind.bits]; omega)]; rfl
theorem pow2_lt {c : Int} (h : c ≤ 63) : pow2 c < 18446744073709551616 := by
  unfold pow2
  have : 2 ^ c.toNat ≤ 2 ^ 63 := Nat.pow_le_pow_right (by omega) (by omega)
  have e : (2 : Nat) ^ 63 = 9223372036854775808 := by decide
  show ((2 ^ c.toNat : Nat) : Int) < _
  omega
theorem pow2_pos (c : Int) : 0 < pow2 c := by
  unfold pow2
  have : 0 < 2 ^ c.toNat := Nat.pos_of_ne_zero (by simp)
  show (0 : Int) < ((2 ^ c.toNat : Nat) : Int)
  omega
theorem pw1_eq {c : Int} (h0 : 0 ≤ c) (h : c ≤ 63) : pw1 c = pow2 c := by
  have h1 := pow2_lt h
  rw [← pw2_eq h0 h] at h1 ⊢
  unfold pw1 pw2 at *
  have e : Int.natAbs (2 ^ IntKind.bits IntKind.u64) = 18446744073709551616 := by decide
  rw [e, Nat.one_mul, Nat.mod_eq_of_lt]
  have := Int.ofNat_lt.mp (show ((2 ^ min (Int.toNat c) (IntKind.bits IntKind.u64) : Nat) : Int) < ((18446744073709551616 : Nat) : Int) from h1)
  exact this
def doE (op a b c d : Int) : Int := bif decide (op < 3) || decide (13 < op) then 2 else bif decide (b < a) || decide (d < c) then 150 else bif (op == 12 || op == 13) && (!(c == d) || decide (63 < c)) then 2 else 0
def doLo (op a b c d : Int) : Int := bif doE op a b c d == 0 then (bif op == 3 || op == 4 then sumLo a b c d else bif op == 5 then lessLo a b c d else bif op == 6 || op == 7 then mulLo a b c d else bif op == 12 then mulLo a b (pow2 c) (pow2 c) else bif op == 13 then a / pow2 c else lgLo op a b c d) else 0
def doHi (op a b c d : Int) : Int := bif doE op a b c d == 0 then (bif op == 3 || op == 4 then sumHi a b c d else bif op == 5 then lessHi a b c d else bif op == 6 || op == 7 then mulHiS a b c d else bif op == 12 then mulHiS a b (pow2 c) (pow2 c) else bif op == 13 then b / pow2 c else lgHi op a b c d) else 0
def doV (op a b c d : Int) : Value := .tuple #[sp (doLo op a b c d) (doHi op a b c d), .int .i64 (doE op a b c d)]
theorem do_tree (op a b c d : Int) : evFn Try.prog K5 (regB Try.prog) 60 11 [.int .u8 op, sp a b, sp c d] st0 ret = bif decide (op < 3) then some (Value.tuple (Array.mk [Value.agg (Array.mk [Value.int IntKind.u64 0, Value.int IntKind.u64 0]), Value.int IntKind.i64 2])) else bif decide (13 < op) then some (Value.tuple (Array.mk [Value.agg (Array.mk [Value.int IntKind.u64 0, Value.int IntKind.u64 0]), Value.int IntKind.i64 2])) else bif decide (b < a) then some (Value.tuple (Array.mk [Value.agg (Array.mk [Value.int IntKind.u64 0, Value.int IntKind.u64 0]), Value.int IntKind.i64 150])) else bif decide (d < c) then some (Value.tuple (Array.mk [Value.agg (Array.mk [Value.int IntKind.u64 0, Value.int IntKind.u64 0]), Value.int IntKind.i64 150])) else bif op == 3 then bif okSS a b c d then some (Value.tuple (Array.mk [Value.agg (Array.mk [Value.int IntKind.u64 (sumLo a b c d), Value.int IntKind.u64 (sumHi a b c d)]), Value.int IntKind.i64 0])) else none else bif op == 4 then bif okSS a b c d then some (Value.tuple (Array.mk [Value.agg (Array.mk [Value.int IntKind.u64 (sumLo a b c d), Value.int IntKind.u64 (sumHi a b c d)]), Value.int IntKind.i64 0])) else none else bif op == 5 then bif okSS a b c d then some (Value.tuple (Array.mk [Value.agg (Array.mk [Value.int IntKind.u64 (lessLo a b c d), Value.int IntKind.u64 (lessHi a b c d)]), Value.int IntKind.i64 0])) else none else bif op == 6 then bif okSS a b c d then some (Value.tuple (Array.mk [Value.agg (Array.mk [Value.int IntKind.u64 (mulLo a b c d), Value.int IntKind.u64 (mulHiS a b c d)]), Value.int IntKind.i64 0])) else none else bif op == 7 then bif okSS a b c d then some (Value.tuple (Array.mk [Value.agg (Array.mk [Value.int IntKind.u64 (mulLo a b c d), Value.int IntKind.u64 (mulHiS a b c d)]), Value.int IntKind.i64 0])) else none else bif op == 12 then bif !c == d then some (Value.tuple (Array.mk [Value.agg (Array.mk [Value.int IntKind.u64 0, Value.int IntKind.u64 0]), Value.int IntKind.i64 2])) else bif decide (63 < c) then some (Value.tuple (Array.mk [Value.agg (Array.mk [Value.int IntKind.u64 0, Value.int IntKind.u64 0]), Value.int IntKind.i64 2])) else bif op == 12 then bif decide (c < 0) then none else bif okSS a b (pw1 c) (pw1 c) then some (Value.tuple (Array.mk [Value.agg (Array.mk [Value.int IntKind.u64 (mulLo a b (pw1 c) (pw1 c)), Value.int IntKind.u64 (mulHiS a b (pw1 c) (pw1 c))]), Value.int IntKind.i64 0])) else none else bif decide (c < 0) then none else bif decide (c < 0) then none else some (Value.tuple (Array.mk [Value.agg (Array.mk [Value.int IntKind.u64 (Int.fdiv a (pw2 c)), Value.int IntKind.u64 (Int.fdiv b (pw2 c))]), Value.int IntKind.i64 0])) else bif op == 13 then bif !c == d then some (Value.tuple (Array.mk [Value.agg (Array.mk [Value.int IntKind.u64 0, Value.int IntKind.u64 0]), Value.int IntKind.i64 2])) else bif decide (63 < c) then some (Value.tuple (Array.mk [Value.agg (Array.mk [Value.int IntKind.u64 0, Value.int IntKind.u64 0]), Value.int IntKind.i64 2])) else bif op == 12 then bif decide (c < 0) then none else bif okSS a b (pw1 c) (pw1 c) then some (Value.tuple (Array.mk [Value.agg (Array.mk [Value.int IntKind.u64 (mulLo a b (pw1 c) (pw1 c)), Value.int IntKind.u64 (mulHiS a b (pw1 c) (pw1 c))]), Value.int IntKind.i64 0])) else none else bif decide (c < 0) then none else bif decide (c < 0) then none else some (Value.tuple (Array.mk [Value.agg (Array.mk [Value.int IntKind.u64 (Int.fdiv a (pw2 c)), Value.int IntKind.u64 (Int.fdiv b (pw2 c))]), Value.int IntKind.i64 0])) else bif okLg op a b c d then some (Value.tuple (Array.mk [Value.agg (Array.mk [Value.int IntKind.u64 (lgLo op a b c d), Value.int IntKind.u64 (lgHi op a b c d)]), Value.int IntKind.i64 0])) else none  := by kernel_rfl
theorem refDo_tree (op a b c d : Int) : evFn Try.prog K5 (regB Try.prog) 60 12 [.int .u8 op, sp a b, sp c d] st0 ret = bif decide (3 ≤ op) then bif !decide (op ≤ 13) then some (Value.tuple (Array.mk [Value.agg (Array.mk [Value.int IntKind.u64 0, Value.int IntKind.u64 0]), Value.int IntKind.i64 2])) else bif decide (b < a) then some (Value.tuple (Array.mk [Value.agg (Array.mk [Value.int IntKind.u64 0, Value.int IntKind.u64 0]), Value.int IntKind.i64 150])) else bif decide (d < c) then some (Value.tuple (Array.mk [Value.agg (Array.mk [Value.int IntKind.u64 0, Value.int IntKind.u64 0]), Value.int IntKind.i64 150])) else bif op == 3 then bif okSS a b c d then some (Value.tuple (Array.mk [Value.agg (Array.mk [Value.int IntKind.u64 (sumLo a b c d), Value.int IntKind.u64 (sumHi a b c d)]), Value.int IntKind.i64 0])) else none else bif op == 4 then bif okSS a b c d then some (Value.tuple (Array.mk [Value.agg (Array.mk [Value.int IntKind.u64 (sumLo a b c d), Value.int IntKind.u64 (sumHi a b c d)]), Value.int IntKind.i64 0])) else none else bif op == 5 then bif okSS a b c d then some (Value.tuple (Array.mk [Value.agg (Array.mk [Value.int IntKind.u64 (lessLo a b c d), Value.int IntKind.u64 (lessHi a b c d)]), Value.int IntKind.i64 0])) else none else bif op == 6 then bif okSS a b c d then some (Value.tuple (Array.mk [Value.agg (Array.mk [Value.int IntKind.u64 (mulLo a b c d), Value.int IntKind.u64 (mulHiS a b c d)]), Value.int IntKind.i64 0])) else none else bif op == 7 then bif okSS a b c d then some (Value.tuple (Array.mk [Value.agg (Array.mk [Value.int IntKind.u64 (mulLo a b c d), Value.int IntKind.u64 (mulHiS a b c d)]), Value.int IntKind.i64 0])) else none else bif op == 12 then bif !c == d then some (Value.tuple (Array.mk [Value.agg (Array.mk [Value.int IntKind.u64 0, Value.int IntKind.u64 0]), Value.int IntKind.i64 2])) else bif decide (63 < c) then some (Value.tuple (Array.mk [Value.agg (Array.mk [Value.int IntKind.u64 0, Value.int IntKind.u64 0]), Value.int IntKind.i64 2])) else bif decide (0 ≤ c) && decide (c ≤ 63) then bif op == 13 then bif decide (pow2 c = 0) then none else bif decide (pow2 c = 0) then none else some (Value.tuple (Array.mk [Value.agg (Array.mk [Value.int IntKind.u64 (IntKind.wrap IntKind.u64 (Int.tdiv a (pow2 c))), Value.int IntKind.u64 (IntKind.wrap IntKind.u64 (Int.tdiv b (pow2 c)))]), Value.int IntKind.i64 0])) else bif okSS a b (pow2 c) (pow2 c) then some (Value.tuple (Array.mk [Value.agg (Array.mk [Value.int IntKind.u64 (mulLo a b (pow2 c) (pow2 c)), Value.int IntKind.u64 (mulHiS a b (pow2 c) (pow2 c))]), Value.int IntKind.i64 0])) else none else none else bif op == 13 then bif !c == d then some (Value.tuple (Array.mk [Value.agg (Array.mk [Value.int IntKind.u64 0, Value.int IntKind.u64 0]), Value.int IntKind.i64 2])) else bif decide (63 < c) then some (Value.tuple (Array.mk [Value.agg (Array.mk [Value.int IntKind.u64 0, Value.int IntKind.u64 0]), Value.int IntKind.i64 2])) else bif decide (0 ≤ c) && decide (c ≤ 63) then bif op == 13 then bif decide (pow2 c = 0) then none else bif decide (pow2 c = 0) then none else some (Value.tuple (Array.mk [Value.agg (Array.mk [Value.int IntKind.u64 (IntKind.wrap IntKind.u64 (Int.tdiv a (pow2 c))), Value.int IntKind.u64 (IntKind.wrap IntKind.u64 (Int.tdiv b (pow2 c)))]), Value.int IntKind.i64 0])) else bif okSS a b (pow2 c) (pow2 c) then some (Value.tuple (Array.mk [Value.agg (Array.mk [Value.int IntKind.u64 (mulLo a b (pow2 c) (pow2 c)), Value.int IntKind.u64 (mulHiS a b (pow2 c) (pow2 c))]), Value.int IntKind.i64 0])) else none else none else bif okLg op a b c d then some (Value.tuple (Array.mk [Value.agg (Array.mk [Value.int IntKind.u64 (lgLo op a b c d), Value.int IntKind.u64 (lgHi op a b c d)]), Value.int IntKind.i64 0])) else none else some (Value.tuple (Array.mk [Value.agg (Array.mk [Value.int IntKind.u64 0, Value.int IntKind.u64 0]), Value.int IntKind.i64 2]))  := by kernel_rfl
theorem okSS_of {a b c d : Int} (h : (inU a && inU b && inU c && inU d) = true) (h1 : ¬ b < a) (h2 : ¬ d < c) : okSS a b c d = true := by
  simp only [okSS, okS, inU, Bool.and_eq_true, decide_eq_true_eq] at h ⊢; omega
theorem okSS_pow {a b c d : Int} (h : (inU a && inU b && inU c && inU d) = true) (h1 : ¬ b < a) (h2 : c ≤ 63) : okSS a b (pow2 c) (pow2 c) = true := by
  have := pow2_lt h2; have := pow2_pos c
  simp only [okSS, okS, inU, Bool.and_eq_true, decide_eq_true_eq] at h ⊢; omega
theorem wrap_div {a c : Int} (h : inU a = true) : IntKind.wrap IntKind.u64 (Int.tdiv a (pow2 c)) = a / pow2 c := by
  have := pow2_pos c
  simp only [inU, Bool.and_eq_true, decide_eq_true_eq] at h
  rw [Int.tdiv_eq_ediv_of_nonneg h.1]
  have h0 : 0 ≤ a / pow2 c := Int.ediv_nonneg h.1 (by omega)
  have h1 : a / pow2 c ≤ a := Int.ediv_le_self _ h.1
  rw [wrap_u64]; exact Int.emod_eq_of_lt h0 (by omega)
theorem fdiv_pow {a c : Int} : Int.fdiv a (pow2 c) = a / pow2 c := by
  have := pow2_pos c
  exact Int.fdiv_eq_ediv_of_nonneg _ (by omega)
theorem opDo_cases {op : Int} (h1 : ¬ op < 3) (h2 : ¬ 13 < op) : op = 3 ∨ op = 4 ∨ op = 5 ∨ op = 6 ∨ op = 7 ∨ op = 8 ∨ op = 9 ∨ op = 10 ∨ op = 11 ∨ op = 12 ∨ op = 13 := by omega
theorem do_pure {op a b c d : Int} (h : (inU a && inU b && inU c && inU d) = true) : PureFn Try.prog 11 [.int .u8 op, sp a b, sp c d] (doV op a b c d) := by
  refine pure_of_ev prog_ok k5_ok rfl rfl ((do_tree op a b c d).trans ?_)
  unfold doV doLo doHi doE
  by_cases h1 : op < 3
  · rw [decide_eq_true h1]; rfl
  rw [decide_eq_false h1]
  by_cases h2 : 13 < op
  · rw [decide_eq_true h2]; rfl
  rw [decide_eq_false h2]
  by_cases h3 : b < a
  · rw [decide_eq_true h3]; rfl
  rw [decide_eq_false h3]
  by_cases h4 : d < c
  · rw [decide_eq_true h4]; rfl
  rw [decide_eq_false h4, okSS_of h h3 h4]
  have hu := h
  simp only [inU, Bool.and_eq_true, decide_eq_true_eq] at hu
  have h5 : ¬ c < 0 := by omega
  rw [decide_eq_false h5]
  have hab : inU a = true ∧ inU b = true := by simp only [Bool.and_eq_true] at h; exact ⟨h.1.1.1, h.1.1.2⟩
  have hlg : okLg op a b c d = (decide (8 ≤ op) && decide (op ≤ 11)) := by
    unfold okLg; have := okSS_of h h3 h4; unfold okSS at this; rw [this, Bool.and_true]
  rw [hlg]
  by_cases h6 : 63 < c
  · rw [decide_eq_true h6]
    rcases opDo_cases h1 h2 with rfl | rfl | rfl | rfl | rfl | rfl | rfl | rfl | rfl | rfl | rfl <;> cases (c == d) <;> rfl
  rw [decide_eq_false h6, pw1_eq (by omega) (by omega), pw2_eq (by omega) (by omega), okSS_pow h h3 (by omega), fdiv_pow, fdiv_pow]
  rcases opDo_cases h1 h2 with rfl | rfl | rfl | rfl | rfl | rfl | rfl | rfl | rfl | rfl | rfl <;> cases (c == d) <;> rfl
theorem refDo_pure {op a b c d : Int} (h : (inU a && inU b && inU c && inU d) = true) : PureFn Try.prog 12 [.int .u8 op, sp a b, sp c d] (doV op a b c d) := by
  refine pure_of_ev prog_ok k5_ok rfl rfl ((refDo_tree op a b c d).trans ?_)
  unfold doV doLo doHi doE
  by_cases h1 : op < 3
  · rw [decide_eq_true h1, decide_eq_false (show ¬ 3 ≤ op by omega)]; rfl
  rw [decide_eq_false h1, decide_eq_true (show 3 ≤ op by omega)]
  by_cases h2 : 13 < op
  · rw [decide_eq_true h2, decide_eq_false (show ¬ op ≤ 13 by omega)]; rfl
  rw [decide_eq_false h2, decide_eq_true (show op ≤ 13 by omega)]
  by_cases h3 : b < a
  · rw [decide_eq_true h3]; rfl
  rw [decide_eq_false h3]
  by_cases h4 : d < c
  · rw [decide_eq_true h4]; rfl
  rw [decide_eq_false h4, okSS_of h h3 h4]
  have hu := h
  simp only [inU, Bool.and_eq_true, decide_eq_true_eq] at hu
  have hab : inU a = true ∧ inU b = true := by simp only [Bool.and_eq_true] at h; exact ⟨h.1.1.1, h.1.1.2⟩
  have hlg : okLg op a b c d = (decide (8 ≤ op) && decide (op ≤ 11)) := by
    unfold okLg; have := okSS_of h h3 h4; unfold okSS at this; rw [this, Bool.and_true]
  rw [hlg, decide_eq_true (show 0 ≤ c by omega)]
  by_cases h6 : 63 < c
  · rw [decide_eq_true h6]
    rcases opDo_cases h1 h2 with rfl | rfl | rfl | rfl | rfl | rfl | rfl | rfl | rfl | rfl | rfl <;> cases (c == d) <;> rfl
  have := pow2_pos c
  rw [decide_eq_false h6, decide_eq_true (show c ≤ 63 by omega), okSS_pow h h3 (by omega), wrap_div hab.1, wrap_div hab.2, decide_eq_false (show ¬ pow2 c = 0 by omega)]
  rcases opDo_cases h1 h2 with rfl | rfl | rfl | rfl | rfl | rfl | rfl | rfl | rfl | rfl | rfl <;> cases (c == d) <;> rfl
end Go.Ev
