/- Contracts of Compare and Cut where the case is known ahead: how the numbers lie, and what can be otherwise. -/
import Derived.Test.YtopgjinjjpplcaaSpanO
namespace Go.Ev
open Go.Proofs
def isEq (op : Int) : Bool := op == 23 || (op == 24 || (op == 27 || op == 28))
def isLt (op : Int) : Bool := op == 25 || (op == 26 || (op == 29 || op == 32))
def cmpL (o op : Int) : Bool :=
  bif op == 23 || op == 27 then o == 0
  else bif op == 24 || op == 28 then !(o == 0)
  else bif op == 25 || op == 29 then decide (o < 0)
  else bif op == 26 || op == 32 then !(decide (o < 0))
  else bif op == 30 then decide (o ≤ 0)
  else decide (0 < o)
def isL (o : Int) (f1 f2 f3 : Bool) (op : Int) (yes : Bool) : Bool := (yes == cmpL o op) || (bif isEq op then f1 else bif isLt op then f2 else f3)
def KS (o : Int) (f1 f2 f3 : Bool) : KT := fun R g args st =>
  bif Nat.beq g 14 then (match args with
    | [.int .u8 op, .bool yes, .agg ⟨[.int .u64 a, .int .u64 b]⟩, .agg ⟨[.int .u64 c, .int .u64 d]⟩] => some (fun k =>
      bif (cutE op a b c d == 0) && (cutI op yes a b c d == isL o f1 f2 f3 op yes) then
        k (.tuple #[sp (cutALo op yes a b c d) (cutAHi op yes a b c d), sp (cutBLo op yes a b c d) (cutBHi op yes a b c d), .bool (isL o f1 f2 f3 op yes), .int .i64 0]) st
      else none)
    | _ => none)
  else bif Nat.beq g 16 then (match args with
    | [.int .u8 op, .int .u64 x, .int .u64 y] => some (fun k =>
      bif (cmpE op == 0) && (cmpB op x y == cmpL o op) then k (.tuple #[.bool (cmpL o op), .int .i64 0]) st else none)
    | _ => none)
  else KL R g args st
theorem compare_pure' {op x y : Int} {b : Bool} (h1 : cmpE op = 0) (h2 : cmpB op x y = b) : PureFn Try.prog 16 [.int .u8 op, .int .u64 x, .int .u64 y] (.tuple #[.bool b, .int .i64 0]) := by
  have h := compare_pure op x y
  unfold cmpV at h
  rw [h1, h2] at h
  exact h
theorem cut_pure' {op : Int} {yes : Bool} {a b c d : Int} {i : Bool} (h1 : cutE op a b c d = 0) (h2 : cutI op yes a b c d = i) :
    PureFn Try.prog 14 [.int .u8 op, .bool yes, sp a b, sp c d] (.tuple #[sp (cutALo op yes a b c d) (cutAHi op yes a b c d), sp (cutBLo op yes a b c d) (cutBHi op yes a b c d), .bool i, .int .i64 0]) := by
  have h := cut_pure op yes a b c d
  unfold cutV at h
  rw [h1, h2] at h
  exact h
theorem ks_ok (o : Int) (f1 f2 f3 : Bool) : KOk Try.prog (KS o f1 f2 f3) := by
  intro R g vs st F h k r hk
  unfold KS at h
  rcases ifK h with ⟨rfl, h⟩ | h
  · split at h
    · cases h
      obtain ⟨hb, hk⟩ := cond_some hk
      simp only [Bool.and_eq_true, beq_iff_eq] at hb
      exact (cut_pure' hb.1 hb.2).k rfl rfl hk
    · cases h
  rcases ifK h with ⟨rfl, h⟩ | h
  · split at h
    · cases h
      obtain ⟨hb, hk⟩ := cond_some hk
      simp only [Bool.and_eq_true, beq_iff_eq] at hb
      exact (compare_pure' hb.1 hb.2).k rfl rfl hk
    · cases h
  exact kl_ok R g vs st F h k r hk
end Go.Ev
