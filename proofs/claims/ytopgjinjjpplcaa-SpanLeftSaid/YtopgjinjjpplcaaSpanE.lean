/- What the chapter's operations make of spans: sums, differences, products. -/
import Derived.Test.YtopgjinjjpplcaaSpanD
namespace Go.Ev
open Go.Proofs
def okS (a b : Int) : Bool := (inU a && inU b) && decide (a ≤ b)
theorem okS_iff {a b : Int} : okS a b = true ↔ 0 ≤ a ∧ a ≤ b ∧ b < 18446744073709551616 := by
  simp [okS, inU]; omega
def sumOk (a b c d : Int) : Bool := decide (b + d < 18446744073709551616) || decide (18446744073709551616 ≤ a + c)
def sumLo (a b c d : Int) : Int := bif sumOk a b c d then (a + c) % 18446744073709551616 else 0
def sumHi (a b c d : Int) : Int := bif sumOk a b c d then (b + d) % 18446744073709551616 else 18446744073709551615
def lessOk (a b c d : Int) : Bool := decide (d ≤ a) || decide (b < c) || (decide (a = b) && decide (c = d))
def lessLo (a b c d : Int) : Int := bif lessOk a b c d then (a - d) % 18446744073709551616 else 0
def lessHi (a b c d : Int) : Int := bif lessOk a b c d then (b - c) % 18446744073709551616 else 18446744073709551615
def mulOk (a b c d : Int) : Bool := decide (b * d < 18446744073709551616) || (decide (a = b) && decide (c = d))
def mulLo (a b c d : Int) : Int := bif mulOk a b c d then (a * c) % 18446744073709551616 else 0
def mulHiS (a b c d : Int) : Int := bif mulOk a b c d then (b * d) % 18446744073709551616 else 18446744073709551615

def K4 : KT := fun _ g args st => match g, args with
  | 13, [] => some (fun k => k (.bool true) st)
  | 51, [.int .u64 x, .int .u64 y] => some (fun k => bif inU x && inU y then k (.tuple #[.int .u64 (x * y / 18446744073709551616), .int .u64 (x * y % 18446744073709551616)]) st else none)
  | 52, [.int .u64 x] => some (fun k => bif inU x then k (.int .u64 (wideN x)) st else none)
  | 56, [.int .u64 x] => some (fun k => bif inU x then k (.int .u64 (wideN x)) st else none)
  | 55, [.int .u64 x] => some (fun k => bif decide (0 ≤ x) && decide (x ≤ 63) then k (.int .u64 (pow2 x)) st else none)
  | _, _ => none
theorem k4_ok : KOk Try.prog K4 := by
  intro R g vs st F h k r hk
  unfold K4 at h
  split at h
  · simp only [Option.some.injEq] at h; subst h; exact works_pure.k rfl rfl hk
  · simp only [Option.some.injEq] at h; subst h
    obtain ⟨hb, hk⟩ := cond_some hk
    simp only [Bool.and_eq_true] at hb
    exact (mul64_pure (inU_iff.1 hb.1) (inU_iff.1 hb.2)).k rfl rfl hk
  · simp only [Option.some.injEq] at h; subst h
    obtain ⟨hb, hk⟩ := cond_some hk
    exact (wide_pure (inU_iff.1 hb)).k rfl rfl hk
  · simp only [Option.some.injEq] at h; subst h
    obtain ⟨hb, hk⟩ := cond_some hk
    exact (refWide_pure (inU_iff.1 hb)).k rfl rfl hk
  · simp only [Option.some.injEq] at h; subst h
    obtain ⟨hb, hk⟩ := cond_some hk
    simp only [Bool.and_eq_true, decide_eq_true_eq] at hb
    exact (power_pure hb.1 hb.2).k rfl rfl hk
  · cases h

/-! ### sums -/
theorem sum_tree (a b c d : Int) : evFn Try.prog K4 (regB Try.prog) 60 33 [sp a b, sp c d] st0 ret =
    bif ((((a.toNat + c.toNat + 0) / 18446744073709551616 : Nat) : Int) != (((b.toNat + d.toNat + 0) / 18446744073709551616 : Nat) : Int)) then some (sp 0 18446744073709551615)
    else some (sp (((a.toNat + c.toNat + 0) % 18446744073709551616 : Nat) : Int) (((b.toNat + d.toNat + 0) % 18446744073709551616 : Nat) : Int)) := by kernel_rfl
theorem sum_pure {a b c d : Int} (h1 : okS a b = true) (h2 : okS c d = true) : PureFn Try.prog 33 [sp a b, sp c d] (sp (sumLo a b c d) (sumHi a b c d)) := by
  rw [okS_iff] at h1 h2
  refine pure_of_ev prog_ok k4_ok rfl rfl ((sum_tree a b c d).trans ?_)
  unfold sumLo sumHi sumOk
  by_cases c1 : b + d < 18446744073709551616
  · rw [decide_eq_true c1, Bool.true_or, cond_true, cond_true]
    have e : ((((a.toNat + c.toNat + 0) / 18446744073709551616 : Nat) : Int) != (((b.toNat + d.toNat + 0) / 18446744073709551616 : Nat) : Int)) = false := by rw [bne_eq_false_iff_eq]; omega
    rw [e, cond_false]
    congr 4 <;> first | omega | (congr 2; omega)
  · by_cases c2 : 18446744073709551616 ≤ a + c
    · rw [decide_eq_false c1, decide_eq_true c2, Bool.or_true, cond_true, cond_true]
      have e : ((((a.toNat + c.toNat + 0) / 18446744073709551616 : Nat) : Int) != (((b.toNat + d.toNat + 0) / 18446744073709551616 : Nat) : Int)) = false := by rw [bne_eq_false_iff_eq]; omega
      rw [e, cond_false]
      congr 4 <;> first | omega | (congr 2; omega)
    · rw [decide_eq_false c1, decide_eq_false c2, Bool.or_false, cond_false, cond_false]
      have e : ((((a.toNat + c.toNat + 0) / 18446744073709551616 : Nat) : Int) != (((b.toNat + d.toNat + 0) / 18446744073709551616 : Nat) : Int)) = true := by rw [bne_iff_ne]; omega
      rw [e, cond_true]
theorem add_tree (a b c d : Int) : evFn Try.prog K4 (regB Try.prog) 60 39 [sp a b, sp c d] st0 ret =
    bif decide (c > 0) then
      bif decide (b ≤ w64 (18446744073709551615 - d)) then some (sp (w64 (a + c)) (w64 (b + d)))
      else bif decide (a > w64 (18446744073709551615 - c)) then some (sp (w64 (a + c)) (w64 (b + d))) else some (sp 0 18446744073709551615)
    else bif decide (b ≤ w64 (18446744073709551615 - d)) then some (sp (w64 (a + c)) (w64 (b + d))) else some (sp 0 18446744073709551615) := by kernel_rfl
theorem add_pure {a b c d : Int} (h1 : okS a b = true) (h2 : okS c d = true) : PureFn Try.prog 39 [sp a b, sp c d] (sp (sumLo a b c d) (sumHi a b c d)) := by
  rw [okS_iff] at h1 h2
  refine pure_of_ev prog_ok k4_ok rfl rfl ((add_tree a b c d).trans ?_)
  unfold sumLo sumHi sumOk
  simp only [w64_eq, Bool.cond_eq_ite, decide_eq_true_eq, Bool.or_eq_true]
  repeat' split
  all_goals first | rfl | (exfalso; omega)

/-! ### differences -/
theorem less_tree (a b c d : Int) : evFn Try.prog K4 (regB Try.prog) 60 34 [sp a b, sp c d] st0 ret =
    bif (((if a.toNat < d.toNat + 0 then 1 else 0 : Nat) : Int) != ((if b.toNat < c.toNat + 0 then 1 else 0 : Nat) : Int)) then
      bif a == b then bif !(c == d) then some (sp 0 18446744073709551615)
        else some (sp (((a.toNat + 18446744073709551616 - d.toNat - 0) % 18446744073709551616 : Nat) : Int) (((b.toNat + 18446744073709551616 - c.toNat - 0) % 18446744073709551616 : Nat) : Int))
      else some (sp 0 18446744073709551615)
    else some (sp (((a.toNat + 18446744073709551616 - d.toNat - 0) % 18446744073709551616 : Nat) : Int) (((b.toNat + 18446744073709551616 - c.toNat - 0) % 18446744073709551616 : Nat) : Int)) := by kernel_rfl
theorem less_pure {a b c d : Int} (h1 : okS a b = true) (h2 : okS c d = true) : PureFn Try.prog 34 [sp a b, sp c d] (sp (lessLo a b c d) (lessHi a b c d)) := by
  rw [okS_iff] at h1 h2
  refine pure_of_ev prog_ok k4_ok rfl rfl ((less_tree a b c d).trans ?_)
  have e1 : (((a.toNat + 18446744073709551616 - d.toNat - 0) % 18446744073709551616 : Nat) : Int) = (a - d) % 18446744073709551616 := by omega
  have e2 : (((b.toNat + 18446744073709551616 - c.toNat - 0) % 18446744073709551616 : Nat) : Int) = (b - c) % 18446744073709551616 := by omega
  rw [e1, e2]
  have e3 : (((if a.toNat < d.toNat + 0 then 1 else 0 : Nat) : Int) != ((if b.toNat < c.toNat + 0 then 1 else 0 : Nat) : Int)) = (decide (a < d) && decide (c ≤ b)) := by
    rw [Bool.eq_iff_iff, bne_iff_ne, Bool.and_eq_true, decide_eq_true_eq, decide_eq_true_eq]
    split <;> split <;> omega
  rw [e3]
  unfold lessLo lessHi lessOk
  simp only [Bool.cond_eq_ite, decide_eq_true_eq, Bool.or_eq_true, Bool.and_eq_true, beq_iff_eq, Bool.not_eq_true', beq_eq_false_iff_ne]
  repeat' split
  all_goals first | rfl | (exfalso; omega)
theorem sub_tree (a b c d : Int) : evFn Try.prog K4 (regB Try.prog) 60 40 [sp a b, sp c d] st0 ret =
    bif decide (a ≥ d) then some (sp (w64 (a - d)) (w64 (b - c)))
    else bif decide (b < c) then some (sp (w64 (a - d)) (w64 (b - c)))
    else bif a == b then bif c == d then some (sp (w64 (a - d)) (w64 (b - c))) else some (sp 0 18446744073709551615) else some (sp 0 18446744073709551615) := by kernel_rfl
theorem sub_pure {a b c d : Int} : PureFn Try.prog 40 [sp a b, sp c d] (sp (lessLo a b c d) (lessHi a b c d)) := by
  refine pure_of_ev prog_ok k4_ok rfl rfl ((sub_tree a b c d).trans ?_)
  unfold lessLo lessHi lessOk
  simp only [w64_eq, Bool.cond_eq_ite, decide_eq_true_eq, Bool.or_eq_true, Bool.and_eq_true, beq_iff_eq]
  repeat' split
  all_goals first | rfl | (exfalso; omega)

/-! ### products -/
theorem product_tree (a b c d : Int) : evFn Try.prog K4 (regB Try.prog) 60 35 [sp a b, sp c d] st0 ret =
    bif inU b && inU d then
      bif b * d / 18446744073709551616 != 0 then
        bif a == b then bif !(c == d) then some (sp 0 18446744073709551615) else some (sp (w64 (a * c)) (b * d % 18446744073709551616))
        else some (sp 0 18446744073709551615)
      else some (sp (w64 (a * c)) (b * d % 18446744073709551616))
    else none := by kernel_rfl
theorem product_pure {a b c d : Int} (h1 : okS a b = true) (h2 : okS c d = true) : PureFn Try.prog 35 [sp a b, sp c d] (sp (mulLo a b c d) (mulHiS a b c d)) := by
  rw [okS_iff] at h1 h2
  refine pure_of_ev prog_ok k4_ok rfl rfl ((product_tree a b c d).trans ?_)
  have hb : (inU b && inU d) = true := by simp [inU]; omega
  rw [hb, cond_true]
  have hp : 0 ≤ b * d := Int.mul_nonneg (by omega) (by omega)
  unfold mulLo mulHiS mulOk
  generalize b * d = p at hp
  simp only [w64_eq, Bool.cond_eq_ite, decide_eq_true_eq, Bool.or_eq_true, Bool.and_eq_true, beq_iff_eq, bne_iff_ne, Bool.not_eq_true', beq_eq_false_iff_ne]
  repeat' split
  all_goals first | rfl | (exfalso; omega)
theorem refMul_tree (a b c d : Int) : evFn Try.prog K4 (regB Try.prog) 60 41 [sp a b, sp c d] st0 ret =
    bif d == 0 then some (sp (w64 (a * c)) (w64 (b * d)))
    else bif decide (d = 0) then none
    else bif decide (b ≤ w64 (Int.tdiv 18446744073709551615 d)) then some (sp (w64 (a * c)) (w64 (b * d)))
    else bif a == b then bif c == d then some (sp (w64 (a * c)) (w64 (b * d))) else some (sp 0 18446744073709551615) else some (sp 0 18446744073709551615) := by kernel_rfl
theorem refMul_pure {a b c d : Int} (h2 : okS c d = true) : PureFn Try.prog 41 [sp a b, sp c d] (sp (mulLo a b c d) (mulHiS a b c d)) := by
  rw [okS_iff] at h2
  refine pure_of_ev prog_ok k4_ok rfl rfl ((refMul_tree a b c d).trans ?_)
  by_cases h0 : d = 0
  · subst h0
    have : mulOk a b c 0 = true := by unfold mulOk; simp
    unfold mulLo mulHiS
    rw [this]
    simp [w64_eq]
  · have e0 : (d == 0) = false := by simp [h0]
    rw [e0, cond_false, decide_eq_false h0, cond_false]
    have hq : Int.tdiv 18446744073709551615 d = 18446744073709551615 / d := Int.tdiv_eq_ediv_of_nonneg (by decide)
    have hq1 : 0 ≤ 18446744073709551615 / d := Int.ediv_nonneg (by decide) (by omega)
    have hq2 : 18446744073709551615 / d ≤ 18446744073709551615 := Int.ediv_le_self _ (by decide)
    have e1 : w64 (Int.tdiv 18446744073709551615 d) = 18446744073709551615 / d := by rw [hq, w64_eq]; omega
    rw [e1]
    have e2 : b ≤ 18446744073709551615 / d ↔ b * d ≤ 18446744073709551615 := Int.le_ediv_iff_mul_le (by omega)
    unfold mulLo mulHiS mulOk
    simp only [w64_eq, Bool.cond_eq_ite, decide_eq_true_eq, Bool.or_eq_true, Bool.and_eq_true, beq_iff_eq, e2]
    generalize b * d = p
    repeat' split
    all_goals first | rfl | (exfalso; omega)
end Go.Ev
