/- What the library's Mul64 and Len64, and the chapter's wide and power, answer. -/
import Derived.Test.YtopgjinjjpplcaaSpanB
namespace Go.Ev
open Go.Proofs
def inU (a : Int) : Bool := decide (0 ≤ a) && decide (a < 18446744073709551616)
theorem inU_iff {a : Int} : inU a = true ↔ 0 ≤ a ∧ a < 18446744073709551616 := by simp [inU]
def lo32 (x : Int) : Int := IntKind.wrap .u64 ((BitVec.ofInt 64 x &&& BitVec.ofInt 64 4294967295).toNat : Int)
def hi32 (x : Int) : Int := Int.fdiv x (2 ^ 32)
def w64 (x : Int) : Int := IntKind.wrap .u64 x
def mulHi (x y : Int) : Int :=
  let t := w64 (w64 (hi32 x * lo32 y) + hi32 (w64 (lo32 x * lo32 y)))
  w64 (w64 (w64 (hi32 x * hi32 y) + hi32 t) + hi32 (w64 (lo32 t + w64 (lo32 x * hi32 y))))
theorem mul64_tree (x y : Int) : evFn Try.prog K1 (regB Try.prog) 30 51 [.int .u64 x, .int .u64 y] st0 ret = some (.tuple #[.int .u64 (mulHi x y), .int .u64 (w64 (x * y))]) := by kernel_rfl

theorem lo32_eq {x : Int} (h : 0 ≤ x) : lo32 x = x % 4294967296 := by
  unfold lo32
  rw [wrap_u64, BitVec.toNat_and, BitVec.toNat_ofInt, BitVec.toNat_ofInt]
  obtain ⟨n, rfl⟩ := Int.eq_ofNat_of_zero_le h
  have e1 : ((4294967295 : Int) % ((2 ^ 64 : Nat) : Int)).toNat = 2 ^ 32 - 1 := by decide
  have e2 : (((n : Int)) % ((2 ^ 64 : Nat) : Int)).toNat = n % 2 ^ 64 := by omega
  rw [e1, e2, Nat.and_two_pow_sub_one_eq_mod]
  omega
theorem hi32_eq (x : Int) : hi32 x = x / 4294967296 := by
  unfold hi32
  rw [Int.fdiv_eq_ediv_of_nonneg _ (by decide)]
  rfl
theorem w64_eq (x : Int) : w64 x = x % 18446744073709551616 := wrap_u64 x

theorem prod_le {a b m : Int} (ha : 0 ≤ a) (hb : 0 ≤ b) (ha' : a ≤ m) (hb' : b ≤ m) : 0 ≤ a * b ∧ a * b ≤ m * m :=
  ⟨Int.mul_nonneg ha hb, Int.mul_le_mul ha' hb' hb (by omega)⟩

theorem mulHi_eq {x y : Int} (hx : 0 ≤ x ∧ x < 18446744073709551616) (hy : 0 ≤ y ∧ y < 18446744073709551616) : mulHi x y = x * y / 18446744073709551616 := by
  have l1 : 0 ≤ x % 4294967296 ∧ x % 4294967296 ≤ 4294967295 := by omega
  have l2 : 0 ≤ x / 4294967296 ∧ x / 4294967296 ≤ 4294967295 := by omega
  have l3 : 0 ≤ y % 4294967296 ∧ y % 4294967296 ≤ 4294967295 := by omega
  have l4 : 0 ≤ y / 4294967296 ∧ y / 4294967296 ≤ 4294967295 := by omega
  have ex : x = 4294967296 * (x / 4294967296) + x % 4294967296 := by omega
  have ey : y = 4294967296 * (y / 4294967296) + y % 4294967296 := by omega
  have hb1 := prod_le l1.1 l3.1 l1.2 l3.2
  have hb2 := prod_le l2.1 l3.1 l2.2 l3.2
  have hb3 := prod_le l1.1 l4.1 l1.2 l4.2
  have hb4 := prod_le l2.1 l4.1 l2.2 l4.2
  have hxy : x * y = 18446744073709551616 * ((x / 4294967296) * (y / 4294967296)) + 4294967296 * ((x / 4294967296) * (y % 4294967296)) + 4294967296 * ((x % 4294967296) * (y / 4294967296)) + (x % 4294967296) * (y % 4294967296) := by
    conv => lhs; rw [ex, ey]
    rw [Int.add_mul, Int.mul_add, Int.mul_add]
    generalize x / 4294967296 = x1
    generalize y / 4294967296 = y1
    generalize x % 4294967296 = x0
    generalize y % 4294967296 = y0
    have e1 : 4294967296 * x1 * (4294967296 * y1) = 18446744073709551616 * (x1 * y1) := by
      rw [show (18446744073709551616 : Int) = 4294967296 * 4294967296 from rfl, Int.mul_assoc, Int.mul_assoc, Int.mul_left_comm x1]
    have e2 : 4294967296 * x1 * y0 = 4294967296 * (x1 * y0) := Int.mul_assoc _ _ _
    have e3 : x0 * (4294967296 * y1) = 4294967296 * (x0 * y1) := by rw [Int.mul_left_comm]
    rw [e1, e2, e3]; omega
  have n1 : lo32 x = x % 4294967296 := lo32_eq hx.1
  have n2 : lo32 y = y % 4294967296 := lo32_eq hy.1
  unfold mulHi
  rw [n1, n2, hi32_eq x, hi32_eq y, hxy]
  revert hb1 hb2 hb3 hb4
  generalize (x / 4294967296) * (y / 4294967296) = p11
  generalize (x / 4294967296) * (y % 4294967296) = p10
  generalize (x % 4294967296) * (y / 4294967296) = p01
  generalize (x % 4294967296) * (y % 4294967296) = p00
  intro hb1 hb2 hb3 hb4
  simp only [w64_eq, hi32_eq]
  rw [lo32_eq (by omega)]
  omega

theorem mul64_pure {x y : Int} (hx : 0 ≤ x ∧ x < 18446744073709551616) (hy : 0 ≤ y ∧ y < 18446744073709551616) :
    PureFn Try.prog 51 [.int .u64 x, .int .u64 y] (.tuple #[.int .u64 (x * y / 18446744073709551616), .int .u64 (x * y % 18446744073709551616)]) :=
  pure_of_ev prog_ok k1_ok rfl rfl ((mul64_tree x y).trans (by rw [mulHi_eq hx hy, w64_eq]))

/-! ### powers -/
def powT (n : Int) : Nat → Int → Int → Option Value
  | 0, i, _ => bif decide (i < n) then none else none
  | j + 1, i, out => bif decide (i < n) then powT n j (w64 (i + 1)) (w64 (out * 2)) else some (.int .u64 out)
theorem power_tree (n : Int) : evFn Try.prog K1 (regB Try.prog) 90 55 [.int .u64 n] st0 ret = powT n 81 0 1 := by kernel_rfl
theorem powT_eq (n : Nat) (hn : n ≤ 63) : ∀ (j i : Nat), i ≤ n → n - i < j → powT n j i ((2 ^ i : Nat) : Int) = some (.int .u64 ((2 ^ n : Nat) : Int))
  | 0, i, _, h => by omega
  | j + 1, i, hi, hj => by
    unfold powT
    by_cases e : i = n
    · subst e
      have : decide ((i : Int) < i) = false := by simp
      rw [this]; rfl
    · have : decide ((i : Int) < n) = true := by simp; omega
      rw [this, cond_true]
      have h1 : w64 ((i : Int) + 1) = ((i + 1 : Nat) : Int) := by rw [w64_eq]; omega
      have hp : 2 ^ (i + 1) ≤ 2 ^ 63 := Nat.pow_le_pow_right (by decide) (by omega)
      have h2 : w64 (((2 ^ i : Nat) : Int) * 2) = ((2 ^ (i + 1) : Nat) : Int) := by rw [w64_eq, Nat.pow_succ]; rw [Nat.pow_succ] at hp; omega
      rw [h1, h2]
      exact powT_eq n hn j (i + 1) (by omega) (by omega)
def pow2 (n : Int) : Int := ((2 ^ n.toNat : Nat) : Int)
theorem power_pure {n : Int} (h0 : 0 ≤ n) (h : n ≤ 63) : PureFn Try.prog 55 [.int .u64 n] (.int .u64 (pow2 n)) := by
  obtain ⟨m, rfl⟩ := Int.eq_ofNat_of_zero_le h0
  refine pure_of_ev prog_ok k1_ok rfl rfl ((power_tree _).trans ?_)
  exact powT_eq m (by omega) 81 0 (by omega) (by omega)

/-! ### the greatest of a length -/
def wideN (n : Int) : Int := bif decide (n ≤ 0) then 0 else ((2 ^ (Nat.log2 n.toNat + 1) : Nat) : Int) - 1
def wideT (n : Int) : Nat → Int → Option Value
  | 0, out => bif decide (out < n) then none else none
  | j + 1, out => bif decide (out < n) then wideT n j (w64 (w64 (out * 2) + 1)) else some (.int .u64 out)
theorem refWide_tree (n : Int) : evFn Try.prog K1 (regB Try.prog) 90 56 [.int .u64 n] st0 ret = wideT n 82 0 := by kernel_rfl
theorem wideT_eq {n : Nat} (hn : n < 2 ^ 64) (k : Nat) (hk : n ≤ 2 ^ k - 1) (hk' : ∀ i, i < k → 2 ^ i - 1 < n) : ∀ (j i : Nat), i ≤ k → k - i < j → wideT n j (((2 ^ i : Nat) : Int) - 1) = some (.int .u64 (((2 ^ k : Nat) : Int) - 1))
  | 0, i, _, h => by omega
  | j + 1, i, hi, hj => by
    have hk64 : k ≤ 64 := by
      rcases Nat.lt_or_ge 64 k with h | h
      · have := hk' 64 h; omega
      · exact h
    unfold wideT
    have hpos : 0 < 2 ^ i := Nat.two_pow_pos i
    by_cases e : i = k
    · subst e
      have : decide (((2 ^ i : Nat) : Int) - 1 < (n : Int)) = false := by simp only [decide_eq_false_iff_not]; omega
      rw [this]; rfl
    · have h0 := hk' i (by omega)
      have : decide (((2 ^ i : Nat) : Int) - 1 < (n : Int)) = true := by simp only [decide_eq_true_eq]; omega
      rw [this, cond_true]
      have hp : 2 ^ (i + 1) ≤ 2 ^ 64 := Nat.pow_le_pow_right (by decide) (by omega)
      have h2 : w64 (w64 ((((2 ^ i : Nat) : Int) - 1) * 2) + 1) = ((2 ^ (i + 1) : Nat) : Int) - 1 := by
        rw [Nat.pow_succ] at hp ⊢
        simp only [w64_eq]
        omega
      rw [h2]
      exact wideT_eq hn k hk hk' j (i + 1) (by omega) (by omega)
theorem wideN_nat (n : Nat) : ∃ k, wideN n = ((2 ^ k : Nat) : Int) - 1 ∧ n ≤ 2 ^ k - 1 ∧ (∀ i, i < k → 2 ^ i - 1 < n) ∧ (n < 2 ^ 64 → k ≤ 64) := by
  by_cases h : n = 0
  · subst h; exact ⟨0, rfl, by simp, fun i hi => by omega, fun _ => by omega⟩
  · have e : decide ((n : Int) ≤ 0) = false := by simp; omega
    have h1 : n < 2 ^ (Nat.log2 n + 1) := Nat.lt_log2_self
    have h2 : 2 ^ Nat.log2 n ≤ n := Nat.log2_self_le h
    refine ⟨Nat.log2 n + 1, by unfold wideN; rw [e]; simp, by omega, fun i hi => ?_, fun hn => ?_⟩
    · have : 2 ^ i ≤ 2 ^ Nat.log2 n := Nat.pow_le_pow_right (by decide) (by omega)
      omega
    · rcases Nat.lt_or_ge 64 (Nat.log2 n + 1) with h3 | h3
      · have : 2 ^ 64 ≤ 2 ^ Nat.log2 n := Nat.pow_le_pow_right (by decide) (by omega)
        omega
      · exact h3
theorem refWide_pure {n : Int} (h : 0 ≤ n ∧ n < 18446744073709551616) : PureFn Try.prog 56 [.int .u64 n] (.int .u64 (wideN n)) := by
  obtain ⟨m, rfl⟩ := Int.eq_ofNat_of_zero_le h.1
  refine pure_of_ev prog_ok k1_ok rfl rfl ((refWide_tree _).trans ?_)
  obtain ⟨k, h1, h2, h3, h4⟩ := wideN_nat m
  rw [h1]
  have hm : m < 2 ^ 64 := by omega
  exact wideT_eq hm k h2 h3 82 0 (by omega) (by have := h4 hm; omega)
end Go.Ev
