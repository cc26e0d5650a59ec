/- What the library's Len64 and the chapter's wide answer. -/
import Derived.Test.YtopgjinjjpplcaaSpanC
namespace Go.Ev
open Go.Proofs
def len8tab : ByteArray := ⟨#[0, 1, 2, 2, 3, 3, 3, 3, 4, 4, 4, 4, 4, 4, 4, 4, 5, 5, 5, 5, 5, 5, 5, 5, 5, 5, 5, 5, 5, 5, 5, 5, 6, 6, 6, 6, 6, 6, 6, 6, 6, 6, 6, 6, 6, 6, 6, 6, 6, 6, 6, 6, 6, 6, 6, 6, 6, 6, 6, 6, 6, 6, 6, 6, 7, 7, 7, 7, 7, 7, 7, 7, 7, 7, 7, 7, 7, 7, 7, 7, 7, 7, 7, 7, 7, 7, 7, 7, 7, 7, 7, 7, 7, 7, 7, 7, 7, 7, 7, 7, 7, 7, 7, 7, 7, 7, 7, 7, 7, 7, 7, 7, 7, 7, 7, 7, 7, 7, 7, 7, 7, 7, 7, 7, 7, 7, 7, 7, 8, 8, 8, 8, 8, 8, 8, 8, 8, 8, 8, 8, 8, 8, 8, 8, 8, 8, 8, 8, 8, 8, 8, 8, 8, 8, 8, 8, 8, 8, 8, 8, 8, 8, 8, 8, 8, 8, 8, 8, 8, 8, 8, 8, 8, 8, 8, 8, 8, 8, 8, 8, 8, 8, 8, 8, 8, 8, 8, 8, 8, 8, 8, 8, 8, 8, 8, 8, 8, 8, 8, 8, 8, 8, 8, 8, 8, 8, 8, 8, 8, 8, 8, 8, 8, 8, 8, 8, 8, 8, 8, 8, 8, 8, 8, 8, 8, 8, 8, 8, 8, 8, 8, 8, 8, 8, 8, 8, 8, 8, 8, 8, 8, 8, 8, 8, 8, 8, 8, 8, 8, 8, 8, 8, 8, 8, 8, 8]⟩
def lenT (x n : Int) : Option Value :=
  bif decide (0 ≤ IntKind.wrap .u8 x) && decide (IntKind.wrap .u8 x < (len8tab.size : Int)) then some (.int .i64 (IntKind.wrap .i64 (n + IntKind.wrap .i64 (((len8tab[(IntKind.wrap .u8 x).toNat]?).getD 0).toNat : Int)))) else none
def len256 (x n : Int) : Option Value := bif decide (x ≥ 256) then lenT (Int.fdiv x (2 ^ 8)) (IntKind.wrap .i64 (n + 8)) else lenT x n
def len65536 (x n : Int) : Option Value := bif decide (x ≥ 65536) then len256 (Int.fdiv x (2 ^ 16)) (IntKind.wrap .i64 (n + 16)) else len256 x n
theorem len64_tree (x : Int) : evFn Try.prog K1 (regB Try.prog) 60 58 [.int .u64 x] st0 ret = bif decide (x ≥ 4294967296) then len65536 (Int.fdiv x (2 ^ 32)) 32 else len65536 x 0 := by kernel_rfl
def lenN (n : Int) : Int := bif decide (n ≤ 0) then 0 else (Nat.log2 n.toNat + 1 : Nat)
theorem fdiv8 (x : Int) : Int.fdiv x (2 ^ 8) = x / 256 := by rw [Int.fdiv_eq_ediv_of_nonneg _ (by decide)]; rfl
theorem fdiv16 (x : Int) : Int.fdiv x (2 ^ 16) = x / 65536 := by rw [Int.fdiv_eq_ediv_of_nonneg _ (by decide)]; rfl
theorem fdiv32 (x : Int) : Int.fdiv x (2 ^ 32) = x / 4294967296 := by rw [Int.fdiv_eq_ediv_of_nonneg _ (by decide)]; rfl
theorem tab_eq : ∀ i : Fin 256, (((len8tab[i.val]?).getD 0).toNat : Int) = lenN i.val := by decide +kernel
theorem lenN_le (x : Int) : 0 ≤ lenN x := by unfold lenN; cases decide (x ≤ 0) <;> simp only [cond_true, cond_false] <;> omega
theorem lenN_small {x : Int} (h : 0 ≤ x ∧ x < 256) : lenN x ≤ 8 := by
  obtain ⟨n, rfl⟩ := Int.eq_ofNat_of_zero_le h.1
  have : ∀ i : Fin 256, lenN i.val ≤ 8 := by decide +kernel
  exact this ⟨n, by omega⟩
theorem lenT_eq {x n : Int} (h : 0 ≤ x ∧ x < 256) (hn : 0 ≤ n ∧ n ≤ 100) : lenT x n = some (.int .i64 (n + lenN x)) := by
  have e1 : IntKind.wrap .u8 x = x := by rw [wrap_u8]; omega
  have hs : len8tab.size = 256 := by decide +kernel
  unfold lenT
  rw [e1, hs]
  have e2 : (decide (0 ≤ x) && decide (x < ((256 : Nat) : Int))) = true := by simp; omega
  rw [e2, cond_true]
  obtain ⟨m, rfl⟩ := Int.eq_ofNat_of_zero_le h.1
  have e3 := tab_eq ⟨m, by omega⟩
  have e4 := lenN_small h
  have e5 := lenN_le (m : Int)
  rw [Int.toNat_natCast, e3]
  rw [wrap_i64 (lenN ((⟨m, by omega⟩ : Fin 256).val : Int)) (by show _ ≤ lenN (m : Int); omega) (by show lenN (m : Int) ≤ _; omega)]
  show some (Value.int .i64 (IntKind.wrap .i64 (n + lenN (m : Int)))) = _
  rw [wrap_i64 _ (by omega) (by omega)]
theorem lenN_shift {x : Int} (k : Nat) (h : ((2 ^ k : Nat) : Int) ≤ x) : lenN x = (k : Int) + lenN (x / ((2 ^ k : Nat) : Int)) := by
  have hp : 0 < 2 ^ k := Nat.two_pow_pos k
  obtain ⟨n, rfl⟩ := Int.eq_ofNat_of_zero_le (show 0 ≤ x by omega)
  have h' : 2 ^ k ≤ n := by omega
  have e0 : ((n : Int) / ((2 ^ k : Nat) : Int)) = ((n / 2 ^ k : Nat) : Int) := by simp
  have h1 : 1 ≤ n / 2 ^ k := (Nat.le_div_iff_mul_le hp).2 (by omega)
  rw [e0]
  unfold lenN
  have e1 : decide ((n : Int) ≤ 0) = false := by simp; omega
  have e2 : decide (((n / 2 ^ k : Nat) : Int) ≤ 0) = false := by simp only [decide_eq_false_iff_not]; omega
  rw [e1, e2]
  simp only [cond_false, Int.toNat_natCast]
  have : Nat.log2 n = k + Nat.log2 (n / 2 ^ k) := by
    rw [Nat.log2_eq_iff (by omega)]
    have a1 := Nat.log2_self_le (n := n / 2 ^ k) (by omega)
    have a2 := Nat.lt_log2_self (n := n / 2 ^ k)
    rw [Nat.pow_add]
    constructor
    · calc 2 ^ k * 2 ^ Nat.log2 (n / 2 ^ k) ≤ 2 ^ k * (n / 2 ^ k) := Nat.mul_le_mul_left _ a1
        _ ≤ n := Nat.mul_div_le n (2 ^ k)
    · have : n < 2 ^ k * (n / 2 ^ k + 1) := Nat.lt_mul_div_succ n hp
      calc n < 2 ^ k * (n / 2 ^ k + 1) := this
        _ ≤ 2 ^ k * 2 ^ (Nat.log2 (n / 2 ^ k) + 1) := Nat.mul_le_mul_left _ a2
        _ = 2 ^ (k + Nat.log2 (n / 2 ^ k) + 1) := by rw [← Nat.pow_add, Nat.add_assoc]
  rw [this]; omega
theorem len256_eq {x n : Int} (h : 0 ≤ x ∧ x < 65536) (hn : 0 ≤ n ∧ n ≤ 90) : len256 x n = some (.int .i64 (n + lenN x)) := by
  unfold len256
  by_cases c : x ≥ 256
  · rw [decide_eq_true c, cond_true, fdiv8, wrap_i64 _ (by omega) (by omega), lenT_eq (by omega) (by omega)]
    have e := lenN_shift (x := x) 8 (by simpa using c)
    simp only [show ((2 ^ 8 : Nat) : Int) = 256 from rfl] at e
    rw [e]; congr 2; omega
  · rw [decide_eq_false c, cond_false, lenT_eq (by omega) (by omega)]
theorem len65536_eq {x n : Int} (h : 0 ≤ x ∧ x < 4294967296) (hn : 0 ≤ n ∧ n ≤ 70) : len65536 x n = some (.int .i64 (n + lenN x)) := by
  unfold len65536
  by_cases c : x ≥ 65536
  · rw [decide_eq_true c, cond_true, fdiv16, wrap_i64 _ (by omega) (by omega), len256_eq (by omega) (by omega)]
    have e := lenN_shift (x := x) 16 (by simpa using c)
    simp only [show ((2 ^ 16 : Nat) : Int) = 65536 from rfl] at e
    rw [e]; congr 2; omega
  · rw [decide_eq_false c, cond_false, len256_eq (by omega) (by omega)]
theorem len64_pure {x : Int} (h : 0 ≤ x ∧ x < 18446744073709551616) : PureFn Try.prog 58 [.int .u64 x] (.int .i64 (lenN x)) := by
  refine pure_of_ev prog_ok k1_ok rfl rfl ((len64_tree x).trans ?_)
  by_cases c : x ≥ 4294967296
  · rw [decide_eq_true c, cond_true, fdiv32, len65536_eq (by omega) (by omega)]
    have e := lenN_shift (x := x) 32 (by simpa using c)
    simp only [show ((2 ^ 32 : Nat) : Int) = 4294967296 from rfl] at e
    rw [e]; congr 2
  · rw [decide_eq_false c, cond_false, len65536_eq (by omega) (by omega), Int.zero_add]

def K3 : KT := fun _ g args st => match g, args with
  | 13, [] => some (fun k => k (.bool true) st)
  | 58, [.int .u64 x] => some (fun k => bif inU x then k (.int .i64 (lenN x)) st else none)
  | _, _ => none
theorem k3_ok : KOk Try.prog K3 := by
  intro R g vs st F h k r hk
  unfold K3 at h
  split at h
  · simp only [Option.some.injEq] at h; subst h; exact works_pure.k rfl rfl hk
  · simp only [Option.some.injEq] at h; subst h
    obtain ⟨hb, hk⟩ := cond_some hk
    exact (len64_pure (inU_iff.1 hb)).k rfl rfl hk
  · cases h
theorem wide_tree (n : Int) : evFn Try.prog K3 (regB Try.prog) 60 52 [.int .u64 n] st0 ret = bif inU n then (bif decide (lenN n < 0) then none else some (.int .u64 (w64 (w64 (1 * 2 ^ (min (lenN n).toNat 64)) - 1)))) else none := by kernel_rfl
theorem wide_pure {n : Int} (h : 0 ≤ n ∧ n < 18446744073709551616) : PureFn Try.prog 52 [.int .u64 n] (.int .u64 (wideN n)) := by
  refine pure_of_ev prog_ok k3_ok rfl rfl ((wide_tree n).trans ?_)
  rw [inU_iff.2 h, cond_true, decide_eq_false (by have := lenN_le n; omega), cond_false]
  obtain ⟨m, rfl⟩ := Int.eq_ofNat_of_zero_le h.1
  unfold wideN lenN
  by_cases h0 : m = 0
  · subst h0; rfl
  · have e : decide ((m : Int) ≤ 0) = false := by simp; omega
    simp only [e, cond_false, Int.toNat_natCast]
    have hlog : Nat.log2 m < 64 := by
      rcases Nat.lt_or_ge (Nat.log2 m) 64 with h3 | h3
      · exact h3
      · have : 2 ^ 64 ≤ 2 ^ Nat.log2 m := Nat.pow_le_pow_right (by decide) h3
        have := Nat.log2_self_le (n := m) h0
        omega
    rw [Nat.min_eq_left (by omega)]
    have hk : Nat.log2 m + 1 ≤ 64 := by omega
    clear hlog
    generalize Nat.log2 m + 1 = k at hk ⊢
    have hp : 2 ^ k ≤ 2 ^ 64 := Nat.pow_le_pow_right (by decide) hk
    have hpos : 0 < 2 ^ k := Nat.two_pow_pos k
    have e2 : (2 : Int) ^ k = ((2 ^ k : Nat) : Int) := by simp
    rw [e2, Int.one_mul]
    simp only [w64_eq]
    congr 2
    omega
end Go.Ev
