/- The plain law of Do: no number is lost; of single numbers it is just that number. -/
import Derived.Test.YtopgjinjjpplcaaSpanL
namespace Go.Ev
open Go.Proofs
theorem bv_nat {x : Int} (h : inU x = true) : (BitVec.ofInt (IntKind.bits IntKind.u64) x).toNat = x.toNat := by
  simp only [inU, Bool.and_eq_true, decide_eq_true_eq] at h
  rw [show IntKind.bits IntKind.u64 = 64 from rfl, BitVec.toNat_ofInt]
  have e : ((2 ^ 64 : Nat) : Int) = 18446744073709551616 := by decide
  rw [e, Int.emod_eq_of_lt h.1 h.2]
theorem nat_lt {x : Int} (h : inU x = true) : x.toNat < 2 ^ 64 := by
  simp only [inU, Bool.and_eq_true, decide_eq_true_eq] at h
  have e : (2 : Nat) ^ 64 = 18446744073709551616 := by decide
  omega
theorem m64 : Int.natAbs (2 ^ IntKind.bits IntKind.u64) = 2 ^ 64 := by decide
theorem andU_eq {x y : Int} (hx : inU x = true) (hy : inU y = true) : andU x y = ((x.toNat &&& y.toNat : Nat) : Int) := by
  unfold andU
  rw [BitVec.toNat_and, bv_nat hx, bv_nat hy, m64, Nat.mod_eq_of_lt (Nat.and_lt_two_pow _ (nat_lt hy))]; rfl
theorem orU_eq {x y : Int} (hx : inU x = true) (hy : inU y = true) : orU x y = ((x.toNat ||| y.toNat : Nat) : Int) := by
  unfold orU
  rw [BitVec.toNat_or, bv_nat hx, bv_nat hy, m64, Nat.mod_eq_of_lt (Nat.or_lt_two_pow (nat_lt hx) (nat_lt hy))]; rfl
theorem xorU_eq {x y : Int} (hx : inU x = true) (hy : inU y = true) : xorU x y = ((x.toNat ^^^ y.toNat : Nat) : Int) := by
  unfold xorU
  rw [BitVec.toNat_xor, bv_nat hx, bv_nat hy, m64, Nat.mod_eq_of_lt (Nat.xor_lt_two_pow (nat_lt hx) (nat_lt hy))]; rfl
def numI (op x y : Int) : Int :=
  bif op == 3 || op == 4 then IntKind.wrap .u64 (x + y)
  else bif op == 5 then IntKind.wrap .u64 (x - y)
  else bif op == 6 || op == 7 then IntKind.wrap .u64 (x * y)
  else bif op == 8 || op == 9 then andU x y
  else bif op == 10 then orU x y
  else xorU x y
theorem inU_of {a b X : Int} (h : okS a b = true) (hX : a ≤ X ∧ X ≤ b) : inU X = true := by
  simp only [okS, inU, Bool.and_eq_true, decide_eq_true_eq] at h ⊢; omega
theorem sum_has {a b c d X Y : Int} (h1 : okS a b = true) (h2 : okS c d = true) (hX : a ≤ X ∧ X ≤ b) (hY : c ≤ Y ∧ Y ≤ d) :
    sumLo a b c d ≤ (X + Y) % 18446744073709551616 ∧ (X + Y) % 18446744073709551616 ≤ sumHi a b c d := by
  simp only [okS, inU, Bool.and_eq_true, decide_eq_true_eq] at h1 h2
  unfold sumLo sumHi
  cases h : sumOk a b c d <;> simp only [cond_true, cond_false]
  · omega
  · simp only [sumOk, Bool.or_eq_true, decide_eq_true_eq] at h
    rcases h with h | h <;> omega
theorem less_has {a b c d X Y : Int} (h1 : okS a b = true) (h2 : okS c d = true) (hX : a ≤ X ∧ X ≤ b) (hY : c ≤ Y ∧ Y ≤ d) :
    lessLo a b c d ≤ (X - Y) % 18446744073709551616 ∧ (X - Y) % 18446744073709551616 ≤ lessHi a b c d := by
  simp only [okS, inU, Bool.and_eq_true, decide_eq_true_eq] at h1 h2
  unfold lessLo lessHi
  cases h : lessOk a b c d <;> simp only [cond_true, cond_false]
  · omega
  · simp only [lessOk, Bool.or_eq_true, Bool.and_eq_true, decide_eq_true_eq] at h
    rcases h with (h | h) | h <;> omega
theorem mul_has {a b c d X Y : Int} (h1 : okS a b = true) (h2 : okS c d = true) (hX : a ≤ X ∧ X ≤ b) (hY : c ≤ Y ∧ Y ≤ d) :
    mulLo a b c d ≤ (X * Y) % 18446744073709551616 ∧ (X * Y) % 18446744073709551616 ≤ mulHiS a b c d := by
  simp only [okS, inU, Bool.and_eq_true, decide_eq_true_eq] at h1 h2
  unfold mulLo mulHiS
  cases h : mulOk a b c d <;> simp only [cond_true, cond_false]
  · omega
  · simp only [mulOk, Bool.or_eq_true, Bool.and_eq_true, decide_eq_true_eq] at h
    rcases h with h | h
    · have l1 : a * c ≤ X * Y := Int.mul_le_mul hX.1 hY.1 (by omega) (by omega)
      have l2 : X * Y ≤ b * d := Int.mul_le_mul hX.2 hY.2 (by omega) (by omega)
      have l0 : 0 ≤ a * c := Int.mul_nonneg (by omega) (by omega)
      rw [Int.emod_eq_of_lt l0 (by omega), Int.emod_eq_of_lt (by omega) (by omega), Int.emod_eq_of_lt (by omega) h]
      exact ⟨l1, l2⟩
    · obtain rfl : X = a := by omega
      obtain rfl : Y = c := by omega
      rw [h.1, h.2]
      omega
theorem wide_ge {n m : Nat} (h : n ≤ m) : ∃ k, wideN (m : Int) = ((2 ^ k : Nat) : Int) - 1 ∧ n < 2 ^ k := by
  obtain ⟨k, e, h1, _⟩ := wideN_nat m
  have : 0 < 2 ^ k := Nat.pos_of_ne_zero (by simp)
  exact ⟨k, e, by omega⟩
theorem lg_has {op a b c d X Y : Int} (ho : op = 8 ∨ op = 9 ∨ op = 10 ∨ op = 11) (h1 : okS a b = true) (h2 : okS c d = true) (hX : a ≤ X ∧ X ≤ b) (hY : c ≤ Y ∧ Y ≤ d) :
    lgLo op a b c d ≤ numI op X Y ∧ numI op X Y ≤ lgHi op a b c d := by
  have uX := inU_of h1 hX
  have uY := inU_of h2 hY
  have k1 := h1
  have k2 := h2
  simp only [okS, inU, Bool.and_eq_true, decide_eq_true_eq] at k1 k2
  unfold lgLo lgHi
  cases e : (a == b) && (c == d)
  · simp only [cond_false]
    have eb : ((b.toNat : Nat) : Int) = b := by omega
    have ed : ((d.toNat : Nat) : Int) = d := by omega
    have ew : wideN (mxI b d) = wideN ((max b.toNat d.toNat : Nat) : Int) := by
      congr 1; unfold mxI; split <;> omega
    obtain ⟨k, hk, hb⟩ := wide_ge (n := X.toNat) (m := max b.toNat d.toNat) (by omega)
    obtain ⟨k', hk', hd⟩ := wide_ge (n := Y.toNat) (m := max b.toNat d.toNat) (by omega)
    have hd : Y.toNat < 2 ^ k := by
      have : ((2 ^ k : Nat) : Int) = ((2 ^ k' : Nat) : Int) := by rw [hk] at hk'; omega
      omega
    rcases ho with rfl | rfl | rfl | rfl
    · show (0 : Int) ≤ andU X Y ∧ andU X Y ≤ mnI b d
      have q1 := Nat.and_le_left (n := X.toNat) (m := Y.toNat); have q2 := Nat.and_le_right (n := X.toNat) (m := Y.toNat)
      rw [andU_eq uX uY]; unfold mnI; split <;> omega
    · show (0 : Int) ≤ andU X Y ∧ andU X Y ≤ mnI b d
      have q1 := Nat.and_le_left (n := X.toNat) (m := Y.toNat); have q2 := Nat.and_le_right (n := X.toNat) (m := Y.toNat)
      rw [andU_eq uX uY]; unfold mnI; split <;> omega
    · show mxI a c ≤ orU X Y ∧ orU X Y ≤ wideN (mxI b d)
      have q1 := Nat.left_le_or (n := X.toNat) (m := Y.toNat); have q2 := Nat.right_le_or (n := X.toNat) (m := Y.toNat)
      have q3 := Nat.or_lt_two_pow hb hd
      rw [orU_eq uX uY, ew, hk]; unfold mxI; constructor
      · split <;> omega
      · omega
    · show (0 : Int) ≤ xorU X Y ∧ xorU X Y ≤ wideN (mxI b d)
      have q3 := Nat.xor_lt_two_pow hb hd
      rw [xorU_eq uX uY, ew, hk]; omega
  · simp only [Bool.and_eq_true, beq_iff_eq] at e
    obtain rfl : X = a := by omega
    obtain rfl : Y = c := by omega
    simp only [cond_true]
    rcases ho with rfl | rfl | rfl | rfl <;> exact ⟨Int.le_refl _, Int.le_refl _⟩
theorem one_ok {X : Int} (h : inU X = true) : okS X X = true := by simp only [okS, h, Bool.and_self, Int.le_refl, decide_true]
theorem doE_zero {op a b c d : Int} (ho : 3 ≤ op ∧ op ≤ 11) (h1 : okS a b = true) (h2 : okS c d = true) : doE op a b c d = 0 := by
  simp only [okS, inU, Bool.and_eq_true, decide_eq_true_eq] at h1 h2
  unfold doE
  rw [decide_eq_false (show ¬ op < 3 by omega), decide_eq_false (show ¬ 13 < op by omega), decide_eq_false (show ¬ b < a by omega), decide_eq_false (show ¬ d < c by omega)]
  rw [show (op == 12) = false by simp; omega, show (op == 13) = false by simp; omega]; rfl
theorem do_has {op a b c d X Y : Int} (ho : 3 ≤ op ∧ op ≤ 11) (h1 : okS a b = true) (h2 : okS c d = true) (hX : a ≤ X ∧ X ≤ b) (hY : c ≤ Y ∧ Y ≤ d) :
    doLo op a b c d ≤ numI op X Y ∧ numI op X Y ≤ doHi op a b c d := by
  unfold doLo doHi
  rw [doE_zero ho h1 h2]
  have hs := sum_has h1 h2 hX hY
  have hl := less_has h1 h2 hX hY
  have hm := mul_has h1 h2 hX hY
  have hop : op = 3 ∨ op = 4 ∨ op = 5 ∨ op = 6 ∨ op = 7 ∨ op = 8 ∨ op = 9 ∨ op = 10 ∨ op = 11 := by omega
  rcases hop with rfl | rfl | rfl | rfl | rfl | rfl | rfl | rfl | rfl
  · show sumLo a b c d ≤ IntKind.wrap .u64 (X + Y) ∧ IntKind.wrap .u64 (X + Y) ≤ sumHi a b c d
    rw [wrap_u64]; exact hs
  · show sumLo a b c d ≤ IntKind.wrap .u64 (X + Y) ∧ IntKind.wrap .u64 (X + Y) ≤ sumHi a b c d
    rw [wrap_u64]; exact hs
  · show lessLo a b c d ≤ IntKind.wrap .u64 (X - Y) ∧ IntKind.wrap .u64 (X - Y) ≤ lessHi a b c d
    rw [wrap_u64]; exact hl
  · show mulLo a b c d ≤ IntKind.wrap .u64 (X * Y) ∧ IntKind.wrap .u64 (X * Y) ≤ mulHiS a b c d
    rw [wrap_u64]; exact hm
  · show mulLo a b c d ≤ IntKind.wrap .u64 (X * Y) ∧ IntKind.wrap .u64 (X * Y) ≤ mulHiS a b c d
    rw [wrap_u64]; exact hm
  · exact lg_has (by decide) h1 h2 hX hY
  · exact lg_has (by decide) h1 h2 hX hY
  · exact lg_has (by decide) h1 h2 hX hY
  · exact lg_has (by decide) h1 h2 hX hY
theorem do_one {op X Y : Int} (ho : 3 ≤ op ∧ op ≤ 11) (hX : inU X = true) (hY : inU Y = true) : doLo op X X Y Y = numI op X Y ∧ doHi op X X Y Y = numI op X Y := by
  have h := do_has ho (one_ok hX) (one_ok hY) ⟨Int.le_refl _, Int.le_refl _⟩ ⟨Int.le_refl _, Int.le_refl _⟩
  have h3 : doLo op X X Y Y = doHi op X X Y Y := by
    unfold doLo doHi
    simp only [sumLo, sumHi, lessLo, lessHi, mulLo, mulHiS, lgLo, lgHi, sumOk, lessOk, mulOk, beq_self_eq_true, Bool.and_self, decide_true, Bool.or_true, cond_true]
    have hs : (decide (X + Y < 18446744073709551616) || decide (18446744073709551616 ≤ X + Y)) = true := by simp only [Bool.or_eq_true, decide_eq_true_eq]; omega
    rw [hs]; rfl
  omega
end Go.Ev
