/- The plain law of Do: of greater spans it tells greater ones. -/
import Derived.Test.YtopgjinjjpplcaaSpanN
namespace Go.Ev
open Go.Proofs
/-- One pair of spans under another. -/
structure Un (a b c d A B C D : Int) : Prop where
  lo : 0 ≤ A
  al : A ≤ a
  ab : a ≤ b
  bh : b ≤ B
  hi : B < 18446744073709551616
  lo' : 0 ≤ C
  cl : C ≤ c
  cd : c ≤ d
  dh : d ≤ D
  hi' : D < 18446744073709551616
theorem sum_mono {a b c d A B C D : Int} (u : Un a b c d A B C D) : sumLo A B C D ≤ sumLo a b c d ∧ sumHi a b c d ≤ sumHi A B C D := by
  obtain ⟨u1, u2, u3, u4, u5, u6, u7, u8, u9, u10⟩ := u
  unfold sumLo sumHi
  cases h : sumOk A B C D <;> cases h' : sumOk a b c d <;> simp only [cond_true, cond_false] <;>
    simp only [sumOk, Bool.or_eq_true, Bool.or_eq_false_iff, decide_eq_true_eq, decide_eq_false_iff_not] at h h' <;> omega
theorem less_mono {a b c d A B C D : Int} (u : Un a b c d A B C D) : lessLo A B C D ≤ lessLo a b c d ∧ lessHi a b c d ≤ lessHi A B C D := by
  obtain ⟨u1, u2, u3, u4, u5, u6, u7, u8, u9, u10⟩ := u
  unfold lessLo lessHi
  cases h : lessOk A B C D <;> cases h' : lessOk a b c d <;> simp only [cond_true, cond_false] <;>
    simp only [lessOk, Bool.or_eq_true, Bool.or_eq_false_iff, Bool.and_eq_true, Bool.and_eq_false_iff, decide_eq_true_eq, decide_eq_false_iff_not] at h h' <;> omega
theorem mul_mono {a b c d A B C D : Int} (u : Un a b c d A B C D) : mulLo A B C D ≤ mulLo a b c d ∧ mulHiS a b c d ≤ mulHiS A B C D := by
  obtain ⟨u1, u2, u3, u4, u5, u6, u7, u8, u9, u10⟩ := u
  have l1 : A * C ≤ a * c := Int.mul_le_mul u2 u7 u6 (by omega)
  have l2 : b * d ≤ B * D := Int.mul_le_mul u4 u9 (by omega) (by omega)
  have l3 : a * c ≤ b * d := Int.mul_le_mul u3 u8 (by omega) (by omega)
  have l0 : 0 ≤ A * C := Int.mul_nonneg u1 u6
  unfold mulLo mulHiS
  cases h : mulOk A B C D
  · cases h' : mulOk a b c d <;> simp only [cond_true, cond_false] <;> omega
  · simp only [mulOk, Bool.or_eq_true, Bool.and_eq_true, decide_eq_true_eq] at h
    by_cases h1 : B * D < 18446744073709551616
    · have h' : mulOk a b c d = true := by simp only [mulOk, Bool.or_eq_true, decide_eq_true_eq]; left; omega
      rw [h']; simp only [cond_true]
      rw [Int.emod_eq_of_lt l0 (by omega), Int.emod_eq_of_lt (by omega) (by omega), Int.emod_eq_of_lt (by omega) (by omega), Int.emod_eq_of_lt (by omega) h1]
      exact ⟨l1, l2⟩
    · have h2 : A = B ∧ C = D := by rcases h with h | h; exact absurd h h1; exact h
      obtain rfl : a = A := by omega
      obtain rfl : b = B := by omega
      obtain rfl : c = C := by omega
      obtain rfl : d = D := by omega
      have h' : mulOk a b c d = true := by simp only [mulOk, Bool.or_eq_true, Bool.and_eq_true, decide_eq_true_eq]; exact .inr h2
      rw [h']; exact ⟨Int.le_refl _, Int.le_refl _⟩
theorem wide_mono {n m : Nat} (h : n ≤ m) : wideN (n : Int) ≤ wideN (m : Int) := by
  obtain ⟨k, e, h1, h2, _⟩ := wideN_nat n
  obtain ⟨k', e', h1', _⟩ := wideN_nat m
  have hk : k ≤ k' := by
    apply Nat.le_of_not_lt
    intro hlt
    have := h2 k' hlt
    omega
  have : 2 ^ k ≤ 2 ^ k' := Nat.pow_le_pow_right (by omega) hk
  rw [e, e']
  omega
theorem lg_mono {op a b c d A B C D : Int} (ho : op = 8 ∨ op = 9 ∨ op = 10 ∨ op = 11) (u : Un a b c d A B C D) : lgLo op A B C D ≤ lgLo op a b c d ∧ lgHi op a b c d ≤ lgHi op A B C D := by
  have o1 : okS A B = true := by have := u.lo; have := u.al; have := u.ab; have := u.bh; have := u.hi; simp only [okS, inU, Bool.and_eq_true, decide_eq_true_eq]; omega
  have o2 : okS C D = true := by have := u.lo'; have := u.cl; have := u.cd; have := u.dh; have := u.hi'; simp only [okS, inU, Bool.and_eq_true, decide_eq_true_eq]; omega
  cases e : (a == b) && (c == d)
  · have e' : ((A == B) && (C == D)) = false := by
      have := u.al; have := u.ab; have := u.bh; have := u.cl; have := u.cd; have := u.dh
      simp only [Bool.and_eq_false_iff, beq_eq_false_iff_ne] at e ⊢; omega
    obtain ⟨u1, u2, u3, u4, u5, u6, u7, u8, u9, u10⟩ := u
    unfold lgLo lgHi
    rw [e, e']
    simp only [cond_false]
    have hw : wideN (mxI b d) ≤ wideN (mxI B D) := by
      have e1 : mxI b d = ((max b.toNat d.toNat : Nat) : Int) := by unfold mxI; split <;> omega
      have e2 : mxI B D = ((max B.toNat D.toNat : Nat) : Int) := by unfold mxI; split <;> omega
      rw [e1, e2]; exact wide_mono (by omega)
    have hn : mnI b d ≤ mnI B D := by unfold mnI; split <;> split <;> omega
    have hx : mxI A C ≤ mxI a c := by unfold mxI; split <;> split <;> omega
    rcases ho with rfl | rfl | rfl | rfl
    · exact ⟨Int.le_refl _, hn⟩
    · exact ⟨Int.le_refl _, hn⟩
    · exact ⟨hx, hw⟩
    · exact ⟨Int.le_refl _, hw⟩
  · have h := lg_has (X := a) (Y := c) ho o1 o2 (by have := u.al; have := u.ab; have := u.bh; omega) (by have := u.cl; have := u.cd; have := u.dh; omega)
    have h1 : lgLo op a b c d = numI op a c := by unfold lgLo; rw [e]; rcases ho with rfl | rfl | rfl | rfl <;> rfl
    have h2 : lgHi op a b c d = numI op a c := by unfold lgHi; rw [e]; rcases ho with rfl | rfl | rfl | rfl <;> rfl
    rw [h1, h2]; exact h
theorem doE_facts {op a b c d : Int} (h : doE op a b c d = 0) : (3 ≤ op ∧ op ≤ 13) ∧ ((op = 12 ∨ op = 13) → c = d ∧ c ≤ 63) := by
  unfold doE at h
  cases h1 : decide (op < 3) || decide (13 < op) <;> rw [h1] at h
  rotate_left
  · simp at h
  cases h2 : decide (b < a) || decide (d < c) <;> rw [h2] at h
  rotate_left
  · simp at h
  cases h3 : (op == 12 || op == 13) && (!(c == d) || decide (63 < c)) <;> rw [h3] at h
  rotate_left
  · simp at h
  simp only [Bool.or_eq_false_iff, decide_eq_false_iff_not] at h1
  refine ⟨by omega, fun ho => ?_⟩
  have : (op == 12 || op == 13) = true := by rcases ho with rfl | rfl <;> rfl
  rw [this, Bool.true_and] at h3
  simp only [Bool.or_eq_false_iff, decide_eq_false_iff_not, Bool.not_eq_false', beq_iff_eq] at h3
  omega
theorem do_mono {op a b c d A B C D : Int} (u : Un a b c d A B C D) (h : doE op a b c d = 0) (h' : doE op A B C D = 0) :
    doLo op A B C D ≤ doLo op a b c d ∧ doHi op a b c d ≤ doHi op A B C D := by
  obtain ⟨ho, hs⟩ := doE_facts h
  obtain ⟨_, hs'⟩ := doE_facts h'
  unfold doLo doHi
  rw [h, h']
  have hop : op = 3 ∨ op = 4 ∨ op = 5 ∨ op = 6 ∨ op = 7 ∨ op = 8 ∨ op = 9 ∨ op = 10 ∨ op = 11 ∨ op = 12 ∨ op = 13 := by omega
  rcases hop with rfl | rfl | rfl | rfl | rfl | rfl | rfl | rfl | rfl | rfl | rfl
  · exact sum_mono u
  · exact sum_mono u
  · exact less_mono u
  · exact mul_mono u
  · exact mul_mono u
  · exact lg_mono (by decide) u
  · exact lg_mono (by decide) u
  · exact lg_mono (by decide) u
  · exact lg_mono (by decide) u
  · obtain ⟨e1, e2⟩ := hs (.inl rfl)
    obtain ⟨e3, _⟩ := hs' (.inl rfl)
    obtain rfl : c = C := by have := u.cl; have := u.cd; have := u.dh; omega
    have p1 := pow2_lt e2; have p2 := pow2_pos c
    exact mul_mono ⟨u.lo, u.al, u.ab, u.bh, u.hi, by omega, Int.le_refl _, Int.le_refl _, Int.le_refl _, by omega⟩
  · obtain ⟨e1, e2⟩ := hs (.inr rfl)
    obtain ⟨e3, _⟩ := hs' (.inr rfl)
    obtain rfl : c = C := by have := u.cl; have := u.cd; have := u.dh; omega
    exact ⟨Int.ediv_le_ediv (pow2_pos c) u.al, Int.ediv_le_ediv (pow2_pos c) u.bh⟩
theorem cutE_zero {op a b c d : Int} (ho : inC op = true) (h1 : a ≤ b) (h2 : c ≤ d) : cutE op a b c d = 0 := by
  unfold cutE; rw [ho, decide_eq_false (show ¬ b < a by omega), decide_eq_false (show ¬ d < c by omega)]; rfl
theorem cut_mono {op : Int} {yes : Bool} {a b c d A B C D : Int} (ho : inC op = true) (u : Un a b c d A B C D) (h : cutI op yes a b c d = true) :
    cutI op yes A B C D = true ∧ undB (cutALo op yes a b c d) (cutAHi op yes a b c d) (cutALo op yes A B C D) (cutAHi op yes A B C D) = true ∧ undB (cutBLo op yes a b c d) (cutBHi op yes a b c d) (cutBLo op yes A B C D) (cutBHi op yes A B C D) = true := by
  obtain ⟨u1, u2, u3, u4, u5, u6, u7, u8, u9, u10⟩ := u
  have e0 := cutE_zero ho u3 u8
  have e1 := cutE_zero (op := op) (a := A) (b := B) (c := C) (d := D) ho (by omega) (by omega)
  have hi : ctIs (cc op yes) a b c d = true := by unfold cutI at h; rw [e0] at h; simpa using h
  obtain ⟨q0, q1, q2, q3, q4⟩ := ct_mono (cc_in ho yes) ⟨u1, u2, u3, u4, u5⟩ ⟨u6, u7, u8, u9, u10⟩ hi
  have h' : cutI op yes A B C D = true := by unfold cutI; rw [e1, q0]; rfl
  refine ⟨h', ?_, ?_⟩
  · unfold cutALo cutAHi undB
    rw [h, h', cond_true, cond_true, cond_true, cond_true, decide_eq_true q1, decide_eq_true q2]; rfl
  · unfold cutBLo cutBHi undB
    rw [h, h', cond_true, cond_true, cond_true, cond_true, decide_eq_true q3, decide_eq_true q4]; rfl
end Go.Ev
