/- What a round of SpanLeft asks. -/
import Derived.Test.YtopgjinjjpplcaaSpanP
namespace Go.Ev
open Go.Proofs
theorem cmpT_of {op x y : Int} (h : inC op = true) : cmpT (cc op (cmpB op x y)) x y := by
  rcases inC_cases op with h' | rfl | rfl | rfl | rfl | rfl | rfl | rfl | rfl | rfl | rfl
  · rw [(cc_out h' true).2] at h; cases h
  · show cmpT (bif x == y then 27 else 28) x y
    cases e : (x == y) <;> simp only [beq_iff_eq, beq_eq_false_iff_ne] at e <;> simp only [cond_true, cond_false] <;> unfold cmpT <;> omega
  · show cmpT (bif x != y then 28 else 27) x y
    cases e : (x != y) <;> simp only [bne_iff_ne, bne_eq_false_iff_eq] at e <;> simp only [cond_true, cond_false] <;> unfold cmpT <;> omega
  · show cmpT (bif decide (x < y) then 29 else 32) x y
    cases e : decide (x < y) <;> simp only [decide_eq_true_eq, decide_eq_false_iff_not] at e <;> simp only [cond_true, cond_false] <;> unfold cmpT <;> omega
  · show cmpT (bif decide (y ≤ x) then 32 else 29) x y
    cases e : decide (y ≤ x) <;> simp only [decide_eq_true_eq, decide_eq_false_iff_not] at e <;> simp only [cond_true, cond_false] <;> unfold cmpT <;> omega
  · show cmpT (bif x == y then 27 else 28) x y
    cases e : (x == y) <;> simp only [beq_iff_eq, beq_eq_false_iff_ne] at e <;> simp only [cond_true, cond_false] <;> unfold cmpT <;> omega
  · show cmpT (bif x != y then 28 else 27) x y
    cases e : (x != y) <;> simp only [bne_iff_ne, bne_eq_false_iff_eq] at e <;> simp only [cond_true, cond_false] <;> unfold cmpT <;> omega
  · show cmpT (bif decide (x < y) then 29 else 32) x y
    cases e : decide (x < y) <;> simp only [decide_eq_true_eq, decide_eq_false_iff_not] at e <;> simp only [cond_true, cond_false] <;> unfold cmpT <;> omega
  · show cmpT (bif decide (x ≤ y) then 30 else 31) x y
    cases e : decide (x ≤ y) <;> simp only [decide_eq_true_eq, decide_eq_false_iff_not] at e <;> simp only [cond_true, cond_false] <;> unfold cmpT <;> omega
  · show cmpT (bif decide (y < x) then 31 else 30) x y
    cases e : decide (y < x) <;> simp only [decide_eq_true_eq, decide_eq_false_iff_not] at e <;> simp only [cond_true, cond_false] <;> unfold cmpT <;> omega
  · show cmpT (bif decide (y ≤ x) then 32 else 29) x y
    cases e : decide (y ≤ x) <;> simp only [decide_eq_true_eq, decide_eq_false_iff_not] at e <;> simp only [cond_true, cond_false] <;> unfold cmpT <;> omega
/-- What is so is left. -/
theorem round_so {op a b c d x y : Int} {so : Bool} (ho : inC op = true) (h1 : okS a b = true) (h2 : okS c d = true) (hx : a ≤ x ∧ x ≤ b) (hy : c ≤ y ∧ y ≤ d) (hs : cmpB op x y = so) :
    (cmpB op x y == so) = true ∧ (cutE op a b c d == 0) = true ∧ (cutI op so a b c d == true) = true ∧ hasB (cutALo op so a b c d) (cutAHi op so a b c d) x = true ∧ hasB (cutBLo op so a b c d) (cutBHi op so a b c d) y = true ∧ undB (cutALo op so a b c d) (cutAHi op so a b c d) a b = true ∧ undB (cutBLo op so a b c d) (cutBHi op so a b c d) c d = true := by
  simp only [okS, inU, Bool.and_eq_true, decide_eq_true_eq] at h1 h2
  have e0 := cutE_zero (op := op) (a := a) (b := b) (c := c) (d := d) ho (by omega) (by omega)
  have ht := cmpT_of (x := x) (y := y) ho
  rw [hs] at ht
  obtain ⟨q0, ⟨q1, q2⟩, q3, q4⟩ := ct_has (a := a) (b := b) (c := c) (d := d) ⟨by omega, hx.1, hx.2, by omega⟩ ⟨by omega, hy.1, hy.2, by omega⟩ ht
  obtain ⟨⟨r1, r2, r3⟩, r4, r5, r6⟩ := ct_under (a := a) (b := b) (c := c) (d := d) (cc_in ho so) ⟨by omega, by omega, by omega⟩ ⟨by omega, by omega, by omega⟩ q0
  have hi : cutI op so a b c d = true := by unfold cutI; rw [e0, q0]; rfl
  refine ⟨by rw [hs]; exact beq_self_eq_true _, by rw [e0]; rfl, by rw [hi]; rfl, ?_, ?_, ?_, ?_⟩
  · unfold hasB cutALo cutAHi; rw [hi, cond_true, cond_true, decide_eq_true q1, decide_eq_true q2]; rfl
  · unfold hasB cutBLo cutBHi; rw [hi, cond_true, cond_true, decide_eq_true q3, decide_eq_true q4]; rfl
  · unfold undB cutALo cutAHi; rw [hi, cond_true, cond_true, decide_eq_true r1, decide_eq_true r3]; rfl
  · unfold undB cutBLo cutBHi; rw [hi, cond_true, cond_true, decide_eq_true r4, decide_eq_true r6]; rfl
/-- What is not so, and can be otherwise. -/
theorem round_t {op a b c d : Int} {no : Bool} (ho : inC op = true) (h1 : okS a b = true) (h2 : okS c d = true) (hi : cutI op no a b c d = true) :
    (cutI op no a b c d == true) = true ∧ undB (cutALo op no a b c d) (cutAHi op no a b c d) a b = true ∧ undB (cutBLo op no a b c d) (cutBHi op no a b c d) c d = true ∧ decide (cutALo op no a b c d > cutAHi op no a b c d) = false ∧ decide (cutBLo op no a b c d > cutBHi op no a b c d) = false := by
  simp only [okS, inU, Bool.and_eq_true, decide_eq_true_eq] at h1 h2
  have e0 := cutE_zero (op := op) (a := a) (b := b) (c := c) (d := d) ho (by omega) (by omega)
  have q0 : ctIs (cc op no) a b c d = true := by have h := hi; unfold cutI at h; rw [e0] at h; simpa using h
  obtain ⟨⟨r1, r2, r3⟩, r4, r5, r6⟩ := ct_under (a := a) (b := b) (c := c) (d := d) (cc_in ho no) ⟨by omega, by omega, by omega⟩ ⟨by omega, by omega, by omega⟩ q0
  refine ⟨by rw [hi]; rfl, ?_, ?_, ?_, ?_⟩
  · unfold undB cutALo cutAHi; rw [hi, cond_true, cond_true, decide_eq_true r1, decide_eq_true r3]; rfl
  · unfold undB cutBLo cutBHi; rw [hi, cond_true, cond_true, decide_eq_true r4, decide_eq_true r6]; rfl
  · unfold cutALo cutAHi; rw [hi, cond_true, cond_true]; exact decide_eq_false (by omega)
  · unfold cutBLo cutBHi; rw [hi, cond_true, cond_true]; exact decide_eq_false (by omega)
/-- What is not so, and can't be otherwise. -/
theorem round_f {op a b c d : Int} {no : Bool} (hi : cutI op no a b c d = false) :
    (cutI op no a b c d == false) = true ∧ (cutALo op no a b c d == 0) = true ∧ (cutAHi op no a b c d == 0) = true ∧ (cutBLo op no a b c d == 0) = true ∧ (cutBHi op no a b c d == 0) = true := by
  refine ⟨by rw [hi]; rfl, ?_, ?_, ?_, ?_⟩
  · unfold cutALo; rw [hi]; rfl
  · unfold cutAHi; rw [hi]; rfl
  · unfold cutBLo; rw [hi]; rfl
  · unfold cutBHi; rw [hi]; rfl
end Go.Ev
