/- SpanOver comes to true, of all spans and numbers. -/
import Derived.Test.YtopgjinjjpplcaaSpanO
namespace Go.Ev
open Go.Proofs
def joT (a b c d : Int) : Option Value := bif undB a b (if c < a then c else a) (if d > b then d else b) then bif undB c d (if c < a then c else a) (if d > b then d else b) then bif (if c < a then c else a) == a then bif (if d > b then d else b) == b then some (Value.bool true) else some (Value.bool ((if d > b then d else b) == d)) else bif (if c < a then c else a) == c then bif (if d > b then d else b) == b then some (Value.bool true) else some (Value.bool ((if d > b then d else b) == d)) else some (Value.bool false) else some (Value.bool false) else some (Value.bool false)
theorem joT_true {a b c d : Int} : joT a b c d = some (.bool true) := by
  have e1 : undB a b (if c < a then c else a) (if d > b then d else b) = true := by unfold undB; simp only [Bool.and_eq_true, decide_eq_true_eq]; omega
  have e2 : undB c d (if c < a then c else a) (if d > b then d else b) = true := by unfold undB; simp only [Bool.and_eq_true, decide_eq_true_eq]; omega
  unfold joT
  rw [e1, e2]
  simp only [cond_true]
  have e3 : (if d > b then d else b) = b ∨ (if d > b then d else b) = d := by omega
  have e4 : (if c < a then c else a) = a ∨ (if c < a then c else a) = c := by omega
  generalize (if d > b then d else b) = H at e3
  generalize (if c < a then c else a) = L at e4
  cases f1 : (L == a) <;> cases f2 : (H == b) <;> cases f3 : (L == c) <;> simp only [cond_true, cond_false] <;> simp only [beq_iff_eq, beq_eq_false_iff_ne] at f1 f2 f3 <;> first | rfl | (exfalso; omega) | (rw [show (H == d) = true by simp only [beq_iff_eq]; omega])
def ovT (op Q a b c d A0 B0 C0 D0 : Int) : Option Value := bif decide (a > b) then some (Value.bool true) else bif decide (c > d) then some (Value.bool true) else bif !undB a b A0 B0 then some (Value.bool false) else bif !undB c d C0 D0 then some (Value.bool false) else bif okDo op a b c d then bif okDo op A0 B0 C0 D0 then bif doE op a b c d == 0 then bif doE op A0 B0 C0 D0 == 0 then bif !undB (doLo op a b c d) (doHi op a b c d) (doLo op A0 B0 C0 D0) (doHi op A0 B0 C0 D0) then some (Value.bool false) else bif cutE Q a b c d != 0 then some (Value.bool false) else bif cutE Q A0 B0 C0 D0 != 0 then some (Value.bool false) else bif cutI Q true a b c d then bif !cutI Q true A0 B0 C0 D0 then some (Value.bool false) else bif !undB (cutALo Q true a b c d) (cutAHi Q true a b c d) (cutALo Q true A0 B0 C0 D0) (cutAHi Q true A0 B0 C0 D0) then some (Value.bool false) else bif !undB (cutBLo Q true a b c d) (cutBHi Q true a b c d) (cutBLo Q true A0 B0 C0 D0) (cutBHi Q true A0 B0 C0 D0) then some (Value.bool false) else bif cutE Q a b c d != 0 then some (Value.bool false) else bif cutE Q A0 B0 C0 D0 != 0 then some (Value.bool false) else bif cutI Q false a b c d then bif !cutI Q false A0 B0 C0 D0 then some (Value.bool false) else bif !undB (cutALo Q false a b c d) (cutAHi Q false a b c d) (cutALo Q false A0 B0 C0 D0) (cutAHi Q false A0 B0 C0 D0) then some (Value.bool false) else bif !undB (cutBLo Q false a b c d) (cutBHi Q false a b c d) (cutBLo Q false A0 B0 C0 D0) (cutBHi Q false A0 B0 C0 D0) then some (Value.bool false) else joT a b c d else joT a b c d else bif cutE Q a b c d != 0 then some (Value.bool false) else bif cutE Q A0 B0 C0 D0 != 0 then some (Value.bool false) else bif cutI Q false a b c d then bif !cutI Q false A0 B0 C0 D0 then some (Value.bool false) else bif !undB (cutALo Q false a b c d) (cutAHi Q false a b c d) (cutALo Q false A0 B0 C0 D0) (cutAHi Q false A0 B0 C0 D0) then some (Value.bool false) else bif !undB (cutBLo Q false a b c d) (cutBHi Q false a b c d) (cutBLo Q false A0 B0 C0 D0) (cutBHi Q false A0 B0 C0 D0) then some (Value.bool false) else joT a b c d else joT a b c d else bif cutE Q a b c d != 0 then some (Value.bool false) else bif cutE Q A0 B0 C0 D0 != 0 then some (Value.bool false) else bif cutI Q true a b c d then bif !cutI Q true A0 B0 C0 D0 then some (Value.bool false) else bif !undB (cutALo Q true a b c d) (cutAHi Q true a b c d) (cutALo Q true A0 B0 C0 D0) (cutAHi Q true A0 B0 C0 D0) then some (Value.bool false) else bif !undB (cutBLo Q true a b c d) (cutBHi Q true a b c d) (cutBLo Q true A0 B0 C0 D0) (cutBHi Q true A0 B0 C0 D0) then some (Value.bool false) else bif cutE Q a b c d != 0 then some (Value.bool false) else bif cutE Q A0 B0 C0 D0 != 0 then some (Value.bool false) else bif cutI Q false a b c d then bif !cutI Q false A0 B0 C0 D0 then some (Value.bool false) else bif !undB (cutALo Q false a b c d) (cutAHi Q false a b c d) (cutALo Q false A0 B0 C0 D0) (cutAHi Q false A0 B0 C0 D0) then some (Value.bool false) else bif !undB (cutBLo Q false a b c d) (cutBHi Q false a b c d) (cutBLo Q false A0 B0 C0 D0) (cutBHi Q false A0 B0 C0 D0) then some (Value.bool false) else joT a b c d else joT a b c d else bif cutE Q a b c d != 0 then some (Value.bool false) else bif cutE Q A0 B0 C0 D0 != 0 then some (Value.bool false) else bif cutI Q false a b c d then bif !cutI Q false A0 B0 C0 D0 then some (Value.bool false) else bif !undB (cutALo Q false a b c d) (cutAHi Q false a b c d) (cutALo Q false A0 B0 C0 D0) (cutAHi Q false A0 B0 C0 D0) then some (Value.bool false) else bif !undB (cutBLo Q false a b c d) (cutBHi Q false a b c d) (cutBLo Q false A0 B0 C0 D0) (cutBHi Q false A0 B0 C0 D0) then some (Value.bool false) else joT a b c d else joT a b c d else bif cutE Q a b c d != 0 then some (Value.bool false) else bif cutE Q A0 B0 C0 D0 != 0 then some (Value.bool false) else bif cutI Q true a b c d then bif !cutI Q true A0 B0 C0 D0 then some (Value.bool false) else bif !undB (cutALo Q true a b c d) (cutAHi Q true a b c d) (cutALo Q true A0 B0 C0 D0) (cutAHi Q true A0 B0 C0 D0) then some (Value.bool false) else bif !undB (cutBLo Q true a b c d) (cutBHi Q true a b c d) (cutBLo Q true A0 B0 C0 D0) (cutBHi Q true A0 B0 C0 D0) then some (Value.bool false) else bif cutE Q a b c d != 0 then some (Value.bool false) else bif cutE Q A0 B0 C0 D0 != 0 then some (Value.bool false) else bif cutI Q false a b c d then bif !cutI Q false A0 B0 C0 D0 then some (Value.bool false) else bif !undB (cutALo Q false a b c d) (cutAHi Q false a b c d) (cutALo Q false A0 B0 C0 D0) (cutAHi Q false A0 B0 C0 D0) then some (Value.bool false) else bif !undB (cutBLo Q false a b c d) (cutBHi Q false a b c d) (cutBLo Q false A0 B0 C0 D0) (cutBHi Q false A0 B0 C0 D0) then some (Value.bool false) else joT a b c d else joT a b c d else bif cutE Q a b c d != 0 then some (Value.bool false) else bif cutE Q A0 B0 C0 D0 != 0 then some (Value.bool false) else bif cutI Q false a b c d then bif !cutI Q false A0 B0 C0 D0 then some (Value.bool false) else bif !undB (cutALo Q false a b c d) (cutAHi Q false a b c d) (cutALo Q false A0 B0 C0 D0) (cutAHi Q false A0 B0 C0 D0) then some (Value.bool false) else bif !undB (cutBLo Q false a b c d) (cutBHi Q false a b c d) (cutBLo Q false A0 B0 C0 D0) (cutBHi Q false A0 B0 C0 D0) then some (Value.bool false) else joT a b c d else joT a b c d else none else none
set_option maxRecDepth 100000 in
theorem spanOver_tree (a b c d x y m op : Int) : evFn Try.prog KL (regB Try.prog) 300 9 [.agg #[.int .u64 a, .int .u64 b, .int .u64 c, .int .u64 d, .int .u64 x, .int .u64 y], .int .u64 m, .int .u8 op] st0 ret =
    ovT op (IntKind.wrap IntKind.u8 (23 + Int.tmod op 10)) a b c d (IntKind.wrap IntKind.u64 (a - if m < a then m else a)) (IntKind.wrap IntKind.u64 (b + if IntKind.wrap IntKind.u64 (Int.tdiv m 2) < IntKind.wrap IntKind.u64 (18446744073709551615 - b) then IntKind.wrap IntKind.u64 (Int.tdiv m 2) else IntKind.wrap IntKind.u64 (18446744073709551615 - b))) (IntKind.wrap IntKind.u64 (c - if Int.tmod x 9 < c then Int.tmod x 9 else c)) (IntKind.wrap IntKind.u64 (d + if Int.tmod y 9 < IntKind.wrap IntKind.u64 (18446744073709551615 - d) then Int.tmod y 9 else IntKind.wrap IntKind.u64 (18446744073709551615 - d))) := by kernel_rfl
theorem ovT_true {op Q a b c d A B C D : Int} (u : Un a b c d A B C D) (hQ : inC Q = true) : ovT op Q a b c d A B C D = some (.bool true) := by
  have hA : okDo op A B C D = true := by have := u.lo; have := u.al; have := u.ab; have := u.bh; have := u.hi; have := u.lo'; have := u.cl; have := u.cd; have := u.dh; have := u.hi'; simp only [okDo, inU, Bool.and_eq_true, decide_eq_true_eq]; omega
  have ha : okDo op a b c d = true := by have := u.lo; have := u.al; have := u.ab; have := u.bh; have := u.hi; have := u.lo'; have := u.cl; have := u.cd; have := u.dh; have := u.hi'; simp only [okDo, inU, Bool.and_eq_true, decide_eq_true_eq]; omega
  have g1 : decide (a > b) = false := decide_eq_false (by have := u.ab; omega)
  have g2 : decide (c > d) = false := decide_eq_false (by have := u.cd; omega)
  have g3 : undB a b A B = true := by have := u.al; have := u.bh; unfold undB; simp only [Bool.and_eq_true, decide_eq_true_eq]; omega
  have g4 : undB c d C D = true := by have := u.cl; have := u.dh; unfold undB; simp only [Bool.and_eq_true, decide_eq_true_eq]; omega
  have g5 : cutE Q a b c d = 0 := cutE_zero hQ u.ab u.cd
  have g6 : cutE Q A B C D = 0 := cutE_zero hQ (by have := u.al; have := u.ab; have := u.bh; omega) (by have := u.cl; have := u.cd; have := u.dh; omega)
  have hj : joT a b c d = some (.bool true) := joT_true
  have hd (h : (doE op a b c d == 0) = true) (h' : (doE op A B C D == 0) = true) : undB (doLo op a b c d) (doHi op a b c d) (doLo op A B C D) (doHi op A B C D) = true := by
    obtain ⟨q1, q2⟩ := do_mono u (by simpa using h) (by simpa using h')
    unfold undB; rw [decide_eq_true q1, decide_eq_true q2]; rfl
  have hc (yes : Bool) (h : cutI Q yes a b c d = true) := cut_mono hQ u h
  unfold ovT
  rw [g1, g2, g3, g4, g5, g6, ha, hA, hj]
  simp only [cond_true, cond_false, Bool.not_true, bne_self_eq_false]
  cases e1 : cutI Q true a b c d <;> cases e2 : cutI Q false a b c d <;> simp only [cond_true, cond_false]
  · cases e3 : (doE op a b c d == 0) <;> cases e4 : (doE op A B C D == 0) <;> simp only [cond_true, cond_false]
    rw [hd e3 e4]; rfl
  · obtain ⟨q1, q2, q3⟩ := hc _ e2
    rw [q1, q2, q3]
    simp only [cond_false, Bool.not_true]
    cases e3 : (doE op a b c d == 0) <;> cases e4 : (doE op A B C D == 0) <;> simp only [cond_true, cond_false]
    rw [hd e3 e4]; rfl
  · obtain ⟨q1, q2, q3⟩ := hc _ e1
    rw [q1, q2, q3]
    simp only [cond_false, Bool.not_true]
    cases e3 : (doE op a b c d == 0) <;> cases e4 : (doE op A B C D == 0) <;> simp only [cond_true, cond_false]
    rw [hd e3 e4]; rfl
  · obtain ⟨q1, q2, q3⟩ := hc _ e1
    obtain ⟨r1, r2, r3⟩ := hc _ e2
    rw [q1, q2, q3, r1, r2, r3]
    simp only [cond_false, Bool.not_true]
    cases e3 : (doE op a b c d == 0) <;> cases e4 : (doE op A B C D == 0) <;> simp only [cond_true, cond_false]
    rw [hd e3 e4]; rfl
end Go.Ev
namespace Go.Proofs.Ytopgjinjjpplcaa.Law
open Go.Ev
theorem spanOver_walk (a b c d x y m op : Int) (ha : (Lit.int .u64 a).wf = true) (hb : (Lit.int .u64 b).wf = true) (hc : (Lit.int .u64 c).wf = true) (hd : (Lit.int .u64 d).wf = true) (hx : (Lit.int .u64 x).wf = true) (hy : (Lit.int .u64 y).wf = true) (hm : (Lit.int .u64 m).wf = true) (hop : (Lit.int .u8 op).wf = true) :
    PureFn Try.prog 9 [.agg #[.int .u64 a, .int .u64 b, .int .u64 c, .int .u64 d, .int .u64 x, .int .u64 y], .int .u64 m, .int .u8 op] (.bool true) := by
  refine pure_of_ev prog_ok kl_ok rfl rfl ((spanOver_tree a b c d x y m op).trans ?_)
  have ha := wf_u64 ha; have hb := wf_u64 hb; have hc := wf_u64 hc; have hd := wf_u64 hd; have hx := wf_u64 hx; have hy := wf_u64 hy; have hm := wf_u64 hm; have hop := wf_u8 hop
  by_cases h1 : b < a
  · unfold ovT
    rw [show decide (a > b) = true from decide_eq_true h1]; rfl
  by_cases h2 : d < c
  · unfold ovT
    rw [show decide (a > b) = false from decide_eq_false h1, show decide (c > d) = true from decide_eq_true h2]; rfl
  have e1 : Int.tdiv m 2 = m / 2 := Int.tdiv_eq_ediv_of_nonneg (by omega)
  have e2 : Int.tmod x 9 = x % 9 := Int.tmod_eq_emod_of_nonneg (by omega)
  have e3 : Int.tmod y 9 = y % 9 := Int.tmod_eq_emod_of_nonneg (by omega)
  have e4 : Int.tmod op 10 = op % 10 := Int.tmod_eq_emod_of_nonneg (by omega)
  rw [e1, e2, e3, e4]
  simp only [wrap_u64]
  refine ovT_true ⟨?_, ?_, ?_, ?_, ?_, ?_, ?_, ?_, ?_, ?_⟩ ?_
  rotate_right
  · rw [wrap_u8]; simp only [inC, Bool.and_eq_true, decide_eq_true_eq]; omega
  all_goals omega
end Go.Proofs.Ytopgjinjjpplcaa.Law
