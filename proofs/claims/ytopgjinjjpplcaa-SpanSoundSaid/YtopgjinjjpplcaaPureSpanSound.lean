/- SpanSound comes to true, of all spans and numbers. -/
import Derived.Test.YtopgjinjjpplcaaSpanM
namespace Go.Ev
open Go.Proofs
theorem shift_arg {Y : Int} (h : inU Y = true) : Int.tmod Y 64 = Y % 64 ∧ Int.tmod (Int.tmod Y 64) 64 = Y % 64 ∧ 0 ≤ Y % 64 ∧ Y % 64 ≤ 63 := by
  simp only [inU, Bool.and_eq_true, decide_eq_true_eq] at h
  have e : Int.tmod Y 64 = Y % 64 := Int.tmod_eq_emod_of_nonneg h.1
  rw [e, Int.tmod_eq_emod_of_nonneg (by omega)]
  omega
theorem pow_ok {c : Int} (h : c ≤ 63) : okS (pow2 c) (pow2 c) = true := by
  have := pow2_lt h; have := pow2_pos c
  simp only [okS, inU, Bool.and_eq_true, decide_eq_true_eq]; omega
theorem doE_shift {op a b Z : Int} (ho : op = 12 ∨ op = 13) (h1 : okS a b = true) (hZ : Z ≤ 63) : doE op a b Z Z = 0 := by
  simp only [okS, inU, Bool.and_eq_true, decide_eq_true_eq] at h1
  unfold doE
  rw [decide_eq_false (show ¬ op < 3 by omega), decide_eq_false (show ¬ 13 < op by omega), decide_eq_false (show ¬ b < a by omega), decide_eq_false (show ¬ Z < Z by omega), decide_eq_false (show ¬ 63 < Z by omega), beq_self_eq_true]
  rcases ho with rfl | rfl <;> rfl
theorem shl_has {a b X Z : Int} (h1 : okS a b = true) (hX : a ≤ X ∧ X ≤ b) (hZ : Z ≤ 63) :
    doLo 12 a b Z Z ≤ IntKind.wrap .u64 (X * pow2 Z) ∧ IntKind.wrap .u64 (X * pow2 Z) ≤ doHi 12 a b Z Z := by
  unfold doLo doHi
  rw [doE_shift (.inl rfl) h1 hZ, wrap_u64]
  exact mul_has h1 (pow_ok hZ) hX ⟨Int.le_refl _, Int.le_refl _⟩
theorem shr_has {a b X Z : Int} (h1 : okS a b = true) (hX : a ≤ X ∧ X ≤ b) (hZ : Z ≤ 63) :
    doLo 13 a b Z Z ≤ Int.fdiv X (pow2 Z) ∧ Int.fdiv X (pow2 Z) ≤ doHi 13 a b Z Z := by
  unfold doLo doHi
  rw [doE_shift (.inr rfl) h1 hZ, fdiv_pow]
  exact ⟨Int.ediv_le_ediv (pow2_pos Z) hX.1, Int.ediv_le_ediv (pow2_pos Z) hX.2⟩
theorem shl_one {X Z : Int} (h : inU X = true) (hZ : Z ≤ 63) : doLo 12 X X Z Z = IntKind.wrap .u64 (X * pow2 Z) ∧ doHi 12 X X Z Z = IntKind.wrap .u64 (X * pow2 Z) := by
  have h1 := shl_has (one_ok h) ⟨Int.le_refl X, Int.le_refl X⟩ hZ
  have h2 : doLo 12 X X Z Z = doHi 12 X X Z Z := by
    unfold doLo doHi
    rw [doE_shift (.inl rfl) (one_ok h) hZ]
    show mulLo X X (pow2 Z) (pow2 Z) = mulHiS X X (pow2 Z) (pow2 Z)
    simp only [mulLo, mulHiS, mulOk, decide_true, Bool.and_self, Bool.or_true, cond_true]
  omega
theorem shr_one {X Z : Int} (h : inU X = true) (hZ : Z ≤ 63) : doLo 13 X X Z Z = Int.fdiv X (pow2 Z) ∧ doHi 13 X X Z Z = Int.fdiv X (pow2 Z) := by
  have h1 := shr_has (one_ok h) ⟨Int.le_refl X, Int.le_refl X⟩ hZ
  have h2 : doLo 13 X X Z Z = doHi 13 X X Z Z := by
    unfold doLo doHi
    rw [doE_shift (.inr rfl) (one_ok h) hZ]; rfl
  omega
/-- One round's facts. -/
theorem snd_round {op a b c d Z X V W : Int} (hd : okDo op a b c d = true) (hd1 : okDo op X X Z Z = true) (e0 : doE op a b c d = 0) (e1 : doE op X X Z Z = 0) (h1 : doLo op X X Z Z = V ∧ doHi op X X Z Z = V) (h2 : doLo op a b c d ≤ W ∧ W ≤ doHi op a b c d) :
    okDo op a b c d = true ∧ okDo op X X Z Z = true ∧ (doE op a b c d != 0) = false ∧ (doE op X X Z Z != 0) = false ∧ (doLo op X X Z Z == V) = true ∧ (doHi op X X Z Z == V) = true ∧ hasB (doLo op a b c d) (doHi op a b c d) W = true ∧ decide (doLo op a b c d > doHi op a b c d) = false := by
  refine ⟨hd, hd1, by rw [e0]; rfl, by rw [e1]; rfl, by rw [h1.1]; exact beq_self_eq_true _, by rw [h1.2]; exact beq_self_eq_true _, ?_, decide_eq_false (by omega)⟩
  unfold hasB
  rw [decide_eq_true h2.1, decide_eq_true h2.2]; rfl
def sndT (a b c d X Y Z Z2 : Int) (gx gy : Bool) : Option Value := bif decide (a > b) then bif okDo 4 a b c d then some (Value.bool (doE 4 a b c d == 150)) else none else bif decide (c > d) then bif okDo 4 a b c d then some (Value.bool (doE 4 a b c d == 150)) else none else bif gx then bif gy then bif okDo 3 a b c d then bif okDo 3 X X c c then bif doE 3 a b c d != 0 then some (Value.bool false) else bif doE 3 X X c c != 0 then some (Value.bool false) else bif !(doLo 3 X X c c == IntKind.wrap IntKind.u64 (X + c) && (doHi 3 X X c c == IntKind.wrap IntKind.u64 (X + c) && true)) then some (Value.bool false) else bif !hasB (doLo 3 a b c d) (doHi 3 a b c d) (IntKind.wrap IntKind.u64 (X + Y)) then some (Value.bool false) else bif decide (doLo 3 a b c d > doHi 3 a b c d) then some (Value.bool false) else bif okDo 4 a b c d then bif okDo 4 X X c c then bif doE 4 a b c d != 0 then some (Value.bool false) else bif doE 4 X X c c != 0 then some (Value.bool false) else bif !(doLo 4 X X c c == IntKind.wrap IntKind.u64 (X + c) && (doHi 4 X X c c == IntKind.wrap IntKind.u64 (X + c) && true)) then some (Value.bool false) else bif !hasB (doLo 4 a b c d) (doHi 4 a b c d) (IntKind.wrap IntKind.u64 (X + Y)) then some (Value.bool false) else bif decide (doLo 4 a b c d > doHi 4 a b c d) then some (Value.bool false) else bif okDo 5 a b c d then bif okDo 5 X X c c then bif doE 5 a b c d != 0 then some (Value.bool false) else bif doE 5 X X c c != 0 then some (Value.bool false) else bif !(doLo 5 X X c c == IntKind.wrap IntKind.u64 (X - c) && (doHi 5 X X c c == IntKind.wrap IntKind.u64 (X - c) && true)) then some (Value.bool false) else bif !hasB (doLo 5 a b c d) (doHi 5 a b c d) (IntKind.wrap IntKind.u64 (X - Y)) then some (Value.bool false) else bif decide (doLo 5 a b c d > doHi 5 a b c d) then some (Value.bool false) else bif okDo 6 a b c d then bif okDo 6 X X c c then bif doE 6 a b c d != 0 then some (Value.bool false) else bif doE 6 X X c c != 0 then some (Value.bool false) else bif !(doLo 6 X X c c == IntKind.wrap IntKind.u64 (X * c) && (doHi 6 X X c c == IntKind.wrap IntKind.u64 (X * c) && true)) then some (Value.bool false) else bif !hasB (doLo 6 a b c d) (doHi 6 a b c d) (IntKind.wrap IntKind.u64 (X * Y)) then some (Value.bool false) else bif decide (doLo 6 a b c d > doHi 6 a b c d) then some (Value.bool false) else bif okDo 7 a b c d then bif okDo 7 X X c c then bif doE 7 a b c d != 0 then some (Value.bool false) else bif doE 7 X X c c != 0 then some (Value.bool false) else bif !(doLo 7 X X c c == IntKind.wrap IntKind.u64 (X * c) && (doHi 7 X X c c == IntKind.wrap IntKind.u64 (X * c) && true)) then some (Value.bool false) else bif !hasB (doLo 7 a b c d) (doHi 7 a b c d) (IntKind.wrap IntKind.u64 (X * Y)) then some (Value.bool false) else bif decide (doLo 7 a b c d > doHi 7 a b c d) then some (Value.bool false) else bif okDo 8 a b c d then bif okDo 8 X X c c then bif doE 8 a b c d != 0 then some (Value.bool false) else bif doE 8 X X c c != 0 then some (Value.bool false) else bif !(doLo 8 X X c c == andU X c && (doHi 8 X X c c == andU X c && true)) then some (Value.bool false) else bif !hasB (doLo 8 a b c d) (doHi 8 a b c d) (andU X Y) then some (Value.bool false) else bif decide (doLo 8 a b c d > doHi 8 a b c d) then some (Value.bool false) else bif okDo 9 a b c d then bif okDo 9 X X c c then bif doE 9 a b c d != 0 then some (Value.bool false) else bif doE 9 X X c c != 0 then some (Value.bool false) else bif !(doLo 9 X X c c == andU X c && (doHi 9 X X c c == andU X c && true)) then some (Value.bool false) else bif !hasB (doLo 9 a b c d) (doHi 9 a b c d) (andU X Y) then some (Value.bool false) else bif decide (doLo 9 a b c d > doHi 9 a b c d) then some (Value.bool false) else bif okDo 10 a b c d then bif okDo 10 X X c c then bif doE 10 a b c d != 0 then some (Value.bool false) else bif doE 10 X X c c != 0 then some (Value.bool false) else bif !(doLo 10 X X c c == orU X c && (doHi 10 X X c c == orU X c && true)) then some (Value.bool false) else bif !hasB (doLo 10 a b c d) (doHi 10 a b c d) (orU X Y) then some (Value.bool false) else bif decide (doLo 10 a b c d > doHi 10 a b c d) then some (Value.bool false) else bif okDo 11 a b c d then bif okDo 11 X X c c then bif doE 11 a b c d != 0 then some (Value.bool false) else bif doE 11 X X c c != 0 then some (Value.bool false) else bif !(doLo 11 X X c c == xorU X c && (doHi 11 X X c c == xorU X c && true)) then some (Value.bool false) else bif !hasB (doLo 11 a b c d) (doHi 11 a b c d) (xorU X Y) then some (Value.bool false) else bif decide (doLo 11 a b c d > doHi 11 a b c d) then some (Value.bool false) else bif okDo 12 a b Z Z then bif okDo 12 X X Z Z then bif doE 12 a b Z Z != 0 then some (Value.bool false) else bif doE 12 X X Z Z != 0 then some (Value.bool false) else bif decide (Z2 < 0) then none else bif !(doLo 12 X X Z Z == IntKind.wrap IntKind.u64 (X * pw2 Z2) && (doHi 12 X X Z Z == IntKind.wrap IntKind.u64 (X * pw2 Z2) && true)) then some (Value.bool false) else bif decide (Z2 < 0) then none else bif !hasB (doLo 12 a b Z Z) (doHi 12 a b Z Z) (IntKind.wrap IntKind.u64 (X * pw2 Z2)) then some (Value.bool false) else bif decide (doLo 12 a b Z Z > doHi 12 a b Z Z) then some (Value.bool false) else bif okDo 13 a b Z Z then bif okDo 13 X X Z Z then bif doE 13 a b Z Z != 0 then some (Value.bool false) else bif doE 13 X X Z Z != 0 then some (Value.bool false) else bif decide (Z2 < 0) then none else bif !(doLo 13 X X Z Z == Int.fdiv X (pw2 Z2) && (doHi 13 X X Z Z == Int.fdiv X (pw2 Z2) && true)) then some (Value.bool false) else bif decide (Z2 < 0) then none else bif !hasB (doLo 13 a b Z Z) (doHi 13 a b Z Z) (Int.fdiv X (pw2 Z2)) then some (Value.bool false) else bif decide (doLo 13 a b Z Z > doHi 13 a b Z Z) then some (Value.bool false) else some (Value.bool true) else none else none else none else none else none else none else none else none else none else none else none else none else none else none else none else none else none else none else none else none else none else none else none else none
set_option maxRecDepth 100000 in
theorem spanSound_tree (a b c d x y : Int) : evFn Try.prog KL (regB Try.prog) 300 6 [.agg #[.int .u64 a, .int .u64 b, .int .u64 c, .int .u64 d, .int .u64 x, .int .u64 y]] st0 ret =
    sndT a b c d (insI a b x) (insI c d y) (Int.tmod (insI c d y) 64) (Int.tmod (Int.tmod (insI c d y) 64) 64) (okS a b && inU x) (okS c d && inU y) := by kernel_rfl
theorem sndT_true {a b c d X Y : Int} (h1 : okS a b = true) (h2 : okS c d = true) (hX : a ≤ X ∧ X ≤ b) (hY : c ≤ Y ∧ Y ≤ d) (Z Z2 : Int) (hZ : Z = Y % 64) (hZ2 : Z2 = Y % 64) : sndT a b c d X Y Z Z2 true true = some (.bool true) := by
  have uX := inU_of h1 hX
  have uY := inU_of h2 hY
  have ua := inU_of h1 (X := a) (by omega)
  have ub := inU_of h1 (X := b) (by omega)
  have uc := inU_of h2 (X := c) (by omega)
  have ud := inU_of h2 (X := d) (by omega)
  have hcY : c ≤ c ∧ c ≤ d := by omega
  have hs := shift_arg uY
  have uZ : inU Z = true := by simp only [inU, Bool.and_eq_true, decide_eq_true_eq]; omega
  have hp : pw2 Z2 = pow2 Z := by rw [hZ2, hZ]; exact pw2_eq hs.2.2.1 hs.2.2.2
  have hz63 : Z ≤ 63 := by omega
  have hok (op : Int) : okDo op a b c d = true := by simp only [okDo, ua, ub, uc, ud, Bool.and_self]
  have hok1 (op : Int) : okDo op X X c c = true := by simp only [okDo, uX, uc, Bool.and_self]
  have hokz (op : Int) : okDo op a b Z Z = true := by simp only [okDo, ua, ub, uZ, Bool.and_self]
  have hokz1 (op : Int) : okDo op X X Z Z = true := by simp only [okDo, uX, uZ, Bool.and_self]
  have hn : decide (Z2 < 0) = false := decide_eq_false (by omega)
  have g1 : decide (a > b) = false := decide_eq_false (by omega)
  have g2 : decide (c > d) = false := decide_eq_false (by omega)
  have hle := Int.le_refl c
  obtain ⟨p3_1, p3_2, p3_3, p3_4, p3_5, p3_6, p3_7, p3_8⟩ := snd_round (op := 3) (Z := c) (X := X) (V := IntKind.wrap IntKind.u64 (X + c)) (W := IntKind.wrap IntKind.u64 (X + Y)) (hok _) (hok1 _) (doE_zero (by decide) h1 h2) (doE_zero (by decide) (one_ok uX) (one_ok uc)) (do_one (by decide) uX uc) (do_has (by decide) h1 h2 hX hY)
  obtain ⟨p4_1, p4_2, p4_3, p4_4, p4_5, p4_6, p4_7, p4_8⟩ := snd_round (op := 4) (Z := c) (X := X) (V := IntKind.wrap IntKind.u64 (X + c)) (W := IntKind.wrap IntKind.u64 (X + Y)) (hok _) (hok1 _) (doE_zero (by decide) h1 h2) (doE_zero (by decide) (one_ok uX) (one_ok uc)) (do_one (by decide) uX uc) (do_has (by decide) h1 h2 hX hY)
  obtain ⟨p5_1, p5_2, p5_3, p5_4, p5_5, p5_6, p5_7, p5_8⟩ := snd_round (op := 5) (Z := c) (X := X) (V := IntKind.wrap IntKind.u64 (X - c)) (W := IntKind.wrap IntKind.u64 (X - Y)) (hok _) (hok1 _) (doE_zero (by decide) h1 h2) (doE_zero (by decide) (one_ok uX) (one_ok uc)) (do_one (by decide) uX uc) (do_has (by decide) h1 h2 hX hY)
  obtain ⟨p6_1, p6_2, p6_3, p6_4, p6_5, p6_6, p6_7, p6_8⟩ := snd_round (op := 6) (Z := c) (X := X) (V := IntKind.wrap IntKind.u64 (X * c)) (W := IntKind.wrap IntKind.u64 (X * Y)) (hok _) (hok1 _) (doE_zero (by decide) h1 h2) (doE_zero (by decide) (one_ok uX) (one_ok uc)) (do_one (by decide) uX uc) (do_has (by decide) h1 h2 hX hY)
  obtain ⟨p7_1, p7_2, p7_3, p7_4, p7_5, p7_6, p7_7, p7_8⟩ := snd_round (op := 7) (Z := c) (X := X) (V := IntKind.wrap IntKind.u64 (X * c)) (W := IntKind.wrap IntKind.u64 (X * Y)) (hok _) (hok1 _) (doE_zero (by decide) h1 h2) (doE_zero (by decide) (one_ok uX) (one_ok uc)) (do_one (by decide) uX uc) (do_has (by decide) h1 h2 hX hY)
  obtain ⟨p8_1, p8_2, p8_3, p8_4, p8_5, p8_6, p8_7, p8_8⟩ := snd_round (op := 8) (Z := c) (X := X) (V := andU X c) (W := andU X Y) (hok _) (hok1 _) (doE_zero (by decide) h1 h2) (doE_zero (by decide) (one_ok uX) (one_ok uc)) (do_one (by decide) uX uc) (do_has (by decide) h1 h2 hX hY)
  obtain ⟨p9_1, p9_2, p9_3, p9_4, p9_5, p9_6, p9_7, p9_8⟩ := snd_round (op := 9) (Z := c) (X := X) (V := andU X c) (W := andU X Y) (hok _) (hok1 _) (doE_zero (by decide) h1 h2) (doE_zero (by decide) (one_ok uX) (one_ok uc)) (do_one (by decide) uX uc) (do_has (by decide) h1 h2 hX hY)
  obtain ⟨p10_1, p10_2, p10_3, p10_4, p10_5, p10_6, p10_7, p10_8⟩ := snd_round (op := 10) (Z := c) (X := X) (V := orU X c) (W := orU X Y) (hok _) (hok1 _) (doE_zero (by decide) h1 h2) (doE_zero (by decide) (one_ok uX) (one_ok uc)) (do_one (by decide) uX uc) (do_has (by decide) h1 h2 hX hY)
  obtain ⟨p11_1, p11_2, p11_3, p11_4, p11_5, p11_6, p11_7, p11_8⟩ := snd_round (op := 11) (Z := c) (X := X) (V := xorU X c) (W := xorU X Y) (hok _) (hok1 _) (doE_zero (by decide) h1 h2) (doE_zero (by decide) (one_ok uX) (one_ok uc)) (do_one (by decide) uX uc) (do_has (by decide) h1 h2 hX hY)
  obtain ⟨p12_1, p12_2, p12_3, p12_4, p12_5, p12_6, p12_7, p12_8⟩ := snd_round (op := 12) (a := a) (b := b) (c := Z) (d := Z) (Z := Z) (X := X) (V := IntKind.wrap IntKind.u64 (X * pow2 Z)) (W := IntKind.wrap IntKind.u64 (X * pow2 Z)) (hokz _) (hokz1 _) (doE_shift (.inl rfl) h1 hz63) (doE_shift (.inl rfl) (one_ok uX) hz63) (shl_one uX hz63) (shl_has h1 hX hz63)
  obtain ⟨p13_1, p13_2, p13_3, p13_4, p13_5, p13_6, p13_7, p13_8⟩ := snd_round (op := 13) (a := a) (b := b) (c := Z) (d := Z) (Z := Z) (X := X) (V := Int.fdiv X (pow2 Z)) (W := Int.fdiv X (pow2 Z)) (hokz _) (hokz1 _) (doE_shift (.inr rfl) h1 hz63) (doE_shift (.inr rfl) (one_ok uX) hz63) (shr_one uX hz63) (shr_has h1 hX hz63)
  unfold sndT
  rw [hp]
  simp only [g1, g2, hn, cond_true, cond_false, Bool.and_self, Bool.not_true, p3_1, p3_2, p3_3, p3_4, p3_5, p3_6, p3_7, p3_8, p4_1, p4_2, p4_3, p4_4, p4_5, p4_6, p4_7, p4_8, p5_1, p5_2, p5_3, p5_4, p5_5, p5_6, p5_7, p5_8, p6_1, p6_2, p6_3, p6_4, p6_5, p6_6, p6_7, p6_8, p7_1, p7_2, p7_3, p7_4, p7_5, p7_6, p7_7, p7_8, p8_1, p8_2, p8_3, p8_4, p8_5, p8_6, p8_7, p8_8, p9_1, p9_2, p9_3, p9_4, p9_5, p9_6, p9_7, p9_8, p10_1, p10_2, p10_3, p10_4, p10_5, p10_6, p10_7, p10_8, p11_1, p11_2, p11_3, p11_4, p11_5, p11_6, p11_7, p11_8, p12_1, p12_2, p12_3, p12_4, p12_5, p12_6, p12_7, p12_8, p13_1, p13_2, p13_3, p13_4, p13_5, p13_6, p13_7, p13_8]
end Go.Ev
namespace Go.Proofs.Ytopgjinjjpplcaa.Law
open Go.Ev
theorem spanSound_walk (a b c d x y : Int) (ha : (Lit.int .u64 a).wf = true) (hb : (Lit.int .u64 b).wf = true) (hc : (Lit.int .u64 c).wf = true) (hd : (Lit.int .u64 d).wf = true) (hx : (Lit.int .u64 x).wf = true) (hy : (Lit.int .u64 y).wf = true) :
    PureFn Try.prog 6 [.agg #[.int .u64 a, .int .u64 b, .int .u64 c, .int .u64 d, .int .u64 x, .int .u64 y]] (.bool true) := by
  refine pure_of_ev prog_ok kl_ok rfl rfl ((spanSound_tree a b c d x y).trans ?_)
  have ha := wf_u64 ha; have hb := wf_u64 hb; have hc := wf_u64 hc; have hd := wf_u64 hd; have hx := wf_u64 hx; have hy := wf_u64 hy
  have ux : inU x = true := by simp only [inU, Bool.and_eq_true, decide_eq_true_eq]; omega
  have uy : inU y = true := by simp only [inU, Bool.and_eq_true, decide_eq_true_eq]; omega
  have hok : okDo 4 a b c d = true := by simp only [okDo, inU, Bool.and_eq_true, decide_eq_true_eq]; omega
  by_cases h1 : b < a
  · have e : (doE 4 a b c d == 150) = true := by unfold doE; rw [decide_eq_true h1]; rfl
    unfold sndT
    rw [show decide (a > b) = true from decide_eq_true h1, hok, e]; rfl
  by_cases h2 : d < c
  · have e : (doE 4 a b c d == 150) = true := by unfold doE; rw [decide_eq_true h2, Bool.or_true]; rfl
    unfold sndT
    rw [show decide (a > b) = false from decide_eq_false h1, show decide (c > d) = true from decide_eq_true h2, hok, e]; rfl
  have o1 : okS a b = true := by simp only [okS, inU, Bool.and_eq_true, decide_eq_true_eq]; omega
  have o2 : okS c d = true := by simp only [okS, inU, Bool.and_eq_true, decide_eq_true_eq]; omega
  have hX := insI_in o1 ux
  have hY := insI_in o2 uy
  have hs := shift_arg (inU_of o2 hY)
  rw [o1, o2, ux, uy]
  exact sndT_true o1 o2 hX hY _ _ hs.1 hs.2.1
end Go.Proofs.Ytopgjinjjpplcaa.Law
