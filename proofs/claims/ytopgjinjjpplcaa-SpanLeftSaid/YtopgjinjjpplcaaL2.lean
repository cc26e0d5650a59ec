/- SpanLeft's loop over the ten comparisons, for the second evaluator (chapter 15). -/
import Derived.Test.YtopgjinjjpplcaaL1
namespace Go.Sv
open Go.RowKit Go.Proofs
set_option linter.unusedSimpArgs false
set_option linter.unusedVariables false

/-! ### a loop that goes on to its end -/
theorem loop_full {K : KT} {L : LT} (hK : KOk Try.prog K) (hL : LOk Try.prog L) {g id d q nb fuel : Nat} {ts : List Nat} (len : Nat) (A : Nat → List (Nat × AV)) (ms : List (Nat × Row)) (hs : SubOk Try.prog g (loopOf Try.prog g id)) (hnb : nb ≤ q)
    (hA : ∀ i, (A i).all (fun p => nmB q p.2) = true) (hm : ms.all (fun p => Nat.blt p.1 q && rowB p.2) = true)
    (h1 : ∀ i, i < len → evCode Try.prog K L (regB Try.prog) fuel g (loopOf Try.prog g id) (slots (A i) (Env.mk d)) ⟨q, ms⟩ (fun e E' st' => some (e, keepE E' ts (Env.mk d), ms.map (fun p => find st'.mem p.1))) = some (.normal, slots (A (i + 1)) (Env.mk d), ms.map (fun p => some p.2)))
    (h2 : evCode Try.prog K L (regB Try.prog) fuel g (loopOf Try.prog g id) (slots (A len) (Env.mk d)) ⟨q, ms⟩ (fun e E' st' => some (e, keepE E' ts (Env.mk d), ms.map (fun p => find st'.mem p.1))) = some (.exit id, slots (A len) (Env.mk d), ms.map (fun p => some p.2))) :
    LoopOk Try.prog nb (szOf Try.prog g) (loopOf Try.prog g id) (slots (A 0) (Env.mk d)) ⟨q, ms⟩ (.exit id) (slots (A len) (Env.mk d)) ⟨q, ms⟩ := by
  have hr : (List.range len).length = len := List.length_range
  have hf : ∀ xs : List Nat, fork (fun _ => Fin3.mk (.exit id) (slots (A len) (Env.mk d)) ⟨q, ms⟩) (fun _ => Fin3.mk .ret (slots (A len) (Env.mk d)) ⟨q, ms⟩) (foldX (fun (_ : Unit) (_ : Nat) => (Sum.inl () : Sum Unit Unit)) () xs) = Fin3.mk (.exit id) (slots (A len) (Env.mk d)) ⟨q, ms⟩ := by
    intro xs
    induction xs with
    | nil => rfl
    | cons x r ih => exact ih
  have key := loop_fold (P := Try.prog) (nb := nb) (sz := szOf Try.prog g) (b := loopOf Try.prog g id) (fun (_ : Unit) (_ : Nat) => (Sum.inl () : Sum Unit Unit)) (List.range len) 0 (fun _ _ => True) (fun i _ => (slots (A i) (Env.mk d), ⟨q, ms⟩)) (fun _ => ⟨.exit id, slots (A len) (Env.mk d), ⟨q, ms⟩⟩) (fun _ => ⟨.ret, slots (A len) (Env.mk d), ⟨q, ms⟩⟩) (fun i _ _ hi => by
      rw [hr] at hi
      exact ⟨trivial, code_rows sprog_ok.1 sprog_ok.2 hK hL hs hnb hnb (hA _) hm (h1 i hi)⟩) (fun _ _ => by
      rw [hr]
      exact code_rows sprog_ok.1 sprog_ok.2 hK hL hs hnb hnb (hA _) hm h2) (fun _ h => by cases h) (fun _ h => by cases h) (List.range len) 0 () trivial rfl (Nat.zero_le _)
  rw [hf] at key
  exact key

/-! ### a round -/
def lSL (op x y : Int) : List (Nat × AV) := [(1, .ptr 0 [] 0), (7, .int .u64 x), (8, .int .u64 y), (9, .int .u8 op)]
def rSL (a b c d X Y : Int) : Row := .cells [.int .u64 a, .int .u64 b, .int .u64 c, .int .u64 d, .int .u64 X, .int .u64 Y] true false
def nSL (e : EK) (op x y a b c d X Y : Int) : Option (EK × Env × List (Option Row)) := some (e, slots (lSL op x y) (Env.mk 8), [some (rSL a b c d X Y)])
open Go.Ev in
theorem evSL (op x y a b c d X Y : Int) : evCode Try.prog KSL L0 (regB Try.prog) 60 8 (loopOf Try.prog 8 0) (slots (lSL op x y) (Env.mk 8)) ⟨1, [(0, rSL a b c d X Y)]⟩ (fun e E' st' => some (e, keepE E' [1, 7, 8, 9] (Env.mk 8), ([(0, rSL a b c d X Y)] : List (Nat × Row)).map (fun p => find st'.mem p.1))) =
  (bif decide (op ≤ 32) then bif cmpE op != Int.ofNat 0 then nSL .ret op x y a b c d X Y else bif bif false then true else cutE op a b c d != Int.ofNat 0 then nSL .ret op x y a b c d X Y else
    bif bif false then true else !cutI op (cmpB op x y) a b c d then nSL .ret op x y a b c d X Y else
    bif bif false then true else !hasB (cutALo op (cmpB op x y) a b c d) (cutAHi op (cmpB op x y) a b c d) x then nSL .ret op x y a b c d X Y else
    bif bif false then true else !hasB (cutBLo op (cmpB op x y) a b c d) (cutBHi op (cmpB op x y) a b c d) y then nSL .ret op x y a b c d X Y else
    bif bif false then true else !undB (cutALo op (cmpB op x y) a b c d) (cutAHi op (cmpB op x y) a b c d) a b then nSL .ret op x y a b c d X Y else
    bif bif false then true else !undB (cutBLo op (cmpB op x y) a b c d) (cutBHi op (cmpB op x y) a b c d) c d then nSL .ret op x y a b c d X Y else
    bif cutE op a b c d != Int.ofNat 0 then nSL .ret op x y a b c d X Y else
    bif cutI op (!cmpB op x y) a b c d then
      bif !undB (cutALo op (!cmpB op x y) a b c d) (cutAHi op (!cmpB op x y) a b c d) a b then nSL .ret op x y a b c d X Y else
      bif bif false then true else !undB (cutBLo op (!cmpB op x y) a b c d) (cutBHi op (!cmpB op x y) a b c d) c d then nSL .ret op x y a b c d X Y else
      bif bif false then true else chkE2 (cutALo op (!cmpB op x y) a b c d) (cutAHi op (!cmpB op x y) a b c d) != Int.ofNat 0 then nSL .ret op x y a b c d X Y else
      bif bif false then true else bif true then bif false then true else chkE2 (cutBLo op (!cmpB op x y) a b c d) (cutBHi op (!cmpB op x y) a b c d) != Int.ofNat 0 else false then nSL .ret op x y a b c d X Y else
      bif !cutI op (!cmpB op x y) a b c d then
        bif !(cutALo op (!cmpB op x y) a b c d == Int.ofNat 0 && (cutAHi op (!cmpB op x y) a b c d == Int.ofNat 0 && true)) then nSL .ret op x y a b c d X Y else
        bif bif false then true else bif true then bif false then true else !(cutBLo op (!cmpB op x y) a b c d == Int.ofNat 0 && (cutBHi op (!cmpB op x y) a b c d == Int.ofNat 0 && true)) else false then nSL .ret op x y a b c d X Y else
        nSL .normal (IntKind.u8.wrap (op + Int.ofNat 1)) x y a b c d X Y
      else nSL .normal (IntKind.u8.wrap (op + Int.ofNat 1)) x y a b c d X Y
    else
      bif !cutI op (!cmpB op x y) a b c d then
        bif !(cutALo op (!cmpB op x y) a b c d == Int.ofNat 0 && (cutAHi op (!cmpB op x y) a b c d == Int.ofNat 0 && true)) then nSL .ret op x y a b c d X Y else
        bif bif false then true else bif true then bif false then true else !(cutBLo op (!cmpB op x y) a b c d == Int.ofNat 0 && (cutBHi op (!cmpB op x y) a b c d == Int.ofNat 0 && true)) else false then nSL .ret op x y a b c d X Y else
        nSL .normal (IntKind.u8.wrap (op + Int.ofNat 1)) x y a b c d X Y
      else nSL .normal (IntKind.u8.wrap (op + Int.ofNat 1)) x y a b c d X Y
  else nSL (.exit 0) op x y a b c d X Y) := by kernel_rfl
open Go.Ev in
/-- A round goes on. -/
theorem evSL_on {op x y a b c d X Y : Int} (ho : inC op = true) (h1 : okS a b = true) (h2 : okS c d = true) (hx : hasB a b x = true) (hy : hasB c d y = true) : evCode Try.prog KSL L0 (regB Try.prog) 60 8 (loopOf Try.prog 8 0) (slots (lSL op x y) (Env.mk 8)) ⟨1, [(0, rSL a b c d X Y)]⟩ (fun e E' st' => some (e, keepE E' [1, 7, 8, 9] (Env.mk 8), ([(0, rSL a b c d X Y)] : List (Nat × Row)).map (fun p => find st'.mem p.1))) = nSL .normal (op + 1) x y a b c d X Y := by
  rw [evSL]
  simp only [hasB, Bool.and_eq_true, decide_eq_true_eq] at hx hy
  have ho' : 23 ≤ op ∧ op ≤ 32 := by simpa [inC] using ho
  obtain ⟨_, q2, q3, q4, q5, q6, q7⟩ := round_so (so := cmpB op x y) ho h1 h2 hx hy rfl
  have e0 : cutE op a b c d = 0 := by simpa using q2
  have i0 : cutI op (cmpB op x y) a b c d = true := by simpa using q3
  have ce : cmpE op = 0 := by
    rcases inC_cases op with h' | rfl | rfl | rfl | rfl | rfl | rfl | rfl | rfl | rfl | rfl
    · omega
    all_goals rfl
  have hw : IntKind.u8.wrap (op + Int.ofNat 1) = op + 1 := by
    show IntKind.wrap .u8 (op + 1) = op + 1
    simp only [IntKind.wrap, IntKind.bits, IntKind.signed, Bool.false_and, Bool.false_eq_true, if_false]
    omega
  have d0 : decide (op ≤ 32) = true := decide_eq_true ho'.2
  rw [d0, ce, e0, i0, q4, q5, q6, q7, hw]
  cases hi : cutI op (!cmpB op x y) a b c d with
  | true =>
    obtain ⟨_, r2, r3, r4, r5⟩ := round_t ho h1 h2 hi
    have s4 : chkE2 (cutALo op (!cmpB op x y) a b c d) (cutAHi op (!cmpB op x y) a b c d) = 0 := by unfold chkE2; rw [r4]; rfl
    have s5 : chkE2 (cutBLo op (!cmpB op x y) a b c d) (cutBHi op (!cmpB op x y) a b c d) = 0 := by unfold chkE2; rw [r5]; rfl
    rw [r2, r3, s4, s5]; rfl
  | false =>
    obtain ⟨_, r2, r3, r4, r5⟩ := round_f hi
    have s2 : (cutALo op (!cmpB op x y) a b c d == Int.ofNat 0) = true := r2
    have s3 : (cutAHi op (!cmpB op x y) a b c d == Int.ofNat 0) = true := r3
    have s4 : (cutBLo op (!cmpB op x y) a b c d == Int.ofNat 0) = true := r4
    have s5 : (cutBHi op (!cmpB op x y) a b c d == Int.ofNat 0) = true := r5
    rw [s2, s3, s4, s5]; rfl

/-! ### the loop -/
def fLoopSL (R : Type) (E : Env) (st : AS) : Option ((EK → Env → AS → Option R) → Option R) :=
  some fun k => match E.get 1, E.get 7, E.get 8, E.get 9, st.mem with
  | .ptr 0 [] 0, .int .u64 x, .int .u64 y, .int .u8 op, [(0, .cells [.int .u64 a, .int .u64 b, .int .u64 c, .int .u64 d, .int .u64 X, .int .u64 Y] true false)] =>
      bif Nat.beq st.next 1 && decide (op = 23) && (Ev.okS a b && Ev.okS c d && (Ev.hasB a b x && Ev.hasB c d y)) then k .normal (slots [] (Env.mk 8)) ⟨1, [(0, rSL a b c d X Y)]⟩ else none
  | _, _, _, _, _ => none
theorem okLoopSL : LoopFn Try.prog 8 0 fLoopSL := fun R E st G h hs nb hnb k r hk => by
  unfold fLoopSL at h
  simp only [Option.some.injEq] at h
  subst h
  dsimp only at hk
  split at hk
  · rename_i x y op a b c d X Y g1 g7 g8 g9 hm
    obtain ⟨hc, hk1⟩ := cond_some hk
    clear hk
    simp only [Bool.and_eq_true, decide_eq_true_eq] at hc
    obtain ⟨⟨c1, c2⟩, ⟨c3, c4⟩, c5, c6⟩ := hc
    have d1 := Nat.eq_of_beq_eq_true c1
    clear c1
    obtain ⟨next, mem⟩ := st
    dsimp only at hm d1 hnb
    subst hm; subst d1; subst c2
    have hl := loop_full (nb := nb) (q := 1) (d := 8) (fuel := 60) (ts := [1, 7, 8, 9]) KSL_ok l0_ok (g := 8) (id := 0) 10 (fun i => lSL (23 + Int.ofNat i) x y) [(0, rSL a b c d X Y)] hs hnb (fun _ => rfl) rfl (fun i hi => by
      have ho : Ev.inC (23 + Int.ofNat i) = true := by
        have : (Int.ofNat i : Int) = (i : Int) := rfl
        simp only [Ev.inC, Bool.and_eq_true, decide_eq_true_eq, this]
        omega
      rw [evSL_on ho c3 c4 c5 c6]
      have e : (23 + Int.ofNat i + 1 : Int) = 23 + Int.ofNat (i + 1) := by
        have h1 : (Int.ofNat i : Int) = (i : Int) := rfl
        have h2 : (Int.ofNat (i + 1) : Int) = ((i + 1 : Nat) : Int) := rfl
        rw [h1, h2]
        omega
      rw [e]; rfl) (by
      rw [evSL]
      rfl)
    have hw : Weak nb (szOf Try.prog 8) E ⟨1, [(0, rSL a b c d X Y)]⟩ (slots (lSL 23 x y) (Env.mk 8)) ⟨1, [(0, rSL a b c d X Y)]⟩ := weak_slots fun p hp κ y hy => by
      simp only [lSL, List.mem_cons, List.not_mem_nil, or_false] at hp
      rcases hp with rfl | rfl | rfl | rfl
      · dsimp only at hy; rw [g1] at hy; exact hy
      · dsimp only at hy; rw [g7] at hy; exact hy
      · dsimp only at hy; rw [g8] at hy; exact hy
      · dsimp only at hy; rw [g9] at hy; exact hy
    exact ⟨.exit 0, _, _, hk1, Nat.le_refl _, (hl.out (less_slots fun p hp => by cases hp)).weak hw⟩
  · cases hk
def LSL : LT := addL 8 0 fLoopSL L0
theorem LSL_ok : LOk Try.prog LSL := addL_ok sprog_ok.1 (by kernel_rfl) okLoopSL l0_ok
end Go.Sv
