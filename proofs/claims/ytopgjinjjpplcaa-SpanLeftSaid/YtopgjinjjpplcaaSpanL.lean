/- A number brought into a span; whether a span has it; whether one lies under the other. -/
import Derived.Test.YtopgjinjjpplcaaSpanK
namespace Go.Ev
open Go.Proofs
def insI (a b n : Int) : Int := bif (a == 0) && (b == 18446744073709551615) then n else a + n % (b - a + 1)
theorem insI_in {a b n : Int} (h : okS a b = true) (hn : inU n = true) : a ≤ insI a b n ∧ insI a b n ≤ b := by
  simp only [okS, inU, Bool.and_eq_true, decide_eq_true_eq] at h hn
  unfold insI
  cases e : (a == 0) && (b == 18446744073709551615)
  · simp only [cond_false]
    have h1 := Int.emod_nonneg n (show b - a + 1 ≠ 0 by omega)
    have h2 := Int.emod_lt_of_pos n (show 0 < b - a + 1 by omega)
    omega
  · simp only [Bool.and_eq_true, beq_iff_eq] at e
    simp only [cond_true]; omega
theorem inside_tree (a b n : Int) : evFn Try.prog K9 (regB Try.prog) 60 19 [sp a b, .int .u64 n] st0 ret = (bif a == 0 then bif b == 18446744073709551615 then some (Value.int IntKind.u64 n) else bif decide (IntKind.wrap IntKind.u64 (IntKind.wrap IntKind.u64 (b - a) + 1) = 0) then none else some (Value.int IntKind.u64 (IntKind.wrap IntKind.u64 (a + Int.tmod n (IntKind.wrap IntKind.u64 (IntKind.wrap IntKind.u64 (b - a) + 1))))) else bif decide (IntKind.wrap IntKind.u64 (IntKind.wrap IntKind.u64 (b - a) + 1) = 0) then none else some (Value.int IntKind.u64 (IntKind.wrap IntKind.u64 (a + Int.tmod n (IntKind.wrap IntKind.u64 (IntKind.wrap IntKind.u64 (b - a) + 1)))))) := by kernel_rfl
theorem inside_pure {a b n : Int} (h : okS a b = true) (hn : inU n = true) : PureFn Try.prog 19 [sp a b, .int .u64 n] (.int .u64 (insI a b n)) := by
  refine pure_of_ev prog_ok k9_ok rfl rfl ((inside_tree a b n).trans ?_)
  have hin := insI_in h hn
  simp only [okS, inU, Bool.and_eq_true, decide_eq_true_eq] at h hn
  have key : ((a == 0) && (b == 18446744073709551615)) = false → (bif decide (IntKind.wrap IntKind.u64 (IntKind.wrap IntKind.u64 (b - a) + 1) = 0) then none else some (Value.int IntKind.u64 (IntKind.wrap IntKind.u64 (a + Int.tmod n (IntKind.wrap IntKind.u64 (IntKind.wrap IntKind.u64 (b - a) + 1)))))) = some (Value.int IntKind.u64 (insI a b n)) := by
    intro e
    have hne : ¬ (a = 0 ∧ b = 18446744073709551615) := by
      intro h'; rw [h'.1, h'.2] at e; cases e
    have e1 : IntKind.wrap IntKind.u64 (b - a) = b - a := by rw [wrap_u64]; omega
    have e2 : IntKind.wrap IntKind.u64 (b - a + 1) = b - a + 1 := by rw [wrap_u64]; omega
    have e3 : insI a b n = a + n % (b - a + 1) := by unfold insI; rw [e]; rfl
    rw [e1, e2, decide_eq_false (by omega), cond_false, Int.tmod_eq_emod_of_nonneg hn.1, ← e3, wrap_u64, Int.emod_eq_of_lt (by omega) (by omega)]
  cases e1 : (a == 0)
  · simp only [cond_false]; exact key (by rw [e1]; rfl)
  · cases e2 : (b == 18446744073709551615)
    · simp only [cond_false, cond_true]; exact key (by rw [e1, e2]; rfl)
    · simp only [cond_true]
      unfold insI; rw [e1, e2]; rfl
def hasB (a b n : Int) : Bool := decide (a ≤ n) && decide (n ≤ b)
def undB (a b c d : Int) : Bool := decide (c ≤ a) && decide (b ≤ d)
theorem has_tree (a b n : Int) : evFn Try.prog K9 (regB Try.prog) 60 22 [sp a b, .int .u64 n] st0 ret = bif decide (a ≤ n) then some (Value.bool (decide (n ≤ b))) else some (Value.bool false) := by kernel_rfl
theorem has_pure (a b n : Int) : PureFn Try.prog 22 [sp a b, .int .u64 n] (.bool (hasB a b n)) := by
  refine pure_of_ev prog_ok k9_ok rfl rfl ((has_tree a b n).trans ?_)
  unfold hasB; cases decide (a ≤ n) <;> rfl
theorem under_tree (a b c d : Int) : evFn Try.prog K9 (regB Try.prog) 60 24 [sp a b, sp c d] st0 ret = bif decide (c ≤ a) then some (Value.bool (decide (b ≤ d))) else some (Value.bool false) := by kernel_rfl
theorem under_pure (a b c d : Int) : PureFn Try.prog 24 [sp a b, sp c d] (.bool (undB a b c d)) := by
  refine pure_of_ev prog_ok k9_ok rfl rfl ((under_tree a b c d).trans ?_)
  unfold undB; cases decide (c ≤ a) <;> rfl
/-- A span and a number. -/
def hsn {R : Type} (ok : Int → Int → Int → Bool) (v : Int → Int → Int → Value) (args : List Value) (st : AS) : Option ((Value → AS → Option R) → Option R) :=
  match args with
  | [.agg ⟨[.int .u64 a, .int .u64 b]⟩, .int .u64 n] => some (fun k => bif ok a b n then k (v a b n) st else none)
  | _ => none
theorem hsn_ok {P : Program} {R : Type} {g : FuncId} {ok : Int → Int → Int → Bool} {v : Int → Int → Int → Value} (hv : ∀ a b n, plain (v a b n) = true) (hp : ∀ a b n, ok a b n = true → PureFn P g [sp a b, .int .u64 n] (v a b n)) {args : List Value} {st : AS} {F : (Value → AS → Option R) → Option R} (h : hsn ok v args st = some F) (k : Value → AS → Option R) (r : R) (hk : F k = some r) :
    ∃ v st', k v st' = some r ∧ SoundFn P g args st v st' := by
  unfold hsn at h
  split at h
  · simp only [Option.some.injEq] at h; subst h
    obtain ⟨hb, hk⟩ := cond_some hk
    exact (hp _ _ _ hb).k rfl (hv _ _ _) hk
  · cases h
def KL : KT := fun R g args st =>
  bif Nat.beq g 19 then hsn (fun a b n => okS a b && inU n) (fun a b n => .int .u64 (insI a b n)) args st
  else bif Nat.beq g 22 then hsn (fun _ _ _ => true) (fun a b n => .bool (hasB a b n)) args st
  else bif Nat.beq g 24 then h2 (fun _ _ _ _ => true) (fun a b c d => .bool (undB a b c d)) args st
  else K9 R g args st
theorem kl_ok : KOk Try.prog KL := by
  intro R g vs st F h k r hk
  unfold KL at h
  rcases ifK h with ⟨rfl, h⟩ | h
  · exact hsn_ok (ok := fun a b n => okS a b && inU n) (v := fun a b n => .int .u64 (insI a b n)) (fun _ _ _ => rfl) (fun a b n h => by simp only [Bool.and_eq_true] at h; exact inside_pure h.1 h.2) h k r hk
  rcases ifK h with ⟨rfl, h⟩ | h
  · exact hsn_ok (ok := fun _ _ _ => true) (v := fun a b n => .bool (hasB a b n)) (fun _ _ _ => rfl) (fun a b n _ => has_pure a b n) h k r hk
  rcases ifK h with ⟨rfl, h⟩ | h
  · exact h2_ok (ok := fun _ _ _ _ => true) (v := fun a b c d => .bool (undB a b c d)) (fun _ _ _ _ => rfl) (fun a b c d _ => under_pure a b c d) h k r hk
  exact k9_ok R g vs st F h k r hk
end Go.Ev
