/- Comparisons turned, and what is left of a span where its number is another one. -/
import Derived.Test.YtopgjinjjpplcaaSpanH
namespace Go.Ev
open Go.Proofs
/-- The comparison with registers alone that is asked. -/
def cc (op : Int) (yes : Bool) : Int :=
  bif op == 23 || op == 27 then (bif yes then 27 else 28)
  else bif op == 24 || op == 28 then (bif yes then 28 else 27)
  else bif op == 25 || op == 29 then (bif yes then 29 else 32)
  else bif op == 26 || op == 32 then (bif yes then 32 else 29)
  else bif op == 30 then (bif yes then 30 else 31)
  else bif op == 31 then (bif yes then 31 else 30)
  else 0
def inC (op : Int) : Bool := decide (23 ≤ op) && decide (op ≤ 32)
def plV (op : Int) (yes : Bool) : Value := .tuple #[.int .u8 (cc op yes), .bool (inC op)]
theorem inC_cases (op : Int) : (op < 23 ∨ 32 < op) ∨ op = 23 ∨ op = 24 ∨ op = 25 ∨ op = 26 ∨ op = 27 ∨ op = 28 ∨ op = 29 ∨ op = 30 ∨ op = 31 ∨ op = 32 := by omega
theorem cc_out {op : Int} (h : op < 23 ∨ 32 < op) (yes : Bool) : cc op yes = 0 ∧ inC op = false := by
  have e (n : Int) (h1 : 23 ≤ n) (h2 : n ≤ 32) : (op == n) = false := by simp; omega
  constructor
  · unfold cc
    rw [e 23 (by decide) (by decide), e 24 (by decide) (by decide), e 25 (by decide) (by decide), e 26 (by decide) (by decide), e 27 (by decide) (by decide), e 28 (by decide) (by decide), e 29 (by decide) (by decide), e 30 (by decide) (by decide), e 31 (by decide) (by decide), e 32 (by decide) (by decide)]; rfl
  · simp only [inC, Bool.and_eq_false_iff, decide_eq_false_iff_not]; omega
theorem plainT_tree (op : Int) : evFn Try.prog K6 (regB Try.prog) 60 44 [.int .u8 op, .bool true] st0 ret = (bif op == 23 then some (Value.tuple (Array.mk [Value.int IntKind.u8 27, Value.bool true])) else bif op == 24 then some (Value.tuple (Array.mk [Value.int IntKind.u8 28, Value.bool true])) else bif op == 25 then some (Value.tuple (Array.mk [Value.int IntKind.u8 29, Value.bool true])) else bif op == 26 then some (Value.tuple (Array.mk [Value.int IntKind.u8 32, Value.bool true])) else bif decide (op < 27) then some (Value.tuple (Array.mk [Value.int IntKind.u8 0, Value.bool false])) else bif decide (op > 32) then some (Value.tuple (Array.mk [Value.int IntKind.u8 0, Value.bool false])) else some (Value.tuple (Array.mk [Value.int IntKind.u8 op, Value.bool true]))) := by kernel_rfl
theorem plainF_tree (op : Int) : evFn Try.prog K6 (regB Try.prog) 60 44 [.int .u8 op, .bool false] st0 ret = (bif op == 23 then some (Value.tuple (Array.mk [Value.int IntKind.u8 28, Value.bool true])) else bif op == 24 then some (Value.tuple (Array.mk [Value.int IntKind.u8 27, Value.bool true])) else bif op == 25 then some (Value.tuple (Array.mk [Value.int IntKind.u8 32, Value.bool true])) else bif op == 26 then some (Value.tuple (Array.mk [Value.int IntKind.u8 29, Value.bool true])) else bif decide (op < 27) then some (Value.tuple (Array.mk [Value.int IntKind.u8 0, Value.bool false])) else bif decide (op > 32) then some (Value.tuple (Array.mk [Value.int IntKind.u8 0, Value.bool false])) else bif decide (op ≤ 28) then some (Value.tuple (Array.mk [Value.int IntKind.u8 (IntKind.wrap IntKind.u8 (55 - op)), Value.bool true])) else some (Value.tuple (Array.mk [Value.int IntKind.u8 (IntKind.wrap IntKind.u8 (61 - op)), Value.bool true]))) := by kernel_rfl
theorem turnT_tree (op : Int) : evFn Try.prog K6 (regB Try.prog) 60 48 [.int .u8 op, .bool true] st0 ret = (bif decide (op ≤ 26) then bif decide (IntKind.wrap IntKind.u8 (op - 23) = ↑0) then some (Value.int IntKind.u8 27) else bif decide (IntKind.wrap IntKind.u8 (op - 23) = ↑(0 + 1)) then some (Value.int IntKind.u8 28) else bif decide (IntKind.wrap IntKind.u8 (op - 23) = ↑(0 + 1 + 1)) then some (Value.int IntKind.u8 29) else bif decide (IntKind.wrap IntKind.u8 (op - 23) = ↑(0 + 1 + 1 + 1)) then some (Value.int IntKind.u8 32) else none else some (Value.int IntKind.u8 op)) := by kernel_rfl
theorem turnF_tree (op : Int) : evFn Try.prog K6 (regB Try.prog) 60 48 [.int .u8 op, .bool false] st0 ret = (bif decide (op ≤ 26) then bif decide (IntKind.wrap IntKind.u8 (op - 23) = ↑0) then some (Value.int IntKind.u8 28) else bif decide (IntKind.wrap IntKind.u8 (op - 23) = ↑(0 + 1)) then some (Value.int IntKind.u8 27) else bif decide (IntKind.wrap IntKind.u8 (op - 23) = ↑(0 + 1 + 1)) then some (Value.int IntKind.u8 32) else bif decide (IntKind.wrap IntKind.u8 (op - 23) = ↑(0 + 1 + 1 + 1)) then some (Value.int IntKind.u8 29) else none else bif decide (IntKind.wrap IntKind.u8 (op - 27) = ↑0) then some (Value.int IntKind.u8 28) else bif decide (IntKind.wrap IntKind.u8 (op - 27) = ↑(0 + 1)) then some (Value.int IntKind.u8 27) else bif decide (IntKind.wrap IntKind.u8 (op - 27) = ↑(0 + 1 + 1)) then some (Value.int IntKind.u8 32) else bif decide (IntKind.wrap IntKind.u8 (op - 27) = ↑(0 + 1 + 1 + 1)) then some (Value.int IntKind.u8 31) else bif decide (IntKind.wrap IntKind.u8 (op - 27) = ↑(0 + 1 + 1 + 1 + 1)) then some (Value.int IntKind.u8 30) else bif decide (IntKind.wrap IntKind.u8 (op - 27) = ↑(0 + 1 + 1 + 1 + 1 + 1)) then some (Value.int IntKind.u8 29) else none) := by kernel_rfl
theorem eq_out {op n : Int} (h : op < 23 ∨ 32 < op) (h1 : 23 ≤ n) (h2 : n ≤ 32) : (op == n) = false := by simp; omega
theorem plain_pure (op : Int) (yes : Bool) : PureFn Try.prog 44 [.int .u8 op, .bool yes] (plV op yes) := by
  cases yes
  · refine pure_of_ev prog_ok k6_ok rfl rfl ((plainF_tree op).trans ?_)
    rcases inC_cases op with h | rfl | rfl | rfl | rfl | rfl | rfl | rfl | rfl | rfl | rfl
    · unfold plV; rw [(cc_out h _).1, (cc_out h true).2, eq_out h (by decide) (by decide), eq_out h (by decide) (by decide), eq_out h (by decide) (by decide), eq_out h (by decide) (by decide)]
      rcases h with h | h
      · rw [decide_eq_true (show op < 27 by omega)]; rfl
      · rw [decide_eq_false (show ¬ op < 27 by omega), decide_eq_true (show op > 32 from h)]; rfl
    all_goals rfl
  · refine pure_of_ev prog_ok k6_ok rfl rfl ((plainT_tree op).trans ?_)
    rcases inC_cases op with h | rfl | rfl | rfl | rfl | rfl | rfl | rfl | rfl | rfl | rfl
    · unfold plV; rw [(cc_out h _).1, (cc_out h true).2, eq_out h (by decide) (by decide), eq_out h (by decide) (by decide), eq_out h (by decide) (by decide), eq_out h (by decide) (by decide)]
      rcases h with h | h
      · rw [decide_eq_true (show op < 27 by omega)]; rfl
      · rw [decide_eq_false (show ¬ op < 27 by omega), decide_eq_true (show op > 32 from h)]; rfl
    all_goals rfl
theorem turn_pure {op : Int} (hop : inC op = true) (yes : Bool) : PureFn Try.prog 48 [.int .u8 op, .bool yes] (.int .u8 (cc op yes)) := by
  cases yes
  · refine pure_of_ev prog_ok k6_ok rfl rfl ((turnF_tree op).trans ?_)
    rcases inC_cases op with h | rfl | rfl | rfl | rfl | rfl | rfl | rfl | rfl | rfl | rfl
    · rw [(cc_out h true).2] at hop; cases hop
    all_goals rfl
  · refine pure_of_ev prog_ok k6_ok rfl rfl ((turnT_tree op).trans ?_)
    rcases inC_cases op with h | rfl | rfl | rfl | rfl | rfl | rfl | rfl | rfl | rfl | rfl
    · rw [(cc_out h true).2] at hop; cases hop
    all_goals rfl
def apLo (a b c d : Int) : Int := bif (c == d) && (!(a == b) && (a == c)) then IntKind.wrap .u64 (a + 1) else a
def apHi (a b c d : Int) : Int := bif (c == d) && (!(a == b) && (!(a == c) && (b == c))) then IntKind.wrap .u64 (b - 1) else b
def apV (a b c d : Int) : Value := sp (apLo a b c d) (apHi a b c d)
theorem but_tree (a b c d : Int) : evFn Try.prog K6 (regB Try.prog) 60 45 [sp a b, sp c d] st0 ret = (bif !c == d then some (Value.agg (Array.mk [Value.int IntKind.u64 a, Value.int IntKind.u64 b])) else bif a == b then some (Value.agg (Array.mk [Value.int IntKind.u64 a, Value.int IntKind.u64 b])) else bif a == c then some (Value.agg (Array.mk [Value.int IntKind.u64 (IntKind.wrap IntKind.u64 (a + 1)), Value.int IntKind.u64 b])) else bif b == c then some (Value.agg (Array.mk [Value.int IntKind.u64 a, Value.int IntKind.u64 (IntKind.wrap IntKind.u64 (b - 1))])) else some (Value.agg (Array.mk [Value.int IntKind.u64 a, Value.int IntKind.u64 b]))) := by kernel_rfl
theorem apart_tree (a b c d : Int) : evFn Try.prog K6 (regB Try.prog) 60 57 [sp a b, sp c d] st0 ret = (bif c == d then bif !a == b then bif a == c then some (Value.agg (Array.mk [Value.int IntKind.u64 (IntKind.wrap IntKind.u64 (a + 1)), Value.int IntKind.u64 b])) else bif b == c then some (Value.agg (Array.mk [Value.int IntKind.u64 a, Value.int IntKind.u64 (IntKind.wrap IntKind.u64 (b - 1))])) else some (Value.agg (Array.mk [Value.int IntKind.u64 a, Value.int IntKind.u64 b])) else some (Value.agg (Array.mk [Value.int IntKind.u64 a, Value.int IntKind.u64 b])) else some (Value.agg (Array.mk [Value.int IntKind.u64 a, Value.int IntKind.u64 b]))) := by kernel_rfl
theorem but_pure (a b c d : Int) : PureFn Try.prog 45 [sp a b, sp c d] (apV a b c d) := by
  refine pure_of_ev prog_ok k6_ok rfl rfl ((but_tree a b c d).trans ?_)
  unfold apV apLo apHi
  cases (c == d) <;> cases (a == b) <;> cases (a == c) <;> cases (b == c) <;> rfl
theorem apart_pure (a b c d : Int) : PureFn Try.prog 57 [sp a b, sp c d] (apV a b c d) := by
  refine pure_of_ev prog_ok k6_ok rfl rfl ((apart_tree a b c d).trans ?_)
  unfold apV apLo apHi
  cases (c == d) <;> cases (a == b) <;> cases (a == c) <;> cases (b == c) <;> rfl
/-- A comparison and a truth. -/
def hob {R : Type} (ok : Int → Bool) (v : Int → Bool → Value) (args : List Value) (st : AS) : Option ((Value → AS → Option R) → Option R) :=
  match args with
  | [.int .u8 op, .bool yes] => some (fun k => bif ok op then k (v op yes) st else none)
  | _ => none
theorem hob_ok {P : Program} {R : Type} {g : FuncId} {ok : Int → Bool} {v : Int → Bool → Value} (hv : ∀ op y, plain (v op y) = true) (hp : ∀ op y, ok op = true → PureFn P g [.int .u8 op, .bool y] (v op y)) {args : List Value} {st : AS} {F : (Value → AS → Option R) → Option R} (h : hob ok v args st = some F) (k : Value → AS → Option R) (r : R) (hk : F k = some r) :
    ∃ v st', k v st' = some r ∧ SoundFn P g args st v st' := by
  unfold hob at h
  split at h
  · simp only [Option.some.injEq] at h; subst h
    obtain ⟨hb, hk⟩ := cond_some hk
    exact (hp _ _ hb).k rfl (hv _ _) hk
  · cases h
def K7 : KT := fun _ g args st =>
  bif Nat.beq g 44 then hob (fun _ => true) plV args st
  else bif Nat.beq g 48 then hob inC (fun op y => .int .u8 (cc op y)) args st
  else bif Nat.beq g 45 then h2 (fun _ _ _ _ => true) apV args st
  else bif Nat.beq g 57 then h2 (fun _ _ _ _ => true) apV args st
  else none
theorem k7_ok : KOk Try.prog K7 := by
  intro R g vs st F h k r hk
  unfold K7 at h
  rcases ifK h with ⟨rfl, h⟩ | h
  · exact hob_ok (ok := fun _ => true) (v := plV) (fun _ _ => rfl) (fun op y _ => plain_pure op y) h k r hk
  rcases ifK h with ⟨rfl, h⟩ | h
  · exact hob_ok (ok := inC) (v := fun op y => .int .u8 (cc op y)) (fun _ _ => rfl) (fun op y h => turn_pure h y) h k r hk
  rcases ifK h with ⟨rfl, h⟩ | h
  · exact h2_ok (ok := fun _ _ _ _ => true) (v := apV) (fun _ _ _ _ => rfl) (fun a b c d _ => but_pure a b c d) h k r hk
  rcases ifK h with ⟨rfl, h⟩ | h
  · exact h2_ok (ok := fun _ _ _ _ => true) (v := apV) (fun _ _ _ _ => rfl) (fun a b c d _ => apart_pure a b c d) h k r hk
  cases h
end Go.Ev
