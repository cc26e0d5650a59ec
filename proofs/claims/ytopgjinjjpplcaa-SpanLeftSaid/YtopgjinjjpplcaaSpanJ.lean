/- What Cut leaves of two spans, in the program and in the chapter. -/
import Derived.Test.YtopgjinjjpplcaaSpanI
namespace Go.Ev
open Go.Proofs
def ctIs (t a b c d : Int) : Bool :=
  bif t == 27 then decide ((if c > a then c else a) ≤ if d < b then d else b)
  else bif t == 28 then !((a == b) && ((c == d) && (a == c)))
  else bif t == 29 then decide (a < d)
  else bif t == 30 then decide (a ≤ d)
  else bif t == 31 then decide (c < b)
  else decide (c ≤ b)
def ctALo (t a b c d : Int) : Int :=
  bif t == 27 then (if c > a then c else a)
  else bif t == 28 then apLo a b c d
  else bif t == 29 then a
  else bif t == 30 then a
  else bif t == 31 then (if IntKind.wrap IntKind.u64 (c + 1) > a then IntKind.wrap IntKind.u64 (c + 1) else a)
  else if c > a then c else a
def ctAHi (t a b c d : Int) : Int :=
  bif t == 27 then (if d < b then d else b)
  else bif t == 28 then apHi a b c d
  else bif t == 29 then (if IntKind.wrap IntKind.u64 (d - 1) < b then IntKind.wrap IntKind.u64 (d - 1) else b)
  else bif t == 30 then (if d < b then d else b)
  else b
def ctBLo (t a b c d : Int) : Int :=
  bif t == 27 then (if c > a then c else a)
  else bif t == 28 then apLo c d a b
  else bif t == 29 then (if IntKind.wrap IntKind.u64 (a + 1) > c then IntKind.wrap IntKind.u64 (a + 1) else c)
  else bif t == 30 then (if a > c then a else c)
  else c
def ctBHi (t a b c d : Int) : Int :=
  bif t == 27 then (if d < b then d else b)
  else bif t == 28 then apHi c d a b
  else bif t == 29 then d
  else bif t == 30 then d
  else bif t == 31 then (if IntKind.wrap IntKind.u64 (b - 1) < d then IntKind.wrap IntKind.u64 (b - 1) else d)
  else if b < d then b else d
def cutE (op a b c d : Int) : Int := bif !inC op then 2 else bif decide (b < a) || decide (d < c) then 150 else 0
def cutI (op : Int) (yes : Bool) (a b c d : Int) : Bool := (cutE op a b c d == 0) && ctIs (cc op yes) a b c d
def cutALo (op : Int) (yes : Bool) (a b c d : Int) : Int := bif cutI op yes a b c d then ctALo (cc op yes) a b c d else 0
def cutAHi (op : Int) (yes : Bool) (a b c d : Int) : Int := bif cutI op yes a b c d then ctAHi (cc op yes) a b c d else 0
def cutBLo (op : Int) (yes : Bool) (a b c d : Int) : Int := bif cutI op yes a b c d then ctBLo (cc op yes) a b c d else 0
def cutBHi (op : Int) (yes : Bool) (a b c d : Int) : Int := bif cutI op yes a b c d then ctBHi (cc op yes) a b c d else 0
def cutV (op : Int) (yes : Bool) (a b c d : Int) : Value := .tuple #[sp (cutALo op yes a b c d) (cutAHi op yes a b c d), sp (cutBLo op yes a b c d) (cutBHi op yes a b c d), .bool (cutI op yes a b c d), .int .i64 (cutE op a b c d)]
theorem cut_tree (op a b c d : Int) (yes : Bool) : evFn Try.prog K7 (regB Try.prog) 60 14 [.int .u8 op, .bool yes, sp a b, sp c d] st0 ret = (bif !inC op then some (Value.tuple (Array.mk [Value.agg (Array.mk [Value.int IntKind.u64 0, Value.int IntKind.u64 0]), Value.agg (Array.mk [Value.int IntKind.u64 0, Value.int IntKind.u64 0]), Value.bool false, Value.int IntKind.i64 2])) else bif decide (a > b) then some (Value.tuple (Array.mk [Value.agg (Array.mk [Value.int IntKind.u64 0, Value.int IntKind.u64 0]), Value.agg (Array.mk [Value.int IntKind.u64 0, Value.int IntKind.u64 0]), Value.bool false, Value.int IntKind.i64 150])) else bif decide (c > d) then some (Value.tuple (Array.mk [Value.agg (Array.mk [Value.int IntKind.u64 0, Value.int IntKind.u64 0]), Value.agg (Array.mk [Value.int IntKind.u64 0, Value.int IntKind.u64 0]), Value.bool false, Value.int IntKind.i64 150])) else bif cc op yes == 27 then bif !decide ((if c > a then c else a) ≤ if d < b then d else b) then some (Value.tuple (Array.mk [Value.agg (Array.mk [Value.int IntKind.u64 0, Value.int IntKind.u64 0]), Value.agg (Array.mk [Value.int IntKind.u64 0, Value.int IntKind.u64 0]), Value.bool false, Value.int IntKind.i64 0])) else some (Value.tuple (Array.mk [Value.agg (Array.mk [Value.int IntKind.u64 (if c > a then c else a), Value.int IntKind.u64 (if d < b then d else b)]), Value.agg (Array.mk [Value.int IntKind.u64 (if c > a then c else a), Value.int IntKind.u64 (if d < b then d else b)]), Value.bool true, Value.int IntKind.i64 0])) else bif cc op yes == 28 then bif !a == b then some (Value.tuple (Array.mk [Value.agg (Array.mk [Value.int IntKind.u64 (apLo a b c d), Value.int IntKind.u64 (apHi a b c d)]), Value.agg (Array.mk [Value.int IntKind.u64 (apLo c d a b), Value.int IntKind.u64 (apHi c d a b)]), Value.bool true, Value.int IntKind.i64 0])) else bif !!(a == c && (b == d && true)) then some (Value.tuple (Array.mk [Value.agg (Array.mk [Value.int IntKind.u64 0, Value.int IntKind.u64 0]), Value.agg (Array.mk [Value.int IntKind.u64 0, Value.int IntKind.u64 0]), Value.bool false, Value.int IntKind.i64 0])) else some (Value.tuple (Array.mk [Value.agg (Array.mk [Value.int IntKind.u64 (apLo a b c d), Value.int IntKind.u64 (apHi a b c d)]), Value.agg (Array.mk [Value.int IntKind.u64 (apLo c d a b), Value.int IntKind.u64 (apHi c d a b)]), Value.bool true, Value.int IntKind.i64 0])) else bif cc op yes == 29 then bif decide (a < d) then bif !decide (a < d) then some (Value.tuple (Array.mk [Value.agg (Array.mk [Value.int IntKind.u64 0, Value.int IntKind.u64 0]), Value.agg (Array.mk [Value.int IntKind.u64 0, Value.int IntKind.u64 0]), Value.bool false, Value.int IntKind.i64 0])) else some (Value.tuple (Array.mk [Value.agg (Array.mk [Value.int IntKind.u64 a, Value.int IntKind.u64 (if IntKind.wrap IntKind.u64 (d - 1) < b then IntKind.wrap IntKind.u64 (d - 1) else b)]), Value.agg (Array.mk [Value.int IntKind.u64 (if IntKind.wrap IntKind.u64 (a + 1) > c then IntKind.wrap IntKind.u64 (a + 1) else c), Value.int IntKind.u64 d]), Value.bool true, Value.int IntKind.i64 0])) else bif !decide (a < d) then some (Value.tuple (Array.mk [Value.agg (Array.mk [Value.int IntKind.u64 0, Value.int IntKind.u64 0]), Value.agg (Array.mk [Value.int IntKind.u64 0, Value.int IntKind.u64 0]), Value.bool false, Value.int IntKind.i64 0])) else some (Value.tuple (Array.mk [Value.agg (Array.mk [Value.int IntKind.u64 a, Value.int IntKind.u64 b]), Value.agg (Array.mk [Value.int IntKind.u64 c, Value.int IntKind.u64 d]), Value.bool true, Value.int IntKind.i64 0])) else bif cc op yes == 30 then bif !decide (a ≤ d) then some (Value.tuple (Array.mk [Value.agg (Array.mk [Value.int IntKind.u64 0, Value.int IntKind.u64 0]), Value.agg (Array.mk [Value.int IntKind.u64 0, Value.int IntKind.u64 0]), Value.bool false, Value.int IntKind.i64 0])) else some (Value.tuple (Array.mk [Value.agg (Array.mk [Value.int IntKind.u64 a, Value.int IntKind.u64 (if d < b then d else b)]), Value.agg (Array.mk [Value.int IntKind.u64 (if a > c then a else c), Value.int IntKind.u64 d]), Value.bool true, Value.int IntKind.i64 0])) else bif cc op yes == 31 then bif decide (b > c) then bif !decide (b > c) then some (Value.tuple (Array.mk [Value.agg (Array.mk [Value.int IntKind.u64 0, Value.int IntKind.u64 0]), Value.agg (Array.mk [Value.int IntKind.u64 0, Value.int IntKind.u64 0]), Value.bool false, Value.int IntKind.i64 0])) else some (Value.tuple (Array.mk [Value.agg (Array.mk [Value.int IntKind.u64 (if IntKind.wrap IntKind.u64 (c + 1) > a then IntKind.wrap IntKind.u64 (c + 1) else a), Value.int IntKind.u64 b]), Value.agg (Array.mk [Value.int IntKind.u64 c, Value.int IntKind.u64 (if IntKind.wrap IntKind.u64 (b - 1) < d then IntKind.wrap IntKind.u64 (b - 1) else d)]), Value.bool true, Value.int IntKind.i64 0])) else bif !decide (b > c) then some (Value.tuple (Array.mk [Value.agg (Array.mk [Value.int IntKind.u64 0, Value.int IntKind.u64 0]), Value.agg (Array.mk [Value.int IntKind.u64 0, Value.int IntKind.u64 0]), Value.bool false, Value.int IntKind.i64 0])) else some (Value.tuple (Array.mk [Value.agg (Array.mk [Value.int IntKind.u64 a, Value.int IntKind.u64 b]), Value.agg (Array.mk [Value.int IntKind.u64 c, Value.int IntKind.u64 d]), Value.bool true, Value.int IntKind.i64 0])) else bif cc op yes == 32 then bif !decide (b ≥ c) then some (Value.tuple (Array.mk [Value.agg (Array.mk [Value.int IntKind.u64 0, Value.int IntKind.u64 0]), Value.agg (Array.mk [Value.int IntKind.u64 0, Value.int IntKind.u64 0]), Value.bool false, Value.int IntKind.i64 0])) else some (Value.tuple (Array.mk [Value.agg (Array.mk [Value.int IntKind.u64 (if c > a then c else a), Value.int IntKind.u64 b]), Value.agg (Array.mk [Value.int IntKind.u64 c, Value.int IntKind.u64 (if b < d then b else d)]), Value.bool true, Value.int IntKind.i64 0])) else some (Value.tuple (Array.mk [Value.agg (Array.mk [Value.int IntKind.u64 a, Value.int IntKind.u64 b]), Value.agg (Array.mk [Value.int IntKind.u64 c, Value.int IntKind.u64 d]), Value.bool true, Value.int IntKind.i64 0]))) := by kernel_rfl
theorem refCut_tree (op a b c d : Int) (yes : Bool) : evFn Try.prog K7 (regB Try.prog) 60 15 [.int .u8 op, .bool yes, sp a b, sp c d] st0 ret = (bif decide (op ≥ 23) then bif !decide (op ≤ 32) then some (Value.tuple (Array.mk [Value.agg (Array.mk [Value.int IntKind.u64 0, Value.int IntKind.u64 0]), Value.agg (Array.mk [Value.int IntKind.u64 0, Value.int IntKind.u64 0]), Value.bool false, Value.int IntKind.i64 2])) else bif decide (a > b) then some (Value.tuple (Array.mk [Value.agg (Array.mk [Value.int IntKind.u64 0, Value.int IntKind.u64 0]), Value.agg (Array.mk [Value.int IntKind.u64 0, Value.int IntKind.u64 0]), Value.bool false, Value.int IntKind.i64 150])) else bif decide (c > d) then some (Value.tuple (Array.mk [Value.agg (Array.mk [Value.int IntKind.u64 0, Value.int IntKind.u64 0]), Value.agg (Array.mk [Value.int IntKind.u64 0, Value.int IntKind.u64 0]), Value.bool false, Value.int IntKind.i64 150])) else bif inC op then bif cc op yes == 27 then bif !decide ((if c > a then c else a) ≤ if d < b then d else b) then some (Value.tuple (Array.mk [Value.agg (Array.mk [Value.int IntKind.u64 0, Value.int IntKind.u64 0]), Value.agg (Array.mk [Value.int IntKind.u64 0, Value.int IntKind.u64 0]), Value.bool false, Value.int IntKind.i64 0])) else some (Value.tuple (Array.mk [Value.agg (Array.mk [Value.int IntKind.u64 (if c > a then c else a), Value.int IntKind.u64 (if d < b then d else b)]), Value.agg (Array.mk [Value.int IntKind.u64 (if c > a then c else a), Value.int IntKind.u64 (if d < b then d else b)]), Value.bool true, Value.int IntKind.i64 0])) else bif cc op yes == 28 then bif a == b then bif c == d then bif !!a == c then some (Value.tuple (Array.mk [Value.agg (Array.mk [Value.int IntKind.u64 0, Value.int IntKind.u64 0]), Value.agg (Array.mk [Value.int IntKind.u64 0, Value.int IntKind.u64 0]), Value.bool false, Value.int IntKind.i64 0])) else some (Value.tuple (Array.mk [Value.agg (Array.mk [Value.int IntKind.u64 (apLo a b c d), Value.int IntKind.u64 (apHi a b c d)]), Value.agg (Array.mk [Value.int IntKind.u64 (apLo c d a b), Value.int IntKind.u64 (apHi c d a b)]), Value.bool true, Value.int IntKind.i64 0])) else some (Value.tuple (Array.mk [Value.agg (Array.mk [Value.int IntKind.u64 (apLo a b c d), Value.int IntKind.u64 (apHi a b c d)]), Value.agg (Array.mk [Value.int IntKind.u64 (apLo c d a b), Value.int IntKind.u64 (apHi c d a b)]), Value.bool true, Value.int IntKind.i64 0])) else some (Value.tuple (Array.mk [Value.agg (Array.mk [Value.int IntKind.u64 (apLo a b c d), Value.int IntKind.u64 (apHi a b c d)]), Value.agg (Array.mk [Value.int IntKind.u64 (apLo c d a b), Value.int IntKind.u64 (apHi c d a b)]), Value.bool true, Value.int IntKind.i64 0])) else bif cc op yes == 29 then bif decide (a ≥ d) then some (Value.tuple (Array.mk [Value.agg (Array.mk [Value.int IntKind.u64 0, Value.int IntKind.u64 0]), Value.agg (Array.mk [Value.int IntKind.u64 0, Value.int IntKind.u64 0]), Value.bool false, Value.int IntKind.i64 0])) else some (Value.tuple (Array.mk [Value.agg (Array.mk [Value.int IntKind.u64 a, Value.int IntKind.u64 (if IntKind.wrap IntKind.u64 (d - 1) < b then IntKind.wrap IntKind.u64 (d - 1) else b)]), Value.agg (Array.mk [Value.int IntKind.u64 (if IntKind.wrap IntKind.u64 (a + 1) > c then IntKind.wrap IntKind.u64 (a + 1) else c), Value.int IntKind.u64 d]), Value.bool true, Value.int IntKind.i64 0])) else bif cc op yes == 30 then bif decide (a > d) then some (Value.tuple (Array.mk [Value.agg (Array.mk [Value.int IntKind.u64 0, Value.int IntKind.u64 0]), Value.agg (Array.mk [Value.int IntKind.u64 0, Value.int IntKind.u64 0]), Value.bool false, Value.int IntKind.i64 0])) else some (Value.tuple (Array.mk [Value.agg (Array.mk [Value.int IntKind.u64 a, Value.int IntKind.u64 (if d < b then d else b)]), Value.agg (Array.mk [Value.int IntKind.u64 (if a > c then a else c), Value.int IntKind.u64 d]), Value.bool true, Value.int IntKind.i64 0])) else bif cc op yes == 32 then bif decide (c > b) then some (Value.tuple (Array.mk [Value.agg (Array.mk [Value.int IntKind.u64 0, Value.int IntKind.u64 0]), Value.agg (Array.mk [Value.int IntKind.u64 0, Value.int IntKind.u64 0]), Value.bool false, Value.int IntKind.i64 0])) else some (Value.tuple (Array.mk [Value.agg (Array.mk [Value.int IntKind.u64 (if c > a then c else a), Value.int IntKind.u64 b]), Value.agg (Array.mk [Value.int IntKind.u64 c, Value.int IntKind.u64 (if b < d then b else d)]), Value.bool true, Value.int IntKind.i64 0])) else bif decide (c ≥ b) then some (Value.tuple (Array.mk [Value.agg (Array.mk [Value.int IntKind.u64 0, Value.int IntKind.u64 0]), Value.agg (Array.mk [Value.int IntKind.u64 0, Value.int IntKind.u64 0]), Value.bool false, Value.int IntKind.i64 0])) else some (Value.tuple (Array.mk [Value.agg (Array.mk [Value.int IntKind.u64 (if IntKind.wrap IntKind.u64 (c + 1) > a then IntKind.wrap IntKind.u64 (c + 1) else a), Value.int IntKind.u64 b]), Value.agg (Array.mk [Value.int IntKind.u64 c, Value.int IntKind.u64 (if IntKind.wrap IntKind.u64 (b - 1) < d then IntKind.wrap IntKind.u64 (b - 1) else d)]), Value.bool true, Value.int IntKind.i64 0])) else none else some (Value.tuple (Array.mk [Value.agg (Array.mk [Value.int IntKind.u64 0, Value.int IntKind.u64 0]), Value.agg (Array.mk [Value.int IntKind.u64 0, Value.int IntKind.u64 0]), Value.bool false, Value.int IntKind.i64 2]))) := by kernel_rfl
theorem cc_in {op : Int} (h : inC op = true) (yes : Bool) : cc op yes = 27 ∨ cc op yes = 28 ∨ cc op yes = 29 ∨ cc op yes = 30 ∨ cc op yes = 31 ∨ cc op yes = 32 := by
  rcases inC_cases op with h' | rfl | rfl | rfl | rfl | rfl | rfl | rfl | rfl | rfl | rfl
  · rw [(cc_out h' true).2] at h; cases h
  all_goals (cases yes <;> decide)
theorem one_eq {a b c d : Int} (h : (a == b) = true) : (a == c && (b == d && true)) = (c == d && a == c) := by
  have h : a = b := by simpa using h
  subst h
  rw [Bool.and_true, Bool.eq_iff_iff]
  simp only [Bool.and_eq_true, beq_iff_eq]
  omega
theorem not_le' (b a : Int) : decide (b < a) = !decide (a ≤ b) := by by_cases h : a ≤ b <;> simp [h] <;> omega
theorem not_lt' (a b : Int) : decide (b ≤ a) = !decide (a < b) := by by_cases h : a < b <;> simp [h] <;> omega
theorem cut_pure (op : Int) (yes : Bool) (a b c d : Int) : PureFn Try.prog 14 [.int .u8 op, .bool yes, sp a b, sp c d] (cutV op yes a b c d) := by
  refine pure_of_ev prog_ok k7_ok rfl rfl ((cut_tree op a b c d yes).trans ?_)
  unfold cutV cutALo cutAHi cutBLo cutBHi cutI cutE
  cases ho : inC op
  · rfl
  cases h1 : decide (b < a)
  rotate_left
  · rfl
  cases h2 : decide (d < c)
  rotate_left
  · rfl
  rcases cc_in ho yes with h | h | h | h | h | h <;> rw [h]
  · unfold ctIs; cases h3 : decide ((if c > a then c else a) ≤ if d < b then d else b) <;> rfl
  · unfold ctIs
    cases h3 : (a == b)
    · rfl
    · rw [one_eq h3]
      cases (c == d && a == c) <;> rfl
  · unfold ctIs; cases h3 : decide (a < d) <;> rfl
  · unfold ctIs; cases h3 : decide (a ≤ d) <;> rfl
  · unfold ctIs; cases h3 : decide (c < b) <;> rfl
  · unfold ctIs; cases h3 : decide (c ≤ b) <;> rfl
theorem refCut_pure (op : Int) (yes : Bool) (a b c d : Int) : PureFn Try.prog 15 [.int .u8 op, .bool yes, sp a b, sp c d] (cutV op yes a b c d) := by
  refine pure_of_ev prog_ok k7_ok rfl rfl ((refCut_tree op a b c d yes).trans ?_)
  unfold cutV cutALo cutAHi cutBLo cutBHi cutI cutE
  cases ho : inC op
  · by_cases h1 : 23 ≤ op
    · have h2 : ¬ op ≤ 32 := by simp only [inC, Bool.and_eq_false_iff, decide_eq_false_iff_not] at ho; omega
      rw [show decide (op ≥ 23) = true from decide_eq_true h1, decide_eq_false h2]; rfl
    · rw [show decide (op ≥ 23) = false from decide_eq_false h1]; rfl
  have ho' := ho
  simp only [inC, Bool.and_eq_true, decide_eq_true_eq] at ho'
  rw [show decide (op ≥ 23) = true from decide_eq_true ho'.1, decide_eq_true ho'.2]
  cases h1 : decide (b < a)
  rotate_left
  · rfl
  cases h2 : decide (d < c)
  rotate_left
  · rfl
  rcases cc_in ho yes with h | h | h | h | h | h <;> rw [h]
  · unfold ctIs; cases h3 : decide ((if c > a then c else a) ≤ if d < b then d else b) <;> rfl
  · unfold ctIs
    cases h3 : (a == b) <;> cases (c == d) <;> cases (a == c) <;> rfl
  · unfold ctIs; rw [show decide (a ≥ d) = !decide (a < d) from not_lt' a d]; cases h3 : decide (a < d) <;> rfl
  · unfold ctIs; rw [show decide (a > d) = !decide (a ≤ d) from not_le' d a]; cases h3 : decide (a ≤ d) <;> rfl
  · unfold ctIs; rw [show decide (c ≥ b) = !decide (c < b) from not_lt' c b]; cases h3 : decide (c < b) <;> rfl
  · unfold ctIs; rw [show decide (c > b) = !decide (c ≤ b) from not_le' b c]; cases h3 : decide (c ≤ b) <;> rfl
/-- An operation, a truth and two spans. -/
def hcut {R : Type} (v : Int → Bool → Int → Int → Int → Int → Value) (args : List Value) (st : AS) : Option ((Value → AS → Option R) → Option R) :=
  match args with
  | [.int .u8 op, .bool yes, .agg ⟨[.int .u64 a, .int .u64 b]⟩, .agg ⟨[.int .u64 c, .int .u64 d]⟩] => some (fun k => k (v op yes a b c d) st)
  | _ => none
theorem hcut_ok {P : Program} {R : Type} {g : FuncId} {v : Int → Bool → Int → Int → Int → Int → Value} (hv : ∀ op y a b c d, plain (v op y a b c d) = true) (hp : ∀ op y a b c d, PureFn P g [.int .u8 op, .bool y, sp a b, sp c d] (v op y a b c d)) {args : List Value} {st : AS} {F : (Value → AS → Option R) → Option R} (h : hcut v args st = some F) (k : Value → AS → Option R) (r : R) (hk : F k = some r) :
    ∃ v st', k v st' = some r ∧ SoundFn P g args st v st' := by
  unfold hcut at h
  split at h
  · simp only [Option.some.injEq] at h; subst h
    exact (hp _ _ _ _ _ _).k rfl (hv _ _ _ _ _ _) hk
  · cases h
def K8 : KT := fun R g args st =>
  bif Nat.beq g 14 then hcut cutV args st
  else bif Nat.beq g 15 then hcut cutV args st
  else K6 R g args st
theorem k8_ok : KOk Try.prog K8 := by
  intro R g vs st F h k r hk
  unfold K8 at h
  rcases ifK h with ⟨rfl, h⟩ | h
  · exact hcut_ok (v := cutV) (fun _ _ _ _ _ _ => rfl) cut_pure h k r hk
  rcases ifK h with ⟨rfl, h⟩ | h
  · exact hcut_ok (v := cutV) (fun _ _ _ _ _ _ => rfl) refCut_pure h k r hk
  exact k6_ok R g vs st F h k r hk
end Go.Ev
