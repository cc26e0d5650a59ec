/- What the chapter's logical operations make of spans. -/
import Derived.Test.YtopgjinjjpplcaaSpanE
namespace Go.Ev
open Go.Proofs
def orU (a c : Int) : Int := Int.ofNat (BitVec.toNat (BitVec.ofInt (IntKind.bits IntKind.u64) a ||| BitVec.ofInt (IntKind.bits IntKind.u64) c) % Int.natAbs (2 ^ IntKind.bits IntKind.u64))
def xorU (a c : Int) : Int := Int.ofNat (BitVec.toNat (BitVec.ofInt (IntKind.bits IntKind.u64) a ^^^ BitVec.ofInt (IntKind.bits IntKind.u64) c) % Int.natAbs (2 ^ IntKind.bits IntKind.u64))
def andU (a c : Int) : Int := Int.ofNat (BitVec.toNat (BitVec.ofInt (IntKind.bits IntKind.u64) a &&& BitVec.ofInt (IntKind.bits IntKind.u64) c) % Int.natAbs (2 ^ IntKind.bits IntKind.u64))
def mxI (a c : Int) : Int := if c > a then c else a
def mnI (a c : Int) : Int := if c < a then c else a
def lgLo (op a b c d : Int) : Int := bif (a == b) && (c == d) then (bif op == 10 then orU a c else bif op == 11 then xorU a c else andU a c) else bif op == 10 then mxI a c else 0
def lgHi (op a b c d : Int) : Int := bif (a == b) && (c == d) then (bif op == 10 then orU a c else bif op == 11 then xorU a c else andU a c) else bif op == 10 || op == 11 then wideN (mxI b d) else mnI b d
theorem logic_tree (op a b c d : Int) : evFn Try.prog K4 (regB Try.prog) 60 37 [.int .u8 op, sp a b, sp c d] st0 ret = bif a == b then bif inU (if d > b then d else b) then bif c == d then bif op == 10 then some (Value.agg (Array.mk [Value.int IntKind.u64 (orU a c), Value.int IntKind.u64 (orU a c)])) else bif c == d then bif op == 11 then some (Value.agg (Array.mk [Value.int IntKind.u64 (xorU a c), Value.int IntKind.u64 (xorU a c)])) else bif c == d then some (Value.agg (Array.mk [Value.int IntKind.u64 (andU a c), Value.int IntKind.u64 (andU a c)])) else bif op == 10 then some (Value.agg (Array.mk [Value.int IntKind.u64 (if c > a then c else a), Value.int IntKind.u64 (wideN (if d > b then d else b))])) else bif op == 11 then some (Value.agg (Array.mk [Value.int IntKind.u64 0, Value.int IntKind.u64 (wideN (if d > b then d else b))])) else some (Value.agg (Array.mk [Value.int IntKind.u64 0, Value.int IntKind.u64 (if d < b then d else b)])) else bif c == d then some (Value.agg (Array.mk [Value.int IntKind.u64 (andU a c), Value.int IntKind.u64 (andU a c)])) else bif op == 10 then some (Value.agg (Array.mk [Value.int IntKind.u64 (if c > a then c else a), Value.int IntKind.u64 (wideN (if d > b then d else b))])) else bif op == 11 then some (Value.agg (Array.mk [Value.int IntKind.u64 0, Value.int IntKind.u64 (wideN (if d > b then d else b))])) else some (Value.agg (Array.mk [Value.int IntKind.u64 0, Value.int IntKind.u64 (if d < b then d else b)])) else bif c == d then bif op == 11 then some (Value.agg (Array.mk [Value.int IntKind.u64 (xorU a c), Value.int IntKind.u64 (xorU a c)])) else bif c == d then some (Value.agg (Array.mk [Value.int IntKind.u64 (andU a c), Value.int IntKind.u64 (andU a c)])) else bif op == 10 then some (Value.agg (Array.mk [Value.int IntKind.u64 (if c > a then c else a), Value.int IntKind.u64 (wideN (if d > b then d else b))])) else bif op == 11 then some (Value.agg (Array.mk [Value.int IntKind.u64 0, Value.int IntKind.u64 (wideN (if d > b then d else b))])) else some (Value.agg (Array.mk [Value.int IntKind.u64 0, Value.int IntKind.u64 (if d < b then d else b)])) else bif c == d then some (Value.agg (Array.mk [Value.int IntKind.u64 (andU a c), Value.int IntKind.u64 (andU a c)])) else bif op == 10 then some (Value.agg (Array.mk [Value.int IntKind.u64 (if c > a then c else a), Value.int IntKind.u64 (wideN (if d > b then d else b))])) else bif op == 11 then some (Value.agg (Array.mk [Value.int IntKind.u64 0, Value.int IntKind.u64 (wideN (if d > b then d else b))])) else some (Value.agg (Array.mk [Value.int IntKind.u64 0, Value.int IntKind.u64 (if d < b then d else b)])) else none else bif inU (if d > b then d else b) then bif op == 10 then some (Value.agg (Array.mk [Value.int IntKind.u64 (if c > a then c else a), Value.int IntKind.u64 (wideN (if d > b then d else b))])) else bif op == 11 then some (Value.agg (Array.mk [Value.int IntKind.u64 0, Value.int IntKind.u64 (wideN (if d > b then d else b))])) else some (Value.agg (Array.mk [Value.int IntKind.u64 0, Value.int IntKind.u64 (if d < b then d else b)])) else none  := by kernel_rfl
theorem mx_in {b d : Int} (h1 : inU b = true) (h2 : inU d = true) : inU (if d > b then d else b) = true := by split <;> assumption
theorem okS_in {a b : Int} (h : okS a b = true) : inU a = true ∧ inU b = true := by
  simp only [okS, Bool.and_eq_true] at h; exact h.1
theorem logic_pure {op a b c d : Int} (ho : 8 ≤ op ∧ op ≤ 11) (h1 : okS a b = true) (h2 : okS c d = true) : PureFn Try.prog 37 [.int .u8 op, sp a b, sp c d] (sp (lgLo op a b c d) (lgHi op a b c d)) := by
  refine pure_of_ev prog_ok k4_ok rfl rfl ((logic_tree op a b c d).trans ?_)
  rw [mx_in (okS_in h1).2 (okS_in h2).2]
  have : op = 8 ∨ op = 9 ∨ op = 10 ∨ op = 11 := by omega
  unfold lgLo lgHi
  rcases this with rfl | rfl | rfl | rfl <;> cases (a == b) <;> cases (c == d) <;> rfl
theorem bits_tree (op a b c d : Int) : evFn Try.prog K4 (regB Try.prog) 60 43 [.int .u8 op, sp a b, sp c d] st0 ret = bif a == b then bif op == 8 then bif c == d then some (Value.agg (Array.mk [Value.int IntKind.u64 (andU a c), Value.int IntKind.u64 (andU a c)])) else some (Value.agg (Array.mk [Value.int IntKind.u64 0, Value.int IntKind.u64 (if d < b then d else b)])) else bif op == 9 then bif c == d then some (Value.agg (Array.mk [Value.int IntKind.u64 (andU a c), Value.int IntKind.u64 (andU a c)])) else some (Value.agg (Array.mk [Value.int IntKind.u64 0, Value.int IntKind.u64 (if d < b then d else b)])) else bif op == 10 then bif c == d then some (Value.agg (Array.mk [Value.int IntKind.u64 (orU a c), Value.int IntKind.u64 (orU a c)])) else bif inU (if d > b then d else b) then some (Value.agg (Array.mk [Value.int IntKind.u64 (if c > a then c else a), Value.int IntKind.u64 (wideN (if d > b then d else b))])) else none else bif c == d then some (Value.agg (Array.mk [Value.int IntKind.u64 (xorU a c), Value.int IntKind.u64 (xorU a c)])) else bif inU (if d > b then d else b) then some (Value.agg (Array.mk [Value.int IntKind.u64 0, Value.int IntKind.u64 (wideN (if d > b then d else b))])) else none else bif op == 8 then some (Value.agg (Array.mk [Value.int IntKind.u64 0, Value.int IntKind.u64 (if d < b then d else b)])) else bif op == 9 then some (Value.agg (Array.mk [Value.int IntKind.u64 0, Value.int IntKind.u64 (if d < b then d else b)])) else bif op == 10 then bif inU (if d > b then d else b) then some (Value.agg (Array.mk [Value.int IntKind.u64 (if c > a then c else a), Value.int IntKind.u64 (wideN (if d > b then d else b))])) else none else bif inU (if d > b then d else b) then some (Value.agg (Array.mk [Value.int IntKind.u64 0, Value.int IntKind.u64 (wideN (if d > b then d else b))])) else none  := by kernel_rfl
theorem bits_pure {op a b c d : Int} (ho : 8 ≤ op ∧ op ≤ 11) (h1 : okS a b = true) (h2 : okS c d = true) : PureFn Try.prog 43 [.int .u8 op, sp a b, sp c d] (sp (lgLo op a b c d) (lgHi op a b c d)) := by
  refine pure_of_ev prog_ok k4_ok rfl rfl ((bits_tree op a b c d).trans ?_)
  rw [mx_in (okS_in h1).2 (okS_in h2).2]
  have : op = 8 ∨ op = 9 ∨ op = 10 ∨ op = 11 := by omega
  unfold lgLo lgHi
  rcases this with rfl | rfl | rfl | rfl <;> cases (a == b) <;> cases (c == d) <;> rfl

/-- Two spans; an operation and two spans. -/
def h2 {R : Type} (ok : Int → Int → Int → Int → Bool) (v : Int → Int → Int → Int → Value) (args : List Value) (st : AS) : Option ((Value → AS → Option R) → Option R) :=
  match args with
  | [.agg ⟨[.int .u64 a, .int .u64 b]⟩, .agg ⟨[.int .u64 c, .int .u64 d]⟩] => some (fun k => bif ok a b c d then k (v a b c d) st else none)
  | _ => none
def h3 {R : Type} (ok : Int → Int → Int → Int → Int → Bool) (v : Int → Int → Int → Int → Int → Value) (args : List Value) (st : AS) : Option ((Value → AS → Option R) → Option R) :=
  match args with
  | [.int .u8 op, .agg ⟨[.int .u64 a, .int .u64 b]⟩, .agg ⟨[.int .u64 c, .int .u64 d]⟩] => some (fun k => bif ok op a b c d then k (v op a b c d) st else none)
  | _ => none
theorem h2_ok {P : Program} {R : Type} {g : FuncId} {ok : Int → Int → Int → Int → Bool} {v : Int → Int → Int → Int → Value} (hv : ∀ a b c d, plain (v a b c d) = true) (hp : ∀ a b c d, ok a b c d = true → PureFn P g [sp a b, sp c d] (v a b c d)) {args : List Value} {st : AS} {F : (Value → AS → Option R) → Option R} (h : h2 ok v args st = some F) (k : Value → AS → Option R) (r : R) (hk : F k = some r) :
    ∃ v st', k v st' = some r ∧ SoundFn P g args st v st' := by
  unfold h2 at h
  split at h
  · simp only [Option.some.injEq] at h; subst h
    obtain ⟨hb, hk⟩ := cond_some hk
    exact (hp _ _ _ _ hb).k rfl (hv _ _ _ _) hk
  · cases h
theorem h3_ok {P : Program} {R : Type} {g : FuncId} {ok : Int → Int → Int → Int → Int → Bool} {v : Int → Int → Int → Int → Int → Value} (hv : ∀ op a b c d, plain (v op a b c d) = true) (hp : ∀ op a b c d, ok op a b c d = true → PureFn P g [.int .u8 op, sp a b, sp c d] (v op a b c d)) {args : List Value} {st : AS} {F : (Value → AS → Option R) → Option R} (h : h3 ok v args st = some F) (k : Value → AS → Option R) (r : R) (hk : F k = some r) :
    ∃ v st', k v st' = some r ∧ SoundFn P g args st v st' := by
  unfold h3 at h
  split at h
  · simp only [Option.some.injEq] at h; subst h
    obtain ⟨hb, hk⟩ := cond_some hk
    exact (hp _ _ _ _ _ hb).k rfl (hv _ _ _ _ _) hk
  · cases h
def okSS (a b c d : Int) : Bool := okS a b && okS c d
def okLg (op a b c d : Int) : Bool := (decide (8 ≤ op) && decide (op ≤ 11)) && (okS a b && okS c d)
def sumV (a b c d : Int) : Value := sp (sumLo a b c d) (sumHi a b c d)
def lessV (a b c d : Int) : Value := sp (lessLo a b c d) (lessHi a b c d)
def mulV (a b c d : Int) : Value := sp (mulLo a b c d) (mulHiS a b c d)
def lgV (op a b c d : Int) : Value := sp (lgLo op a b c d) (lgHi op a b c d)
def h51 {R : Type} (args : List Value) (st : AS) : Option ((Value → AS → Option R) → Option R) :=
  match args with
  | [.int .u64 x, .int .u64 y] => some (fun k => bif inU x && inU y then k (.tuple #[.int .u64 (x * y / 18446744073709551616), .int .u64 (x * y % 18446744073709551616)]) st else none)
  | _ => none
def h55 {R : Type} (args : List Value) (st : AS) : Option ((Value → AS → Option R) → Option R) :=
  match args with
  | [.int .u64 x] => some (fun k => bif decide (0 ≤ x) && decide (x ≤ 63) then k (.int .u64 (pow2 x)) st else none)
  | _ => none
def K5 : KT := fun _ g args st =>
  bif Nat.beq g 33 then h2 okSS sumV args st
  else bif Nat.beq g 34 then h2 okSS lessV args st
  else bif Nat.beq g 35 then h2 okSS mulV args st
  else bif Nat.beq g 37 then h3 okLg lgV args st
  else bif Nat.beq g 39 then h2 okSS sumV args st
  else bif Nat.beq g 40 then h2 okSS lessV args st
  else bif Nat.beq g 41 then h2 okSS mulV args st
  else bif Nat.beq g 43 then h3 okLg lgV args st
  else bif Nat.beq g 55 then h55 args st
  else none
theorem ifK {α : Type} {g n : Nat} {x y : Option α} {F : α} (h : (bif Nat.beq g n then x else y) = some F) : (g = n ∧ x = some F) ∨ y = some F := by
  cases e : Nat.beq g n
  · rw [e] at h; exact .inr h
  · rw [e] at h; exact .inl ⟨Nat.eq_of_beq_eq_true e, h⟩
theorem k5_ok : KOk Try.prog K5 := by
  intro R g vs st F h k r hk
  unfold K5 at h
  rcases ifK h with ⟨rfl, h⟩ | h
  · exact h2_ok (ok := okSS) (v := sumV) (fun _ _ _ _ => rfl) (fun a b c d h => by simp only [okSS, Bool.and_eq_true] at h; exact sum_pure h.1 h.2) h k r hk
  rcases ifK h with ⟨rfl, h⟩ | h
  · exact h2_ok (ok := okSS) (v := lessV) (fun _ _ _ _ => rfl) (fun a b c d h => by simp only [okSS, Bool.and_eq_true] at h; exact less_pure h.1 h.2) h k r hk
  rcases ifK h with ⟨rfl, h⟩ | h
  · exact h2_ok (ok := okSS) (v := mulV) (fun _ _ _ _ => rfl) (fun a b c d h => by simp only [okSS, Bool.and_eq_true] at h; exact product_pure h.1 h.2) h k r hk
  rcases ifK h with ⟨rfl, h⟩ | h
  · exact h3_ok (ok := okLg) (v := lgV) (fun _ _ _ _ _ => rfl) (fun op a b c d h => by simp only [okLg, Bool.and_eq_true, decide_eq_true_eq] at h; exact logic_pure h.1 h.2.1 h.2.2) h k r hk
  rcases ifK h with ⟨rfl, h⟩ | h
  · exact h2_ok (ok := okSS) (v := sumV) (fun _ _ _ _ => rfl) (fun a b c d h => by simp only [okSS, Bool.and_eq_true] at h; exact add_pure h.1 h.2) h k r hk
  rcases ifK h with ⟨rfl, h⟩ | h
  · exact h2_ok (ok := okSS) (v := lessV) (fun _ _ _ _ => rfl) (fun a b c d _ => sub_pure) h k r hk
  rcases ifK h with ⟨rfl, h⟩ | h
  · exact h2_ok (ok := okSS) (v := mulV) (fun _ _ _ _ => rfl) (fun a b c d h => by simp only [okSS, Bool.and_eq_true] at h; exact refMul_pure h.2) h k r hk
  rcases ifK h with ⟨rfl, h⟩ | h
  · exact h3_ok (ok := okLg) (v := lgV) (fun _ _ _ _ _ => rfl) (fun op a b c d h => by simp only [okLg, Bool.and_eq_true, decide_eq_true_eq] at h; exact bits_pure h.1 h.2.1 h.2.2) h k r hk
  rcases ifK h with ⟨rfl, h⟩ | h
  · unfold h55 at h
    split at h
    · cases h
      obtain ⟨hb, hk⟩ := cond_some hk
      simp only [Bool.and_eq_true, decide_eq_true_eq] at hb
      exact (power_pure hb.1 hb.2).k rfl rfl hk
    · cases h
  cases h
end Go.Ev
