/- A second evaluator for the model's code: what is asked of the program, as closed checks. -/
import Derived.Test.YtojoepocppnccaaGreatSvK
namespace Go.Sv
noncomputable section
open Go.RowKit
variable {P : Program}

def plainEq : Value → Value → Bool
  | .bool a, .bool b => bif a then b else !b
  | .int k n, .int k' n' => decide (k = k') && decide (n = n')
  | .string a, .string b => decide (a.data.toList = b.data.toList)
  | .pointer none, .pointer none => true
  | .slice none a b, .slice none c d => Nat.beq a c && Nat.beq b d
  | .map none, .map none => true
  | .nilFunc, .nilFunc => true
  | .nilIface, .nilIface => true
  | _, _ => false
theorem plainEq_ok : ∀ {a b : Value}, plainEq a b = true → a = b := by
  intro a b h
  unfold plainEq at h
  split at h
  · rename_i x y
    cases x <;> cases y <;> first | rfl | cases h
  · simp only [Bool.and_eq_true, decide_eq_true_eq] at h
    rw [h.1, h.2]
  · rename_i x y
    have := of_decide_eq_true h
    cases x; cases y
    rename_i x y
    cases x; cases y
    dsimp only at this
    subst this; rfl
  · rfl
  · simp only [Bool.and_eq_true] at h
    rw [Nat.eq_of_beq_eq_true h.1, Nat.eq_of_beq_eq_true h.2]
  · rfl
  · rfl
  · rfl
  · cases h
def plainEqs : List Value → List Value → Bool
  | [], [] => true
  | x :: xs, y :: ys => plainEq x y && plainEqs xs ys
  | _, _ => false
theorem plainEqs_ok : ∀ {a b : List Value}, plainEqs a b = true → a = b
  | [], [], _ => rfl
  | x :: xs, y :: ys, h => by
    simp only [plainEqs, Bool.and_eq_true] at h
    rw [plainEq_ok h.1, plainEqs_ok h.2]
  | [], _ :: _, h => by cases h
  | _ :: _, [], h => by cases h
def zeroOk1 (P : Program) (t : Nat) : Bool :=
  match zeroV P 8 t with
  | none => true
  | some zs => match qrun P (zeroValue t) with
    | none => true
    | some z => plainEqs z.cells.toList zs
def upTo : Nat → (Nat → Bool) → Bool
  | 0, _ => true
  | n + 1, f => f n && upTo n f
theorem upTo_ok {f : Nat → Bool} : ∀ {n : Nat}, upTo n f = true → ∀ t, t < n → f t = true
  | 0, _, t, h => by omega
  | n + 1, h, t, ht => by
    simp only [upTo, Bool.and_eq_true] at h
    by_cases e : t = n
    · subst e; exact h.1
    · exact upTo_ok h.2 t (by omega)
def funcOk (fn : Func) : Bool :=
  match fn.body with
  | some b => codeOk fn.ntmps b && (regions b).all fun p => okFrom p.2 fn.ntmps 0 [] p.2.toList
  | none => true
theorem progOk (h0 : upTo P.types.size (zeroOk1 P) = true) (h1 : flatT.all (fun t => !(P.stoodInHeld t) && !(P.eqGuardType P.depth t)) = true) (h2 : P.funcs.toList.all funcOk = true) (h3 : P.funcs.toList.all (fun fn => !(fn.name == "runtime.NumGoroutine")) = true) (h4 : P.follows .mixedOrders = true) : ProgOk P ∧ RegsOk P := by
  have hf : ∀ (g : Nat) (fn : Func), P.funcs[g]? = some fn → funcOk fn = true := fun g fn hg => List.all_eq_true.1 h2 fn (List.mem_of_getElem? (i := g) (by simpa using hg))
  refine ⟨⟨fun t zs z hlt hz hq => ?_, fun t ht => ?_, fun g fn hg => ?_, fun g fn body hg hb => ?_, h4⟩, fun g id ops hm => ?_⟩
  · have := upTo_ok h0 t hlt
    unfold zeroOk1 at this
    rw [hz, hq] at this
    exact plainEqs_ok this
  · have : t ∈ flatT := by
      revert ht
      generalize flatT = l
      intro ht
      induction l with
      | nil => cases ht
      | cons x xs ih =>
        simp only [memN] at ht
        cases e : Nat.beq x t
        · rw [e, cond_false] at ht; exact List.mem_cons_of_mem _ (ih ht)
        · have := Nat.eq_of_beq_eq_true e; subst this; exact List.mem_cons_self ..
    have := List.all_eq_true.1 h1 t this
    simpa using this
  · have := List.all_eq_true.1 h3 fn (List.mem_of_getElem? (i := g) (by simpa using hg))
    simpa using this
  · have := hf g fn hg
    unfold funcOk at this
    rw [hb] at this
    simp only [Bool.and_eq_true] at this
    exact this.1
  · cases hg : P.funcs[g]? with
    | none => unfold bodyOf at hm; rw [hg] at hm; simp [regions] at hm
    | some fn =>
      have := hf g fn hg
      unfold funcOk at this
      unfold bodyOf at hm
      rw [hg] at hm
      unfold szOf
      rw [hg]
      dsimp only at hm ⊢
      cases hb : fn.body with
      | none => rw [hb] at hm; simp [regions] at hm
      | some b =>
        rw [hb] at this hm
        simp only [Bool.and_eq_true, List.all_eq_true] at this
        exact this.2 _ (by simpa using hm)
end
end Go.Sv
