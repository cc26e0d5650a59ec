/- A second evaluator for the model's code: a whole call, out of its evaluation. -/
import Derived.Test.YtojoepocppnccaaGreatSvP
namespace Go.Sv
noncomputable section
open Go.RowKit
variable {P : Program}

/-- What a call returns, in every world; all blocks that lay there stay as they were. -/
def CallsV (P : Program) (g : FuncId) (us : List Value) (v : Value) (w : World) : Prop := Calls P g us.toArray w fun e w' => e = .returned v ∧ Below w.heap.size w w'

/-- A world's blocks of cells, all of them such as stay. -/
def kapOf (w : World) (gh : Nat → Value) : Kap := ⟨fun _ => none, fun b => match w.heap[b]? with
  | some (.cells cs _ _) => some cs.toList
  | _ => none, gh, fun _ => none⟩
theorem kapOf_st {w : World} {gh : Nat → Value} {b : Nat} {cs : Array Value} {e : TypeId} {fr : Nat × Nat} (h : w.heap[b]? = some (.cells cs e fr)) : (kapOf w gh).st b = some cs.toList := by
  simp only [kapOf, h]
theorem kapOf_rel (w : World) (gh : Nat → Value) : Rel (kapOf w gh) ⟨0, []⟩ w := by
  refine ⟨fun _ _ => rfl, fun b s hs => by simp [kapOf] at hs, fun b cs hs => ?_, fun n r h => by simp [find] at h, fun n n' r r' b h => by simp [find] at h⟩
  simp only [kapOf] at hs
  split at hs
  · rename_i cs' e fr hx
    cases hs
    exact ⟨[], e, fr, by rw [hx]; simp⟩
  · cases hs

def ret : AV → AS → Option AV := fun v _ => some v

theorem calls_of_ev (hP : ProgOk P) (hr : RegsOk P) {K : KT} (hK : KOk P K) {L : LT} (hL : LOk P L) {fuel : Nat} {g : FuncId} {vs : List AV} {us : List Value} {b : Bool} {w : World} {gh : Nat → Value}
    (ha : vs.all (fun x => !isArr x) = true) (hv : CRel (kapOf w gh) vs us) (h : evFn P K L (regB P) fuel g vs ⟨0, []⟩ ret = some (.bool b)) : CallsV P g us (.bool b) w := by
  obtain ⟨v, st', hk, _, hs⟩ := evFn_ok hP hK hL (regB_ok hP hr) ha h
  simp only [ret, Option.some.injEq] at hk
  subst hk
  refine (hs _ us w hv (kapOf_rel w gh)).mono fun e w' he => ?_
  obtain ⟨κ', v', _, rfl, hv', _, hf⟩ := he
  cases hv'
  exact ⟨rfl, hf.below fun b ho => by
    obtain ⟨n, r, h1, _⟩ := ho
    simp [find] at h1⟩
end
end Go.Sv
