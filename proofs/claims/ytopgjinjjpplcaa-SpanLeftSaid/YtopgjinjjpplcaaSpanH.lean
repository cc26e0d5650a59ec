/- Contracts of Do, the program's and the chapter's. -/
import Derived.Test.YtopgjinjjpplcaaSpanG
namespace Go.Ev
open Go.Proofs
def okDo (_ a b c d : Int) : Bool := inU a && inU b && inU c && inU d
def K6 : KT := fun _ g args st =>
  bif Nat.beq g 11 then h3 okDo doV args st
  else bif Nat.beq g 12 then h3 okDo doV args st
  else bif Nat.beq g 13 then (match args with
    | [] => some fun k => k (.bool true) st
    | _ => none)
  else none
theorem k6_ok : KOk Try.prog K6 := by
  intro R g vs st F h k r hk
  unfold K6 at h
  rcases ifK h with ⟨rfl, h⟩ | h
  · exact h3_ok (ok := okDo) (v := doV) (fun _ _ _ _ _ => rfl) (fun op a b c d h => do_pure h) h k r hk
  rcases ifK h with ⟨rfl, h⟩ | h
  · exact h3_ok (ok := okDo) (v := doV) (fun _ _ _ _ _ => rfl) (fun op a b c d h => refDo_pure h) h k r hk
  rcases ifK h with ⟨rfl, h⟩ | h
  · split at h
    · cases h
      exact works_pure.k rfl rfl hk
    · cases h
  cases h
def atI (op : Int) : Nat → Int
  | 0 => op
  | i + 1 => ((i + 1 : Nat) : Int)
end Go.Ev
