/-
  No cell of these rows narrows 'for every input' (looked for: loops, veiled, ifaces, maps, wideKeys, modest, calm, conditions, laid).
  DERIVED. THE GIVEN ROWS OF THIS SEAT. 8 by the template 'for every input the law returns true; each argument reads behind the call as it read before'; 0 by the template 'total and deterministic' (their statements: YtopgjinjjpplcaaTotals.lean).
  GIVEN WITH THE SEED: the statements are not yours to turn. If you find one false, say at which input.
  Laid BY PROGRAM, IN A SANDBOX (cutbox-rows.mjs): the forced cells as the released guide's own fill.sh prints them over the translation c79e301dd8023085… (all of the seat's roots in one cut). By AI agents, Wed Nov 11 2026. No macro, syntax, notation, axiom, sorry.
-/
import Derived.Test.YtopgjinjjpplcaaChecked
import GoSem.Claim
import GoSem.ClaimJoined
import GoSem.ClaimMapViews
import Derived.JoinedTies
import Derived.KernelRfl
namespace Go.Proofs.Ytopgjinjjpplcaa
/- THE CELL 'sum', in the pinned program and in every row, IS THE sha256 OF THE DUMP (.gsa) THAT YtopgjinjjpplcaaProg.lean LOADS. Nothing in Lean hashes anything: it is a label: what it is worth is what the hold of that sum in a sandbox is worth. -/
noncomputable def Try.pinned : Pinned := { name := "ytopgjinjjpplcaa", sum := "c79e301dd8023085d625c13b9d0afef27b4b2ab5accd7a7fd91c3a8476e47f23", checked := Try.checked }
namespace Rows
def none {H : Type} : Left H := { results := [], args := [] }

/-- 'sallyportlaw15.SpanDoes': WHATEVER THE INPUT: true; the input reads as it did. -/
def spanDoesSpec : ChangeSpec := { name := "spanDoes", fn := fun _ => fun
  | [d1, d2, d3] => { results := [.lit (.bool true)], args := [d1, d2, d3] }
  | _ => none }
def spanDoesRow : OpenClaim := { program := "ytopgjinjjpplcaa", sum := "c79e301dd8023085d625c13b9d0afef27b4b2ab5accd7a7fd91c3a8476e47f23", func := "sallyport/sallyportlaw15.SpanDoes", spec := "spanDoes", inPlace := ["math/bits.Add64", "math/bits.Sub64"], apart := false }
def SpanDoesSaid : Prop := spanDoesRow.holds Try.pinned (OpenSpec.ofChange spanDoesSpec)

/-- ITS FALSE NEIGHBOUR: 'it returns false'. Refute it at one input. -/
def spanDoesWrong : ChangeSpec := { name := "spanDoes", fn := fun _ => fun
  | [d1, d2, d3] => { results := [.lit (.bool false)], args := [d1, d2, d3] }
  | _ => none }
def SpanDoesWrongFalsely : Prop := spanDoesRow.holds Try.pinned (OpenSpec.ofChange spanDoesWrong)

/-- 'sallyportlaw15.SpanCuts': WHATEVER THE INPUT: true; the input reads as it did. -/
def spanCutsSpec : ChangeSpec := { name := "spanCuts", fn := fun _ => fun
  | [d1, d2, d3] => { results := [.lit (.bool true)], args := [d1, d2, d3] }
  | _ => none }
def spanCutsRow : OpenClaim := { program := "ytopgjinjjpplcaa", sum := "c79e301dd8023085d625c13b9d0afef27b4b2ab5accd7a7fd91c3a8476e47f23", func := "sallyport/sallyportlaw15.SpanCuts", spec := "spanCuts", inPlace := ["math/bits.Add64", "math/bits.Sub64"], recurses := true, apart := false }
def SpanCutsSaid : Prop := spanCutsRow.holds Try.pinned (OpenSpec.ofChange spanCutsSpec)

/-- ITS FALSE NEIGHBOUR: 'it returns false'. Refute it at one input. -/
def spanCutsWrong : ChangeSpec := { name := "spanCuts", fn := fun _ => fun
  | [d1, d2, d3] => { results := [.lit (.bool false)], args := [d1, d2, d3] }
  | _ => none }
def SpanCutsWrongFalsely : Prop := spanCutsRow.holds Try.pinned (OpenSpec.ofChange spanCutsWrong)

/-- 'sallyportlaw15.SpanCompares': WHATEVER THE INPUT: true; the input reads as it did. -/
def spanComparesSpec : ChangeSpec := { name := "spanCompares", fn := fun _ => fun
  | [d1, d2, d3] => { results := [.lit (.bool true)], args := [d1, d2, d3] }
  | _ => none }
def spanComparesRow : OpenClaim := { program := "ytopgjinjjpplcaa", sum := "c79e301dd8023085d625c13b9d0afef27b4b2ab5accd7a7fd91c3a8476e47f23", func := "sallyport/sallyportlaw15.SpanCompares", spec := "spanCompares", inPlace := ["math/bits.Add64", "math/bits.Sub64"], apart := false }
def SpanComparesSaid : Prop := spanComparesRow.holds Try.pinned (OpenSpec.ofChange spanComparesSpec)

/-- ITS FALSE NEIGHBOUR: 'it returns false'. Refute it at one input. -/
def spanComparesWrong : ChangeSpec := { name := "spanCompares", fn := fun _ => fun
  | [d1, d2, d3] => { results := [.lit (.bool false)], args := [d1, d2, d3] }
  | _ => none }
def SpanComparesWrongFalsely : Prop := spanComparesRow.holds Try.pinned (OpenSpec.ofChange spanComparesWrong)

/-- 'sallyportlaw15.SpanSound': WHATEVER THE INPUT: true; the input reads as it did. -/
def spanSoundSpec : ChangeSpec := { name := "spanSound", fn := fun _ => fun
  | [d] => { results := [.lit (.bool true)], args := [d] }
  | _ => none }
def spanSoundRow : OpenClaim := { program := "ytopgjinjjpplcaa", sum := "c79e301dd8023085d625c13b9d0afef27b4b2ab5accd7a7fd91c3a8476e47f23", func := "sallyport/sallyportlaw15.SpanSound", spec := "spanSound", inPlace := ["math/bits.Add64", "math/bits.Sub64"], apart := false }
def SpanSoundSaid : Prop := spanSoundRow.holds Try.pinned (OpenSpec.ofChange spanSoundSpec)

/-- ITS FALSE NEIGHBOUR: 'it returns false'. Refute it at one input. -/
def spanSoundWrong : ChangeSpec := { name := "spanSound", fn := fun _ => fun
  | [d] => { results := [.lit (.bool false)], args := [d] }
  | _ => none }
def SpanSoundWrongFalsely : Prop := spanSoundRow.holds Try.pinned (OpenSpec.ofChange spanSoundWrong)

/-- 'sallyportlaw15.SpanKnown': WHATEVER THE INPUT: true; the input reads as it did. -/
def spanKnownSpec : ChangeSpec := { name := "spanKnown", fn := fun _ => fun
  | [] => { results := [.lit (.bool true)], args := [] }
  | _ => none }
def spanKnownRow : OpenClaim := { program := "ytopgjinjjpplcaa", sum := "c79e301dd8023085d625c13b9d0afef27b4b2ab5accd7a7fd91c3a8476e47f23", func := "sallyport/sallyportlaw15.SpanKnown", spec := "spanKnown", inPlace := ["math/bits.Add64", "math/bits.Sub64"], apart := false }
def SpanKnownSaid : Prop := spanKnownRow.holds Try.pinned (OpenSpec.ofChange spanKnownSpec)

/-- ITS FALSE NEIGHBOUR: 'it returns false'. Refute it at one input. -/
def spanKnownWrong : ChangeSpec := { name := "spanKnown", fn := fun _ => fun
  | [] => { results := [.lit (.bool false)], args := [] }
  | _ => none }
def SpanKnownWrongFalsely : Prop := spanKnownRow.holds Try.pinned (OpenSpec.ofChange spanKnownWrong)

/-- 'sallyportlaw15.SpanLeft': WHATEVER THE INPUT: true; the input reads as it did. -/
def spanLeftSpec : ChangeSpec := { name := "spanLeft", fn := fun _ => fun
  | [d] => { results := [.lit (.bool true)], args := [d] }
  | _ => none }
def spanLeftRow : OpenClaim := { program := "ytopgjinjjpplcaa", sum := "c79e301dd8023085d625c13b9d0afef27b4b2ab5accd7a7fd91c3a8476e47f23", func := "sallyport/sallyportlaw15.SpanLeft", spec := "spanLeft", inPlace := ["math/bits.Add64", "math/bits.Sub64"], apart := false }
def SpanLeftSaid : Prop := spanLeftRow.holds Try.pinned (OpenSpec.ofChange spanLeftSpec)

/-- ITS FALSE NEIGHBOUR: 'it returns false'. Refute it at one input. -/
def spanLeftWrong : ChangeSpec := { name := "spanLeft", fn := fun _ => fun
  | [d] => { results := [.lit (.bool false)], args := [d] }
  | _ => none }
def SpanLeftWrongFalsely : Prop := spanLeftRow.holds Try.pinned (OpenSpec.ofChange spanLeftWrong)

/-- 'sallyportlaw15.SpanOver': WHATEVER THE INPUT: true; the input reads as it did. -/
def spanOverSpec : ChangeSpec := { name := "spanOver", fn := fun _ => fun
  | [d1, d2, d3] => { results := [.lit (.bool true)], args := [d1, d2, d3] }
  | _ => none }
def spanOverRow : OpenClaim := { program := "ytopgjinjjpplcaa", sum := "c79e301dd8023085d625c13b9d0afef27b4b2ab5accd7a7fd91c3a8476e47f23", func := "sallyport/sallyportlaw15.SpanOver", spec := "spanOver", inPlace := ["math/bits.Add64", "math/bits.Sub64"], apart := false }
def SpanOverSaid : Prop := spanOverRow.holds Try.pinned (OpenSpec.ofChange spanOverSpec)

/-- ITS FALSE NEIGHBOUR: 'it returns false'. Refute it at one input. -/
def spanOverWrong : ChangeSpec := { name := "spanOver", fn := fun _ => fun
  | [d1, d2, d3] => { results := [.lit (.bool false)], args := [d1, d2, d3] }
  | _ => none }
def SpanOverWrongFalsely : Prop := spanOverRow.holds Try.pinned (OpenSpec.ofChange spanOverWrong)

/-- 'sallyportlaw15.SpanTells': WHATEVER THE INPUT: true; the input reads as it did. -/
def spanTellsSpec : ChangeSpec := { name := "spanTells", fn := fun _ => fun
  | [d1, d2, d3] => { results := [.lit (.bool true)], args := [d1, d2, d3] }
  | _ => none }
def spanTellsRow : OpenClaim := { program := "ytopgjinjjpplcaa", sum := "c79e301dd8023085d625c13b9d0afef27b4b2ab5accd7a7fd91c3a8476e47f23", func := "sallyport/sallyportlaw15.SpanTells", spec := "spanTells", inPlace := ["math/bits.Add64", "math/bits.Sub64"], apart := false }
def SpanTellsSaid : Prop := spanTellsRow.holds Try.pinned (OpenSpec.ofChange spanTellsSpec)

/-- ITS FALSE NEIGHBOUR: 'it returns false'. Refute it at one input. -/
def spanTellsWrong : ChangeSpec := { name := "spanTells", fn := fun _ => fun
  | [d1, d2, d3] => { results := [.lit (.bool false)], args := [d1, d2, d3] }
  | _ => none }
def SpanTellsWrongFalsely : Prop := spanTellsRow.holds Try.pinned (OpenSpec.ofChange spanTellsWrong)

/- THE SECOND FORM. 'bulk': how many values and letters a reading holds, each counted each time it is reached (what is shared counts as often as it is met; a slice's spare places count too). A statement '..UptoSaid' is the law's where the arguments, and the package variables that the reading takes, are together of bulk at most 1048576: NARROWER than '..Said'. Prove '..Said' where nothing that the law and all that it calls make is longer than what came in: it says more and counts as full. Else prove '..UptoSaid'. A law counts once. -/
mutual
def uptoBulk {H : Type} : DataW H → Nat
  | .lit (.string bytes) => bytes.length + 1
  | .lit _ => 1
  | .nil => 1
  | .ptr d => uptoBulk d + 1
  | .slice elems spare => uptoBulkAll elems + uptoBulkAll spare + 1
  | .agg parts => uptoBulkAll parts + 1
  | .iface _ d => uptoBulk d + 1
  | .map entries => uptoBulkEntries entries + 1
  | .held _ => 1
def uptoBulkAll {H : Type} : List (DataW H) → Nat
  | [] => 0
  | d :: r => uptoBulk d + uptoBulkAll r
def uptoBulkEntries {H : Type} : List (Lit × DataW H) → Nat
  | [] => 0
  | x :: r => uptoBulkEntry x + uptoBulkEntries r
def uptoBulkEntry {H : Type} : Lit × DataW H → Nat
  | (.string bytes, d) => bytes.length + uptoBulk d + 1
  | (_, d) => uptoBulk d + 1
 end
def uptoSmall : (H : Type) → List (DataW H) → Bool := fun _ ds => decide (uptoBulkAll ds ≤ 1048576)
def OpenSpec.upto (s : _root_.Go.ChangeSpec) : _root_.Go.OpenSpec := { _root_.Go.OpenSpec.ofChange s with cond := some uptoSmall }

/-- 'sallyportlaw15.SpanDoes', WHERE WHAT IT READS IS OF BULK AT MOST 1048576: true; the input reads as it did. -/
def spanDoesUptoRow : OpenClaim := { program := "ytopgjinjjpplcaa", sum := "c79e301dd8023085d625c13b9d0afef27b4b2ab5accd7a7fd91c3a8476e47f23", func := "sallyport/sallyportlaw15.SpanDoes", spec := "spanDoes", inPlace := ["math/bits.Add64", "math/bits.Sub64"], apart := false, narrowed := true }
def SpanDoesUptoSaid : Prop := spanDoesUptoRow.holds Try.pinned (OpenSpec.upto spanDoesSpec)

/-- 'sallyportlaw15.SpanCuts', WHERE WHAT IT READS IS OF BULK AT MOST 1048576: true; the input reads as it did. -/
def spanCutsUptoRow : OpenClaim := { program := "ytopgjinjjpplcaa", sum := "c79e301dd8023085d625c13b9d0afef27b4b2ab5accd7a7fd91c3a8476e47f23", func := "sallyport/sallyportlaw15.SpanCuts", spec := "spanCuts", inPlace := ["math/bits.Add64", "math/bits.Sub64"], recurses := true, apart := false, narrowed := true }
def SpanCutsUptoSaid : Prop := spanCutsUptoRow.holds Try.pinned (OpenSpec.upto spanCutsSpec)

/-- 'sallyportlaw15.SpanCompares', WHERE WHAT IT READS IS OF BULK AT MOST 1048576: true; the input reads as it did. -/
def spanComparesUptoRow : OpenClaim := { program := "ytopgjinjjpplcaa", sum := "c79e301dd8023085d625c13b9d0afef27b4b2ab5accd7a7fd91c3a8476e47f23", func := "sallyport/sallyportlaw15.SpanCompares", spec := "spanCompares", inPlace := ["math/bits.Add64", "math/bits.Sub64"], apart := false, narrowed := true }
def SpanComparesUptoSaid : Prop := spanComparesUptoRow.holds Try.pinned (OpenSpec.upto spanComparesSpec)

/-- 'sallyportlaw15.SpanSound', WHERE WHAT IT READS IS OF BULK AT MOST 1048576: true; the input reads as it did. -/
def spanSoundUptoRow : OpenClaim := { program := "ytopgjinjjpplcaa", sum := "c79e301dd8023085d625c13b9d0afef27b4b2ab5accd7a7fd91c3a8476e47f23", func := "sallyport/sallyportlaw15.SpanSound", spec := "spanSound", inPlace := ["math/bits.Add64", "math/bits.Sub64"], apart := false, narrowed := true }
def SpanSoundUptoSaid : Prop := spanSoundUptoRow.holds Try.pinned (OpenSpec.upto spanSoundSpec)

/-- 'sallyportlaw15.SpanKnown', WHERE WHAT IT READS IS OF BULK AT MOST 1048576: true; the input reads as it did. -/
def spanKnownUptoRow : OpenClaim := { program := "ytopgjinjjpplcaa", sum := "c79e301dd8023085d625c13b9d0afef27b4b2ab5accd7a7fd91c3a8476e47f23", func := "sallyport/sallyportlaw15.SpanKnown", spec := "spanKnown", inPlace := ["math/bits.Add64", "math/bits.Sub64"], apart := false, narrowed := true }
def SpanKnownUptoSaid : Prop := spanKnownUptoRow.holds Try.pinned (OpenSpec.upto spanKnownSpec)

/-- 'sallyportlaw15.SpanLeft', WHERE WHAT IT READS IS OF BULK AT MOST 1048576: true; the input reads as it did. -/
def spanLeftUptoRow : OpenClaim := { program := "ytopgjinjjpplcaa", sum := "c79e301dd8023085d625c13b9d0afef27b4b2ab5accd7a7fd91c3a8476e47f23", func := "sallyport/sallyportlaw15.SpanLeft", spec := "spanLeft", inPlace := ["math/bits.Add64", "math/bits.Sub64"], apart := false, narrowed := true }
def SpanLeftUptoSaid : Prop := spanLeftUptoRow.holds Try.pinned (OpenSpec.upto spanLeftSpec)

/-- 'sallyportlaw15.SpanOver', WHERE WHAT IT READS IS OF BULK AT MOST 1048576: true; the input reads as it did. -/
def spanOverUptoRow : OpenClaim := { program := "ytopgjinjjpplcaa", sum := "c79e301dd8023085d625c13b9d0afef27b4b2ab5accd7a7fd91c3a8476e47f23", func := "sallyport/sallyportlaw15.SpanOver", spec := "spanOver", inPlace := ["math/bits.Add64", "math/bits.Sub64"], apart := false, narrowed := true }
def SpanOverUptoSaid : Prop := spanOverUptoRow.holds Try.pinned (OpenSpec.upto spanOverSpec)

/-- 'sallyportlaw15.SpanTells', WHERE WHAT IT READS IS OF BULK AT MOST 1048576: true; the input reads as it did. -/
def spanTellsUptoRow : OpenClaim := { program := "ytopgjinjjpplcaa", sum := "c79e301dd8023085d625c13b9d0afef27b4b2ab5accd7a7fd91c3a8476e47f23", func := "sallyport/sallyportlaw15.SpanTells", spec := "spanTells", inPlace := ["math/bits.Add64", "math/bits.Sub64"], apart := false, narrowed := true }
def SpanTellsUptoSaid : Prop := spanTellsUptoRow.holds Try.pinned (OpenSpec.upto spanTellsSpec)

end Rows
end Go.Proofs.Ytopgjinjjpplcaa
