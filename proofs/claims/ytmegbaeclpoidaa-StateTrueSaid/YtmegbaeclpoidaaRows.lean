/-
  No cell of these rows narrows 'for every input' (looked for: loops, veiled, ifaces, maps, wideKeys, modest, calm, conditions, laid).
  DERIVED. THE GIVEN ROWS OF THIS SEAT. 14 by the template 'for every input the law returns true; each argument reads behind the call as it read before'; 0 by the template 'total and deterministic' (their statements: YtmegbaeclpoidaaTotals.lean).
  GIVEN WITH THE SEED: the statements are not yours to turn. If you find one false, say at which input.
  Laid BY PROGRAM, IN A SANDBOX (cutbox-rows.mjs): the forced cells as the released guide's own fill.sh prints them over the translation 69dd6663278722b5… (all of the seat's roots in one cut). By AI agents, Wed Nov 11 2026. No macro, syntax, notation, axiom, sorry.
-/
import Derived.Test.YtmegbaeclpoidaaChecked
import GoSem.Claim
import GoSem.ClaimJoined
import GoSem.ClaimMapViews
import Derived.JoinedTies
import Derived.KernelRfl
namespace Go.Proofs.Ytmegbaeclpoidaa
/- THE CELL 'sum', in the pinned program and in every row, IS THE sha256 OF THE DUMP (.gsa) THAT YtmegbaeclpoidaaProg.lean LOADS. Nothing in Lean hashes anything: it is a label: what it is worth is what the hold of that sum in a sandbox is worth. -/
noncomputable def Try.pinned : Pinned := { name := "ytmegbaeclpoidaa", sum := "69dd6663278722b561469f24c5ae7eca01a149b29a2a12af1cf378fbf1d9eb4d", checked := Try.checked }
namespace Rows
def none {H : Type} : Left H := { results := [], args := [] }

/-- 'sallyportlaw16.TrackJoins': WHATEVER THE INPUT: true; the input reads as it did. -/
def trackJoinsSpec : ChangeSpec := { name := "trackJoins", fn := fun _ => fun
  | [d1, d2] => { results := [.lit (.bool true)], args := [d1, d2] }
  | _ => none }
def trackJoinsRow : OpenClaim := { program := "ytmegbaeclpoidaa", sum := "69dd6663278722b561469f24c5ae7eca01a149b29a2a12af1cf378fbf1d9eb4d", func := "sallyport/sallyportlaw16.TrackJoins", spec := "trackJoins", unfollowed := true, recurses := true, apart := false }
def TrackJoinsSaid : Prop := trackJoinsRow.holds Try.pinned (OpenSpec.ofChange trackJoinsSpec)

/-- ITS FALSE NEIGHBOUR: 'it returns false'. Refute it at one input. -/
def trackJoinsWrong : ChangeSpec := { name := "trackJoins", fn := fun _ => fun
  | [d1, d2] => { results := [.lit (.bool false)], args := [d1, d2] }
  | _ => none }
def TrackJoinsWrongFalsely : Prop := trackJoinsRow.holds Try.pinned (OpenSpec.ofChange trackJoinsWrong)

/-- 'sallyportlaw16.TrackTells': WHATEVER THE INPUT: true; the input reads as it did. -/
def trackTellsSpec : ChangeSpec := { name := "trackTells", fn := fun _ => fun
  | [d1, d2] => { results := [.lit (.bool true)], args := [d1, d2] }
  | _ => none }
def trackTellsRow : OpenClaim := { program := "ytmegbaeclpoidaa", sum := "69dd6663278722b561469f24c5ae7eca01a149b29a2a12af1cf378fbf1d9eb4d", func := "sallyport/sallyportlaw16.TrackTells", spec := "trackTells", unfollowed := true, recurses := true, apart := false }
def TrackTellsSaid : Prop := trackTellsRow.holds Try.pinned (OpenSpec.ofChange trackTellsSpec)

/-- ITS FALSE NEIGHBOUR: 'it returns false'. Refute it at one input. -/
def trackTellsWrong : ChangeSpec := { name := "trackTells", fn := fun _ => fun
  | [d1, d2] => { results := [.lit (.bool false)], args := [d1, d2] }
  | _ => none }
def TrackTellsWrongFalsely : Prop := trackTellsRow.holds Try.pinned (OpenSpec.ofChange trackTellsWrong)

/-- 'sallyportlaw16.TrackSound': WHATEVER THE INPUT: true; the input reads as it did. -/
def trackSoundSpec : ChangeSpec := { name := "trackSound", fn := fun _ => fun
  | [d1, d2, d3] => { results := [.lit (.bool true)], args := [d1, d2, d3] }
  | _ => none }
def trackSoundRow : OpenClaim := { program := "ytmegbaeclpoidaa", sum := "69dd6663278722b561469f24c5ae7eca01a149b29a2a12af1cf378fbf1d9eb4d", func := "sallyport/sallyportlaw16.TrackSound", spec := "trackSound", unfollowed := true, recurses := true, apart := false }
def TrackSoundSaid : Prop := trackSoundRow.holds Try.pinned (OpenSpec.ofChange trackSoundSpec)

/-- ITS FALSE NEIGHBOUR: 'it returns false'. Refute it at one input. -/
def trackSoundWrong : ChangeSpec := { name := "trackSound", fn := fun _ => fun
  | [d1, d2, d3] => { results := [.lit (.bool false)], args := [d1, d2, d3] }
  | _ => none }
def TrackSoundWrongFalsely : Prop := trackSoundRow.holds Try.pinned (OpenSpec.ofChange trackSoundWrong)

/-- 'sallyportlaw16.TrackFinds': WHATEVER THE INPUT: true; the input reads as it did. -/
def trackFindsSpec : ChangeSpec := { name := "trackFinds", fn := fun _ => fun
  | [d1, d2, d3] => { results := [.lit (.bool true)], args := [d1, d2, d3] }
  | _ => none }
def trackFindsRow : OpenClaim := { program := "ytmegbaeclpoidaa", sum := "69dd6663278722b561469f24c5ae7eca01a149b29a2a12af1cf378fbf1d9eb4d", func := "sallyport/sallyportlaw16.TrackFinds", spec := "trackFinds", unfollowed := true, recurses := true, apart := false }
def TrackFindsSaid : Prop := trackFindsRow.holds Try.pinned (OpenSpec.ofChange trackFindsSpec)

/-- ITS FALSE NEIGHBOUR: 'it returns false'. Refute it at one input. -/
def trackFindsWrong : ChangeSpec := { name := "trackFinds", fn := fun _ => fun
  | [d1, d2, d3] => { results := [.lit (.bool false)], args := [d1, d2, d3] }
  | _ => none }
def TrackFindsWrongFalsely : Prop := trackFindsRow.holds Try.pinned (OpenSpec.ofChange trackFindsWrong)

/-- 'sallyportlaw16.TrackProves': WHATEVER THE INPUT: true; the input reads as it did. -/
def trackProvesSpec : ChangeSpec := { name := "trackProves", fn := fun _ => fun
  | [d1, d2, d3] => { results := [.lit (.bool true)], args := [d1, d2, d3] }
  | _ => none }
def trackProvesRow : OpenClaim := { program := "ytmegbaeclpoidaa", sum := "69dd6663278722b561469f24c5ae7eca01a149b29a2a12af1cf378fbf1d9eb4d", func := "sallyport/sallyportlaw16.TrackProves", spec := "trackProves", unfollowed := true, recurses := true, apart := false }
def TrackProvesSaid : Prop := trackProvesRow.holds Try.pinned (OpenSpec.ofChange trackProvesSpec)

/-- ITS FALSE NEIGHBOUR: 'it returns false'. Refute it at one input. -/
def trackProvesWrong : ChangeSpec := { name := "trackProves", fn := fun _ => fun
  | [d1, d2, d3] => { results := [.lit (.bool false)], args := [d1, d2, d3] }
  | _ => none }
def TrackProvesWrongFalsely : Prop := trackProvesRow.holds Try.pinned (OpenSpec.ofChange trackProvesWrong)

/-- 'sallyportlaw16.TrackJoin': WHATEVER THE INPUT: true; the input reads as it did. -/
def trackJoinSpec : ChangeSpec := { name := "trackJoin", fn := fun _ => fun
  | [d1, d2, d3] => { results := [.lit (.bool true)], args := [d1, d2, d3] }
  | _ => none }
def trackJoinRow : OpenClaim := { program := "ytmegbaeclpoidaa", sum := "69dd6663278722b561469f24c5ae7eca01a149b29a2a12af1cf378fbf1d9eb4d", func := "sallyport/sallyportlaw16.TrackJoin", spec := "trackJoin", unfollowed := true, recurses := true, apart := false }
def TrackJoinSaid : Prop := trackJoinRow.holds Try.pinned (OpenSpec.ofChange trackJoinSpec)

/-- ITS FALSE NEIGHBOUR: 'it returns false'. Refute it at one input. -/
def trackJoinWrong : ChangeSpec := { name := "trackJoin", fn := fun _ => fun
  | [d1, d2, d3] => { results := [.lit (.bool false)], args := [d1, d2, d3] }
  | _ => none }
def TrackJoinWrongFalsely : Prop := trackJoinRow.holds Try.pinned (OpenSpec.ofChange trackJoinWrong)

/-- 'sallyportlaw16.TrackKnown': WHATEVER THE INPUT: true; the input reads as it did. -/
def trackKnownSpec : ChangeSpec := { name := "trackKnown", fn := fun _ => fun
  | [] => { results := [.lit (.bool true)], args := [] }
  | _ => none }
def trackKnownRow : OpenClaim := { program := "ytmegbaeclpoidaa", sum := "69dd6663278722b561469f24c5ae7eca01a149b29a2a12af1cf378fbf1d9eb4d", func := "sallyport/sallyportlaw16.TrackKnown", spec := "trackKnown", unfollowed := true, recurses := true, apart := false }
def TrackKnownSaid : Prop := trackKnownRow.holds Try.pinned (OpenSpec.ofChange trackKnownSpec)

/-- ITS FALSE NEIGHBOUR: 'it returns false'. Refute it at one input. -/
def trackKnownWrong : ChangeSpec := { name := "trackKnown", fn := fun _ => fun
  | [] => { results := [.lit (.bool false)], args := [] }
  | _ => none }
def TrackKnownWrongFalsely : Prop := trackKnownRow.holds Try.pinned (OpenSpec.ofChange trackKnownWrong)

/-- 'sallyportlaw17.StateJoins': WHATEVER THE INPUT: true; the input reads as it did. -/
def stateJoinsSpec : ChangeSpec := { name := "stateJoins", fn := fun _ => fun
  | [d1, d2] => { results := [.lit (.bool true)], args := [d1, d2] }
  | _ => none }
def stateJoinsRow : OpenClaim := { program := "ytmegbaeclpoidaa", sum := "69dd6663278722b561469f24c5ae7eca01a149b29a2a12af1cf378fbf1d9eb4d", func := "sallyport/sallyportlaw17.StateJoins", spec := "stateJoins", unfollowed := true, recurses := true, apart := false }
def StateJoinsSaid : Prop := stateJoinsRow.holds Try.pinned (OpenSpec.ofChange stateJoinsSpec)

/-- ITS FALSE NEIGHBOUR: 'it returns false'. Refute it at one input. -/
def stateJoinsWrong : ChangeSpec := { name := "stateJoins", fn := fun _ => fun
  | [d1, d2] => { results := [.lit (.bool false)], args := [d1, d2] }
  | _ => none }
def StateJoinsWrongFalsely : Prop := stateJoinsRow.holds Try.pinned (OpenSpec.ofChange stateJoinsWrong)

/-- 'sallyportlaw17.StateOrder': WHATEVER THE INPUT: true; the input reads as it did. -/
def stateOrderSpec : ChangeSpec := { name := "stateOrder", fn := fun _ => fun
  | [d1, d2, d3] => { results := [.lit (.bool true)], args := [d1, d2, d3] }
  | _ => none }
def stateOrderRow : OpenClaim := { program := "ytmegbaeclpoidaa", sum := "69dd6663278722b561469f24c5ae7eca01a149b29a2a12af1cf378fbf1d9eb4d", func := "sallyport/sallyportlaw17.StateOrder", spec := "stateOrder", unfollowed := true, recurses := true, apart := false }
def StateOrderSaid : Prop := stateOrderRow.holds Try.pinned (OpenSpec.ofChange stateOrderSpec)

/-- ITS FALSE NEIGHBOUR: 'it returns false'. Refute it at one input. -/
def stateOrderWrong : ChangeSpec := { name := "stateOrder", fn := fun _ => fun
  | [d1, d2, d3] => { results := [.lit (.bool false)], args := [d1, d2, d3] }
  | _ => none }
def StateOrderWrongFalsely : Prop := stateOrderRow.holds Try.pinned (OpenSpec.ofChange stateOrderWrong)

/-- 'sallyportlaw17.StateLeast': WHATEVER THE INPUT: true; the input reads as it did. -/
def stateLeastSpec : ChangeSpec := { name := "stateLeast", fn := fun _ => fun
  | [d1, d2] => { results := [.lit (.bool true)], args := [d1, d2] }
  | _ => none }
def stateLeastRow : OpenClaim := { program := "ytmegbaeclpoidaa", sum := "69dd6663278722b561469f24c5ae7eca01a149b29a2a12af1cf378fbf1d9eb4d", func := "sallyport/sallyportlaw17.StateLeast", spec := "stateLeast", unfollowed := true, recurses := true, apart := false }
def StateLeastSaid : Prop := stateLeastRow.holds Try.pinned (OpenSpec.ofChange stateLeastSpec)

/-- ITS FALSE NEIGHBOUR: 'it returns false'. Refute it at one input. -/
def stateLeastWrong : ChangeSpec := { name := "stateLeast", fn := fun _ => fun
  | [d1, d2] => { results := [.lit (.bool false)], args := [d1, d2] }
  | _ => none }
def StateLeastWrongFalsely : Prop := stateLeastRow.holds Try.pinned (OpenSpec.ofChange stateLeastWrong)

/-- 'sallyportlaw17.StateTurns': WHATEVER THE INPUT: true; the input reads as it did. -/
def stateTurnsSpec : ChangeSpec := { name := "stateTurns", fn := fun _ => fun
  | [d1, d2, d3] => { results := [.lit (.bool true)], args := [d1, d2, d3] }
  | _ => none }
def stateTurnsRow : OpenClaim := { program := "ytmegbaeclpoidaa", sum := "69dd6663278722b561469f24c5ae7eca01a149b29a2a12af1cf378fbf1d9eb4d", func := "sallyport/sallyportlaw17.StateTurns", spec := "stateTurns", unfollowed := true, recurses := true, apart := false }
def StateTurnsSaid : Prop := stateTurnsRow.holds Try.pinned (OpenSpec.ofChange stateTurnsSpec)

/-- ITS FALSE NEIGHBOUR: 'it returns false'. Refute it at one input. -/
def stateTurnsWrong : ChangeSpec := { name := "stateTurns", fn := fun _ => fun
  | [d1, d2, d3] => { results := [.lit (.bool false)], args := [d1, d2, d3] }
  | _ => none }
def StateTurnsWrongFalsely : Prop := stateTurnsRow.holds Try.pinned (OpenSpec.ofChange stateTurnsWrong)

/-- 'sallyportlaw17.StateTurned': WHATEVER THE INPUT: true; the input reads as it did. -/
def stateTurnedSpec : ChangeSpec := { name := "stateTurned", fn := fun _ => fun
  | [d1, d2, d3] => { results := [.lit (.bool true)], args := [d1, d2, d3] }
  | _ => none }
def stateTurnedRow : OpenClaim := { program := "ytmegbaeclpoidaa", sum := "69dd6663278722b561469f24c5ae7eca01a149b29a2a12af1cf378fbf1d9eb4d", func := "sallyport/sallyportlaw17.StateTurned", spec := "stateTurned", unfollowed := true, recurses := true, apart := false }
def StateTurnedSaid : Prop := stateTurnedRow.holds Try.pinned (OpenSpec.ofChange stateTurnedSpec)

/-- ITS FALSE NEIGHBOUR: 'it returns false'. Refute it at one input. -/
def stateTurnedWrong : ChangeSpec := { name := "stateTurned", fn := fun _ => fun
  | [d1, d2, d3] => { results := [.lit (.bool false)], args := [d1, d2, d3] }
  | _ => none }
def StateTurnedWrongFalsely : Prop := stateTurnedRow.holds Try.pinned (OpenSpec.ofChange stateTurnedWrong)

/-- 'sallyportlaw17.StateKnown': WHATEVER THE INPUT: true; the input reads as it did. -/
def stateKnownSpec : ChangeSpec := { name := "stateKnown", fn := fun _ => fun
  | [] => { results := [.lit (.bool true)], args := [] }
  | _ => none }
def stateKnownRow : OpenClaim := { program := "ytmegbaeclpoidaa", sum := "69dd6663278722b561469f24c5ae7eca01a149b29a2a12af1cf378fbf1d9eb4d", func := "sallyport/sallyportlaw17.StateKnown", spec := "stateKnown", unfollowed := true, recurses := true, apart := false }
def StateKnownSaid : Prop := stateKnownRow.holds Try.pinned (OpenSpec.ofChange stateKnownSpec)

/-- ITS FALSE NEIGHBOUR: 'it returns false'. Refute it at one input. -/
def stateKnownWrong : ChangeSpec := { name := "stateKnown", fn := fun _ => fun
  | [] => { results := [.lit (.bool false)], args := [] }
  | _ => none }
def StateKnownWrongFalsely : Prop := stateKnownRow.holds Try.pinned (OpenSpec.ofChange stateKnownWrong)

/-- 'sallyportlaw17.StateTrue': WHATEVER THE INPUT: true; the input reads as it did. -/
def stateTrueSpec : ChangeSpec := { name := "stateTrue", fn := fun _ => fun
  | [d1, d2, d3] => { results := [.lit (.bool true)], args := [d1, d2, d3] }
  | _ => none }
def stateTrueRow : OpenClaim := { program := "ytmegbaeclpoidaa", sum := "69dd6663278722b561469f24c5ae7eca01a149b29a2a12af1cf378fbf1d9eb4d", func := "sallyport/sallyportlaw17.StateTrue", spec := "stateTrue", unfollowed := true, recurses := true, apart := false }
def StateTrueSaid : Prop := stateTrueRow.holds Try.pinned (OpenSpec.ofChange stateTrueSpec)

/-- ITS FALSE NEIGHBOUR: 'it returns false'. Refute it at one input. -/
def stateTrueWrong : ChangeSpec := { name := "stateTrue", fn := fun _ => fun
  | [d1, d2, d3] => { results := [.lit (.bool false)], args := [d1, d2, d3] }
  | _ => none }
def StateTrueWrongFalsely : Prop := stateTrueRow.holds Try.pinned (OpenSpec.ofChange stateTrueWrong)

/- THE SECOND FORM. 'bulk': how many values and letters a reading holds, each counted each time it is reached (what is shared counts as often as it is met; a slice's spare places count too). A statement '..UptoSaid' is the law's where the arguments, and the package variables that the reading takes, are together of bulk at most 1048576: NARROWER than '..Said'. Prove '..Said' where nothing that the law and all that it calls make is longer than what came in: it says more and counts as full. Else prove '..UptoSaid'. A law counts once. -/
mutual
def uptoBulk {H : Type} : DataW H → Nat
  | .lit (.string bytes) => bytes.length + 1
  | .lit _ => 1
  | .nil => 1
  | .ptr d => uptoBulk d + 1
  | .slice elems spare => uptoBulkAll elems + uptoBulkAll spare + 1
  | .agg parts => uptoBulkAll parts + 1
  | .iface _ d => uptoBulk d + 1
  | .map entries => uptoBulkEntries entries + 1
  | .held _ => 1
def uptoBulkAll {H : Type} : List (DataW H) → Nat
  | [] => 0
  | d :: r => uptoBulk d + uptoBulkAll r
def uptoBulkEntries {H : Type} : List (Lit × DataW H) → Nat
  | [] => 0
  | x :: r => uptoBulkEntry x + uptoBulkEntries r
def uptoBulkEntry {H : Type} : Lit × DataW H → Nat
  | (.string bytes, d) => bytes.length + uptoBulk d + 1
  | (_, d) => uptoBulk d + 1
 end
def uptoSmall : (H : Type) → List (DataW H) → Bool := fun _ ds => decide (uptoBulkAll ds ≤ 1048576)
def OpenSpec.upto (s : _root_.Go.ChangeSpec) : _root_.Go.OpenSpec := { _root_.Go.OpenSpec.ofChange s with cond := some uptoSmall }

/-- 'sallyportlaw16.TrackJoins', WHERE WHAT IT READS IS OF BULK AT MOST 1048576: true; the input reads as it did. -/
def trackJoinsUptoRow : OpenClaim := { program := "ytmegbaeclpoidaa", sum := "69dd6663278722b561469f24c5ae7eca01a149b29a2a12af1cf378fbf1d9eb4d", func := "sallyport/sallyportlaw16.TrackJoins", spec := "trackJoins", unfollowed := true, recurses := true, apart := false, narrowed := true }
def TrackJoinsUptoSaid : Prop := trackJoinsUptoRow.holds Try.pinned (OpenSpec.upto trackJoinsSpec)

/-- 'sallyportlaw16.TrackTells', WHERE WHAT IT READS IS OF BULK AT MOST 1048576: true; the input reads as it did. -/
def trackTellsUptoRow : OpenClaim := { program := "ytmegbaeclpoidaa", sum := "69dd6663278722b561469f24c5ae7eca01a149b29a2a12af1cf378fbf1d9eb4d", func := "sallyport/sallyportlaw16.TrackTells", spec := "trackTells", unfollowed := true, recurses := true, apart := false, narrowed := true }
def TrackTellsUptoSaid : Prop := trackTellsUptoRow.holds Try.pinned (OpenSpec.upto trackTellsSpec)

/-- 'sallyportlaw16.TrackSound', WHERE WHAT IT READS IS OF BULK AT MOST 1048576: true; the input reads as it did. -/
def trackSoundUptoRow : OpenClaim := { program := "ytmegbaeclpoidaa", sum := "69dd6663278722b561469f24c5ae7eca01a149b29a2a12af1cf378fbf1d9eb4d", func := "sallyport/sallyportlaw16.TrackSound", spec := "trackSound", unfollowed := true, recurses := true, apart := false, narrowed := true }
def TrackSoundUptoSaid : Prop := trackSoundUptoRow.holds Try.pinned (OpenSpec.upto trackSoundSpec)

/-- 'sallyportlaw16.TrackFinds', WHERE WHAT IT READS IS OF BULK AT MOST 1048576: true; the input reads as it did. -/
def trackFindsUptoRow : OpenClaim := { program := "ytmegbaeclpoidaa", sum := "69dd6663278722b561469f24c5ae7eca01a149b29a2a12af1cf378fbf1d9eb4d", func := "sallyport/sallyportlaw16.TrackFinds", spec := "trackFinds", unfollowed := true, recurses := true, apart := false, narrowed := true }
def TrackFindsUptoSaid : Prop := trackFindsUptoRow.holds Try.pinned (OpenSpec.upto trackFindsSpec)

/-- 'sallyportlaw16.TrackProves', WHERE WHAT IT READS IS OF BULK AT MOST 1048576: true; the input reads as it did. -/
def trackProvesUptoRow : OpenClaim := { program := "ytmegbaeclpoidaa", sum := "69dd6663278722b561469f24c5ae7eca01a149b29a2a12af1cf378fbf1d9eb4d", func := "sallyport/sallyportlaw16.TrackProves", spec := "trackProves", unfollowed := true, recurses := true, apart := false, narrowed := true }
def TrackProvesUptoSaid : Prop := trackProvesUptoRow.holds Try.pinned (OpenSpec.upto trackProvesSpec)

/-- 'sallyportlaw16.TrackJoin', WHERE WHAT IT READS IS OF BULK AT MOST 1048576: true; the input reads as it did. -/
def trackJoinUptoRow : OpenClaim := { program := "ytmegbaeclpoidaa", sum := "69dd6663278722b561469f24c5ae7eca01a149b29a2a12af1cf378fbf1d9eb4d", func := "sallyport/sallyportlaw16.TrackJoin", spec := "trackJoin", unfollowed := true, recurses := true, apart := false, narrowed := true }
def TrackJoinUptoSaid : Prop := trackJoinUptoRow.holds Try.pinned (OpenSpec.upto trackJoinSpec)

/-- 'sallyportlaw16.TrackKnown', WHERE WHAT IT READS IS OF BULK AT MOST 1048576: true; the input reads as it did. -/
def trackKnownUptoRow : OpenClaim := { program := "ytmegbaeclpoidaa", sum := "69dd6663278722b561469f24c5ae7eca01a149b29a2a12af1cf378fbf1d9eb4d", func := "sallyport/sallyportlaw16.TrackKnown", spec := "trackKnown", unfollowed := true, recurses := true, apart := false, narrowed := true }
def TrackKnownUptoSaid : Prop := trackKnownUptoRow.holds Try.pinned (OpenSpec.upto trackKnownSpec)

/-- 'sallyportlaw17.StateJoins', WHERE WHAT IT READS IS OF BULK AT MOST 1048576: true; the input reads as it did. -/
def stateJoinsUptoRow : OpenClaim := { program := "ytmegbaeclpoidaa", sum := "69dd6663278722b561469f24c5ae7eca01a149b29a2a12af1cf378fbf1d9eb4d", func := "sallyport/sallyportlaw17.StateJoins", spec := "stateJoins", unfollowed := true, recurses := true, apart := false, narrowed := true }
def StateJoinsUptoSaid : Prop := stateJoinsUptoRow.holds Try.pinned (OpenSpec.upto stateJoinsSpec)

/-- 'sallyportlaw17.StateOrder', WHERE WHAT IT READS IS OF BULK AT MOST 1048576: true; the input reads as it did. -/
def stateOrderUptoRow : OpenClaim := { program := "ytmegbaeclpoidaa", sum := "69dd6663278722b561469f24c5ae7eca01a149b29a2a12af1cf378fbf1d9eb4d", func := "sallyport/sallyportlaw17.StateOrder", spec := "stateOrder", unfollowed := true, recurses := true, apart := false, narrowed := true }
def StateOrderUptoSaid : Prop := stateOrderUptoRow.holds Try.pinned (OpenSpec.upto stateOrderSpec)

/-- 'sallyportlaw17.StateLeast', WHERE WHAT IT READS IS OF BULK AT MOST 1048576: true; the input reads as it did. -/
def stateLeastUptoRow : OpenClaim := { program := "ytmegbaeclpoidaa", sum := "69dd6663278722b561469f24c5ae7eca01a149b29a2a12af1cf378fbf1d9eb4d", func := "sallyport/sallyportlaw17.StateLeast", spec := "stateLeast", unfollowed := true, recurses := true, apart := false, narrowed := true }
def StateLeastUptoSaid : Prop := stateLeastUptoRow.holds Try.pinned (OpenSpec.upto stateLeastSpec)

/-- 'sallyportlaw17.StateTurns', WHERE WHAT IT READS IS OF BULK AT MOST 1048576: true; the input reads as it did. -/
def stateTurnsUptoRow : OpenClaim := { program := "ytmegbaeclpoidaa", sum := "69dd6663278722b561469f24c5ae7eca01a149b29a2a12af1cf378fbf1d9eb4d", func := "sallyport/sallyportlaw17.StateTurns", spec := "stateTurns", unfollowed := true, recurses := true, apart := false, narrowed := true }
def StateTurnsUptoSaid : Prop := stateTurnsUptoRow.holds Try.pinned (OpenSpec.upto stateTurnsSpec)

/-- 'sallyportlaw17.StateTurned', WHERE WHAT IT READS IS OF BULK AT MOST 1048576: true; the input reads as it did. -/
def stateTurnedUptoRow : OpenClaim := { program := "ytmegbaeclpoidaa", sum := "69dd6663278722b561469f24c5ae7eca01a149b29a2a12af1cf378fbf1d9eb4d", func := "sallyport/sallyportlaw17.StateTurned", spec := "stateTurned", unfollowed := true, recurses := true, apart := false, narrowed := true }
def StateTurnedUptoSaid : Prop := stateTurnedUptoRow.holds Try.pinned (OpenSpec.upto stateTurnedSpec)

/-- 'sallyportlaw17.StateKnown', WHERE WHAT IT READS IS OF BULK AT MOST 1048576: true; the input reads as it did. -/
def stateKnownUptoRow : OpenClaim := { program := "ytmegbaeclpoidaa", sum := "69dd6663278722b561469f24c5ae7eca01a149b29a2a12af1cf378fbf1d9eb4d", func := "sallyport/sallyportlaw17.StateKnown", spec := "stateKnown", unfollowed := true, recurses := true, apart := false, narrowed := true }
def StateKnownUptoSaid : Prop := stateKnownUptoRow.holds Try.pinned (OpenSpec.upto stateKnownSpec)

/-- 'sallyportlaw17.StateTrue', WHERE WHAT IT READS IS OF BULK AT MOST 1048576: true; the input reads as it did. -/
def stateTrueUptoRow : OpenClaim := { program := "ytmegbaeclpoidaa", sum := "69dd6663278722b561469f24c5ae7eca01a149b29a2a12af1cf378fbf1d9eb4d", func := "sallyport/sallyportlaw17.StateTrue", spec := "stateTrue", unfollowed := true, recurses := true, apart := false, narrowed := true }
def StateTrueUptoSaid : Prop := stateTrueUptoRow.holds Try.pinned (OpenSpec.upto stateTrueSpec)

end Rows
end Go.Proofs.Ytmegbaeclpoidaa
