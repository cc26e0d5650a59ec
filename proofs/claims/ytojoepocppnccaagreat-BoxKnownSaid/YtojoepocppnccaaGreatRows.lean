/-
  No cell of these rows narrows 'for every input' (looked for: loops, veiled, ifaces, maps, wideKeys, modest, calm, conditions, laid).
  DERIVED. THE GIVEN ROWS OF THIS SEAT. 6 by the template 'for every input the law returns true; each argument reads behind the call as it read before'; 0 by the template 'total and deterministic' (their statements: YtojoepocppnccaaGreatTotals.lean).
  GIVEN WITH THE SEED: the statements are not yours to turn. If you find one false, say at which input.
  Laid BY PROGRAM, IN A SANDBOX (cutbox-rows.mjs): the forced cells as the released guide's own fill.sh prints them over the translation 6e230acb16713cc0… (all of the seat's roots in one cut). By AI agents, Wed Nov 11 2026. No macro, syntax, notation, axiom, sorry.
-/
import Derived.Test.YtojoepocppnccaaGreatChecked
import GoSem.Claim
import GoSem.ClaimJoined
import GoSem.ClaimMapViews
import Derived.JoinedTies
import Derived.KernelRfl
namespace Go.Proofs.YtojoepocppnccaaGreat
/- THE CELL 'sum', in the pinned program and in every row, IS THE sha256 OF THE DUMP (.gsa) THAT YtojoepocppnccaaGreatProg.lean LOADS. Nothing in Lean hashes anything: it is a label: what it is worth is what the hold of that sum in a sandbox is worth. -/
noncomputable def Tryz.pinned : Pinned := { name := "ytojoepocppnccaagreat", sum := "6e230acb16713cc00a1dbed96067a0c6a365307cd2f2a9470777a52b95951231", checked := Tryz.checked }
namespace Rows
def none {H : Type} : Left H := { results := [], args := [] }

/-- 'sallyportlaw18.VerifyGuards': WHATEVER THE INPUT: true; the input reads as it did. -/
def verifyGuardsSpec : ChangeSpec := { name := "verifyGuards", fn := fun _ => fun
  | [d1, d2] => { results := [.lit (.bool true)], args := [d1, d2] }
  | _ => none }
def verifyGuardsRow : OpenClaim := { program := "ytojoepocppnccaagreat", sum := "6e230acb16713cc00a1dbed96067a0c6a365307cd2f2a9470777a52b95951231", func := "sallyport/sallyportlaw18.VerifyGuards", spec := "verifyGuards", inPlace := ["math/bits.Add64", "math/bits.Sub64"], unfollowed := true, recurses := true, apart := false }
def VerifyGuardsSaid : Prop := verifyGuardsRow.holds Tryz.pinned (OpenSpec.ofChange verifyGuardsSpec)

/-- ITS FALSE NEIGHBOUR: 'it returns false'. Refute it at one input. -/
def verifyGuardsWrong : ChangeSpec := { name := "verifyGuards", fn := fun _ => fun
  | [d1, d2] => { results := [.lit (.bool false)], args := [d1, d2] }
  | _ => none }
def VerifyGuardsWrongFalsely : Prop := verifyGuardsRow.holds Tryz.pinned (OpenSpec.ofChange verifyGuardsWrong)

/-- 'sallyportlaw18.VerifyKnown': WHATEVER THE INPUT: true; the input reads as it did. -/
def verifyKnownSpec : ChangeSpec := { name := "verifyKnown", fn := fun _ => fun
  | [] => { results := [.lit (.bool true)], args := [] }
  | _ => none }
def verifyKnownRow : OpenClaim := { program := "ytojoepocppnccaagreat", sum := "6e230acb16713cc00a1dbed96067a0c6a365307cd2f2a9470777a52b95951231", func := "sallyport/sallyportlaw18.VerifyKnown", spec := "verifyKnown", inPlace := ["math/bits.Add64", "math/bits.Sub64"], unfollowed := true, recurses := true, apart := false }
def VerifyKnownSaid : Prop := verifyKnownRow.holds Tryz.pinned (OpenSpec.ofChange verifyKnownSpec)

/-- ITS FALSE NEIGHBOUR: 'it returns false'. Refute it at one input. -/
def verifyKnownWrong : ChangeSpec := { name := "verifyKnown", fn := fun _ => fun
  | [] => { results := [.lit (.bool false)], args := [] }
  | _ => none }
def VerifyKnownWrongFalsely : Prop := verifyKnownRow.holds Tryz.pinned (OpenSpec.ofChange verifyKnownWrong)

/-- 'sallyportlaw25.EngineKnown': WHATEVER THE INPUT: true; the input reads as it did. -/
def engineKnownSpec : ChangeSpec := { name := "engineKnown", fn := fun _ => fun
  | [] => { results := [.lit (.bool true)], args := [] }
  | _ => none }
def engineKnownRow : OpenClaim := { program := "ytojoepocppnccaagreat", sum := "6e230acb16713cc00a1dbed96067a0c6a365307cd2f2a9470777a52b95951231", func := "sallyport/sallyportlaw25.EngineKnown", spec := "engineKnown", inPlace := ["math/bits.Add64", "math/bits.Sub64"], unfollowed := true, recurses := true, apart := false }
def EngineKnownSaid : Prop := engineKnownRow.holds Tryz.pinned (OpenSpec.ofChange engineKnownSpec)

/-- ITS FALSE NEIGHBOUR: 'it returns false'. Refute it at one input. -/
def engineKnownWrong : ChangeSpec := { name := "engineKnown", fn := fun _ => fun
  | [] => { results := [.lit (.bool false)], args := [] }
  | _ => none }
def EngineKnownWrongFalsely : Prop := engineKnownRow.holds Tryz.pinned (OpenSpec.ofChange engineKnownWrong)

/-- 'sallyportlaw27.PortKnown': WHATEVER THE INPUT: true; the input reads as it did. -/
def portKnownSpec : ChangeSpec := { name := "portKnown", fn := fun _ => fun
  | [] => { results := [.lit (.bool true)], args := [] }
  | _ => none }
def portKnownRow : OpenClaim := { program := "ytojoepocppnccaagreat", sum := "6e230acb16713cc00a1dbed96067a0c6a365307cd2f2a9470777a52b95951231", func := "sallyport/sallyportlaw27.PortKnown", spec := "portKnown", inPlace := ["math/bits.Add64", "math/bits.Sub64"], unfollowed := true, recurses := true, apart := false }
def PortKnownSaid : Prop := portKnownRow.holds Tryz.pinned (OpenSpec.ofChange portKnownSpec)

/-- ITS FALSE NEIGHBOUR: 'it returns false'. Refute it at one input. -/
def portKnownWrong : ChangeSpec := { name := "portKnown", fn := fun _ => fun
  | [] => { results := [.lit (.bool false)], args := [] }
  | _ => none }
def PortKnownWrongFalsely : Prop := portKnownRow.holds Tryz.pinned (OpenSpec.ofChange portKnownWrong)

/-- 'sallyportlaw29.ModelKnown': WHATEVER THE INPUT: true; the input reads as it did. -/
def modelKnownSpec : ChangeSpec := { name := "modelKnown", fn := fun _ => fun
  | [] => { results := [.lit (.bool true)], args := [] }
  | _ => none }
def modelKnownRow : OpenClaim := { program := "ytojoepocppnccaagreat", sum := "6e230acb16713cc00a1dbed96067a0c6a365307cd2f2a9470777a52b95951231", func := "sallyport/sallyportlaw29.ModelKnown", spec := "modelKnown", inPlace := ["math/bits.Add64", "math/bits.Sub64"], unfollowed := true, recurses := true, apart := false }
def ModelKnownSaid : Prop := modelKnownRow.holds Tryz.pinned (OpenSpec.ofChange modelKnownSpec)

/-- ITS FALSE NEIGHBOUR: 'it returns false'. Refute it at one input. -/
def modelKnownWrong : ChangeSpec := { name := "modelKnown", fn := fun _ => fun
  | [] => { results := [.lit (.bool false)], args := [] }
  | _ => none }
def ModelKnownWrongFalsely : Prop := modelKnownRow.holds Tryz.pinned (OpenSpec.ofChange modelKnownWrong)

/-- 'sallyportlaw28.BoxKnown': WHATEVER THE INPUT: true; the input reads as it did. -/
def boxKnownSpec : ChangeSpec := { name := "boxKnown", fn := fun _ => fun
  | [] => { results := [.lit (.bool true)], args := [] }
  | _ => none }
def boxKnownRow : OpenClaim := { program := "ytojoepocppnccaagreat", sum := "6e230acb16713cc00a1dbed96067a0c6a365307cd2f2a9470777a52b95951231", func := "sallyport/sallyportlaw28.BoxKnown", spec := "boxKnown", inPlace := ["math/bits.Add64", "math/bits.Sub64"], unfollowed := true, recurses := true, apart := false }
def BoxKnownSaid : Prop := boxKnownRow.holds Tryz.pinned (OpenSpec.ofChange boxKnownSpec)

/-- ITS FALSE NEIGHBOUR: 'it returns false'. Refute it at one input. -/
def boxKnownWrong : ChangeSpec := { name := "boxKnown", fn := fun _ => fun
  | [] => { results := [.lit (.bool false)], args := [] }
  | _ => none }
def BoxKnownWrongFalsely : Prop := boxKnownRow.holds Tryz.pinned (OpenSpec.ofChange boxKnownWrong)

/- THE SECOND FORM. 'bulk': how many values and letters a reading holds, each counted each time it is reached (what is shared counts as often as it is met; a slice's spare places count too). A statement '..UptoSaid' is the law's where the arguments, and the package variables that the reading takes, are together of bulk at most 1048576: NARROWER than '..Said'. Prove '..Said' where nothing that the law and all that it calls make is longer than what came in: it says more and counts as full. Else prove '..UptoSaid'. A law counts once. -/
mutual
def uptoBulk {H : Type} : DataW H → Nat
  | .lit (.string bytes) => bytes.length + 1
  | .lit _ => 1
  | .nil => 1
  | .ptr d => uptoBulk d + 1
  | .slice elems spare => uptoBulkAll elems + uptoBulkAll spare + 1
  | .agg parts => uptoBulkAll parts + 1
  | .iface _ d => uptoBulk d + 1
  | .map entries => uptoBulkEntries entries + 1
  | .held _ => 1
def uptoBulkAll {H : Type} : List (DataW H) → Nat
  | [] => 0
  | d :: r => uptoBulk d + uptoBulkAll r
def uptoBulkEntries {H : Type} : List (Lit × DataW H) → Nat
  | [] => 0
  | x :: r => uptoBulkEntry x + uptoBulkEntries r
def uptoBulkEntry {H : Type} : Lit × DataW H → Nat
  | (.string bytes, d) => bytes.length + uptoBulk d + 1
  | (_, d) => uptoBulk d + 1
 end
def uptoSmall : (H : Type) → List (DataW H) → Bool := fun _ ds => decide (uptoBulkAll ds ≤ 1048576)
def OpenSpec.upto (s : _root_.Go.ChangeSpec) : _root_.Go.OpenSpec := { _root_.Go.OpenSpec.ofChange s with cond := some uptoSmall }

/-- 'sallyportlaw18.VerifyGuards', WHERE WHAT IT READS IS OF BULK AT MOST 1048576: true; the input reads as it did. -/
def verifyGuardsUptoRow : OpenClaim := { program := "ytojoepocppnccaagreat", sum := "6e230acb16713cc00a1dbed96067a0c6a365307cd2f2a9470777a52b95951231", func := "sallyport/sallyportlaw18.VerifyGuards", spec := "verifyGuards", inPlace := ["math/bits.Add64", "math/bits.Sub64"], unfollowed := true, recurses := true, apart := false, narrowed := true }
def VerifyGuardsUptoSaid : Prop := verifyGuardsUptoRow.holds Tryz.pinned (OpenSpec.upto verifyGuardsSpec)

/-- 'sallyportlaw18.VerifyKnown', WHERE WHAT IT READS IS OF BULK AT MOST 1048576: true; the input reads as it did. -/
def verifyKnownUptoRow : OpenClaim := { program := "ytojoepocppnccaagreat", sum := "6e230acb16713cc00a1dbed96067a0c6a365307cd2f2a9470777a52b95951231", func := "sallyport/sallyportlaw18.VerifyKnown", spec := "verifyKnown", inPlace := ["math/bits.Add64", "math/bits.Sub64"], unfollowed := true, recurses := true, apart := false, narrowed := true }
def VerifyKnownUptoSaid : Prop := verifyKnownUptoRow.holds Tryz.pinned (OpenSpec.upto verifyKnownSpec)

/-- 'sallyportlaw25.EngineKnown', WHERE WHAT IT READS IS OF BULK AT MOST 1048576: true; the input reads as it did. -/
def engineKnownUptoRow : OpenClaim := { program := "ytojoepocppnccaagreat", sum := "6e230acb16713cc00a1dbed96067a0c6a365307cd2f2a9470777a52b95951231", func := "sallyport/sallyportlaw25.EngineKnown", spec := "engineKnown", inPlace := ["math/bits.Add64", "math/bits.Sub64"], unfollowed := true, recurses := true, apart := false, narrowed := true }
def EngineKnownUptoSaid : Prop := engineKnownUptoRow.holds Tryz.pinned (OpenSpec.upto engineKnownSpec)

/-- 'sallyportlaw27.PortKnown', WHERE WHAT IT READS IS OF BULK AT MOST 1048576: true; the input reads as it did. -/
def portKnownUptoRow : OpenClaim := { program := "ytojoepocppnccaagreat", sum := "6e230acb16713cc00a1dbed96067a0c6a365307cd2f2a9470777a52b95951231", func := "sallyport/sallyportlaw27.PortKnown", spec := "portKnown", inPlace := ["math/bits.Add64", "math/bits.Sub64"], unfollowed := true, recurses := true, apart := false, narrowed := true }
def PortKnownUptoSaid : Prop := portKnownUptoRow.holds Tryz.pinned (OpenSpec.upto portKnownSpec)

/-- 'sallyportlaw29.ModelKnown', WHERE WHAT IT READS IS OF BULK AT MOST 1048576: true; the input reads as it did. -/
def modelKnownUptoRow : OpenClaim := { program := "ytojoepocppnccaagreat", sum := "6e230acb16713cc00a1dbed96067a0c6a365307cd2f2a9470777a52b95951231", func := "sallyport/sallyportlaw29.ModelKnown", spec := "modelKnown", inPlace := ["math/bits.Add64", "math/bits.Sub64"], unfollowed := true, recurses := true, apart := false, narrowed := true }
def ModelKnownUptoSaid : Prop := modelKnownUptoRow.holds Tryz.pinned (OpenSpec.upto modelKnownSpec)

/-- 'sallyportlaw28.BoxKnown', WHERE WHAT IT READS IS OF BULK AT MOST 1048576: true; the input reads as it did. -/
def boxKnownUptoRow : OpenClaim := { program := "ytojoepocppnccaagreat", sum := "6e230acb16713cc00a1dbed96067a0c6a365307cd2f2a9470777a52b95951231", func := "sallyport/sallyportlaw28.BoxKnown", spec := "boxKnown", inPlace := ["math/bits.Add64", "math/bits.Sub64"], unfollowed := true, recurses := true, apart := false, narrowed := true }
def BoxKnownUptoSaid : Prop := boxKnownUptoRow.holds Tryz.pinned (OpenSpec.upto boxKnownSpec)

end Rows
end Go.Proofs.YtojoepocppnccaaGreat
