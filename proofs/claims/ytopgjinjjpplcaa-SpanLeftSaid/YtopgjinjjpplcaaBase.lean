/- What is asked of the program once, and the contract of the chapter's test. -/
import Derived.Test.YtopgjinjjpplcaaEvA
import Derived.Test.YtopgjinjjpplcaaProg
namespace Go.Ev
open Go.Proofs
theorem prog_ok : ProgOk Try.prog := progOk (by kernel_rfl) (by kernel_rfl) (by kernel_rfl) (by kernel_rfl)
theorem PureFn.k {P : Program} {g : FuncId} {vs : List Value} {v : Value} (h : PureFn P g vs v) (hp : vs.all plain = true) (hv : plain v = true) {R : Type} {st : AS} {k : Value → AS → Option R} {r : R} (hk : k v st = some r) :
    ∃ v' st', k v' st' = some r ∧ SoundFn P g vs st v' st' := ⟨v, st, hk, h.sound hp hv st⟩
end Go.Ev
