/- Tp -/
import Derived.Test.YtkecdjdggkpdpabQTo
set_option linter.unusedVariables false
/- Pell: its refusals, and what it returns. -/
namespace Go.Proofs.Ytkecdjdggkpdpab
open Go Go.RowKit Go.Proofs

def RetE2 (w : World) (er : Int) (e : Ending) (w' : World) : Prop := e = .returned (.tuple #[.string ⟨#[]⟩, .string ⟨#[]⟩, .int .i64 er]) ∧ Below w.heap.size w w'
def PellPost (d : Nat) (neg : Bool) (w : World) (e : Ending) (w' : World) : Prop := e = .returned (.tuple #[.string (nt ((((pellV d neg).1 : Nat) : Int) : Rat)), .string (nt ((((pellV d neg).2 : Nat) : Int) : Rat)), .int .i64 0]) ∧ Below w.heap.size w w'
end Go.Proofs.Ytkecdjdggkpdpab
