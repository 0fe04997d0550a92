/- Up -/
import Derived.Test.YtkecdjdggkpdpaaQPd
import Derived.Test.YtkecdjdggkpdpaaQPe
set_option linter.unusedVariables false
/- Walk of the laws' made. -/
namespace Go.Proofs.Ytkecdjdggkpdpaa
open Go Go.RowKit Go.Proofs

/-- What made returns: valid costs. -/
def MadePost (size : Nat) (most : Int) (w : World) (e : Ending) (w' : World) : Prop :=
  ∃ (C : List (List Int)) (a : Option Addr) (c k : Nat), e = .returned (.slice a k c) ∧ C.length = k ∧ goodC C ∧ k ≤ size ∧ (∀ r ∈ C, ∀ x ∈ r, x ≤ most) ∧ IMx w' a C ∧ k ≤ c ∧ Below w.heap.size w w'
def rowsOk (k : Nat) (mo : Int) (C : List (List Int)) : Prop := ∀ r ∈ C, r.length = k ∧ ∀ x ∈ r, 0 ≤ x ∧ x ≤ mo
end Go.Proofs.Ytkecdjdggkpdpaa
