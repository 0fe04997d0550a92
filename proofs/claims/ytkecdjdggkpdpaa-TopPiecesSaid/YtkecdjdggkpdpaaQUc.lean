/- Uc -/
import Derived.Test.YtkecdjdggkpdpaaQUb
set_option linter.unusedVariables false
/- Walk of PairCheapests. -/
namespace Go.Proofs.Ytkecdjdggkpdpaa
open Go Go.RowKit Go.Proofs

theorem goodC_of {C : List (List Int)} (h : costsB C = true) : goodC C := of_decide_eq_true h
theorem RetZI.out {w : World} {xs : List Int} {z : Int} {e : Ending} {w' : World} (h : RetZI w xs z e w') {n : Nat} (hn : xs.length = n) : ∃ a c, e = .returned (.tuple #[.slice a n c, .int .i64 z]) ∧ IZ w' a xs ∧ n ≤ c ∧ Below w.heap.size w w' := by
  subst hn; exact h
end Go.Proofs.Ytkecdjdggkpdpaa
