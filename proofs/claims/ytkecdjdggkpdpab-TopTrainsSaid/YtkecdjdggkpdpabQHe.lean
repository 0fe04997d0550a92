/- He -/
import Derived.Test.YtkecdjdggkpdpabQTh
import Derived.Test.YtkecdjdggkpdpabQTj
set_option linter.unusedVariables false
/- Walks of the reference's Terms and Near. -/
namespace Go.Proofs.Ytkecdjdggkpdpab
open Go Go.RowKit Go.Proofs

def TermsR (T : List Nat) (n : Nat) (w : World) (e : Ending) (w' : World) : Prop := ∃ g c, e = .returned (.slice (some ⟨g, 0, none⟩) n c) ∧ n ≤ c ∧ IZ w' (some ⟨g, 0, none⟩) (nzT T) ∧ Below w.heap.size w w'
/-- The reference's search, before the first fraction or behind it. -/
def NR (o u Q k : Nat) (bp : Int) (bq : Nat) : Prop := (Q = 1 ∧ k = 0 ∧ bp = -1 ∧ bq = 1) ∨ ∃ p : Nat, bp = (p : Int) ∧ NB o u Q k p bq
theorem NR.low {o u Q k : Nat} {bp : Int} {bq : Nat} (h : NR o u Q k bp bq) : bp < 0 → Q = 1 ∧ k = 0 := fun hlt => by
  rcases h with h | ⟨p, hp, _⟩
  · exact ⟨h.1, h.2.1⟩
  · omega
theorem NR.next {o u Q : Nat} {bp : Int} {bq : Nat} (hQ : 1 ≤ Q) (h : NR o u Q 2 bp bq) : NR o u (Q + 1) 0 bp bq := by
  rcases h with h | ⟨p, hp, hB⟩
  · omega
  · exact .inr ⟨p, hp, hB.next hQ⟩
end Go.Proofs.Ytkecdjdggkpdpab
