/- Tj -/
import Derived.Test.YtkecdjdggkpdpabQTa
import Derived.Test.YtkecdjdggkpdpabQTd
set_option linter.unusedVariables false
/- Walks of Root, of the program and of the reference. -/
namespace Go.Proofs.Ytkecdjdggkpdpab
open Go Go.RowKit Go.Proofs

def RootPost (P : List Nat) (n : Nat) (w : World) (e : Ending) (w' : World) : Prop := ∃ g c, e = .returned (.tuple #[.int .i64 (n : Nat), .slice (some ⟨g, 0, none⟩) P.length c, .int .i64 0]) ∧ P.length ≤ c ∧ IZ w' (some ⟨g, 0, none⟩) (nzT P) ∧ Below w.heap.size w w'
theorem nzT_length (l : List Nat) : (nzT l).length = l.length := by unfold nzT; rw [List.length_map]
theorem nzT_snoc (l : List Nat) (x : Nat) : nzT (l ++ [x]) = nzT l ++ [(x : Int)] := by unfold nzT; rw [List.map_append]; rfl
def RootRPost (P : List Nat) (n : Nat) (w : World) (e : Ending) (w' : World) : Prop := ∃ g c, e = .returned (.tuple #[.int .i64 (n : Nat), .slice (some ⟨g, 0, none⟩) P.length c]) ∧ P.length ≤ c ∧ IZ w' (some ⟨g, 0, none⟩) (nzT P) ∧ Below w.heap.size w w'
end Go.Proofs.Ytkecdjdggkpdpab
