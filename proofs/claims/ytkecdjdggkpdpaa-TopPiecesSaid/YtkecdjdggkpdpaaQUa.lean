/- Ua -/
import Derived.Test.YtkecdjdggkpdpaaQPd
set_option linter.unusedVariables false
/- Walks of the laws' own helpers: cut, few. -/
namespace Go.Proofs.Ytkecdjdggkpdpaa
open Go Go.RowKit Go.Proofs

/-- The first rows, each cut: at most 6, or 9 of more than 8. -/
def fewK (n : Nat) : Nat := if 8 < n then 9 else 6
def fewM (C : List (List Int)) : List (List Int) := (C.take (fewK C.length)).map fun r => r.take 9
theorem fewM_len (C : List (List Int)) : (fewM C).length = min (fewK C.length) C.length := by simp [fewM]
theorem fewM_small (C : List (List Int)) : (fewM C).length ≤ 9 := by
  rw [fewM_len]; unfold fewK; split <;> omega
theorem fewM_row {C : List (List Int)} {r : List Int} (h : r ∈ fewM C) : r.length ≤ 9 := by
  unfold fewM at h
  obtain ⟨x, _, rfl⟩ := List.mem_map.1 h
  rw [List.length_take]; omega
theorem fewM_next {C : List (List Int)} {k : Nat} {r : List Int} (hk : k < fewK C.length) (h : C[k]? = some r) : (fewM C).take k ++ [r.take 9] = (fewM C).take (k + 1) := by
  exact (take_last (by unfold fewM; rw [List.getElem?_map, List.getElem?_take, if_pos hk, h]; rfl)).symm

end Go.Proofs.Ytkecdjdggkpdpaa
