/- Yd -/
import Derived.Test.YtbehfhmdilifkaaGreatQWo
import Derived.Test.YtbehfhmdilifkaaGreatQWe
set_option linter.unusedVariables false
/- Walks of the reference's words: Is, Are. -/
namespace Go.Proofs.YtbehfhmdilifkaaGreat
open Go Go.RowKit Go.Proofs

/-- A fraction whose parts have at most 4000 digits. -/
def Short4 (q : Rat) : Prop := (rn q).natAbs < p10 4000 ∧ (rd q).natAbs < p10 4000
theorem Short4.sz {q : Rat} (h : Short4 q) : LZ (rn q) ≤ 1000000 ∧ LZ (rd q) ≤ 1000000 := by
  have h1 := LZ_small h.1
  have h2 := LZ_small h.2
  exact ⟨by omega, by omega⟩
end Go.Proofs.YtbehfhmdilifkaaGreat
