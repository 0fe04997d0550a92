/- Ys -/
import Derived.Test.YtcaeonpjokkjnaaKXa
import Derived.Test.YtcaeonpjokkjnaaKXc
set_option linter.unusedVariables false
/- Walk of the reference: Spares. -/
namespace Go.Proofs.Ytcaeonpjokkjnaa
open Go Go.RowKit Go.Proofs

theorem whole00 (w : World) : Calls Try.prog 15 #[.int .i64 0] w (RetQ w (rn 0) (rd 0)) := wholeq_any 0 w (by omega)
theorem sg_pos {q : Rat} (h : 0 ≤ q) : sg (rn q) = 0 ∨ sg (rn q) = 1 := by
  have h1 : 0 ≤ (rn q) := Rat.num_nonneg.2 h
  unfold sg; split <;> (try split) <;> omega
theorem sgz_rn {q : Rat} (h : sg (rn q) = 0) : q = 0 := by
  have h1 : rn q = 0 := by
    unfold sg at h
    split at h
    · omega
    · split at h <;> omega
  exact Rat.num_eq_zero.1 h1
theorem take_nx {l : List Rat} {k : Nat} {q : Rat} (h : l[k]? = some q) : l.take k ++ [q] = l.take (k + 1) := by
  rw [List.take_add_one, h]; rfl
/-- What the walk of Spares asks for. -/
structure SpSt (ps : List Rat) (n k : Nat) : Prop where
  own4 : ∀ p ∈ ps, Short4 p
  non : ∀ p ∈ ps, 0 ≤ p
  all4 : ∀ t, t ≤ k → ∀ q ∈ spL ps n t, Short4 q
  pos : ∀ t, t ≤ k → ∀ q ∈ spL ps n t, 0 ≤ q
theorem Lv.spSt {ps : List Rat} (h : Lv ps) {n k : Nat} (hk : k ≤ 40) : SpSt ps n k where
  own4 := h.own4
  non := h.non
  all4 t ht := h.sp4 (by omega)
  pos t _ q hq := (h.sp n t q hq).1

end Go.Proofs.Ytcaeonpjokkjnaa
