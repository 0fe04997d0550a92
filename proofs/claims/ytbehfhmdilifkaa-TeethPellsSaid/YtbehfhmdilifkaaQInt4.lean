/- Int4 -/
import Derived.Test.YtbehfhmdilifkaaQWc
import Derived.Deep.CutBlock
import Derived.Deep.CutRange
set_option linter.unusedVariables false
/- Walk of the program's integers: Quo, where it leaves no rest. -/
namespace Go.Proofs.Ytbehfhmdilifkaa
open Go Go.RowKit Go.Proofs

/-- Two structs of two cells for parameters, and two for the results. -/
theorem boxed4 (w : World) (x0 x1 y0 y1 : Value) (T U V : TypeId) :
    ∃ W, W = ((((w.alloc (Obj.cells #[x0, x1] T)).alloc (Obj.cells #[y0, y1] U)).alloc (Obj.cells #[.bool false, .slice none 0 0] V)).alloc (Obj.cells #[.bool false, .slice none 0 0] V)) ∧ Below w.heap.size w W ∧
      W.cell? ⟨w.heap.size, 0, none⟩ = some x0 ∧ W.cell? ⟨w.heap.size, 1, none⟩ = some x1 ∧ W.cell? ⟨w.heap.size + 1, 0, none⟩ = some y0 ∧ W.cell? ⟨w.heap.size + 1, 1, none⟩ = some y1 ∧
      W.heap.size = w.heap.size + 4 := by
  refine ⟨_, rfl, ?_, ?_, ?_, ?_, ?_, ?_⟩
  · go_grown
  · simp [go_sem]
  · simp [go_sem]
  · simp [go_sem]
  · simp [go_sem]
  · simp

def madeB (s : Bool) (n : Nat) : Bool := s && decide (0 < L B32 n)

set_option maxHeartbeats 400000 in
/-- What 'made' leaves, to the cell. -/
theorem made_eq (s : Bool) (a : Option Addr) (c n : Nat) (w : World) :
    Calls Try.prog 84 #[.bool s, .slice a (L B32 n) c] w fun e w' => e = .returned (.agg #[.bool (madeB s n), .slice a (L B32 n) c]) ∧ w' = w.alloc (.cells #[.bool (madeB s n), .slice a (L B32 n) c] 98) := by
  cases s
  · have hb : madeB false n = false := rfl
    rw [hb]
    go_enter Try.func84, Try.ntmps84
    go_wp2
    go_returns
    exact ⟨rfl, rfl⟩
  · by_cases hL : 0 < L B32 n
    · have hb : madeB true n = true := by simp [madeB, hL]
      rw [hb]
      go_enter Try.func84, Try.ntmps84
      go_wp2
      go_returns
      exact ⟨rfl, rfl⟩
    · have hb : madeB true n = false := by simp [madeB]; omega
      rw [hb]
      go_enter Try.func84, Try.ntmps84
      go_wp2
      go_returns
      exact ⟨rfl, rfl⟩

def QuoPost (w : World) (z : Int) (e : Ending) (w' : World) : Prop :=
  ∃ a c a' c', e = .returned (.tuple #[.agg #[.bool (ng z), .slice a (LI z) c], .agg #[.bool false, .slice a' 0 c']]) ∧ IM w' a c z ∧ Below w.heap.size w w'

theorem madeB_ng (s : Bool) (n : Nat) (z : Int) (h : sgn s n = z) : madeB s n = ng z ∧ L B32 n = LI z ∧ ∀ w a c, Mag w a c n → IM w a c z := by
  subst h
  refine ⟨?_, ?_, fun w a c hm => ?_⟩
  · rw [ng_sgn, madeB]
    congr 1
    rw [decide_eq_decide]
    have := L_eq_zero two_le_B32 (n := n)
    omega
  · unfold LI; rw [natAbs_sgn]
  · unfold IM; rw [natAbs_sgn]; exact hm

end Go.Proofs.Ytbehfhmdilifkaa
