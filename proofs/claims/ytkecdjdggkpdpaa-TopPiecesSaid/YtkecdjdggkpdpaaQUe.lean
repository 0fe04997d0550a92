/- Ue -/
import Derived.Test.YtkecdjdggkpdpaaQUc
import Derived.Test.YtkecdjdggkpdpaaQGr
set_option linter.unusedVariables false
/- Walk of PairLacks. -/
namespace Go.Proofs.Ytkecdjdggkpdpaa
open Go Go.RowKit Go.Proofs

theorem lackI_ex (A : Nat → Nat → Bool) (n : Nat) : ∀ u, ∃ best, LackI A n (u + 1) best := by
  intro u
  induction u with
  | zero => exact ⟨none, LackI.start A n⟩
  | succ u ih =>
    obtain ⟨best, h⟩ := ih
    rcases hb : lackB A n (bitsL (u + 1) n)
    · exact ⟨best, h.no hb⟩
    · cases best with
      | none => exact ⟨_, h.take hb (.inl rfl)⟩
      | some p =>
        by_cases hk : p.length < (bitsL (u + 1) n).length ∨ (p.length = (bitsL (u + 1) n).length ∧ p ≤ bitsL (u + 1) n)
        · exact ⟨some p, h.keep hk⟩
        · refine ⟨_, h.take hb (.inr ⟨p, rfl, ?_⟩)⟩
          rcases Nat.lt_trichotomy (bitsL (u + 1) n).length p.length with h1 | h1 | h1
          · exact .inl h1
          · refine .inr ⟨h1, ?_⟩
            have : ¬ p ≤ bitsL (u + 1) n := fun hle => hk (.inr ⟨h1.symm, hle⟩)
            exact List.not_le.1 this
          · exact absurd (.inl h1) hk
theorem least_or (A : Nat → Nat → Bool) (n : Nat) : (∀ q, Asc n 0 q → lackB A n q = false) ∨ ∃ p, LeastL A n p := by
  obtain ⟨best, h⟩ := lackI_ex A n (2 ^ n - 1)
  have hp := Nat.two_pow_pos n
  rw [show 2 ^ n - 1 + 1 = 2 ^ n by omega] at h
  cases best with
  | none => exact .inl h.none
  | some p => exact .inr ⟨p, h.done⟩
theorem Asc.short {n : Nat} {p : List Nat} (h : Asc n 0 p) : p.length ≤ n := by
  rcases h.len with h1 | h1
  · omega
  · subst h1; simp
end Go.Proofs.Ytkecdjdggkpdpaa
