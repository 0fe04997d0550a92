/- Ta -/

set_option linter.unusedVariables false
/- Plain: the terms of a fraction, common divisors, roots. -/
namespace Go.Proofs.Ytbehfhmdilifkaa

/-- The terms of a fraction. -/
def trm (a b : Nat) : List Nat := if h : b = 0 then [] else (a / b) :: trm b (a % b)
termination_by b
decreasing_by exact Nat.mod_lt _ (by omega)
theorem trm_zero (a : Nat) : trm a 0 = [] := by rw [trm]; simp
theorem trm_pos {a b : Nat} (h : 0 < b) : trm a b = (a / b) :: trm b (a % b) := by
  conv => lhs; rw [trm]
  rw [dif_neg (by omega)]
theorem trm_length (a b : Nat) : (trm a b).length ≤ b := by
  induction b using Nat.strongRecOn generalizing a with
  | _ b ih =>
    rcases Nat.eq_zero_or_pos b with rfl | hb
    · rw [trm_zero]; exact Nat.le_refl _
    · rw [trm_pos hb, List.length_cons]
      have h1 := Nat.mod_lt a hb
      have h2 := ih (a % b) h1 b
      omega
theorem trm_ne {a b : Nat} (h : 0 < b) : trm a b ≠ [] := by rw [trm_pos h]; simp
/-- n is the greatest number whose square is at most x. -/
def Sq (n x : Nat) : Prop := n * n ≤ x ∧ x < (n + 1) * (n + 1)
theorem Sq.unique {n m x : Nat} (h : Sq n x) (k : Sq m x) : n = m := by
  rcases Nat.lt_trichotomy n m with h1 | h1 | h1
  · have := Nat.mul_le_mul h1 h1
    have := k.1; have := h.2
    simp only [Nat.succ_eq_add_one] at *
    omega
  · exact h1
  · have := Nat.mul_le_mul h1 h1
    have := h.1; have := k.2
    simp only [Nat.succ_eq_add_one] at *
    omega
/-- The greatest number whose square is at most x. -/
def fl : Nat → Nat
  | 0 => 0
  | x + 1 => if (fl x + 1) * (fl x + 1) ≤ x + 1 then fl x + 1 else fl x
theorem fl_sq (x : Nat) : Sq (fl x) x := by
  induction x with
  | zero => exact ⟨Nat.le_refl _, by simp [fl]⟩
  | succ x ih =>
    unfold fl
    obtain ⟨h1, h2⟩ := ih
    by_cases h : (fl x + 1) * (fl x + 1) ≤ x + 1
    · rw [if_pos h]
      refine ⟨h, ?_⟩
      have e : (fl x + 1 + 1) * (fl x + 1 + 1) = (fl x + 1) * (fl x + 1) + 2 * (fl x) + 3 := by simp only [Nat.add_mul, Nat.mul_add]; omega
      omega
    · rw [if_neg h]
      exact ⟨by omega, by omega⟩
theorem Sq.fl {n x : Nat} (h : Sq n x) : fl x = n := (fl_sq x).unique h
theorem fl_le (x : Nat) : fl x ≤ x := by
  have h := (fl_sq x).1
  rcases Nat.eq_zero_or_pos (fl x) with h0 | h0
  · omega
  · exact Nat.le_trans (Nat.le_mul_of_pos_left _ h0) h
theorem fl_mono {x y : Nat} (h : x ≤ y) : fl x ≤ fl y := by
  refine Nat.le_of_not_lt fun hlt => ?_
  have h1 := (fl_sq x).1
  have h2 := (fl_sq y).2
  have h3 := Nat.mul_le_mul hlt hlt
  simp only [Nat.succ_eq_add_one] at h3
  omega
/-- A greater number's square is greater. -/
theorem sq_lt {a b : Nat} (h : a * a < b * b) : a < b := by
  refine Nat.lt_of_not_le fun hle => ?_
  have := Nat.mul_le_mul hle hle
  omega
theorem sq_le {a b : Nat} (h : a * a ≤ b * b) : a ≤ b := by
  refine Nat.le_of_not_lt fun hlt => ?_
  have := Nat.mul_lt_mul_of_lt_of_lt hlt hlt
  omega
end Go.Proofs.Ytbehfhmdilifkaa
