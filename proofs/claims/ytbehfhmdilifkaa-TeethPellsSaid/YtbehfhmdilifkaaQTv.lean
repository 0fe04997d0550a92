/- Tv -/
import Derived.Test.YtbehfhmdilifkaaQTa
set_option linter.unusedVariables false
/- Plain: the terms of a fraction: multiples, the reciprocal; what the convergents are. -/
namespace Go.Proofs.Ytbehfhmdilifkaa

theorem trm_mul {a b k : Nat} (hk : 0 < k) : trm (k * a) (k * b) = trm a b := by
  induction b using Nat.strongRecOn generalizing a with
  | ind b ih =>
    by_cases h : b = 0
    · subst h; rw [Nat.mul_zero, trm_zero, trm_zero]
    · have hb : 0 < b := by omega
      rw [trm_pos (Nat.mul_pos hk hb), trm_pos hb, Nat.mul_div_mul_left _ _ hk, Nat.mul_mod_mul_left, ih (a % b) (Nat.mod_lt _ hb)]
theorem trm_lt {a b : Nat} (h : a < b) : trm a b = 0 :: trm b a := by
  rw [trm_pos (by omega), Nat.div_eq_of_lt h, Nat.mod_eq_of_lt h]
theorem trm_self {a : Nat} (h : 0 < a) : trm a a = [1] := by
  rw [trm_pos h, Nat.div_self h, Nat.mod_self, trm_zero]
end Go.Proofs.Ytbehfhmdilifkaa
