/- Rat3 -/
import Derived.Test.YtbehfhmdilifkaaQWd
set_option linter.unusedVariables false
/- Walks of the program's fractions: Add, Sub, Mul, Div, Cmp, Neg, Sign. (Printed by wip/tools/gen_rat3.py.) -/
namespace Go.Proofs.Ytbehfhmdilifkaa
open Go Go.RowKit Go.Proofs

/-- A fraction whose two parts have few limbs. -/
def Sz (q : Rat) : Prop := LI (rn q) ≤ 10000000 ∧ LI (rd q) ≤ 10000000

theorem isInt_spec {q : Rat} (h : isInt q = true) : ((rn q : Int) : Rat) = q := by
  have hd : rd q = 1 := by simpa [isInt] using h
  unfold rd at hd
  refine Rat.ext rfl ?_
  have : q.den = 1 := by omega
  rw [this]; rfl

theorem rat_add (p q : Rat) : Rat.divInt (rn p * rd q + rn q * rd p) (rd p * rd q) = p + q := by
  rw [← Rat.divInt_add_divInt _ _ (by have := rd_pos p; omega) (by have := rd_pos q; omega), rat_eq, rat_eq]

theorem rat_mul (p q : Rat) : Rat.divInt (rn p * rn q) (rd p * rd q) = p * q := by
  rw [← Rat.divInt_mul_divInt, rat_eq, rat_eq]

theorem rat_div (p q : Rat) : Rat.divInt (rn p * rd q) (rd p * rn q) = p / q := by
  rw [← Rat.divInt_mul_divInt, rat_eq, Rat.div_def]
  congr 1
  have := Rat.inv_divInt (rn q) (rd q)
  rw [rat_eq] at this
  rw [this]

theorem rat_add_int {p q : Rat} (hp : isInt p = true) (hq : isInt q = true) : ((rn p + rn q : Int) : Rat) = p + q := by
  rw [Rat.intCast_add, isInt_spec hp, isInt_spec hq]

theorem rat_mul_int {p q : Rat} (hp : isInt p = true) (hq : isInt q = true) : ((rn p * rn q : Int) : Rat) = p * q := by
  rw [Rat.intCast_mul, isInt_spec hp, isInt_spec hq]

end Go.Proofs.Ytbehfhmdilifkaa
