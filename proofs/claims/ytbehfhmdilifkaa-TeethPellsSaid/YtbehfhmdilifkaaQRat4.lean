/- Rat4 -/
import Derived.Test.YtbehfhmdilifkaaQRat3
set_option linter.unusedVariables false
/- Walks of the program's fractions: Neg, Sub, Div, Cmp, Sign. (Printed by wip/tools/gen_rat4.py.) -/
namespace Go.Proofs.Ytbehfhmdilifkaa
open Go Go.RowKit Go.Proofs

theorem RM.kp {w W w' : World} {a a' : Option Addr} {c c' N k : Nat} {q : Rat} (h : RM w a c a' c' q) (hb : Below w.heap.size w W) (hk : Rg N k W w') (hN : w.heap.size ≤ N) : RM w' a c a' c' q := ⟨h.1.kp hb hk hN, h.2.kp hb hk hN⟩
theorem RM.kq {W w' : World} {a a' : Option Addr} {c c' : Nat} {q : Rat} (h : RM W a c a' c' q) (hk : Kq W w') : RM w' a c a' c' q := ⟨h.1.kq hk, h.2.kq hk⟩
theorem Kq.below {W w' : World} (h : Kq W w') : Below W.heap.size W w' := h.2

theorem rn_neg (q : Rat) : rn (-q) = -rn q := rfl
theorem rd_neg (q : Rat) : rd (-q) = rd q := rfl
theorem Sz.neg {q : Rat} (h : Sz q) : Sz (-q) := ⟨by rw [rn_neg, LI_neg]; exact h.1, by rw [rd_neg]; exact h.2⟩
theorem rn_div_pos (p q : Rat) (h : 0 < rn q) : 0 < rd p * rn q := Int.mul_pos (rd_pos p) h

/-- The sign of a difference, by the cross products. -/
def rsg (p q : Rat) : Int := sg (rn p * rd q - rn q * rd p)

end Go.Proofs.Ytbehfhmdilifkaa
