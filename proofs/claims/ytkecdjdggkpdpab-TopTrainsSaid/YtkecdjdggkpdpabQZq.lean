/- Zq -/
import Derived.Test.YtkecdjdggkpdpabQWl
set_option linter.unusedVariables false
/- Walks of the reference's fractions: Whole, AddQ, SubQ, MulQ, CmpQ. (Printed by wip/tools/gen_zq.py.) -/
namespace Go.Proofs.Ytkecdjdggkpdpab
open Go Go.RowKit Go.Proofs

/-- A pair of integers in memory. -/
def QM (w : World) (a : Option Addr) (c : Nat) (a' : Option Addr) (c' : Nat) (n d : Int) : Prop := ZM w a c n ∧ ZM w a' c' d
theorem QM.up {w w' : World} {a a' : Option Addr} {c c' : Nat} {n d : Int} (h : QM w a c a' c' n d) (hb : Below w.heap.size w w') : QM w' a c a' c' n d := ⟨h.1.up hb, h.2.up hb⟩
def RetQ (w : World) (n d : Int) (e : Ending) (w' : World) : Prop :=
  ∃ a c a' c', e = .returned (.agg #[.bool (ng n), .slice a (LZ n) c, .bool (ng d), .slice a' (LZ d) c']) ∧ QM w' a c a' c' n d ∧ Below w.heap.size w w'
/-- Sizes that the walks bear. -/
def SzQ (n d : Int) : Prop := LZ n ≤ 10000000 ∧ LZ d ≤ 10000000

theorem ZM.set4 {w : World} {a : Option Addr} {c N : Nat} {z : Int} (h : ZM w a c z) (hN : NoInt w N) (b0 b1 : Bool) (x0 x1 : Option Addr) (n0 n1 k0 k1 : Nat) :
    ZM ((((w.setCell ⟨N, 0, none⟩ (.bool b0)).setCell ⟨N, 1, none⟩ (.slice x0 n0 k0)).setCell ⟨N, 2, none⟩ (.bool b1)).setCell ⟨N, 3, none⟩ (.slice x1 n1 k1)) a c z := by
  have t1 := hN.set ⟨N, 0, none⟩ (.bool b0) (by intro _ _ h; cases h)
  have t2 := t1.set ⟨N, 1, none⟩ (.slice x0 n0 k0) (by intro _ _ h; cases h)
  have t3 := t2.set ⟨N, 2, none⟩ (.bool b1) (by intro _ _ h; cases h)
  exact (((h.setN hN _ _).setN t1 _ _).setN t2 _ _).setN t3 _ _
theorem RetQ.fin {w W w1 : World} {a a' : Option Addr} {c c' N : Nat} {n d : Int} (h1 : ZM w1 a c n) (h2 : ZM w1 a' c' d) (hb : Below w.heap.size w W) (hk : Below N W w1) (hN : w.heap.size ≤ N) :
    RetQ w n d (.returned (.agg #[.bool (ng n), .slice a (LZ n) c, .bool (ng d), .slice a' (LZ d) c'])) w1 := ⟨a, c, a', c', rfl, ⟨h1, h2⟩, hb.trans (hk.mono hN)⟩

theorem ZM.kqZ {W w' : World} {a : Option Addr} {c : Nat} {z : Int} (h : ZM W a c z) (hk : Kq W w') : ZM w' a c z := h.up hk.2

end Go.Proofs.Ytkecdjdggkpdpab
