/- Tm -/
import Derived.Test.YtbehfhmdilifkaaQTl
import Derived.Test.YtbehfhmdilifkaaQTk
import Derived.Test.YtbehfhmdilifkaaQWe
set_option linter.unusedVariables false
/- Boxes of the program's integers; the loop of Pell. -/
namespace Go.Proofs.Ytbehfhmdilifkaa
open Go Go.RowKit Go.Proofs

/-- A box holds a number. -/
structure PI (W : World) (b n : Nat) (a : Option Addr) (c : Nat) : Prop where
  blk : Blk W b 98 [.bool (ng (n : Int)), .slice a (LI (n : Int)) c]
  im : IM W a c (n : Int)
def PIs (W : World) (b n : Nat) : Prop := ∃ a c, PI W b n a c
theorem PI.noInt {W : World} {b n : Nat} {a : Option Addr} {c : Nat} (h : PI W b n a c) : NoInt W b := fun o k z hc => by
  rw [h.blk.cell] at hc
  rcases o with _ | _ | o
  · simp at hc
  · simp at hc
  · simp at hc
theorem PIs.below {W W' : World} {b n : Nat} (h : PIs W b n) (hb : Below W.heap.size W W') : PIs W' b n := by
  obtain ⟨a, c, h1, h2⟩ := h
  exact ⟨a, c, h1.later hb, h2.up hb⟩
theorem PIs.lt {W : World} {b n : Nat} (h : PIs W b n) : b < W.heap.size := by
  obtain ⟨a, c, h1, _⟩ := h
  exact h1.lt
/-- What a box holds is written anew. -/
def putI (W : World) (b : Nat) (m : Nat) (a : Option Addr) (c : Nat) : World := (W.setCell ⟨b, 0, none⟩ (.bool (ng (m : Int)))).setCell ⟨b, 1, none⟩ (.slice a (LI (m : Int)) c)
theorem PIs.imPut {W : World} {b n m c : Nat} {a a' : Option Addr} {c' : Nat} {z : Int} (h : PIs W b n) (hi : IM W a' c' z) : IM (putI W b m a c) a' c' z := by
  obtain ⟨a0, c0, h0⟩ := h
  have n0 := h0.noInt
  exact (hi.setN n0 0 _).setN (n0.set ⟨b, 0, none⟩ (.bool (ng (m : Int))) (by intro _ _ h; cases h)) 1 _
theorem PIs.put {W : World} {b n m c : Nat} {a : Option Addr} (h : PIs W b n) (hi : IM W a c (m : Int)) : PIs (putI W b m a c) b m := by
  obtain ⟨a0, c0, h0⟩ := h
  refine ⟨a, c, ?_, PIs.imPut (b := b) (n := n) ⟨a0, c0, h0⟩ hi⟩
  exact Blk.set (Blk.set h0.blk 0 _) 1 _
theorem PIs.other {W : World} {b b' n k m c : Nat} {a : Option Addr} (h : PIs W b n) (h' : PIs W b' k) (hne : b' ≠ b) : PIs (putI W b m a c) b' k := by
  obtain ⟨a0, c0, h0⟩ := h'
  exact ⟨a0, c0, (Blk.far (Blk.far h0.blk (by exact hne) _) (by exact hne) _), h.imPut h0.im⟩
theorem PIs.izPut {W : World} {b n m c : Nat} {a : Option Addr} {ao : Option Addr} {xs : List Int} (h : PIs W b n) (hi : IZ W ao xs) : IZ (putI W b m a c) ao xs := by
  obtain ⟨a0, c0, h0⟩ := h
  have n0 := h0.noInt
  exact (hi.setN n0 0 _).setN (n0.set ⟨b, 0, none⟩ (.bool (ng (m : Int))) (by intro _ _ h; cases h)) 1 _
/-- Four boxes: a convergent's numerator, the one before it, and both denominators. -/
structure P4 (W : World) (b1 b2 b3 b4 : Nat) (s : Cv) : Prop where
  x : PIs W b1 s.1
  e : PIs W b2 s.2.1
  y : PIs W b3 s.2.2.1
  f : PIs W b4 s.2.2.2
theorem P4.below {W W' : World} {b1 b2 b3 b4 : Nat} {s : Cv} (h : P4 W b1 b2 b3 b4 s) (hb : Below W.heap.size W W') : P4 W' b1 b2 b3 b4 s := ⟨h.x.below hb, h.e.below hb, h.y.below hb, h.f.below hb⟩
structure N4 (b1 b2 b3 b4 : Nat) : Prop where
  n12 : b1 ≠ b2
  n13 : b1 ≠ b3
  n14 : b1 ≠ b4
  n23 : b2 ≠ b3
  n24 : b2 ≠ b4
  n34 : b3 ≠ b4
theorem P4.put1 {W : World} {b1 b2 b3 b4 : Nat} {s : Cv} (h : P4 W b1 b2 b3 b4 s) (hn : N4 b1 b2 b3 b4) {z : Nat} {a1 a2 : Option Addr} {c1 c2 : Nat} (h1 : IM W a1 c1 (z : Int)) (h2 : IM W a2 c2 (s.1 : Int)) :
    P4 (putI (putI W b1 z a1 c1) b2 s.1 a2 c2) b1 b2 b3 b4 (z, s.1, s.2.2.1, s.2.2.2) := by
  have e1 := h.x.other h.e (m := z) (a := a1) (c := c1) hn.n12.symm
  exact ⟨e1.other (h.x.put h1) hn.n12, e1.put (h.x.imPut h2), e1.other (h.x.other h.y hn.n13.symm) hn.n23.symm, e1.other (h.x.other h.f hn.n14.symm) hn.n24.symm⟩
theorem P4.put2 {W : World} {b1 b2 b3 b4 : Nat} {s : Cv} (h : P4 W b1 b2 b3 b4 s) (hn : N4 b1 b2 b3 b4) {z : Nat} {a1 a2 : Option Addr} {c1 c2 : Nat} (h1 : IM W a1 c1 (z : Int)) (h2 : IM W a2 c2 (s.2.2.1 : Int)) :
    P4 (putI (putI W b3 z a1 c1) b4 s.2.2.1 a2 c2) b1 b2 b3 b4 (s.1, s.2.1, z, s.2.2.1) := by
  have e1 := h.y.other h.f (m := z) (a := a1) (c := c1) hn.n34.symm
  exact ⟨e1.other (h.y.other h.x hn.n13) hn.n14, e1.other (h.y.other h.e hn.n23) hn.n24, e1.other (h.y.put h1) hn.n34, e1.put (h.y.imPut h2)⟩
theorem putI_below {B : Nat} {W0 W : World} {b m c : Nat} {a : Option Addr} (h : Below B W0 W) (hb : B ≤ b) : Below B W0 (putI W b m a c) := (h.setCell hb _).setCell hb _
theorem ofN (n : Nat) (w : World) (hn : n ≤ 4611686018427387904) : Calls Try.prog 58 #[.int .i64 (n : Nat)] w (RetInt w (n : Int)) := of_nat n w hn
theorem mulN3 (a1 a2 : Option Addr) (c1 c2 : Nat) (x y z : Nat) (w : World) (h1 : IM w a1 c1 (x : Int)) (h2 : IM w a2 c2 (y : Int)) (hb1 : LI (x : Int) ≤ 1000) (hb2 : LI (y : Int) ≤ 1000) (hz : x * y = z) :
    Calls Try.prog 59 #[.agg #[.bool (ng (x : Int)), .slice a1 (LI (x : Int)) c1], .agg #[.bool (ng (y : Int)), .slice a2 (LI (y : Int)) c2]] w (RetInt w (z : Int)) := by
  have := mul_any a1 a2 c1 c2 x y w h1 h2 (by omega) (by omega)
  rw [mulN hz] at this
  exact this
theorem addN3 (a1 a2 : Option Addr) (c1 c2 : Nat) (x y z : Nat) (w : World) (h1 : IM w a1 c1 (x : Int)) (h2 : IM w a2 c2 (y : Int)) (hb1 : LI (x : Int) ≤ 1000) (hb2 : LI (y : Int) ≤ 1000) (hz : x + y = z) :
    Calls Try.prog 60 #[.agg #[.bool (ng (x : Int)), .slice a1 (LI (x : Int)) c1], .agg #[.bool (ng (y : Int)), .slice a2 (LI (y : Int)) c2]] w (RetInt w (z : Int)) := by
  have := add_any a1 a2 c1 c2 x y w h1 h2 (by omega) (by omega)
  rw [show (x : Int) + (y : Int) = (z : Int) by omega] at this
  exact this
theorem LI_cvB {n : Nat} (h : n < cvB) : LI (n : Int) ≤ 11 := by
  rw [LI_nat]
  refine Nat.le_trans (L_mono two_le_B32 (Nat.le_of_lt h)) ?_
  decide
end Go.Proofs.Ytbehfhmdilifkaa
