/- WearC -/
import Derived.Test.YtkecdjdggkpdpabQWe
set_option linter.unusedVariables false
/- Walks of package wear: dot. -/
namespace Go.Proofs.Ytkecdjdggkpdpab
open Go Go.RowKit Go.Proofs

theorem Rg.self {N n : Nat} {V w : World} (h : Rg N n V w) : Rg N n w w := Rg.mk (Below.refl _ _) (fun o ho => by rw [h.2.1 o ho]; rfl) h.2.2.1 h.2.2.2.1
theorem Rg.far {N n g k : Nat} {w : World} (h : Rg N n w w) (hN : g ≠ N) (v : Value) : Rg N n (w.setCell ⟨g, k, none⟩ v) (w.setCell ⟨g, k, none⟩ v) := by
  refine Rg.mk (Below.refl _ _) (fun o ho => ?_) (fun o => ?_) (fun o k' z hc => ?_)
  · rw [World.cell?_setCell_far _ _ _ _ hN, h.2.1 o ho]; rfl
  · have := h.2.2.1 o; simp; simpa using this
  · rw [World.cell?_setCell_far _ _ _ _ hN] at hc; exact h.noInt o k' z hc

/-- A box that is kept from round to round at block N, the result's block behind it. -/
def Loop2 (w wr : World) (p : RP) (q : Rat) : Prop := Box wr w.heap.size p q ∧ Rg w.heap.size 4 wr wr ∧ Rg (w.heap.size + 1) 4 wr wr ∧ Below w.heap.size w wr
theorem Loop2.step {w wr w' : World} {p : RP} {q : Rat} (h : Loop2 w wr p q) (hb : Below wr.heap.size wr w') : Loop2 w w' p q :=
  ⟨h.1.up hb, (Rg.step h.2.1 (by omega) hb).self, (Rg.step h.2.2.1 (by omega) hb).self, h.2.2.2.trans (hb.mono h.2.2.2.size)⟩
theorem Loop2.store {w wr : World} {p : RP} {q r r' : Rat} {a a' : Option Addr} {c c' : Nat} (h : Loop2 w wr p q) (hm : RM wr a c a' c' r) (hr : r = r') :
    Loop2 w ((((wr.setCell ⟨w.heap.size, 0, none⟩ (.bool (ng (rn r)))).setCell ⟨w.heap.size, 1, none⟩ (.slice a (LI (rn r)) c)).setCell ⟨w.heap.size, 2, none⟩ (.bool (ng (rd r)))).setCell ⟨w.heap.size, 3, none⟩ (.slice a' (LI (rd r)) c')) ⟨a, c, a', c'⟩ r' := by
  obtain ⟨b1, b2⟩ := Rg.box h.2.1 hm hr
  have hN : w.heap.size ≠ w.heap.size + 1 := by omega
  exact ⟨b1, b2.self, (((h.2.2.1.far hN _).far hN _).far hN _).far hN _, below_set4 h.2.2.2 (Nat.le_refl _) _ _ _ _⟩

def dotl (xs ys : List Rat) : Rat := (List.zipWith (· * ·) xs ys).sum
/-- The sum of the first k products. -/
def pdot (xs ys : List Rat) (k : Nat) : Rat := psum (List.zipWith (· * ·) xs ys) k

theorem pdot_next (xs ys : List Rat) (k : Nat) (p q : Rat) (hp : xs[k]? = some p) (hq : ys[k]? = some q) : pdot xs ys k + p * q = pdot xs ys (k + 1) :=
  psum_next _ _ _ (by rw [List.getElem?_zipWith, hp, hq])

end Go.Proofs.Ytkecdjdggkpdpab
