/- Bx -/
import Derived.Test.YtcaeonpjokkjnaaKXa
import Derived.Test.YtcaeonpjokkjnaaKRa
import Derived.Test.YtcaeonpjokkjnaaKXg
import Derived.Test.YtcaeonpjokkjnaaKCo
import Derived.Deep.RegionHeld3
import Derived.Deep.CutRange
set_option linter.unusedVariables false
/- Boxes that hold a fraction, in a region that draws: made and filled in whatever order. -/
namespace Go.Proofs.Ytcaeonpjokkjnaa
open Go Go.RowKit Go.Proofs

/-- A block of four cells that may be filled. -/
abbrev FB (w : World) (g : Nat) : Prop := Rg g 4 w w
theorem FB.new (w : World) : FB (w.alloc (Obj.cells #[.bool false, .slice none 0 0, .bool false, .slice none 0 0] 37)) w.heap.size := Rg.new4 w _ _ rfl
theorem FB.al {w : World} {g : Nat} (h : FB w g) (o : Obj) : FB (w.alloc o) g := Rg.slf (Rg.alloc h (by omega) o)
theorem FB.up {w w' : World} {g : Nat} (h : FB w g) (hb : Below w.heap.size w w') : FB w' g := Rg.slf (Rg.step h (by omega) hb)
theorem FB.lt {w : World} {g : Nat} (h : FB w g) : g < w.heap.size := Rg.lt h (by omega)
theorem FB.far {w : World} {g g' : Nat} (h : FB w g) (hN : g' ≠ g) (v0 v1 v2 v3 : Value) :
    FB ((((w.setCell ⟨g', 0, none⟩ v0).setCell ⟨g', 1, none⟩ v1).setCell ⟨g', 2, none⟩ v2).setCell ⟨g', 3, none⟩ v3) g :=
  Rg.farS (Rg.farS (Rg.farS (Rg.farS h hN v0) hN v1) hN v2) hN v3
theorem FB.noInt {w : World} {g : Nat} (h : FB w g) : NoInt w g := h.2.2.2.1
theorem set_far {w : World} {g b x k : Nat} {v : Value} (h : g ≠ b) : (w.setCell ⟨g, k, none⟩ v).cell? ⟨b, x, none⟩ = w.cell? ⟨b, x, none⟩ := set_off fun e => h e.1
theorem CB.far {w : World} {g g' : Nat} {p : RP} {n d : Int} (h : CB w g p n d) (hN : g' ≠ g) (hI : FB w g') (b0 b1 : Bool) (x0 x1 : Option Addr) (i0 i1 k0 k1 : Nat) :
    CB ((((w.setCell ⟨g', 0, none⟩ (.bool b0)).setCell ⟨g', 1, none⟩ (.slice x0 i0 k0)).setCell ⟨g', 2, none⟩ (.bool b1)).setCell ⟨g', 3, none⟩ (.slice x1 i1 k1)) g p n d := by
  obtain ⟨h1, h2, h3, h4, h5⟩ := h
  refine ⟨⟨h1.1.set4 hI.noInt _ _ _ _ _ _ _ _, h1.2.set4 hI.noInt _ _ _ _ _ _ _ _⟩, ?_, ?_, ?_, ?_⟩
  all_goals rw [set_far hN, set_far hN, set_far hN, set_far hN]
  · exact h2
  · exact h3
  · exact h4
  · exact h5
theorem CB.al {w : World} {g : Nat} {p : RP} {n d : Int} (h : CB w g p n d) (o : Obj) : CB (w.alloc o) g p n d := h.up ((Below.refl _ _).alloc (Nat.le_refl _) _)
theorem CB.lt {w : World} {g : Nat} {p : RP} {n d : Int} (h : CB w g p n d) : g < w.heap.size := World.block_lt_of_cell? w _ h.2.1
theorem FB.self {w : World} {g : Nat} (h : FB w g) (v0 v1 v2 v3 : Value) (h0 : ∀ k z, v0 ≠ .int k z) (h1 : ∀ k z, v1 ≠ .int k z) (h2 : ∀ k z, v2 ≠ .int k z) (h3 : ∀ k z, v3 ≠ .int k z) :
    FB ((((w.setCell ⟨g, 0, none⟩ v0).setCell ⟨g, 1, none⟩ v1).setCell ⟨g, 2, none⟩ v2).setCell ⟨g, 3, none⟩ v3) g :=
  Rg.slf (Rg.set (Rg.set (Rg.set (Rg.set h v0 h0) v1 h1) v2 h2) v3 h3)
theorem FB.own {w : World} {g : Nat} (h : FB w g) (b0 b1 : Bool) (x0 x1 : Option Addr) (n0 n1 k0 k1 : Nat) :
    FB ((((w.setCell ⟨g, 0, none⟩ (.bool b0)).setCell ⟨g, 1, none⟩ (.slice x0 n0 k0)).setCell ⟨g, 2, none⟩ (.bool b1)).setCell ⟨g, 3, none⟩ (.slice x1 n1 k1)) g :=
  h.self _ _ _ _ (by intro _ _ h; cases h) (by intro _ _ h; cases h) (by intro _ _ h; cases h) (by intro _ _ h; cases h)
theorem pq_eq {n d n2 d2 : Int} {q : Rat} {B C : Nat} (h : PQ n d q B) (h2 : PQ n2 d2 q C) : sg (n * d2 - n2 * d) = 0 := by
  obtain ⟨hd, hq, _, _⟩ := h
  obtain ⟨hd2, hq2, _, _⟩ := h2
  have h3 : n * d2 = n2 * d := (Rat.divInt_eq_divInt_iff (n₁ := n) (d₁ := d) (n₂ := n2) (d₂ := d2) (by omega) (by omega)).1 (by rw [hq, hq2])
  rw [h3, Int.sub_self]; rfl
theorem FB.new2 (w : World) (o : Obj) : FB ((w.alloc o).alloc (Obj.cells #[.bool false, .slice none 0 0, .bool false, .slice none 0 0] 37)) (w.heap.size + 1) := by
  have := FB.new (w.alloc o)
  rwa [show (w.alloc o).heap.size = w.heap.size + 1 by simp] at this
theorem CB.new2 {w : World} (o : Obj) {a a' : Option Addr} {c c' : Nat} {n d : Int} (hm : QM w a c a' c' n d) : CB ((w.alloc o).alloc (Obj.cells #[.bool (ng n), .slice a (LZ n) c, .bool (ng d), .slice a' (LZ d) c'] 37)) (w.heap.size + 1) ⟨a, c, a', c'⟩ n d := by
  have := CB.new (QM.al hm o)
  rwa [show (w.alloc o).heap.size = w.heap.size + 1 by simp] at this
theorem QM.st {w : World} {g : Nat} {a a' : Option Addr} {c c' : Nat} {n d : Int} (h : QM w a c a' c' n d) (hF : FB w g) (b0 b1 : Bool) (x0 x1 : Option Addr) (i0 i1 k0 k1 : Nat) :
    QM ((((w.setCell ⟨g, 0, none⟩ (.bool b0)).setCell ⟨g, 1, none⟩ (.slice x0 i0 k0)).setCell ⟨g, 2, none⟩ (.bool b1)).setCell ⟨g, 3, none⟩ (.slice x1 i1 k1)) a c a' c' n d :=
  ⟨h.1.set4 hF.noInt _ _ _ _ _ _ _ _, h.2.set4 hF.noInt _ _ _ _ _ _ _ _⟩
theorem FB.drw {w : World} {g : Nat} (h : FB w g) : FB w.drew g := Rg.slf (Rg.drew h)
theorem Kq.drw {W w : World} (h : Kq W w) : Kq W w.drew := Kq.mk h.2.drew
theorem Kq.slf (W : World) : Kq W W := Kq.mk (Below.refl _ _)
theorem CB.newN {w : World} {N : Nat} {a a' : Option Addr} {c c' : Nat} {n d : Int} (hm : QM w a c a' c' n d) (hN : w.heap.size = N) : CB (w.alloc (Obj.cells #[.bool (ng n), .slice a (LZ n) c, .bool (ng d), .slice a' (LZ d) c'] 37)) N ⟨a, c, a', c'⟩ n d := by
  subst hN; exact CB.new hm
theorem whole_l (n : Nat) (x z d : Int) (hx : ((n : Nat) : Int) = x) (hz : ((n : Nat) : Int) = z) (hd : 1 = d) (w : World) (hn : n ≤ 1000000) : Calls Try.prog 15 #[.int .i64 x] w (RetQ w z d) := by
  subst hd
  rw [← hz]
  exact whole_z n x hx w (by omega) |>.mono fun e w' h => by rw [hx]; exact h
theorem make_z (n d : Nat) (x y : Int) (hx : ((n : Nat) : Int) = x) (hy : ((d : Nat) : Int) = y) (q : Rat) (hq : Rat.divInt ((n : Nat) : Int) ((d : Nat) : Int) = q) (hd : 0 < d) (hn : n ≤ 1000000) (hd2 : d ≤ 1000000) (w : World) :
    Calls Try.prog 17 #[.int .i64 x, .int .i64 y] w (RetQ w (rn q) (rd q)) := by
  subst hx hy hq; exact make_any n d hd hn hd2 w
theorem rates_nt (ps : List Rat) (hg : livesGood ps) (h4 : ∀ q ∈ ps, Short4 q) (h40 : ∀ s ∈ ps.map nt, s.size ≤ 40) (m : Nat) (hm : ps.length = m) (c0 c1 : Rat) (h0 : costOK c0) (h1 : costOK c1) (s0 : Short4 c0) (s1 : Short4 c1) (t0 : (nt c0).size ≤ 40) (t1 : (nt c1).size ≤ 40)
    (ao : Option Addr) (c : Nat) (w : World) (h : SL w ao (ps.map nt)) : Calls Try.prog 46 #[.slice ao m c, .string (nt c0), .string (nt c1)] w (RetLives w (rateL ps c0 c1)) := by
  obtain ⟨o0, e0⟩ := parse_nt s0
  obtain ⟨o1, e1⟩ := parse_nt s1
  obtain ⟨oa, ea⟩ := texts_ok h4
  have := rates_0 ao c m (ps.map nt) (nt c0) (nt c1) ps w ea (by rw [List.length_map]; exact hm) h h40 t0 t1 ⟨oa, o0, o1⟩ ⟨hg, by rw [e0]; exact h0, by rw [e1]; exact h1⟩
  rw [e0, e1] at this
  exact this

end Go.Proofs.Ytcaeonpjokkjnaa
