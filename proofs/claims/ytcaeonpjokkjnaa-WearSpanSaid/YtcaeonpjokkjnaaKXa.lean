/- Yk Yn Rtp -/
import Derived.Test.YtcaeonpjokkjnaaQYi
import Derived.Test.YtcaeonpjokkjnaaQWm
import Derived.Test.YtcaeonpjokkjnaaQYj
import Derived.Test.YtcaeonpjokkjnaaQWs
set_option linter.unusedVariables false
/- Walk of the reference: Above. -/
namespace Go.Proofs.Ytcaeonpjokkjnaa
open Go Go.RowKit Go.Proofs

end Go.Proofs.Ytcaeonpjokkjnaa

/- Walk of the reference: Rates. -/
namespace Go.Proofs.Ytcaeonpjokkjnaa
open Go Go.RowKit Go.Proofs

theorem PQ.sub {n d n2 d2 : Int} {p q : Rat} {B C : Nat} (h : PQ n d p B) (h2 : PQ n2 d2 q C) : PQ (n * d2 - n2 * d) (d * d2) (p - q) (B + C + 1) := by
  obtain ⟨h1, rfl, h3, h4⟩ := h
  obtain ⟨g1, rfl, g3, g4⟩ := h2
  have l1 := LZ_mul n d2
  have l2 := LZ_mul n2 d
  have l3 := LZ_mul d d2
  have l4 := LZ_sub (n * d2) (n2 * d)
  refine ⟨Int.mul_pos h1 g1, ?_, by omega, by omega⟩
  rw [Rat.divInt_sub_divInt _ _ (by omega) (by omega)]
theorem PQ.div {n d n2 d2 : Int} {p q : Rat} {B C : Nat} (h : PQ n d p B) (h2 : PQ n2 d2 q C) (hp : 0 < n2) : PQ (n * d2) (d * n2) (p / q) (B + C) := by
  obtain ⟨h1, rfl, h3, h4⟩ := h
  obtain ⟨g1, rfl, g3, g4⟩ := h2
  have l1 := LZ_mul n d2
  have l3 := LZ_mul d n2
  refine ⟨Int.mul_pos h1 hp, ?_, by omega, by omega⟩
  rw [Rat.div_def, Rat.inv_divInt, Rat.divInt_mul_divInt]
theorem PQ.numpos {n d : Int} {q : Rat} {B : Nat} (h : PQ n d q B) (hq : 0 < q) : 0 < n := by
  obtain ⟨h1, rfl, _, _⟩ := h
  by_cases h2 : 0 < n
  · exact h2
  · have h5 : 0 ≤ Rat.divInt (-n) d := Rat.divInt_nonneg (by omega) (by omega)
    rw [← Rat.neg_divInt] at h5
    grind

/-- The chance of more than j. -/
theorem drop_left {ps : List Rat} (h : ps.sum = 1) (j : Nat) : (ps.drop j).sum = left ps j := by
  have e : ps.sum = psum ps j + (ps.drop j).sum := by
    unfold psum
    rw [← List.sum_append, List.take_append_drop]
  unfold left
  rw [h] at e
  grind

/-- Four cells that hold a fraction, no more lowered. -/
def CB (w : World) (g : Nat) (p : RP) (n d : Int) : Prop :=
  QM w p.a p.c p.a' p.c' n d ∧ w.cell? ⟨g, 0, none⟩ = some (.bool (ng n)) ∧ w.cell? ⟨g, 1, none⟩ = some (.slice p.a (LZ n) p.c) ∧ w.cell? ⟨g, 2, none⟩ = some (.bool (ng d)) ∧ w.cell? ⟨g, 3, none⟩ = some (.slice p.a' (LZ d) p.c')
theorem CB.up {w w' : World} {g : Nat} {p : RP} {n d : Int} (h : CB w g p n d) (hb : Below w.heap.size w w') : CB w' g p n d := by
  obtain ⟨h1, h2, h3, h4, h5⟩ := h
  exact ⟨h1.up hb, Below.cellAt hb (Nat.le_refl _) h2, Below.cellAt hb (Nat.le_refl _) h3, Below.cellAt hb (Nat.le_refl _) h4, Below.cellAt hb (Nat.le_refl _) h5⟩
theorem CB.new {w : World} {a a' : Option Addr} {c c' : Nat} {n d : Int} (hm : QM w a c a' c' n d) : CB (w.alloc (Obj.cells #[.bool (ng n), .slice a (LZ n) c, .bool (ng d), .slice a' (LZ d) c'] 37)) w.heap.size ⟨a, c, a', c'⟩ n d := by
  obtain ⟨h1, h2, h3, h4, h5, _, _⟩ := QBox.new hm
  exact ⟨h1, h2, h3, h4, h5⟩

theorem CB.store {w : World} {g : Nat} {a a' : Option Addr} {c c' : Nat} {n d : Int} (h : Rg g 4 w w) (hm : QM w a c a' c' n d) :
    CB ((((w.setCell ⟨g, 0, none⟩ (.bool (ng n))).setCell ⟨g, 1, none⟩ (.slice a (LZ n) c)).setCell ⟨g, 2, none⟩ (.bool (ng d))).setCell ⟨g, 3, none⟩ (.slice a' (LZ d) c')) g ⟨a, c, a', c'⟩ n d := by
  obtain ⟨_, t2, t3, t5, t4⟩ := h
  refine ⟨⟨hm.1.set4 t5 _ _ _ _ _ _ _ _, hm.2.set4 t5 _ _ _ _ _ _ _ _⟩, ?_, ?_, ?_, ?_⟩
  · simp [go_sem, t2]
  · simp [go_sem, t2]
  · simp [go_sem, t2]
  · simp [go_sem, t2]
theorem QM.al {w : World} {a a' : Option Addr} {c c' : Nat} {n d : Int} (h : QM w a c a' c' n d) (o : Obj) : QM (w.alloc o) a c a' c' n d := QM.up h ((Below.refl _ _).alloc (Nat.le_refl _) _)
theorem PQ.cost {n d : Int} {ps : List Rat} {c0 c1 : Rat} {k B : Nat} (h : PQ n d (c1 * (1 - left ps (k + 1)) + c0 * left ps (k + 1)) B) (hB : B ≤ 10000 := by omega) : PQ n d (costQ ps c0 c1 k) 10000 := by
  have e : c1 * (1 - left ps (k + 1)) + c0 * left ps (k + 1) = costQ ps c0 c1 k := by
    unfold costQ left
    grind
  rw [e] at h
  exact h.mono hB

/-- What the walk asks of lives and costs. -/
structure RateSt (ps : List Rat) (c0 c1 : Rat) : Prop where
  one : ps.sum = 1
  own : ∀ p ∈ ps, Short4 p
  left : ∀ j, Short4 (left ps j)
  planned : Short4 c0
  failed : Short4 c1
  time : ∀ k, 0 < psum (aboveL ps) (k + 1)
  rate : ∀ k, Short4 (rateQ ps c0 c1 k)
theorem sz4 {d m : Nat} {q : Rat} (h : Bd d m q) (hd : 0 < d) (h1 : m < p10 4000) (h2 : d < p10 4000) : Short4 q := by
  obtain ⟨a, b⟩ := h.parts hd
  exact ⟨by omega, by omega⟩

/-- The next chance above. -/
theorem above_next {ps : List Rat} {k : Nat} (hk : k < ps.length) : psum (aboveL ps) k + Go.Proofs.Ytcaeonpjokkjnaa.left ps k = psum (aboveL ps) (k + 1) :=
  psum_next _ _ _ (by unfold aboveL; rw [List.getElem?_map, List.getElem?_range hk]; rfl)

end Go.Proofs.Ytcaeonpjokkjnaa

/- Sizes that the reference's walks ask for. Plain. -/
namespace Go.Proofs.Ytcaeonpjokkjnaa
open Go

theorem Iz.s4 {d j : Nat} {q : Rat} (h : Iz d q) (hd : 0 < d) (hj : d ≤ p10 j) (hj2 : j ≤ 3990) (h0 : 0 ≤ q) (hk : q ≤ 2000000) : Short4 q := by
  obtain ⟨a, b⟩ := (h.bd (k := 2000000) h0 (by exact hk)).parts hd
  have h1 := small (k := 2000000) hj hj2 (by omega)
  have h2 := small (k := 1) hj hj2 (by omega)
  exact ⟨by omega, by omega⟩
theorem le_2m {q : Rat} (h : q ≤ 1) : q ≤ 2000000 := by grind
theorem Lv.left4 {ps : List Rat} (h : Lv ps) (j : Nat) : Short4 (Go.Proofs.Ytcaeonpjokkjnaa.left ps j) := by
  obtain ⟨a, b, c⟩ := h.left j
  exact c.s4 (dens_pos ps) h.dens (by omega) a (le_2m b)
theorem Lv.own4 {ps : List Rat} (h : Lv ps) : ∀ p ∈ ps, Short4 p := fun p hp =>
  (Iz.self p).s4 p.den_pos (mil_p10 (h.den p hp)) (by omega) (h.non p hp) (le_2m (h.le1 p hp))
theorem Cs.s4 {c : Rat} (h : Cs c) : Short4 c := (Iz.self c).s4 c.den_pos (mil_p10 h.den) (by omega) (Rat.le_of_lt h.pos) (by have := h.le; grind)
theorem Lv.timepos {ps : List Rat} (h : Lv ps) (k : Nat) : 0 < Go.Proofs.Ytcaeonpjokkjnaa.psum (aboveL ps) (k + 1) := by
  have := h.time1 k
  grind

/-- A quotient whose divisor is at least some lesser part. -/
theorem Iz.quot2 {d e : Nat} {p q : Rat} (hp : Iz d p) (hq : Iz e q) (h0 : 0 < q) (k : Nat) (hk : q ≤ ((k : Int) : Rat)) (he : 0 < e) : ∃ n : Nat, 0 < n ∧ n ≤ k * e ∧ Iz (d * n) (p / q) := by
  obtain ⟨z, hz⟩ := hp
  obtain ⟨y, hy⟩ := hq
  have hD : (0 : Rat) < ((e : Int) : Rat) := by exact_mod_cast he
  have hy0 : (0 : Rat) < (y : Rat) := by rw [← hy]; exact Rat.mul_pos h0 hD
  have hy1 : 0 < y := by exact_mod_cast hy0
  have hyb : y ≤ (k : Int) * (e : Int) := by
    have : (y : Rat) ≤ (((k : Int) * (e : Int) : Int) : Rat) := by
      rw [← hy, Rat.intCast_mul]
      exact Rat.mul_le_mul_of_nonneg_right hk (Rat.le_of_lt hD)
    exact Rat.intCast_le_intCast.1 this
  obtain ⟨n, rfl⟩ : ∃ n : Nat, y = n := ⟨y.toNat, by omega⟩
  refine ⟨n, by omega, by exact_mod_cast hyb, z * e, ?_⟩
  have hq0 : q ≠ 0 := by intro h; rw [h] at h0; exact absurd h0 (by decide)
  have hd : p / q * q = p := Rat.div_mul_cancel hq0
  rw [Int.natCast_mul, Rat.intCast_mul, Rat.intCast_mul, ← hz, ← hy]
  grind
theorem Lv.rate4 {ps : List Rat} (h : Lv ps) {c0 c1 : Rat} (h0 : Cs c0) (h1 : Cs c1) (k : Nat) : Short4 (rateQ ps c0 c1 k) := by
  obtain ⟨a, b, c⟩ := h.cost h0 h1 k
  obtain ⟨d, e⟩ := Cs.dens h h0 h1
  obtain ⟨a2, b2, c2⟩ := h.time (k + 1)
  have t0 := h.timepos k
  have t1 := h.time1 k
  obtain ⟨n, n0, n1, hI⟩ := c.quot2 c2 t0 12 (by exact b2) (dens_pos ps)
  have ht0 : Go.Proofs.Ytcaeonpjokkjnaa.psum (aboveL ps) (k + 1) ≠ 0 := by intro e; rw [e] at t1; exact absurd t1 (by decide)
  have hr : rateQ ps c0 c1 k * Go.Proofs.Ytcaeonpjokkjnaa.psum (aboveL ps) (k + 1) = costQ ps c0 c1 k := by unfold rateQ; exact Rat.div_mul_cancel ht0
  have hr0 : 0 ≤ rateQ ps c0 c1 k := by
    unfold rateQ
    rw [Rat.div_def]
    exact Rat.mul_nonneg a (Rat.le_of_lt (Rat.inv_pos.2 (by grind)))
  have hr1 : rateQ ps c0 c1 k ≤ 2000000 := by
    have : rateQ ps c0 c1 k * 1 ≤ rateQ ps c0 c1 k * Go.Proofs.Ytcaeonpjokkjnaa.psum (aboveL ps) (k + 1) := Rat.mul_le_mul_of_nonneg_left t1 hr0
    rw [hr] at this
    grind
  have hn : n ≤ p10 74 := by
    have h2 : (12 : Nat) * Go.Proofs.Ytcaeonpjokkjnaa.dens ps ≤ p10 2 * p10 72 := Nat.mul_le_mul (by decide) h.dens
    rw [← p10_add] at h2
    exact Nat.le_trans n1 h2
  exact Iz.s4 (j := 84 + 74) hI (Nat.mul_pos e n0) (mul_p10 d hn) (by omega) hr0 hr1
theorem Lv.rateSt {ps : List Rat} (h : Lv ps) {c0 c1 : Rat} (h0 : Cs c0) (h1 : Cs c1) : RateSt ps c0 c1 where
  one := h.one
  own := h.own4
  left := h.left4
  planned := h0.s4
  failed := h1.s4
  time := h.timepos
  rate := h.rate4 h0 h1

end Go.Proofs.Ytcaeonpjokkjnaa
