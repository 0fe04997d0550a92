/- Yi -/
import Derived.Test.YtcaeonpjokkjnaaQWq
import Derived.Test.YtcaeonpjokkjnaaQWr
import Derived.Test.YtcaeonpjokkjnaaQWp
set_option linter.unusedVariables false
/- Walk of the reference: Renew. -/
namespace Go.Proofs.Ytcaeonpjokkjnaa
open Go Go.RowKit Go.Proofs

/-- A box at block g that holds a fraction that is no more lowered, what lies below it as it was. -/
def QBox (w3 wi : World) (g : Nat) (p : RP) (n d : Int) : Prop :=
  QM wi p.a p.c p.a' p.c' n d ∧ wi.cell? ⟨g, 0, none⟩ = some (.bool (ng n)) ∧ wi.cell? ⟨g, 1, none⟩ = some (.slice p.a (LZ n) p.c) ∧ wi.cell? ⟨g, 2, none⟩ = some (.bool (ng d)) ∧ wi.cell? ⟨g, 3, none⟩ = some (.slice p.a' (LZ d) p.c') ∧
  Rg g 4 wi wi ∧ Below g w3 wi
/-- What the pair says. -/
def PQ (n d : Int) (q : Rat) (B : Nat) : Prop := 0 < d ∧ Rat.divInt n d = q ∧ LZ n ≤ B ∧ LZ d ≤ B

theorem QBox.step {w3 wi w' : World} {g : Nat} {p : RP} {n d : Int} (h : QBox w3 wi g p n d) (hb : Below wi.heap.size wi w') : QBox w3 w' g p n d := by
  obtain ⟨h1, h2, h3, h4, h5, h6, h7⟩ := h
  have hg : g < wi.heap.size := h6.lt (by omega)
  exact ⟨h1.up hb, Below.cellAt hb (Nat.le_refl _) h2, Below.cellAt hb (Nat.le_refl _) h3, Below.cellAt hb (Nat.le_refl _) h4, Below.cellAt hb (Nat.le_refl _) h5, Rg.slf (Rg.step h6 (by omega) hb), h7.trans (hb.mono (by omega))⟩
theorem QBox.store {w3 wi : World} {g : Nat} {p : RP} {n d n' d' : Int} {a a' : Option Addr} {c c' : Nat} (h : QBox w3 wi g p n d) (hm : QM wi a c a' c' n' d') :
    QBox w3 ((((wi.setCell ⟨g, 0, none⟩ (.bool (ng n'))).setCell ⟨g, 1, none⟩ (.slice a (LZ n') c)).setCell ⟨g, 2, none⟩ (.bool (ng d'))).setCell ⟨g, 3, none⟩ (.slice a' (LZ d') c')) g ⟨a, c, a', c'⟩ n' d' := by
  obtain ⟨h1, h2, h3, h4, h5, h6, h7⟩ := h
  have h6' := h6
  obtain ⟨_, t2, t3, t5, t4⟩ := h6'
  refine ⟨⟨hm.1.set4 t5 _ _ _ _ _ _ _ _, hm.2.set4 t5 _ _ _ _ _ _ _ _⟩, ?_, ?_, ?_, ?_, Rg.slf (Rg.set (Rg.set (Rg.set (Rg.set h6 _) _) _) _), below_set4 h7 (Nat.le_refl _) _ _ _ _⟩
  · simp [go_sem, t2]
  · simp [go_sem, t2]
  · simp [go_sem, t2]
  · simp [go_sem, t2]
theorem QBox.new {w3 : World} {a a' : Option Addr} {c c' : Nat} {n d : Int} (hm : QM w3 a c a' c' n d) :
    QBox w3 (w3.alloc (Obj.cells #[.bool (ng n), .slice a (LZ n) c, .bool (ng d), .slice a' (LZ d) c'] 37)) w3.heap.size ⟨a, c, a', c'⟩ n d := by
  refine ⟨hm.up ((Below.refl _ _).alloc (Nat.le_refl _) _), ?_, ?_, ?_, ?_, Rg.fill4 _ _ _ _ _ _ _ _ _ _, (Below.refl _ _).alloc (Nat.le_refl _) _⟩
  · simp [go_sem]
  · simp [go_sem]
  · simp [go_sem]
  · simp [go_sem]

theorem PQ.add {n d n2 d2 : Int} {p q : Rat} {B C : Nat} (h : PQ n d p B) (h2 : PQ n2 d2 q C) : PQ (n * d2 + n2 * d) (d * d2) (p + q) (B + C + 1) := by
  obtain ⟨h1, rfl, h3, h4⟩ := h
  obtain ⟨g1, rfl, g3, g4⟩ := h2
  have l1 := LZ_mul n d2
  have l2 := LZ_mul n2 d
  have l3 := LZ_mul d d2
  have l4 := LZ_add (n * d2) (n2 * d)
  refine ⟨Int.mul_pos h1 g1, ?_, by omega, by omega⟩
  rw [Rat.divInt_add_divInt _ _ (by omega) (by omega)]
theorem PQ.mul {n d n2 d2 : Int} {p q : Rat} {B C : Nat} (h : PQ n d p B) (h2 : PQ n2 d2 q C) : PQ (n * n2) (d * d2) (p * q) (B + C) := by
  obtain ⟨h1, rfl, h3, h4⟩ := h
  obtain ⟨g1, rfl, g3, g4⟩ := h2
  have l1 := LZ_mul n n2
  have l3 := LZ_mul d d2
  refine ⟨Int.mul_pos h1 g1, ?_, by omega, by omega⟩
  rw [Rat.divInt_mul_divInt]
theorem PQ.mono {n d : Int} {q : Rat} {B C : Nat} (h : PQ n d q B) (hB : B ≤ C) : PQ n d q C := ⟨h.1, h.2.1, Nat.le_trans h.2.2.1 hB, Nat.le_trans h.2.2.2 hB⟩
theorem PQ.low {q : Rat} (h : Short4 q) : PQ (rn q) (rd q) q 1000 := ⟨rd_pos q, rat_eq q, LZ_small h.1, LZ_small h.2⟩
theorem PQ.szq {n d : Int} {q : Rat} {B : Nat} (h : PQ n d q B) (hB : B ≤ 10000000) : SzQ n d := ⟨by have := h.2.2.1; omega, by have := h.2.2.2; omega⟩
theorem PQ.zero : PQ 0 1 0 1 := ⟨by decide, by show Rat.divInt 0 1 = 0; rfl, by show L B4 0 ≤ 1; rw [L_zero]; omega, L_12.1⟩
theorem whole1 (w : World) : Calls Try.prog 15 #[.int .i64 1] w (RetQ w (rn 1) (rd 1)) := wholeq_any 1 w (by omega)
theorem whole0 (w : World) : Calls Try.prog 15 #[.int .i64 0] w (RetQ w 0 1) := wholeq_any 0 w (by omega)

end Go.Proofs.Ytcaeonpjokkjnaa
