/- Gr -/
import Derived.Test.YtkecdjdggkpdpaaQPh
set_option linter.unusedVariables false
/- Walk of the reference's Lacks. -/
namespace Go.Proofs.Ytkecdjdggkpdpaa
open Go Go.RowKit Go.Proofs

/-- The best set so far, as a value. -/
def BestV (w : World) (best : Option (List Nat)) (v : Value) : Prop :=
  match best with
  | none => v = .slice none 0 0
  | some p => ∃ g c, v = .slice (some ⟨g, 0, none⟩) p.length c ∧ IZ w (some ⟨g, 0, none⟩) (nz p) ∧ p.length ≤ c
theorem BestV.below {w w' : World} {best : Option (List Nat)} {v : Value} (h : BestV w best v) (hb : Below w.heap.size w w') : BestV w' best v := by
  cases best with
  | none => exact h
  | some p =>
    obtain ⟨g, c, h1, h2, h3⟩ := h
    exact ⟨g, c, h1, h2.below hb, h3⟩
theorem bits_len (u n : Nat) : (bitsL u n).length ≤ n := by
  have h : (bitsL u n).length ≤ (List.range n).length := List.length_filter_le _ _
  rw [List.length_range] at h; exact h
theorem any_take {s : List Nat} {P : Nat → Bool} {i x : Nat} (h : s[i]? = some x) : (s.take (i + 1)).any P = ((s.take i).any P || P x) := by
  rw [take_lastX h, List.any_append]; simp
theorem nz_lt {p q : List Nat} : nz p < nz q ↔ p < q := by
  unfold nz
  induction p generalizing q with
  | nil => cases q <;> simp
  | cons a p ih =>
    cases q with
    | nil => simp
    | cons b q =>
      simp only [List.map_cons, List.cons_lt_cons_iff, Int.ofNat_lt, Int.ofNat_inj]
      have := ih (q := q)
      constructor
      · rintro (h | ⟨h, h2⟩)
        · exact .inl h
        · exact .inr ⟨h, this.1 h2⟩
      · rintro (h | ⟨h, h2⟩)
        · exact .inl h
        · exact .inr ⟨h, this.2 h2⟩
theorem nz_ltl {p q : List Nat} (h : lessB (nz p) (nz q) = true) : p < q := nz_lt.1 (by unfold lessB at h; simpa using h)
theorem nz_nlt {p q : List Nat} (h : lessB (nz p) (nz q) = false) : q ≤ p := fun hlt => by
  have : nz p < nz q := nz_lt.2 hlt
  unfold lessB at h
  simp at h
  exact h this
def RLacksPost (A : Nat → Nat → Bool) (n : Nat) (w : World) (e : Ending) (w' : World) : Prop :=
  ∃ best v, LackI A n (2 ^ n) best ∧ e = .returned v ∧ BestV w' best v ∧ Below w.heap.size w w'
end Go.Proofs.Ytkecdjdggkpdpaa
