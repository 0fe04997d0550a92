/- Uf -/
import Derived.Test.YtkecdjdggkpdpaaQPd
import Derived.Test.YtkecdjdggkpdpaaQPa
import Derived.BigQuiet
set_option linter.unusedVariables false
/- Walks of the reference's Prices and Proves. -/
namespace Go.Proofs.Ytkecdjdggkpdpaa
open Go Go.RowKit Go.Proofs

/-- Prices in their range, n of them. -/
def rangeB (xs : List Int) (n : Nat) : Bool := decide ((∀ x ∈ xs, -1000000000 ≤ x ∧ x ≤ 1000000000) ∧ xs.length = n)
/-- All prices of the first rows and columns. -/
def sumRK (R K : List Int) (i : Nat) : Int := ((List.range i).map fun k => at0 R k + at0 K k).sum
theorem sumRK_succ (R K : List Int) (i : Nat) : sumRK R K (i + 1) = sumRK R K i + (at0 R i + at0 K i) := by
  unfold sumRK; rw [List.range_succ, List.map_append, List.sum_append]; simp
theorem sumRK_dual (R K : List Int) (n : Nat) : sumRK R K n = dual n R K := by
  induction n with
  | zero => rfl
  | succ n ih =>
    rw [sumRK_succ, ih]
    unfold dual
    rw [List.range_succ, List.map_append, List.map_append, List.sum_append, List.sum_append]
    simp; omega
theorem at0_in {xs : List Int} {n i : Nat} (h : ∀ x ∈ xs, -1000000000 ≤ x ∧ x ≤ 1000000000) (hl : xs.length = n) (hi : i < n) : -1000000000 ≤ at0 xs i ∧ at0 xs i ≤ 1000000000 := h _ (List.mem_of_getElem? (at0_get (by omega)))
theorem sumRK_small {R K : List Int} (hR : ∀ x ∈ R, -1000000000 ≤ x ∧ x ≤ 1000000000) (hK : ∀ x ∈ K, -1000000000 ≤ x ∧ x ≤ 1000000000) {n : Nat} (lR : R.length = n) (lK : K.length = n) : ∀ i, i ≤ n → -(2000000000 * (i : Int)) ≤ sumRK R K i ∧ sumRK R K i ≤ 2000000000 * (i : Int) := by
  intro i
  induction i with
  | zero => intro _; exact ⟨by simp [sumRK], by simp [sumRK]⟩
  | succ i ih =>
    intro hi
    have h1 := ih (by omega)
    have h2 := at0_in hR lR (i := i) (by omega)
    have h3 := at0_in hK lK (i := i) (by omega)
    rw [sumRK_succ]
    omega
/-- Prices that prove a sum. -/
def provB (C : List (List Int)) (n : Nat) (R K : List Int) (s : Int) : Bool := decide ((∀ i, i < n → ∀ j, j < n → at0 R i + at0 K j ≤ cst C i j) ∧ s ≤ dual n R K)
theorem provB_no {C : List (List Int)} {n : Nat} {R K : List Int} {s : Int} {i j : Nat} (hi : i < n) (hj : j < n) (h : cst C i j < at0 R i + at0 K j) : provB C n R K s = false := decide_eq_false fun hh => by
  have := hh.1 i hi j hj; omega
theorem provB_end {C : List (List Int)} {n : Nat} {R K : List Int} {s : Int} (h : ∀ i, i < n → ∀ j, j < n → at0 R i + at0 K j ≤ cst C i j) : provB C n R K s = decide (s ≤ sumRK R K n) := by
  unfold provB; rw [sumRK_dual]
  exact decide_eq_decide.2 ⟨fun hh => hh.2, fun hh => ⟨h, hh⟩⟩
end Go.Proofs.Ytkecdjdggkpdpaa
