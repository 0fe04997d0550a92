/- Uq -/
import Derived.Test.YtkecdjdggkpdpaaQUp
import Derived.Test.YtkecdjdggkpdpaaQUl
import Derived.Test.YtkecdjdggkpdpaaQUe
import Derived.Test.YtkecdjdggkpdpaaQUn
import Derived.Test.YtkecdjdggkpdpaaQPh
set_option linter.unusedVariables false
/- Walk of PairHall. -/
namespace Go.Proofs.Ytkecdjdggkpdpaa
open Go Go.RowKit Go.Proofs

theorem mxP_in {C : List (List Int)} {n : Nat} {p : List Nat} (hg : goodC C) (hn : C.length = n) (hp : Pr n p) (h0 : 0 < n) : 0 ≤ mxP C p ∧ mxP C p ≤ 1000 := by
  have hne : pcs C p ≠ [] := pcs_ne hp h0
  have hm : mxP C p ∈ pcs C p := mxL_mem hne
  obtain ⟨i, hi⟩ := List.mem_iff_getElem?.1 hm
  rw [pcs_get] at hi
  obtain ⟨j, hj, e⟩ := Option.map_eq_some_iff.1 hi
  have h1 := (List.getElem?_eq_some_iff.1 hj).1
  rw [hp.len] at h1
  have h2 := hp.lt j (List.mem_of_getElem? hj)
  rw [← e]
  exact ⟨hg.lo hn i j h1 h2, hg.hi hn i j h1 h2⟩
/-- What Worst says of the limits. -/
theorem worst_ok {C : List (List Int)} {n : Nat} {p : List Nat} {z : Int} (h0 : 0 < n) (hp : Best (byI (mxP C)) (allN n) p) : (∃ q, Pr n q ∧ Ok (upA C z) q) ↔ mxP C p ≤ z := by
  constructor
  · rintro ⟨q, hq, hok⟩
    have h1 := hp.low q (mem_allN.2 hq)
    have h2 : mxP C q ≤ z := (ok_up (hq.ne h0)).1 hok
    unfold byI at h1; omega
  · intro h
    have hq := mem_allN.1 hp.mem
    exact ⟨p, hq, (ok_up (hq.ne h0)).2 h⟩
theorem alwN_pos {A : Nat → Nat → Bool} {n : Nat} : 0 < (alwN A n).length ↔ ∃ p, Pr n p ∧ Ok A p := by
  rw [List.length_pos_iff_exists_mem]
  exact ⟨fun ⟨p, hp⟩ => ⟨p, mem_alwN.1 hp⟩, fun ⟨p, hp⟩ => ⟨p, mem_alwN.2 hp⟩⟩
theorem any_takeJ {P : Nat → Bool} {S : List Nat} {i x : Nat} (h : S[i]? = some x) : (S.take (i + 1)).any P = ((S.take i).any P || P x) := by rw [take_lastX h]; simp
end Go.Proofs.Ytkecdjdggkpdpaa
