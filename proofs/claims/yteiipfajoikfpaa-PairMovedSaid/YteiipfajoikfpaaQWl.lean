/- Wl -/
import Derived.Test.YteiipfajoikfpaaQWg
set_option linter.unusedVariables false
/- Two rows of an own list exchanged: the stores of PairMoved. -/
namespace Go.Proofs.Yteiipfajoikfpaa
open Go Go.RowKit Go.Proofs

theorem MI.blk {w : World} {base g n c : Nat} {S : List (List Int)} (h : MI w base (.slice (some ⟨g, 0, none⟩) n c) S) (h0 : 0 < S.length) : ∃ vs t, Blk w g 24 (vs ++ t) ∧ Rows2 w vs S ∧ NoInt w g := by
  obtain ⟨vs, ho, hno, hr⟩ := h
  have hN := hno g rfl
  rcases ho.2 with ⟨h1, _⟩ | ⟨g', cap', cur, hv, _, hh, hn, _, _, ht⟩
  · cases h1
  · injection hv with h1 h2 h3
    injection h1 with h1
    injection h1 with h1 _
    subst h1
    rw [Nat.mul_one] at ht
    refine ⟨vs, cur.toList.drop S.length, ?_, hr, hN⟩
    unfold Blk
    rw [← ht, List.take_append_drop]
    simpa using hh
theorem MI.headJ {w : World} {base : Nat} {v : Value} {S : List (List Int)} (h : MI w base v S) (h0 : 0 < S.length) : ∃ g c, v = .slice (some ⟨g, 0, none⟩) S.length c := by
  obtain ⟨vs, ho, _, hr⟩ := h
  rcases ho.2 with ⟨_, h2⟩ | ⟨g', cap', cur, hv, _⟩
  · have : S.length = 0 := h2
    omega
  · exact ⟨g', cap', hv⟩
theorem cell_set2 {w : World} {g i j b o : Nat} {u v x : Value} (hne : b ≠ g) (hc : w.cell? ⟨b, o, none⟩ = some x) : ((w.setCell ⟨g, i, none⟩ u).setCell ⟨g, j, none⟩ v).cell? ⟨b, o, none⟩ = some x := by
  rw [World.cell?_setCell_other _ _ _ _ (by intro e; injection e with e1; exact hne e1.symm), World.cell?_setCell_other _ _ _ _ (by intro e; injection e with e1; exact hne e1.symm)]
  exact hc
theorem IZ.set2 {w : World} {ao : Option Addr} {xs : List Int} {g i j : Nat} {u v : Value} (h : IZ w ao xs) (hN : NoInt w g) : IZ ((w.setCell ⟨g, i, none⟩ u).setCell ⟨g, j, none⟩ v) ao xs := fun x y hy => by
  obtain ⟨b, o, ha, hc⟩ := h x y hy
  exact ⟨b, o, ha, cell_set2 (fun e => by subst e; exact hN _ _ _ hc) hc⟩
/-- A list of rows elsewhere stays. -/
theorem IMx.set2 {w : World} {b0 o0 : Nat} {S : List (List Int)} {g i j : Nat} {u v : Value} (h : IMx w (some ⟨b0, o0, none⟩) S) (hN : NoInt w g) (hne : b0 ≠ g) : IMx ((w.setCell ⟨g, i, none⟩ u).setCell ⟨g, j, none⟩ v) (some ⟨b0, o0, none⟩) S := by
  obtain ⟨vs, h1, h2, h3⟩ := h
  refine ⟨vs, fun x y hy => ?_, h2, fun x y xs hy hx => ?_⟩
  · obtain ⟨b, o, ha, hc⟩ := h1 x y hy
    refine ⟨b, o, ha, cell_set2 ?_ hc⟩
    injection ha with ha
    injection ha with e1 e2
    rw [← e1]; exact hne
  · obtain ⟨a, c, e1, e2, e3⟩ := h3 x y xs hy hx
    exact ⟨a, c, e1, e2, e3.set2 hN⟩
theorem blk_swap {w : World} {g i j : Nat} {vs t : List Value} {S : List (List Int)} {vi vj : Value} (hB : Blk w g 24 (vs ++ t)) (hR : Rows2 w vs S) (hN : NoInt w g) (hi : i < S.length) (hj : j < S.length) (ei : vs[i]? = some vi) (ej : vs[j]? = some vj) :
    IMx ((w.setCell ⟨g, i, none⟩ vj).setCell ⟨g, j, none⟩ vi) (some ⟨g, 0, none⟩) (swapL S i j) := by
  have li : i < vs.length := by rw [hR.1]; exact hi
  have lj : j < vs.length := by rw [hR.1]; exact hj
  have hB2 := Blk.set (Blk.set hB i vj) j vi
  have e : ((vs ++ t).set i vj).set j vi = swapL vs i j ++ t := by
    rw [swapL_eq ei ej, List.set_append_left _ _ li, List.set_append_left _ _ (by rw [List.length_set]; exact lj)]
  rw [e] at hB2
  refine ⟨swapL vs i j, fun x y hy => ⟨g, 0, rfl, ?_⟩, by rw [swapL_len li lj, swapL_len hi hj]; exact hR.1, fun x y xs hy hx => ?_⟩
  · rw [Nat.zero_add, Blk.cell hB2, List.getElem?_append_left (List.getElem?_eq_some_iff.1 hy).1]
    exact hy
  · rw [swapL_get li lj] at hy
    rw [swapL_get hi hj] at hx
    obtain ⟨a, c, e1, e2, e3⟩ := hR.2 _ _ _ hy hx
    exact ⟨a, c, e1, e2, e3.set2 hN⟩
end Go.Proofs.Yteiipfajoikfpaa
