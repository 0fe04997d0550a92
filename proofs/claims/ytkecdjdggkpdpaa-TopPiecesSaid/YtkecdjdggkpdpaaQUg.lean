/- Ug -/
import Derived.Test.YtkecdjdggkpdpaaQUf
import Derived.Test.YtkecdjdggkpdpaaQUc
set_option linter.unusedVariables false
/- Walks of PairPrices. -/
namespace Go.Proofs.Ytkecdjdggkpdpaa
open Go Go.RowKit Go.Proofs

theorem at0_mem {xs : List Int} {x : Int} (h : x ∈ xs) : ∃ i, i < xs.length ∧ at0 xs i = x := by
  obtain ⟨i, hi, rfl⟩ := List.mem_iff_getElem.1 h
  exact ⟨i, hi, at0_of (List.getElem?_eq_getElem hi)⟩
/-- What Prices returns, in short. -/
structure PrOk (C : List (List Int)) (n : Nat) (R K : List Int) : Prop where
  lR : R.length = n
  lK : K.length = n
  bR : ∀ x ∈ R, 0 ≤ x ∧ x ≤ 1000
  bK : ∀ x ∈ K, -1000 ≤ x ∧ x ≤ 0
  feas : ∀ i, i < n → ∀ j, j < n → at0 R i + at0 K j ≤ cst C i j
  sum : ∀ p, Best (byI (sumC C)) (allN n) p → sumC C p = dual n R K
theorem first_ex {A : Nat → Nat → Bool} {n : Nat} (h : ∃ p, Pr n p ∧ Ok A p) : ∃ l, First A n l := by
  have hne : alwN A n ≠ [] := fun e => by
    obtain ⟨p, hp⟩ := h
    have := mem_alwN.2 hp
    rw [e] at this; cases this
  rcases hL : alwN A n with _ | ⟨l, L⟩
  · exact absurd hL hne
  · have hs := alwN_sorted A n
    rw [hL] at hs
    have hl := mem_alwN.1 (show l ∈ alwN A n by rw [hL]; simp)
    refine ⟨l, ⟨hl.1, hl.2, fun q hq hok => ?_⟩⟩
    have hq2 := mem_alwN.2 ⟨hq, hok⟩
    rw [hL] at hq2
    rcases List.mem_cons.1 hq2 with e | e
    · subst e; exact List.le_refl _
    · exact List.le_of_lt ((List.pairwise_cons.1 hs).1 q e)
theorem Hun.prOk {C : List (List Int)} {n z : Nat} {R K O : List Int} (h : Hun C n n z R K O) (hr : ∀ i, i < n → at0 R i ≤ 1000) (hk : ∀ j, j < n → -1000 ≤ at0 K j) : PrOk C n R K := by
  refine ⟨h.lR, h.lK, fun x hx => ?_, fun x hx => ?_, fun i hi j hj => h.feas i j hi hj, fun p hp => ?_⟩
  · obtain ⟨i, hi, rfl⟩ := at0_mem hx
    rw [h.lR] at hi
    exact ⟨h.r0 i hi, hr i hi⟩
  · obtain ⟨i, hi, rfl⟩ := at0_mem hx
    rw [h.lK] at hi
    exact ⟨hk i hi, h.k0 i hi⟩
  · obtain ⟨l, hl⟩ := first_ex h.pair
    obtain ⟨hB, hs⟩ := h.cheapest hl
    have := hp.unique hB
    subst this; exact hs
theorem PrOk.range {C : List (List Int)} {n : Nat} {R K : List Int} (h : PrOk C n R K) : rangeB R n = true ∧ rangeB K n = true :=
  ⟨decide_eq_true ⟨fun x hx => by have := h.bR x hx; omega, h.lR⟩, decide_eq_true ⟨fun x hx => by have := h.bK x hx; omega, h.lK⟩⟩
theorem PrOk.prov {C : List (List Int)} {n : Nat} {R K : List Int} (h : PrOk C n R K) {p : List Nat} {v : Int} (hp : Best (byI (sumC C)) (allN n) p) (hv : sumC C p = v) : provB C n R K v = true :=
  decide_eq_true ⟨h.feas, by rw [← h.sum p hp, hv]; exact Int.le_refl _⟩
def PrPost (C : List (List Int)) (n : Nat) (w : World) (e : Ending) (w' : World) : Prop :=
  ∃ (R K : List Int) (gR cR gK cK : Nat), PrOk C n R K ∧ e = .returned (.tuple #[.slice (some ⟨gR, 0, none⟩) n cR, .slice (some ⟨gK, 0, none⟩) n cK, .int .i64 0]) ∧ IZ w' (some ⟨gR, 0, none⟩) R ∧ IZ w' (some ⟨gK, 0, none⟩) K ∧ n ≤ cR ∧ n ≤ cK ∧ Below w.heap.size w w'
theorem prices_ok (ao : Option Addr) (c n : Nat) (C : List (List Int)) (w : World) (h : IMx w ao C) (hg : goodC C) (hn : C.length = n) : Calls Try.prog 7 #[.slice ao n c] w (PrPost C n w) :=
  (prices_good ao c n C w h hg hn (fun W hW => prices_any ao c n C W hW hg hn)).mono fun e w' ⟨R, K, O, z, gR, cR, gK, cK, hH, hr, hk, he, h1, h2, h3, h4, h5⟩ => ⟨R, K, gR, cR, gK, cK, hH.prOk hr hk, he, h1, h2, h3, h4, h5⟩
theorem best_ex (m : List Nat → Int) (n : Nat) : ∃ p, Best (byI m) (allN n) p := by
  obtain ⟨L, hL⟩ : ∃ L, allN n = L := ⟨_, rfl⟩
  have hs : L.Pairwise (· < ·) := hL ▸ allN_sorted n
  have hne : L ≠ [] := hL ▸ allN_ne n
  rw [hL]
  have key : ∀ k, k + 1 ≤ L.length → ∃ p, Best (byI m) (L.take (k + 1)) p := by
    intro k
    induction k with
    | zero =>
      intro hk
      have e := take_last (List.getElem?_eq_getElem (show 0 < L.length by omega))
      rw [e]
      exact ⟨_, Best.one _ _ (fun h => Int.lt_irrefl _ h)⟩
    | succ k ih =>
      intro hk
      obtain ⟨p, hp⟩ := ih (by omega)
      have hq := List.getElem?_eq_getElem (show k + 1 < L.length by omega)
      have e := take_last hq
      have hst := sorted_take hs hq
      rw [e]
      by_cases hlt : m L[k + 1] < m p
      · exact ⟨_, hp.better hlt (fun a b c h1 h2 => Int.lt_trans h1 h2) (fun a h => Int.lt_irrefl _ h) (fun a b c h1 h2 => by unfold byI at *; omega)⟩
      · exact ⟨p, hp.keep hlt hst⟩
  have hl := List.length_pos_iff.2 hne
  obtain ⟨p, hp⟩ := key (L.length - 1) (by omega)
  rw [show L.length - 1 + 1 = L.length by omega, List.take_length] at hp
  exact ⟨p, hp⟩
end Go.Proofs.Ytkecdjdggkpdpaa
