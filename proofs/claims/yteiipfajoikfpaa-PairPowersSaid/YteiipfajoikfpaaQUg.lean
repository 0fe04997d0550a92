/- Ug -/
import Derived.Test.YteiipfajoikfpaaQUf
import Derived.Test.YteiipfajoikfpaaQUc
set_option linter.unusedVariables false
/- Walks of PairPrices. -/
namespace Go.Proofs.Yteiipfajoikfpaa
open Go Go.RowKit Go.Proofs

theorem at0_mem {xs : List Int} {x : Int} (h : x ∈ xs) : ∃ i, i < xs.length ∧ at0 xs i = x := by
  obtain ⟨i, hi, rfl⟩ := List.mem_iff_getElem.1 h
  exact ⟨i, hi, at0_of (List.getElem?_eq_getElem hi)⟩
/-- What Prices returns, in short. -/
structure PrOk (C : List (List Int)) (n : Nat) (R K : List Int) : Prop where
  lR : R.length = n
  lK : K.length = n
  bR : ∀ x ∈ R, 0 ≤ x ∧ x ≤ 1000
  bK : ∀ x ∈ K, -1000 ≤ x ∧ x ≤ 0
  feas : ∀ i, i < n → ∀ j, j < n → at0 R i + at0 K j ≤ cst C i j
  sum : ∀ p, Best (byI (sumC C)) (allN n) p → sumC C p = dual n R K
theorem first_ex {A : Nat → Nat → Bool} {n : Nat} (h : ∃ p, Pr n p ∧ Ok A p) : ∃ l, First A n l := by
  have hne : alwN A n ≠ [] := fun e => by
    obtain ⟨p, hp⟩ := h
    have := mem_alwN.2 hp
    rw [e] at this; cases this
  rcases hL : alwN A n with _ | ⟨l, L⟩
  · exact absurd hL hne
  · have hs := alwN_sorted A n
    rw [hL] at hs
    have hl := mem_alwN.1 (show l ∈ alwN A n by rw [hL]; simp)
    refine ⟨l, ⟨hl.1, hl.2, fun q hq hok => ?_⟩⟩
    have hq2 := mem_alwN.2 ⟨hq, hok⟩
    rw [hL] at hq2
    rcases List.mem_cons.1 hq2 with e | e
    · subst e; exact List.le_refl _
    · exact List.le_of_lt ((List.pairwise_cons.1 hs).1 q e)
theorem Hun.prOk {C : List (List Int)} {n z : Nat} {R K O : List Int} (h : Hun C n n z R K O) (hr : ∀ i, i < n → at0 R i ≤ 1000) (hk : ∀ j, j < n → -1000 ≤ at0 K j) : PrOk C n R K := by
  refine ⟨h.lR, h.lK, fun x hx => ?_, fun x hx => ?_, fun i hi j hj => h.feas i j hi hj, fun p hp => ?_⟩
  · obtain ⟨i, hi, rfl⟩ := at0_mem hx
    rw [h.lR] at hi
    exact ⟨h.r0 i hi, hr i hi⟩
  · obtain ⟨i, hi, rfl⟩ := at0_mem hx
    rw [h.lK] at hi
    exact ⟨hk i hi, h.k0 i hi⟩
  · obtain ⟨l, hl⟩ := first_ex h.pair
    obtain ⟨hB, hs⟩ := h.cheapest hl
    have := hp.unique hB
    subst this; exact hs
theorem PrOk.range {C : List (List Int)} {n : Nat} {R K : List Int} (h : PrOk C n R K) : rangeB R n = true ∧ rangeB K n = true :=
  ⟨decide_eq_true ⟨fun x hx => by have := h.bR x hx; omega, h.lR⟩, decide_eq_true ⟨fun x hx => by have := h.bK x hx; omega, h.lK⟩⟩
theorem PrOk.prov {C : List (List Int)} {n : Nat} {R K : List Int} (h : PrOk C n R K) {p : List Nat} {v : Int} (hp : Best (byI (sumC C)) (allN n) p) (hv : sumC C p = v) : provB C n R K v = true :=
  decide_eq_true ⟨h.feas, by rw [← h.sum p hp, hv]; exact Int.le_refl _⟩
def PrPost (C : List (List Int)) (n : Nat) (w : World) (e : Ending) (w' : World) : Prop :=
  ∃ (R K : List Int) (gR cR gK cK : Nat), PrOk C n R K ∧ e = .returned (.tuple #[.slice (some ⟨gR, 0, none⟩) n cR, .slice (some ⟨gK, 0, none⟩) n cK, .int .i64 0]) ∧ IZ w' (some ⟨gR, 0, none⟩) R ∧ IZ w' (some ⟨gK, 0, none⟩) K ∧ n ≤ cR ∧ n ≤ cK ∧ Below w.heap.size w w'
theorem prices_ok (ao : Option Addr) (c n : Nat) (C : List (List Int)) (w : World) (h : IMx w ao C) (hg : goodC C) (hn : C.length = n) : Calls Try.prog 33 #[.slice ao n c] w (PrPost C n w) :=
  (prices_good ao c n C w h hg hn (fun W hW => prices_any ao c n C W hW hg hn)).mono fun e w' ⟨R, K, O, z, gR, cR, gK, cK, hH, hr, hk, he, h1, h2, h3, h4, h5⟩ => ⟨R, K, gR, cR, gK, cK, hH.prOk hr hk, he, h1, h2, h3, h4, h5⟩
theorem best_ex (m : List Nat → Int) (n : Nat) : ∃ p, Best (byI m) (allN n) p := by
  obtain ⟨L, hL⟩ : ∃ L, allN n = L := ⟨_, rfl⟩
  have hs : L.Pairwise (· < ·) := hL ▸ allN_sorted n
  have hne : L ≠ [] := hL ▸ allN_ne n
  rw [hL]
  have key : ∀ k, k + 1 ≤ L.length → ∃ p, Best (byI m) (L.take (k + 1)) p := by
    intro k
    induction k with
    | zero =>
      intro hk
      have e := take_last (List.getElem?_eq_getElem (show 0 < L.length by omega))
      rw [e]
      exact ⟨_, Best.one _ _ (fun h => Int.lt_irrefl _ h)⟩
    | succ k ih =>
      intro hk
      obtain ⟨p, hp⟩ := ih (by omega)
      have hq := List.getElem?_eq_getElem (show k + 1 < L.length by omega)
      have e := take_last hq
      have hst := sorted_take hs hq
      rw [e]
      by_cases hlt : m L[k + 1] < m p
      · exact ⟨_, hp.better hlt (fun a b c h1 h2 => Int.lt_trans h1 h2) (fun a h => Int.lt_irrefl _ h) (fun a b c h1 h2 => by unfold byI at *; omega)⟩
      · exact ⟨p, hp.keep hlt hst⟩
  have hl := List.length_pos_iff.2 hne
  obtain ⟨p, hp⟩ := key (L.length - 1) (by omega)
  rw [show L.length - 1 + 1 = L.length by omega, List.take_length] at hp
  exact ⟨p, hp⟩
set_option maxRecDepth 100000 in
set_option maxHeartbeats 6400000 in
theorem pricesLaw_any (ao : Option Addr) (c n : Nat) (C : List (List Int)) (w : World) (h : IMx w ao C) (hn : C.length = n) (hm : n ≤ 9223372036854775807) (hr : ∀ r ∈ C, r.length ≤ 9223372036854775807) :
    Calls Try.prog 7 #[.slice ao n c] w (RetB w true) := by
  obtain ⟨D, hD⟩ : ∃ D, fewM C = D := ⟨_, rfl⟩
  obtain ⟨m, hmD⟩ : ∃ m, D.length = m := ⟨_, rfl⟩
  have hm9 : m ≤ 9 := by rw [← hmD, ← hD]; exact fewM_small C
  have hfew := Lib.hid (few_anyJ ao c n C w h hn hm hr)
  have hDH := Lib.hid hD
  have hmH := Lib.hid hmD
  clear h hn hm hr hD hmD
  rcases hb : costsB D
  · have hbH := Lib.hid hb
    clear hb
    go_enter Try.func7, Try.ntmps7
    go_wp2_with (first
      | (go_at_call 18; go_loud (with_reducible refine hfew.out.mono ?_); rintro e w1 hR; rw [hDH.out] at hR; obtain ⟨a1, d1, rfl, hM, hd1, hb1⟩ := hR.out hmH.out; have hMH := Lib.hid hM; have hb1H := Lib.hid hb1; clear hR hM hb1)
      | (go_at_call 33; go_loud (with_reducible refine (prices_bad a1 d1 m D _ hMH.out hmH.out (by omega) hbH.out).mono ?_); rintro e w2 ⟨rfl, hb2⟩; have hM2 := Lib.hid (hMH.out.below hb2); have hb2H := Lib.hid hb2; clear hb2)
      | (go_at_call 20; go_loud (with_reducible refine (costs_any a1 d1 m D false _ hM2.out hmH.out (by omega) hbH.out).mono ?_); rintro e w3 ⟨rfl, rfl⟩)
      | (go_at_call 21; go_loud (with_reducible refine (lives_any _).mono ?_); rintro e w4 ⟨rfl, hb4⟩; have hb4H := Lib.hid hb4; clear hb4))
    go_ret
    exact ⟨rfl, bseqJ hb1H.out (bseqJ hb2H.out hb4H.out)⟩
  · have hbH := Lib.hid hb
    have hgH := Lib.hid (goodC_of hb)
    obtain ⟨l, hB⟩ := best_ex (sumC D) m
    obtain ⟨v, hv⟩ : ∃ v, sumC D l = v := ⟨_, rfl⟩
    have hBH := Lib.hid hB
    have hvH := Lib.hid hv
    have hzl : Hid ((nz l).length = m) := by show _ = _; rw [nz_length]; exact (mem_allN.1 hB.mem).len
    clear hb hB hv
    go_enter Try.func7, Try.ntmps7
    go_wp2_with (first
      | (go_at_call 18; go_loud (with_reducible refine hfew.out.mono ?_); rintro e w1 hR; rw [hDH.out] at hR; obtain ⟨a1, d1, rfl, hM, hd1, hb1⟩ := hR.out hmH.out; have hMH := Lib.hid hM; have hb1H := Lib.hid hb1; clear hR hM hb1)
      | (go_at_call 33; go_loud (with_reducible refine (prices_ok a1 d1 m D _ hMH.out hgH.out hmH.out).mono ?_); rintro e w2 ⟨R, K, gR, cR, gK, cK, hPO, rfl, hIR, hIK, hcR, hcK, hb2⟩; have hM2 := Lib.hid (hMH.out.below hb2); have hb2H := Lib.hid hb2; have hPOH := Lib.hid hPO; have hIRH := Lib.hid hIR; have hIKH := Lib.hid hIK; clear hb2 hPO hIR hIK)
      | (go_at_call 20; go_loud (with_reducible refine (costs_any a1 d1 m D true _ hM2.out hmH.out (by omega) hbH.out).mono ?_); rintro e w3 ⟨rfl, rfl⟩)
      | (go_at_call 22; go_loud (with_reducible refine (cheapestR_any a1 d1 m D l v _ hM2.out hgH.out hmH.out hBH.out hvH.out).mono ?_); rintro e w4 hR; obtain ⟨a4, c4, rfl, hI4, hc4, hb4⟩ := hR.out hzl.out; have hb4H := Lib.hid hb4; clear hR hI4 hb4)
      | (go_at_call 34; go_loud (with_reducible refine (pricesR_any (some ⟨gR, 0, none⟩) cR m m R true _ (hIRH.out.below hb4H.out) hPOH.out.lR (by omega) hPOH.out.range.1).mono ?_); rintro e w5 ⟨rfl, hb5⟩; have hb5H := Lib.hid hb5; clear hb5)
      | (go_at_call 34; go_loud (with_reducible refine (pricesR_any (some ⟨gK, 0, none⟩) cK m m K true _ (hIKH.out.below (bseqJ hb4H.out hb5H.out)) hPOH.out.lK (by omega) hPOH.out.range.2).mono ?_); rintro e w6 ⟨rfl, hb6⟩; have hb6H := Lib.hid (bseqJ hb4H.out (bseqJ hb5H.out hb6)); clear hb6)
      | (go_at_call 35; go_loud (with_reducible refine (provesR_any a1 (some ⟨gR, 0, none⟩) (some ⟨gK, 0, none⟩) d1 cR cK m D R K v true _ (hM2.out.below hb6H.out) hgH.out hmH.out (hIRH.out.below hb6H.out) (hIKH.out.below hb6H.out) hPOH.out.lR hPOH.out.lK (fun x hx => by have := hPOH.out.bR x hx; omega) (fun x hx => by have := hPOH.out.bK x hx; omega) (hPOH.out.prov hBH.out hvH.out)).mono ?_); rintro e w7 ⟨rfl, hb7⟩; have hb7H := Lib.hid hb7; clear hb7)
      | (go_at_call 21; go_loud (with_reducible refine (lives_any _).mono ?_); rintro e w8 ⟨rfl, hb8⟩; have hb8H := Lib.hid hb8; clear hb8))
    go_ret
    exact ⟨rfl, bseqJ hb1H.out (bseqJ hb2H.out (bseqJ hb6H.out (bseqJ hb7H.out hb8H.out)))⟩
end Go.Proofs.Yteiipfajoikfpaa
