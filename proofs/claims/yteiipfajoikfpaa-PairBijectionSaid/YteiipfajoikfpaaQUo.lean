/- Uo -/
import Derived.Test.YteiipfajoikfpaaQUm
import Derived.Test.YteiipfajoikfpaaQUn
import Derived.Test.YteiipfajoikfpaaQPj
set_option linter.unusedVariables false
/- Walk of PairRanks. -/
namespace Go.Proofs.Yteiipfajoikfpaa
open Go Go.RowKit Go.Proofs

theorem sorted_once {L : List (List Nat)} (h : L.Pairwise (· < ·)) {i j : Nat} {p : List Nat} (hi : L[i]? = some p) (hj : L[j]? = some p) : i = j := by
  obtain ⟨h1, e1⟩ := List.getElem?_eq_some_iff.1 hi
  obtain ⟨h2, e2⟩ := List.getElem?_eq_some_iff.1 hj
  rcases Nat.lt_trichotomy i j with hlt | hlt | hlt
  · have := List.pairwise_iff_getElem.1 h i j h1 h2 hlt
    rw [e1, e2] at this
    exact absurd this (List.lt_irrefl _)
  · exact hlt
  · have := List.pairwise_iff_getElem.1 h j i h2 h1 hlt
    rw [e1, e2] at this
    exact absurd this (List.lt_irrefl _)
theorem rank_at (ao lo : Option Addr) (c n lc R : Nat) (C : List (List Int)) (z : Int) (p : List Nat) (w : World) (h : IMx w ao C) (hg : goodC C) (hn : C.length = n) (hx : IZ w lo (nz p)) (hR : (alwN (upA C z) n)[R]? = some p) :
    Calls Try.prog 42 #[.slice ao n c, .int .i64 z, .slice lo n lc] w (fun e w' => e = .returned (.tuple #[.int .i64 (R : Nat), .int .i64 0]) ∧ Below w.heap.size w w') := by
  have hm := mem_alwN.1 (List.mem_of_getElem? hR)
  refine (rank_good ao lo c n lc C z p w h hg hn hx hm.1).mono fun e w' ⟨hb, hp⟩ => ⟨?_, hb⟩
  rcases hp with ⟨_, r, hr, he⟩ | ⟨hno, _⟩
  · rw [sorted_once (alwN_sorted _ _) hR hr]; exact he
  · exact absurd hm.2 hno
theorem rank_none (ao lo : Option Addr) (c n lc : Nat) (C : List (List Int)) (z : Int) (p : List Nat) (w : World) (h : IMx w ao C) (hg : goodC C) (hn : C.length = n) (hx : IZ w lo (nz p)) (hp : Pr n p) (hno : ¬ Ok (upA C z) p) :
    Calls Try.prog 42 #[.slice ao n c, .int .i64 z, .slice lo n lc] w (fun e w' => e = .returned (.tuple #[.int .i64 0, .int .i64 5]) ∧ Below w.heap.size w w') := by
  refine (rank_good ao lo c n lc C z p w h hg hn hx hp).mono fun e w' ⟨hb, hq⟩ => ⟨?_, hb⟩
  rcases hq with ⟨hok, _⟩ | ⟨_, he⟩
  · exact absurd hok hno
  · exact he
theorem same_pq (ao bo : Option Addr) (c d n : Nat) (p q : List Nat) (b : Bool) (w : World) (h1 : IZ w ao (nz p)) (h2 : IZ w bo (nz q)) (hn : p.length = n) (hm : q.length = n) (hb : n ≤ 9223372036854775807) (he : decide (p = q) = b) :
    Calls Try.prog 23 #[.slice ao n c, .slice bo n d] w (RetB w b) :=
  same_any ao bo c d n n (nz p) (nz q) b w h1 h2 (by rw [nz_length]; exact hn) (by rw [nz_length]; exact hm) hb hb (by rw [← he]; unfold sameB; exact decide_eq_decide.2 ⟨nz_inj, fun e => by rw [e]⟩)
set_option maxRecDepth 100000 in
set_option maxHeartbeats 12800000 in
theorem ranksLaw_any (ao aL : Option Addr) (c n lL cL : Nat) (C : List (List Int)) (z : Int) (xs : List Int) (w : World) (h : IMx w ao C) (hn : C.length = n) (hm : n ≤ 9223372036854775807) (hr : ∀ r ∈ C, r.length ≤ 9223372036854775807)
    (hL : IZ w aL xs) (hlL : xs.length = lL) (hcL : lL ≤ cL) (hmL : lL ≤ 9223372036854775807) :
    Calls Try.prog 11 #[.slice ao n c, .int .i64 z, .slice aL lL cL] w (RetB w true) := by
  obtain ⟨D, hD⟩ : ∃ D, fewM C = D := ⟨_, rfl⟩
  obtain ⟨m, hmD⟩ : ∃ m, D.length = m := ⟨_, rfl⟩
  have hm9 : m ≤ 9 := by rw [← hmD, ← hD]; exact fewM_small C
  obtain ⟨P, hP⟩ : ∃ P, xs.take 9 = P := ⟨_, rfl⟩
  obtain ⟨l1, hl1⟩ : ∃ l1, P.length = l1 := ⟨_, rfl⟩
  have hl19 : l1 ≤ 9 := by rw [← hl1, ← hP, List.length_take]; omega
  have hfew := Lib.hid (few_anyJ ao c n C w h hn hm hr)
  have hcutL := Lib.hid (fun W (hb : Below w.heap.size w W) => cut9_any aL cL lL xs W (hL.below hb) hlL hcL hmL)
  have hDH := Lib.hid hD
  have hmH := Lib.hid hmD
  have hPH := Lib.hid hP
  have hl1H := Lib.hid hl1
  clear h hn hm hr hD hmD hL hlL hcL hmL hP hl1
  rcases hb : costsB D
  · have hbH := Lib.hid hb
    clear hb
    go_enter Try.func11, Try.ntmps11
    go_wp2_with (first
      | (go_at_call 18; go_loud (with_reducible refine hfew.out.mono ?_); rintro e w1 hR; rw [hDH.out] at hR; obtain ⟨a1, d1, rfl, hM, hd1, hb1⟩ := hR.out hmH.out; have hMH := Lib.hid hM; have hb1H := Lib.hid hb1; clear hR hM hb1)
      | (go_at_call 36; go_loud (with_reducible refine (hcutL.out _ hb1H.out).mono ?_); rintro e w2 hR; rw [hPH.out] at hR; obtain ⟨a2, d2, rfl, hI2, hd2, hb2⟩ := hR; rw [hl1H.out] at hd2 ⊢; have hI2H := Lib.hid hI2; have hb2H := Lib.hid hb2; clear hI2 hb2)
      | (go_at_call 42; go_loud (with_reducible refine (rank_bad a1 a2 d1 m l1 d2 D z _ (hMH.out.below hb2H.out) hmH.out (by omega) hbH.out).mono ?_); rintro e w3 ⟨rfl, hb3⟩; have hM3 := Lib.hid (hMH.out.below (bseqJ hb2H.out hb3)); have hb3H := Lib.hid hb3; clear hb3)
      | (go_at_call 20; go_loud (with_reducible refine (costs_any a1 d1 m D false _ hM3.out hmH.out (by omega) hbH.out).mono ?_); rintro e w4 ⟨rfl, rfl⟩)
      | (go_at_call 21; go_loud (with_reducible refine (lives_any _).mono ?_); rintro e w8 ⟨rfl, hb8⟩; have hb8H := Lib.hid hb8; clear hb8))
    go_ret
    exact ⟨rfl, bseqJ hb1H.out (bseqJ hb2H.out (bseqJ hb3H.out hb8H.out))⟩
  · have hbH := Lib.hid hb
    have hg := goodC_of hb
    have hgH := Lib.hid hg
    have hm8 : m ≤ 8 := by rw [← hmH.out]; exact hg.2.1
    have hm1 : 0 < m := by rw [← hmH.out]; exact hg.1
    clear hb hg
    rcases hp : pairB m P
    · have hpH := Lib.hid hp
      clear hp
      go_enter Try.func11, Try.ntmps11
      go_wp2_with (first
        | (go_at_call 18; go_loud (with_reducible refine hfew.out.mono ?_); rintro e w1 hR; rw [hDH.out] at hR; obtain ⟨a1, d1, rfl, hM, hd1, hb1⟩ := hR.out hmH.out; have hMH := Lib.hid hM; have hb1H := Lib.hid hb1; clear hR hM hb1)
        | (go_at_call 36; go_loud (with_reducible refine (hcutL.out _ hb1H.out).mono ?_); rintro e w2 hR; rw [hPH.out] at hR; obtain ⟨a2, d2, rfl, hI2, hd2, hb2⟩ := hR; rw [hl1H.out] at hd2 ⊢; have hI2H := Lib.hid hI2; have hb2H := Lib.hid hb2; clear hI2 hb2)
        | (go_at_call 42; go_loud (with_reducible refine (rank_form a1 a2 d1 m l1 d2 D z P _ (hMH.out.below hb2H.out) hgH.out hmH.out hI2H.out hl1H.out (by omega) hpH.out).mono ?_); rintro e w3 ⟨rfl, hb3⟩; have hM3 := Lib.hid (hMH.out.below (bseqJ hb2H.out hb3)); have hI3 := Lib.hid (hI2H.out.below hb3); have hb3H := Lib.hid hb3; clear hb3)
        | (go_at_call 20; go_loud (with_reducible refine (costs_any a1 d1 m D true _ hM3.out hmH.out (by omega) hbH.out).mono ?_); rintro e w4 ⟨rfl, rfl⟩)
        | (go_at_call 31; go_loud (with_reducible refine (pairingR_any a2 d2 l1 m P false _ hI3.out hl1H.out hd2 (by omega) (by omega) hpH.out).mono ?_); rintro e w5 ⟨rfl, hb5⟩; have hb5H := Lib.hid hb5; clear hb5)
        | (go_at_call 21; go_loud (with_reducible refine (lives_any _).mono ?_); rintro e w8 ⟨rfl, hb8⟩; have hb8H := Lib.hid hb8; clear hb8))
      go_ret
      exact ⟨rfl, bseqJ hb1H.out (bseqJ hb2H.out (bseqJ hb3H.out (bseqJ hb5H.out hb8H.out)))⟩
    · obtain ⟨p, hPp, hPr⟩ := pairB_pr hp
      have hpH := Lib.hid hp
      have hml : m = l1 := by rw [← hl1H.out, hPp, nz_length]; exact hPr.len.symm
      subst hml
      have hPpH := Lib.hid hPp
      have hPrH := Lib.hid hPr
      clear hp hPp hPr
      obtain ⟨L, hL⟩ : ∃ L, alwN (upA D z) m = L := ⟨_, rfl⟩
      obtain ⟨t, ht⟩ : ∃ t, L.length = t := ⟨_, rfl⟩
      have hts : t ≤ 16777216 := by
        rw [← ht, ← hL, ← alP_filter hm1]
        exact Nat.le_trans (List.length_filter_le ..) (Nat.le_trans (allP_le m m []) (pow_small hm8 hm8))
      have htr : Hid ((rowsP L).length = t) := by show _ = _; rw [rowsP_length]; exact ht
      have hsrt := Lib.hid (show L.Pairwise (· < ·) by rw [← hL]; exact alwN_sorted _ _)
      have hmemL := Lib.hid (show ∀ q, q ∈ L ↔ Pr m q ∧ Ok (upA D z) q by intro q; rw [← hL]; exact mem_alwN)
      have hLH := Lib.hid hL
      have htH := Lib.hid ht
      clear hL ht
      by_cases hok : Ok (upA D z) p
      · obtain ⟨R, hR⟩ := List.mem_iff_getElem?.1 ((hmemL.out p).2 ⟨hPrH.out, hok⟩)
        have hRt : R < t := by rw [← htH.out]; exact (List.getElem?_eq_some_iff.1 hR).1
        have hRH := Lib.hid hR
        have hR2 := Lib.hid (show (alwN (upA D z) m)[R]? = some p by rw [hLH.out]; exact hR)
        clear hR hok
        have err : ((R : Int) == (R : Int)) = true := by simp
        go_enter Try.func11, Try.ntmps11
        go_wp2_with (first
          | (go_at_call 18; go_loud (with_reducible refine hfew.out.mono ?_); rintro e w1 hR; rw [hDH.out] at hR; obtain ⟨a1, d1, rfl, hM, hd1, hb1⟩ := hR.out hmH.out; have hMH := Lib.hid hM; have hb1H := Lib.hid hb1; clear hR hM hb1)
          | (go_at_call 36; go_loud (with_reducible refine (hcutL.out _ hb1H.out).mono ?_); rintro e w2 hR; rw [hPH.out] at hR; obtain ⟨a2, d2, rfl, hI2, hd2, hb2⟩ := hR; rw [hl1H.out] at hd2 ⊢; have hI2H := Lib.hid hI2; have hb2H := Lib.hid hb2; clear hI2 hb2)
          | (go_at_call 42; go_loud (with_reducible refine (rank_at a1 a2 d1 m d2 R D z p _ (hMH.out.below hb2H.out) hgH.out hmH.out (hPpH.out ▸ hI2H.out) hR2.out).mono ?_); rintro e w3 ⟨rfl, hb3⟩; have hM3 := Lib.hid (hMH.out.below (bseqJ hb2H.out hb3)); have hI3 := Lib.hid (hI2H.out.below hb3); have hb3H := Lib.hid hb3; clear hb3)
          | (go_at_call 20; go_loud (with_reducible refine (costs_any a1 d1 m D true _ hM3.out hmH.out (by omega) hbH.out).mono ?_); rintro e w4 ⟨rfl, rfl⟩)
          | (go_at_call 31; go_loud (with_reducible refine (pairingR_any a2 d2 m m P true _ hI3.out hl1H.out hd2 (by omega) (by omega) hpH.out).mono ?_); rintro e w5 ⟨rfl, hb5⟩; have hb5H := Lib.hid hb5; clear hb5)
          | (go_at_call 28; go_loud (with_reducible refine (allowed_any a1 d1 m D z _ (hM3.out.below hb5H.out) hgH.out hmH.out).mono ?_); rintro e w6 hR; rw [hLH.out] at hR; obtain ⟨a6, d6, rfl, hM6, hd6, hb6⟩ := hR.out htr.out; have hM6H := Lib.hid hM6; have hb6H := Lib.hid hb6; clear hR hM6 hb6))
        have hI6 := Lib.hid (hI3.out.below (bseqJ hb5H.out hb6H.out))
        have hbw := Lib.hid (bseqJ hb1H.out (bseqJ hb2H.out (bseqJ hb3H.out (bseqJ hb5H.out hb6H.out))))
        go_loopg [13] t (fun gk iv wr => ∃ k : Nat, iv = .int .i64 (k : Nat) ∧ k + gk = t ∧ k ≤ R ∧ Below w6.heap.size w6 wr)
        case atStart => exact ⟨0, rfl, by omega, Nat.zero_le _, Below.refl _ _⟩
        case round =>
        obtain ⟨k, rfl, hk, hkR0, hbl⟩ := hrel
        have hblH := Lib.hid hbl
        clear hbl
        by_cases hkt : k < t
        · obtain ⟨g1, rfl⟩ : ∃ g1, gk = g1 + 1 := ⟨gk - 1, by omega⟩
          obtain ⟨q, hq⟩ : ∃ q, L[k]? = some q := ⟨_, List.getElem?_eq_getElem (by rw [htH.out]; exact hkt)⟩
          have hqm := (hmemL.out q).1 (List.mem_of_getElem? hq)
          have hlq := Lib.hid hqm.1.len
          have hqH := Lib.hid hq
          obtain ⟨b7, o7, g8, o8, c8, rfl, f1, hc8, hI8⟩ := row_nz (hM6H.out.below hblH.out) hq hlq.out hm1
          have hI8H := Lib.hid hI8
          have hI9 := Lib.hid (show IZ wr a2 (nz p) from hPpH.out ▸ hI6.out.below hblH.out)
          have hlp := Lib.hid hPrH.out.len
          have hkI : (k : Int) < (t : Int) := by omega
          have hk0 : (0 : Int) ≤ (k : Int) := by omega
          have hqok := Lib.hid hqm.2
          clear hq hI8 hqm
          by_cases hkR : k < R
          · have hne : q ≠ p := fun e => by
              have := sorted_once hsrt.out (e ▸ hqH.out) hRH.out
              omega
            have hneB := Lib.hid (show decide (q = p) = false from decide_eq_false hne)
            clear hne
            go_wp2_with (first
              | (go_at_call 23; go_loud (with_reducible refine (same_pq (some ⟨g8, o8, none⟩) a2 c8 d2 m q p false _ hI8H.out hI9.out hlq.out hlp.out (by omega) hneB.out).mono ?_); rintro e w7 ⟨rfl, hb7⟩; have hb7H := Lib.hid hb7; clear hb7))
            go_roundg g1
            case measure => omega
            case rel => exact ⟨k + 1, by go_num, by omega, by omega, bseqJ hblH.out hb7H.out⟩
          · have hkR2 : k = R := by omega
            subst hkR2
            have e1 : q = p := by have := hRH.out; rw [hqH.out] at this; injection this
            subst e1
            go_wp2_with (first
              | (go_at_call 23; go_loud (with_reducible refine (same_pq (some ⟨g8, o8, none⟩) a2 c8 d2 m q q true _ hI8H.out hI9.out hlq.out hlq.out (by omega) (by simp)).mono ?_); rintro e w7 ⟨rfl, hb7⟩; have hb7H := Lib.hid hb7; clear hb7)
              | (go_at_call 21; go_loud (with_reducible refine (lives_any _).mono ?_); rintro e w8 ⟨rfl, hb8⟩; have hb8H := Lib.hid hb8; clear hb8))
            go_ret
            exact ⟨rfl, bseqJ hbw.out (bseqJ hblH.out (bseqJ hb7H.out hb8H.out))⟩
        · omega
      · have hokH := Lib.hid hok
        clear hok
        go_enter Try.func11, Try.ntmps11
        go_wp2_with (first
          | (go_at_call 18; go_loud (with_reducible refine hfew.out.mono ?_); rintro e w1 hR; rw [hDH.out] at hR; obtain ⟨a1, d1, rfl, hM, hd1, hb1⟩ := hR.out hmH.out; have hMH := Lib.hid hM; have hb1H := Lib.hid hb1; clear hR hM hb1)
          | (go_at_call 36; go_loud (with_reducible refine (hcutL.out _ hb1H.out).mono ?_); rintro e w2 hR; rw [hPH.out] at hR; obtain ⟨a2, d2, rfl, hI2, hd2, hb2⟩ := hR; rw [hl1H.out] at hd2 ⊢; have hI2H := Lib.hid hI2; have hb2H := Lib.hid hb2; clear hI2 hb2)
          | (go_at_call 42; go_loud (with_reducible refine (rank_none a1 a2 d1 m d2 D z p _ (hMH.out.below hb2H.out) hgH.out hmH.out (hPpH.out ▸ hI2H.out) hPrH.out hokH.out).mono ?_); rintro e w3 ⟨rfl, hb3⟩; have hM3 := Lib.hid (hMH.out.below (bseqJ hb2H.out hb3)); have hI3 := Lib.hid (hI2H.out.below hb3); have hb3H := Lib.hid hb3; clear hb3)
          | (go_at_call 20; go_loud (with_reducible refine (costs_any a1 d1 m D true _ hM3.out hmH.out (by omega) hbH.out).mono ?_); rintro e w4 ⟨rfl, rfl⟩)
          | (go_at_call 31; go_loud (with_reducible refine (pairingR_any a2 d2 m m P true _ hI3.out hl1H.out hd2 (by omega) (by omega) hpH.out).mono ?_); rintro e w5 ⟨rfl, hb5⟩; have hb5H := Lib.hid hb5; clear hb5)
          | (go_at_call 28; go_loud (with_reducible refine (allowed_any a1 d1 m D z _ (hM3.out.below hb5H.out) hgH.out hmH.out).mono ?_); rintro e w6 hR; rw [hLH.out] at hR; obtain ⟨a6, d6, rfl, hM6, hd6, hb6⟩ := hR.out htr.out; have hM6H := Lib.hid hM6; have hb6H := Lib.hid hb6; clear hR hM6 hb6))
        have hI6 := Lib.hid (hI3.out.below (bseqJ hb5H.out hb6H.out))
        have hbw := Lib.hid (bseqJ hb1H.out (bseqJ hb2H.out (bseqJ hb3H.out (bseqJ hb5H.out hb6H.out))))
        go_loopg [13] t (fun gk iv wr => ∃ k : Nat, iv = .int .i64 (k : Nat) ∧ k + gk = t ∧ Below w6.heap.size w6 wr)
        case atStart => exact ⟨0, rfl, by omega, Below.refl _ _⟩
        case round =>
        obtain ⟨k, rfl, hk, hbl⟩ := hrel
        have hblH := Lib.hid hbl
        clear hbl
        by_cases hkt : k < t
        · obtain ⟨g1, rfl⟩ : ∃ g1, gk = g1 + 1 := ⟨gk - 1, by omega⟩
          obtain ⟨q, hq⟩ : ∃ q, L[k]? = some q := ⟨_, List.getElem?_eq_getElem (by rw [htH.out]; exact hkt)⟩
          have hqm := (hmemL.out q).1 (List.mem_of_getElem? hq)
          have hlq := Lib.hid hqm.1.len
          have hqH := Lib.hid hq
          obtain ⟨b7, o7, g8, o8, c8, rfl, f1, hc8, hI8⟩ := row_nz (hM6H.out.below hblH.out) hq hlq.out hm1
          have hI8H := Lib.hid hI8
          have hI9 := Lib.hid (show IZ wr a2 (nz p) from hPpH.out ▸ hI6.out.below hblH.out)
          have hlp := Lib.hid hPrH.out.len
          have hkI : (k : Int) < (t : Int) := by omega
          have hk0 : (0 : Int) ≤ (k : Int) := by omega
          have hqok := Lib.hid hqm.2
          clear hq hI8 hqm
          have hne : q ≠ p := fun e => hokH.out (e ▸ hqok.out)
          have hneB := Lib.hid (show decide (q = p) = false from decide_eq_false hne)
          clear hne
          go_wp2_with (first
            | (go_at_call 23; go_loud (with_reducible refine (same_pq (some ⟨g8, o8, none⟩) a2 c8 d2 m q p false _ hI8H.out hI9.out hlq.out hlp.out (by omega) hneB.out).mono ?_); rintro e w7 ⟨rfl, hb7⟩; have hb7H := Lib.hid hb7; clear hb7))
          go_roundg g1
          case measure => omega
          case rel => exact ⟨k + 1, by go_num, by omega, bseqJ hblH.out hb7H.out⟩
        · have hke : t = k := by omega
          subst hke
          have hkI : ¬ (t : Int) < (t : Int) := by omega
          go_wp2_with (first | (go_at_call 21; go_loud (with_reducible refine (lives_any _).mono ?_); rintro e w8 ⟨rfl, hb8⟩; have hb8H := Lib.hid hb8; clear hb8))
          go_ret
          exact ⟨rfl, bseqJ hbw.out (bseqJ hblH.out hb8H.out)⟩
end Go.Proofs.Yteiipfajoikfpaa
