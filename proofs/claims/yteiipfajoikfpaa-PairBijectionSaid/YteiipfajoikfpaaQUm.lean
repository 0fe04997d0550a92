/- Um -/
import Derived.Test.YteiipfajoikfpaaQUl
import Derived.Test.YteiipfajoikfpaaQUc
set_option linter.unusedVariables false
/- Walk of PairCounts. -/
namespace Go.Proofs.Yteiipfajoikfpaa
open Go Go.RowKit Go.Proofs

set_option maxRecDepth 100000 in
set_option maxHeartbeats 12800000 in
theorem countsLaw_any (ao : Option Addr) (c n : Nat) (C : List (List Int)) (z r : Int) (w : World) (h : IMx w ao C) (hn : C.length = n) (hm : n ≤ 9223372036854775807) (hr : ∀ r ∈ C, r.length ≤ 9223372036854775807) :
    Calls Try.prog 5 #[.slice ao n c, .int .i64 z, .int .i64 r] w (RetB w true) := by
  obtain ⟨D, hD⟩ : ∃ D, fewM C = D := ⟨_, rfl⟩
  obtain ⟨m, hmD⟩ : ∃ m, D.length = m := ⟨_, rfl⟩
  have hm9 : m ≤ 9 := by rw [← hmD, ← hD]; exact fewM_small C
  have hfew := Lib.hid (few_anyJ ao c n C w h hn hm hr)
  have hDH := Lib.hid hD
  have hmH := Lib.hid hmD
  clear h hn hm hr hD hmD
  rcases hb : costsB D
  · have hbH := Lib.hid hb
    clear hb
    go_enter Try.func5, Try.ntmps5
    go_wp2_with (first
      | (go_at_call 18; go_loud (with_reducible refine hfew.out.mono ?_); rintro e w1 hR; rw [hDH.out] at hR; obtain ⟨a1, d1, rfl, hM, hd1, hb1⟩ := hR.out hmH.out; have hMH := Lib.hid hM; have hb1H := Lib.hid hb1; clear hR hM hb1)
      | (go_at_call 26; go_loud (with_reducible refine (count_bad a1 d1 m D z _ hMH.out hmH.out (by omega) hbH.out).mono ?_); rintro e w2 ⟨rfl, hb2⟩; have hM2 := Lib.hid (hMH.out.below hb2); have hb2H := Lib.hid hb2; clear hb2)
      | (go_at_call 27; go_loud (with_reducible refine (at_bad a1 d1 m D z r _ hM2.out hmH.out (by omega) hbH.out).mono ?_); rintro e w3 ⟨rfl, hb3⟩; have hM3 := Lib.hid (hM2.out.below hb3); have hb3H := Lib.hid hb3; clear hb3)
      | (go_at_call 20; go_loud (with_reducible refine (costs_any a1 d1 m D false _ hM3.out hmH.out (by omega) hbH.out).mono ?_); rintro e w4 ⟨rfl, rfl⟩)
      | (go_at_call 21; go_loud (with_reducible refine (lives_any _).mono ?_); rintro e w5 ⟨rfl, hb5⟩; have hb5H := Lib.hid hb5; clear hb5))
    go_ret
    exact ⟨rfl, bseqJ hb1H.out (bseqJ hb2H.out (bseqJ hb3H.out hb5H.out))⟩
  · have hbH := Lib.hid hb
    have hg := goodC_of hb
    have hgH := Lib.hid hg
    have hm8 : m ≤ 8 := by rw [← hmH.out]; exact hg.2.1
    have hm1 : 0 < m := by rw [← hmH.out]; exact hg.1
    clear hb hg
    obtain ⟨L, hL⟩ : ∃ L, alwN (upA D z) m = L := ⟨_, rfl⟩
    obtain ⟨t, ht⟩ : ∃ t, L.length = t := ⟨_, rfl⟩
    have hts : t ≤ 16777216 := by
      rw [← ht, ← hL, ← alP_filter hm1]
      exact Nat.le_trans (List.length_filter_le ..) (Nat.le_trans (allP_le m m []) (pow_small hm8 hm8))
    have htr : Hid ((rowsP L).length = t) := by show _ = _; rw [rowsP_length]; exact ht
    have hLH := Lib.hid hL
    have htH := Lib.hid ht
    clear hL ht
    have ett : ((t : Int) != (t : Int)) = false := by simp
    by_cases hrr : r < 0 ∨ (t : Int) ≤ r
    · have hrH : Hid (r < 0 ∨ (((alwN (upA D z) m).length : Nat) : Int) ≤ r) := by show _ ∨ _; rw [hLH.out, htH.out]; exact hrr
      by_cases hr0 : r < 0
      · have hr0B : decide (r < 0) = true := by simpa using hr0
        clear hrr
        go_enter Try.func5, Try.ntmps5
        go_wp2_with (first
          | (go_at_call 18; go_loud (with_reducible refine hfew.out.mono ?_); rintro e w1 hR; rw [hDH.out] at hR; obtain ⟨a1, d1, rfl, hM, hd1, hb1⟩ := hR.out hmH.out; have hMH := Lib.hid hM; have hb1H := Lib.hid hb1; clear hR hM hb1)
          | (go_at_call 26; go_loud (with_reducible refine (count_good a1 d1 m D z _ hMH.out hgH.out hmH.out).mono ?_); rintro e w2 ⟨he, hb2⟩; rw [hLH.out, htH.out] at he; subst he; have hM2 := Lib.hid (hMH.out.below hb2); have hb2H := Lib.hid hb2; clear hb2)
          | (go_at_call 27; go_loud (with_reducible refine (at_none a1 d1 m D z r _ hM2.out hgH.out hmH.out hrH.out).mono ?_); rintro e w3 ⟨rfl, hb3⟩; have hM3 := Lib.hid (hM2.out.below hb3); have hb3H := Lib.hid hb3; clear hb3)
          | (go_at_call 20; go_loud (with_reducible refine (costs_any a1 d1 m D true _ hM3.out hmH.out (by omega) hbH.out).mono ?_); rintro e w4 ⟨rfl, rfl⟩)
          | (go_at_call 28; go_loud (with_reducible refine (allowed_any a1 d1 m D z _ hM3.out hgH.out hmH.out).mono ?_); rintro e w5 hR; rw [hLH.out] at hR; obtain ⟨a5, d5, rfl, hM5, hd5, hb5⟩ := hR.out htr.out; have hM5H := Lib.hid hM5; have hb5H := Lib.hid hb5; clear hR hM5 hb5)
          | (go_at_call 21; go_loud (with_reducible refine (lives_any _).mono ?_); rintro e w6 ⟨rfl, hb6⟩; have hb6H := Lib.hid hb6; clear hb6))
        go_ret
        exact ⟨rfl, bseqJ hb1H.out (bseqJ hb2H.out (bseqJ hb3H.out (bseqJ hb5H.out hb6H.out)))⟩
      · have hr0B : decide (r < 0) = false := by simpa using hr0
        have hrt : (t : Int) ≤ r := by omega
        have hrtB : decide ((t : Int) ≤ r) = true := by simpa using hrt
        clear hrr
        go_enter Try.func5, Try.ntmps5
        go_wp2_with (first
          | (go_at_call 18; go_loud (with_reducible refine hfew.out.mono ?_); rintro e w1 hR; rw [hDH.out] at hR; obtain ⟨a1, d1, rfl, hM, hd1, hb1⟩ := hR.out hmH.out; have hMH := Lib.hid hM; have hb1H := Lib.hid hb1; clear hR hM hb1)
          | (go_at_call 26; go_loud (with_reducible refine (count_good a1 d1 m D z _ hMH.out hgH.out hmH.out).mono ?_); rintro e w2 ⟨he, hb2⟩; rw [hLH.out, htH.out] at he; subst he; have hM2 := Lib.hid (hMH.out.below hb2); have hb2H := Lib.hid hb2; clear hb2)
          | (go_at_call 27; go_loud (with_reducible refine (at_none a1 d1 m D z r _ hM2.out hgH.out hmH.out hrH.out).mono ?_); rintro e w3 ⟨rfl, hb3⟩; have hM3 := Lib.hid (hM2.out.below hb3); have hb3H := Lib.hid hb3; clear hb3)
          | (go_at_call 20; go_loud (with_reducible refine (costs_any a1 d1 m D true _ hM3.out hmH.out (by omega) hbH.out).mono ?_); rintro e w4 ⟨rfl, rfl⟩)
          | (go_at_call 28; go_loud (with_reducible refine (allowed_any a1 d1 m D z _ hM3.out hgH.out hmH.out).mono ?_); rintro e w5 hR; rw [hLH.out] at hR; obtain ⟨a5, d5, rfl, hM5, hd5, hb5⟩ := hR.out htr.out; have hM5H := Lib.hid hM5; have hb5H := Lib.hid hb5; clear hR hM5 hb5)
          | (go_at_call 21; go_loud (with_reducible refine (lives_any _).mono ?_); rintro e w6 ⟨rfl, hb6⟩; have hb6H := Lib.hid hb6; clear hb6))
        go_ret
        exact ⟨rfl, bseqJ hb1H.out (bseqJ hb2H.out (bseqJ hb3H.out (bseqJ hb5H.out hb6H.out)))⟩
    · obtain ⟨R, rfl⟩ : ∃ R : Nat, r = (R : Int) := ⟨r.toNat, by omega⟩
      have hR0 : ¬ (R : Int) < 0 := by omega
      have hR0B : decide ((R : Int) < 0) = false := by simp
      have hRt : R < t := by omega
      have hRtI : (R : Int) < (t : Int) := by omega
      have hRtB : decide ((t : Int) ≤ (R : Int)) = false := by simp; omega
      have hRL : Hid (R < (alwN (upA D z) m).length) := by show _ < _; rw [hLH.out, htH.out]; exact hRt
      clear hrr
      go_enter Try.func5, Try.ntmps5
      go_upto_region 11 with (first
          | (go_at_call 18; go_loud (with_reducible refine hfew.out.mono ?_); rintro e w1 hR; rw [hDH.out] at hR; obtain ⟨a1, d1, rfl, hM, hd1, hb1⟩ := hR.out hmH.out; have hMH := Lib.hid hM; have hb1H := Lib.hid hb1; clear hR hM hb1)
          | (go_at_call 26; go_loud (with_reducible refine (count_good a1 d1 m D z _ hMH.out hgH.out hmH.out).mono ?_); rintro e w2 ⟨he, hb2⟩; rw [hLH.out, htH.out] at he; subst he; have hM2 := Lib.hid (hMH.out.below hb2); have hb2H := Lib.hid hb2; clear hb2)
          | (go_at_call 27; go_loud (with_reducible refine (at_good a1 d1 m R D z _ hM2.out hgH.out hmH.out hRL.out).mono ?_); rintro e w3 ⟨l, g3, o3, c3, hlr, hln, rfl, hc3, hI3, hb3⟩; rw [hLH.out] at hlr; have hlR := Lib.hid hlr; have hll := Lib.hid hln; have hI3H := Lib.hid hI3; have hM3 := Lib.hid (hM2.out.below hb3); have hb3H := Lib.hid hb3; clear hb3 hI3 hlr hln)
          | (go_at_call 20; go_loud (with_reducible refine (costs_any a1 d1 m D true _ hM3.out hmH.out (by omega) hbH.out).mono ?_); rintro e w4 ⟨rfl, rfl⟩)
          | (go_at_call 28; go_loud (with_reducible refine (allowed_any a1 d1 m D z _ hM3.out hgH.out hmH.out).mono ?_); rintro e w5 hR; rw [hLH.out] at hR; obtain ⟨a5, d5, rfl, hM5, hd5, hb5⟩ := hR.out htr.out; have hM5H := Lib.hid hM5; have hb5H := Lib.hid hb5; clear hR hM5 hb5)
          | (go_at_call 21; go_loud (with_reducible refine (lives_any _).mono ?_); rintro e w6 ⟨rfl, hb6⟩; have hb6H := Lib.hid hb6; clear hb6))
      obtain ⟨b7, o7, g7, o8, c8, rfl, f1, hc8, hI8⟩ := row_nz hM5H.out hlR.out hll.out hm1
      have hI8H := Lib.hid (hI8.below hb6H.out)
      have f2 := Below.cellAt hb6H.out (Nat.le_refl _) f1
      clear f1 hI8
      go_wp2_with (go_at_call 23; go_loud (with_reducible refine (same_nz _ _ c3 c8 m l _ (hI3H.out.below (bseqJ hb5H.out hb6H.out)) hI8H.out hll.out (by omega)).mono ?_); rintro e w7 ⟨rfl, hb7⟩; have hb7H := Lib.hid hb7; clear hb7)
      go_ret
      exact ⟨rfl, bseqJ hb1H.out (bseqJ hb2H.out (bseqJ hb3H.out (bseqJ hb5H.out (bseqJ hb6H.out hb7H.out))))⟩
end Go.Proofs.Yteiipfajoikfpaa
