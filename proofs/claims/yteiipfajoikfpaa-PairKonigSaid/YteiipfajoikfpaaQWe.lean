/- We -/
import Derived.Test.YteiipfajoikfpaaQWd
import Derived.Test.YteiipfajoikfpaaQWa
import Derived.Test.YteiipfajoikfpaaQUb
set_option linter.unusedVariables false
/- The law PairMosts, walked. -/
namespace Go.Proofs.Yteiipfajoikfpaa
open Go Go.RowKit Go.Proofs

theorem mostP_at (ao : Option Addr) (c n : Nat) (C : List (List Int)) (z : Int) (t : Nat) (w : World) (h : IMx w ao C) (hg : goodC C) (hn : C.length = n) (ht : mostM (upA C z) n n 0 = t) :
    Calls Try.prog 39 #[.slice ao n c, .int .i64 z] w (fun e w' => ∃ (rs cs : List Nat) (aR aC : Option Addr) (lR lC cR cC : Nat), Asc n 0 rs ∧ Asc n 0 cs ∧ covB (upA C z) n rs cs = true ∧ rs.length = lR ∧ cs.length = lC ∧ lR + lC = t ∧ e = .returned (.tuple #[.int .i64 (t : Nat), .slice aR lR cR, .slice aC lC cC, .int .i64 0]) ∧ IZ w' aR (nz rs) ∧ IZ w' aC (nz cs) ∧ lR ≤ cR ∧ lC ≤ cC ∧ Below w.heap.size w w') :=
  (mostP_good ao c n C z w h hg hn).mono fun e w' ⟨rs, cs, aR, aC, lR, lC, cR, cC, u, h1, h2, h3, h4, h5, h6, h7, h8, h9, h10, h11, h12, h13⟩ => by
    have e1 := h7.symm.trans ht
    subst e1
    exact ⟨rs, cs, aR, aC, lR, lC, cR, cC, h1, h2, covB_iff.2 h3, h4, h5, h6, h8, h9, h10, h11, h12, h13⟩
theorem most_le (A : Nat → Nat → Bool) (n : Nat) : mostM A n n 0 ≤ n := mostM_le A n n 0
set_option maxRecDepth 100000 in
set_option maxHeartbeats 12800000 in
theorem mostsLaw_any (ao : Option Addr) (c n : Nat) (C : List (List Int)) (z : Int) (w : World) (h : IMx w ao C) (hn : C.length = n) (hm : n ≤ 9223372036854775807) (hr : ∀ r ∈ C, r.length ≤ 9223372036854775807) :
    Calls Try.prog 10 #[.slice ao n c, .int .i64 z] w (RetB w true) := by
  obtain ⟨D, hD⟩ : ∃ D, fewM C = D := ⟨_, rfl⟩
  obtain ⟨m, hmD⟩ : ∃ m, D.length = m := ⟨_, rfl⟩
  have hm9 : m ≤ 9 := by rw [← hmD, ← hD]; exact fewM_small C
  have hfew := Lib.hid (few_anyJ ao c n C w h hn hm hr)
  have hDH := Lib.hid hD
  have hmH := Lib.hid hmD
  clear h hn hm hr hD hmD
  rcases hb : costsB D
  · have hbH := Lib.hid hb
    clear hb
    go_enter Try.func10, Try.ntmps10
    go_wp2_with (first
      | (go_at_call 18; go_loud (with_reducible refine hfew.out.mono ?_); rintro e w1 hR; rw [hDH.out] at hR; obtain ⟨a1, d1, rfl, hM, hd1, hb1⟩ := hR.out hmH.out; have hMH := Lib.hid hM; have hb1H := Lib.hid hb1; clear hR hM hb1)
      | (go_at_call 39; go_loud (with_reducible refine (mostP_bad a1 d1 m D z _ hMH.out hmH.out (by omega) hbH.out).mono ?_); rintro e w2 ⟨rfl, hb2⟩; have hM2 := Lib.hid (hMH.out.below hb2); have hb2H := Lib.hid hb2; clear hb2)
      | (go_at_call 20; go_loud (with_reducible refine (costs_any a1 d1 m D false _ hM2.out hmH.out (by omega) hbH.out).mono ?_); rintro e w4 ⟨rfl, rfl⟩)
      | (go_at_call 21; go_loud (with_reducible refine (lives_any _).mono ?_); rintro e w5 ⟨rfl, hb5⟩; have hb5H := Lib.hid hb5; clear hb5))
    go_ret
    exact ⟨rfl, bseqJ hb1H.out (bseqJ hb2H.out hb5H.out)⟩
  · have hbH := Lib.hid hb
    have hg := (of_decide_eq_true hb : goodC D)
    have hgH := Lib.hid hg
    obtain ⟨t, ht⟩ : ∃ t, mostM (upA D z) m m 0 = t := ⟨_, rfl⟩
    have ht8 : t ≤ m := by rw [← ht]; exact most_le _ _
    have htH := Lib.hid ht
    clear hb ht hg
    go_enter Try.func10, Try.ntmps10
    go_upto_region 4 with (first
      | (go_at_call 18; go_loud (with_reducible refine hfew.out.mono ?_); rintro e w1 hR; rw [hDH.out] at hR; obtain ⟨a1, d1, rfl, hM, hd1, hb1⟩ := hR.out hmH.out; have hMH := Lib.hid hM; have hb1H := Lib.hid hb1; clear hR hM hb1)
      | (go_at_call 39; go_loud (with_reducible refine (mostP_at a1 d1 m D z t _ hMH.out hgH.out hmH.out htH.out).mono ?_); rintro e w2 ⟨rs, cs, aR, aC, lR, lC, cR, cC, hrs, hcs, hcv, hlR, hlC, hlt, rfl, hR, hC, hcR, hcC, hb2⟩; have hM2 := Lib.hid (hMH.out.below hb2); have hb2H := Lib.hid hb2; have hrsH := Lib.hid hrs; have hcsH := Lib.hid hcs; have hcvH := Lib.hid hcv; have hlRH := Lib.hid hlR; have hlCH := Lib.hid hlC; have hRH := Lib.hid hR; have hCH := Lib.hid hC; clear hb2 hrs hcs hcv hlR hlC hR hC)
      | (go_at_call 20; go_loud (with_reducible refine (costs_any a1 d1 m D true _ hM2.out hmH.out (by omega) hbH.out).mono ?_); rintro e w4 ⟨rfl, rfl⟩))
    have hltI : (lR : Int) + (lC : Int) = (t : Int) := by omega
    go_wp2_with (first
      | (go_at_call 40; go_loud (with_reducible refine (mostR_any a1 d1 m D z t _ hM2.out hgH.out hmH.out htH.out).mono ?_); rintro e w5 ⟨rfl, hb5⟩; have hM5 := Lib.hid (hM2.out.below hb5); have hR5 := Lib.hid (hRH.out.below hb5); have hC5 := Lib.hid (hCH.out.below hb5); have hb5H := Lib.hid hb5; clear hb5)
      | (go_at_call 41; go_loud (with_reducible refine (coversR_any a1 aR aC d1 m lR cR lC cC D z rs cs true _ hM5.out hgH.out hmH.out hR5.out hC5.out hlRH.out hlCH.out hcR hcC hrsH.out hcsH.out hcvH.out).mono ?_); rintro e w6 ⟨rfl, hb6⟩; have hb6H := Lib.hid hb6; clear hb6)
      | (go_at_call 21; go_loud (with_reducible refine (lives_any _).mono ?_); rintro e w9 ⟨rfl, hb9⟩; have hb9H := Lib.hid hb9; clear hb9))
    go_ret
    exact ⟨rfl, bseqJ hb1H.out (bseqJ hb2H.out (bseqJ hb5H.out (bseqJ hb6H.out hb9H.out)))⟩
end Go.Proofs.Yteiipfajoikfpaa
