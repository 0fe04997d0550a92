/- Uc -/
import Derived.Test.YteiipfajoikfpaaQUb
set_option linter.unusedVariables false
/- Walk of PairCheapests. -/
namespace Go.Proofs.Yteiipfajoikfpaa
open Go Go.RowKit Go.Proofs

theorem same_nz (ao bo : Option Addr) (c d n : Nat) (p : List Nat) (w : World) (h1 : IZ w ao (nz p)) (h2 : IZ w bo (nz p)) (hn : p.length = n) (hm : n ≤ 9223372036854775807) :
    Calls Try.prog 23 #[.slice ao n c, .slice bo n d] w (RetB w true) :=
  same_any ao bo c d n n (nz p) (nz p) true w h1 h2 (by rw [nz_length]; exact hn) (by rw [nz_length]; exact hn) hm hm (by unfold sameB; simp)
theorem goodC_of {C : List (List Int)} (h : costsB C = true) : goodC C := of_decide_eq_true h
theorem RetZI.out {w : World} {xs : List Int} {z : Int} {e : Ending} {w' : World} (h : RetZI w xs z e w') {n : Nat} (hn : xs.length = n) : ∃ a c, e = .returned (.tuple #[.slice a n c, .int .i64 z]) ∧ IZ w' a xs ∧ n ≤ c ∧ Below w.heap.size w w' := by
  subst hn; exact h
set_option maxRecDepth 100000 in
set_option maxHeartbeats 6400000 in
theorem cheapLaw_any (ao : Option Addr) (c n : Nat) (C : List (List Int)) (w : World) (h : IMx w ao C) (hn : C.length = n) (hm : n ≤ 9223372036854775807) (hr : ∀ r ∈ C, r.length ≤ 9223372036854775807) :
    Calls Try.prog 3 #[.slice ao n c] w (RetB w true) := by
  obtain ⟨D, hD⟩ : ∃ D, fewM C = D := ⟨_, rfl⟩
  obtain ⟨m, hmD⟩ : ∃ m, D.length = m := ⟨_, rfl⟩
  have hm9 : m ≤ 9 := by rw [← hmD, ← hD]; exact fewM_small C
  have hfew := Lib.hid (few_anyJ ao c n C w h hn hm hr)
  have hDH := Lib.hid hD
  have hmH := Lib.hid hmD
  clear h hn hm hr hD hmD
  rcases hb : costsB D
  · have hbH := Lib.hid hb
    clear hb
    go_enter Try.func3, Try.ntmps3
    go_wp2_with (first
      | (go_at_call 18; go_loud (with_reducible refine hfew.out.mono ?_); rintro e w1 hR; rw [hDH.out] at hR; obtain ⟨a1, d1, rfl, hM, hd1, hb1⟩ := hR.out hmH.out; have hMH := Lib.hid hM; have hb1H := Lib.hid hb1; clear hR hM hb1)
      | (go_at_call 19; go_loud (with_reducible refine (cheap_bad a1 d1 m D _ hMH.out hmH.out (by omega) hbH.out).mono ?_); rintro e w2 ⟨rfl, hb2⟩; have hM2 := Lib.hid (hMH.out.below hb2); have hb2H := Lib.hid hb2; clear hb2)
      | (go_at_call 20; go_loud (with_reducible refine (costs_any a1 d1 m D false _ hM2.out hmH.out (by omega) hbH.out).mono ?_); rintro e w3 ⟨rfl, rfl⟩)
      | (go_at_call 21; go_loud (with_reducible refine (lives_any _).mono ?_); rintro e w4 ⟨rfl, hb4⟩; have hb4H := Lib.hid hb4; clear hb4))
    go_ret
    exact ⟨rfl, bseqJ hb1H.out (bseqJ hb2H.out hb4H.out)⟩
  · have hbH := Lib.hid hb
    have hgH := Lib.hid (goodC_of hb)
    clear hb
    go_enter Try.func3, Try.ntmps3
    go_wp2_with (first
      | (go_at_call 18; go_loud (with_reducible refine hfew.out.mono ?_); rintro e w1 hR; rw [hDH.out] at hR; obtain ⟨a1, d1, rfl, hM, hd1, hb1⟩ := hR.out hmH.out; have hMH := Lib.hid hM; have hb1H := Lib.hid hb1; clear hR hM hb1)
      | (go_at_call 19; go_loud (with_reducible refine (cheap_good a1 d1 m D _ hMH.out hgH.out hmH.out (fun W hW => prices_any a1 d1 m D W hW hgH.out hmH.out)).mono ?_); rintro e w2 ⟨l, g2, o2, c2, v, hB, hv, rfl, hc2, hI, hb2⟩; have hM2 := Lib.hid (hMH.out.below hb2); have hb2H := Lib.hid hb2; have hBH := Lib.hid hB; have hvH := Lib.hid hv; have hIH := Lib.hid hI; have hll := Lib.hid (mem_allN.1 hB.mem).len; have hzl : Hid ((nz l).length = m) := (by show _ = _; rw [nz_length]; exact hll.out); clear hb2 hB hv hI)
      | (go_at_call 20; go_loud (with_reducible refine (costs_any a1 d1 m D true _ hM2.out hmH.out (by omega) hbH.out).mono ?_); rintro e w3 ⟨rfl, rfl⟩)
      | (go_at_call 22; go_loud (with_reducible refine (cheapestR_any a1 d1 m D l v _ hM2.out hgH.out hmH.out hBH.out hvH.out).mono ?_); rintro e w4 hR; obtain ⟨a4, c4, rfl, hI4, hc4, hb4⟩ := hR.out hzl.out; have hI4H := Lib.hid hI4; have hb4H := Lib.hid hb4; clear hR hI4 hb4)
      | (go_at_call 23; go_loud (with_reducible refine (same_nz _ _ c2 c4 m l _ (hIH.out.below hb4H.out) hI4H.out hll.out (by omega)).mono ?_); rintro e w5 ⟨rfl, hb5⟩; have hb5H := Lib.hid hb5; clear hb5)
      | (go_at_call 21; go_loud (with_reducible refine (lives_any _).mono ?_); rintro e w6 ⟨rfl, hb6⟩; have hb6H := Lib.hid hb6; clear hb6))
    go_ret
    exact ⟨rfl, bseqJ hb1H.out (bseqJ hb2H.out (bseqJ hb4H.out (bseqJ hb5H.out hb6H.out)))⟩
end Go.Proofs.Yteiipfajoikfpaa
