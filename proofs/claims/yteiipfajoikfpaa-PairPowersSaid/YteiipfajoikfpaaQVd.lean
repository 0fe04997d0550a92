/- Vd -/
import Derived.Test.YteiipfajoikfpaaQUq
import Derived.Test.YteiipfajoikfpaaQVb
import Derived.Test.YteiipfajoikfpaaQVc
set_option linter.unusedVariables false
/- Walk of PairWorsts. -/
namespace Go.Proofs.Yteiipfajoikfpaa
open Go Go.RowKit Go.Proofs

theorem even_at (ao : Option Addr) (c n : Nat) (C : List (List Int)) (w : World) (h : IMx w ao C) (hg : goodC C) (hn : C.length = n) {p : List Nat} {v : Int} (hp : Best (byI (spr C)) (allN n) p) (hv : spr C p = v) :
    Calls Try.prog 43 #[.slice ao n c] w (fun e w' => ∃ g o c, e = .returned (.tuple #[.slice (some ⟨g, o, none⟩) n c, .int .i64 v, .int .i64 0]) ∧ n ≤ c ∧ IZ w' (some ⟨g, o, none⟩) (nz p) ∧ Below w.heap.size w w') :=
  (even_good ao c n C w h hg hn).mono fun e w' ⟨l, g, o, c, u, hB, hu, he, hc, hI, hb⟩ => by
    have e1 := hB.unique hp
    subst e1
    have e2 := hu.symm.trans hv
    subst e2
    exact ⟨g, o, c, he, hc, hI, hb⟩
set_option maxRecDepth 100000 in
set_option maxHeartbeats 12800000 in
theorem worstsLaw_any (ao : Option Addr) (c n : Nat) (C : List (List Int)) (w : World) (h : IMx w ao C) (hn : C.length = n) (hm : n ≤ 9223372036854775807) (hr : ∀ r ∈ C, r.length ≤ 9223372036854775807) :
    Calls Try.prog 14 #[.slice ao n c] w (RetB w true) := by
  obtain ⟨D, hD⟩ : ∃ D, fewM C = D := ⟨_, rfl⟩
  obtain ⟨m, hmD⟩ : ∃ m, D.length = m := ⟨_, rfl⟩
  have hm9 : m ≤ 9 := by rw [← hmD, ← hD]; exact fewM_small C
  have hfew := Lib.hid (few_anyJ ao c n C w h hn hm hr)
  have hDH := Lib.hid hD
  have hmH := Lib.hid hmD
  clear h hn hm hr hD hmD
  rcases hb : costsB D
  · have hbH := Lib.hid hb
    clear hb
    go_enter Try.func14, Try.ntmps14
    go_wp2_with (first
      | (go_at_call 18; go_loud (with_reducible refine hfew.out.mono ?_); rintro e w1 hR; rw [hDH.out] at hR; obtain ⟨a1, d1, rfl, hM, hd1, hb1⟩ := hR.out hmH.out; have hMH := Lib.hid hM; have hb1H := Lib.hid hb1; clear hR hM hb1)
      | (go_at_call 30; go_loud (with_reducible refine (worst_bad a1 d1 m D _ hMH.out hmH.out (by omega) hbH.out).mono ?_); rintro e w2 ⟨rfl, hb2⟩; have hM2 := Lib.hid (hMH.out.below hb2); have hb2H := Lib.hid hb2; clear hb2)
      | (go_at_call 43; go_loud (with_reducible refine (even_bad a1 d1 m D _ hM2.out hmH.out (by omega) hbH.out).mono ?_); rintro e w3 ⟨rfl, hb3⟩; have hM3 := Lib.hid (hM2.out.below hb3); have hb3H := Lib.hid hb3; clear hb3)
      | (go_at_call 20; go_loud (with_reducible refine (costs_any a1 d1 m D false _ hM3.out hmH.out (by omega) hbH.out).mono ?_); rintro e w4 ⟨rfl, rfl⟩)
      | (go_at_call 21; go_loud (with_reducible refine (lives_any _).mono ?_); rintro e w5 ⟨rfl, hb5⟩; have hb5H := Lib.hid hb5; clear hb5))
    go_ret
    exact ⟨rfl, bseqJ hb1H.out (bseqJ hb2H.out (bseqJ hb3H.out hb5H.out))⟩
  · have hbH := Lib.hid hb
    have hgH := Lib.hid (goodC_of hb)
    obtain ⟨p, hp⟩ := best_exJ (mxP D) m
    obtain ⟨q, hq⟩ := best_exJ (spr D) m
    obtain ⟨v, hv⟩ : ∃ v, mxP D p = v := ⟨_, rfl⟩
    obtain ⟨u, hu⟩ : ∃ u, spr D q = u := ⟨_, rfl⟩
    have hpH := Lib.hid hp
    have hqH := Lib.hid hq
    have hvH := Lib.hid hv
    have huH := Lib.hid hu
    have hlp := Lib.hid (mem_allN.1 hp.mem).len
    have hlq := Lib.hid (mem_allN.1 hq.mem).len
    have hzp : Hid ((nz p).length = m) := by show _ = _; rw [nz_length]; exact hlp.out
    have hzq : Hid ((nz q).length = m) := by show _ = _; rw [nz_length]; exact hlq.out
    clear hb hp hq hv hu
    go_enter Try.func14, Try.ntmps14
    go_wp2_with (first
      | (go_at_call 18; go_loud (with_reducible refine hfew.out.mono ?_); rintro e w1 hR; rw [hDH.out] at hR; obtain ⟨a1, d1, rfl, hM, hd1, hb1⟩ := hR.out hmH.out; have hMH := Lib.hid hM; have hb1H := Lib.hid hb1; clear hR hM hb1)
      | (go_at_call 30; go_loud (with_reducible refine (worst_at a1 d1 m D _ hMH.out hgH.out hmH.out hpH.out hvH.out).mono ?_); rintro e w2 ⟨g2, o2, c2, rfl, hc2, hI2, hb2⟩; have hM2 := Lib.hid (hMH.out.below hb2); have hI2H := Lib.hid hI2; have hb2H := Lib.hid hb2; clear hb2 hI2)
      | (go_at_call 43; go_loud (with_reducible refine (even_at a1 d1 m D _ hM2.out hgH.out hmH.out hqH.out huH.out).mono ?_); rintro e w3 ⟨g3, o3, c3, rfl, hc3, hI3, hb3⟩; have hM3 := Lib.hid (hM2.out.below hb3); have hI3H := Lib.hid hI3; have hb3H := Lib.hid hb3; clear hb3 hI3)
      | (go_at_call 20; go_loud (with_reducible refine (costs_any a1 d1 m D true _ hM3.out hmH.out (by omega) hbH.out).mono ?_); rintro e w4 ⟨rfl, rfl⟩)
      | (go_at_call 44; go_loud (with_reducible refine (worstR_any a1 d1 m D p v _ hM3.out hgH.out hmH.out hpH.out hvH.out).mono ?_); rintro e w5 hR; obtain ⟨a5, c5, rfl, hI5, hc5, hb5⟩ := hR.out hzp.out; have hI5H := Lib.hid hI5; have hb5H := Lib.hid hb5; have hM5 := Lib.hid (hM3.out.below hb5); clear hR hI5 hb5)
      | (go_at_call 45; go_loud (with_reducible refine (evenR_any a1 d1 m D q u _ hM5.out hgH.out hmH.out hqH.out huH.out).mono ?_); rintro e w6 hR; obtain ⟨a6, c6, rfl, hI6, hc6, hb6⟩ := hR.out hzq.out; have hI6H := Lib.hid hI6; have hb6H := Lib.hid hb6; clear hR hI6 hb6)
      | (go_at_call 23; (with_reducible refine (same_nz (some ⟨g2, o2, none⟩) a5 c2 c5 m p _ (hI2H.out.below (bseqJ hb3H.out (bseqJ hb5H.out hb6H.out))) (hI5H.out.below hb6H.out) hlp.out (by omega)).mono ?_); rintro e w7 ⟨rfl, hb7⟩; have hb7H := Lib.hid hb7; clear hb7)
      | (go_at_call 23; go_loud (with_reducible refine (same_nz (some ⟨g3, o3, none⟩) a6 c3 c6 m q _ (hI3H.out.below (bseqJ hb5H.out (bseqJ hb6H.out hb7H.out))) (hI6H.out.below hb7H.out) hlq.out (by omega)).mono ?_); rintro e w8 ⟨rfl, hb8⟩; have hb8H := Lib.hid hb8; clear hb8)
      | (go_at_call 21; go_loud (with_reducible refine (lives_any _).mono ?_); rintro e w9 ⟨rfl, hb9⟩; have hb9H := Lib.hid hb9; clear hb9))
    go_ret
    exact ⟨rfl, bseqJ hb1H.out (bseqJ hb2H.out (bseqJ hb3H.out (bseqJ hb5H.out (bseqJ hb6H.out (bseqJ hb7H.out (bseqJ hb8H.out hb9H.out))))))⟩
end Go.Proofs.Yteiipfajoikfpaa
