/- Hg -/
import Derived.Test.YtbehfhmdilifkaaQHf
set_option linter.unusedVariables false
/- Walks of the laws TeethRoots and TeethTerms. -/
namespace Go.Proofs.Ytbehfhmdilifkaa
open Go Go.RowKit Go.Proofs

section
attribute [local go_sem] undef
theorem rootsLaw_arg (d : Int) (w : World) (h : d < 2 ∨ 1000 < d) : Calls Try.prog 5 #[.int .i64 d] w (RetB w true) := by
  have hr := Lib.hid (fun W => rootP_bad d W h)
  by_cases h1 : d < 2
  · have d1 : decide (d < 2) = true := decide_eq_true h1
    clear h
    go_enter Try.func5, Try.ntmps5
    go_wp2_with (first
      | (go_at_call 28; (with_reducible refine (hr.out _).mono ?_); rintro e w1 ⟨rfl, rfl⟩)
      | (go_at_call 23; (with_reducible refine (lives_any _).mono ?_); rintro e w2 ⟨rfl, hb⟩; have hb2 := Lib.hid hb; clear hb))
    go_ret
    exact ⟨rfl, hb2.out⟩
  · have d1 : decide (d < 2) = false := decide_eq_false h1
    have h2 : 1000 < d := by omega
    have d2 : decide (1000 < d) = true := decide_eq_true h2
    clear h
    go_enter Try.func5, Try.ntmps5
    go_wp2_with (first
      | (go_at_call 28; (with_reducible refine (hr.out _).mono ?_); rintro e w1 ⟨rfl, rfl⟩)
      | (go_at_call 23; (with_reducible refine (lives_any _).mono ?_); rintro e w2 ⟨rfl, hb⟩; have hb2 := Lib.hid hb; clear hb))
    go_ret
    exact ⟨rfl, hb2.out⟩
end
theorem rootsLaw_sq (d : Nat) (w : World) (h2 : 2 ≤ d) (h3 : d ≤ 1000) (h : sqB d = true) : Calls Try.prog 5 #[.int .i64 (d : Nat)] w (RetB w true) := by
  have hr := Lib.hid (fun W => rootP_sq d W h2 h3 h)
  have hs := Lib.hid (fun W => square_any d true W (by omega) h)
  have d1 : decide ((d : Int) < 2) = false := decide_eq_false (by omega)
  have d2 : decide ((1000 : Int) < (d : Int)) = false := decide_eq_false (by omega)
  have d3 : decide (d < 2) = false := decide_eq_false (by omega)
  have d4 : decide (1000 < d) = false := decide_eq_false (by omega)
  clear h
  go_enter Try.func5, Try.ntmps5
  go_wp2_with (first
    | (go_at_call 28; (with_reducible refine (hr.out _).mono ?_); rintro e w1 ⟨rfl, rfl⟩)
    | (go_at_call 29; (with_reducible refine (hs.out _).mono ?_); rintro e w3 ⟨rfl, hb⟩; have hb3 := Lib.hid hb; clear hb)
    | (go_at_call 23; (with_reducible refine (lives_any _).mono ?_); rintro e w2 ⟨rfl, hb⟩; have hb2 := Lib.hid hb; clear hb))
  go_ret
  have := hb3.out
  subst this
  exact ⟨rfl, hb2.out⟩
set_option maxHeartbeats 1600000 in
theorem rootsLaw_good (d : Nat) (w : World) (h2 : 2 ≤ d) (h3 : d ≤ 1000) (h : sqB d = false) : Calls Try.prog 5 #[.int .i64 (d : Nat)] w (RetB w true) := by
  obtain ⟨n, hn⟩ : ∃ n, fl d = n := ⟨_, rfl⟩
  obtain ⟨P, hP⟩ : ∃ P, per d = P := ⟨_, rfl⟩
  obtain ⟨L, hL⟩ : ∃ L, P.length = L := ⟨_, rfl⟩
  have hnl : n ≤ 31 := by rw [← hn, fl_small h2 h3]; exact sq32_le d
  have hLl : L ≤ 70 := by rw [← hL, ← hP]; exact (perI h2 h3 (of_decide_eq_false h)).len
  have hr := Lib.hid (fun W => rootP_good d n W h2 h3 h hn)
  have hrr := Lib.hid (fun W => rootR_good d n W h2 h3 h hn)
  unfold RootPost at hr
  unfold RootRPost at hrr
  rw [hP, hL] at hr hrr
  have hs := Lib.hid (fun W => square_any d false W (by omega) h)
  have hsm : Hid (∀ (g c g2 c2 : Nat) (W : World), IZ W (some ⟨g, 0, none⟩) (nzT P) → IZ W (some ⟨g2, 0, none⟩) (nzT P) → Calls Try.prog 24 #[.slice (some ⟨g, 0, none⟩) L c, .slice (some ⟨g2, 0, none⟩) L c2] W (RetB W true)) := fun g c g2 c2 W h1 h2 =>
    same_any _ _ c c2 L L _ _ true W h1 h2 (by rw [nzT_length, hL]) (by rw [nzT_length, hL]) (by omega) (by omega) (by unfold sameB; simp)
  have d1 : decide ((d : Int) < 2) = false := decide_eq_false (by omega)
  have d2 : decide ((1000 : Int) < (d : Int)) = false := decide_eq_false (by omega)
  have d3 : decide (d < 2) = false := decide_eq_false (by omega)
  have d4 : decide (1000 < d) = false := decide_eq_false (by omega)
  have d5 : ((n : Int) == (n : Int)) = true := by simp
  clear h hn hP hL
  go_enter Try.func5, Try.ntmps5
  go_wp2_with (first
    | (go_at_call 28; (with_reducible refine (hr.out _).mono ?_); rintro e w1 ⟨g1, c1, rfl, hc1, hI, hb⟩; have hI1 := Lib.hid hI; have hb1 := Lib.hid hb; clear hI hb hc1)
    | (go_at_call 29; (with_reducible refine (hs.out _).mono ?_); rintro e w3 ⟨rfl, hb⟩; have hb3 := Lib.hid hb; clear hb)
    | (go_at_call 30; (with_reducible refine (hrr.out _).mono ?_); rintro e w4 ⟨g4, c4, rfl, hc4, hI, hb⟩; have hI4 := Lib.hid hI; have hb4 := Lib.hid hb; clear hI hb hc4)
    | (go_at_call 24; (refine (hsm.out _ _ _ _ _ (hI1.out.below (by rw [hb3.out]; exact hb4.out)) hI4.out).mono ?_); rintro e w5 ⟨rfl, hb⟩; have hb5 := Lib.hid hb; clear hb)
    | (go_at_call 23; (with_reducible refine (lives_any _).mono ?_); rintro e w2 ⟨rfl, hb⟩; have hb2 := Lib.hid hb; clear hb))
  go_ret
  have := hb3.out
  subst this
  exact ⟨rfl, bseqT hb1.out (bseqT hb4.out (bseqT hb5.out hb2.out))⟩
theorem rootsLaw_any (d : Int) (w : World) : Calls Try.prog 5 #[.int .i64 d] w (RetB w true) := by
  by_cases h : d < 2 ∨ 1000 < d
  · exact rootsLaw_arg d w h
  · obtain ⟨n, rfl⟩ : ∃ n : Nat, d = (n : Int) := ⟨d.toNat, by omega⟩
    cases hs : sqB n with
    | true => exact rootsLaw_sq n w (by omega) (by omega) hs
    | false => exact rootsLaw_good n w (by omega) (by omega) hs
end Go.Proofs.Ytbehfhmdilifkaa
