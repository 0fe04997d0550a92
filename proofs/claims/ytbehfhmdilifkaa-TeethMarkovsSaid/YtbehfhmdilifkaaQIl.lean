/- Il -/
import Derived.Test.YtbehfhmdilifkaaQIk
set_option linter.unusedVariables false
/- Walk of the law TeethMarkovs. -/
namespace Go.Proofs.Ytbehfhmdilifkaa
open Go Go.RowKit Go.Proofs

theorem mkL_len {m : Nat} (h1 : 1 ≤ m) : (mkL m).length ≤ m + 1 := by
  have := rise_len (m := m) (mkL m) 0 mkL_rise (fun v _ => Nat.zero_le _) (fun v hv => by
    rcases mkL_mem.1 hv with rfl | h2
    · exact h1
    · exact mkV_le _ _ _ _ _ _ h2) (by omega)
  omega
section
attribute [local go_sem] undef
theorem markLaw_arg (d : Int) (w : World) (h : d < 1 ∨ 1000000000 < d) : Calls Try.prog 8 #[.int .i64 d] w (RetB w true) := by
  have hr := Lib.hid (fun W => markP_bad d W h)
  by_cases h1 : d < 1
  · have d1 : decide (d < 1) = true := decide_eq_true h1
    clear h
    go_enter Try.func8, Try.ntmps8
    go_wp2_with (first
      | (go_at_call 37; (with_reducible refine (hr.out _).mono ?_); rintro e w1 ⟨rfl, hb⟩; have hb1 := Lib.hid hb; clear hb)
      | (go_at_call 23; (with_reducible refine (lives_any _).mono ?_); rintro e w2 ⟨rfl, hb⟩; have hb2 := Lib.hid hb; clear hb))
    go_ret
    exact ⟨rfl, bseqT hb1.out hb2.out⟩
  · have d1 : decide (d < 1) = false := decide_eq_false h1
    have h2 : 1000000000 < d := by omega
    have d2 : decide (1000000000 < d) = true := decide_eq_true h2
    clear h
    go_enter Try.func8, Try.ntmps8
    go_wp2_with (first
      | (go_at_call 37; (with_reducible refine (hr.out _).mono ?_); rintro e w1 ⟨rfl, hb⟩; have hb1 := Lib.hid hb; clear hb)
      | (go_at_call 23; (with_reducible refine (lives_any _).mono ?_); rintro e w2 ⟨rfl, hb⟩; have hb2 := Lib.hid hb; clear hb))
    go_ret
    exact ⟨rfl, bseqT hb1.out hb2.out⟩
end
set_option maxHeartbeats 1600000 in
theorem markLaw_good (m : Nat) (w : World) (h1 : 1 ≤ m) (h2 : m ≤ 1000000000) : Calls Try.prog 8 #[.int .i64 (m : Nat)] w (RetB w true) := by
  obtain ⟨P, hP⟩ : ∃ P, mkL m = P := ⟨_, rfl⟩
  obtain ⟨L, hL⟩ : ∃ L, P.length = L := ⟨_, rfl⟩
  have hLl : L ≤ m + 1 := by rw [← hL, ← hP]; exact mkL_len h1
  have hr := Lib.hid (fun W => markP_good m W h1 h2)
  have hrr := Lib.hid (fun W => markR_any m W h1 h2)
  unfold MarkP at hr
  unfold MarkR at hrr
  rw [hP, nzT_length, hL] at hr
  rw [hP, hL] at hrr
  have hsm : Hid (∀ (g c g2 c2 : Nat) (W : World), IZ W (some ⟨g, 0, none⟩) (nzT P) → IZ W (some ⟨g2, 0, none⟩) (nzT P) → Calls Try.prog 24 #[.slice (some ⟨g, 0, none⟩) L c, .slice (some ⟨g2, 0, none⟩) L c2] W (RetB W true)) := fun g c g2 c2 W h1 h2 =>
    same_any _ _ c c2 L L _ _ true W h1 h2 (by rw [nzT_length, hL]) (by rw [nzT_length, hL]) (by omega) (by omega) (by unfold sameB; simp)
  have d1 : decide ((m : Int) < 1) = false := decide_eq_false (by omega)
  have d2 : decide ((1000000000 : Int) < (m : Int)) = false := decide_eq_false (by omega)
  have d3 : decide (m < 1) = false := decide_eq_false (by omega)
  have d4 : decide (1000000000 < m) = false := decide_eq_false (by omega)
  clear hP hL
  go_enter Try.func8, Try.ntmps8
  go_wp2_with (first
    | (go_at_call 37; (with_reducible refine (hr.out _).mono ?_); rintro e w1 ⟨g1, c1, rfl, hc1, hI, hb⟩; have hI1 := Lib.hid hI; have hb1 := Lib.hid hb; clear hI hb hc1)
    | (go_at_call 38; (with_reducible refine (hrr.out _).mono ?_); rintro e w4 ⟨g4, c4, rfl, hc4, hI, hb⟩; have hI4 := Lib.hid hI; have hb4 := Lib.hid hb; clear hI hb hc4)
    | (go_at_call 24; (refine (hsm.out _ _ _ _ _ (hI1.out.below hb4.out) hI4.out).mono ?_); rintro e w5 ⟨rfl, hb⟩; have hb5 := Lib.hid hb; clear hb)
    | (go_at_call 23; (with_reducible refine (lives_any _).mono ?_); rintro e w2 ⟨rfl, hb⟩; have hb2 := Lib.hid hb; clear hb))
  go_ret
  exact ⟨rfl, bseqT hb1.out (bseqT hb4.out (bseqT hb5.out hb2.out))⟩
theorem markLaw_any (d : Int) (w : World) : Calls Try.prog 8 #[.int .i64 d] w (RetB w true) := by
  by_cases h : d < 1 ∨ 1000000000 < d
  · exact markLaw_arg d w h
  · obtain ⟨n, rfl⟩ : ∃ n : Nat, d = (n : Int) := ⟨d.toNat, by omega⟩
    exact markLaw_good n w (by omega) (by omega)
end Go.Proofs.Ytbehfhmdilifkaa
