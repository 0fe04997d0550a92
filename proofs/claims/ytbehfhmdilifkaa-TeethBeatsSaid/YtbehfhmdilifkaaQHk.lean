/- Hk -/
import Derived.Test.YtbehfhmdilifkaaQHf
import Derived.Test.YtbehfhmdilifkaaQHj
set_option linter.unusedVariables false
/- Walk of the law TeethBeats. -/
namespace Go.Proofs.Ytbehfhmdilifkaa
open Go Go.RowKit Go.Proofs

section
attribute [local go_sem] undef
theorem beatsLaw_bad (d n : Int) (w : World) (h : d < 2 ∨ 1000 < d ∨ n < 0 ∨ 1000 < n) :
    Calls Try.prog 7 #[.int .i64 d, .int .i64 n] w (RetB w true) := by
  have hr := Lib.hid (fun W => beatsP_bad d n W h)
  by_cases h1 : d < 2
  · have d0 : decide (d < 2) = true := decide_eq_true h1
    clear h
    go_enter Try.func7, Try.ntmps7
    go_wp2_with (first
      | (go_at_call 35; (with_reducible refine (hr.out _).mono ?_); rintro e w1 ⟨rfl, hb⟩; have hb1 := Lib.hid hb; clear hb)
      | (go_at_call 23; (with_reducible refine (lives_any _).mono ?_); rintro e w2 ⟨rfl, hb⟩; have hb2 := Lib.hid hb; clear hb))
    go_ret
    exact ⟨rfl, bseqT hb1.out hb2.out⟩
  have d0 : decide (d < 2) = false := decide_eq_false h1
  by_cases h2 : 1000 < d
  · have d1 : decide (1000 < d) = true := decide_eq_true h2
    clear h
    go_enter Try.func7, Try.ntmps7
    go_wp2_with (first
      | (go_at_call 35; (with_reducible refine (hr.out _).mono ?_); rintro e w1 ⟨rfl, hb⟩; have hb1 := Lib.hid hb; clear hb)
      | (go_at_call 23; (with_reducible refine (lives_any _).mono ?_); rintro e w2 ⟨rfl, hb⟩; have hb2 := Lib.hid hb; clear hb))
    go_ret
    exact ⟨rfl, bseqT hb1.out hb2.out⟩
  have d1 : decide (1000 < d) = false := decide_eq_false h2
  by_cases h3 : n < 0
  · have d2 : decide (n < 0) = true := decide_eq_true h3
    clear h
    go_enter Try.func7, Try.ntmps7
    go_wp2_with (first
      | (go_at_call 35; (with_reducible refine (hr.out _).mono ?_); rintro e w1 ⟨rfl, hb⟩; have hb1 := Lib.hid hb; clear hb)
      | (go_at_call 23; (with_reducible refine (lives_any _).mono ?_); rintro e w2 ⟨rfl, hb⟩; have hb2 := Lib.hid hb; clear hb))
    go_ret
    exact ⟨rfl, bseqT hb1.out hb2.out⟩
  have d2 : decide (n < 0) = false := decide_eq_false h3
  have h4 : 1000 < n := by omega
  have d4 : decide (1000 < n) = true := decide_eq_true h4
  clear h
  go_enter Try.func7, Try.ntmps7
  go_wp2_with (first
    | (go_at_call 35; (with_reducible refine (hr.out _).mono ?_); rintro e w1 ⟨rfl, hb⟩; have hb1 := Lib.hid hb; clear hb)
    | (go_at_call 23; (with_reducible refine (lives_any _).mono ?_); rintro e w2 ⟨rfl, hb⟩; have hb2 := Lib.hid hb; clear hb))
  go_ret
  exact ⟨rfl, bseqT hb1.out hb2.out⟩
end
theorem beatsLaw_sq (d n : Nat) (w : World) (h2 : 2 ≤ d) (h3 : d ≤ 1000) (hn : n ≤ 1000) (h : sqB d = true) : Calls Try.prog 7 #[.int .i64 (d : Nat), .int .i64 (n : Nat)] w (RetB w true) := by
  have hr := Lib.hid (fun W => beatsP_sq d n W h2 h3 hn h)
  have hs := Lib.hid (fun W => square_any d true W (by omega) h)
  have d1 : decide ((d : Int) < 2) = false := decide_eq_false (by omega)
  have d2 : decide ((1000 : Int) < (d : Int)) = false := decide_eq_false (by omega)
  have d3 : decide (d < 2) = false := decide_eq_false (by omega)
  have d4 : decide (1000 < d) = false := decide_eq_false (by omega)
  have d5 : decide ((n : Int) < 0) = false := decide_eq_false (by omega)
  have d6 : decide ((1000 : Int) < (n : Int)) = false := decide_eq_false (by omega)
  have d8 : decide (1000 < n) = false := decide_eq_false (by omega)
  clear h
  go_enter Try.func7, Try.ntmps7
  go_wp2_with (first
    | (go_at_call 35; (with_reducible refine (hr.out _).mono ?_); rintro e w1 ⟨rfl, hb⟩; have hb1 := Lib.hid hb; clear hb)
    | (go_at_call 29; (with_reducible refine (hs.out _).mono ?_); rintro e w3 ⟨rfl, hb⟩; have hb3 := Lib.hid hb; clear hb)
    | (go_at_call 23; (with_reducible refine (lives_any _).mono ?_); rintro e w2 ⟨rfl, hb⟩; have hb2 := Lib.hid hb; clear hb))
  go_ret
  have := hb3.out
  subst this
  exact ⟨rfl, bseqT hb1.out hb2.out⟩
theorem beatsLaw_good (d n : Nat) (w : World) (h2 : 2 ≤ d) (h3 : d ≤ 1000) (hn : n ≤ 1000) (h : sqB d = false) : Calls Try.prog 7 #[.int .i64 (d : Nat), .int .i64 (n : Nat)] w (RetB w true) := by
  have hr := Lib.hid (fun W => beatsP_good d n W h2 h3 hn h)
  have hrr := Lib.hid (fun W => beatsR_good d n W h2 h3 hn h)
  have hs := Lib.hid (fun W => square_any d false W (by omega) h)
  obtain ⟨S, hS⟩ : ∃ S, btS d n = S := ⟨_, rfl⟩
  rw [hS] at hr hrr
  have d1 : decide ((d : Int) < 2) = false := decide_eq_false (by omega)
  have d2 : decide ((1000 : Int) < (d : Int)) = false := decide_eq_false (by omega)
  have d3 : decide (d < 2) = false := decide_eq_false (by omega)
  have d4 : decide (1000 < d) = false := decide_eq_false (by omega)
  have d5 : decide ((n : Int) < 0) = false := decide_eq_false (by omega)
  have d6 : decide ((1000 : Int) < (n : Int)) = false := decide_eq_false (by omega)
  have d8 : decide (1000 < n) = false := decide_eq_false (by omega)
  clear h hS
  go_enter Try.func7, Try.ntmps7
  go_wp2_with (first
    | (go_at_call 35; (with_reducible refine (hr.out _).mono ?_); rintro e w1 ⟨rfl, hb⟩; have hb1 := Lib.hid hb; clear hb)
    | (go_at_call 29; (with_reducible refine (hs.out _).mono ?_); rintro e w3 ⟨rfl, hb⟩; have hb3 := Lib.hid hb; clear hb)
    | (go_at_call 36; (with_reducible refine (hrr.out _).mono ?_); rintro e w4 ⟨rfl, hb⟩; have hb4 := Lib.hid hb; clear hb)
    | (go_at_call 23; (with_reducible refine (lives_any _).mono ?_); rintro e w2 ⟨rfl, hb⟩; have hb2 := Lib.hid hb; clear hb))
  go_ret
  have := hb3.out
  subst this
  exact ⟨rfl, bseqT hb1.out (bseqT hb4.out hb2.out)⟩
theorem beatsLaw_any (d n : Int) (w : World) : Calls Try.prog 7 #[.int .i64 d, .int .i64 n] w (RetB w true) := by
  by_cases h : d < 2 ∨ 1000 < d ∨ n < 0 ∨ 1000 < n
  · exact beatsLaw_bad d n w h
  · obtain ⟨a, rfl⟩ : ∃ a : Nat, d = (a : Int) := ⟨d.toNat, by omega⟩
    obtain ⟨b, rfl⟩ : ∃ b : Nat, n = (b : Int) := ⟨n.toNat, by omega⟩
    cases hs : sqB a with
    | true => exact beatsLaw_sq a b w (by omega) (by omega) (by omega) hs
    | false => exact beatsLaw_good a b w (by omega) (by omega) (by omega) hs
end Go.Proofs.Ytbehfhmdilifkaa
