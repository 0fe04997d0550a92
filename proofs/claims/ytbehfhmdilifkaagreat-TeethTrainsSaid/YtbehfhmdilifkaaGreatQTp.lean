/- Tp -/
import Derived.Test.YtbehfhmdilifkaaGreatQTn
set_option linter.unusedVariables false
/- Pell: its refusals, and what it returns. -/
namespace Go.Proofs.YtbehfhmdilifkaaGreat
open Go Go.RowKit Go.Proofs

def RetE2 (w : World) (er : Int) (e : Ending) (w' : World) : Prop := e = .returned (.tuple #[.string ⟨#[]⟩, .string ⟨#[]⟩, .int .i64 er]) ∧ Below w.heap.size w w'
theorem pellP_sign (d sg : Int) (w : World) (h1 : sg ≠ 1) (h2 : sg ≠ -1) : Calls Tryz.prog 8 #[.int .i64 d, .int .i64 sg] w (RetE2 w 1) := by
  have e1 : (sg == 1) = false := by simp; omega
  have e2 : (sg == -1) = false := by simp; omega
  have e3 : (sg != 1) = true := by simp; omega
  have e4 : (sg != -1) = true := by simp; omega
  go_enter Tryz.func8, Tryz.ntmps8
  go_wp2_with (fail)
  go_ret3
  exact ⟨rfl, Below.refl _ _⟩
theorem pellP_err (d sg er : Int) (w : World) (hs : sg = 1 ∨ sg = -1) (he : er ≠ 0)
    (hrt : ∀ W, Calls Tryz.prog 5 #[.int .i64 d] W (fun e w' => e = .returned (.tuple #[.int .i64 0, .slice none 0 0, .int .i64 er]) ∧ W = w')) :
    Calls Tryz.prog 8 #[.int .i64 d, .int .i64 sg] w (RetE2 w er) := by
  have hrtH := Lib.hid hrt
  have e1 : (er == 0) = false := by simp; omega
  clear hrt
  rcases hs with rfl | rfl
  · go_enter Tryz.func8, Tryz.ntmps8
    go_wp2_with (go_at_call 5; go_loud (with_reducible refine (hrtH.out _).mono ?_); rintro e w1 ⟨rfl, rfl⟩)
    go_ret3
    exact ⟨rfl, Below.refl _ _⟩
  · go_enter Tryz.func8, Tryz.ntmps8
    go_wp2_with (go_at_call 5; go_loud (with_reducible refine (hrtH.out _).mono ?_); rintro e w1 ⟨rfl, rfl⟩)
    go_ret3
    exact ⟨rfl, Below.refl _ _⟩
set_option maxRecDepth 100000 in
theorem pellP_none (d n L : Nat) (X : List Nat) (w : World) (hrt : ∀ W, Calls Tryz.prog 5 #[.int .i64 (d : Nat)] W (RootPost X n W)) (hL : X.length = L) (hr : L % 2 = 0) (hl : L ≤ 70) :
    Calls Tryz.prog 8 #[.int .i64 (d : Nat), .int .i64 (-1)] w (RetE2 w 5) := by
  have hrtH := Lib.hid hrt
  have hLH := Lib.hid hL
  have t1 : ((L : Int)).tmod 2 = 0 := by rw [show (0 : Int) = ((L % 2 : Nat) : Int) by rw [hr]; rfl]; exact (Int.ofNat_tmod L 2).symm
  have t2 : ((L : Int)) % 2 = 0 := by omega
  clear hrt hL hr
  go_enter Tryz.func8, Tryz.ntmps8
  go_wp2_with (go_at_call 5; go_loud (with_reducible refine (hrtH.out _).mono ?_); rintro e w1 ⟨g, cap, rfl, hcap, hI, hb1⟩; rw [hLH.out]; have hb1H := Lib.hid hb1; clear hI hb1 hcap)
  go_ret3
  exact ⟨rfl, hb1H.out⟩
def PellPost (d : Nat) (neg : Bool) (w : World) (e : Ending) (w' : World) : Prop := e = .returned (.tuple #[.string (nt ((((pellV d neg).1 : Nat) : Int) : Rat)), .string (nt ((((pellV d neg).2 : Nat) : Int) : Rat)), .int .i64 0]) ∧ Below w.heap.size w w'
theorem pellP_good (d : Nat) (neg : Bool) (w : World) (h2 : 2 ≤ d) (h3 : d ≤ 1000) (h : sqB d = false) (hi : pellIs d neg = true) :
    Calls Tryz.prog 8 #[.int .i64 (d : Nat), .int .i64 (sgP neg)] w (PellPost d neg w) := by
  have hne : ¬ fl d * fl d = d := of_decide_eq_false h
  have hP := perI h2 h3 hne
  have hok := pell_ok h2 h3 hne
  have hL1 : 1 ≤ (per d).length := List.length_pos_iff.2 hP.ne
  have hn := sq32_le d
  have hrt : ∀ W, Calls Tryz.prog 5 #[.int .i64 (d : Nat)] W (RootPost (per d) (sq32 d) W) := fun W => rootP_good d (sq32 d) W h2 h3 h (fl_small h2 h3)
  cases neg with
  | true =>
    have hodd : (per d).length % 2 = 1 := by unfold pellIs at hi; simpa using hi
    have h4 := (pell_is hok.2.1 hi).1
    have e1 : pellL d true = (per d).dropLast := by unfold pellL; simp
    rw [e1] at h4
    have := pellP_main d 1 (sq32 d) (per d).length 1 (-1) 1 1 (per d) (per d) _ _ w hrt rfl hL1 hP.len hn hodd rfl rfl (.inl ⟨rfl, rfl⟩) (.inr (.inr ⟨rfl, rfl, rfl⟩)) h4 rfl rfl
    unfold PellPost pellV
    rw [e1]
    exact this
  | false =>
    have h4 := (pell_is hok.1 hi).1
    by_cases hodd : (per d).length % 2 = 1
    · have e1 : pellL d false = (per d ++ per d).dropLast := by unfold pellL; simp [hodd]
      rw [e1] at h4
      have := pellP_main d 2 (sq32 d) (per d).length 1 1 1 2 (per d) (per d ++ per d) _ _ w hrt rfl hL1 hP.len hn hodd rfl rfl (.inr ⟨rfl, rfl⟩) (.inl ⟨rfl, rfl, rfl⟩) h4 rfl rfl
      unfold PellPost pellV
      rw [e1]
      exact this
    · have e1 : pellL d false = (per d).dropLast := by unfold pellL; simp [hodd]
      rw [e1] at h4
      have := pellP_main d 1 (sq32 d) (per d).length 0 1 0 1 (per d) (per d) _ _ w hrt rfl hL1 hP.len hn (by omega) rfl rfl (.inl ⟨rfl, rfl⟩) (.inr (.inl ⟨rfl, rfl, rfl⟩)) h4 rfl rfl
      unfold PellPost pellV
      rw [e1]
      exact this
end Go.Proofs.YtbehfhmdilifkaaGreat
