/- Hh -/
import Derived.Test.YtbehfhmdilifkaaQHf
set_option linter.unusedVariables false
/- Walks of the laws TeethTerms and TeethNears. -/
namespace Go.Proofs.Ytbehfhmdilifkaa
open Go Go.RowKit Go.Proofs

theorem frB_iff {o u : Int} : frB o u = true ↔ (1 ≤ o ∧ o ≤ 1000000) ∧ (1 ≤ u ∧ u ≤ 1000000) := by
  unfold frB inB
  simp
theorem frB_in {o u : Int} {b : Bool} (h : frB o u = b) : inL 1000000 [o, u] = b := by
  cases b with
  | true => exact inL_iff.2 (fun x hx => by have := frB_iff.1 h; simp at hx; rcases hx with rfl | rfl <;> omega)
  | false =>
    cases hh : inL 1000000 [o, u] with
    | false => rfl
    | true =>
      have h1 := inL_iff.1 hh o (by simp)
      have h2 := inL_iff.1 hh u (by simp)
      rw [frB_iff.2 ⟨h1, h2⟩] at h; cases h
theorem termsLaw_bad (o u : Int) (w : World) (h : frB o u = false) : Calls Try.prog 3 #[.int .i64 o, .int .i64 u] w (RetB w true) := by
  have hr := Lib.hid (fun W => termsP_bad o u W (frB_in h))
  have hf := Lib.hid (fun W => fraction_any o u false W h)
  clear h
  go_enter Try.func3, Try.ntmps3
  go_wp2_with (first
    | (go_at_call 21; (with_reducible refine (hr.out _).mono ?_); rintro e w1 ⟨rfl, hb⟩; have hb1 := Lib.hid hb; clear hb)
    | (go_at_call 22; (with_reducible refine (hf.out _).mono ?_); rintro e w3 ⟨rfl, hb⟩; have hb3 := Lib.hid hb; clear hb)
    | (go_at_call 23; (with_reducible refine (lives_any _).mono ?_); rintro e w2 ⟨rfl, hb⟩; have hb2 := Lib.hid hb; clear hb))
  go_ret
  have := hb3.out
  subst this
  exact ⟨rfl, bseqT hb1.out hb2.out⟩
set_option maxHeartbeats 1600000 in
theorem termsLaw_good (o u : Nat) (w : World) (ho : 1 ≤ o) (ho2 : o ≤ 1000000) (hu : 1 ≤ u) (hu2 : u ≤ 1000000) : Calls Try.prog 3 #[.int .i64 (o : Nat), .int .i64 (u : Nat)] w (RetB w true) := by
  have hf := Lib.hid (fun W => fraction_any o u true W (frB_iff.2 (by omega)))
  obtain ⟨T, hT⟩ : ∃ T, trm o u = T := ⟨_, rfl⟩
  obtain ⟨L, hL⟩ : ∃ L, T.length = L := ⟨_, rfl⟩
  have hLl : L ≤ 1000000 := by rw [← hL, ← hT]; exact Nat.le_trans (trm_length o u) hu2
  have hr := Lib.hid (fun W => termsP_good o u W ho ho2 hu hu2)
  have hrr := Lib.hid (fun W => termsR_any o u L W ho2 hu hu2 (by rw [hT, hL]))
  unfold TermsP at hr
  unfold TermsR at hrr
  rw [hT] at hr hrr
  rw [hL] at hr
  have hsm : Hid (∀ (g c g2 c2 : Nat) (W : World), IZ W (some ⟨g, 0, none⟩) (nzT T) → IZ W (some ⟨g2, 0, none⟩) (nzT T) → Calls Try.prog 24 #[.slice (some ⟨g, 0, none⟩) L c, .slice (some ⟨g2, 0, none⟩) L c2] W (RetB W true)) := fun g c g2 c2 W h1 h2 =>
    same_any _ _ c c2 L L _ _ true W h1 h2 (by rw [nzT_length, hL]) (by rw [nzT_length, hL]) (by omega) (by omega) (by unfold sameB; simp)
  clear hT hL
  go_enter Try.func3, Try.ntmps3
  go_wp2_with (first
    | (go_at_call 21; (with_reducible refine (hr.out _).mono ?_); rintro e w1 ⟨g1, c1, rfl, hc1, hI, hb⟩; have hI1 := Lib.hid hI; have hb1 := Lib.hid hb; clear hI hb hc1)
    | (go_at_call 22; (with_reducible refine (hf.out _).mono ?_); rintro e w3 ⟨rfl, hb⟩; have hb3 := Lib.hid hb; clear hb)
    | (go_at_call 25; (with_reducible refine (hrr.out _).mono ?_); rintro e w4 ⟨g4, c4, rfl, hc4, hI, hb⟩; have hI4 := Lib.hid hI; have hb4 := Lib.hid hb; clear hI hb hc4)
    | (go_at_call 24; (refine (hsm.out _ _ _ _ _ (hI1.out.below (by rw [hb3.out]; exact hb4.out)) hI4.out).mono ?_); rintro e w5 ⟨rfl, hb⟩; have hb5 := Lib.hid hb; clear hb)
    | (go_at_call 23; (with_reducible refine (lives_any _).mono ?_); rintro e w2 ⟨rfl, hb⟩; have hb2 := Lib.hid hb; clear hb))
  go_ret
  have := hb3.out
  subst this
  exact ⟨rfl, bseqT hb1.out (bseqT hb4.out (bseqT hb5.out hb2.out))⟩
theorem termsLaw_any (o u : Int) (w : World) : Calls Try.prog 3 #[.int .i64 o, .int .i64 u] w (RetB w true) := by
  cases h : frB o u with
  | false => exact termsLaw_bad o u w h
  | true =>
    have h1 := frB_iff.1 h
    obtain ⟨a, rfl⟩ : ∃ a : Nat, o = (a : Int) := ⟨o.toNat, by omega⟩
    obtain ⟨b, rfl⟩ : ∃ b : Nat, u = (b : Int) := ⟨u.toNat, by omega⟩
    exact termsLaw_good a b w (by omega) (by omega) (by omega) (by omega)
/-- The nearest fraction there is. -/
theorem nearI_ex {o u m : Nat} (hm : 1 ≤ m) : ∃ a b, NearI o u m a b := by
  have h : ∀ Q, 1 ≤ Q → ∃ a b, NB o u Q 2 a b := by
    have st : ∀ Q a b, 1 ≤ Q → NB o u Q 0 a b → ∃ a b, NB o u Q 2 a b := fun Q a b hQ hB => by
      have st1 : ∀ k a b, NB o u Q k a b → ∃ a b, NB o u Q (k + 1) a b := fun k a b hB => by
        by_cases hlt : offN o u (o * Q / u + k) Q * b < offN o u a b * Q
        · exact ⟨_, _, hB.take hQ hlt⟩
        · exact ⟨_, _, hB.keep (by omega)⟩
      obtain ⟨a1, b1, h1⟩ := st1 0 a b hB
      exact st1 1 a1 b1 h1
    intro Q hQ
    induction Q with
    | zero => omega
    | succ Q ih =>
      by_cases hQ0 : Q = 0
      · subst hQ0
        have h1 : NB o u 1 1 (o * 1 / u) 1 := NB.first
        by_cases hlt : offN o u (o * 1 / u + 1) 1 * 1 < offN o u (o * 1 / u) 1 * 1
        · exact ⟨_, _, h1.take (Nat.le_refl _) hlt⟩
        · exact ⟨_, _, h1.keep (by omega)⟩
      · obtain ⟨a, b, hB⟩ := ih (by omega)
        exact st (Q + 1) a b (by omega) (hB.next (by omega))
  exact h m hm
section
attribute [local go_sem] undef
set_option maxHeartbeats 1600000 in
/-- .. behind the bound on the denominators: m stays, as it is no more than 20000 or more than a million. -/
theorem nearsLaw_bad (o u m : Int) (w : World) (hm : m ≤ 20000 ∨ 1000000 < m) (h : inL 1000000 [o, u, m] = false) : Calls Try.prog 4 #[.int .i64 o, .int .i64 u, .int .i64 m] w (RetB w true) := by
  have hr := Lib.hid (fun W => nearP_bad o u m W h)
  obtain ⟨b, hb⟩ : ∃ b, frB o u = b := ⟨_, rfl⟩
  have hf := Lib.hid (fun W => fraction_any o u b W hb)
  have hbm : b = true → m < 1 ∨ 1000000 < m := fun hb1 => by
    by_cases h2 : m < 1 ∨ 1000000 < m
    · exact h2
    · exfalso
      rw [hb1] at hb
      have h1 := frB_iff.1 hb
      have : inL 1000000 [o, u, m] = true := inL_iff.2 (fun x hx => by simp at hx; rcases hx with rfl | rfl | rfl <;> omega)
      rw [this] at h; cases h
  clear h hb
  by_cases h2 : 20000 < m
  · have h3 : 1000000 < m := by omega
    have d1 : decide (20000 < m) = true := decide_eq_true h2
    have d2 : decide (m ≤ 1000000) = false := decide_eq_false (by omega)
    have d3 : decide (m < 1) = false := decide_eq_false (by omega)
    have d4 : decide (1000000 < m) = true := decide_eq_true h3
    clear hbm hm
    cases b with
    | true =>
      go_enter Try.func4, Try.ntmps4
      go_wp2_with (first
        | (go_at_call 26; (with_reducible refine (hr.out _).mono ?_); rintro e w1 ⟨rfl, hb⟩; have hb1 := Lib.hid hb; clear hb)
        | (go_at_call 22; (with_reducible refine (hf.out _).mono ?_); rintro e w3 ⟨rfl, hb⟩; have hb3 := Lib.hid hb; clear hb)
        | (go_at_call 23; (with_reducible refine (lives_any _).mono ?_); rintro e w2 ⟨rfl, hb⟩; have hb2 := Lib.hid hb; clear hb))
      go_ret
      have := hb3.out
      subst this
      exact ⟨rfl, bseqT hb1.out hb2.out⟩
    | false =>
      go_enter Try.func4, Try.ntmps4
      go_wp2_with (first
        | (go_at_call 26; (with_reducible refine (hr.out _).mono ?_); rintro e w1 ⟨rfl, hb⟩; have hb1 := Lib.hid hb; clear hb)
        | (go_at_call 22; (with_reducible refine (hf.out _).mono ?_); rintro e w3 ⟨rfl, hb⟩; have hb3 := Lib.hid hb; clear hb)
        | (go_at_call 23; (with_reducible refine (lives_any _).mono ?_); rintro e w2 ⟨rfl, hb⟩; have hb2 := Lib.hid hb; clear hb))
      go_ret
      have := hb3.out
      subst this
      exact ⟨rfl, bseqT hb1.out hb2.out⟩
  · have d1 : decide (20000 < m) = false := decide_eq_false h2
    cases b with
    | true =>
      have h3 : m < 1 := by have := hbm rfl; omega
      have d3 : decide (m < 1) = true := decide_eq_true h3
      clear hbm hm
      go_enter Try.func4, Try.ntmps4
      go_wp2_with (first
        | (go_at_call 26; (with_reducible refine (hr.out _).mono ?_); rintro e w1 ⟨rfl, hb⟩; have hb1 := Lib.hid hb; clear hb)
        | (go_at_call 22; (with_reducible refine (hf.out _).mono ?_); rintro e w3 ⟨rfl, hb⟩; have hb3 := Lib.hid hb; clear hb)
        | (go_at_call 23; (with_reducible refine (lives_any _).mono ?_); rintro e w2 ⟨rfl, hb⟩; have hb2 := Lib.hid hb; clear hb))
      go_ret
      have := hb3.out
      subst this
      exact ⟨rfl, bseqT hb1.out hb2.out⟩
    | false =>
      clear hbm hm
      go_enter Try.func4, Try.ntmps4
      go_wp2_with (first
        | (go_at_call 26; (with_reducible refine (hr.out _).mono ?_); rintro e w1 ⟨rfl, hb⟩; have hb1 := Lib.hid hb; clear hb)
        | (go_at_call 22; (with_reducible refine (hf.out _).mono ?_); rintro e w3 ⟨rfl, hb⟩; have hb3 := Lib.hid hb; clear hb)
        | (go_at_call 23; (with_reducible refine (lives_any _).mono ?_); rintro e w2 ⟨rfl, hb⟩; have hb2 := Lib.hid hb; clear hb))
      go_ret
      have := hb3.out
      subst this
      exact ⟨rfl, bseqT hb1.out hb2.out⟩
set_option maxHeartbeats 1600000 in
theorem nearsLaw_clip (o u m : Int) (w : World) (hm : 20000 < m) (hm2 : m ≤ 1000000) (h : frB o u = false) : Calls Try.prog 4 #[.int .i64 o, .int .i64 u, .int .i64 m] w (RetB w true) := by
  have hr := Lib.hid (fun W => nearP_bad o u 20000 W (by
    cases hh : inL 1000000 [o, u, 20000] with
    | false => rfl
    | true =>
      have h1 := inL_iff.1 hh o (by simp)
      have h2 := inL_iff.1 hh u (by simp)
      rw [frB_iff.2 ⟨h1, h2⟩] at h; cases h))
  have hf := Lib.hid (fun W => fraction_any o u false W h)
  have d1 : decide (20000 < m) = true := decide_eq_true hm
  have d2 : decide (m ≤ 1000000) = true := decide_eq_true hm2
  clear h
  go_enter Try.func4, Try.ntmps4
  go_wp2_with (first
    | (go_at_call 26; (with_reducible refine (hr.out _).mono ?_); rintro e w1 ⟨rfl, hb⟩; have hb1 := Lib.hid hb; clear hb)
    | (go_at_call 22; (with_reducible refine (hf.out _).mono ?_); rintro e w3 ⟨rfl, hb⟩; have hb3 := Lib.hid hb; clear hb)
    | (go_at_call 23; (with_reducible refine (lives_any _).mono ?_); rintro e w2 ⟨rfl, hb⟩; have hb2 := Lib.hid hb; clear hb))
  go_ret
  have := hb3.out
  subst this
  exact ⟨rfl, bseqT hb1.out hb2.out⟩
set_option maxHeartbeats 1600000 in
theorem nearsLaw_good (o u : Nat) (m : Int) (M : Nat) (w : World) (ho : 1 ≤ o) (ho2 : o ≤ 1000000) (hu : 1 ≤ u) (hu2 : u ≤ 1000000) (hM : 1 ≤ M) (hM2 : M ≤ 20000) (hm : (m = (M : Int)) ∨ (20000 < m ∧ m ≤ 1000000 ∧ M = 20000)) : Calls Try.prog 4 #[.int .i64 (o : Nat), .int .i64 (u : Nat), .int .i64 m] w (RetB w true) := by
  obtain ⟨a, b, hN⟩ := nearI_ex (o := o) (u := u) hM
  have hf := Lib.hid (fun W => fraction_any o u true W (frB_iff.2 (by omega)))
  have hr := Lib.hid (fun W => nearP_good o u M a b W ho ho2 hu hu2 hM (by omega) hN)
  have hrr := Lib.hid (fun W => nearR_good o u M a b W ho ho2 hu hu2 hM hM2 hN)
  have d5 : ((a : Int) == (a : Int)) = true := by simp
  have d6 : ((b : Int) == (b : Int)) = true := by simp
  clear hN
  rcases hm with rfl | ⟨h1, h2, rfl⟩
  · have d1 : decide ((20000 : Int) < (M : Int)) = false := decide_eq_false (by omega)
    have d3 : decide ((M : Int) < 1) = false := decide_eq_false (by omega)
    have d4 : decide ((1000000 : Int) < (M : Int)) = false := decide_eq_false (by omega)
    have e1 : decide (20000 < M) = false := decide_eq_false (by omega)
    have e3 : decide (M < 1) = false := decide_eq_false (by omega)
    have e4 : decide (1000000 < M) = false := decide_eq_false (by omega)
    go_enter Try.func4, Try.ntmps4
    go_wp2_with (first
      | (go_at_call 26; (with_reducible refine (hr.out _).mono ?_); rintro e w1 ⟨rfl, hb⟩; have hb1 := Lib.hid hb; clear hb)
      | (go_at_call 22; (with_reducible refine (hf.out _).mono ?_); rintro e w3 ⟨rfl, hb⟩; have hb3 := Lib.hid hb; clear hb)
      | (go_at_call 27; (with_reducible refine (hrr.out _).mono ?_); rintro e w4 ⟨rfl, hb⟩; have hb4 := Lib.hid hb; clear hb)
      | (go_at_call 23; (with_reducible refine (lives_any _).mono ?_); rintro e w2 ⟨rfl, hb⟩; have hb2 := Lib.hid hb; clear hb))
    go_ret
    have := hb3.out
    subst this
    exact ⟨rfl, bseqT hb1.out (bseqT hb4.out hb2.out)⟩
  · have d1 : decide (20000 < m) = true := decide_eq_true h1
    have d2 : decide (m ≤ 1000000) = true := decide_eq_true h2
    change Hid (∀ W, Calls Try.prog 26 #[.int .i64 (o : Nat), .int .i64 (u : Nat), .int .i64 20000] W _) at hr
    change Hid (∀ W, Calls Try.prog 27 #[.int .i64 (o : Nat), .int .i64 (u : Nat), .int .i64 20000] W _) at hrr
    go_enter Try.func4, Try.ntmps4
    go_wp2_with (first
      | (go_at_call 26; (with_reducible refine (hr.out _).mono ?_); rintro e w1 ⟨rfl, hb⟩; have hb1 := Lib.hid hb; clear hb)
      | (go_at_call 22; (with_reducible refine (hf.out _).mono ?_); rintro e w3 ⟨rfl, hb⟩; have hb3 := Lib.hid hb; clear hb)
      | (go_at_call 27; (with_reducible refine (hrr.out _).mono ?_); rintro e w4 ⟨rfl, hb⟩; have hb4 := Lib.hid hb; clear hb)
      | (go_at_call 23; (with_reducible refine (lives_any _).mono ?_); rintro e w2 ⟨rfl, hb⟩; have hb2 := Lib.hid hb; clear hb))
    go_ret
    have := hb3.out
    subst this
    exact ⟨rfl, bseqT hb1.out (bseqT hb4.out hb2.out)⟩
end
theorem nearsLaw_any (o u m : Int) (w : World) : Calls Try.prog 4 #[.int .i64 o, .int .i64 u, .int .i64 m] w (RetB w true) := by
  by_cases hc : 20000 < m ∧ m ≤ 1000000
  · cases h : frB o u with
    | false => exact nearsLaw_clip o u m w hc.1 hc.2 h
    | true =>
      have h1 := frB_iff.1 h
      obtain ⟨a, rfl⟩ : ∃ a : Nat, o = (a : Int) := ⟨o.toNat, by omega⟩
      obtain ⟨b, rfl⟩ : ∃ b : Nat, u = (b : Int) := ⟨u.toNat, by omega⟩
      exact nearsLaw_good a b m 20000 w (by omega) (by omega) (by omega) (by omega) (by omega) (by omega) (.inr ⟨hc.1, hc.2, rfl⟩)
  · cases h : inL 1000000 [o, u, m] with
    | false => exact nearsLaw_bad o u m w (by omega) h
    | true =>
      have h1 := inL_iff.1 h o (by simp)
      have h2 := inL_iff.1 h u (by simp)
      have h3 := inL_iff.1 h m (by simp)
      obtain ⟨a, rfl⟩ : ∃ a : Nat, o = (a : Int) := ⟨o.toNat, by omega⟩
      obtain ⟨b, rfl⟩ : ∃ b : Nat, u = (b : Int) := ⟨u.toNat, by omega⟩
      obtain ⟨c, rfl⟩ : ∃ c : Nat, m = (c : Int) := ⟨m.toNat, by omega⟩
      exact nearsLaw_good a b c c w (by omega) (by omega) (by omega) (by omega) (by omega) (by omega) (.inl rfl)
end Go.Proofs.Ytbehfhmdilifkaa
