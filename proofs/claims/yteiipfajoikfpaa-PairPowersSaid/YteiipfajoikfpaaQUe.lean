/- Ue -/
import Derived.Test.YteiipfajoikfpaaQUc
import Derived.Test.YteiipfajoikfpaaQGr
set_option linter.unusedVariables false
/- Walk of PairLacks. -/
namespace Go.Proofs.Yteiipfajoikfpaa
open Go Go.RowKit Go.Proofs

theorem lackI_ex (A : Nat → Nat → Bool) (n : Nat) : ∀ u, ∃ best, LackI A n (u + 1) best := by
  intro u
  induction u with
  | zero => exact ⟨none, LackI.start A n⟩
  | succ u ih =>
    obtain ⟨best, h⟩ := ih
    rcases hb : lackB A n (bitsL (u + 1) n)
    · exact ⟨best, h.no hb⟩
    · cases best with
      | none => exact ⟨_, h.take hb (.inl rfl)⟩
      | some p =>
        by_cases hk : p.length < (bitsL (u + 1) n).length ∨ (p.length = (bitsL (u + 1) n).length ∧ p ≤ bitsL (u + 1) n)
        · exact ⟨some p, h.keep hk⟩
        · refine ⟨_, h.take hb (.inr ⟨p, rfl, ?_⟩)⟩
          rcases Nat.lt_trichotomy (bitsL (u + 1) n).length p.length with h1 | h1 | h1
          · exact .inl h1
          · refine .inr ⟨h1, ?_⟩
            have : ¬ p ≤ bitsL (u + 1) n := fun hle => hk (.inr ⟨h1.symm, hle⟩)
            exact List.not_le.1 this
          · exact absurd (.inl h1) hk
theorem least_or (A : Nat → Nat → Bool) (n : Nat) : (∀ q, Asc n 0 q → lackB A n q = false) ∨ ∃ p, LeastL A n p := by
  obtain ⟨best, h⟩ := lackI_ex A n (2 ^ n - 1)
  have hp := Nat.two_pow_pos n
  rw [show 2 ^ n - 1 + 1 = 2 ^ n by omega] at h
  cases best with
  | none => exact .inl h.none
  | some p => exact .inr ⟨p, h.done⟩
theorem Asc.short {n : Nat} {p : List Nat} (h : Asc n 0 p) : p.length ≤ n := by
  rcases h.len with h1 | h1
  · omega
  · subst h1; simp
theorem lacks_no (ao : Option Addr) (c n : Nat) (C : List (List Int)) (z : Int) (w : World) (h : IMx w ao C) (hg : goodC C) (hn : C.length = n) (hno : ∀ q, Asc n 0 q → lackB (upA C z) n q = false) :
    Calls Try.prog 24 #[.slice ao n c, .int .i64 z] w (fun e w' => e = .returned (.tuple #[.slice none 0 0, .int .i64 5]) ∧ Below w.heap.size w w') :=
  (lacks_good ao c n C z w h hg hn).mono fun e w' hp => by
    rcases hp with ⟨_, h2, h3⟩ | ⟨p, m, g, o, c, hl, _⟩
    · exact ⟨h2, h3⟩
    · have := hno p hl.asc
      rw [hl.lack] at this; cases this
theorem lacks_yes (ao : Option Addr) (c n : Nat) (C : List (List Int)) (z : Int) (w : World) (h : IMx w ao C) (hg : goodC C) (hn : C.length = n) {p : List Nat} {m : Nat} (hp : LeastL (upA C z) n p) (hm : p.length = m) :
    Calls Try.prog 24 #[.slice ao n c, .int .i64 z] w (fun e w' => ∃ g o c, e = .returned (.tuple #[.slice (some ⟨g, o, none⟩) m c, .int .i64 0]) ∧ m ≤ c ∧ IZ w' (some ⟨g, o, none⟩) (nz p) ∧ Below w.heap.size w w') :=
  (lacks_good ao c n C z w h hg hn).mono fun e w' hq => by
    rcases hq with ⟨h1, _⟩ | ⟨q, k, g, o, c, hl, hk, he, hc, hI, hb⟩
    · have := h1 p hp.asc
      rw [hp.lack] at this; cases this
    · have e1 := hl.unique hp
      subst e1
      have e2 := hk.symm.trans hm
      subst e2
      exact ⟨g, o, c, he, hc, hI, hb⟩
theorem rlacks_no (ao : Option Addr) (c n : Nat) (C : List (List Int)) (z : Int) (w : World) (h : IMx w ao C) (hg : goodC C) (hn : C.length = n) (hno : ∀ q, Asc n 0 q → lackB (upA C z) n q = false) :
    Calls Try.prog 25 #[.slice ao n c, .int .i64 z] w (fun e w' => e = .returned (.slice none 0 0) ∧ Below w.heap.size w w') :=
  (rlacks_any ao c n C z w h hg hn).mono fun e w' ⟨best, v, hI, he, hv, hb⟩ => by
    cases best with
    | none => exact ⟨by rw [he, show v = _ from hv], hb⟩
    | some p =>
      have := hno p hI.done.asc
      rw [hI.done.lack] at this; cases this
theorem rlacks_yes (ao : Option Addr) (c n : Nat) (C : List (List Int)) (z : Int) (w : World) (h : IMx w ao C) (hg : goodC C) (hn : C.length = n) {p : List Nat} {m : Nat} (hp : LeastL (upA C z) n p) (hm : p.length = m) :
    Calls Try.prog 25 #[.slice ao n c, .int .i64 z] w (fun e w' => ∃ g c, e = .returned (.slice (some ⟨g, 0, none⟩) m c) ∧ m ≤ c ∧ IZ w' (some ⟨g, 0, none⟩) (nz p) ∧ Below w.heap.size w w') :=
  (rlacks_any ao c n C z w h hg hn).mono fun e w' ⟨best, v, hI, he, hv, hb⟩ => by
    cases best with
    | none =>
      have := hI.none p hp.asc
      rw [hp.lack] at this; cases this
    | some q =>
      have e1 := hI.done.unique hp
      subst e1 hm
      obtain ⟨g, c, rfl, h1, h2⟩ := hv
      exact ⟨g, c, he, h2, h1, hb⟩
set_option maxRecDepth 100000 in
set_option maxHeartbeats 6400000 in
theorem lacksLaw_any (ao : Option Addr) (c n : Nat) (C : List (List Int)) (z : Int) (w : World) (h : IMx w ao C) (hn : C.length = n) (hm : n ≤ 9223372036854775807) (hr : ∀ r ∈ C, r.length ≤ 9223372036854775807) :
    Calls Try.prog 4 #[.slice ao n c, .int .i64 z] w (RetB w true) := by
  obtain ⟨D, hD⟩ : ∃ D, fewM C = D := ⟨_, rfl⟩
  obtain ⟨m, hmD⟩ : ∃ m, D.length = m := ⟨_, rfl⟩
  have hm9 : m ≤ 9 := by rw [← hmD, ← hD]; exact fewM_small C
  have hfew := Lib.hid (few_anyJ ao c n C w h hn hm hr)
  have hDH := Lib.hid hD
  have hmH := Lib.hid hmD
  have nl0 := eql_nil0
  have nl1 := eql_nil1
  clear h hn hm hr hD hmD
  rcases hb : costsB D
  · have hbH := Lib.hid hb
    clear hb
    go_enter Try.func4, Try.ntmps4
    go_wp2_with (first
      | (go_at_call 18; go_loud (with_reducible refine hfew.out.mono ?_); rintro e w1 hR; rw [hDH.out] at hR; obtain ⟨a1, d1, rfl, hM, hd1, hb1⟩ := hR.out hmH.out; have hMH := Lib.hid hM; have hb1H := Lib.hid hb1; clear hR hM hb1)
      | (go_at_call 24; go_loud (with_reducible refine (lacks_bad a1 d1 m D z _ hMH.out hmH.out (by omega) hbH.out).mono ?_); rintro e w2 ⟨rfl, hb2⟩; have hM2 := Lib.hid (hMH.out.below hb2); have hb2H := Lib.hid hb2; clear hb2)
      | (go_at_call 20; go_loud (with_reducible refine (costs_any a1 d1 m D false _ hM2.out hmH.out (by omega) hbH.out).mono ?_); rintro e w3 ⟨rfl, rfl⟩)
      | (go_at_call 21; go_loud (with_reducible refine (lives_any _).mono ?_); rintro e w4 ⟨rfl, hb4⟩; have hb4H := Lib.hid hb4; clear hb4))
    go_ret
    exact ⟨rfl, bseqJ hb1H.out (bseqJ hb2H.out hb4H.out)⟩
  · have hbH := Lib.hid hb
    have hgH := Lib.hid (goodC_of hb)
    clear hb
    rcases least_or (upA D z) m with hno | ⟨p, hp⟩
    · have hnoH := Lib.hid hno
      clear hno
      go_enter Try.func4, Try.ntmps4
      go_wp2_with (first
        | (go_at_call 18; go_loud (with_reducible refine hfew.out.mono ?_); rintro e w1 hR; rw [hDH.out] at hR; obtain ⟨a1, d1, rfl, hM, hd1, hb1⟩ := hR.out hmH.out; have hMH := Lib.hid hM; have hb1H := Lib.hid hb1; clear hR hM hb1)
        | (go_at_call 24; go_loud (with_reducible refine (lacks_no a1 d1 m D z _ hMH.out hgH.out hmH.out hnoH.out).mono ?_); rintro e w2 ⟨rfl, hb2⟩; have hM2 := Lib.hid (hMH.out.below hb2); have hb2H := Lib.hid hb2; clear hb2)
        | (go_at_call 20; go_loud (with_reducible refine (costs_any a1 d1 m D true _ hM2.out hmH.out (by omega) hbH.out).mono ?_); rintro e w3 ⟨rfl, rfl⟩)
        | (go_at_call 25; go_loud (with_reducible refine (rlacks_no a1 d1 m D z _ hM2.out hgH.out hmH.out hnoH.out).mono ?_); rintro e w4 ⟨rfl, hb4⟩; have hb4H := Lib.hid hb4; clear hb4)
        | (go_at_call 21; go_loud (with_reducible refine (lives_any _).mono ?_); rintro e w6 ⟨rfl, hb6⟩; have hb6H := Lib.hid hb6; clear hb6))
      go_ret
      exact ⟨rfl, bseqJ hb1H.out (bseqJ hb2H.out (bseqJ hb4H.out hb6H.out))⟩
    · obtain ⟨k, hk⟩ : ∃ k, p.length = k := ⟨_, rfl⟩
      have hk9 : k ≤ 9 := by rw [← hk]; exact Nat.le_trans hp.asc.short hm9
      have hpH := Lib.hid hp
      have hkH := Lib.hid hk
      clear hp hk
      go_enter Try.func4, Try.ntmps4
      go_wp2_with (first
        | (go_at_call 18; go_loud (with_reducible refine hfew.out.mono ?_); rintro e w1 hR; rw [hDH.out] at hR; obtain ⟨a1, d1, rfl, hM, hd1, hb1⟩ := hR.out hmH.out; have hMH := Lib.hid hM; have hb1H := Lib.hid hb1; clear hR hM hb1)
        | (go_at_call 24; go_loud (with_reducible refine (lacks_yes a1 d1 m D z _ hMH.out hgH.out hmH.out hpH.out hkH.out).mono ?_); rintro e w2 ⟨g2, o2, c2, rfl, hc2, hI, hb2⟩; have hM2 := Lib.hid (hMH.out.below hb2); have hb2H := Lib.hid hb2; have hIH := Lib.hid hI; clear hb2 hI)
        | (go_at_call 20; go_loud (with_reducible refine (costs_any a1 d1 m D true _ hM2.out hmH.out (by omega) hbH.out).mono ?_); rintro e w3 ⟨rfl, rfl⟩)
        | (go_at_call 25; go_loud (with_reducible refine (rlacks_yes a1 d1 m D z _ hM2.out hgH.out hmH.out hpH.out hkH.out).mono ?_); rintro e w4 ⟨g4, c4, rfl, hc4, hI4, hb4⟩; have hI4H := Lib.hid hI4; have hb4H := Lib.hid hb4; clear hI4 hb4)
        | (go_at_call 23; go_loud (with_reducible refine (same_nz _ _ c2 c4 k p _ (hIH.out.below hb4H.out) hI4H.out hkH.out (by omega)).mono ?_); rintro e w5 ⟨rfl, hb5⟩; have hb5H := Lib.hid hb5; clear hb5)
        | (go_at_call 21; go_loud (with_reducible refine (lives_any _).mono ?_); rintro e w6 ⟨rfl, hb6⟩; have hb6H := Lib.hid hb6; clear hb6))
      go_ret
      exact ⟨rfl, bseqJ hb1H.out (bseqJ hb2H.out (bseqJ hb4H.out (bseqJ hb5H.out hb6H.out)))⟩
end Go.Proofs.Yteiipfajoikfpaa
