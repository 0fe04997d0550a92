/- Hv -/
import Derived.Test.YtbehfhmdilifkaaQHu
set_option linter.unusedVariables false
/- Walk of the law TeethDigits. -/
namespace Go.Proofs.Ytbehfhmdilifkaa
open Go Go.RowKit Go.Proofs

theorem DenPost.no {D : Option (List Nat)} {w w' : World} {e : Ending} (h : DenPost D w e w') (hD : D = none) : e = .returned (.tuple #[.slice none 0 0, .bool false]) ∧ Below w.heap.size w w' := by
  rcases h with ⟨_, h1, h2⟩ | ⟨Q, _, _, _, h1, _⟩
  · exact ⟨h1, h2⟩
  · rw [hD] at h1; cases h1
theorem DenPost.yes {D : Option (List Nat)} {Q : List Nat} {n : Nat} {w w' : World} {e : Ending} (h : DenPost D w e w') (hD : D = some Q) (hn : Q.length = n) : ∃ g c, e = .returned (.tuple #[.slice (some ⟨g, 0, none⟩) n c, .bool true]) ∧ IZ w' (some ⟨g, 0, none⟩) (nzT Q) ∧ Below w.heap.size w w' := by
  rcases h with ⟨h1, _⟩ | ⟨Q', m, g, c', h1, h2, h3, h4, h5, h6⟩
  · rw [hD] at h1; cases h1
  · rw [hD] at h1; injection h1 with h1; subst h1
    rw [← h2, hn] at h3
    exact ⟨g, c', h3, h5, h6⟩
theorem DigP.no {D : Option (List Nat)} {v : Int} {w w' : World} {e : Ending} (h : DigP D v w e w') (hD : D = none) : e = .returned (.tuple #[.slice none 0 0, .int .i64 1]) ∧ Below w.heap.size w w' := by
  rcases h with ⟨_, h1, h2⟩ | ⟨Q, h1, _⟩ | ⟨Q, _, _, h1, _⟩
  · exact ⟨h1, h2⟩
  · rw [hD] at h1; cases h1
  · rw [hD] at h1; cases h1
theorem DigP.out {D : Option (List Nat)} {Q : List Nat} {v : Int} {w w' : World} {e : Ending} (h : DigP D v w e w') (hD : D = some Q) (hv : v < 0 ∨ (topQ Q : Int) ≤ v) : e = .returned (.tuple #[.slice none 0 0, .int .i64 5]) ∧ Below w.heap.size w w' := by
  rcases h with ⟨h1, _⟩ | ⟨Q', h1, h2, h3, h4⟩ | ⟨Q', _, _, h1, _, h2, h3, _⟩
  · rw [hD] at h1; cases h1
  · exact ⟨h3, h4⟩
  · rw [hD] at h1; injection h1 with h1; subst h1; omega
theorem DigP.in {D : Option (List Nat)} {Q : List Nat} {K v : Nat} {w w' : World} {e : Ending} (h : DigP D (v : Nat) w e w') (hD : D = some Q) (hK : Q.length = K + 1) (hv : v < topQ Q) : ∃ g, e = .returned (.tuple #[.slice (some ⟨g, 0, none⟩) K K, .int .i64 0]) ∧ IZ w' (some ⟨g, 0, none⟩) (nzT (dgF Q v)) ∧ Below w.heap.size w w' := by
  rcases h with ⟨h1, _⟩ | ⟨Q', h1, h2, _⟩ | ⟨Q', K', g, h1, h2, h3, h4, h5, h6, h7⟩
  · rw [hD] at h1; cases h1
  · rw [hD] at h1; injection h1 with h1; subst h1; omega
  · rw [hD] at h1; injection h1 with h1; subst h1
    have : K' = K := by omega
    subst this
    rw [Int.toNat_natCast] at h6
    exact ⟨g, h5, h6, h7⟩
section
attribute [local go_sem] undef
set_option maxRecDepth 100000 in
set_option maxHeartbeats 3200000 in
theorem digLaw_any (ao : Option Addr) (len cap : Nat) (xs : List Int) (v : Int) (w : World) (hI : IZ w ao xs) (hl : xs.length = len) (hlc : len ≤ cap) (hm : len ≤ 9223372036854775807) :
    Calls Try.prog 18 #[.slice ao len cap, .int .i64 v] w (RetB w true) := by
  obtain ⟨X, hX⟩ : ∃ X, xs.take 22 = X := ⟨_, rfl⟩
  obtain ⟨N, hN⟩ : ∃ N, X.length = N := ⟨_, rfl⟩
  have hNl : N ≤ 22 := by rw [← hN, ← hX, List.length_take]; omega
  have hcut0 := cut_any ao cap len 22 xs w hI hl hlc hm (by omega)
  rw [hX] at hcut0
  have hcut : Hid (Calls Try.prog 45 #[.slice ao len cap, .int .i64 22] w (fun e w' => ∃ a c, e = .returned (.slice a N c) ∧ IZ w' a X ∧ N ≤ c ∧ Below w.heap.size w w')) := by
    refine hcut0.mono ?_
    rintro e w' ⟨a, c, h1, h2, h3, h4⟩
    rw [hN] at h1 h3
    exact ⟨a, c, h1, h2, h3, h4⟩
  have hdig0 := fun a c W (hI : IZ W a X) (hc : N ≤ c) => digsP_any a N c X v W hI hN hc
  have hnum0 := fun a c W (hI : IZ W a X) (hc : N ≤ c) => numR_any a N c X W hI hN hc
  clear hcut0 hI hl hX
  cases hD : den X with
  | none =>
    have hdig := Lib.hid (fun a c W hI hc => (hdig0 a c W hI hc).mono fun e w' h => h.no hD)
    have hnum := Lib.hid (fun a c W hI hc => (hnum0 a c W hI hc).mono fun e w' h => h.no hD)
    clear hdig0 hnum0 hD hN
    go_enter Try.func18, Try.ntmps18
    go_wp2_with (first
      | (go_at_call 45; (with_reducible refine hcut.out.mono ?_); rintro e w1 ⟨a1, c1, rfl, hI, hc1, hb⟩; have hI1 := Lib.hid hI; have hb1 := Lib.hid hb; clear hI hb)
      | (go_at_call 46; (with_reducible refine (hdig.out _ _ _ hI1.out hc1).mono ?_); rintro e w2 ⟨rfl, hb⟩; have hb2 := Lib.hid hb; clear hb)
      | (go_at_call 47; (with_reducible refine (hnum.out _ _ _ (hI1.out.below hb2.out) hc1).mono ?_); rintro e w3 ⟨rfl, hb⟩; have hb3 := Lib.hid hb; clear hb)
      | (go_at_call 23; (with_reducible refine (lives_any _).mono ?_); rintro e w5 ⟨rfl, hb⟩; have hb5 := Lib.hid hb; clear hb))
    go_ret
    exact ⟨rfl, bseqT hb1.out (bseqT hb2.out (bseqT hb3.out hb5.out))⟩
  | some Q =>
    obtain ⟨T, hT, hC, hn2, hn20, hQl⟩ := den_some hD
    rw [hN] at hn2 hn20 hQl
    have hall := den_all hD
    obtain ⟨K, hK⟩ : ∃ K, N - 1 = K := ⟨_, rfl⟩
    have hKI : (N : Int) - 1 = (K : Int) := by omega
    obtain ⟨t, ht⟩ : ∃ t, topQ Q = t := ⟨_, rfl⟩
    have htK : Hid (Q.getD K 0 = t) := by show _ = _; rw [← ht]; unfold topQ; rw [hQl, hK]
    have hQK : Q.length = K + 1 := by omega
    have hnum := Lib.hid (fun a c W hI hc => (hnum0 a c W hI hc).mono fun e w' h => h.yes hD hQl)
    have hQH := Lib.hid hQl
    have hKn : (K : Int) < (N : Int) := by omega
    have hK0 : (0 : Int) ≤ (K : Int) := by omega
    have hKn2 : K < N := by omega
    have hK1 : 1 ≤ K := by omega
    have hK19 : K ≤ 19 := by omega
    by_cases hv : v < 0 ∨ (t : Int) ≤ v
    · have hdig := Lib.hid (fun a c W hI hc => (hdig0 a c W hI hc).mono fun e w' h => h.out hD (by rw [ht]; exact hv))
      clear hdig0 hnum0 hN hD hT hC hQl hall hK ht hQK
      by_cases hv0 : v < 0
      · have d1 : decide (v < 0) = true := decide_eq_true hv0
        clear hv
        go_enter Try.func18, Try.ntmps18
        go_wp2_with (first
          | (go_at_call 45; (with_reducible refine hcut.out.mono ?_); rintro e w1 ⟨a1, c1, rfl, hI, hc1, hb⟩; have hI1 := Lib.hid hI; have hb1 := Lib.hid hb; clear hI hb)
          | (go_at_call 46; (with_reducible refine (hdig.out _ _ _ hI1.out hc1).mono ?_); rintro e w2 ⟨rfl, hb⟩; have hb2 := Lib.hid hb; clear hb)
          | (go_at_call 47; (with_reducible refine (hnum.out _ _ _ (hI1.out.below hb2.out) hc1).mono ?_); rintro e w3 ⟨g3, c3, rfl, hI, hb⟩; have hI3 := Lib.hid hI; have hb3 := Lib.hid hb; clear hI hb)
          | (go_at_call 23; (with_reducible refine (lives_any _).mono ?_); rintro e w5 ⟨rfl, hb⟩; have hb5 := Lib.hid hb; clear hb))
        go_ret
        exact ⟨rfl, bseqT hb1.out (bseqT hb2.out (bseqT hb3.out hb5.out))⟩
      · have d1 : decide (v < 0) = false := decide_eq_false hv0
        have hvt : (t : Int) ≤ v := by omega
        have d2 : decide ((t : Int) ≤ v) = true := decide_eq_true hvt
        clear hv
        go_enter Try.func18, Try.ntmps18
        go_upto_region 7 with (first
          | (go_at_call 45; (with_reducible refine hcut.out.mono ?_); rintro e w1 ⟨a1, c1, rfl, hI, hc1, hb⟩; have hI1 := Lib.hid hI; have hb1 := Lib.hid hb; clear hI hb)
          | (go_at_call 46; (with_reducible refine (hdig.out _ _ _ hI1.out hc1).mono ?_); rintro e w2 ⟨rfl, hb⟩; have hb2 := Lib.hid hb; clear hb)
          | (go_at_call 47; (with_reducible refine (hnum.out _ _ _ (hI1.out.below hb2.out) hc1).mono ?_); rintro e w3 ⟨g3, c3, rfl, hI, hb⟩; have hI3 := Lib.hid hI; have hb3 := Lib.hid hb; clear hI hb))
        have c1 := iz_nat (i := K) hI3.out (by rw [hQH.out]; exact hKn2) htK.out
        rw [Nat.zero_add] at c1
        go_wp2_with (first
          | (go_at_call 23; (with_reducible refine (lives_any _).mono ?_); rintro e w5 ⟨rfl, hb⟩; have hb5 := Lib.hid hb; clear hb))
        go_ret
        exact ⟨rfl, bseqT hb1.out (bseqT hb2.out (bseqT hb3.out hb5.out))⟩
    · obtain ⟨m, rfl⟩ : ∃ m : Nat, v = (m : Int) := ⟨v.toNat, by omega⟩
      have hmt : m < t := by omega
      have htl : t ≤ 1000000000 := by
        rw [← htK.out, List.getD, List.getElem?_eq_getElem (by rw [hQl]; exact hKn2)]
        exact (hall _ (by simp)).2
      obtain ⟨F, hF⟩ : ∃ F, dgF Q m = F := ⟨_, rfl⟩
      have hFl : F.length = K := by rw [← hF, dgF_length]; omega
      have hdig := Lib.hid (fun a c W hI hc => (hdig0 a c W hI hc).mono fun e w' h => h.in hD hQK (by rw [ht]; exact hmt))
      rw [hF] at hdig
      have href := Lib.hid (fun (a : Option Addr) (d g cc : Nat) (W : World) hI => digitsR_any a g 0 N K cc d m Q F W hI hQl (by omega) hK1 hK19 hall (by omega) hF)
      have hsm : Hid (∀ (g c g2 c2 : Nat) (W : World), IZ W (some ⟨g, 0, none⟩) (nzT F) → IZ W (some ⟨g2, 0, none⟩) (nzT F) → Calls Try.prog 24 #[.slice (some ⟨g, 0, none⟩) K c, .slice (some ⟨g2, 0, none⟩) K c2] W (RetB W true)) := fun g c g2 c2 W h1 h2 =>
        same_any _ _ c c2 K K _ _ true W h1 h2 (by rw [nzT_length, hFl]) (by rw [nzT_length, hFl]) (by omega) (by omega) (by unfold sameB; simp)
      have d1 : decide ((m : Int) < 0) = false := decide_eq_false (by omega)
      have d2 : decide ((t : Int) ≤ (m : Int)) = false := decide_eq_false (by omega)
      have d3 : decide (t ≤ m) = false := decide_eq_false (by omega)
      clear hdig0 hnum0 hN hD hT hC hQl hall hK ht hQK hF hFl hv
      go_enter Try.func18, Try.ntmps18
      go_upto_region 7 with (first
        | (go_at_call 45; (with_reducible refine hcut.out.mono ?_); rintro e w1 ⟨a1, c1, rfl, hI, hc1, hb⟩; have hI1 := Lib.hid hI; have hb1 := Lib.hid hb; clear hI hb)
        | (go_at_call 46; (with_reducible refine (hdig.out _ _ _ hI1.out hc1).mono ?_); rintro e w2 ⟨g2, rfl, hI, hb⟩; have hI2 := Lib.hid hI; have hb2 := Lib.hid hb; clear hI hb)
        | (go_at_call 47; (with_reducible refine (hnum.out _ _ _ (hI1.out.below hb2.out) hc1).mono ?_); rintro e w3 ⟨g3, c3, rfl, hI, hb⟩; have hI3 := Lib.hid hI; have hb3 := Lib.hid hb; clear hI hb))
      have c1 := iz_nat (i := K) hI3.out (by rw [hQH.out]; exact hKn2) htK.out
      rw [Nat.zero_add] at c1
      go_wp2_with (first
        | (go_at_call 48; (with_reducible refine (href.out _ _ _ _ _ hI3.out).mono ?_); rintro e w4 ⟨g4, rfl, hI, hb⟩; have hI4 := Lib.hid hI; have hb4 := Lib.hid hb; clear hI hb)
        | (go_at_call 24; (with_reducible refine (hsm.out _ _ _ _ _ (hI2.out.below (bseqT hb3.out hb4.out)) hI4.out).mono ?_); rintro e w6 ⟨rfl, hb⟩; have hb6 := Lib.hid hb; clear hb)
        | (go_at_call 23; (with_reducible refine (lives_any _).mono ?_); rintro e w5 ⟨rfl, hb⟩; have hb5 := Lib.hid hb; clear hb))
      go_ret
      exact ⟨rfl, bseqT hb1.out (bseqT hb2.out (bseqT hb3.out (bseqT hb4.out (bseqT hb6.out hb5.out))))⟩
end
end Go.Proofs.Ytbehfhmdilifkaa
