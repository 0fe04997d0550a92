/- Ia -/
import Derived.Test.YtbehfhmdilifkaaQHy
set_option linter.unusedVariables false
/- Walk of the law TeethNumbers. -/
namespace Go.Proofs.Ytbehfhmdilifkaa
open Go Go.RowKit Go.Proofs

theorem cut22 (ao : Option Addr) (len cap N : Nat) (xs X : List Int) (w : World) (hI : IZ w ao xs) (hl : xs.length = len) (hlc : len ≤ cap) (hm : len ≤ 9223372036854775807) (hX : xs.take 22 = X) (hN : X.length = N) :
    Calls Try.prog 45 #[.slice ao len cap, .int .i64 22] w (fun e w' => ∃ a c, e = .returned (.slice a N c) ∧ IZ w' a X ∧ N ≤ c ∧ Below w.heap.size w w') := by
  have hcut0 := cut_any ao cap len 22 xs w hI hl hlc hm (by omega)
  rw [hX] at hcut0
  refine hcut0.mono ?_
  rintro e w' ⟨a, c, h1, h2, h3, h4⟩
  rw [hN] at h1 h3
  exact ⟨a, c, h1, h2, h3, h4⟩
theorem NumP.no {X Y : List Int} {w w' : World} {e : Ending} (h : NumP X Y w e w') (hD : den X = none) : e = .returned (.tuple #[.int .i64 0, .int .i64 1]) ∧ Below w.heap.size w w' := by
  rcases h with ⟨_, h1, h2⟩ | ⟨Q, h1, _⟩ | ⟨Q, _, h1, _⟩
  · exact ⟨h1, h2⟩
  · rw [hD] at h1; cases h1
  · rw [hD] at h1; cases h1
theorem NumP.bad {X Y : List Int} {Q : List Nat} {w w' : World} {e : Ending} (h : NumP X Y w e w') (hD : den X = some Q) (hv : ¬ VY (tnX X) Y) : e = .returned (.tuple #[.int .i64 0, .int .i64 2]) ∧ Below w.heap.size w w' := by
  rcases h with ⟨h1, _⟩ | ⟨Q', h1, h2, h3, h4⟩ | ⟨Q', _, h1, _, h2, _⟩
  · rw [hD] at h1; cases h1
  · exact ⟨h3, h4⟩
  · exact absurd h2 hv
theorem NumP.good {X Y : List Int} {Q C : List Nat} {w w' : World} {e : Ending} (h : NumP X Y w e w') (hD : den X = some Q) (hv : VY (tnX X) Y) (hY : Y = zN C) : e = .returned (.tuple #[.int .i64 (sumQ Q C : Nat), .int .i64 0]) ∧ Below w.heap.size w w' := by
  rcases h with ⟨h1, _⟩ | ⟨Q', h1, h2, h3, h4⟩ | ⟨Q', C', h1, h2, h3, h4, h5⟩
  · rw [hD] at h1; cases h1
  · exact absurd hv h2
  · rw [hD] at h1; injection h1 with h1; subst h1
    have : C' = C := by
      rw [hY] at h2
      have h6 := congrArg (List.map Int.toNat) h2
      unfold zN at h6
      simpa [List.map_map, Function.comp_def] using h6.symm
    subst this
    exact ⟨h4, h5⟩
theorem NumR.bad {T Q : List Nat} {Y : List Int} {w w' : World} {e : Ending} (h : NumR T Q Y w e w') (hv : ¬ VY T Y) : e = .returned (.tuple #[.int .i64 0, .bool false]) ∧ Below w.heap.size w w' := by
  rcases h with ⟨_, h1, h2⟩ | ⟨C, _, h1, _⟩
  · exact ⟨h1, h2⟩
  · exact absurd h1 hv
theorem NumR.good {T Q C : List Nat} {Y : List Int} {w w' : World} {e : Ending} (h : NumR T Q Y w e w') (hv : VY T Y) (hY : Y = zN C) : e = .returned (.tuple #[.int .i64 (sumQ Q C : Nat), .bool true]) ∧ Below w.heap.size w w' := by
  rcases h with ⟨h1, _⟩ | ⟨C', h2, h3, h4, h5⟩
  · exact absurd hv h1
  · have : C' = C := by
      rw [hY] at h2
      have h6 := congrArg (List.map Int.toNat) h2
      unfold zN at h6
      simpa [List.map_map, Function.comp_def] using h6.symm
    subst this
    exact ⟨h4, h5⟩
set_option maxRecDepth 100000 in
set_option maxHeartbeats 3200000 in
theorem numLaw_any (ao bo : Option Addr) (len cap m d : Nat) (xs ys : List Int) (w : World) (hI : IZ w ao xs) (hl : xs.length = len) (hlc : len ≤ cap) (hm : len ≤ 9223372036854775807) (hJ : IZ w bo ys) (hl2 : ys.length = m) (hlc2 : m ≤ d) (hm2 : m ≤ 9223372036854775807) :
    Calls Try.prog 19 #[.slice ao len cap, .slice bo m d] w (RetB w true) := by
  obtain ⟨X, hX⟩ : ∃ X, xs.take 22 = X := ⟨_, rfl⟩
  obtain ⟨N, hN⟩ : ∃ N, X.length = N := ⟨_, rfl⟩
  have hNl : N ≤ 22 := by rw [← hN, ← hX, List.length_take]; omega
  obtain ⟨Y, hY⟩ : ∃ Y, ys.take 22 = Y := ⟨_, rfl⟩
  obtain ⟨M, hM⟩ : ∃ M, Y.length = M := ⟨_, rfl⟩
  have hMl : M ≤ 22 := by rw [← hM, ← hY, List.length_take]; omega
  have hcut1 := Lib.hid (cut22 ao len cap N xs X w hI hl hlc hm hX hN)
  have hcut2 := Lib.hid (fun W (hb : Below w.heap.size w W) => cut22 bo m d M ys Y W (hJ.below hb) hl2 hlc2 hm2 hY hM)
  have hprg0 := fun a c b c2 W (hI : IZ W a X) (hc : N ≤ c) (hJ : IZ W b Y) => numP_any a b N c M c2 X Y W hI hN hc hJ hM (by omega)
  have hnum0 := fun a c W (hI : IZ W a X) (hc : N ≤ c) => numR_any a N c X W hI hN hc
  clear hI hJ hl hl2 hX hY
  cases hD : den X with
  | none =>
    have hprg := Lib.hid (fun a c b c2 W hI hc hJ => (hprg0 a c b c2 W hI hc hJ).mono fun e w' h => h.no hD)
    have hnum := Lib.hid (fun a c W hI hc => (hnum0 a c W hI hc).mono fun e w' h => h.no hD)
    clear hprg0 hnum0 hD hN hM
    go_enter Try.func19, Try.ntmps19
    go_wp2_with (first
      | (go_at_call 45; (with_reducible refine hcut1.out.mono ?_); rintro e w1 ⟨a1, c1, rfl, hI, hc1, hb⟩; have hI1 := Lib.hid hI; have hb1 := Lib.hid hb; clear hI hb)
      | (go_at_call 45; (with_reducible refine (hcut2.out _ hb1.out).mono ?_); rintro e w2 ⟨a2, c2, rfl, hI, hc2, hb⟩; have hI2 := Lib.hid hI; have hb2 := Lib.hid hb; clear hI hb)
      | (go_at_call 49; (with_reducible refine (hprg.out _ _ _ _ _ (hI1.out.below hb2.out) hc1 hI2.out).mono ?_); rintro e w3 ⟨rfl, hb⟩; have hb3 := Lib.hid hb; clear hb)
      | (go_at_call 47; (with_reducible refine (hnum.out _ _ _ (hI1.out.below (bseqT hb2.out hb3.out)) hc1).mono ?_); rintro e w4 ⟨rfl, hb⟩; have hb4 := Lib.hid hb; clear hb)
      | (go_at_call 23; (with_reducible refine (lives_any _).mono ?_); rintro e w5 ⟨rfl, hb⟩; have hb5 := Lib.hid hb; clear hb))
    go_ret
    exact ⟨rfl, bseqT hb1.out (bseqT hb2.out (bseqT hb3.out (bseqT hb4.out hb5.out)))⟩
  | some Q =>
    have hQl : Q.length = N := by obtain ⟨T, hT, hC, hn2, hn20, hQl⟩ := den_some hD; rw [hQl, hN]
    have hnum := Lib.hid (fun a c W hI hc => (hnum0 a c W hI hc).mono fun e w' h => h.yes hD hQl)
    have href0 := fun a c q c3 b c2 W hI hJ hQ => numR2_any a b q N c M c2 c3 X Y Q W hI hN hJ hM (by omega) hQ hD
    by_cases hv : VY (tnX X) Y
    · obtain ⟨C, hC, _⟩ := id hv
      obtain ⟨s, hs⟩ : ∃ s, sumQ Q C = s := ⟨_, rfl⟩
      have hprg := Lib.hid (fun a c b c2 W hI hc hJ => (hprg0 a c b c2 W hI hc hJ).mono fun e w' h => h.good hD hv hC)
      have href := Lib.hid (fun a c q c3 b c2 W hI hJ hQ => (href0 a c q c3 b c2 W hI hJ hQ).mono fun e w' h => h.good hv hC)
      rw [hs] at hprg href
      have es : ((s : Int) == (s : Int)) = true := by simp
      clear hprg0 hnum0 href0 hD hN hM hQl hv hC hs
      go_enter Try.func19, Try.ntmps19
      go_wp2_with (first
        | (go_at_call 45; (with_reducible refine hcut1.out.mono ?_); rintro e w1 ⟨a1, c1, rfl, hI, hc1, hb⟩; have hI1 := Lib.hid hI; have hb1 := Lib.hid hb; clear hI hb)
        | (go_at_call 45; (with_reducible refine (hcut2.out _ hb1.out).mono ?_); rintro e w2 ⟨a2, c2, rfl, hI, hc2, hb⟩; have hI2 := Lib.hid hI; have hb2 := Lib.hid hb; clear hI hb)
        | (go_at_call 49; (with_reducible refine (hprg.out _ _ _ _ _ (hI1.out.below hb2.out) hc1 hI2.out).mono ?_); rintro e w3 ⟨rfl, hb⟩; have hb3 := Lib.hid hb; clear hb)
        | (go_at_call 47; (with_reducible refine (hnum.out _ _ _ (hI1.out.below (bseqT hb2.out hb3.out)) hc1).mono ?_); rintro e w4 ⟨g4, c4, rfl, hI, hb⟩; have hI4 := Lib.hid hI; have hb4 := Lib.hid hb; clear hI hb)
        | (go_at_call 50; (with_reducible refine (href.out _ _ _ _ _ _ _ (hI1.out.below (bseqT hb2.out (bseqT hb3.out hb4.out))) (hI2.out.below (bseqT hb3.out hb4.out)) hI4.out).mono ?_); rintro e w6 ⟨rfl, hb⟩; have hb6 := Lib.hid hb; clear hb)
        | (go_at_call 23; (with_reducible refine (lives_any _).mono ?_); rintro e w5 ⟨rfl, hb⟩; have hb5 := Lib.hid hb; clear hb))
      go_ret
      exact ⟨rfl, bseqT hb1.out (bseqT hb2.out (bseqT hb3.out (bseqT hb4.out (bseqT hb6.out hb5.out))))⟩
    · have hprg := Lib.hid (fun a c b c2 W hI hc hJ => (hprg0 a c b c2 W hI hc hJ).mono fun e w' h => h.bad hD hv)
      have href := Lib.hid (fun a c q c3 b c2 W hI hJ hQ => (href0 a c q c3 b c2 W hI hJ hQ).mono fun e w' h => h.bad hv)
      clear hprg0 hnum0 href0 hD hN hM hQl hv
      go_enter Try.func19, Try.ntmps19
      go_wp2_with (first
        | (go_at_call 45; (with_reducible refine hcut1.out.mono ?_); rintro e w1 ⟨a1, c1, rfl, hI, hc1, hb⟩; have hI1 := Lib.hid hI; have hb1 := Lib.hid hb; clear hI hb)
        | (go_at_call 45; (with_reducible refine (hcut2.out _ hb1.out).mono ?_); rintro e w2 ⟨a2, c2, rfl, hI, hc2, hb⟩; have hI2 := Lib.hid hI; have hb2 := Lib.hid hb; clear hI hb)
        | (go_at_call 49; (with_reducible refine (hprg.out _ _ _ _ _ (hI1.out.below hb2.out) hc1 hI2.out).mono ?_); rintro e w3 ⟨rfl, hb⟩; have hb3 := Lib.hid hb; clear hb)
        | (go_at_call 47; (with_reducible refine (hnum.out _ _ _ (hI1.out.below (bseqT hb2.out hb3.out)) hc1).mono ?_); rintro e w4 ⟨g4, c4, rfl, hI, hb⟩; have hI4 := Lib.hid hI; have hb4 := Lib.hid hb; clear hI hb)
        | (go_at_call 50; (with_reducible refine (href.out _ _ _ _ _ _ _ (hI1.out.below (bseqT hb2.out (bseqT hb3.out hb4.out))) (hI2.out.below (bseqT hb3.out hb4.out)) hI4.out).mono ?_); rintro e w6 ⟨rfl, hb⟩; have hb6 := Lib.hid hb; clear hb)
        | (go_at_call 23; (with_reducible refine (lives_any _).mono ?_); rintro e w5 ⟨rfl, hb⟩; have hb5 := Lib.hid hb; clear hb))
      go_ret
      exact ⟨rfl, bseqT hb1.out (bseqT hb2.out (bseqT hb3.out (bseqT hb4.out (bseqT hb6.out hb5.out))))⟩
end Go.Proofs.Ytbehfhmdilifkaa
