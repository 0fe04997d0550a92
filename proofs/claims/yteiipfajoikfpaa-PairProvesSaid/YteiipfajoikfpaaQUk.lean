/- Uk -/
import Derived.Test.YteiipfajoikfpaaQUi
import Derived.Test.YteiipfajoikfpaaQUc
set_option linter.unusedVariables false
/- Walk of PairProves. -/
namespace Go.Proofs.Yteiipfajoikfpaa
open Go Go.RowKit Go.Proofs

set_option maxRecDepth 100000 in
set_option maxHeartbeats 12800000 in
theorem provesLaw_any (ao aR aK : Option Addr) (c n lR cR lK cK : Nat) (C : List (List Int)) (R K : List Int) (s : Int) (w : World) (h : IMx w ao C) (hn : C.length = n) (hm : n ≤ 9223372036854775807) (hr : ∀ r ∈ C, r.length ≤ 9223372036854775807)
    (hR : IZ w aR R) (hK : IZ w aK K) (hlR : R.length = lR) (hlK : K.length = lK) (hcR : lR ≤ cR) (hcK : lK ≤ cK) (hmR : lR ≤ 9223372036854775807) (hmK : lK ≤ 9223372036854775807) :
    Calls Try.prog 8 #[.slice ao n c, .agg #[.slice aR lR cR, .slice aK lK cK], .int .i64 s] w (RetB w true) := by
  obtain ⟨D, hD⟩ : ∃ D, fewM C = D := ⟨_, rfl⟩
  obtain ⟨m, hmD⟩ : ∃ m, D.length = m := ⟨_, rfl⟩
  have hm9 : m ≤ 9 := by rw [← hmD, ← hD]; exact fewM_small C
  obtain ⟨P, hP⟩ : ∃ P, R.take 9 = P := ⟨_, rfl⟩
  obtain ⟨Q, hQ⟩ : ∃ Q, K.take 9 = Q := ⟨_, rfl⟩
  obtain ⟨l1, hl1⟩ : ∃ l1, P.length = l1 := ⟨_, rfl⟩
  obtain ⟨l2, hl2⟩ : ∃ l2, Q.length = l2 := ⟨_, rfl⟩
  have hl19 : l1 ≤ 9 := by rw [← hl1, ← hP, List.length_take]; omega
  have hl29 : l2 ≤ 9 := by rw [← hl2, ← hQ, List.length_take]; omega
  have hfew := Lib.hid (fun W (hb : Below w.heap.size w W) => few_anyJ ao c n C W (h.below hb) hn hm hr)
  have hcutR := Lib.hid (fun W (hb : Below w.heap.size w W) => cut9_any aR cR lR R W (hR.below hb) hlR hcR hmR)
  have hcutK := Lib.hid (fun W (hb : Below w.heap.size w W) => cut9_any aK cK lK K W (hK.below hb) hlK hcK hmK)
  have hDH := Lib.hid hD
  have hmH := Lib.hid hmD
  have hPH := Lib.hid hP
  have hQH := Lib.hid hQ
  have hl1H := Lib.hid hl1
  have hl2H := Lib.hid hl2
  clear h hn hm hr hD hmD hR hK hlR hlK hcR hcK hmR hmK hP hQ hl1 hl2
  go_enter Try.func8, Try.ntmps8
  go_upto_region 1 with (fail)
  obtain ⟨V, hV⟩ : ∃ V, V = w.alloc (Obj.cells #[.slice aR lR cR, .slice aK lK cK] 51) := ⟨_, rfl⟩
  rw [← hV]
  have c0 : V.cell? ⟨w.heap.size, 0, none⟩ = some (.slice aR lR cR) := by rw [hV, al_new rfl]; rfl
  have c1 : V.cell? ⟨w.heap.size, 1, none⟩ = some (.slice aK lK cK) := by rw [hV, al_new rfl]; rfl
  have hbV : Hid (Below w.heap.size w V) := by show Below _ _ _; rw [hV]; exact below_al (Below.refl _ _) _
  have c0H := Lib.hid c0
  have c1H := Lib.hid c1
  clear hV c0 c1
  go_cut [7, 8, 9] from 13 to 20 (fun s7 s8 s9 wx => ∃ a1 d1 a2 d2 a3 d3, s7 = .slice a1 m d1 ∧ s8 = .slice a2 l1 d2 ∧ s9 = .slice a3 l2 d3 ∧ IMx wx a1 D ∧ IZ wx a2 P ∧ IZ wx a3 Q ∧ Below V.heap.size V wx)
  case first =>
    go_region_held3 (fun w' => w'.cell? ⟨w.heap.size, 0, none⟩ = some (.slice aR lR cR) ∧ w'.cell? ⟨w.heap.size, 1, none⟩ = some (.slice aK lK cK))
      (refine ⟨Below.cellAt ?_ (Nat.le_refl _) c0H.out, Below.cellAt ?_ (Nat.le_refl _) c1H.out⟩ <;> (repeat (with_reducible first | exact Below.refl _ _ | refine Below.drew ?_ | refine below_al ?_ _ | refine bseqJ ?_ hbA.out | refine bseqJ ?_ hbB.out | refine bseqJ ?_ hbC.out)))
      (first
        | (go_at_call 18; (with_reducible refine (hfew.out _ (bseqJ hbV.out (by (repeat (with_reducible first | exact Below.refl _ _ | refine Below.drew ?_ | refine below_al ?_ _ | refine bseqJ ?_ hbA.out | refine bseqJ ?_ hbB.out | refine bseqJ ?_ hbC.out))))).mono ?_); rintro e w1 hR; rw [hDH.out] at hR; obtain ⟨a1, d1, rfl, hM, hd1, hb1⟩ := hR.out hmH.out; have hMA := Lib.hid hM; have hbA := Lib.hid hb1; clear hR hM hb1)
        | (go_at_call 36; (with_reducible refine (hcutR.out _ (bseqJ hbV.out (by (repeat (with_reducible first | exact Below.refl _ _ | refine Below.drew ?_ | refine below_al ?_ _ | refine bseqJ ?_ hbA.out | refine bseqJ ?_ hbB.out | refine bseqJ ?_ hbC.out))))).mono ?_); rintro e w2 hR; rw [hPH.out] at hR; obtain ⟨a2, d2, rfl, hI, hd2, hb2⟩ := hR; rw [hl1H.out] at hd2 ⊢; have hIB := Lib.hid hI; have hbB := Lib.hid hb2; clear hI hb2)
        | (go_at_call 36; (with_reducible refine (hcutK.out _ (bseqJ hbV.out (by (repeat (with_reducible first | exact Below.refl _ _ | refine Below.drew ?_ | refine below_al ?_ _ | refine bseqJ ?_ hbA.out | refine bseqJ ?_ hbB.out | refine bseqJ ?_ hbC.out))))).mono ?_); rintro e w3 hR; rw [hQH.out] at hR; obtain ⟨a3, d3, rfl, hI, hd3, hb3⟩ := hR; rw [hl2H.out] at hd3 ⊢; have hIC := Lib.hid hI; have hbC := Lib.hid hb3; clear hI hb3))
    all_goals (
      go_wp2_with (fail)
      go_meet
      refine ⟨_, _, _, _, _, _, rfl, rfl, rfl, hMA.out.below ?_, hIB.out.below ?_, hIC.out.below ?_, ?_⟩ <;> (repeat (with_reducible first | exact Below.refl _ _ | refine Below.drew ?_ | refine below_al ?_ _ | refine bseqJ ?_ hbA.out | refine bseqJ ?_ hbB.out | refine bseqJ ?_ hbC.out)))
  case rest =>
  obtain ⟨a1, d1, a2, d2, a3, d3, rfl, rfl, rfl, hM, hI2, hI3, hb1⟩ := hcut
  have hMH := Lib.hid hM
  have hI2H := Lib.hid hI2
  have hI3H := Lib.hid hI3
  have hb1H := Lib.hid (bseqJ hbV.out hb1)
  clear hM hI2 hI3 hb1 c0H c1H hbV hfew hcutR hcutK hDH hPH hQH
  rcases hb : costsB D
  · have hbH := Lib.hid hb
    clear hb
    go_wp2_with (first
      | (go_at_call 37; go_loud (with_reducible refine (proves_bad a1 a2 a3 d1 d2 d3 m l1 l2 D s _ hMH.out hmH.out (by omega) hbH.out).mono ?_); rintro e w2 ⟨rfl, hb2⟩; have hM2 := Lib.hid (hMH.out.below hb2); have hb2H := Lib.hid hb2; clear hb2)
      | (go_at_call 20; go_loud (with_reducible refine (costs_any a1 d1 m D false _ hM2.out hmH.out (by omega) hbH.out).mono ?_); rintro e w3 ⟨rfl, rfl⟩)
      | (go_at_call 21; go_loud (with_reducible refine (lives_any _).mono ?_); rintro e w4 ⟨rfl, hb4⟩; have hb4H := Lib.hid hb4; clear hb4))
    go_ret
    exact ⟨rfl, bseqJ hb1H.out (bseqJ hb2H.out hb4H.out)⟩
  · have hbH := Lib.hid hb
    have hgH := Lib.hid (goodC_of hb)
    clear hb
    rcases h1 : rangeB P m
    · have h1H := Lib.hid h1
      clear h1
      go_wp2_with (first
        | (go_at_call 37; go_loud (with_reducible refine (proves_form a1 a2 a3 d1 d2 d3 m l1 l2 D P Q s _ hMH.out hgH.out hmH.out hI2H.out hI3H.out hl1H.out hl2H.out (by omega) (by omega) (.inl h1H.out)).mono ?_); rintro e w2 ⟨rfl, hb2⟩; have hM2 := Lib.hid (hMH.out.below hb2); have hI22 := Lib.hid (hI2H.out.below hb2); have hb2H := Lib.hid hb2; clear hb2)
        | (go_at_call 20; go_loud (with_reducible refine (costs_any a1 d1 m D true _ hM2.out hmH.out (by omega) hbH.out).mono ?_); rintro e w3 ⟨rfl, rfl⟩)
        | (go_at_call 34; go_loud (with_reducible refine (pricesR_any a2 d2 l1 m P false _ hI22.out hl1H.out (by omega) h1H.out).mono ?_); rintro e w5 ⟨rfl, hb5⟩; have hb5H := Lib.hid hb5; clear hb5)
        | (go_at_call 21; go_loud (with_reducible refine (lives_any _).mono ?_); rintro e w6 ⟨rfl, hb6⟩; have hb6H := Lib.hid hb6; clear hb6))
      go_ret
      exact ⟨rfl, bseqJ hb1H.out (bseqJ hb2H.out (bseqJ hb5H.out hb6H.out))⟩
    · have h1H := Lib.hid h1
      clear h1
      rcases h2 : rangeB Q m
      · have h2H := Lib.hid h2
        clear h2
        go_wp2_with (first
          | (go_at_call 37; go_loud (with_reducible refine (proves_form a1 a2 a3 d1 d2 d3 m l1 l2 D P Q s _ hMH.out hgH.out hmH.out hI2H.out hI3H.out hl1H.out hl2H.out (by omega) (by omega) (.inr h2H.out)).mono ?_); rintro e w2 ⟨rfl, hb2⟩; have hM2 := Lib.hid (hMH.out.below hb2); have hI22 := Lib.hid (hI2H.out.below hb2); have hI32 := Lib.hid (hI3H.out.below hb2); have hb2H := Lib.hid hb2; clear hb2)
          | (go_at_call 20; go_loud (with_reducible refine (costs_any a1 d1 m D true _ hM2.out hmH.out (by omega) hbH.out).mono ?_); rintro e w3 ⟨rfl, rfl⟩)
          | (go_at_call 34; (with_reducible refine (pricesR_any a2 d2 l1 m P true _ hI22.out hl1H.out (by omega) h1H.out).mono ?_); rintro e w5 ⟨rfl, hb5⟩; have hb5H := Lib.hid hb5; clear hb5)
          | (go_at_call 34; go_loud (with_reducible refine (pricesR_any a3 d3 l2 m Q false _ (hI32.out.below hb5H.out) hl2H.out (by omega) h2H.out).mono ?_); rintro e w6 ⟨rfl, hb6⟩; have hb6H := Lib.hid (bseqJ hb5H.out hb6); clear hb6)
          | (go_at_call 21; go_loud (with_reducible refine (lives_any _).mono ?_); rintro e w7 ⟨rfl, hb7⟩; have hb7H := Lib.hid hb7; clear hb7))
        go_ret
        exact ⟨rfl, bseqJ hb1H.out (bseqJ hb2H.out (bseqJ hb6H.out hb7H.out))⟩
      · have h2H := Lib.hid h2
        clear h2
        have e1 : m = l1 := by have := (of_decide_eq_true h1H.out).2; rw [hl1H.out] at this; exact this.symm
        subst e1
        have e2 : m = l2 := by have := (of_decide_eq_true h2H.out).2; rw [hl2H.out] at this; exact this.symm
        subst e2
        obtain ⟨b, hb⟩ : ∃ b, provB D m P Q s = b := ⟨_, rfl⟩
        have hpH := Lib.hid hb
        have hq1 := Lib.hid (of_decide_eq_true h1H.out).1
        have hq2 := Lib.hid (of_decide_eq_true h2H.out).1
        have ebb : (b == b) = true := by simp
        clear hb
        go_wp2_with (first
          | (go_at_call 37; go_loud (with_reducible refine (proves_good a1 a2 a3 d1 d2 d3 m D P Q s b _ hMH.out hgH.out hmH.out hI2H.out hI3H.out h1H.out h2H.out hpH.out).mono ?_); rintro e w2 ⟨rfl, hb2⟩; have hM2 := Lib.hid (hMH.out.below hb2); have hI22 := Lib.hid (hI2H.out.below hb2); have hI32 := Lib.hid (hI3H.out.below hb2); have hb2H := Lib.hid hb2; clear hb2)
          | (go_at_call 20; go_loud (with_reducible refine (costs_any a1 d1 m D true _ hM2.out hmH.out (by omega) hbH.out).mono ?_); rintro e w3 ⟨rfl, rfl⟩)
          | (go_at_call 34; (with_reducible refine (pricesR_any a2 d2 m m P true _ hI22.out hl1H.out (by omega) h1H.out).mono ?_); rintro e w5 ⟨rfl, hb5⟩; have hb5H := Lib.hid hb5; clear hb5)
          | (go_at_call 34; go_loud (with_reducible refine (pricesR_any a3 d3 m m Q true _ (hI32.out.below hb5H.out) hl2H.out (by omega) h2H.out).mono ?_); rintro e w6 ⟨rfl, hb6⟩; have hb6H := Lib.hid (bseqJ hb5H.out hb6); clear hb6)
          | (go_at_call 35; go_loud (with_reducible refine (provesR_any a1 a2 a3 d1 d2 d3 m D P Q s b _ (hM2.out.below hb6H.out) hgH.out hmH.out (hI22.out.below hb6H.out) (hI32.out.below hb6H.out) hl1H.out hl2H.out hq1.out hq2.out hpH.out).mono ?_); rintro e w7 ⟨rfl, hb7⟩; have hb7H := Lib.hid hb7; clear hb7)
          | (go_at_call 21; go_loud (with_reducible refine (lives_any _).mono ?_); rintro e w8 ⟨rfl, hb8⟩; have hb8H := Lib.hid hb8; clear hb8))
        go_ret
        exact ⟨rfl, bseqJ hb1H.out (bseqJ hb2H.out (bseqJ hb6H.out (bseqJ hb7H.out hb8H.out)))⟩
end Go.Proofs.Yteiipfajoikfpaa
