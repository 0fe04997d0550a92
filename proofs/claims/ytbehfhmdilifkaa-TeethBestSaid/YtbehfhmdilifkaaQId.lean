/- Id -/
import Derived.Test.YtbehfhmdilifkaaQHh
import Derived.Test.YtbehfhmdilifkaaQHl
import Derived.Test.YtbehfhmdilifkaaQHp
set_option linter.unusedVariables false
/- Walk of the law TeethScaled. -/
namespace Go.Proofs.Ytbehfhmdilifkaa
open Go Go.RowKit Go.Proofs

theorem termsAt (a b L : Nat) (T : List Nat) (hT : trm a b = T) (hL : T.length = L) (ha : 1 ≤ a) (ha2 : a ≤ 1000000) (hb : 1 ≤ b) (hb2 : b ≤ 1000000) (W : World) :
    Calls Try.prog 21 #[.int .i64 (a : Nat), .int .i64 (b : Nat)] W (fun e w' => ∃ g c, e = .returned (.tuple #[.slice (some ⟨g, 0, none⟩) L c, .int .i64 0]) ∧ L ≤ c ∧ IZ w' (some ⟨g, 0, none⟩) (nzT T) ∧ Below W.heap.size W w') := by
  have := termsP_good a b W ha ha2 hb hb2
  unfold TermsP at this
  rw [hT, hL] at this
  exact this
set_option maxRecDepth 100000 in
set_option maxHeartbeats 12800000 in
theorem scaLaw_at (x y z m A B C o u k n L M p q : Nat) (T R : List Nat) (w : World) (hx : x < 65536) (hy : y < 65536) (hz : z < 256) (hm : m < 65536) (hA : x % 1000 = A) (hB : y % 1000 = B) (hC : z % 900 = C) (ho : A + 1 = o) (hu : B + 1 = u) (hk : C + 1 = k) (hn : m + 1 = n)
    (hT : trm o u = T) (hR : trm u o = R) (hL : T.length = L) (hM : R.length = M) (hN : NearI o u n p q) :
    Calls Try.prog 14 #[.agg #[.int .u16 (x : Nat), .int .u16 (y : Nat)], .int .u8 (z : Nat), .int .u16 (m : Nat)] w (RetB w true) := by
  have tA : (x : Int).tmod 1000 = (A : Int) := (tm hA).1
  have tA2 : (x : Int) % 1000 = (A : Int) := (tm hA).2
  have tB : (y : Int).tmod 1000 = (B : Int) := (tm hB).1
  have tB2 : (y : Int) % 1000 = (B : Int) := (tm hB).2
  have tC : (z : Int).tmod 900 = (C : Int) := (tm hC).1
  have tC2 : (z : Int) % 900 = (C : Int) := (tm hC).2
  have lA : A < 1000 := by rw [← hA]; exact Nat.mod_lt _ (by omega)
  have lB : B < 1000 := by rw [← hB]; exact Nat.mod_lt _ (by omega)
  have lC : C < 900 := by rw [← hC]; exact Nat.mod_lt _ (by omega)
  have haI : (A : Int) + 1 = (o : Int) := by omega
  have hbI : (B : Int) + 1 = (u : Int) := by omega
  have hcI : (C : Int) + 1 = (k : Int) := by omega
  have hnI : (m : Int) + 1 = (n : Int) := by omega
  have o1 : 1 ≤ o := by omega
  have u1 : 1 ≤ u := by omega
  have k1 : 1 ≤ k := by omega
  have n1 : 1 ≤ n := by omega
  have o2 : o ≤ 1000 := by omega
  have u2 : u ≤ 1000 := by omega
  have k2 : k ≤ 900 := by omega
  have n2 : n ≤ 65536 := by omega
  obtain ⟨X, hX⟩ : ∃ X, k * o = X := ⟨_, rfl⟩
  obtain ⟨Y, hY⟩ : ∃ Y, k * u = Y := ⟨_, rfl⟩
  have hXI := mulN hX
  have hYI := mulN hY
  have X1 : 1 ≤ X := by rw [← hX]; exact Nat.mul_pos k1 o1
  have Y1 : 1 ≤ Y := by rw [← hY]; exact Nat.mul_pos k1 u1
  have X2 : X ≤ 900000 := by rw [← hX]; exact Nat.le_trans (Nat.mul_le_mul k2 o2) (by decide)
  have Y2 : Y ≤ 900000 := by rw [← hY]; exact Nat.le_trans (Nat.mul_le_mul k2 u2) (by decide)
  have hN2 : NearI X Y n p q := by rw [← hX, ← hY]; exact hN.scale k1
  have h1 := Lib.hid (fun W => termsAt o u L T hT hL o1 (by omega) u1 (by omega) W)
  have h2 := Lib.hid (fun W => termsAt X Y L T (by rw [← hX, ← hY, trm_mul k1, hT]) hL X1 (by omega) Y1 (by omega) W)
  have h3 := Lib.hid (fun W => termsAt u o M R hR hM u1 (by omega) o1 (by omega) W)
  have h4 := Lib.hid (fun W => nearP_good o u n p q W o1 (by omega) u1 (by omega) n1 (by omega) hN)
  have h5 := Lib.hid (fun W => nearP_good X Y n p q W X1 (by omega) Y1 (by omega) n1 (by omega) hN2)
  have hLl : L ≤ 1000 := by rw [← hL, ← hT]; exact Nat.le_trans (trm_length o u) u2
  have hMl : M ≤ 1000 := by rw [← hM, ← hR]; exact Nat.le_trans (trm_length u o) o2
  have hL1 : 1 ≤ L := by rw [← hL, ← hT]; exact List.length_pos_iff.2 (trm_ne u1)
  have hM1 : 1 ≤ M := by rw [← hM, ← hR]; exact List.length_pos_iff.2 (trm_ne o1)
  have hsm : Hid (∀ (P : List Nat) (K : Nat), P.length = K → K ≤ 1000 → ∀ (a b : Option Addr) (c c2 : Nat) (W : World), IZ W a (nzT P) → IZ W b (nzT P) → Calls Try.prog 24 #[.slice a K c, .slice b K c2] W (RetB W true)) := fun P K hK hl a b c c2 W h1 h2 =>
    same_any a b c c2 K K _ _ true W h1 h2 (by rw [nzT_length, hK]) (by rw [nzT_length, hK]) (by omega) (by omega) (by unfold sameB; simp)
  have hLH := Lib.hid hL
  have hMH := Lib.hid hM
  have hTH := Lib.hid hT
  have hRH := Lib.hid hR
  have eL : ((L : Int) == 0) = false := by simp; omega
  have eM : ((M : Int) == 0) = false := by simp; omega
  have eL2 : (L == 0) = false := by simp; omega
  have eM2 : (M == 0) = false := by simp; omega
  have ep : ((p : Int) != (p : Int)) = false := by simp
  have eq : ((q : Int) != (q : Int)) = false := by simp
  clear hA hB hC ho hu hk hn hX hY hN hN2 hT hR hL hM
  go_enter Try.func14, Try.ntmps14
  go_upto_region 1 with (fail)
  obtain ⟨W0, hW0⟩ : ∃ W0, W0 = w.alloc (Obj.cells #[.int .u16 (x : Nat), .int .u16 (y : Nat)] 70) := ⟨_, rfl⟩
  rw [← hW0]
  have x0 : W0.cell? ⟨w.heap.size, 0, none⟩ = some (.int .u16 (x : Nat)) := by rw [hW0, al_newT rfl]; rfl
  have x1 : W0.cell? ⟨w.heap.size, 1, none⟩ = some (.int .u16 (y : Nat)) := by rw [hW0, al_newT rfl]; rfl
  have hb0 : Hid (Below w.heap.size w W0) := by show Below _ _ _; rw [hW0]; exact below_al (Below.refl _ _) _
  clear hW0
  go_quiet (fail)
  obtain ⟨W1, hW1⟩ : ∃ W1, W1 = W0.drewN nq := ⟨_, rfl⟩
  rw [← hW1]
  have hb1 : Hid (Below w.heap.size w W1) := by show Below _ _ _; rw [hW1]; exact bdn hb0.out
  clear hW1 x0 x1 hb0
  go_upto_region 11 with (first
    | (go_at_call 21; (with_reducible refine (h1.out _).mono ?_); rintro e1 w2 ⟨g2, c2, rfl, hc2, hI, hb⟩; have hI2 := Lib.hid hI; have hb2 := Lib.hid hb; clear hI hb)
    | (go_at_call 21; (with_reducible refine (h2.out _).mono ?_); rintro e1 w3 ⟨g3, c3, rfl, hc3, hI, hb⟩; have hI3 := Lib.hid hI; have hb3 := Lib.hid hb; clear hI hb)
    | (go_at_call 21; (with_reducible refine (h3.out _).mono ?_); rintro e1 w4 ⟨g4, c4, rfl, hc4, hI, hb⟩; have hI4 := Lib.hid hI; have hb4 := Lib.hid hb; clear hI hb)
    | (go_at_call 26; (with_reducible refine (h4.out _).mono ?_); rintro e1 w5 ⟨rfl, hb⟩; have hb5 := Lib.hid hb; clear hb)
    | (go_at_call 26; (with_reducible refine (h5.out _).mono ?_); rintro e1 w6 ⟨rfl, hb⟩; have hb6 := Lib.hid hb; clear hb)
    | (go_at_call 24; (with_reducible refine (hsm.out T L hLH.out hLl _ _ _ _ _ (hI2.out.below (bseqT hb3.out (bseqT hb4.out (bseqT hb5.out hb6.out)))) (hI3.out.below (bseqT hb4.out (bseqT hb5.out hb6.out)))).mono ?_); rintro e1 w7 ⟨rfl, hb⟩; have hb7 := Lib.hid hb; clear hb)
    | (go_at_call 23; (with_reducible refine (lives_any _).mono ?_); rintro e1 w8 ⟨rfl, hb⟩; have hb8 := Lib.hid hb; clear hb))
  have hbA := Lib.hid (bseqT hb5.out (bseqT hb6.out (bseqT hb7.out hb8.out)))
  have hI2' := Lib.hid (hI2.out.below (bseqT hb3.out (bseqT hb4.out hbA.out)))
  have hI4' := Lib.hid (hI4.out.below hbA.out)
  have hbw := Lib.hid (bseqT hb1.out (bseqT hb2.out (bseqT hb3.out (bseqT hb4.out hbA.out))))
  have hc2I : (1 : Int) ≤ (c2 : Int) := by omega
  have hc4I : (1 : Int) ≤ (c4 : Int) := by omega
  have hL1I : (1 : Int) ≤ (L : Int) := by omega
  have hM1I : (1 : Int) ≤ (M : Int) := by omega
  have hLc : (L : Int) ≤ (c2 : Int) := by omega
  have hMc : (M : Int) ≤ (c4 : Int) := by omega
  have hL0 : (0 : Int) < (L : Int) := by omega
  have hM0 : (0 : Int) < (M : Int) := by omega
  clear h1 h2 h3 h4 h5 hI2 hI3 hI4 hb1 hb2 hb3 hb4 hb5 hb6 hb7 hb8 hbA
  rcases Nat.lt_trichotomy o u with hou | hou | hou
  · have houI : (o : Int) < (u : Int) := by omega
    have k1 : decide ((o : Int) < (u : Int)) = true := decide_eq_true houI
    have k3 : decide (o < u) = true := decide_eq_true hou
    have hTR : T = 0 :: R := by rw [← hTH.out, ← hRH.out]; exact trm_lt hou
    have hLM : L - 1 = M := by rw [← hLH.out, ← hMH.out, hTR]; rfl
    have d1 := hI2'.out.drop 1
    have e1 : (nzT T).drop 1 = nzT R := by rw [hTR]; rfl
    rw [e1] at d1
    have d1H := Lib.hid d1
    have c0 := iz_cell hI2'.out (i := 0) (x := 0) (by rw [hLH.out]; omega) (by rw [hTR]; rfl)
    have hTRH := Lib.hid hTR
    clear d1 e1 hTR
    go_wp2_with (first
      | (go_at_call 24; (refine (hsm.out R M hMH.out hMl _ _ _ _ _ d1H.out hI4'.out).mono ?_); rintro e1 w9 ⟨rfl, hb⟩; have hb9 := Lib.hid hb; clear hb))
    go_ret
    exact ⟨rfl, bseqT hbw.out hb9.out⟩
  · have hTe : T = [1] := by rw [← hTH.out, hou]; exact trm_self u1
    have hRe : R = [1] := by rw [← hRH.out, hou]; exact trm_self u1
    have hLe : L = 1 := by rw [← hLH.out, hTe]; rfl
    have hMe : M = 1 := by rw [← hMH.out, hRe]; rfl
    have k1 : decide ((o : Int) < (u : Int)) = false := decide_eq_false (by omega)
    have k3 : decide (o < u) = false := decide_eq_false (by omega)
    have k4 : decide ((u : Int) < (o : Int)) = false := decide_eq_false (by omega)
    have k5 : decide (u < o) = false := decide_eq_false (by omega)
    have hs1 : Hid (∀ (a b : Option Addr) (c c2 : Nat) (W : World), IZ W a (nzT T) → IZ W b [1] → Calls Try.prog 24 #[.slice a L c, .slice b 1 c2] W (RetB W true)) := fun a b c c2 W h1 h2 =>
      same_any a b c c2 L 1 _ _ true W h1 h2 (by rw [nzT_length, hTe, hLe]; rfl) rfl (by omega) (by omega) (by rw [hTe]; decide)
    have hs2 : Hid (∀ (a b : Option Addr) (c c2 : Nat) (W : World), IZ W a (nzT R) → IZ W b (nzT T) → Calls Try.prog 24 #[.slice a M c, .slice b L c2] W (RetB W true)) := fun a b c c2 W h1 h2 =>
      same_any a b c c2 M L _ _ true W h1 h2 (by rw [nzT_length, hRe, hMe]; rfl) (by rw [nzT_length, hTe, hLe]; rfl) (by omega) (by omega) (by rw [hTe, hRe]; decide)
    clear hou hLe hMe hTe hRe hsm hTH hRH hLH hMH
    go_wp2_with (first
      | (go_at_call 24; (with_reducible refine (hs1.out _ _ _ _ (w8.alloc _) (hI2'.out.below (below_al (Below.refl _ _) _)) (lit1T w8 1)).mono ?_); rintro e1 w9 ⟨rfl, hb⟩; have hb9 := Lib.hid (bseqT (below_al (Below.refl _ _) _) hb); clear hb)
      | (go_at_call 24; (with_reducible refine (hs2.out _ _ _ _ _ (hI4'.out.below hb9.out) (hI2'.out.below hb9.out)).mono ?_); rintro e1 w10 ⟨rfl, hb⟩; have hb10 := Lib.hid hb; clear hb))
    go_ret
    exact ⟨rfl, bseqT hbw.out (bseqT hb9.out hb10.out)⟩
  · have houI : (u : Int) < (o : Int) := by omega
    have houI2 : ¬ (o : Int) < (u : Int) := by omega
    have k1 : decide ((o : Int) < (u : Int)) = false := decide_eq_false houI2
    have k3 : decide (o < u) = false := decide_eq_false (by omega)
    have k4 : decide ((u : Int) < (o : Int)) = true := decide_eq_true houI
    have k5 : decide (u < o) = true := decide_eq_true hou
    have hTR : R = 0 :: T := by rw [← hTH.out, ← hRH.out]; exact trm_lt hou
    have hLM : M - 1 = L := by rw [← hLH.out, ← hMH.out, hTR]; rfl
    have d1 := hI4'.out.drop 1
    have e1 : (nzT R).drop 1 = nzT T := by rw [hTR]; rfl
    rw [e1] at d1
    have d1H := Lib.hid d1
    have c0 := iz_cell hI4'.out (i := 0) (x := 0) (by rw [hMH.out]; omega) (by rw [hTR]; rfl)
    have hTRH := Lib.hid hTR
    clear d1 e1 hTR
    go_wp2_with (first
      | (go_at_call 24; (refine (hsm.out T L hLH.out hLl _ _ _ _ _ d1H.out hI2'.out).mono ?_); rintro e1 w9 ⟨rfl, hb⟩; have hb9 := Lib.hid hb; clear hb))
    go_ret
    exact ⟨rfl, bseqT hbw.out hb9.out⟩
theorem scaLaw_any (x y z m : Nat) (w : World) (hx : x < 65536) (hy : y < 65536) (hz : z < 256) (hm : m < 65536) :
    Calls Try.prog 14 #[.agg #[.int .u16 (x : Nat), .int .u16 (y : Nat)], .int .u8 (z : Nat), .int .u16 (m : Nat)] w (RetB w true) := by
  obtain ⟨p, q, hN⟩ := nearI_ex (o := x % 1000 + 1) (u := y % 1000 + 1) (m := m + 1) (by omega)
  exact scaLaw_at x y z m _ _ _ _ _ _ _ _ _ p q _ _ w hx hy hz hm rfl rfl rfl rfl rfl rfl rfl rfl rfl rfl rfl hN
end Go.Proofs.Ytbehfhmdilifkaa
