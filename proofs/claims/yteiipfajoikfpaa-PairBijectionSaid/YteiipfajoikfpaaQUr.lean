/- Ur -/
import Derived.Test.YteiipfajoikfpaaQUq
import Derived.Test.YteiipfajoikfpaaQUo
set_option linter.unusedVariables false
/- Walk of PairBijection. -/
namespace Go.Proofs.Yteiipfajoikfpaa
open Go Go.RowKit Go.Proofs

theorem first_diff {l m : List Nat} {j a b : Nat} (h : l < m) (ht : l.take j = m.take j) (ha : l[j]? = some a) (hb : m[j]? = some b) (hne : a ≠ b) : a < b := by
  rcases Nat.lt_or_gt_of_ne hne with h1 | h1
  · exact h1
  · have hl : l.take j ++ [a] <+: l := by rw [← take_lastX ha]; exact List.take_prefix _ _
    have hm : l.take j ++ [b] <+: m := by rw [ht, ← take_lastX hb]; exact List.take_prefix _ _
    exact absurd (lt_of_prefix h1 hm hl) (List.lt_asymm h)
theorem sorted_next {L : List (List Nat)} (h : L.Pairwise (· < ·)) {i : Nat} {p q : List Nat} (hp : L[i]? = some p) (hq : L[i + 1]? = some q) : p < q := by
  obtain ⟨h1, e1⟩ := List.getElem?_eq_some_iff.1 hp
  obtain ⟨h2, e2⟩ := List.getElem?_eq_some_iff.1 hq
  have := List.pairwise_iff_getElem.1 h i (i + 1) h1 h2 (by omega)
  rw [e1, e2] at this; exact this
theorem at_one (ao : Option Addr) (c n R : Nat) (C : List (List Int)) (z : Int) (p : List Nat) (w : World) (h : IMx w ao C) (hg : goodC C) (hn : C.length = n) (hR : (alwN (upA C z) n)[R]? = some p) :
    Calls Try.prog 27 #[.slice ao n c, .int .i64 z, .int .i64 (R : Nat)] w (fun e w' => ∃ g o c, e = .returned (.tuple #[.slice (some ⟨g, o, none⟩) n c, .int .i64 0]) ∧ n ≤ c ∧ IZ w' (some ⟨g, o, none⟩) (nz p) ∧ Below w.heap.size w w') :=
  (at_good ao c n R C z w h hg hn (List.getElem?_eq_some_iff.1 hR).1).mono fun e w' ⟨l, g, o, c, h1, h2, he, hc, hI, hb⟩ => by
    rw [hR] at h1
    injection h1 with h1
    subst h1
    exact ⟨g, o, c, he, hc, hI, hb⟩
set_option maxRecDepth 100000 in
set_option maxHeartbeats 25600000 in
theorem bijLaw_any (n0 lx cx y0 y1 : Nat) (ax : Option Addr) (xs : List Nat) (w : World) (hx : Dg .u16 w ax xs) (hl : xs.length = lx) (hl2 : lx ≤ 9223372036854775807) (hb : ∀ x ∈ xs, x < 65536) (hn : n0 < 256) (hy0 : y0 < 65536) (hy1 : y1 < 65536) :
    Calls Try.prog 13 #[.int .u8 (n0 : Nat), .slice ax lx cx, .agg #[.int .u16 (y0 : Nat), .int .u16 (y1 : Nat)]] w (RetB w true) := by
  have hmade := Lib.hid (fun W (hbW : Below w.heap.size w W) => made8_any n0 lx cx 9 ax xs W (hx.below hbW) hl hl2 hb hn (by omega))
  obtain ⟨z, hz⟩ : ∃ z, y0 % 11 = z := ⟨_, rfl⟩
  have hz31 : z < 11 := by omega
  have t1 : ((y0 : Int)).tmod 11 = (z : Int) := by rw [← hz]; exact (Int.ofNat_tmod y0 11).symm
  have t2 : ((y0 : Int)) % 11 = (z : Int) := by omega
  clear hx hl hl2 hb hn hz
  go_enter Try.func13, Try.ntmps13
  go_upto_region 1 with (fail)
  obtain ⟨V, hV⟩ : ∃ V, V = w.alloc (Obj.cells #[.int .u16 (y0 : Nat), .int .u16 (y1 : Nat)] 66) := ⟨_, rfl⟩
  rw [← hV]
  have c0 : V.cell? ⟨w.heap.size, 0, none⟩ = some (.int .u16 (y0 : Nat)) := by rw [hV, al_new rfl]; rfl
  have c1 : V.cell? ⟨w.heap.size, 1, none⟩ = some (.int .u16 (y1 : Nat)) := by rw [hV, al_new rfl]; rfl
  have hbV : Hid (Below w.heap.size w V) := by show Below _ _ _; rw [hV]; exact below_al (Below.refl _ _) _
  have c0H := Lib.hid c0
  have c1H := Lib.hid c1
  clear hV c0 c1
  go_upto_region 2 with (first
    | (go_at_call 29; go_loud (with_reducible refine (hmade.out _ hbV.out).mono ?_); rintro e w1 ⟨C, a1, d1, k, rfl, hC, hg, hk8, hmo, hM, hd1, hb1⟩; have hCH := Lib.hid hC; have hgH := Lib.hid hg; have hMH := Lib.hid hM; have hb1H := Lib.hid hb1; clear hmo hM hb1))
  have hk1 : 0 < k := by rw [← hC]; exact hg.1
  have c0 := Below.cellAt hb1H.out (Nat.le_refl _) c0H.out
  have c1 := Lib.hid (Below.cellAt hb1H.out (Nat.le_refl _) c1H.out)
  obtain ⟨L, hL⟩ : ∃ L, alwN (upA C (z : Int)) k = L := ⟨_, rfl⟩
  obtain ⟨t, ht⟩ : ∃ t, L.length = t := ⟨_, rfl⟩
  have hts : t ≤ 16777216 := by
    rw [← ht, ← hL, ← alP_filter hk1]
    exact Nat.le_trans (List.length_filter_le ..) (Nat.le_trans (allP_le k k []) (pow_small hk8 hk8))
  have hsrt := Lib.hid (show L.Pairwise (· < ·) by rw [← hL]; exact alwN_sorted _ _)
  have hmemL := Lib.hid (show ∀ q, q ∈ L ↔ Pr k q ∧ Ok (upA C (z : Int)) q by intro q; rw [← hL]; exact mem_alwN)
  have hLH := Lib.hid hL
  have htH := Lib.hid ht
  have hnoH : Hid ((t : Int) < 0 ∨ (((alwN (upA C (z : Int)) k).length : Nat) : Int) ≤ (t : Int)) := by show _ ∨ _; right; rw [hL, ht]; exact Int.le_refl _
  have htn : ¬ (t : Int) < 0 := by omega
  have htnB : decide ((t : Int) < 0) = false := by simp
  clear hC hg hL ht c0H c1H hmade
  go_upto_region 9 with (first
    | (go_at_call 26; go_loud (with_reducible refine (count_good a1 d1 k C (z : Int) _ hMH.out hgH.out hCH.out).mono ?_); rintro e w2 ⟨he, hb2⟩; rw [hLH.out, htH.out] at he; subst he; have hb2H := Lib.hid hb2; have hM2 := Lib.hid (hMH.out.below hb2); clear hb2)
    | (go_at_call 21; go_loud (with_reducible refine (lives_any _).mono ?_); rintro e w3 ⟨rfl, hb3⟩; have hb3H := Lib.hid hb3; have hM3 := Lib.hid (hM2.out.below hb3); clear hb3)
    | (go_at_call 27; go_loud (with_reducible refine (at_none a1 d1 k C (z : Int) (t : Int) _ hM3.out hgH.out hCH.out hnoH.out).mono ?_); rintro e w4 ⟨rfl, hb4⟩; have hM4 := Lib.hid (hM3.out.below hb4); have hb4H := Lib.hid hb4; clear hb4))
  have hw4 := Lib.hid (bseqJ hbV.out (bseqJ hb1H.out (bseqJ hb2H.out (bseqJ hb3H.out hb4H.out))))
  have c2 : w4.cell? ⟨w.heap.size, 1, none⟩ = some (.int .u16 (y1 : Nat)) := Below.cellAt (bseqJ hb2H.out (bseqJ hb3H.out hb4H.out)) (Nat.le_refl _) c1.out
  clear c0 c1 hM2 hM3 hMH hbV hb1H hb2H hb3H hb4H hnoH
  by_cases ht0 : t = 0
  · subst ht0
    go_wp2_with (fail)
    go_ret
    exact ⟨rfl, hw4.out⟩
  · have ht0I : ((t : Int) == 0) = false := by simp; omega
    have ht0J : ¬ (t : Int) = 0 := by omega
    have ht0K : ¬ t = 0 := ht0
    obtain ⟨R, hR⟩ : ∃ R, y1 % t = R := ⟨_, rfl⟩
    have hRt : R < t := by rw [← hR]; exact Nat.mod_lt _ (by omega)
    have t3 : ((y1 : Int)).tmod (t : Int) = (R : Int) := by rw [← hR]; exact (Int.ofNat_tmod y1 t).symm
    have t4 : ((y1 : Int)) % (t : Int) = (R : Int) := by rw [← hR]; exact (Int.natCast_emod y1 t).symm
    obtain ⟨p, hp⟩ : ∃ p, L[R]? = some p := ⟨_, List.getElem?_eq_getElem (by rw [htH.out]; exact hRt)⟩
    have hpm := (hmemL.out p).1 (List.mem_of_getElem? hp)
    have hpr := hpm.1
    have hpA := Lib.hid (show (alwN (upA C (z : Int)) k)[R]? = some p by rw [hLH.out]; exact hp)
    obtain ⟨v, hv⟩ : ∃ v, mxP C p = v := ⟨_, rfl⟩
    have hvz : v ≤ (z : Int) := by rw [← hv]; exact (ok_up (hpr.ne hk1)).1 hpm.2
    have hvzB : decide ((z : Int) < v) = false := by simp; omega
    obtain ⟨fs, hfs'⟩ : ∃ fs, fall (pcs C p) = fs := ⟨_, rfl⟩
    have hfl : Hid (fs.length = k) := by show _ = _; rw [← hfs', fall_length, pcs_length]; exact hpr.len
    have hf0 : Hid (at0 fs 0 = v) := by show _ = _; rw [← hv, ← hfs']; rfl
    have hfs := Lib.hid hfs'
    have hpB := Lib.hid (pr_pairB hpr)
    have hzl : Hid ((nz p).length = k) := by show _ = _; rw [nz_length]; exact hpr.len
    have hkI : (0 : Int) < (k : Int) := by omega
    have hpH := Lib.hid hp
    have hprH := Lib.hid hpr
    have hRR : ((R : Int) != (R : Int)) = false := by simp
    clear hR hp hpm hpr hv hfs'
    go_upto_region 16 with (first
      | (go_at_call 27; go_loud (with_reducible refine (at_one a1 d1 k R C (z : Int) p _ hM4.out hgH.out hCH.out hpA.out).mono ?_); rintro e w5 ⟨g5, o5, c5, rfl, hc5, hI5, hb5⟩; have hM5 := Lib.hid (hM4.out.below hb5); have hI5H := Lib.hid hI5; have hb5H := Lib.hid hb5; clear hb5 hI5)
      | (go_at_call 42; go_loud (with_reducible refine (rank_at a1 (some ⟨g5, o5, none⟩) d1 k c5 R C (z : Int) p _ hM5.out hgH.out hCH.out hI5H.out hpA.out).mono ?_); rintro e w6 ⟨rfl, hb6⟩; have hM6 := Lib.hid (hM5.out.below hb6); have hI6 := Lib.hid (hI5H.out.below hb6); have hb6H := Lib.hid hb6; clear hb6)
      | (go_at_call 31; go_loud (with_reducible refine (pairingR_any (some ⟨g5, o5, none⟩) c5 k k (nz p) true _ hI6.out hzl.out hc5 (by omega) (by omega) hpB.out).mono ?_); rintro e w7 ⟨rfl, hb7⟩; have hb7H := Lib.hid hb7; have hM7 := Lib.hid (hM6.out.below hb7); have hI7 := Lib.hid (hI6.out.below hb7); clear hb7)
      | (go_at_call 32; go_loud (with_reducible refine (falling_any a1 _ d1 c5 k C p fs _ hM7.out hI7.out hgH.out hCH.out hprH.out hfs.out).mono ?_); rintro e w8 hR; go_loud (obtain ⟨a8, d8, rfl, hI8, hd8, hb8⟩ := hR); go_loud (rw [hfl.out]); have hb8H := Lib.hid hb8; have hM8 := Lib.hid (hM7.out.below hb8); have hI9 := Lib.hid (hI7.out.below hb8); go_loud (obtain ⟨g8, o8, rfl, e8⟩ := hI8.at (i := 0) (by rw [hfl.out]; exact hk1)); rw [hf0.out, Nat.add_zero] at e8; go_loud (clear hI8 hb8)))
    have hw8 := Lib.hid (bseqJ hw4.out (bseqJ hb5H.out (bseqJ hb6H.out (bseqJ hb7H.out hb8H.out))))
    clear hM4 hM5 hM6 hM7 hI5H hI6 hI7 hb5H hb6H hb7H hb8H hw4 c2 e8 t3 t4
    by_cases hR1 : R + 1 = t
    · have hR1I : (R : Int) + 1 = (t : Int) := by omega
      go_wp2_with (fail)
      go_ret
      exact ⟨rfl, hw8.out⟩
    · have hR1I : ((R : Int) + 1 == (t : Int)) = false := by rw [beq_eq_false_iff_ne]; omega
      have hR1J : ¬ (R : Int) + 1 = (t : Int) := by omega
      obtain ⟨S, hS⟩ : ∃ S, R + 1 = S := ⟨_, rfl⟩
      have hSI : (R : Int) + 1 = (S : Int) := by omega
      have hSt : S < t := by omega
      have hSt2 : ((S : Int) == (t : Int)) = false := by rw [beq_eq_false_iff_ne]; omega
      have hSt3 : ¬ (S : Int) = (t : Int) := by omega
      obtain ⟨q, hq⟩ : ∃ q, L[S]? = some q := ⟨_, List.getElem?_eq_getElem (by rw [htH.out]; exact hSt)⟩
      have hqr := ((hmemL.out q).1 (List.mem_of_getElem? hq)).1
      have hqA := Lib.hid (show (alwN (upA C (z : Int)) k)[S]? = some q by rw [hLH.out]; exact hq)
      have hlt : Hid (p < q) := sorted_next hsrt.out hpH.out (by rw [hS]; exact hq)
      have hlp := Lib.hid hprH.out.len
      have hlq := Lib.hid hqr.len
      have hkk : ((k : Int) != (k : Int)) = false := by simp
      clear hq hqr hS hR1 hR1I hR1J
      go_upto_region 21 with (first
        | (go_at_call 27; go_loud (with_reducible refine (at_one a1 d1 k S C (z : Int) q _ hM8.out hgH.out hCH.out hqA.out).mono ?_); rintro e w9 ⟨g9, o9, c9, rfl, hc9, hIq, hb9⟩; have hIqH := Lib.hid hIq; have hb9H := Lib.hid hb9; clear hb9 hIq))
      have hIp := Lib.hid (hI9.out.below hb9H.out)
      have hw9 := Lib.hid (bseqJ hw8.out hb9H.out)
      clear hI9 hb9H hw8 hM8
      go_wp2_with (fail)
      go_loopg [20] k (fun gk jv wr => ∃ j : Nat, jv = .int .i64 (j : Nat) ∧ j + gk = k ∧ p.take j = q.take j ∧ Below w9.heap.size w9 wr)
      case atStart => exact ⟨0, rfl, by omega, by simp, Below.refl _ _⟩
      case round =>
        obtain ⟨j, rfl, hj, heq, hbl⟩ := hrel
        have heqH := Lib.hid heq
        have hblH := Lib.hid hbl
        clear heq hbl
        by_cases hjk : j < k
        · obtain ⟨g1, rfl⟩ : ∃ g1, gk = g1 + 1 := ⟨gk - 1, by omega⟩
          obtain ⟨a, ha⟩ : ∃ a, p[j]? = some a := ⟨_, List.getElem?_eq_getElem (by rw [hlp.out]; exact hjk)⟩
          obtain ⟨b, hb⟩ : ∃ b, q[j]? = some b := ⟨_, List.getElem?_eq_getElem (by rw [hlq.out]; exact hjk)⟩
          obtain ⟨b1, o1, hao1, e1⟩ := (hIp.out.below hblH.out) j _ (nz_get ha)
          injection hao1 with hao1
          injection hao1 with q1 q2
          subst q1 q2
          obtain ⟨b2, o2, hao2, e2⟩ := (hIqH.out.below hblH.out) j _ (nz_get hb)
          injection hao2 with hao2
          injection hao2 with q1 q2
          subst q1 q2
          have hjI : (j : Int) < (k : Int) := by omega
          have hj0 : (0 : Int) ≤ (j : Int) := by omega
          have haH := Lib.hid ha
          have hbH := Lib.hid hb
          clear ha hb
          by_cases hab : a = b
          · subst hab
            have haa : ((a : Int) != (a : Int)) = false := by simp
            go_upto_region 24 with (fail)
            go_quiet (fail)
            go_wp2_with (fail)
            go_roundg g1
            case measure => omega
            case rel => exact ⟨j + 1, by go_num, by omega, by rw [take_lastX haH.out, take_lastX hbH.out, heqH.out], bdn hblH.out⟩
          · have hlt2 := first_diff hlt.out heqH.out haH.out hbH.out hab
            have hne1 : ((a : Int) != (b : Int)) = true := by simp; omega
            have hne2 : ((a : Int) == (b : Int)) = false := by rw [beq_eq_false_iff_ne]; omega
            have hne3 : ¬ (a : Int) = (b : Int) := by omega
            have hltI : decide ((a : Int) < (b : Int)) = true := by simp; omega
            have hltN : decide (a < b) = true := by simp; omega
            go_upto_region 24 with (fail)
            go_quiet (fail)
            obtain ⟨W, hW⟩ : ∃ W, W = wr.drewN nq := ⟨_, rfl⟩
            rw [← hW]
            have e3 : W.cell? ⟨g5, o5 + j, none⟩ = some (.int .i64 (a : Nat)) := by rw [hW]; exact e1
            have e4 : W.cell? ⟨g9, o9 + j, none⟩ = some (.int .i64 (b : Nat)) := by rw [hW]; exact e2
            have hbW := Lib.hid (show Below w9.heap.size w9 W by rw [hW]; exact bdn hblH.out)
            clear hW e1 e2
            go_upto_region 25 with (fail)
            go_quiet (fail)
            go_wp2_with (fail)
            go_ret
            exact ⟨rfl, bseqJ hw9.out (bdn hbW.out)⟩
        · exfalso
          have hjk2 : j = k := by omega
          have h1 := heqH.out
          rw [List.take_of_length_le (by rw [hlp.out]; omega), List.take_of_length_le (by rw [hlq.out]; omega)] at h1
          have h2 := hlt.out
          rw [h1] at h2
          exact List.lt_irrefl _ h2
end Go.Proofs.Yteiipfajoikfpaa
