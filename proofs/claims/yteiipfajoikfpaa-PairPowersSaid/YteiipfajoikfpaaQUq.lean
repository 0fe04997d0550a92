/- Uq -/
import Derived.Test.YteiipfajoikfpaaQUp
import Derived.Test.YteiipfajoikfpaaQUl
import Derived.Test.YteiipfajoikfpaaQUe
import Derived.Test.YteiipfajoikfpaaQUn
import Derived.Test.YteiipfajoikfpaaQPh
set_option linter.unusedVariables false
/- Walk of PairHall. -/
namespace Go.Proofs.Yteiipfajoikfpaa
open Go Go.RowKit Go.Proofs

theorem made8_any (n0 lx cx : Nat) (mo : Int) (ax : Option Addr) (xs : List Nat) (w : World) (hx : Dg .u16 w ax xs) (hl : xs.length = lx) (hl2 : lx ≤ 9223372036854775807) (hb : ∀ x ∈ xs, x < 65536) (hn : n0 < 256) (hmo : 0 ≤ mo ∧ mo ≤ 1000) :
    Calls Try.prog 29 #[.int .u8 (n0 : Nat), .slice ax lx cx, .int .i64 8, .int .i64 mo] w (MadePost 8 mo w) := by
  obtain ⟨m, rfl⟩ : ∃ m : Nat, mo = (m : Int) := ⟨mo.toNat, by omega⟩
  exact made_anyJ n0 lx cx 8 m ax xs w hx hl hl2 hb hn (by omega) (by omega) (by omega)
theorem mxP_in {C : List (List Int)} {n : Nat} {p : List Nat} (hg : goodC C) (hn : C.length = n) (hp : Pr n p) (h0 : 0 < n) : 0 ≤ mxP C p ∧ mxP C p ≤ 1000 := by
  have hne : pcs C p ≠ [] := pcs_ne hp h0
  have hm : mxP C p ∈ pcs C p := mxL_mem hne
  obtain ⟨i, hi⟩ := List.mem_iff_getElem?.1 hm
  rw [pcs_get] at hi
  obtain ⟨j, hj, e⟩ := Option.map_eq_some_iff.1 hi
  have h1 := (List.getElem?_eq_some_iff.1 hj).1
  rw [hp.len] at h1
  have h2 := hp.lt j (List.mem_of_getElem? hj)
  rw [← e]
  exact ⟨hg.lo hn i j h1 h2, hg.hi hn i j h1 h2⟩
/-- What Worst says of the limits. -/
theorem worst_ok {C : List (List Int)} {n : Nat} {p : List Nat} {z : Int} (h0 : 0 < n) (hp : Best (byI (mxP C)) (allN n) p) : (∃ q, Pr n q ∧ Ok (upA C z) q) ↔ mxP C p ≤ z := by
  constructor
  · rintro ⟨q, hq, hok⟩
    have h1 := hp.low q (mem_allN.2 hq)
    have h2 : mxP C q ≤ z := (ok_up (hq.ne h0)).1 hok
    unfold byI at h1; omega
  · intro h
    have hq := mem_allN.1 hp.mem
    exact ⟨p, hq, (ok_up (hq.ne h0)).2 h⟩
theorem alwN_pos {A : Nat → Nat → Bool} {n : Nat} : 0 < (alwN A n).length ↔ ∃ p, Pr n p ∧ Ok A p := by
  rw [List.length_pos_iff_exists_mem]
  exact ⟨fun ⟨p, hp⟩ => ⟨p, mem_alwN.1 hp⟩, fun ⟨p, hp⟩ => ⟨p, mem_alwN.2 hp⟩⟩
theorem worst_at (ao : Option Addr) (c n : Nat) (C : List (List Int)) (w : World) (h : IMx w ao C) (hg : goodC C) (hn : C.length = n) {p : List Nat} {v : Int} (hp : Best (byI (mxP C)) (allN n) p) (hv : mxP C p = v) :
    Calls Try.prog 30 #[.slice ao n c] w (fun e w' => ∃ g o c, e = .returned (.tuple #[.slice (some ⟨g, o, none⟩) n c, .int .i64 v, .int .i64 0]) ∧ n ≤ c ∧ IZ w' (some ⟨g, o, none⟩) (nz p) ∧ Below w.heap.size w w') :=
  (worst_good ao c n C w h hg hn).mono fun e w' ⟨l, g, o, c, u, hB, hu, he, hc, hI, hb⟩ => by
    have e1 := hB.unique hp
    subst e1
    have e2 := hu.symm.trans hv
    subst e2
    exact ⟨g, o, c, he, hc, hI, hb⟩
theorem any_takeJ {P : Nat → Bool} {S : List Nat} {i x : Nat} (h : S[i]? = some x) : (S.take (i + 1)).any P = ((S.take i).any P || P x) := by rw [take_lastX h]; simp
set_option maxRecDepth 100000 in
set_option maxHeartbeats 25600000 in
theorem hallLaw_any (n0 lx cx lim : Nat) (ax : Option Addr) (xs : List Nat) (w : World) (hx : Dg .u16 w ax xs) (hl : xs.length = lx) (hl2 : lx ≤ 9223372036854775807) (hb : ∀ x ∈ xs, x < 65536) (hn : n0 < 256) (hlim : lim < 65536) :
    Calls Try.prog 6 #[.int .u8 (n0 : Nat), .slice ax lx cx, .int .u16 (lim : Nat)] w (RetB w true) := by
  have hmade := Lib.hid (made8_any n0 lx cx 30 ax xs w hx hl hl2 hb hn (by omega))
  obtain ⟨z, hz⟩ : ∃ z, lim % 31 = z := ⟨_, rfl⟩
  have hz31 : z < 31 := by omega
  have t1 : ((lim : Int)).tmod 31 = (z : Int) := by rw [← hz]; exact (Int.ofNat_tmod lim 31).symm
  have t2 : ((lim : Int)) % 31 = (z : Int) := by omega
  clear hx hl hl2 hb hn hz
  go_enter Try.func6, Try.ntmps6
  go_upto_region 2 with (first
    | (go_at_call 29; go_loud (with_reducible refine hmade.out.mono ?_); rintro e w1 ⟨C, a1, d1, k, rfl, hC, hg, hk8, hmo, hM, hd1, hb1⟩; have hCH := Lib.hid hC; have hgH := Lib.hid hg; have hMH := Lib.hid hM; have hb1H := Lib.hid hb1; clear hmo hM hb1))
  have hk1 : 0 < k := by rw [← hC]; exact hg.1
  obtain ⟨p, hp⟩ := best_exJ (mxP C) k
  obtain ⟨v, hv⟩ : ∃ v, mxP C p = v := ⟨_, rfl⟩
  have hpr := mem_allN.1 hp.mem
  obtain ⟨v0, v1⟩ := mxP_in hg hC hpr hk1
  rw [hv] at v0 v1
  have hno1 := worst_ok (z := v - 1) hk1 hp
  have hno2 := worst_ok (z := v) hk1 hp
  have hno3 := worst_ok (z := (z : Int)) hk1 hp
  rw [hv] at hno1 hno2 hno3
  rw [hall] at hno1 hno2
  obtain ⟨p1, hp1⟩ : ∃ p1, LeastL (upA C (v - 1)) k p1 := by
    rcases least_or (upA C (v - 1)) k with h | h
    · have := hno1.1 h; omega
    · exact h
  obtain ⟨u1, hu1⟩ : ∃ u1, p1.length = u1 := ⟨_, rfl⟩
  have hp1H := Lib.hid hp1
  have hu1H := Lib.hid hu1
  have hall2 := Lib.hid (hno2.2 (Int.le_refl _))
  have hpH := Lib.hid hp
  have hvH := Lib.hid hv
  have hprH := Lib.hid hpr
  obtain ⟨t, ht⟩ : ∃ t, (alwN (upA C (z : Int)) k).length = t := ⟨_, rfl⟩
  have hts : t ≤ 16777216 := by
    rw [← ht, ← alP_filter hk1]
    exact Nat.le_trans (List.length_filter_le ..) (Nat.le_trans (allP_le k k []) (pow_small hk8 hk8))
  have htp : 0 < t ↔ v ≤ (z : Int) := by rw [← ht, alwN_pos]; exact hno3
  have htH := Lib.hid ht
  obtain ⟨fs, hfs'⟩ : ∃ fs, fall (pcs C p) = fs := ⟨_, rfl⟩
  have hfl : Hid (fs.length = k) := by show _ = _; rw [← hfs', fall_length, pcs_length]; exact hpr.len
  have hf0 : Hid (at0 fs 0 = v) := by show _ = _; rw [← hv, ← hfs']; rfl
  have hfs := Lib.hid hfs'
  have hpB := Lib.hid (pr_pairB hpr)
  have hzl : Hid ((nz p).length = k) := by show _ = _; rw [nz_length]; exact hpr.len
  have hkI : (0 : Int) < (k : Int) := by omega
  have wv : IntKind.i64.wrap (v - 1) = v - 1 := by rw [IntKind.wrap_i64]; omega
  have hvv : (v != v) = false := by simp
  have hnoH := Lib.hid hno3
  clear hC hg hp hv hpr hno1 hno2 hp1 hu1 ht hfs' hno3
  by_cases hzv : v ≤ (z : Int)
  · have htp1 : 0 < t := htp.2 hzv
    have htI : (0 : Int) < (t : Int) := by omega
    have htB : decide ((0 : Int) < (t : Int)) = true := by simpa using htI
    have hzvB : decide (v ≤ (z : Int)) = true := by simpa using hzv
    have hall3 := Lib.hid ((hall _ _).1 (hnoH.out.2 hzv))
    clear htp
    go_wp2_with (first
      | (go_at_call 30; go_loud (with_reducible refine (worst_at a1 d1 k C _ hMH.out hgH.out hCH.out hpH.out hvH.out).mono ?_); rintro e w2 ⟨g2, o2, c2, rfl, hc2, hI, hb2⟩; have hM2 := Lib.hid (hMH.out.below hb2); have hI2 := Lib.hid hI; have hb2H := Lib.hid hb2; clear hb2 hI)
      | (go_at_call 24; (with_reducible refine (lacks_yes a1 d1 k C (v - 1) _ hM2.out hgH.out hCH.out hp1H.out hu1H.out).mono ?_); rintro e w3 ⟨g3, o3, c3, rfl, hc3, _, hb3⟩; have hM3 := Lib.hid (hM2.out.below hb3); have hb3H := Lib.hid hb3; clear hb3)
      | (go_at_call 24; (with_reducible refine (lacks_no a1 d1 k C v _ hM3.out hgH.out hCH.out hall2.out).mono ?_); rintro e w4 ⟨rfl, hb4⟩; have hM4 := Lib.hid (hM3.out.below hb4); have hb4H := Lib.hid hb4; clear hb4)
      | (go_at_call 24; go_loud (with_reducible refine (lacks_no a1 d1 k C (z : Int) _ hM4.out hgH.out hCH.out hall3.out).mono ?_); rintro e w5 ⟨rfl, hb5⟩; have hM5 := Lib.hid (hM4.out.below hb5); have hb5H := Lib.hid hb5; have hI5 := Lib.hid (hI2.out.below (bseqJ hb3H.out (bseqJ hb4H.out hb5))); clear hb5)
      | (go_at_call 26; go_loud (with_reducible refine (count_good a1 d1 k C (z : Int) _ hM5.out hgH.out hCH.out).mono ?_); rintro e w6 ⟨he, hb6⟩; rw [htH.out] at he; subst he; have hb6H := Lib.hid hb6; have hM6 := Lib.hid (hM5.out.below hb6); have hI6 := Lib.hid (hI5.out.below hb6); clear hb6)
      | (go_at_call 31; go_loud (with_reducible refine (pairingR_any (some ⟨g2, o2, none⟩) c2 k k (nz p) true _ hI6.out hzl.out hc2 (by omega) (by omega) hpB.out).mono ?_); rintro e w7 ⟨rfl, hb7⟩; have hb7H := Lib.hid hb7; have hM7 := Lib.hid (hM6.out.below hb7); have hI7 := Lib.hid (hI6.out.below hb7); clear hb7)
      | (go_at_call 32; go_loud (with_reducible refine (falling_any a1 _ d1 c2 k C p fs _ hM7.out hI7.out hgH.out hCH.out hprH.out hfs.out).mono ?_); rintro e w8 hR; go_loud (obtain ⟨a8, d8, rfl, hI8, hd8, hb8⟩ := hR); go_loud (rw [hfl.out]); have hb8H := Lib.hid hb8; go_loud (obtain ⟨g8, o8, rfl, e8⟩ := hI8.at (i := 0) (by rw [hfl.out]; exact hk1)); rw [hf0.out, Nat.add_zero] at e8; go_loud (clear hI8 hb8))
      | (go_at_call 21; go_loud (with_reducible refine (lives_any _).mono ?_); rintro e w9 ⟨rfl, hb9⟩; have hb9H := Lib.hid hb9; clear hb9))
    go_ret
    exact ⟨rfl, bseqJ hb1H.out (bseqJ hb2H.out (bseqJ hb3H.out (bseqJ hb4H.out (bseqJ hb5H.out (bseqJ hb6H.out (bseqJ hb7H.out (bseqJ hb8H.out hb9H.out)))))))⟩
  · have ht0 : t = 0 := by
      rcases Nat.eq_zero_or_pos t with h | h
      · exact h
      · exact absurd (htp.1 h) hzv
    subst ht0
    have hzvB : decide (v ≤ (z : Int)) = false := by simpa using hzv
    have hzv2 : (z : Int) < v := by omega
    obtain ⟨s, hs⟩ : ∃ s, LeastL (upA C (z : Int)) k s := by
      rcases least_or (upA C (z : Int)) k with h | h
      · exact absurd (hnoH.out.1 ((hall _ _).2 h)) hzv
      · exact h
    obtain ⟨u, hu⟩ : ∃ u, s.length = u := ⟨_, rfl⟩
    have hone := hs.one
    have hu9 : u ≤ 8 := by rw [← hu]; exact Nat.le_trans hs.asc.short hk8
    have hu0 : 0 < u := by omega
    have hsH := Lib.hid hs
    have huH := Lib.hid hu
    have hoH : Hid (hndU (upA C (z : Int)) s k + 1 = u) := by show _ = _; rw [← hu]; exact hone
    clear hs hu hone htp
    go_upto_region 13 with (first
      | (go_at_call 30; go_loud (with_reducible refine (worst_at a1 d1 k C _ hMH.out hgH.out hCH.out hpH.out hvH.out).mono ?_); rintro e w2 ⟨g2, o2, c2, rfl, hc2, hI, hb2⟩; have hM2 := Lib.hid (hMH.out.below hb2); have hI2 := Lib.hid hI; have hb2H := Lib.hid hb2; clear hb2 hI)
      | (go_at_call 24; (with_reducible refine (lacks_yes a1 d1 k C (v - 1) _ hM2.out hgH.out hCH.out hp1H.out hu1H.out).mono ?_); rintro e w3 ⟨g3, o3, c3, rfl, hc3, _, hb3⟩; have hM3 := Lib.hid (hM2.out.below hb3); have hb3H := Lib.hid hb3; clear hb3)
      | (go_at_call 24; (with_reducible refine (lacks_no a1 d1 k C v _ hM3.out hgH.out hCH.out hall2.out).mono ?_); rintro e w4 ⟨rfl, hb4⟩; have hM4 := Lib.hid (hM3.out.below hb4); have hb4H := Lib.hid hb4; clear hb4)
      | (go_at_call 24; go_loud (with_reducible refine (lacks_yes a1 d1 k C (z : Int) _ hM4.out hgH.out hCH.out hsH.out huH.out).mono ?_); rintro e w5 ⟨g5, o5, c5, rfl, hc5, hIs, hb5⟩; have hM5 := Lib.hid (hM4.out.below hb5); have hIsH := Lib.hid hIs; have hb5H := Lib.hid hb5; have hI5 := Lib.hid (hI2.out.below (bseqJ hb3H.out (bseqJ hb4H.out hb5))); clear hb5 hIs)
      | (go_at_call 26; go_loud (with_reducible refine (count_good a1 d1 k C (z : Int) _ hM5.out hgH.out hCH.out).mono ?_); rintro e w6 ⟨he, hb6⟩; rw [htH.out] at he; subst he; have hb6H := Lib.hid hb6; have hM6 := Lib.hid (hM5.out.below hb6); have hI6 := Lib.hid (hI5.out.below hb6); clear hb6)
      | (go_at_call 31; go_loud (with_reducible refine (pairingR_any (some ⟨g2, o2, none⟩) c2 k k (nz p) true _ hI6.out hzl.out hc2 (by omega) (by omega) hpB.out).mono ?_); rintro e w7 ⟨rfl, hb7⟩; have hb7H := Lib.hid hb7; have hM7 := Lib.hid (hM6.out.below hb7); have hI7 := Lib.hid (hI6.out.below hb7); clear hb7)
      | (go_at_call 32; go_loud (with_reducible refine (falling_any a1 _ d1 c2 k C p fs _ hM7.out hI7.out hgH.out hCH.out hprH.out hfs.out).mono ?_); rintro e w8 hR; go_loud (obtain ⟨a8, d8, rfl, hI8, hd8, hb8⟩ := hR); go_loud (rw [hfl.out]); have hb8H := Lib.hid hb8; go_loud (obtain ⟨g8, o8, rfl, e8⟩ := hI8.at (i := 0) (by rw [hfl.out]; exact hk1)); rw [hf0.out, Nat.add_zero] at e8; go_loud (clear hI8 hb8))
      | (go_at_call 21; go_loud (with_reducible refine (lives_any _).mono ?_); rintro e w9 ⟨rfl, hb9⟩; have hb9H := Lib.hid hb9; clear hb9))
    have hbw := Lib.hid (bseqJ hb6H.out (bseqJ hb7H.out (bseqJ hb8H.out hb9H.out)))
    have hM9 := Lib.hid (hM5.out.below hbw.out)
    have hI9 := Lib.hid (hIsH.out.below hbw.out)
    have hfin := Lib.hid (bseqJ hb1H.out (bseqJ hb2H.out (bseqJ hb3H.out (bseqJ hb4H.out (bseqJ hb5H.out hbw.out)))))
    have hslt := Lib.hid hsH.out.asc.lt
    have hsri := Lib.hid hsH.out.asc.rise
    clear hbw hb1H hb2H hb3H hb4H hb5H hb6H hb7H hb8H hb9H hM2 hM3 hM4 hM5 hMH hI2 hI5 hIsH hpH hprH hall2 hp1H hu1H htH hnoH hpB hzl hfs hfl hf0 hvH
    go_wp2_with (fail)
    go_loopg [20, 21] k (fun gk hv jv wr => ∃ j : Nat, hv = .int .i64 (hndU (upA C (z : Int)) s j : Nat) ∧ jv = .int .i64 (j : Nat) ∧ j + gk = k ∧ Below w9.heap.size w9 wr)
    case atStart => exact ⟨0, rfl, rfl, by omega, Below.refl _ _⟩
    case round =>
      obtain ⟨j, rfl, rfl, hj, hbl⟩ := hrel
      have hblH := Lib.hid hbl
      have hdk := hndU_le (upA C (z : Int)) s j
      obtain ⟨hd, hhd⟩ : ∃ hd, hndU (upA C (z : Int)) s j = hd := ⟨_, rfl⟩
      rw [hhd] at hdk ⊢
      have hhdH := Lib.hid hhd
      clear hhd hbl
      by_cases hjk : j < k
      · obtain ⟨g2, rfl⟩ : ∃ g2, gk = g2 + 1 := ⟨gk - 1, by omega⟩
        have hjI : (j : Int) < (k : Int) := by omega
        have hj0 : (0 : Int) ≤ (j : Int) := by omega
        go_wp2_with (fail)
        go_loopg [22, 23] u (fun gi bv rv wx => ∃ (r : Nat) (b : Bool), bv = .bool b ∧ (s.take r).any (fun x => upA C (z : Int) x j) = b ∧ rv = .int .i64 (r : Nat) ∧ r + gi = u ∧ Below w9.heap.size w9 wx)
        case atStart => exact ⟨0, false, rfl, by simp, rfl, by omega, hblH.out⟩
        case round =>
          clear hblH
          obtain ⟨r, b, rfl, hbb, rfl, hr, hbl⟩ := hrel
          have hbH := Lib.hid hbb
          have hblH := Lib.hid hbl
          clear hbb hbl
          by_cases hru : r < u
          · obtain ⟨g3, rfl⟩ : ∃ g3, gk = g3 + 1 := ⟨gk - 1, by omega⟩
            have hrI : (r : Int) < (u : Int) := by omega
            have hr0 : (0 : Int) ≤ (r : Int) := by omega
            obtain ⟨x, hx⟩ : ∃ x, s[r]? = some x := ⟨_, List.getElem?_eq_getElem (by rw [huH.out]; exact hru)⟩
            have hat := Lib.hid (any_takeJ (P := fun x => upA C (z : Int) x j) hx)
            have hxn := hslt.out x (List.mem_of_getElem? hx)
            have hI10 := hI9.out.below hblH.out
            obtain ⟨b1, o1, hao1, e0⟩ := hI10 r _ (nz_get hx)
            injection hao1 with hao1
            injection hao1 with q1 q2
            subst q1 q2
            have hxI : (x : Int) < (k : Int) := by omega
            have hx0 : (0 : Int) ≤ (x : Int) := by omega
            have hx0B : decide ((x : Int) < 0) = false := by simp
            have hxkN : decide (k ≤ x) = false := by simp; omega
            have hxkB : decide ((k : Int) ≤ (x : Int)) = false := by simp; omega
            obtain ⟨b7, o7, b8, o8, c8, hao, e1, hc8, e2, q1, q2⟩ := (hM9.out.below hblH.out).cost hgH.out hCH.out hxn hjk
            have haoH := Lib.hid hao
            subst hao
            obtain ⟨y, hy⟩ : ∃ y, cst C x j = y := ⟨_, rfl⟩
            rw [hy] at e2
            have hAx : Hid (upA C (z : Int) x j = decide (y ≤ (z : Int))) := by show _ = _; rw [← hy]; rfl
            clear q1 q2 hy hxn
            by_cases hrz : r = 0
            · subst hrz
              have hgt : decide ((0 : Int) < ((0 : Nat) : Int)) = false := by simp
              have hgt2 : decide ((0 : Int) < 0) = false := by simp
              rw [Nat.add_zero] at e0
              clear hx hI10
              go_upto_region 20 with (fail)
              cases b
              · go_quiet (fail)
                go_wp2_with (fail)
                go_roundg g3
                case measure => omega
                case rel => exact ⟨0 + 1, decide (y ≤ (z : Int)), by first | rfl | simp, by rw [hat.out, hbH.out, hAx.out]; simp, by go_num, by omega, bdn hblH.out⟩
              · go_quiet (fail)
                go_wp2_with (fail)
                go_roundg g3
                case measure => omega
                case rel => exact ⟨0 + 1, true, rfl, by rw [hat.out, hbH.out]; rfl, by go_num, by omega, bdn hblH.out⟩
            · obtain ⟨x2, hx2⟩ : ∃ x2, s[r - 1]? = some x2 := ⟨_, List.getElem?_eq_getElem (by rw [huH.out]; omega)⟩
              have hlt2 : x2 < x := by
                obtain ⟨h1, e1⟩ := List.getElem?_eq_some_iff.1 hx
                obtain ⟨h2, e2⟩ := List.getElem?_eq_some_iff.1 hx2
                have := List.pairwise_iff_getElem.1 hsri.out (r - 1) r h2 h1 (by omega)
                rw [e1, e2] at this; exact this
              obtain ⟨b1, o1, hao1, e3⟩ := hI10 (r - 1) _ (nz_get hx2)
              injection hao1 with hao1
              injection hao1 with q1 q2
              subst q1 q2
              obtain ⟨r2, hr2⟩ : ∃ r2, r - 1 = r2 := ⟨_, rfl⟩
              rw [hr2] at e3
              have hr2I : (r : Int) - 1 = (r2 : Int) := by omega
              have wr2 : IntKind.i64.wrap ((r : Int) - 1) = (r2 : Int) := by rw [IntKind.wrap_i64]; omega
              have hr2u : (r2 : Int) < (u : Int) := by omega
              have hr20 : (0 : Int) ≤ (r2 : Int) := by omega
              have hgtN : decide (0 < r) = true := by simp; omega
              have hgeN : decide (x ≤ x2) = false := by simp; omega
              have hgt : decide ((0 : Int) < (r : Int)) = true := by simp; omega
              have hge : decide ((x : Int) ≤ (x2 : Int)) = false := by simp; omega
              clear hx hx2 hI10 hr2
              go_upto_region 20 with (fail)
              cases b
              · go_quiet (fail)
                go_wp2_with (fail)
                go_roundg g3
                case measure => omega
                case rel => exact ⟨r + 1, decide (y ≤ (z : Int)), by first | rfl | simp, by rw [hat.out, hbH.out, hAx.out]; simp, by go_num, by omega, bdn hblH.out⟩
              · go_quiet (fail)
                go_wp2_with (fail)
                go_roundg g3
                case measure => omega
                case rel => exact ⟨r + 1, true, rfl, by rw [hat.out, hbH.out]; rfl, by go_num, by omega, bdn hblH.out⟩
          · have hru2 : u = r := by omega
            subst hru2
            have hrI : ¬ (u : Int) < (u : Int) := by omega
            have hsu := Lib.hid (hndU_succ (upA C (z : Int)) s j)
            have hfull : Hid (s.any (fun x => upA C (z : Int) x j) = b) := by
              show _ = _
              have := hbH.out
              rwa [List.take_of_length_le (by rw [huH.out]; exact Nat.le_refl _)] at this
            cases b
            · go_wp2_with (fail)
              go_roundg g2
              case measure => omega
              case rel => exact ⟨j + 1, by rw [hsu.out, hfull.out, hhdH.out]; rfl, by go_num, by omega, hblH.out⟩
            · go_wp2_with (fail)
              go_roundg g2
              case measure => omega
              case rel => exact ⟨j + 1, by rw [hsu.out, hfull.out, hhdH.out, if_pos rfl]; go_num, by go_num, by omega, hblH.out⟩
      · have hje : k = j := by omega
        subst hje
        have hjI : ¬ (k : Int) < (k : Int) := by omega
        have hdu : hd + 1 = u := by rw [← hhdH.out]; exact hoH.out
        have hduI : (u : Int) - 1 = (hd : Int) := by omega
        have wdu : IntKind.i64.wrap ((u : Int) - 1) = (hd : Int) := by rw [IntKind.wrap_i64]; omega
        have hdd : ((hd : Int) == (hd : Int)) = true := by simp
        go_wp2_with (fail)
        go_ret
        exact ⟨rfl, bseqJ hfin.out hblH.out⟩
end Go.Proofs.Yteiipfajoikfpaa
