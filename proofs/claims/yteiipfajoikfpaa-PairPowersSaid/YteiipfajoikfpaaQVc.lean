/- Vc -/
import Derived.Test.YteiipfajoikfpaaQPd
import Derived.Test.YteiipfajoikfpaaQPi
import Derived.BigQuiet
set_option linter.unusedVariables false
/- Walk of the reference's Even. -/
namespace Go.Proofs.Yteiipfajoikfpaa
open Go Go.RowKit Go.Proofs

theorem pc_in {C : List (List Int)} {n : Nat} {p : List Nat} (hg : goodC C) (hn : C.length = n) (hp : Pr n p) {x : Int} (hx : x ∈ pcs C p) : 0 ≤ x ∧ x ≤ 1000 := by
  obtain ⟨i, hi⟩ := List.mem_iff_getElem?.1 hx
  rw [pcs_get] at hi
  obtain ⟨j, hj, e⟩ := Option.map_eq_some_iff.1 hi
  have h1 := (List.getElem?_eq_some_iff.1 hj).1
  rw [hp.len] at h1
  have h2 := hp.lt j (List.mem_of_getElem? hj)
  rw [← e]
  exact ⟨hg.lo hn i j h1 h2, hg.hi hn i j h1 h2⟩
set_option maxRecDepth 100000 in
set_option maxHeartbeats 6400000 in
theorem evenR_any (ao : Option Addr) (c n : Nat) (C : List (List Int)) (p : List Nat) (z : Int) (w : World) (h : IMx w ao C) (hg : goodC C) (hn : C.length = n) (hp : Best (byI (spr C)) (allN n) p) (hz : spr C p = z) :
    Calls Try.prog 45 #[.slice ao n c] w (RetZI w (nz p) z) := by
  have hn8 : n ≤ 8 := by rw [← hn]; exact hg.2.1
  have hn1 : 0 < n := by rw [← hn]; exact hg.1
  obtain ⟨L, hL⟩ : ∃ L, allN n = L := ⟨_, rfl⟩
  obtain ⟨N, hN⟩ : ∃ N, (rowsP L).length = N := ⟨_, rfl⟩
  have hNs : N ≤ 16777216 := by rw [← hN, rowsP_length, ← hL]; exact Nat.le_trans (allP_le n n []) (pow_small hn8 hn8)
  have hNL : Hid (L.length = N) := by show _ = _; rw [← hN, rowsP_length]
  have hsrt := Lib.hid (show L.Pairwise (· < ·) by rw [← hL]; exact allN_sorted n)
  have hmem : Hid (∀ q ∈ L, Pr n q) := fun q hq => mem_allN.1 (by rw [hL]; exact hq)
  have hal : Hid (∀ v, Calls Try.prog 53 #[.slice none 0 0, .int .i64 (n : Nat)] v (RetM v (rowsP L))) := fun v => by
    rw [← hL]; exact all_any n hn8 n 0 [] none 0 v rfl (by omega) (by simp) (by simp) (IZ.nil _ _)
  rw [hL] at hp
  have hHH := Lib.hid h
  have hgH := Lib.hid hg
  have hnH := Lib.hid hn
  have hpH := Lib.hid hp
  have hzH := Lib.hid hz
  have hNH := Lib.hid hN
  clear h hg hn hp hz hL hN
  obtain ⟨n1, hnq⟩ : ∃ n1, n = n1 + 1 := ⟨n - 1, by omega⟩
  have hn1I : (n : Int) - 1 = (n1 : Int) := by omega
  have wn1 : IntKind.i64.wrap ((n : Int) - 1) = (n1 : Int) := by rw [IntKind.wrap_i64]; omega
  have hn1n : (n1 : Int) < (n : Int) := by omega
  have hn10 : (0 : Int) ≤ (n1 : Int) := by omega
  have hn1e : Hid (n1 + 1 = n) := hnq.symm
  clear hnq
  have nl0 := eql_nil0
  have nl1 := eql_nil1
  go_enter Try.func45, Try.ntmps45
  go_wp2_with (first
    | (go_at_call 53; go_loud (with_reducible refine (hal.out _).mono ?_); rintro e w1 hR; obtain ⟨a1, d1, rfl, hM1, hd1, hb1⟩ := hR.out hNH.out; have hM1H := Lib.hid hM1; have hb1H := Lib.hid hb1; clear hR hM1 hb1))
  go_loopw [4, 5, 14] (fun bv lv i wr => ∃ (k : Nat) (y : Int), i = .int .i64 (k : Nat) ∧ lv = .int .i64 y ∧ k ≤ N ∧ BestI (spr C) n (L.take k) wr bv y ∧ Below w1.heap.size w1 wr) (fun _ _ i _ => N - (intOf i).toNat)
  case atStart => exact ⟨0, 0, rfl, rfl, by omega, .inl ⟨by simp, rfl, rfl⟩, Below.refl _ _⟩
  case round =>
    obtain ⟨k, y, rfl, rfl, hk, hB, hbl⟩ := hrel
    have hblH := Lib.hid hbl
    have hBH := Lib.hid hB
    by_cases hkN : k < N
    · obtain ⟨q, hq⟩ : ∃ q, L[k]? = some q := ⟨_, List.getElem?_eq_getElem (by rw [hNL.out]; exact hkN)⟩
      have hpq := Lib.hid (hmem.out q (List.mem_of_getElem? hq))
      obtain ⟨b2, o2, g2, o3, c3, rfl, e1, hc3, hI⟩ := row_nz (hM1H.out.below hbl) hq hpq.out.len hn1
      have hIH := Lib.hid hI
      have hCr := Lib.hid (hHH.out.below (bseqJ hb1H.out hbl))
      obtain ⟨x, hx⟩ : ∃ x, spr C q = x := ⟨_, rfl⟩
      have hxH := Lib.hid hx
      have htk := Lib.hid (take_last hq)
      have hst := Lib.hid (sorted_take hsrt.out hq)
      have hq0 := (List.getElem?_eq_some_iff.1 hq).1
      obtain ⟨fs, hfs'⟩ : ∃ fs, fall (pcs C q) = fs := ⟨_, rfl⟩
      have hfl : Hid (fs.length = n) := by show _ = _; rw [← hfs', fall_length, pcs_length]; exact hpq.out.len
      obtain ⟨xm, hxm⟩ : ∃ xm, mxL (pcs C q) = xm := ⟨_, rfl⟩
      obtain ⟨xn, hxn⟩ : ∃ xn, mnL (pcs C q) = xn := ⟨_, rfl⟩
      have hf0 : Hid (at0 fs 0 = xm) := by show _ = _; rw [← hxm, ← hfs']; rfl
      have hf1 : Hid (at0 fs n1 = xn) := by
        show _ = _
        rw [← hxn, ← hfs']
        unfold mnL
        rw [pcs_length, hpq.out.len, ← hn1e.out]; rfl
      have hxd : xm - xn = x := by rw [← hx, ← hxm, ← hxn]; rfl
      obtain ⟨bm1, bm2⟩ := pc_in hgH.out hnH.out hpq.out (mxL_mem (pcs_ne hpq.out hn1))
      obtain ⟨bn1, bn2⟩ := pc_in hgH.out hnH.out hpq.out (mnL_mem (pcs_ne hpq.out hn1))
      rw [hxm] at bm1 bm2
      rw [hxn] at bn1 bn2
      have wx1 : IntKind.i64.wrap (xm - xn) = x := by rw [IntKind.wrap_i64]; omega
      clear hxm hxn
      have hfs := Lib.hid hfs'
      have hnI : (0 : Int) < (n : Int) := by omega
      clear hfs'
      clear hI hx hq hbl
      rcases hB with ⟨hL0, hbv, hy⟩ | ⟨r, g4, o4, c4, hbv, hc4, hI4, hB4, hr4⟩
      · subst hbv hy
        have hL0H := Lib.hid hL0
        clear hL0
        go_upto_region 7 with (first | (go_at_call 32; go_loud (with_reducible refine (falling_any ao (some ⟨g2, o3, none⟩) c c3 n C q fs _ hCr.out hIH.out hgH.out hnH.out hpq.out hfs.out).mono ?_); rintro e w9 hR; go_loud (obtain ⟨a9, d9, rfl, hI9, hd9, hb9'⟩ := hR); go_loud (rw [hfl.out]); have hb9 := Lib.hid hb9'; go_loud (obtain ⟨g9, o9, ha9, e9⟩ := hI9.at (i := 0) (by rw [hfl.out]; exact hn1)); obtain ⟨g10, o10, ha10, e10⟩ := hI9.at (i := n1) (by rw [hfl.out]; omega); subst ha9; injection ha10 with ha10; injection ha10 with q1 q2; subst q1 q2; rw [hf0.out, Nat.add_zero] at e9; rw [hf1.out] at e10; clear hI9 hb9'))
        go_quiet (fail)
        go_wp2_with (fail)
        go_roundw
        case rel => exact ⟨k + 1, x, by go_num, rfl, by omega, by rw [htk.out]; exact BestI.first hL0H.out hxH.out hc3 (hIH.out.below (bdn hb9.out)), bseqJ hblH.out (bdn hb9.out)⟩
        case measure => simp [intOf]; omega
      · subst hbv
        have hI4H := Lib.hid hI4
        have hB4H := Lib.hid hB4
        have hr4H := Lib.hid hr4
        clear hI4 hB4 hr4
        by_cases hlt : x < y
        · have hd : decide (x < y) = true := by simpa using hlt
          go_upto_region 7 with (first | (go_at_call 32; go_loud (with_reducible refine (falling_any ao (some ⟨g2, o3, none⟩) c c3 n C q fs _ hCr.out hIH.out hgH.out hnH.out hpq.out hfs.out).mono ?_); rintro e w9 hR; go_loud (obtain ⟨a9, d9, rfl, hI9, hd9, hb9'⟩ := hR); go_loud (rw [hfl.out]); have hb9 := Lib.hid hb9'; go_loud (obtain ⟨g9, o9, ha9, e9⟩ := hI9.at (i := 0) (by rw [hfl.out]; exact hn1)); obtain ⟨g10, o10, ha10, e10⟩ := hI9.at (i := n1) (by rw [hfl.out]; omega); subst ha9; injection ha10 with ha10; injection ha10 with q1 q2; subst q1 q2; rw [hf0.out, Nat.add_zero] at e9; rw [hf1.out] at e10; clear hI9 hb9'))
          go_quiet (fail)
          go_wp2_with (fail)
          go_roundw
          case rel => exact ⟨k + 1, x, by go_num, rfl, by omega, by rw [htk.out]; exact BestI.win hB4H.out hxH.out (by rw [hr4H.out]; exact hlt) hc3 (hIH.out.below (bdn hb9.out)), bseqJ hblH.out (bdn hb9.out)⟩
          case measure => simp [intOf]; omega
        · have hd : decide (x < y) = false := by simpa using hlt
          have hge : y ≤ x := by omega
          go_upto_region 7 with (first | (go_at_call 32; go_loud (with_reducible refine (falling_any ao (some ⟨g2, o3, none⟩) c c3 n C q fs _ hCr.out hIH.out hgH.out hnH.out hpq.out hfs.out).mono ?_); rintro e w9 hR; go_loud (obtain ⟨a9, d9, rfl, hI9, hd9, hb9'⟩ := hR); go_loud (rw [hfl.out]); have hb9 := Lib.hid hb9'; go_loud (obtain ⟨g9, o9, ha9, e9⟩ := hI9.at (i := 0) (by rw [hfl.out]; exact hn1)); obtain ⟨g10, o10, ha10, e10⟩ := hI9.at (i := n1) (by rw [hfl.out]; omega); subst ha9; injection ha10 with ha10; injection ha10 with q1 q2; subst q1 q2; rw [hf0.out, Nat.add_zero] at e9; rw [hf1.out] at e10; clear hI9 hb9'))
          go_quiet (fail)
          go_wp2_with (fail)
          go_roundw
          case rel => exact ⟨k + 1, y, by go_num, rfl, by omega, by rw [htk.out]; exact .inr ⟨r, g4, o4, c4, rfl, hc4, hI4H.out.below (bdn hb9.out), hB4H.out.keep (show ¬ spr C q < spr C r by rw [hr4H.out, hxH.out]; omega) hst.out, hr4H.out⟩, bseqJ hblH.out (bdn hb9.out)⟩
          case measure => simp [intOf]; omega
    · have hke : k = N := by omega
      subst hke
      have hfull : L.take k = L := List.take_of_length_le (by rw [hNL.out]; exact Nat.le_refl _)
      rcases hB with ⟨hL0, hbv, hy⟩ | ⟨r, g4, o4, c4, hbv, hc4, hI4, hB4, hr4⟩
      · rw [hfull] at hL0
        exact absurd (hL0 ▸ hpH.out.mem) (by simp)
      · rw [hfull] at hB4
        have hrp := hB4.unique hpH.out
        subst hrp hbv
        have e1 := hr4.symm.trans hzH.out
        subst e1
        have hI4H := Lib.hid hI4
        have hlen : Hid ((nz r).length = n) := by show _ = _; rw [nz_length]; exact (hmem.out r hpH.out.mem).len
        clear hI4 hB4 hr4 hfull
        go_wp2
        go_ret2
        exact ⟨_, _, by rw [hlen.out]; rfl, hI4H.out, by rw [hlen.out]; exact hc4, bseqJ hb1H.out hblH.out⟩
end Go.Proofs.Yteiipfajoikfpaa
