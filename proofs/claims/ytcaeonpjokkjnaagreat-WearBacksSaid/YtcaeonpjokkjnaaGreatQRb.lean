/- Rb -/
import Derived.Test.YtcaeonpjokkjnaaGreatQBl
import Derived.Test.YtcaeonpjokkjnaaGreatQBq
import Derived.Test.YtcaeonpjokkjnaaGreatQBr
import Derived.Test.YtcaeonpjokkjnaaGreatQRn
set_option linter.unusedVariables false
/- Walk of the law WearBacks. -/
namespace Go.Proofs.YtcaeonpjokkjnaaGreat
open Go Go.RowKit Go.Proofs

theorem bs_of {us : List Rat} {n e : Nat} (hl : us.length = n + 1) (hf : ∀ q ∈ us, fits q e = true) (hbig : (e + e * (n + 1)) * n ≤ 3000) : Bs us n (dens us) (p10 e - 1) where
  len := hl
  d0 := dens_pos us
  iz := dens_mem us
  ab q hq := by
    obtain ⟨h1, h2⟩ := fits_den (hf q hq)
    have hd := q.den_pos
    have hn : q.num.natAbs ≤ p10 e - 1 := by
      have : q.num.natAbs < p10 e := h2
      omega
    have hmul : (p10 e - 1) * 1 ≤ (p10 e - 1) * q.den := Nat.mul_le_mul_left _ hd
    generalize p10 e - 1 = U at *
    have hmul2 : (U : Int) ≤ (U : Int) * (q.den : Int) := by rw [← Int.natCast_mul]; omega
    refine le_ab ?_ ?_
    · have h3 : -q ≤ cN U := by
        rw [Rat.le_iff]
        show (-q.num) * ((1 : Nat) : Int) ≤ (U : Int) * (q.den : Int)
        omega
      grind
    · rw [Rat.le_iff]
      show q.num * ((1 : Nat) : Int) ≤ (U : Int) * (q.den : Int)
      omega
  big := by
    have h0 : 0 < p10 e := p10_pos e
    rw [show p10 e - 1 + 1 = p10 e by omega]
    have h1 : dens us ≤ p10 (e * (n + 1)) := by
      have := dens_le (B := p10 e) us fun q hq => Nat.le_of_lt (fits_den (hf q hq)).1
      rw [hl, p10_pow] at this
      exact this
    have h2 : p10 e * dens us ≤ p10 (e + e * (n + 1)) := by rw [p10_add]; exact Nat.mul_le_mul_left _ h1
    have h3 := Nat.pow_le_pow_left h2 n
    rw [p10_pow] at h3
    exact Nat.le_trans h3 (p10_mono hbig)

theorem SL.take {w : World} {ao : Option Addr} {ss : List ByteArray} (h : SL w ao ss) (k : Nat) : SL w ao (ss.take k) := fun i s hs => by
  rw [List.getElem?_take] at hs
  split at hs
  · exact h i s hs
  · cases hs
theorem few_42 (ao : Option Addr) (c l : Nat) (xs : List ByteArray) (w : World) (hl : xs.length = l) (h : SL w ao xs) (hl1 : l ≤ 9223372036854775807) (hs : ∀ s ∈ xs, s.size ≤ 9223372036854775807) :
    Calls Tryz.prog 10 #[.slice ao l c, .int .i64 42] w (RetTxts w (fewL xs 42)) := few_any ao c l 42 xs w hl h hl1 (by omega) hs
theorem back_k (k : Int) (ao : Option Addr) (c l : Nat) (ss : List ByteArray) (w : World) (hk0 : k = 1 ∨ k = 2) (hk : rensE ss k) (hl : ss.length = l) (h : SL w ao ss) (hs : ∀ s ∈ ss, s.size ≤ 40) :
    Calls Tryz.prog 38 #[.slice ao l c] w (RetErr w k) := by
  subst hl
  have hs2 : ∀ s ∈ ss, s.size ≤ 4611686018427387904 := fun s hh => by have := hs s hh; omega
  rcases hk with ⟨h1, rfl⟩ | ⟨h1, h2, rfl⟩ | ⟨h1, h2, h3, rfl⟩ | ⟨h1, h2, h3, rfl⟩
  · exact back_len ao c ss.length w h1
  · exact back_form ao c ss.length ss w rfl h h1.1 h1.2 hs2 h2
  · exact back_arg ao c ss.length ss w rfl h h1.1 h1.2 hs2 h2 (own_sz h2 hs) h3
  · omega

set_option maxRecDepth 100000 in
set_option maxHeartbeats 3200000 in
theorem backs_bad (k : Int) (hk0 : k = 1 ∨ k = 2) (ao : Option Addr) (c l : Nat) (xs : List ByteArray) (w : World) (hk : rensE (fewL xs 42) k) (hl : xs.length = l) (h : SL w ao xs) (hl1 : l ≤ 9223372036854775807) (hs : ∀ s ∈ xs, s.size ≤ 9223372036854775807) :
    Calls Tryz.prog 7 #[.slice ao l c] w (RetBool w true) := by
  have hH := Lib.hid h
  have hlH := Lib.hid hl
  have hsH := Lib.hid hs
  have hkH := Lib.hid hk
  obtain ⟨ss, hss⟩ : ∃ ss, ss = fewL xs 42 := ⟨_, rfl⟩
  have hssH := Lib.hid hss
  rw [← hss] at hkH
  have hsm := Lib.hid (show ∀ s ∈ ss, s.size ≤ 40 by rw [hss]; exact fewL_small xs 42)
  obtain ⟨m, hm⟩ : ∃ m, ss.length = m := ⟨_, rfl⟩
  have hmH := Lib.hid hm
  have hrB : Hid (∀ (v : World) (a : Option Addr) (c : Nat), SL v a ss → Calls Tryz.prog 38 #[.slice a m c] v (RetErr v k)) := fun v a c hS => back_k k a c m ss v hk0 hkH.out hmH.out hS hsm.out
  clear h hl hs hk hss hm
  rcases hk0 with rfl | rfl
  all_goals (
    go_enter Tryz.func7, Tryz.ntmps7
    go_wp2_with (first
      | (go_at_call 10; go_loud (with_reducible refine (few_42 ao c l xs _ hlH.out hH.out hl1 hsH.out).mono ?_); rintro e w1 ⟨a1, c1, rfl, hV1, hb1⟩; rw [← hssH.out] at hV1; have hS1 := Lib.hid (SV.sl hV1); have hb1H := Lib.hid hb1; have r1 := Lib.hid (Below.refl w1.heap.size w1); rw [← hssH.out, hmH.out]; clear hV1 hb1)
      | (go_at_call 38; go_loud (with_reducible refine (hrB.out _ a1 c1 (hS1.out.below r2.out)).mono ?_); rintro e w3 ⟨rfl, hb3⟩; have r3 := Lib.hid (bseq r2.out hb3); clear hb3)
      | (go_at_call 37; (with_reducible refine (renewalsR_any _ a1 c1 m ss _ hkH.out hmH.out (hS1.out.below r3.out) hsm.out).mono ?_); rintro e w4 ⟨rfl, hb4⟩; have r4 := Lib.hid (bseq r3.out hb4); clear hb4)
      | (go_at_call 37; go_loud (with_reducible refine (renewalsR_any _ a1 c1 m ss _ hkH.out hmH.out (hS1.out.below r1.out) hsm.out).mono ?_); rintro e w2 ⟨rfl, hb2⟩; have r2 := Lib.hid (bseq r1.out hb2); clear hb2)
      | (go_at_call 14; go_loud (with_reducible refine (lives_any _).mono ?_); rintro e w5 ⟨rfl, hb5⟩; have r5 := Lib.hid (bseq r4.out hb5); clear hb5))
    go_ret
    exact ⟨rfl, bseq hb1H.out r5.out⟩)

set_option maxRecDepth 100000 in
set_option maxHeartbeats 3200000 in
theorem backs_good (b : Bool) (n l2 : Nat) (tt : List ByteArray) (ao : Option Addr) (c l : Nat) (xs : List ByteArray) (w : World)
    (hb : (b = true ∧ (fewL xs 42).length = l2 ∧ fewL xs 42 = tt) ∨ (b = false ∧ l2 = 9 ∧ tt = (fewL xs 42).take 9)) (h9 : l2 ≤ (fewL xs 42).length) (hk : rensE (fewL xs 42) 0) (hkt : rensE tt 0) (hn : n + 1 = l2) (htl : tt.length = l2) (D U : Nat) (hB : Bs (tt.map parseQ) n D U)
    (hlt : lightB (fewL xs 42) (fewL xs 42).length = b) (hl : xs.length = l) (h : SL w ao xs) (hl1 : l ≤ 9223372036854775807) (hs : ∀ s ∈ xs, s.size ≤ 9223372036854775807) :
    Calls Tryz.prog 7 #[.slice ao l c] w (RetBool w true) := by
  have hH := Lib.hid h
  have hlH := Lib.hid hl
  have hsH := Lib.hid hs
  have hkH := Lib.hid hk
  have hktH := Lib.hid hkt
  have hltH := Lib.hid hlt
  have htlH := Lib.hid htl
  have hBH := Lib.hid hB
  have hsm := Lib.hid (show ∀ s ∈ fewL xs 42, s.size ≤ 40 from fewL_small xs 42)
  have htt : ∀ s ∈ tt, s ∈ fewL xs 42 := by
    rcases hb with ⟨_, _, rfl⟩ | ⟨_, _, rfl⟩
    · exact fun s hs => hs
    · exact fun s hs => List.mem_of_mem_take hs
  have htS : Hid (∀ (v : World) (a : Option Addr), SL v a (fewL xs 42) → SL v a tt) := fun v a hS => by
    rcases hb with ⟨_, _, rfl⟩ | ⟨_, _, rfl⟩
    · exact hS
    · exact hS.take 9
  have hts := Lib.hid (show ∀ s ∈ tt, s.size ≤ 40 from fun s hs => hsm.out s (htt s hs))
  obtain ⟨ss, hss⟩ : ∃ ss, ss = fewL xs 42 := ⟨_, rfl⟩
  have hssH := Lib.hid hss
  rw [← hss] at hkH hltH hsm htS hb h9
  obtain ⟨m, hm⟩ : ∃ m, ss.length = m := ⟨_, rfl⟩
  have hmH := Lib.hid hm
  rw [hm] at hltH hb h9
  have hm41 : m ≤ 41 := by
    rcases hkH.out with ⟨_, h2⟩ | ⟨_, _, h2⟩ | ⟨_, _, _, h2⟩ | ⟨h1, _, _, _⟩
    · exact absurd h2 (by decide)
    · exact absurd h2 (by decide)
    · exact absurd h2 (by decide)
    · omega
  have hm1 : 1 ≤ m := by omega
  obtain ⟨s0, hs0⟩ : ∃ s0, ss[0]? = some s0 := ⟨_, List.getElem?_eq_getElem (by omega)⟩
  have hs0H := Lib.hid hs0
  have hg : Hid (allOK tt ∧ rensGood (tt.map parseQ)) := by
    rcases hktH.out with ⟨_, h2⟩ | ⟨_, _, h2⟩ | ⟨_, _, _, h2⟩ | ⟨_, h1, h2, _⟩
    · exact absurd h2 (by decide)
    · exact absurd h2 (by decide)
    · exact absurd h2 (by decide)
    · exact ⟨h1, h2⟩
  obtain ⟨us, hus⟩ : ∃ us, us = tt.map parseQ := ⟨_, rfl⟩
  have husH := Lib.hid hus
  have hul : Hid (us.length = l2) := by show _ = _; rw [hus, List.length_map]; exact htl
  rw [← hus] at hBH
  have hu4 : Hid (∀ q ∈ us, Short4 q) := fun q hq => by
    rw [hus] at hq
    obtain ⟨s, h1, rfl⟩ := List.mem_map.1 hq
    exact parse_short (hg.out.1 s h1) (hts.out s h1)
  have hrB : Hid (∀ (v : World) (a : Option Addr) (c : Nat), SL v a tt → Calls Tryz.prog 38 #[.slice a l2 c] v (RetNums v ((bkL us n).map nt))) := fun v a c hS => by
    have h2 := back_good a c l2 tt v htlH.out hS (by omega) (by omega) (fun s hh => by have := hts.out s hh; omega) hg.out.1 (own_sz hg.out.1 hts.out) hg.out.2 n hn (by rw [← husH.out]; exact hBH.out.backSz (by rw [husH.out]; exact own_sz hg.out.1 hts.out))
    rw [← husH.out] at h2
    exact h2
  have hrR : Hid (∀ (v : World) (a : Option Addr) (c : Nat), ZL v a us → l2 ≤ c → Calls Tryz.prog 39 #[.slice a l2 c] v (RetZL v (bkL us n))) := fun v a c hS hc => backR_any n (by omega) a c l2 D U us v hul.out hn hS hc hBH.out hu4.out
  have hb4 : Hid (∀ q ∈ bkL us n, Short4 q) := fun q hq => hBH.out.all4 (Nat.le_refl _) q hq
  have hL1 : Hid (((bkL us n).map nt).length = n) := by show _ = _; rw [List.length_map]; exact bkL_length us n
  have hL2 := Lib.hid (bkL_length us n)
  have hlg : Hid (∀ s ∈ ss, s.size ≤ 4611686018427387904) := fun s hh => by have := hsm.out s hh; omega
  have hlg2 : Hid (∀ s ∈ tt, s.size ≤ 4611686018427387904) := fun s hh => by have := hts.out s hh; omega
  clear h hl hs hk hkt hlt htl hB hss hm hs0 hus htt
  rcases hb with ⟨rfl, rfl, rfl⟩ | ⟨rfl, rfl, rfl⟩
  all_goals (
    go_enter Tryz.func7, Tryz.ntmps7
    go_wp2_with (first
      | (go_at_call 10; go_loud (with_reducible refine (few_42 ao c l xs _ hlH.out hH.out hl1 hsH.out).mono ?_); rintro e w1 ⟨a1, c1, rfl, hV1, hb1⟩; rw [← hssH.out] at hV1; have hcap1 := SV.cap hV1 rfl; have hS1 := Lib.hid (SV.sl hV1); obtain ⟨b0, o0, rfl, _⟩ := hS1.out 0 s0 hs0H.out; have hT1 := Lib.hid (htS.out _ _ hS1.out); have hb1H := Lib.hid hb1; have r1 := Lib.hid (Below.refl w1.heap.size w1); rw [hmH.out] at hcap1; rw [← hssH.out, hmH.out]; have hc9 : ((9 : Nat) : Int) ≤ (c1 : Int) ∨ True := Or.inr trivial; clear hV1 hb1)
      | (go_at_call 12; go_loud (with_reducible refine (light_b (some ⟨b0, o0, none⟩) c1 m (m : Int) _ ss _ hltH.out hmH.out (hS1.out.below r2.out) (by omega) hlg.out).mono ?_); rintro e w6 ⟨rfl, hb6⟩; have r6 := Lib.hid (bseq r2.out hb6); clear hb6)
      | (go_at_call 38; go_loud (with_reducible refine (hrB.out _ (some ⟨b0, o0, none⟩) c1 (hT1.out.below r6.out)).mono ?_); rintro e w3 ⟨a3, c3, rfl, hV3, hb3⟩; have r3 := Lib.hid (bseq r6.out hb3); have hS3 := Lib.hid (SV.sl hV3); have hcap3 := SV.cap hV3 rfl; rw [hL1.out] at hcap3 ⊢; clear hV3 hb3)
      | (go_at_call 37; (with_reducible refine (renewalsR_any 0 (some ⟨b0, o0, none⟩) c1 _ _ _ hktH.out htlH.out (hT1.out.below r3.out) hts.out).mono ?_); rintro e w4 ⟨rfl, hb4⟩; have r4 := Lib.hid (bseq r3.out hb4); have hS4 := Lib.hid (hS3.out.below hb4); clear hb4)
      | (go_at_call 37; go_loud (with_reducible refine (renewalsR_any 0 (some ⟨b0, o0, none⟩) c1 m ss _ hkH.out hmH.out (hS1.out.below r1.out) hsm.out).mono ?_); rintro e w2 ⟨rfl, hb2⟩; have r2 := Lib.hid (bseq r1.out hb2); clear hb2)
      | (go_at_call 17; go_loud (with_reducible refine (qs_any (some ⟨b0, o0, none⟩) c1 _ _ _ htlH.out (hT1.out.below r4.out) (by omega) hlg2.out hg.out.1).mono ?_); rintro e w7 ⟨a7, c7, rfl, hV7, hb7⟩; rw [← husH.out] at hV7; have hS7 := Lib.hid (ZV.ql hV7); have hcap7 := ZV.cap hV7 rfl; have r7 := Lib.hid (bseq r4.out hb7); have hS47 := Lib.hid (hS4.out.below hb7); rw [hul.out] at hcap7; rw [← husH.out, hul.out]; clear hV7 hb7)
      | (go_at_call 39; go_loud (with_reducible refine (hrR.out _ a7 c7 hS7.out hcap7).mono ?_); rintro e w8 ⟨a8, c8, rfl, hV8, hb8⟩; have hS8 := Lib.hid (ZV.ql hV8); have hcap8 := ZV.cap hV8 rfl; have r8 := Lib.hid (bseq r7.out hb8); have hS48 := Lib.hid (hS47.out.below hb8); rw [hL2.out] at hcap8 ⊢; clear hV8 hb8)
      | (go_at_call 15; go_loud (with_reducible refine (are_t a3 a8 c3 c8 n (bkL us n) _ hL2.out hS48.out hS8.out (by omega) hb4.out hcap3 hcap8).mono ?_); rintro e w9 ⟨rfl, hb9⟩; have r9 := Lib.hid (bseq r8.out hb9); clear hb9)
      | (go_at_call 14; go_loud (with_reducible refine (lives_any _).mono ?_); rintro e w5 ⟨rfl, hb5⟩; have r5 := Lib.hid (bseq r9.out hb5); clear hb5))
    go_ret
    exact ⟨rfl, bseq hb1H.out r5.out⟩)

theorem rens_take {ss : List ByteArray} (h : rensE ss 0) (hm : 9 ≤ ss.length) : rensE (ss.take 9) 0 := by
  rcases h with ⟨_, h2⟩ | ⟨_, _, h2⟩ | ⟨_, _, _, h2⟩ | ⟨h1, h2, h3, _⟩
  · exact absurd h2 (by decide)
  · exact absurd h2 (by decide)
  · exact absurd h2 (by decide)
  · refine Or.inr (Or.inr (Or.inr ⟨?_, fun s hs => h2 s (List.mem_of_mem_take hs), ⟨fun q hq => ?_, ?_⟩, rfl⟩))
    · rw [List.length_take]; omega
    · rw [List.map_take] at hq
      exact h3.1 q (List.mem_of_mem_take hq)
    · have h4 := h3.2
      unfold nth at h4 ⊢
      rw [List.map_take, List.getElem?_take_of_lt (by omega)]
      exact h4
theorem short_all {ss : List ByteArray} (hok : allOK ss) {e : Nat} (he : 1 ≤ e) (h : ∀ s ∈ ss, shortOK s e = true) : ∀ q ∈ ss.map parseQ, fits q e = true := fun q hq => by
  obtain ⟨s, h1, rfl⟩ := List.mem_map.1 hq
  rw [← short_fits (hok s h1) he]
  exact h s h1

/-- The law holds. -/
theorem backs_any (ao : Option Addr) (c l : Nat) (xs : List ByteArray) (w : World) (hl : xs.length = l) (h : SL w ao xs) (hl1 : l ≤ 9223372036854775807) (hs : ∀ s ∈ xs, s.size ≤ 9223372036854775807) :
    Calls Tryz.prog 7 #[.slice ao l c] w (RetBool w true) := by
  obtain ⟨k, hk⟩ := rensE.ex (fewL xs 42)
  have hk2 := hk
  rcases hk2 with ⟨_, rfl⟩ | ⟨_, _, rfl⟩ | ⟨_, _, _, rfl⟩ | ⟨h1, hok, hg, rfl⟩
  · exact backs_bad 1 (Or.inl rfl) ao c l xs w hk hl h hl1 hs
  · exact backs_bad 2 (Or.inr rfl) ao c l xs w hk hl h hl1 hs
  · exact backs_bad 1 (Or.inl rfl) ao c l xs w hk hl h hl1 hs
  · by_cases hlt : lightB (fewL xs 42) (fewL xs 42).length = true
    · have hall : ∀ s ∈ fewL xs 42, lightOne s (fewL xs 42).length := of_decide_eq_true hlt
      obtain ⟨n, hn⟩ : ∃ n, (fewL xs 42).length = n + 1 := ⟨(fewL xs 42).length - 1, by omega⟩
      have hB : ∃ D U, Bs ((fewL xs 42).map parseQ) n D U := by
        have hml : ((fewL xs 42).map parseQ).length = n + 1 := by rw [List.length_map]; exact hn
        by_cases h8 : n + 1 ≤ 8
        · refine ⟨_, _, bs_of hml hg.1 ?_⟩
          have : (6 + 6 * (n + 1)) * n ≤ 54 * 7 := Nat.mul_le_mul (by omega) (by omega)
          omega
        · by_cases h24 : n + 1 ≤ 24
          · refine ⟨_, _, bs_of (e := 2) hml (short_all hok (by omega) fun s hs => (hall s hs).1 (by omega)) ?_⟩
            have : (2 + 2 * (n + 1)) * n ≤ 50 * 23 := Nat.mul_le_mul (by omega) (by omega)
            omega
          · refine ⟨_, _, bs_of (e := 1) hml (short_all hok (by omega) fun s hs => (hall s hs).2 (by omega)) ?_⟩
            have : (1 + 1 * (n + 1)) * n ≤ 42 * 40 := Nat.mul_le_mul (by omega) (by omega)
            omega
      obtain ⟨D, U, hB⟩ := hB
      exact backs_good true n (fewL xs 42).length (fewL xs 42) ao c l xs w (Or.inl ⟨rfl, rfl, rfl⟩) (Nat.le_refl _) hk hk hn.symm rfl D U hB hlt hl h hl1 hs
    · have hlt2 : lightB (fewL xs 42) (fewL xs 42).length = false := by simpa using hlt
      have h9 : 9 ≤ (fewL xs 42).length := by
        refine Nat.not_lt.1 fun hc => hlt ?_
        unfold lightB
        exact decide_eq_true fun s hs => ⟨fun h => absurd h (by omega), fun h => absurd h (by omega)⟩
      have hkt := rens_take hk h9
      have htl : ((fewL xs 42).take 9).length = 9 := by rw [List.length_take]; omega
      have hml : (((fewL xs 42).take 9).map parseQ).length = 8 + 1 := by rw [List.length_map]; exact htl
      have hB := bs_of (e := 6) hml (fun q hq => by
        rw [List.map_take] at hq
        exact hg.1 q (List.mem_of_mem_take hq)) (by omega)
      exact backs_good false 8 9 ((fewL xs 42).take 9) ao c l xs w (Or.inr ⟨rfl, rfl, rfl⟩) h9 hk hkt rfl htl _ _ hB hlt2 hl h hl1 hs

end Go.Proofs.YtcaeonpjokkjnaaGreat
