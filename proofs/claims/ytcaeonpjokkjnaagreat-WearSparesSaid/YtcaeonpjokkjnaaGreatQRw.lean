/- Rw -/
import Derived.Test.YtcaeonpjokkjnaaGreatQYs
import Derived.Test.YtcaeonpjokkjnaaGreatQRm
set_option linter.unusedVariables false
/- Walk of the law WearSpares. -/
namespace Go.Proofs.YtcaeonpjokkjnaaGreat
open Go Go.RowKit Go.Proofs

/-- The number of periods that the law hands on, ahead of light. -/
def n24 (n : Int) : Int := if 24 < n ∧ n ≤ 40 then 24 else n
theorem spares_k (k n i : Int) (ao : Option Addr) (c l : Nat) (ss : List ByteArray) (w : World) (hk0 : k = 1 ∨ k = 2) (hk : livesE ss k) (hl : ss.length = l) (h : SL w ao ss) (hn : l ≤ 1000) (hs : ∀ s ∈ ss, s.size ≤ 40) :
    Calls Tryz.prog 44 #[.slice ao l c, .int .i64 n, .int .i64 i] w (RetNumE w k) :=
  spares_bad k n i (by rcases hk0 with rfl | rfl <;> rfl) ao c l w (read_k k ao c l ss w hk0 hk hl h hn hs)

set_option maxRecDepth 100000 in
set_option maxHeartbeats 3200000 in
theorem spLaw_bad (e0 n k z : Int) (hk0 : e0 = 1 ∨ e0 = 2) (hz : (24 < n ∧ n ≤ 40 ∧ z = 24) ∨ (24 < n ∧ ¬ n ≤ 40 ∧ n = z) ∨ (¬ 24 < n ∧ n = z)) (ao : Option Addr) (c l : Nat) (xs : List ByteArray) (w : World) (hk : livesE (fewL xs 13) e0) (hl : xs.length = l) (h : SL w ao xs) (hl1 : l ≤ 9223372036854775807) (hs : ∀ s ∈ xs, s.size ≤ 9223372036854775807) :
    Calls Tryz.prog 9 #[.slice ao l c, .int .i64 n, .int .i64 k] w (RetBool w true) := by
  have hH := Lib.hid h
  have hlH := Lib.hid hl
  have hsH := Lib.hid hs
  have hkH := Lib.hid hk
  obtain ⟨ss, hss⟩ : ∃ ss, ss = fewL xs 13 := ⟨_, rfl⟩
  have hssH := Lib.hid hss
  rw [← hss] at hkH
  have hsm := Lib.hid (show ∀ s ∈ ss, s.size ≤ 40 by rw [hss]; exact fewL_small xs 13)
  have hm13 : ss.length ≤ 13 := by rw [hss]; exact fewL_le xs 13
  obtain ⟨m, hm⟩ : ∃ m, ss.length = m := ⟨_, rfl⟩
  have hmH := Lib.hid hm
  rw [hm] at hm13
  have hrn : Hid (∀ (v : World) (a : Option Addr) (c : Nat), SL v a ss → Calls Tryz.prog 44 #[.slice a m c, .int .i64 z, .int .i64 k] v (RetNumE v e0)) := fun v a c hS => spares_k e0 z k a c m ss v hk0 hkH.out hmH.out hS (by omega) hsm.out
  clear h hl hs hk hss hm
  rcases hk0 with rfl | rfl
  all_goals (
    rcases hz with ⟨h1, h2, rfl⟩ | ⟨h1, h2, rfl⟩ | ⟨h1, rfl⟩
    all_goals (
      go_enter Tryz.func9, Tryz.ntmps9
      go_wp2_with (first
        | (go_at_call 10; go_loud (with_reducible refine (few_n ao c l xs _ hlH.out hH.out hl1 hsH.out).mono ?_); rintro e w1 ⟨a1, c1, rfl, hV1, hb1⟩; rw [← hssH.out] at hV1; have hS1 := Lib.hid (SV.sl hV1); have hb1H := Lib.hid hb1; have r1 := Lib.hid (Below.refl w1.heap.size w1); rw [← hssH.out, hmH.out]; clear hV1 hb1)
        | (go_at_call 44; go_loud (with_reducible refine (hrn.out _ a1 c1 (hS1.out.below r2.out)).mono ?_); rintro e w3 ⟨rfl, hb3⟩; have r3 := Lib.hid (bseq r2.out hb3); clear hb3)
        | (go_at_call 11; (with_reducible refine (livesR_any _ a1 c1 m ss _ hkH.out hmH.out (hS1.out.below r3.out) (by omega) hsm.out).mono ?_); rintro e w4 ⟨rfl, hb4⟩; have r4 := Lib.hid (bseq r3.out hb4); clear hb4)
        | (go_at_call 11; go_loud (with_reducible refine (livesR_any _ a1 c1 m ss _ hkH.out hmH.out (hS1.out.below r1.out) (by omega) hsm.out).mono ?_); rintro e w2 ⟨rfl, hb2⟩; have r2 := Lib.hid (bseq r1.out hb2); clear hb2)
        | (go_at_call 14; go_loud (with_reducible refine (lives_any _).mono ?_); rintro e w5 ⟨rfl, hb5⟩; have r5 := Lib.hid (bseq r4.out hb5); clear hb5))
      go_ret
      exact ⟨rfl, bseq hb1H.out r5.out⟩))

set_option maxRecDepth 100000 in
set_option maxHeartbeats 6400000 in
theorem spLaw_good (n k z y N K : Int) (b : Bool) (nn kk : Nat) (hnn : nn ≤ 40) (hkk : kk ≤ 40) (hN0 : ((nn : Nat) : Int) = N) (hK0 : ((kk : Nat) : Int) = K) (hz : (24 < n ∧ n ≤ 40 ∧ z = 24) ∨ (24 < n ∧ ¬ n ≤ 40 ∧ n = z) ∨ (¬ 24 < n ∧ n = z)) (hy : max (min z 24) (min k 40) = y) (hb : (b = true ∧ z = N ∧ k = K) ∨ (b = false ∧ min z 8 = N ∧ min k 8 = K)) (ao : Option Addr) (c l : Nat) (xs : List ByteArray) (w : World) (hk : livesE (fewL xs 13) 0) (hlt : lightB (fewL xs 13) y = b) (hl : xs.length = l) (h : SL w ao xs) (hl1 : l ≤ 9223372036854775807) (hs : ∀ s ∈ xs, s.size ≤ 9223372036854775807) :
    Calls Tryz.prog 9 #[.slice ao l c, .int .i64 n, .int .i64 k] w (RetBool w true) := by
  have hH := Lib.hid h
  have hlH := Lib.hid hl
  have hsH := Lib.hid hs
  have hkH := Lib.hid hk
  have hltH := Lib.hid hlt
  obtain ⟨ss, hss⟩ : ∃ ss, ss = fewL xs 13 := ⟨_, rfl⟩
  have hssH := Lib.hid hss
  rw [← hss] at hkH hltH
  have hsm := Lib.hid (show ∀ s ∈ ss, s.size ≤ 40 by rw [hss]; exact fewL_small xs 13)
  have hm13 : ss.length ≤ 13 := by rw [hss]; exact fewL_le xs 13
  obtain ⟨m, hm⟩ : ∃ m, ss.length = m := ⟨_, rfl⟩
  have hmH := Lib.hid hm
  rw [hm] at hm13
  have hg : Hid (allOK ss ∧ livesGood (ss.map parseQ)) := by
    rcases hkH.out with ⟨_, h2⟩ | ⟨_, _, h2⟩ | ⟨h1, h2, _⟩
    · exact absurd h2 (by decide)
    · exact absurd h2 (by decide)
    · exact ⟨h1, h2⟩
  obtain ⟨ps, hps⟩ : ∃ ps, ps = ss.map parseQ := ⟨_, rfl⟩
  have hpsH := Lib.hid hps
  have hpl : Hid (ps.length = m) := by show _ = _; rw [hps, List.length_map]; exact hm
  have hlv := Lib.hid (show Lv ps by rw [hps]; exact Lv.of hg.out.2)
  have hp12 : m ≤ 12 := by have := hlv.out.len; rw [hpl.out] at this; exact this
  have hlg : Hid (∀ s ∈ ss, s.size ≤ 4611686018427387904) := fun s hh => by have := hsm.out s hh; omega
  have hr : ∀ (v : World) (a : Option Addr) (c : Nat), SL v a ss → Calls Tryz.prog 49 #[.slice a m c] v (RetLives v ps) := fun v a c hS => by
    have := read_0 a c ss v hS hsm.out hg.out.1 hg.out.2
    rw [← hps, hmH.out] at this
    exact this
  have hrn : Hid (∀ (v : World) (a : Option Addr) (c : Nat), SL v a ss → Calls Tryz.prog 44 #[.slice a m c, .int .i64 N, .int .i64 K] v (RetNumT v (nt (spL ps nn kk).sum))) := fun v a c hS => by
    have := spares_good nn kk hnn hkk a c m ps v (hr v a c hS) (by rw [hpl.out]; exact hp12) (hlv.out.sparesSz hnn hkk)
    rw [hN0, hK0] at this
    exact this
  have hrr : Hid (∀ (v : World) (a : Option Addr) (c : Nat), ZL v a ps → m ≤ c → Calls Tryz.prog 45 #[.slice a m c, .int .i64 N, .int .i64 K] v (RetQ v (rn (spL ps nn kk).sum) (rd (spL ps nn kk).sum))) := fun v a c hS hc => by
    have := sparesR_any nn kk hnn hkk a c m ps v hpl.out hS hp12 hc (hlv.out.spSt hkk)
    rw [hN0, hK0] at this
    exact this
  have hq4 := Lib.hid (hlv.out.spsum4 hnn hkk)
  have g1 : ¬ N < 0 := by omega
  have g2 : ¬ 40 < N := by omega
  have g3 : ¬ K < 0 := by omega
  have g4 : ¬ 40 < K := by omega
  generalize (spL ps nn kk).sum = sq at *
  clear h hl hs hk hss hm hlt hps hr hN0 hK0 hnn hkk
  rcases hz with ⟨h1, h2, rfl⟩ | ⟨h1, h2, rfl⟩ | ⟨h1, rfl⟩
  · have hy2 : max (24 : Int) (min k 40) = y := by rw [← hy]; rfl
    rcases hb with ⟨rfl, hN, hK⟩ | ⟨rfl, hN, hK⟩
    · subst hN hK
      first
      | (exfalso; omega)
      | (
        clear hy
        go_enter Tryz.func9, Tryz.ntmps9
        go_wp2_with (first
          | (go_at_call 10; go_loud (with_reducible refine (few_n ao c l xs _ hlH.out hH.out hl1 hsH.out).mono ?_); rintro e w1 ⟨a1, c1, rfl, hV1, hb1⟩; rw [← hssH.out] at hV1; have hS1 := Lib.hid (SV.sl hV1); have hb1H := Lib.hid hb1; have r1 := Lib.hid (Below.refl w1.heap.size w1); rw [← hssH.out, hmH.out]; clear hV1 hb1)
          | (go_at_call 12; go_loud (with_reducible refine (light_b a1 c1 m _ _ ss _ hltH.out hmH.out (hS1.out.below r2.out) (by omega) hlg.out).mono ?_); rintro e w6 ⟨rfl, hb6⟩; have r6 := Lib.hid (bseq r2.out hb6); clear hb6)
          | (go_at_call 44; go_loud (with_reducible refine (hrn.out _ a1 c1 (hS1.out.below r6.out)).mono ?_); rintro e w3 ⟨rfl, hb3⟩; have r3 := Lib.hid (bseq r6.out hb3); clear hb3)
          | (go_at_call 11; (with_reducible refine (livesR_any 0 a1 c1 m ss _ hkH.out hmH.out (hS1.out.below r3.out) (by omega) hsm.out).mono ?_); rintro e w4 ⟨rfl, hb4⟩; have r4 := Lib.hid (bseq r3.out hb4); clear hb4)
          | (go_at_call 11; go_loud (with_reducible refine (livesR_any 0 a1 c1 m ss _ hkH.out hmH.out (hS1.out.below r1.out) (by omega) hsm.out).mono ?_); rintro e w2 ⟨rfl, hb2⟩; have r2 := Lib.hid (bseq r1.out hb2); clear hb2)
          | (go_at_call 17; go_loud (with_reducible refine (qs_any a1 c1 m ss _ hmH.out (hS1.out.below r4.out) (by omega) hlg.out hg.out.1).mono ?_); rintro e w7 ⟨a7, c7, rfl, hV7, hb7⟩; rw [← hpsH.out] at hV7; have hS7 := Lib.hid (ZV.ql hV7); have hcap7 := ZV.cap hV7 rfl; have r7 := Lib.hid (bseq r4.out hb7); rw [hpl.out] at hcap7; rw [← hpsH.out, hpl.out]; clear hV7 hb7)
          | (go_at_call 45; go_loud (with_reducible refine (hrr.out _ a7 c7 hS7.out hcap7).mono ?_); rintro e w8 ⟨a8, d8, a8', d8', rfl, hm8, hb8⟩; have hm8H := Lib.hid hm8; have r8 := Lib.hid (bseq r7.out hb8); clear hb8 hm8)
          | (go_at_call 25; go_loud (with_reducible refine (is_m (nt sq) a8 d8 a8' d8' sq true _ (by simp) hm8H.out hq4.out).mono ?_); rintro e w9 ⟨rfl, hb9⟩; have r9 := Lib.hid (bseq r8.out hb9); clear hb9)
          | (go_at_call 14; go_loud (with_reducible refine (lives_any _).mono ?_); rintro e w5 ⟨rfl, hb5⟩; have r5 := Lib.hid (bseq r9.out hb5); clear hb5))
        go_ret
        exact ⟨rfl, bseq hb1H.out r5.out⟩)
    · skip
      first
      | (exfalso; omega)
      | (
        clear hy
        go_enter Tryz.func9, Tryz.ntmps9
        go_wp2_with (first
          | (go_at_call 10; go_loud (with_reducible refine (few_n ao c l xs _ hlH.out hH.out hl1 hsH.out).mono ?_); rintro e w1 ⟨a1, c1, rfl, hV1, hb1⟩; rw [← hssH.out] at hV1; have hS1 := Lib.hid (SV.sl hV1); have hb1H := Lib.hid hb1; have r1 := Lib.hid (Below.refl w1.heap.size w1); rw [← hssH.out, hmH.out]; clear hV1 hb1)
          | (go_at_call 12; go_loud (with_reducible refine (light_b a1 c1 m _ _ ss _ hltH.out hmH.out (hS1.out.below r2.out) (by omega) hlg.out).mono ?_); rintro e w6 ⟨rfl, hb6⟩; have r6 := Lib.hid (bseq r2.out hb6); clear hb6)
          | (go_at_call 44; go_loud (with_reducible refine (hrn.out _ a1 c1 (hS1.out.below r6.out)).mono ?_); rintro e w3 ⟨rfl, hb3⟩; have r3 := Lib.hid (bseq r6.out hb3); clear hb3)
          | (go_at_call 11; (with_reducible refine (livesR_any 0 a1 c1 m ss _ hkH.out hmH.out (hS1.out.below r3.out) (by omega) hsm.out).mono ?_); rintro e w4 ⟨rfl, hb4⟩; have r4 := Lib.hid (bseq r3.out hb4); clear hb4)
          | (go_at_call 11; go_loud (with_reducible refine (livesR_any 0 a1 c1 m ss _ hkH.out hmH.out (hS1.out.below r1.out) (by omega) hsm.out).mono ?_); rintro e w2 ⟨rfl, hb2⟩; have r2 := Lib.hid (bseq r1.out hb2); clear hb2)
          | (go_at_call 17; go_loud (with_reducible refine (qs_any a1 c1 m ss _ hmH.out (hS1.out.below r4.out) (by omega) hlg.out hg.out.1).mono ?_); rintro e w7 ⟨a7, c7, rfl, hV7, hb7⟩; rw [← hpsH.out] at hV7; have hS7 := Lib.hid (ZV.ql hV7); have hcap7 := ZV.cap hV7 rfl; have r7 := Lib.hid (bseq r4.out hb7); rw [hpl.out] at hcap7; rw [← hpsH.out, hpl.out]; clear hV7 hb7)
          | (go_at_call 45; go_loud (with_reducible refine (hrr.out _ a7 c7 hS7.out hcap7).mono ?_); rintro e w8 ⟨a8, d8, a8', d8', rfl, hm8, hb8⟩; have hm8H := Lib.hid hm8; have r8 := Lib.hid (bseq r7.out hb8); clear hb8 hm8)
          | (go_at_call 25; go_loud (with_reducible refine (is_m (nt sq) a8 d8 a8' d8' sq true _ (by simp) hm8H.out hq4.out).mono ?_); rintro e w9 ⟨rfl, hb9⟩; have r9 := Lib.hid (bseq r8.out hb9); clear hb9)
          | (go_at_call 14; go_loud (with_reducible refine (lives_any _).mono ?_); rintro e w5 ⟨rfl, hb5⟩; have r5 := Lib.hid (bseq r9.out hb5); clear hb5))
        go_ret
        exact ⟨rfl, bseq hb1H.out r5.out⟩)
  · have hy2 := hy
    rcases hb with ⟨rfl, hN, hK⟩ | ⟨rfl, hN, hK⟩
    · subst hN hK
      first
      | (exfalso; omega)
      | (
        clear hy2
        go_enter Tryz.func9, Tryz.ntmps9
        go_wp2_with (first
          | (go_at_call 10; go_loud (with_reducible refine (few_n ao c l xs _ hlH.out hH.out hl1 hsH.out).mono ?_); rintro e w1 ⟨a1, c1, rfl, hV1, hb1⟩; rw [← hssH.out] at hV1; have hS1 := Lib.hid (SV.sl hV1); have hb1H := Lib.hid hb1; have r1 := Lib.hid (Below.refl w1.heap.size w1); rw [← hssH.out, hmH.out]; clear hV1 hb1)
          | (go_at_call 12; go_loud (with_reducible refine (light_b a1 c1 m _ _ ss _ hltH.out hmH.out (hS1.out.below r2.out) (by omega) hlg.out).mono ?_); rintro e w6 ⟨rfl, hb6⟩; have r6 := Lib.hid (bseq r2.out hb6); clear hb6)
          | (go_at_call 44; go_loud (with_reducible refine (hrn.out _ a1 c1 (hS1.out.below r6.out)).mono ?_); rintro e w3 ⟨rfl, hb3⟩; have r3 := Lib.hid (bseq r6.out hb3); clear hb3)
          | (go_at_call 11; (with_reducible refine (livesR_any 0 a1 c1 m ss _ hkH.out hmH.out (hS1.out.below r3.out) (by omega) hsm.out).mono ?_); rintro e w4 ⟨rfl, hb4⟩; have r4 := Lib.hid (bseq r3.out hb4); clear hb4)
          | (go_at_call 11; go_loud (with_reducible refine (livesR_any 0 a1 c1 m ss _ hkH.out hmH.out (hS1.out.below r1.out) (by omega) hsm.out).mono ?_); rintro e w2 ⟨rfl, hb2⟩; have r2 := Lib.hid (bseq r1.out hb2); clear hb2)
          | (go_at_call 17; go_loud (with_reducible refine (qs_any a1 c1 m ss _ hmH.out (hS1.out.below r4.out) (by omega) hlg.out hg.out.1).mono ?_); rintro e w7 ⟨a7, c7, rfl, hV7, hb7⟩; rw [← hpsH.out] at hV7; have hS7 := Lib.hid (ZV.ql hV7); have hcap7 := ZV.cap hV7 rfl; have r7 := Lib.hid (bseq r4.out hb7); rw [hpl.out] at hcap7; rw [← hpsH.out, hpl.out]; clear hV7 hb7)
          | (go_at_call 45; go_loud (with_reducible refine (hrr.out _ a7 c7 hS7.out hcap7).mono ?_); rintro e w8 ⟨a8, d8, a8', d8', rfl, hm8, hb8⟩; have hm8H := Lib.hid hm8; have r8 := Lib.hid (bseq r7.out hb8); clear hb8 hm8)
          | (go_at_call 25; go_loud (with_reducible refine (is_m (nt sq) a8 d8 a8' d8' sq true _ (by simp) hm8H.out hq4.out).mono ?_); rintro e w9 ⟨rfl, hb9⟩; have r9 := Lib.hid (bseq r8.out hb9); clear hb9)
          | (go_at_call 14; go_loud (with_reducible refine (lives_any _).mono ?_); rintro e w5 ⟨rfl, hb5⟩; have r5 := Lib.hid (bseq r9.out hb5); clear hb5))
        go_ret
        exact ⟨rfl, bseq hb1H.out r5.out⟩)
    · skip
      first
      | (exfalso; omega)
      | (
        clear hy2
        go_enter Tryz.func9, Tryz.ntmps9
        go_wp2_with (first
          | (go_at_call 10; go_loud (with_reducible refine (few_n ao c l xs _ hlH.out hH.out hl1 hsH.out).mono ?_); rintro e w1 ⟨a1, c1, rfl, hV1, hb1⟩; rw [← hssH.out] at hV1; have hS1 := Lib.hid (SV.sl hV1); have hb1H := Lib.hid hb1; have r1 := Lib.hid (Below.refl w1.heap.size w1); rw [← hssH.out, hmH.out]; clear hV1 hb1)
          | (go_at_call 12; go_loud (with_reducible refine (light_b a1 c1 m _ _ ss _ hltH.out hmH.out (hS1.out.below r2.out) (by omega) hlg.out).mono ?_); rintro e w6 ⟨rfl, hb6⟩; have r6 := Lib.hid (bseq r2.out hb6); clear hb6)
          | (go_at_call 44; go_loud (with_reducible refine (hrn.out _ a1 c1 (hS1.out.below r6.out)).mono ?_); rintro e w3 ⟨rfl, hb3⟩; have r3 := Lib.hid (bseq r6.out hb3); clear hb3)
          | (go_at_call 11; (with_reducible refine (livesR_any 0 a1 c1 m ss _ hkH.out hmH.out (hS1.out.below r3.out) (by omega) hsm.out).mono ?_); rintro e w4 ⟨rfl, hb4⟩; have r4 := Lib.hid (bseq r3.out hb4); clear hb4)
          | (go_at_call 11; go_loud (with_reducible refine (livesR_any 0 a1 c1 m ss _ hkH.out hmH.out (hS1.out.below r1.out) (by omega) hsm.out).mono ?_); rintro e w2 ⟨rfl, hb2⟩; have r2 := Lib.hid (bseq r1.out hb2); clear hb2)
          | (go_at_call 17; go_loud (with_reducible refine (qs_any a1 c1 m ss _ hmH.out (hS1.out.below r4.out) (by omega) hlg.out hg.out.1).mono ?_); rintro e w7 ⟨a7, c7, rfl, hV7, hb7⟩; rw [← hpsH.out] at hV7; have hS7 := Lib.hid (ZV.ql hV7); have hcap7 := ZV.cap hV7 rfl; have r7 := Lib.hid (bseq r4.out hb7); rw [hpl.out] at hcap7; rw [← hpsH.out, hpl.out]; clear hV7 hb7)
          | (go_at_call 45; go_loud (with_reducible refine (hrr.out _ a7 c7 hS7.out hcap7).mono ?_); rintro e w8 ⟨a8, d8, a8', d8', rfl, hm8, hb8⟩; have hm8H := Lib.hid hm8; have r8 := Lib.hid (bseq r7.out hb8); clear hb8 hm8)
          | (go_at_call 25; go_loud (with_reducible refine (is_m (nt sq) a8 d8 a8' d8' sq true _ (by simp) hm8H.out hq4.out).mono ?_); rintro e w9 ⟨rfl, hb9⟩; have r9 := Lib.hid (bseq r8.out hb9); clear hb9)
          | (go_at_call 14; go_loud (with_reducible refine (lives_any _).mono ?_); rintro e w5 ⟨rfl, hb5⟩; have r5 := Lib.hid (bseq r9.out hb5); clear hb5))
        go_ret
        exact ⟨rfl, bseq hb1H.out r5.out⟩)
  · have hy2 := hy
    rcases hb with ⟨rfl, hN, hK⟩ | ⟨rfl, hN, hK⟩
    · subst hN hK
      first
      | (exfalso; omega)
      | (
        clear hy2
        go_enter Tryz.func9, Tryz.ntmps9
        go_wp2_with (first
          | (go_at_call 10; go_loud (with_reducible refine (few_n ao c l xs _ hlH.out hH.out hl1 hsH.out).mono ?_); rintro e w1 ⟨a1, c1, rfl, hV1, hb1⟩; rw [← hssH.out] at hV1; have hS1 := Lib.hid (SV.sl hV1); have hb1H := Lib.hid hb1; have r1 := Lib.hid (Below.refl w1.heap.size w1); rw [← hssH.out, hmH.out]; clear hV1 hb1)
          | (go_at_call 12; go_loud (with_reducible refine (light_b a1 c1 m _ _ ss _ hltH.out hmH.out (hS1.out.below r2.out) (by omega) hlg.out).mono ?_); rintro e w6 ⟨rfl, hb6⟩; have r6 := Lib.hid (bseq r2.out hb6); clear hb6)
          | (go_at_call 44; go_loud (with_reducible refine (hrn.out _ a1 c1 (hS1.out.below r6.out)).mono ?_); rintro e w3 ⟨rfl, hb3⟩; have r3 := Lib.hid (bseq r6.out hb3); clear hb3)
          | (go_at_call 11; (with_reducible refine (livesR_any 0 a1 c1 m ss _ hkH.out hmH.out (hS1.out.below r3.out) (by omega) hsm.out).mono ?_); rintro e w4 ⟨rfl, hb4⟩; have r4 := Lib.hid (bseq r3.out hb4); clear hb4)
          | (go_at_call 11; go_loud (with_reducible refine (livesR_any 0 a1 c1 m ss _ hkH.out hmH.out (hS1.out.below r1.out) (by omega) hsm.out).mono ?_); rintro e w2 ⟨rfl, hb2⟩; have r2 := Lib.hid (bseq r1.out hb2); clear hb2)
          | (go_at_call 17; go_loud (with_reducible refine (qs_any a1 c1 m ss _ hmH.out (hS1.out.below r4.out) (by omega) hlg.out hg.out.1).mono ?_); rintro e w7 ⟨a7, c7, rfl, hV7, hb7⟩; rw [← hpsH.out] at hV7; have hS7 := Lib.hid (ZV.ql hV7); have hcap7 := ZV.cap hV7 rfl; have r7 := Lib.hid (bseq r4.out hb7); rw [hpl.out] at hcap7; rw [← hpsH.out, hpl.out]; clear hV7 hb7)
          | (go_at_call 45; go_loud (with_reducible refine (hrr.out _ a7 c7 hS7.out hcap7).mono ?_); rintro e w8 ⟨a8, d8, a8', d8', rfl, hm8, hb8⟩; have hm8H := Lib.hid hm8; have r8 := Lib.hid (bseq r7.out hb8); clear hb8 hm8)
          | (go_at_call 25; go_loud (with_reducible refine (is_m (nt sq) a8 d8 a8' d8' sq true _ (by simp) hm8H.out hq4.out).mono ?_); rintro e w9 ⟨rfl, hb9⟩; have r9 := Lib.hid (bseq r8.out hb9); clear hb9)
          | (go_at_call 14; go_loud (with_reducible refine (lives_any _).mono ?_); rintro e w5 ⟨rfl, hb5⟩; have r5 := Lib.hid (bseq r9.out hb5); clear hb5))
        go_ret
        exact ⟨rfl, bseq hb1H.out r5.out⟩)
    · skip
      first
      | (exfalso; omega)
      | (
        clear hy2
        go_enter Tryz.func9, Tryz.ntmps9
        go_wp2_with (first
          | (go_at_call 10; go_loud (with_reducible refine (few_n ao c l xs _ hlH.out hH.out hl1 hsH.out).mono ?_); rintro e w1 ⟨a1, c1, rfl, hV1, hb1⟩; rw [← hssH.out] at hV1; have hS1 := Lib.hid (SV.sl hV1); have hb1H := Lib.hid hb1; have r1 := Lib.hid (Below.refl w1.heap.size w1); rw [← hssH.out, hmH.out]; clear hV1 hb1)
          | (go_at_call 12; go_loud (with_reducible refine (light_b a1 c1 m _ _ ss _ hltH.out hmH.out (hS1.out.below r2.out) (by omega) hlg.out).mono ?_); rintro e w6 ⟨rfl, hb6⟩; have r6 := Lib.hid (bseq r2.out hb6); clear hb6)
          | (go_at_call 44; go_loud (with_reducible refine (hrn.out _ a1 c1 (hS1.out.below r6.out)).mono ?_); rintro e w3 ⟨rfl, hb3⟩; have r3 := Lib.hid (bseq r6.out hb3); clear hb3)
          | (go_at_call 11; (with_reducible refine (livesR_any 0 a1 c1 m ss _ hkH.out hmH.out (hS1.out.below r3.out) (by omega) hsm.out).mono ?_); rintro e w4 ⟨rfl, hb4⟩; have r4 := Lib.hid (bseq r3.out hb4); clear hb4)
          | (go_at_call 11; go_loud (with_reducible refine (livesR_any 0 a1 c1 m ss _ hkH.out hmH.out (hS1.out.below r1.out) (by omega) hsm.out).mono ?_); rintro e w2 ⟨rfl, hb2⟩; have r2 := Lib.hid (bseq r1.out hb2); clear hb2)
          | (go_at_call 17; go_loud (with_reducible refine (qs_any a1 c1 m ss _ hmH.out (hS1.out.below r4.out) (by omega) hlg.out hg.out.1).mono ?_); rintro e w7 ⟨a7, c7, rfl, hV7, hb7⟩; rw [← hpsH.out] at hV7; have hS7 := Lib.hid (ZV.ql hV7); have hcap7 := ZV.cap hV7 rfl; have r7 := Lib.hid (bseq r4.out hb7); rw [hpl.out] at hcap7; rw [← hpsH.out, hpl.out]; clear hV7 hb7)
          | (go_at_call 45; go_loud (with_reducible refine (hrr.out _ a7 c7 hS7.out hcap7).mono ?_); rintro e w8 ⟨a8, d8, a8', d8', rfl, hm8, hb8⟩; have hm8H := Lib.hid hm8; have r8 := Lib.hid (bseq r7.out hb8); clear hb8 hm8)
          | (go_at_call 25; go_loud (with_reducible refine (is_m (nt sq) a8 d8 a8' d8' sq true _ (by simp) hm8H.out hq4.out).mono ?_); rintro e w9 ⟨rfl, hb9⟩; have r9 := Lib.hid (bseq r8.out hb9); clear hb9)
          | (go_at_call 14; go_loud (with_reducible refine (lives_any _).mono ?_); rintro e w5 ⟨rfl, hb5⟩; have r5 := Lib.hid (bseq r9.out hb5); clear hb5))
        go_ret
        exact ⟨rfl, bseq hb1H.out r5.out⟩)

set_option maxRecDepth 100000 in
set_option maxHeartbeats 6400000 in
theorem spLaw_out (n k z y N K : Int) (b : Bool) (hout : N < 0 ∨ 40 < N ∨ K < 0 ∨ 40 < K) (hz : (24 < n ∧ n ≤ 40 ∧ z = 24) ∨ (24 < n ∧ ¬ n ≤ 40 ∧ n = z) ∨ (¬ 24 < n ∧ n = z)) (hy : max (min z 24) (min k 40) = y) (hb : (b = true ∧ z = N ∧ k = K) ∨ (b = false ∧ min z 8 = N ∧ min k 8 = K)) (ao : Option Addr) (c l : Nat) (xs : List ByteArray) (w : World) (hk : livesE (fewL xs 13) 0) (hlt : lightB (fewL xs 13) y = b) (hl : xs.length = l) (h : SL w ao xs) (hl1 : l ≤ 9223372036854775807) (hs : ∀ s ∈ xs, s.size ≤ 9223372036854775807) :
    Calls Tryz.prog 9 #[.slice ao l c, .int .i64 n, .int .i64 k] w (RetBool w true) := by
  have hH := Lib.hid h
  have hlH := Lib.hid hl
  have hsH := Lib.hid hs
  have hkH := Lib.hid hk
  have hltH := Lib.hid hlt
  obtain ⟨ss, hss⟩ : ∃ ss, ss = fewL xs 13 := ⟨_, rfl⟩
  have hssH := Lib.hid hss
  rw [← hss] at hkH hltH
  have hsm := Lib.hid (show ∀ s ∈ ss, s.size ≤ 40 by rw [hss]; exact fewL_small xs 13)
  have hm13 : ss.length ≤ 13 := by rw [hss]; exact fewL_le xs 13
  obtain ⟨m, hm⟩ : ∃ m, ss.length = m := ⟨_, rfl⟩
  have hmH := Lib.hid hm
  rw [hm] at hm13
  have hg : Hid (allOK ss ∧ livesGood (ss.map parseQ)) := by
    rcases hkH.out with ⟨_, h2⟩ | ⟨_, _, h2⟩ | ⟨h1, h2, _⟩
    · exact absurd h2 (by decide)
    · exact absurd h2 (by decide)
    · exact ⟨h1, h2⟩
  obtain ⟨ps, hps⟩ : ∃ ps, ps = ss.map parseQ := ⟨_, rfl⟩
  have hpsH := Lib.hid hps
  have hpl : Hid (ps.length = m) := by show _ = _; rw [hps, List.length_map]; exact hm
  have hlv := Lib.hid (show Lv ps by rw [hps]; exact Lv.of hg.out.2)
  have hp12 : m ≤ 12 := by have := hlv.out.len; rw [hpl.out] at this; exact this
  have hlg : Hid (∀ s ∈ ss, s.size ≤ 4611686018427387904) := fun s hh => by have := hsm.out s hh; omega
  have hr : ∀ (v : World) (a : Option Addr) (c : Nat), SL v a ss → Calls Tryz.prog 49 #[.slice a m c] v (RetLives v ps) := fun v a c hS => by
    have := read_0 a c ss v hS hsm.out hg.out.1 hg.out.2
    rw [← hps, hmH.out] at this
    exact this
  have hrn : Hid (∀ (v : World) (a : Option Addr) (c : Nat), SL v a ss → Calls Tryz.prog 44 #[.slice a m c, .int .i64 N, .int .i64 K] v (RetNumE v 1)) := fun v a c hS => spares_out N K hout a c m ps v (hr v a c hS)
  clear h hl hs hk hss hm hlt hps hr
  have hd : (N < 0) ∨ (¬ N < 0 ∧ 40 < N) ∨ (¬ N < 0 ∧ ¬ 40 < N ∧ K < 0) ∨ (¬ N < 0 ∧ ¬ 40 < N ∧ ¬ K < 0 ∧ 40 < K) := by omega
  clear hout
  rcases hd with g1 | ⟨g1, g2⟩ | ⟨g1, g2, g3⟩ | ⟨g1, g2, g3, g4⟩
  all_goals (
    rcases hz with ⟨h1, h2, rfl⟩ | ⟨h1, h2, rfl⟩ | ⟨h1, rfl⟩
    · have hy2 : max (24 : Int) (min k 40) = y := by rw [← hy]; rfl
      rcases hb with ⟨rfl, hN, hK⟩ | ⟨rfl, hN, hK⟩
      · subst hN hK
        first
        | (exfalso; omega)
        | (
          clear hy
          go_enter Tryz.func9, Tryz.ntmps9
          go_wp2_with (first
            | (go_at_call 10; go_loud (with_reducible refine (few_n ao c l xs _ hlH.out hH.out hl1 hsH.out).mono ?_); rintro e w1 ⟨a1, c1, rfl, hV1, hb1⟩; rw [← hssH.out] at hV1; have hS1 := Lib.hid (SV.sl hV1); have hb1H := Lib.hid hb1; have r1 := Lib.hid (Below.refl w1.heap.size w1); rw [← hssH.out, hmH.out]; clear hV1 hb1)
            | (go_at_call 12; go_loud (with_reducible refine (light_b a1 c1 m _ _ ss _ hltH.out hmH.out (hS1.out.below r2.out) (by omega) hlg.out).mono ?_); rintro e w6 ⟨rfl, hb6⟩; have r6 := Lib.hid (bseq r2.out hb6); clear hb6)
            | (go_at_call 44; go_loud (with_reducible refine (hrn.out _ a1 c1 (hS1.out.below r6.out)).mono ?_); rintro e w3 ⟨rfl, hb3⟩; have r3 := Lib.hid (bseq r6.out hb3); clear hb3)
            | (go_at_call 11; (with_reducible refine (livesR_any 0 a1 c1 m ss _ hkH.out hmH.out (hS1.out.below r3.out) (by omega) hsm.out).mono ?_); rintro e w4 ⟨rfl, hb4⟩; have r4 := Lib.hid (bseq r3.out hb4); clear hb4)
            | (go_at_call 11; go_loud (with_reducible refine (livesR_any 0 a1 c1 m ss _ hkH.out hmH.out (hS1.out.below r1.out) (by omega) hsm.out).mono ?_); rintro e w2 ⟨rfl, hb2⟩; have r2 := Lib.hid (bseq r1.out hb2); clear hb2)
            | (go_at_call 14; go_loud (with_reducible refine (lives_any _).mono ?_); rintro e w5 ⟨rfl, hb5⟩; have r5 := Lib.hid (bseq r4.out hb5); clear hb5))
          go_ret
          exact ⟨rfl, bseq hb1H.out r5.out⟩)
      · skip
        first
        | (exfalso; omega)
        | (
          clear hy
          go_enter Tryz.func9, Tryz.ntmps9
          go_wp2_with (first
            | (go_at_call 10; go_loud (with_reducible refine (few_n ao c l xs _ hlH.out hH.out hl1 hsH.out).mono ?_); rintro e w1 ⟨a1, c1, rfl, hV1, hb1⟩; rw [← hssH.out] at hV1; have hS1 := Lib.hid (SV.sl hV1); have hb1H := Lib.hid hb1; have r1 := Lib.hid (Below.refl w1.heap.size w1); rw [← hssH.out, hmH.out]; clear hV1 hb1)
            | (go_at_call 12; go_loud (with_reducible refine (light_b a1 c1 m _ _ ss _ hltH.out hmH.out (hS1.out.below r2.out) (by omega) hlg.out).mono ?_); rintro e w6 ⟨rfl, hb6⟩; have r6 := Lib.hid (bseq r2.out hb6); clear hb6)
            | (go_at_call 44; go_loud (with_reducible refine (hrn.out _ a1 c1 (hS1.out.below r6.out)).mono ?_); rintro e w3 ⟨rfl, hb3⟩; have r3 := Lib.hid (bseq r6.out hb3); clear hb3)
            | (go_at_call 11; (with_reducible refine (livesR_any 0 a1 c1 m ss _ hkH.out hmH.out (hS1.out.below r3.out) (by omega) hsm.out).mono ?_); rintro e w4 ⟨rfl, hb4⟩; have r4 := Lib.hid (bseq r3.out hb4); clear hb4)
            | (go_at_call 11; go_loud (with_reducible refine (livesR_any 0 a1 c1 m ss _ hkH.out hmH.out (hS1.out.below r1.out) (by omega) hsm.out).mono ?_); rintro e w2 ⟨rfl, hb2⟩; have r2 := Lib.hid (bseq r1.out hb2); clear hb2)
            | (go_at_call 14; go_loud (with_reducible refine (lives_any _).mono ?_); rintro e w5 ⟨rfl, hb5⟩; have r5 := Lib.hid (bseq r4.out hb5); clear hb5))
          go_ret
          exact ⟨rfl, bseq hb1H.out r5.out⟩)
    · have hy2 := hy
      rcases hb with ⟨rfl, hN, hK⟩ | ⟨rfl, hN, hK⟩
      · subst hN hK
        first
        | (exfalso; omega)
        | (
          clear hy2
          go_enter Tryz.func9, Tryz.ntmps9
          go_wp2_with (first
            | (go_at_call 10; go_loud (with_reducible refine (few_n ao c l xs _ hlH.out hH.out hl1 hsH.out).mono ?_); rintro e w1 ⟨a1, c1, rfl, hV1, hb1⟩; rw [← hssH.out] at hV1; have hS1 := Lib.hid (SV.sl hV1); have hb1H := Lib.hid hb1; have r1 := Lib.hid (Below.refl w1.heap.size w1); rw [← hssH.out, hmH.out]; clear hV1 hb1)
            | (go_at_call 12; go_loud (with_reducible refine (light_b a1 c1 m _ _ ss _ hltH.out hmH.out (hS1.out.below r2.out) (by omega) hlg.out).mono ?_); rintro e w6 ⟨rfl, hb6⟩; have r6 := Lib.hid (bseq r2.out hb6); clear hb6)
            | (go_at_call 44; go_loud (with_reducible refine (hrn.out _ a1 c1 (hS1.out.below r6.out)).mono ?_); rintro e w3 ⟨rfl, hb3⟩; have r3 := Lib.hid (bseq r6.out hb3); clear hb3)
            | (go_at_call 11; (with_reducible refine (livesR_any 0 a1 c1 m ss _ hkH.out hmH.out (hS1.out.below r3.out) (by omega) hsm.out).mono ?_); rintro e w4 ⟨rfl, hb4⟩; have r4 := Lib.hid (bseq r3.out hb4); clear hb4)
            | (go_at_call 11; go_loud (with_reducible refine (livesR_any 0 a1 c1 m ss _ hkH.out hmH.out (hS1.out.below r1.out) (by omega) hsm.out).mono ?_); rintro e w2 ⟨rfl, hb2⟩; have r2 := Lib.hid (bseq r1.out hb2); clear hb2)
            | (go_at_call 14; go_loud (with_reducible refine (lives_any _).mono ?_); rintro e w5 ⟨rfl, hb5⟩; have r5 := Lib.hid (bseq r4.out hb5); clear hb5))
          go_ret
          exact ⟨rfl, bseq hb1H.out r5.out⟩)
      · skip
        first
        | (exfalso; omega)
        | (
          clear hy2
          go_enter Tryz.func9, Tryz.ntmps9
          go_wp2_with (first
            | (go_at_call 10; go_loud (with_reducible refine (few_n ao c l xs _ hlH.out hH.out hl1 hsH.out).mono ?_); rintro e w1 ⟨a1, c1, rfl, hV1, hb1⟩; rw [← hssH.out] at hV1; have hS1 := Lib.hid (SV.sl hV1); have hb1H := Lib.hid hb1; have r1 := Lib.hid (Below.refl w1.heap.size w1); rw [← hssH.out, hmH.out]; clear hV1 hb1)
            | (go_at_call 12; go_loud (with_reducible refine (light_b a1 c1 m _ _ ss _ hltH.out hmH.out (hS1.out.below r2.out) (by omega) hlg.out).mono ?_); rintro e w6 ⟨rfl, hb6⟩; have r6 := Lib.hid (bseq r2.out hb6); clear hb6)
            | (go_at_call 44; go_loud (with_reducible refine (hrn.out _ a1 c1 (hS1.out.below r6.out)).mono ?_); rintro e w3 ⟨rfl, hb3⟩; have r3 := Lib.hid (bseq r6.out hb3); clear hb3)
            | (go_at_call 11; (with_reducible refine (livesR_any 0 a1 c1 m ss _ hkH.out hmH.out (hS1.out.below r3.out) (by omega) hsm.out).mono ?_); rintro e w4 ⟨rfl, hb4⟩; have r4 := Lib.hid (bseq r3.out hb4); clear hb4)
            | (go_at_call 11; go_loud (with_reducible refine (livesR_any 0 a1 c1 m ss _ hkH.out hmH.out (hS1.out.below r1.out) (by omega) hsm.out).mono ?_); rintro e w2 ⟨rfl, hb2⟩; have r2 := Lib.hid (bseq r1.out hb2); clear hb2)
            | (go_at_call 14; go_loud (with_reducible refine (lives_any _).mono ?_); rintro e w5 ⟨rfl, hb5⟩; have r5 := Lib.hid (bseq r4.out hb5); clear hb5))
          go_ret
          exact ⟨rfl, bseq hb1H.out r5.out⟩)
    · have hy2 := hy
      rcases hb with ⟨rfl, hN, hK⟩ | ⟨rfl, hN, hK⟩
      · subst hN hK
        first
        | (exfalso; omega)
        | (
          clear hy2
          go_enter Tryz.func9, Tryz.ntmps9
          go_wp2_with (first
            | (go_at_call 10; go_loud (with_reducible refine (few_n ao c l xs _ hlH.out hH.out hl1 hsH.out).mono ?_); rintro e w1 ⟨a1, c1, rfl, hV1, hb1⟩; rw [← hssH.out] at hV1; have hS1 := Lib.hid (SV.sl hV1); have hb1H := Lib.hid hb1; have r1 := Lib.hid (Below.refl w1.heap.size w1); rw [← hssH.out, hmH.out]; clear hV1 hb1)
            | (go_at_call 12; go_loud (with_reducible refine (light_b a1 c1 m _ _ ss _ hltH.out hmH.out (hS1.out.below r2.out) (by omega) hlg.out).mono ?_); rintro e w6 ⟨rfl, hb6⟩; have r6 := Lib.hid (bseq r2.out hb6); clear hb6)
            | (go_at_call 44; go_loud (with_reducible refine (hrn.out _ a1 c1 (hS1.out.below r6.out)).mono ?_); rintro e w3 ⟨rfl, hb3⟩; have r3 := Lib.hid (bseq r6.out hb3); clear hb3)
            | (go_at_call 11; (with_reducible refine (livesR_any 0 a1 c1 m ss _ hkH.out hmH.out (hS1.out.below r3.out) (by omega) hsm.out).mono ?_); rintro e w4 ⟨rfl, hb4⟩; have r4 := Lib.hid (bseq r3.out hb4); clear hb4)
            | (go_at_call 11; go_loud (with_reducible refine (livesR_any 0 a1 c1 m ss _ hkH.out hmH.out (hS1.out.below r1.out) (by omega) hsm.out).mono ?_); rintro e w2 ⟨rfl, hb2⟩; have r2 := Lib.hid (bseq r1.out hb2); clear hb2)
            | (go_at_call 14; go_loud (with_reducible refine (lives_any _).mono ?_); rintro e w5 ⟨rfl, hb5⟩; have r5 := Lib.hid (bseq r4.out hb5); clear hb5))
          go_ret
          exact ⟨rfl, bseq hb1H.out r5.out⟩)
      · skip
        first
        | (exfalso; omega)
        | (
          clear hy2
          go_enter Tryz.func9, Tryz.ntmps9
          go_wp2_with (first
            | (go_at_call 10; go_loud (with_reducible refine (few_n ao c l xs _ hlH.out hH.out hl1 hsH.out).mono ?_); rintro e w1 ⟨a1, c1, rfl, hV1, hb1⟩; rw [← hssH.out] at hV1; have hS1 := Lib.hid (SV.sl hV1); have hb1H := Lib.hid hb1; have r1 := Lib.hid (Below.refl w1.heap.size w1); rw [← hssH.out, hmH.out]; clear hV1 hb1)
            | (go_at_call 12; go_loud (with_reducible refine (light_b a1 c1 m _ _ ss _ hltH.out hmH.out (hS1.out.below r2.out) (by omega) hlg.out).mono ?_); rintro e w6 ⟨rfl, hb6⟩; have r6 := Lib.hid (bseq r2.out hb6); clear hb6)
            | (go_at_call 44; go_loud (with_reducible refine (hrn.out _ a1 c1 (hS1.out.below r6.out)).mono ?_); rintro e w3 ⟨rfl, hb3⟩; have r3 := Lib.hid (bseq r6.out hb3); clear hb3)
            | (go_at_call 11; (with_reducible refine (livesR_any 0 a1 c1 m ss _ hkH.out hmH.out (hS1.out.below r3.out) (by omega) hsm.out).mono ?_); rintro e w4 ⟨rfl, hb4⟩; have r4 := Lib.hid (bseq r3.out hb4); clear hb4)
            | (go_at_call 11; go_loud (with_reducible refine (livesR_any 0 a1 c1 m ss _ hkH.out hmH.out (hS1.out.below r1.out) (by omega) hsm.out).mono ?_); rintro e w2 ⟨rfl, hb2⟩; have r2 := Lib.hid (bseq r1.out hb2); clear hb2)
            | (go_at_call 14; go_loud (with_reducible refine (lives_any _).mono ?_); rintro e w5 ⟨rfl, hb5⟩; have r5 := Lib.hid (bseq r4.out hb5); clear hb5))
          go_ret
          exact ⟨rfl, bseq hb1H.out r5.out⟩))

/-- The law holds. -/
theorem spLaw_any (n k : Int) (ao : Option Addr) (c l : Nat) (xs : List ByteArray) (w : World) (hl : xs.length = l) (h : SL w ao xs) (hl1 : l ≤ 9223372036854775807) (hs : ∀ s ∈ xs, s.size ≤ 9223372036854775807) :
    Calls Tryz.prog 9 #[.slice ao l c, .int .i64 n, .int .i64 k] w (RetBool w true) := by
  obtain ⟨z, hz⟩ : ∃ z : Int, (24 < n ∧ n ≤ 40 ∧ z = 24) ∨ (24 < n ∧ ¬ n ≤ 40 ∧ n = z) ∨ (¬ 24 < n ∧ n = z) := by
    by_cases h1 : 24 < n
    · by_cases h2 : n ≤ 40
      · exact ⟨24, Or.inl ⟨h1, h2, rfl⟩⟩
      · exact ⟨n, Or.inr (Or.inl ⟨h1, h2, rfl⟩)⟩
    · exact ⟨n, Or.inr (Or.inr ⟨h1, rfl⟩)⟩
  obtain ⟨e0, he⟩ := livesE.ex (fewL xs 13)
  have he2 := he
  rcases he2 with ⟨_, rfl⟩ | ⟨_, _, rfl⟩ | ⟨_, _, rfl⟩
  · exact spLaw_bad 2 n k z (Or.inr rfl) hz ao c l xs w he hl h hl1 hs
  · exact spLaw_bad 1 n k z (Or.inl rfl) hz ao c l xs w he hl h hl1 hs
  · obtain ⟨b, hb⟩ : ∃ b, lightB (fewL xs 13) (max (min z 24) (min k 40)) = b := ⟨_, rfl⟩
    obtain ⟨N, K, hNK⟩ : ∃ N K : Int, (b = true ∧ z = N ∧ k = K) ∨ (b = false ∧ min z 8 = N ∧ min k 8 = K) := by
      cases b
      · exact ⟨_, _, Or.inr ⟨rfl, rfl, rfl⟩⟩
      · exact ⟨_, _, Or.inl ⟨rfl, rfl, rfl⟩⟩
    by_cases hout : N < 0 ∨ 40 < N ∨ K < 0 ∨ 40 < K
    · exact spLaw_out n k z _ N K b hout hz rfl hNK ao c l xs w he hb hl h hl1 hs
    · exact spLaw_good n k z _ N K b N.toNat K.toNat (by omega) (by omega) (by omega) (by omega) hz rfl hNK ao c l xs w he hb hl h hl1 hs

end Go.Proofs.YtcaeonpjokkjnaaGreat
