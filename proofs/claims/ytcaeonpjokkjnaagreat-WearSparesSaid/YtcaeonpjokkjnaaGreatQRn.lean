/- Rn -/
import Derived.Test.YtcaeonpjokkjnaaGreatQYj
import Derived.Test.YtcaeonpjokkjnaaGreatQWt
import Derived.Test.YtcaeonpjokkjnaaGreatQWu
set_option linter.unusedVariables false
/- Walk of the law WearRenews. -/
namespace Go.Proofs.YtcaeonpjokkjnaaGreat
open Go Go.RowKit Go.Proofs

theorem SV.cap {w : World} {base n c : Nat} {ao : Option Addr} {ss : List ByteArray} (h : SV w base (.slice ao n c) ss) (hn : ss.length = n) : n ≤ c := by
  rcases h.1.2 with ⟨h1, h2⟩ | ⟨g', cap', cur, hv, _, _, hc, _⟩
  · injection h1 with _ h3 _; omega
  · injection hv with _ h3 h4; omega
theorem fewL_small (xs : List ByteArray) (n : Nat) : ∀ s ∈ fewL xs n, s.size ≤ 40 := fun s hs => by
  obtain ⟨t, _, rfl⟩ := List.mem_map.1 hs
  exact cut40_size t
theorem fewL_le (xs : List ByteArray) (n : Nat) : (fewL xs n).length ≤ n := by
  unfold fewL
  rw [List.length_map, List.length_take]
  exact Nat.min_le_left _ _
theorem few_n (ao : Option Addr) (c l : Nat) (xs : List ByteArray) (w : World) (hl : xs.length = l) (h : SL w ao xs) (hl1 : l ≤ 9223372036854775807) (hs : ∀ s ∈ xs, s.size ≤ 9223372036854775807) :
    Calls Tryz.prog 10 #[.slice ao l c, .int .i64 13] w (RetTxts w (fewL xs 13)) := few_any ao c l 13 xs w hl h hl1 (by omega) hs
theorem light_b (ao : Option Addr) (c l : Nat) (n : Int) (b : Bool) (xs : List ByteArray) (w : World) (hb : lightB xs n = b) (hl : xs.length = l) (h : SL w ao xs) (hl1 : l ≤ 1000000000) (hs : ∀ s ∈ xs, s.size ≤ 4611686018427387904) :
    Calls Tryz.prog 12 #[.slice ao l c, .int .i64 n] w (RetBool w b) := by subst hb; exact light_any ao c l n xs w hl h hl1 hs

theorem Lv.u4 {ps : List Rat} (h : Lv ps) {k : Nat} (hk : k ≤ 40) : ∀ q ∈ uL ps k, Short4 q := fun q hq => by
  obtain ⟨a, b, c⟩ := h.us k q hq
  have hd := Nat.pow_pos (n := k) (dens_pos ps)
  obtain ⟨p1, p2⟩ := (c.bd (k := 1) a (by exact b)).parts hd
  have h1 := small (k := 1) (h.pow (k := k) (by omega)) (by omega) (by omega)
  exact ⟨by omega, by omega⟩

theorem are_t (ao bo : Option Addr) (c d n : Nat) (qs : List Rat) (w : World) (hm : qs.length = n) (hA : SL w ao (qs.map nt)) (hB : ZL w bo qs) (hn1 : n ≤ 1000000000) (hq4 : ∀ q ∈ qs, Short4 q) (hc : n ≤ c) (hd : n ≤ d) :
    Calls Tryz.prog 15 #[.slice ao n c, .slice bo n d] w (RetBool w true) := by
  have := are_any ao bo c d n n (qs.map nt) qs w (by rw [List.length_map]; exact hm) hm hA hB hn1 hn1 hq4 hc hd
  simpa using this

/-- What Lives answers of texts. -/
def livesE (ss : List ByteArray) (k : Int) : Prop := (¬ allOK ss ∧ k = 2) ∨ (allOK ss ∧ ¬ livesGood (ss.map parseQ) ∧ k = 1) ∨ (allOK ss ∧ livesGood (ss.map parseQ) ∧ k = 0)
theorem livesE.ex (ss : List ByteArray) : ∃ k, livesE ss k := by
  by_cases h : allOK ss
  · by_cases h2 : livesGood (ss.map parseQ)
    · exact ⟨0, Or.inr (Or.inr ⟨h, h2, rfl⟩)⟩
    · exact ⟨1, Or.inr (Or.inl ⟨h, h2, rfl⟩)⟩
  · exact ⟨2, Or.inl ⟨h, rfl⟩⟩
theorem livesR_any (k : Int) (ao : Option Addr) (c n : Nat) (ss : List ByteArray) (w : World) (hk : livesE ss k) (hl : ss.length = n) (h : SL w ao ss) (hn : n ≤ 1000) (hs : ∀ s ∈ ss, s.size ≤ 40) :
    Calls Tryz.prog 11 #[.slice ao n c] w (RetNum w k) := by
  rcases hk with ⟨h1, rfl⟩ | ⟨h1, h2, rfl⟩ | ⟨h1, h2, rfl⟩
  · exact livesR_2 ao c n ss w hl h (by omega) (fun s hh => by have := hs s hh; omega) h1
  · exact livesR_ok 1 ao c n ss w hl h hn hs h1 (Or.inr ⟨h2, rfl⟩)
  · exact livesR_ok 0 ao c n ss w hl h hn hs h1 (Or.inl ⟨h2, rfl⟩)
theorem renew_k (k n : Int) (ao : Option Addr) (c l : Nat) (ss : List ByteArray) (w : World) (hk0 : k = 1 ∨ k = 2) (hk : livesE ss k) (hl : ss.length = l) (h : SL w ao ss) (hn : l ≤ 1000) (hs : ∀ s ∈ ss, s.size ≤ 40) :
    Calls Tryz.prog 13 #[.slice ao l c, .int .i64 n] w (RetErr w k) := by
  subst hl
  rcases hk with ⟨h1, rfl⟩ | ⟨h1, h2, rfl⟩ | ⟨h1, h2, rfl⟩
  · exact renew_bad 2 n rfl ao c ss w (read_2 ao c ss w h (by omega) hs h1)
  · exact renew_bad 1 n rfl ao c ss w (read_1 ao c ss w h (by omega) hs h1 h2)
  · omega

set_option maxRecDepth 100000 in
set_option maxHeartbeats 3200000 in
theorem renews_bad (k n : Int) (hk0 : k = 1 ∨ k = 2) (ao : Option Addr) (c l : Nat) (xs : List ByteArray) (w : World) (hk : livesE (fewL xs 13) k) (hl : xs.length = l) (h : SL w ao xs) (hl1 : l ≤ 9223372036854775807) (hs : ∀ s ∈ xs, s.size ≤ 9223372036854775807) :
    Calls Tryz.prog 3 #[.slice ao l c, .int .i64 n] w (RetBool w true) := by
  have hH := Lib.hid h
  have hlH := Lib.hid hl
  have hsH := Lib.hid hs
  have hkH := Lib.hid hk
  have hk0H := Lib.hid hk0
  obtain ⟨ss, hss⟩ : ∃ ss, ss = fewL xs 13 := ⟨_, rfl⟩
  have hssH := Lib.hid hss
  rw [← hss] at hkH
  have hsm := Lib.hid (show ∀ s ∈ ss, s.size ≤ 40 by rw [hss]; exact fewL_small xs 13)
  have hm13 : ss.length ≤ 13 := by rw [hss]; exact fewL_le xs 13
  obtain ⟨m, hm⟩ : ∃ m, ss.length = m := ⟨_, rfl⟩
  have hmH := Lib.hid hm
  rw [hm] at hm13
  have hrn : Hid (∀ (v : World) (a : Option Addr) (c : Nat), SL v a ss → Calls Tryz.prog 13 #[.slice a m c, .int .i64 n] v (RetErr v k)) := fun v a c hS => renew_k k n a c m ss v hk0 hkH.out hmH.out hS (by omega) hsm.out
  clear h hl hs hk hss hm hk0H
  rcases hk0 with rfl | rfl
  all_goals (
    go_enter Tryz.func3, Tryz.ntmps3
    go_wp2_with (first
      | (go_at_call 10; go_loud (with_reducible refine (few_n ao c l xs _ hlH.out hH.out hl1 hsH.out).mono ?_); rintro e w1 ⟨a1, c1, rfl, hV1, hb1⟩; rw [← hssH.out] at hV1; have hS1 := Lib.hid (SV.sl hV1); have hb1H := Lib.hid hb1; have r1 := Lib.hid (Below.refl w1.heap.size w1); rw [← hssH.out, hmH.out]; clear hV1 hb1)
      | (go_at_call 13; go_loud (with_reducible refine (hrn.out _ a1 c1 (hS1.out.below r2.out)).mono ?_); rintro e w3 ⟨rfl, hb3⟩; have r3 := Lib.hid (bseq r2.out hb3); clear hb3)
      | (go_at_call 11; (with_reducible refine (livesR_any _ a1 c1 m ss _ hkH.out hmH.out (hS1.out.below r3.out) (by omega) hsm.out).mono ?_); rintro e w4 ⟨rfl, hb4⟩; have r4 := Lib.hid (bseq r3.out hb4); clear hb4)
      | (go_at_call 11; go_loud (with_reducible refine (livesR_any _ a1 c1 m ss _ hkH.out hmH.out (hS1.out.below r1.out) (by omega) hsm.out).mono ?_); rintro e w2 ⟨rfl, hb2⟩; have r2 := Lib.hid (bseq r1.out hb2); clear hb2)
      | (go_at_call 14; go_loud (with_reducible refine (lives_any _).mono ?_); rintro e w5 ⟨rfl, hb5⟩; have r5 := Lib.hid (bseq r4.out hb5); clear hb5))
    go_ret
    exact ⟨rfl, bseq hb1H.out r5.out⟩)

set_option maxRecDepth 100000 in
set_option maxHeartbeats 3200000 in
theorem renews_out (n : Int) (hn : n < 0 ∨ 40 < n) (ao : Option Addr) (c l : Nat) (xs : List ByteArray) (w : World) (hk : livesE (fewL xs 13) 0) (hlt : lightB (fewL xs 13) (min n 40) = true) (hl : xs.length = l) (h : SL w ao xs) (hl1 : l ≤ 9223372036854775807) (hs : ∀ s ∈ xs, s.size ≤ 9223372036854775807) :
    Calls Tryz.prog 3 #[.slice ao l c, .int .i64 n] w (RetBool w true) := by
  have hH := Lib.hid h
  have hlH := Lib.hid hl
  have hsH := Lib.hid hs
  have hkH := Lib.hid hk
  have hltH := Lib.hid hlt
  obtain ⟨ss, hss⟩ : ∃ ss, ss = fewL xs 13 := ⟨_, rfl⟩
  have hssH := Lib.hid hss
  rw [← hss] at hkH hltH
  have hsm := Lib.hid (show ∀ s ∈ ss, s.size ≤ 40 by rw [hss]; exact fewL_small xs 13)
  have hm13 : ss.length ≤ 13 := by rw [hss]; exact fewL_le xs 13
  obtain ⟨m, hm⟩ : ∃ m, ss.length = m := ⟨_, rfl⟩
  have hmH := Lib.hid hm
  rw [hm] at hm13
  have hg : Hid (allOK ss ∧ livesGood (ss.map parseQ)) := by
    rcases hkH.out with ⟨_, h2⟩ | ⟨_, _, h2⟩ | ⟨h1, h2, _⟩
    · exact absurd h2 (by decide)
    · exact absurd h2 (by decide)
    · exact ⟨h1, h2⟩
  have hrn : Hid (∀ (v : World) (a : Option Addr) (c : Nat), SL v a ss → Calls Tryz.prog 13 #[.slice a m c, .int .i64 n] v (RetErr v 1)) := fun v a c hS => by
    have := renew_out n hn a c ss (ss.map parseQ) v (read_0 a c ss v hS hsm.out hg.out.1 hg.out.2)
    rw [hmH.out] at this
    exact this
  have hlg : Hid (∀ s ∈ ss, s.size ≤ 4611686018427387904) := fun s hh => by have := hsm.out s hh; omega
  clear h hl hs hk hss hm hlt
  rcases hn with hn | hn
  all_goals (
    go_enter Tryz.func3, Tryz.ntmps3
    go_wp2_with (first
      | (go_at_call 10; go_loud (with_reducible refine (few_n ao c l xs _ hlH.out hH.out hl1 hsH.out).mono ?_); rintro e w1 ⟨a1, c1, rfl, hV1, hb1⟩; rw [← hssH.out] at hV1; have hS1 := Lib.hid (SV.sl hV1); have hb1H := Lib.hid hb1; have r1 := Lib.hid (Below.refl w1.heap.size w1); rw [← hssH.out, hmH.out]; clear hV1 hb1)
      | (go_at_call 12; go_loud (with_reducible refine (light_b a1 c1 m _ true ss _ hltH.out hmH.out (hS1.out.below r2.out) (by omega) hlg.out).mono ?_); rintro e w6 ⟨rfl, hb6⟩; have r6 := Lib.hid (bseq r2.out hb6); clear hb6)
      | (go_at_call 13; go_loud (with_reducible refine (hrn.out _ a1 c1 (hS1.out.below r6.out)).mono ?_); rintro e w3 ⟨rfl, hb3⟩; have r3 := Lib.hid (bseq r6.out hb3); clear hb3)
      | (go_at_call 11; (with_reducible refine (livesR_any 0 a1 c1 m ss _ hkH.out hmH.out (hS1.out.below r3.out) (by omega) hsm.out).mono ?_); rintro e w4 ⟨rfl, hb4⟩; have r4 := Lib.hid (bseq r3.out hb4); clear hb4)
      | (go_at_call 11; go_loud (with_reducible refine (livesR_any 0 a1 c1 m ss _ hkH.out hmH.out (hS1.out.below r1.out) (by omega) hsm.out).mono ?_); rintro e w2 ⟨rfl, hb2⟩; have r2 := Lib.hid (bseq r1.out hb2); clear hb2)
      | (go_at_call 14; go_loud (with_reducible refine (lives_any _).mono ?_); rintro e w5 ⟨rfl, hb5⟩; have r5 := Lib.hid (bseq r4.out hb5); clear hb5))
    go_ret
    exact ⟨rfl, bseq hb1H.out r5.out⟩)

set_option maxRecDepth 100000 in
set_option maxHeartbeats 6400000 in
theorem renews_good (n z : Int) (N : Nat) (hN : N ≤ 40) (hz : ((N : Nat) : Int) = z) (b : Bool) (hzb : (b = true ∧ z = n) ∨ (b = false ∧ z = 8)) (ao : Option Addr) (c l : Nat) (xs : List ByteArray) (w : World) (hk : livesE (fewL xs 13) 0) (hlt : lightB (fewL xs 13) (min n 40) = b) (hl : xs.length = l) (h : SL w ao xs) (hl1 : l ≤ 9223372036854775807) (hs : ∀ s ∈ xs, s.size ≤ 9223372036854775807) :
    Calls Tryz.prog 3 #[.slice ao l c, .int .i64 n] w (RetBool w true) := by
  have hH := Lib.hid h
  have hlH := Lib.hid hl
  have hsH := Lib.hid hs
  have hkH := Lib.hid hk
  have hltH := Lib.hid hlt
  obtain ⟨ss, hss⟩ : ∃ ss, ss = fewL xs 13 := ⟨_, rfl⟩
  have hssH := Lib.hid hss
  rw [← hss] at hkH hltH
  have hsm := Lib.hid (show ∀ s ∈ ss, s.size ≤ 40 by rw [hss]; exact fewL_small xs 13)
  have hm13 : ss.length ≤ 13 := by rw [hss]; exact fewL_le xs 13
  obtain ⟨m, hm⟩ : ∃ m, ss.length = m := ⟨_, rfl⟩
  have hmH := Lib.hid hm
  rw [hm] at hm13
  have hg : Hid (allOK ss ∧ livesGood (ss.map parseQ)) := by
    rcases hkH.out with ⟨_, h2⟩ | ⟨_, _, h2⟩ | ⟨h1, h2, _⟩
    · exact absurd h2 (by decide)
    · exact absurd h2 (by decide)
    · exact ⟨h1, h2⟩
  obtain ⟨ps, hps⟩ : ∃ ps, ps = ss.map parseQ := ⟨_, rfl⟩
  have hpsH := Lib.hid hps
  have hpl : Hid (ps.length = m) := by show _ = _; rw [hps, List.length_map]; exact hm
  have hlv := Lib.hid (show Lv ps by rw [hps]; exact Lv.of hg.out.2)
  have hp12 : m ≤ 12 := by have := hlv.out.len; rw [hpl.out] at this; exact this
  have hrn : Hid (∀ (v : World) (a : Option Addr) (c : Nat), SL v a ss → Calls Tryz.prog 13 #[.slice a m c, .int .i64 z] v (RetNums v ((uL ps N).map nt))) := fun v a c hS => by
    have hrd := read_0 a c ss v hS hsm.out hg.out.1 hg.out.2
    rw [← hps] at hrd
    have := renew_good N hN a c ss ps v hrd (by rw [hpl.out]; exact hp12) (hlv.out.renew hN)
    rw [hmH.out, hz] at this
    exact this
  have hrr : Hid (∀ (v : World) (a : Option Addr) (c : Nat), ZL v a ps → m ≤ c → Calls Tryz.prog 16 #[.slice a m c, .int .i64 z] v (RetZL v (uL ps N))) := fun v a c hS hc => by
    have := renewR_any N hN a c m ps v hpl.out hS hc hp12 (fun p hp => by
      rw [hps] at hp
      obtain ⟨s, h1, rfl⟩ := List.mem_map.1 hp
      exact parse_short (hg.out.1 s h1) (hsm.out s h1)) (hlv.out.u4 hN)
    rw [hz] at this
    exact this
  have hu4 := Lib.hid (hlv.out.u4 hN)
  have hlen : Hid (((uL ps N).map nt).length = N + 1) := by show _ = _; rw [List.length_map]; exact uL_length ps N
  have hlen2 := Lib.hid (uL_length ps N)
  have hlg : Hid (∀ s ∈ ss, s.size ≤ 4611686018427387904) := fun s hh => by have := hsm.out s hh; omega
  have hz1 : ¬ z < 0 := by omega
  have hz2 : ¬ 40 < z := by omega
  clear h hl hs hk hss hm hlt hps hz
  rcases hzb with ⟨rfl, rfl⟩ | ⟨rfl, rfl⟩
  all_goals (
    go_enter Tryz.func3, Tryz.ntmps3
    go_wp2_with (first
      | (go_at_call 10; go_loud (with_reducible refine (few_n ao c l xs _ hlH.out hH.out hl1 hsH.out).mono ?_); rintro e w1 ⟨a1, c1, rfl, hV1, hb1⟩; rw [← hssH.out] at hV1; have hS1 := Lib.hid (SV.sl hV1); have hb1H := Lib.hid hb1; have r1 := Lib.hid (Below.refl w1.heap.size w1); rw [← hssH.out, hmH.out]; clear hV1 hb1)
      | (go_at_call 12; go_loud (with_reducible refine (light_b a1 c1 m _ _ ss _ hltH.out hmH.out (hS1.out.below r2.out) (by omega) hlg.out).mono ?_); rintro e w6 ⟨rfl, hb6⟩; have r6 := Lib.hid (bseq r2.out hb6); clear hb6)
      | (go_at_call 13; go_loud (with_reducible refine (hrn.out _ a1 c1 (hS1.out.below r6.out)).mono ?_); rintro e w3 ⟨a3, c3, rfl, hV3, hb3⟩; have r3 := Lib.hid (bseq r6.out hb3); have hS3 := Lib.hid (SV.sl hV3); have hcap3 := SV.cap hV3 rfl; rw [hlen.out] at hcap3 ⊢; clear hV3 hb3)
      | (go_at_call 11; (with_reducible refine (livesR_any 0 a1 c1 m ss _ hkH.out hmH.out (hS1.out.below r3.out) (by omega) hsm.out).mono ?_); rintro e w4 ⟨rfl, hb4⟩; have r4 := Lib.hid (bseq r3.out hb4); have hS4 := Lib.hid (hS3.out.below hb4); clear hb4)
      | (go_at_call 11; go_loud (with_reducible refine (livesR_any 0 a1 c1 m ss _ hkH.out hmH.out (hS1.out.below r1.out) (by omega) hsm.out).mono ?_); rintro e w2 ⟨rfl, hb2⟩; have r2 := Lib.hid (bseq r1.out hb2); clear hb2)
      | (go_at_call 17; go_loud (with_reducible refine (qs_any a1 c1 m ss _ hmH.out (hS1.out.below r4.out) (by omega) hlg.out hg.out.1).mono ?_); rintro e w7 ⟨a7, c7, rfl, hV7, hb7⟩; rw [← hpsH.out] at hV7; have hS7 := Lib.hid (ZV.ql hV7); have hcap7 := ZV.cap hV7 rfl; have r7 := Lib.hid (bseq r4.out hb7); have hS47 := Lib.hid (hS4.out.below hb7); rw [hpl.out] at hcap7; rw [← hpsH.out, hpl.out]; clear hV7 hb7)
      | (go_at_call 16; go_loud (with_reducible refine (hrr.out _ a7 c7 hS7.out hcap7).mono ?_); rintro e w8 ⟨a8, c8, rfl, hV8, hb8⟩; have hS8 := Lib.hid (ZV.ql hV8); have hcap8 := ZV.cap hV8 rfl; have r8 := Lib.hid (bseq r7.out hb8); have hS48 := Lib.hid (hS47.out.below hb8); rw [hlen2.out] at hcap8 ⊢; clear hV8 hb8)
      | (go_at_call 15; go_loud (with_reducible refine (are_t a3 a8 c3 c8 (N + 1) (uL ps N) _ hlen2.out hS48.out hS8.out (by omega) hu4.out hcap3 hcap8).mono ?_); rintro e w9 ⟨rfl, hb9⟩; have r9 := Lib.hid (bseq r8.out hb9); clear hb9)
      | (go_at_call 14; go_loud (with_reducible refine (lives_any _).mono ?_); rintro e w5 ⟨rfl, hb5⟩; have r5 := Lib.hid (bseq r9.out hb5); clear hb5))
    go_ret
    exact ⟨rfl, bseq hb1H.out r5.out⟩)

/-- The law holds. -/
theorem renews_any (n : Int) (ao : Option Addr) (c l : Nat) (xs : List ByteArray) (w : World) (hl : xs.length = l) (h : SL w ao xs) (hl1 : l ≤ 9223372036854775807) (hs : ∀ s ∈ xs, s.size ≤ 9223372036854775807) :
    Calls Tryz.prog 3 #[.slice ao l c, .int .i64 n] w (RetBool w true) := by
  obtain ⟨k, hk⟩ := livesE.ex (fewL xs 13)
  by_cases h0 : k = 0
  · subst h0
    by_cases hlt : lightB (fewL xs 13) (min n 40) = true
    · by_cases hn : n < 0 ∨ 40 < n
      · exact renews_out n hn ao c l xs w hk hlt hl h hl1 hs
      · exact renews_good n n n.toNat (by omega) (by omega) true (Or.inl ⟨rfl, rfl⟩) ao c l xs w hk hlt hl h hl1 hs
    · have hlt2 : lightB (fewL xs 13) (min n 40) = false := by simpa using hlt
      exact renews_good n 8 8 (by omega) rfl false (Or.inr ⟨rfl, rfl⟩) ao c l xs w hk hlt2 hl h hl1 hs
  · have hk0 : k = 1 ∨ k = 2 := by
      rcases hk with ⟨_, h2⟩ | ⟨_, _, h2⟩ | ⟨_, _, h2⟩
      · exact Or.inr h2
      · exact Or.inl h2
      · exact absurd h2 h0
    exact renews_bad k n hk0 ao c l xs w hk hl h hl1 hs

end Go.Proofs.YtcaeonpjokkjnaaGreat
