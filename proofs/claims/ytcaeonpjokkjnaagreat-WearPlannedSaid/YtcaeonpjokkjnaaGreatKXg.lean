/- Rn Yl Rt -/
import Derived.Test.YtcaeonpjokkjnaaGreatQYj
import Derived.Test.YtcaeonpjokkjnaaGreatQWt
import Derived.Test.YtcaeonpjokkjnaaGreatQWu
import Derived.Test.YtcaeonpjokkjnaaGreatQWs
import Derived.Test.YtcaeonpjokkjnaaGreatKXa
set_option linter.unusedVariables false
/- Walk of the law WearRenews. -/
namespace Go.Proofs.YtcaeonpjokkjnaaGreat
open Go Go.RowKit Go.Proofs

theorem SV.cap {w : World} {base n c : Nat} {ao : Option Addr} {ss : List ByteArray} (h : SV w base (.slice ao n c) ss) (hn : ss.length = n) : n ≤ c := by
  rcases h.1.2 with ⟨h1, h2⟩ | ⟨g', cap', cur, hv, _, _, hc, _⟩
  · injection h1 with _ h3 _; omega
  · injection hv with _ h3 h4; omega
theorem fewL_small (xs : List ByteArray) (n : Nat) : ∀ s ∈ fewL xs n, s.size ≤ 40 := fun s hs => by
  obtain ⟨t, _, rfl⟩ := List.mem_map.1 hs
  exact cut40_size t
theorem fewL_le (xs : List ByteArray) (n : Nat) : (fewL xs n).length ≤ n := by
  unfold fewL
  rw [List.length_map, List.length_take]
  exact Nat.min_le_left _ _
theorem few_n (ao : Option Addr) (c l : Nat) (xs : List ByteArray) (w : World) (hl : xs.length = l) (h : SL w ao xs) (hl1 : l ≤ 9223372036854775807) (hs : ∀ s ∈ xs, s.size ≤ 9223372036854775807) :
    Calls Tryz.prog 10 #[.slice ao l c, .int .i64 13] w (RetTxts w (fewL xs 13)) := few_any ao c l 13 xs w hl h hl1 (by omega) hs
theorem light_b (ao : Option Addr) (c l : Nat) (n : Int) (b : Bool) (xs : List ByteArray) (w : World) (hb : lightB xs n = b) (hl : xs.length = l) (h : SL w ao xs) (hl1 : l ≤ 1000000000) (hs : ∀ s ∈ xs, s.size ≤ 4611686018427387904) :
    Calls Tryz.prog 12 #[.slice ao l c, .int .i64 n] w (RetBool w b) := by subst hb; exact light_any ao c l n xs w hl h hl1 hs

theorem Lv.u4 {ps : List Rat} (h : Lv ps) {k : Nat} (hk : k ≤ 40) : ∀ q ∈ uL ps k, Short4 q := fun q hq => by
  obtain ⟨a, b, c⟩ := h.us k q hq
  have hd := Nat.pow_pos (n := k) (dens_pos ps)
  obtain ⟨p1, p2⟩ := (c.bd (k := 1) a (by exact b)).parts hd
  have h1 := small (k := 1) (h.pow (k := k) (by omega)) (by omega) (by omega)
  exact ⟨by omega, by omega⟩

theorem are_t (ao bo : Option Addr) (c d n : Nat) (qs : List Rat) (w : World) (hm : qs.length = n) (hA : SL w ao (qs.map nt)) (hB : ZL w bo qs) (hn1 : n ≤ 1000000000) (hq4 : ∀ q ∈ qs, Short4 q) (hc : n ≤ c) (hd : n ≤ d) :
    Calls Tryz.prog 15 #[.slice ao n c, .slice bo n d] w (RetBool w true) := by
  have := are_any ao bo c d n n (qs.map nt) qs w (by rw [List.length_map]; exact hm) hm hA hB hn1 hn1 hq4 hc hd
  simpa using this

/-- What Lives answers of texts. -/
def livesE (ss : List ByteArray) (k : Int) : Prop := (¬ allOK ss ∧ k = 2) ∨ (allOK ss ∧ ¬ livesGood (ss.map parseQ) ∧ k = 1) ∨ (allOK ss ∧ livesGood (ss.map parseQ) ∧ k = 0)
theorem livesE.ex (ss : List ByteArray) : ∃ k, livesE ss k := by
  by_cases h : allOK ss
  · by_cases h2 : livesGood (ss.map parseQ)
    · exact ⟨0, Or.inr (Or.inr ⟨h, h2, rfl⟩)⟩
    · exact ⟨1, Or.inr (Or.inl ⟨h, h2, rfl⟩)⟩
  · exact ⟨2, Or.inl ⟨h, rfl⟩⟩
theorem livesR_any (k : Int) (ao : Option Addr) (c n : Nat) (ss : List ByteArray) (w : World) (hk : livesE ss k) (hl : ss.length = n) (h : SL w ao ss) (hn : n ≤ 1000) (hs : ∀ s ∈ ss, s.size ≤ 40) :
    Calls Tryz.prog 11 #[.slice ao n c] w (RetNum w k) := by
  rcases hk with ⟨h1, rfl⟩ | ⟨h1, h2, rfl⟩ | ⟨h1, h2, rfl⟩
  · exact livesR_2 ao c n ss w hl h (by omega) (fun s hh => by have := hs s hh; omega) h1
  · exact livesR_ok 1 ao c n ss w hl h hn hs h1 (Or.inr ⟨h2, rfl⟩)
  · exact livesR_ok 0 ao c n ss w hl h hn hs h1 (Or.inl ⟨h2, rfl⟩)
theorem renew_k (k n : Int) (ao : Option Addr) (c l : Nat) (ss : List ByteArray) (w : World) (hk0 : k = 1 ∨ k = 2) (hk : livesE ss k) (hl : ss.length = l) (h : SL w ao ss) (hn : l ≤ 1000) (hs : ∀ s ∈ ss, s.size ≤ 40) :
    Calls Tryz.prog 13 #[.slice ao l c, .int .i64 n] w (RetErr w k) := by
  subst hl
  rcases hk with ⟨h1, rfl⟩ | ⟨h1, h2, rfl⟩ | ⟨h1, h2, rfl⟩
  · exact renew_bad 2 n rfl ao c ss w (read_2 ao c ss w h (by omega) hs h1)
  · exact renew_bad 1 n rfl ao c ss w (read_1 ao c ss w h (by omega) hs h1 h2)
  · omega

set_option maxRecDepth 100000 in
set_option maxHeartbeats 3200000 in
theorem renews_bad (k n : Int) (hk0 : k = 1 ∨ k = 2) (ao : Option Addr) (c l : Nat) (xs : List ByteArray) (w : World) (hk : livesE (fewL xs 13) k) (hl : xs.length = l) (h : SL w ao xs) (hl1 : l ≤ 9223372036854775807) (hs : ∀ s ∈ xs, s.size ≤ 9223372036854775807) :
    Calls Tryz.prog 3 #[.slice ao l c, .int .i64 n] w (RetBool w true) := by
  have hH := Lib.hid h
  have hlH := Lib.hid hl
  have hsH := Lib.hid hs
  have hkH := Lib.hid hk
  have hk0H := Lib.hid hk0
  obtain ⟨ss, hss⟩ : ∃ ss, ss = fewL xs 13 := ⟨_, rfl⟩
  have hssH := Lib.hid hss
  rw [← hss] at hkH
  have hsm := Lib.hid (show ∀ s ∈ ss, s.size ≤ 40 by rw [hss]; exact fewL_small xs 13)
  have hm13 : ss.length ≤ 13 := by rw [hss]; exact fewL_le xs 13
  obtain ⟨m, hm⟩ : ∃ m, ss.length = m := ⟨_, rfl⟩
  have hmH := Lib.hid hm
  rw [hm] at hm13
  have hrn : Hid (∀ (v : World) (a : Option Addr) (c : Nat), SL v a ss → Calls Tryz.prog 13 #[.slice a m c, .int .i64 n] v (RetErr v k)) := fun v a c hS => renew_k k n a c m ss v hk0 hkH.out hmH.out hS (by omega) hsm.out
  clear h hl hs hk hss hm hk0H
  rcases hk0 with rfl | rfl
  all_goals (
    go_enter Tryz.func3, Tryz.ntmps3
    go_wp2_with (first
      | (go_at_call 10; go_loud (with_reducible refine (few_n ao c l xs _ hlH.out hH.out hl1 hsH.out).mono ?_); rintro e w1 ⟨a1, c1, rfl, hV1, hb1⟩; rw [← hssH.out] at hV1; have hS1 := Lib.hid (SV.sl hV1); have hb1H := Lib.hid hb1; have r1 := Lib.hid (Below.refl w1.heap.size w1); rw [← hssH.out, hmH.out]; clear hV1 hb1)
      | (go_at_call 13; go_loud (with_reducible refine (hrn.out _ a1 c1 (hS1.out.below r2.out)).mono ?_); rintro e w3 ⟨rfl, hb3⟩; have r3 := Lib.hid (bseq r2.out hb3); clear hb3)
      | (go_at_call 11; (with_reducible refine (livesR_any _ a1 c1 m ss _ hkH.out hmH.out (hS1.out.below r3.out) (by omega) hsm.out).mono ?_); rintro e w4 ⟨rfl, hb4⟩; have r4 := Lib.hid (bseq r3.out hb4); clear hb4)
      | (go_at_call 11; go_loud (with_reducible refine (livesR_any _ a1 c1 m ss _ hkH.out hmH.out (hS1.out.below r1.out) (by omega) hsm.out).mono ?_); rintro e w2 ⟨rfl, hb2⟩; have r2 := Lib.hid (bseq r1.out hb2); clear hb2)
      | (go_at_call 14; go_loud (with_reducible refine (lives_any _).mono ?_); rintro e w5 ⟨rfl, hb5⟩; have r5 := Lib.hid (bseq r4.out hb5); clear hb5))
    go_ret
    exact ⟨rfl, bseq hb1H.out r5.out⟩)

set_option maxRecDepth 100000 in
set_option maxHeartbeats 3200000 in
theorem renews_out (n : Int) (hn : n < 0 ∨ 40 < n) (ao : Option Addr) (c l : Nat) (xs : List ByteArray) (w : World) (hk : livesE (fewL xs 13) 0) (hlt : lightB (fewL xs 13) (min n 40) = true) (hl : xs.length = l) (h : SL w ao xs) (hl1 : l ≤ 9223372036854775807) (hs : ∀ s ∈ xs, s.size ≤ 9223372036854775807) :
    Calls Tryz.prog 3 #[.slice ao l c, .int .i64 n] w (RetBool w true) := by
  have hH := Lib.hid h
  have hlH := Lib.hid hl
  have hsH := Lib.hid hs
  have hkH := Lib.hid hk
  have hltH := Lib.hid hlt
  obtain ⟨ss, hss⟩ : ∃ ss, ss = fewL xs 13 := ⟨_, rfl⟩
  have hssH := Lib.hid hss
  rw [← hss] at hkH hltH
  have hsm := Lib.hid (show ∀ s ∈ ss, s.size ≤ 40 by rw [hss]; exact fewL_small xs 13)
  have hm13 : ss.length ≤ 13 := by rw [hss]; exact fewL_le xs 13
  obtain ⟨m, hm⟩ : ∃ m, ss.length = m := ⟨_, rfl⟩
  have hmH := Lib.hid hm
  rw [hm] at hm13
  have hg : Hid (allOK ss ∧ livesGood (ss.map parseQ)) := by
    rcases hkH.out with ⟨_, h2⟩ | ⟨_, _, h2⟩ | ⟨h1, h2, _⟩
    · exact absurd h2 (by decide)
    · exact absurd h2 (by decide)
    · exact ⟨h1, h2⟩
  have hrn : Hid (∀ (v : World) (a : Option Addr) (c : Nat), SL v a ss → Calls Tryz.prog 13 #[.slice a m c, .int .i64 n] v (RetErr v 1)) := fun v a c hS => by
    have := renew_out n hn a c ss (ss.map parseQ) v (read_0 a c ss v hS hsm.out hg.out.1 hg.out.2)
    rw [hmH.out] at this
    exact this
  have hlg : Hid (∀ s ∈ ss, s.size ≤ 4611686018427387904) := fun s hh => by have := hsm.out s hh; omega
  clear h hl hs hk hss hm hlt
  rcases hn with hn | hn
  all_goals (
    go_enter Tryz.func3, Tryz.ntmps3
    go_wp2_with (first
      | (go_at_call 10; go_loud (with_reducible refine (few_n ao c l xs _ hlH.out hH.out hl1 hsH.out).mono ?_); rintro e w1 ⟨a1, c1, rfl, hV1, hb1⟩; rw [← hssH.out] at hV1; have hS1 := Lib.hid (SV.sl hV1); have hb1H := Lib.hid hb1; have r1 := Lib.hid (Below.refl w1.heap.size w1); rw [← hssH.out, hmH.out]; clear hV1 hb1)
      | (go_at_call 12; go_loud (with_reducible refine (light_b a1 c1 m _ true ss _ hltH.out hmH.out (hS1.out.below r2.out) (by omega) hlg.out).mono ?_); rintro e w6 ⟨rfl, hb6⟩; have r6 := Lib.hid (bseq r2.out hb6); clear hb6)
      | (go_at_call 13; go_loud (with_reducible refine (hrn.out _ a1 c1 (hS1.out.below r6.out)).mono ?_); rintro e w3 ⟨rfl, hb3⟩; have r3 := Lib.hid (bseq r6.out hb3); clear hb3)
      | (go_at_call 11; (with_reducible refine (livesR_any 0 a1 c1 m ss _ hkH.out hmH.out (hS1.out.below r3.out) (by omega) hsm.out).mono ?_); rintro e w4 ⟨rfl, hb4⟩; have r4 := Lib.hid (bseq r3.out hb4); clear hb4)
      | (go_at_call 11; go_loud (with_reducible refine (livesR_any 0 a1 c1 m ss _ hkH.out hmH.out (hS1.out.below r1.out) (by omega) hsm.out).mono ?_); rintro e w2 ⟨rfl, hb2⟩; have r2 := Lib.hid (bseq r1.out hb2); clear hb2)
      | (go_at_call 14; go_loud (with_reducible refine (lives_any _).mono ?_); rintro e w5 ⟨rfl, hb5⟩; have r5 := Lib.hid (bseq r4.out hb5); clear hb5))
    go_ret
    exact ⟨rfl, bseq hb1H.out r5.out⟩)

set_option maxRecDepth 100000 in
set_option maxHeartbeats 6400000 in
theorem renews_good (n z : Int) (N : Nat) (hN : N ≤ 40) (hz : ((N : Nat) : Int) = z) (b : Bool) (hzb : (b = true ∧ z = n) ∨ (b = false ∧ z = 8)) (ao : Option Addr) (c l : Nat) (xs : List ByteArray) (w : World) (hk : livesE (fewL xs 13) 0) (hlt : lightB (fewL xs 13) (min n 40) = b) (hl : xs.length = l) (h : SL w ao xs) (hl1 : l ≤ 9223372036854775807) (hs : ∀ s ∈ xs, s.size ≤ 9223372036854775807) :
    Calls Tryz.prog 3 #[.slice ao l c, .int .i64 n] w (RetBool w true) := by
  have hH := Lib.hid h
  have hlH := Lib.hid hl
  have hsH := Lib.hid hs
  have hkH := Lib.hid hk
  have hltH := Lib.hid hlt
  obtain ⟨ss, hss⟩ : ∃ ss, ss = fewL xs 13 := ⟨_, rfl⟩
  have hssH := Lib.hid hss
  rw [← hss] at hkH hltH
  have hsm := Lib.hid (show ∀ s ∈ ss, s.size ≤ 40 by rw [hss]; exact fewL_small xs 13)
  have hm13 : ss.length ≤ 13 := by rw [hss]; exact fewL_le xs 13
  obtain ⟨m, hm⟩ : ∃ m, ss.length = m := ⟨_, rfl⟩
  have hmH := Lib.hid hm
  rw [hm] at hm13
  have hg : Hid (allOK ss ∧ livesGood (ss.map parseQ)) := by
    rcases hkH.out with ⟨_, h2⟩ | ⟨_, _, h2⟩ | ⟨h1, h2, _⟩
    · exact absurd h2 (by decide)
    · exact absurd h2 (by decide)
    · exact ⟨h1, h2⟩
  obtain ⟨ps, hps⟩ : ∃ ps, ps = ss.map parseQ := ⟨_, rfl⟩
  have hpsH := Lib.hid hps
  have hpl : Hid (ps.length = m) := by show _ = _; rw [hps, List.length_map]; exact hm
  have hlv := Lib.hid (show Lv ps by rw [hps]; exact Lv.of hg.out.2)
  have hp12 : m ≤ 12 := by have := hlv.out.len; rw [hpl.out] at this; exact this
  have hrn : Hid (∀ (v : World) (a : Option Addr) (c : Nat), SL v a ss → Calls Tryz.prog 13 #[.slice a m c, .int .i64 z] v (RetNums v ((uL ps N).map nt))) := fun v a c hS => by
    have hrd := read_0 a c ss v hS hsm.out hg.out.1 hg.out.2
    rw [← hps] at hrd
    have := renew_good N hN a c ss ps v hrd (by rw [hpl.out]; exact hp12) (hlv.out.renew hN)
    rw [hmH.out, hz] at this
    exact this
  have hrr : Hid (∀ (v : World) (a : Option Addr) (c : Nat), ZL v a ps → m ≤ c → Calls Tryz.prog 16 #[.slice a m c, .int .i64 z] v (RetZL v (uL ps N))) := fun v a c hS hc => by
    have := renewR_any N hN a c m ps v hpl.out hS hc hp12 (fun p hp => by
      rw [hps] at hp
      obtain ⟨s, h1, rfl⟩ := List.mem_map.1 hp
      exact parse_short (hg.out.1 s h1) (hsm.out s h1)) (hlv.out.u4 hN)
    rw [hz] at this
    exact this
  have hu4 := Lib.hid (hlv.out.u4 hN)
  have hlen : Hid (((uL ps N).map nt).length = N + 1) := by show _ = _; rw [List.length_map]; exact uL_length ps N
  have hlen2 := Lib.hid (uL_length ps N)
  have hlg : Hid (∀ s ∈ ss, s.size ≤ 4611686018427387904) := fun s hh => by have := hsm.out s hh; omega
  have hz1 : ¬ z < 0 := by omega
  have hz2 : ¬ 40 < z := by omega
  clear h hl hs hk hss hm hlt hps hz
  rcases hzb with ⟨rfl, rfl⟩ | ⟨rfl, rfl⟩
  all_goals (
    go_enter Tryz.func3, Tryz.ntmps3
    go_wp2_with (first
      | (go_at_call 10; go_loud (with_reducible refine (few_n ao c l xs _ hlH.out hH.out hl1 hsH.out).mono ?_); rintro e w1 ⟨a1, c1, rfl, hV1, hb1⟩; rw [← hssH.out] at hV1; have hS1 := Lib.hid (SV.sl hV1); have hb1H := Lib.hid hb1; have r1 := Lib.hid (Below.refl w1.heap.size w1); rw [← hssH.out, hmH.out]; clear hV1 hb1)
      | (go_at_call 12; go_loud (with_reducible refine (light_b a1 c1 m _ _ ss _ hltH.out hmH.out (hS1.out.below r2.out) (by omega) hlg.out).mono ?_); rintro e w6 ⟨rfl, hb6⟩; have r6 := Lib.hid (bseq r2.out hb6); clear hb6)
      | (go_at_call 13; go_loud (with_reducible refine (hrn.out _ a1 c1 (hS1.out.below r6.out)).mono ?_); rintro e w3 ⟨a3, c3, rfl, hV3, hb3⟩; have r3 := Lib.hid (bseq r6.out hb3); have hS3 := Lib.hid (SV.sl hV3); have hcap3 := SV.cap hV3 rfl; rw [hlen.out] at hcap3 ⊢; clear hV3 hb3)
      | (go_at_call 11; (with_reducible refine (livesR_any 0 a1 c1 m ss _ hkH.out hmH.out (hS1.out.below r3.out) (by omega) hsm.out).mono ?_); rintro e w4 ⟨rfl, hb4⟩; have r4 := Lib.hid (bseq r3.out hb4); have hS4 := Lib.hid (hS3.out.below hb4); clear hb4)
      | (go_at_call 11; go_loud (with_reducible refine (livesR_any 0 a1 c1 m ss _ hkH.out hmH.out (hS1.out.below r1.out) (by omega) hsm.out).mono ?_); rintro e w2 ⟨rfl, hb2⟩; have r2 := Lib.hid (bseq r1.out hb2); clear hb2)
      | (go_at_call 17; go_loud (with_reducible refine (qs_any a1 c1 m ss _ hmH.out (hS1.out.below r4.out) (by omega) hlg.out hg.out.1).mono ?_); rintro e w7 ⟨a7, c7, rfl, hV7, hb7⟩; rw [← hpsH.out] at hV7; have hS7 := Lib.hid (ZV.ql hV7); have hcap7 := ZV.cap hV7 rfl; have r7 := Lib.hid (bseq r4.out hb7); have hS47 := Lib.hid (hS4.out.below hb7); rw [hpl.out] at hcap7; rw [← hpsH.out, hpl.out]; clear hV7 hb7)
      | (go_at_call 16; go_loud (with_reducible refine (hrr.out _ a7 c7 hS7.out hcap7).mono ?_); rintro e w8 ⟨a8, c8, rfl, hV8, hb8⟩; have hS8 := Lib.hid (ZV.ql hV8); have hcap8 := ZV.cap hV8 rfl; have r8 := Lib.hid (bseq r7.out hb8); have hS48 := Lib.hid (hS47.out.below hb8); rw [hlen2.out] at hcap8 ⊢; clear hV8 hb8)
      | (go_at_call 15; go_loud (with_reducible refine (are_t a3 a8 c3 c8 (N + 1) (uL ps N) _ hlen2.out hS48.out hS8.out (by omega) hu4.out hcap3 hcap8).mono ?_); rintro e w9 ⟨rfl, hb9⟩; have r9 := Lib.hid (bseq r8.out hb9); clear hb9)
      | (go_at_call 14; go_loud (with_reducible refine (lives_any _).mono ?_); rintro e w5 ⟨rfl, hb5⟩; have r5 := Lib.hid (bseq r9.out hb5); clear hb5))
    go_ret
    exact ⟨rfl, bseq hb1H.out r5.out⟩)

/-- The law holds. -/
theorem renews_any (n : Int) (ao : Option Addr) (c l : Nat) (xs : List ByteArray) (w : World) (hl : xs.length = l) (h : SL w ao xs) (hl1 : l ≤ 9223372036854775807) (hs : ∀ s ∈ xs, s.size ≤ 9223372036854775807) :
    Calls Tryz.prog 3 #[.slice ao l c, .int .i64 n] w (RetBool w true) := by
  obtain ⟨k, hk⟩ := livesE.ex (fewL xs 13)
  by_cases h0 : k = 0
  · subst h0
    by_cases hlt : lightB (fewL xs 13) (min n 40) = true
    · by_cases hn : n < 0 ∨ 40 < n
      · exact renews_out n hn ao c l xs w hk hlt hl h hl1 hs
      · exact renews_good n n n.toNat (by omega) (by omega) true (Or.inl ⟨rfl, rfl⟩) ao c l xs w hk hlt hl h hl1 hs
    · have hlt2 : lightB (fewL xs 13) (min n 40) = false := by simpa using hlt
      exact renews_good n 8 8 (by omega) rfl false (Or.inr ⟨rfl, rfl⟩) ao c l xs w hk hlt2 hl h hl1 hs
  · have hk0 : k = 1 ∨ k = 2 := by
      rcases hk with ⟨_, h2⟩ | ⟨_, _, h2⟩ | ⟨_, _, h2⟩
      · exact Or.inr h2
      · exact Or.inl h2
      · exact absurd h2 h0
    exact renews_bad k n hk0 ao c l xs w hk hl h hl1 hs

end Go.Proofs.YtcaeonpjokkjnaaGreat

/- Walk of the reference: Costs. (Printed by wip/tools/gen_costs.py.) -/
namespace Go.Proofs.YtcaeonpjokkjnaaGreat
open Go Go.RowKit Go.Proofs

/-- What Costs answers. -/
def costE (ss : List ByteArray) (pl fl : ByteArray) (k : Int) : Prop :=
  (¬ (allOK ss ∧ parseOK pl ∧ parseOK fl) ∧ k = 2) ∨ ((allOK ss ∧ parseOK pl ∧ parseOK fl) ∧ ¬ (livesGood (ss.map parseQ) ∧ costOK (parseQ pl) ∧ costOK (parseQ fl)) ∧ k = 1) ∨
  ((allOK ss ∧ parseOK pl ∧ parseOK fl) ∧ (livesGood (ss.map parseQ) ∧ costOK (parseQ pl) ∧ costOK (parseQ fl)) ∧ k = 0)

set_option maxRecDepth 100000 in
set_option maxHeartbeats 3200000 in
theorem costsR_2 (ao : Option Addr) (c n : Nat) (ss : List ByteArray) (pl fl : ByteArray) (w : World) (hl : ss.length = n) (h : SL w ao ss) (hn1 : n ≤ 1000) (hs : ∀ s ∈ ss, s.size ≤ 40) (hpl : pl.size ≤ 40) (hfl : fl.size ≤ 40) (hbad : ¬ (allOK ss ∧ parseOK pl ∧ parseOK fl)) :
    Calls Tryz.prog 21 #[.slice ao n c, .string pl, .string fl] w (RetNum w 2) := by
  have hH := Lib.hid h
  have hlH := Lib.hid hl
  have hsH := Lib.hid hs
  have hs2 : Hid (∀ s ∈ ss, s.size ≤ 4611686018427387904) := fun s hh => by have := hs s hh; omega
  have hsp : Hid (pl.size ≤ 4611686018427387904) := by show _ ≤ _; omega
  have hsf : Hid (fl.size ≤ 4611686018427387904) := by show _ ≤ _; omega
  clear h hl hs
  by_cases h1 : allOK ss
  · have hnumH := Lib.hid (show (allOK ss ∧ (0 : Int) = 0) ∨ (¬ allOK ss ∧ (0 : Int) = 2) from Or.inl ⟨h1, rfl⟩)
    by_cases h2 : parseOK pl
    · have hv1 := Lib.hid (vok_true h2)
      have h3 : ¬ parseOK fl := fun h => hbad ⟨h1, h2, h⟩
      have hv2 := Lib.hid (vok_false h3)
      clear h1 h2 h3 hbad
      go_enter Tryz.func21, Tryz.ntmps21
      go_wp2_with (first
          | (go_at_call 46; (with_reducible refine (nums_any 0 ao c n ss _ hnumH.out hlH.out hH.out (by omega) hs2.out).mono ?_); rintro e w1 ⟨rfl, hb1⟩; have r1 := Lib.hid hb1; clear hb1)
          | (go_at_call 58; (with_reducible refine (valid_b fl false _ hv2.out hsf.out).mono ?_); rintro e w3 ⟨rfl, hb3⟩; have r3 := Lib.hid (bseqZ r2.out hb3); clear hb3)
          | (go_at_call 58; (with_reducible refine (valid_b pl true _ hv1.out hsp.out).mono ?_); rintro e w2 ⟨rfl, hb2⟩; have r2 := Lib.hid (bseqZ r1.out hb2); clear hb2)
          | (go_at_call 11; (with_reducible refine (livesR_any 0 ao c n ss _ hklH.out hlH.out (hH.out.below r3.out) hn1 hsH.out).mono ?_); rintro e w4 ⟨rfl, hb4⟩; have r4 := Lib.hid (bseqZ r3.out hb4); clear hb4)
          | (go_at_call 47; (with_reducible refine (short_6 fl true _ hsf.out hf2.out).mono ?_); rintro e w6 ⟨rfl, hb6⟩; have r6 := Lib.hid (bseqZ r5.out hb6); clear hb6)
          | (go_at_call 47; (with_reducible refine (short_6 pl true _ hsp.out hf1.out).mono ?_); rintro e w5 ⟨rfl, hb5⟩; have r5 := Lib.hid (bseqZ r4.out hb5); clear hb5)
          | (go_at_call 23; (with_reducible refine (of_any pl _ hok1.out hsp.out).mono ?_); rintro e w7 ⟨a7, d7, a7', d7', rfl, hm7, hb7⟩; have r7 := Lib.hid (bseqZ r6.out hb7); clear hb7 hm7)
          | (go_at_call 23; (with_reducible refine (of_any fl _ hok2.out hsf.out).mono ?_); rintro e w9 ⟨a9, d9, a9', d9', rfl, hm9, hb9⟩; have r9 := Lib.hid (bseqZ r8.out hb9); clear hb9 hm9)
          | (go_at_call 48; (with_reducible refine (zsign_any a9 d9 (rn (parseQ fl)) _).mono ?_); rintro e w10 ⟨rfl, hb10⟩; have r10 := Lib.hid (bseqZ r9.out hb10); clear hb10)
          | (go_at_call 48; (with_reducible refine (zsign_any a7 d7 (rn (parseQ pl)) _).mono ?_); rintro e w8 ⟨rfl, hb8⟩; have r8 := Lib.hid (bseqZ r7.out hb8); clear hb8))
      go_ret
      exact ⟨rfl, r3.out⟩
    · have hv1 := Lib.hid (vok_false h2)
      clear h1 h2 hbad
      go_enter Tryz.func21, Tryz.ntmps21
      go_wp2_with (first
          | (go_at_call 46; (with_reducible refine (nums_any 0 ao c n ss _ hnumH.out hlH.out hH.out (by omega) hs2.out).mono ?_); rintro e w1 ⟨rfl, hb1⟩; have r1 := Lib.hid hb1; clear hb1)
          | (go_at_call 58; (with_reducible refine (valid_b fl true _ hv2.out hsf.out).mono ?_); rintro e w3 ⟨rfl, hb3⟩; have r3 := Lib.hid (bseqZ r2.out hb3); clear hb3)
          | (go_at_call 58; (with_reducible refine (valid_b pl false _ hv1.out hsp.out).mono ?_); rintro e w2 ⟨rfl, hb2⟩; have r2 := Lib.hid (bseqZ r1.out hb2); clear hb2)
          | (go_at_call 11; (with_reducible refine (livesR_any 0 ao c n ss _ hklH.out hlH.out (hH.out.below r3.out) hn1 hsH.out).mono ?_); rintro e w4 ⟨rfl, hb4⟩; have r4 := Lib.hid (bseqZ r3.out hb4); clear hb4)
          | (go_at_call 47; (with_reducible refine (short_6 fl true _ hsf.out hf2.out).mono ?_); rintro e w6 ⟨rfl, hb6⟩; have r6 := Lib.hid (bseqZ r5.out hb6); clear hb6)
          | (go_at_call 47; (with_reducible refine (short_6 pl true _ hsp.out hf1.out).mono ?_); rintro e w5 ⟨rfl, hb5⟩; have r5 := Lib.hid (bseqZ r4.out hb5); clear hb5)
          | (go_at_call 23; (with_reducible refine (of_any pl _ hok1.out hsp.out).mono ?_); rintro e w7 ⟨a7, d7, a7', d7', rfl, hm7, hb7⟩; have r7 := Lib.hid (bseqZ r6.out hb7); clear hb7 hm7)
          | (go_at_call 23; (with_reducible refine (of_any fl _ hok2.out hsf.out).mono ?_); rintro e w9 ⟨a9, d9, a9', d9', rfl, hm9, hb9⟩; have r9 := Lib.hid (bseqZ r8.out hb9); clear hb9 hm9)
          | (go_at_call 48; (with_reducible refine (zsign_any a9 d9 (rn (parseQ fl)) _).mono ?_); rintro e w10 ⟨rfl, hb10⟩; have r10 := Lib.hid (bseqZ r9.out hb10); clear hb10)
          | (go_at_call 48; (with_reducible refine (zsign_any a7 d7 (rn (parseQ pl)) _).mono ?_); rintro e w8 ⟨rfl, hb8⟩; have r8 := Lib.hid (bseqZ r7.out hb8); clear hb8))
      go_ret
      exact ⟨rfl, r2.out⟩
  · have hnumH := Lib.hid (show (allOK ss ∧ (2 : Int) = 0) ∨ (¬ allOK ss ∧ (2 : Int) = 2) from Or.inr ⟨h1, rfl⟩)
    clear h1 hbad
    go_enter Tryz.func21, Tryz.ntmps21
    go_wp2_with (first
        | (go_at_call 46; (with_reducible refine (nums_any 2 ao c n ss _ hnumH.out hlH.out hH.out (by omega) hs2.out).mono ?_); rintro e w1 ⟨rfl, hb1⟩; have r1 := Lib.hid hb1; clear hb1)
        | (go_at_call 58; (with_reducible refine (valid_b fl true _ hv2.out hsf.out).mono ?_); rintro e w3 ⟨rfl, hb3⟩; have r3 := Lib.hid (bseqZ r2.out hb3); clear hb3)
        | (go_at_call 58; (with_reducible refine (valid_b pl true _ hv1.out hsp.out).mono ?_); rintro e w2 ⟨rfl, hb2⟩; have r2 := Lib.hid (bseqZ r1.out hb2); clear hb2)
        | (go_at_call 11; (with_reducible refine (livesR_any 0 ao c n ss _ hklH.out hlH.out (hH.out.below r3.out) hn1 hsH.out).mono ?_); rintro e w4 ⟨rfl, hb4⟩; have r4 := Lib.hid (bseqZ r3.out hb4); clear hb4)
        | (go_at_call 47; (with_reducible refine (short_6 fl true _ hsf.out hf2.out).mono ?_); rintro e w6 ⟨rfl, hb6⟩; have r6 := Lib.hid (bseqZ r5.out hb6); clear hb6)
        | (go_at_call 47; (with_reducible refine (short_6 pl true _ hsp.out hf1.out).mono ?_); rintro e w5 ⟨rfl, hb5⟩; have r5 := Lib.hid (bseqZ r4.out hb5); clear hb5)
        | (go_at_call 23; (with_reducible refine (of_any pl _ hok1.out hsp.out).mono ?_); rintro e w7 ⟨a7, d7, a7', d7', rfl, hm7, hb7⟩; have r7 := Lib.hid (bseqZ r6.out hb7); clear hb7 hm7)
        | (go_at_call 23; (with_reducible refine (of_any fl _ hok2.out hsf.out).mono ?_); rintro e w9 ⟨a9, d9, a9', d9', rfl, hm9, hb9⟩; have r9 := Lib.hid (bseqZ r8.out hb9); clear hb9 hm9)
        | (go_at_call 48; (with_reducible refine (zsign_any a9 d9 (rn (parseQ fl)) _).mono ?_); rintro e w10 ⟨rfl, hb10⟩; have r10 := Lib.hid (bseqZ r9.out hb10); clear hb10)
        | (go_at_call 48; (with_reducible refine (zsign_any a7 d7 (rn (parseQ pl)) _).mono ?_); rintro e w8 ⟨rfl, hb8⟩; have r8 := Lib.hid (bseqZ r7.out hb8); clear hb8))
    go_ret
    exact ⟨rfl, r1.out⟩

set_option maxRecDepth 100000 in
set_option maxHeartbeats 3200000 in
theorem costsR_ok (k : Int) (ao : Option Addr) (c n : Nat) (ss : List ByteArray) (pl fl : ByteArray) (w : World) (hl : ss.length = n) (h : SL w ao ss) (hn1 : n ≤ 1000) (hs : ∀ s ∈ ss, s.size ≤ 40) (hpl : pl.size ≤ 40) (hfl : fl.size ≤ 40) (hok : allOK ss ∧ parseOK pl ∧ parseOK fl)
    (hk : ((livesGood (ss.map parseQ) ∧ costOK (parseQ pl) ∧ costOK (parseQ fl)) ∧ k = 0) ∨ (¬ (livesGood (ss.map parseQ) ∧ costOK (parseQ pl) ∧ costOK (parseQ fl)) ∧ k = 1)) :
    Calls Tryz.prog 21 #[.slice ao n c, .string pl, .string fl] w (RetNum w k) := by
  have hH := Lib.hid h
  have hlH := Lib.hid hl
  have hsH := Lib.hid hs
  have hs2 : Hid (∀ s ∈ ss, s.size ≤ 4611686018427387904) := fun s hh => by have := hs s hh; omega
  have hsp : Hid (pl.size ≤ 4611686018427387904) := by show _ ≤ _; omega
  have hsf : Hid (fl.size ≤ 4611686018427387904) := by show _ ≤ _; omega
  have hnumH := Lib.hid (show (allOK ss ∧ (0 : Int) = 0) ∨ (¬ allOK ss ∧ (0 : Int) = 2) from Or.inl ⟨hok.1, rfl⟩)
  have hv1 := Lib.hid (vok_true hok.2.1)
  have hv2 := Lib.hid (vok_true hok.2.2)
  have hok1 := Lib.hid hok.2.1
  have hok2 := Lib.hid hok.2.2
  have hfld := field_N
  have e1 := Lib.hid (short_fits hok.2.1 (n := 6) (by omega))
  have e2 := Lib.hid (short_fits hok.2.2 (n := 6) (by omega))
  have hbad : Hid (¬ (livesGood (ss.map parseQ) ∧ costOK (parseQ pl) ∧ costOK (parseQ fl)) → k = 1) := fun hh => by
    rcases hk with ⟨h1, _⟩ | ⟨_, h2⟩
    · exact absurd h1 hh
    · exact h2
  have hgood : Hid ((livesGood (ss.map parseQ) ∧ costOK (parseQ pl) ∧ costOK (parseQ fl)) → k = 0) := fun hh => by
    rcases hk with ⟨_, h2⟩ | ⟨h1, _⟩
    · exact h2
    · exact absurd hh h1
  clear h hl hs hk
  by_cases g1 : livesGood (ss.map parseQ)
  · have hklH := Lib.hid (show livesE ss 0 from Or.inr (Or.inr ⟨hok.1, g1, rfl⟩))
    by_cases g2 : fits (parseQ pl) 6 = true
    · have hf1 := Lib.hid (show shortOK pl 6 = true by rw [e1.out]; exact g2)
      by_cases g3 : fits (parseQ fl) 6 = true
      · have hf2 := Lib.hid (show shortOK fl 6 = true by rw [e2.out]; exact g3)
        by_cases g4 : 0 < sg (rn (parseQ pl))
        · have g4' : ¬ sg (rn (parseQ pl)) ≤ 0 := by omega
          by_cases g5 : 0 < sg (rn (parseQ fl))
          · have g5' : ¬ sg (rn (parseQ fl)) ≤ 0 := by omega
            have hk := hgood.out ⟨g1, ⟨g4, g2⟩, ⟨g5, g3⟩⟩
            subst hk
            clear g1 g2 g3 g4 g5 hok hbad hgood
            go_enter Tryz.func21, Tryz.ntmps21
            go_wp2_with (first
                | (go_at_call 46; (with_reducible refine (nums_any 0 ao c n ss _ hnumH.out hlH.out hH.out (by omega) hs2.out).mono ?_); rintro e w1 ⟨rfl, hb1⟩; have r1 := Lib.hid hb1; clear hb1)
                | (go_at_call 58; (with_reducible refine (valid_b fl true _ hv2.out hsf.out).mono ?_); rintro e w3 ⟨rfl, hb3⟩; have r3 := Lib.hid (bseqZ r2.out hb3); clear hb3)
                | (go_at_call 58; (with_reducible refine (valid_b pl true _ hv1.out hsp.out).mono ?_); rintro e w2 ⟨rfl, hb2⟩; have r2 := Lib.hid (bseqZ r1.out hb2); clear hb2)
                | (go_at_call 11; (with_reducible refine (livesR_any 0 ao c n ss _ hklH.out hlH.out (hH.out.below r3.out) hn1 hsH.out).mono ?_); rintro e w4 ⟨rfl, hb4⟩; have r4 := Lib.hid (bseqZ r3.out hb4); clear hb4)
                | (go_at_call 47; (with_reducible refine (short_6 fl true _ hsf.out hf2.out).mono ?_); rintro e w6 ⟨rfl, hb6⟩; have r6 := Lib.hid (bseqZ r5.out hb6); clear hb6)
                | (go_at_call 47; (with_reducible refine (short_6 pl true _ hsp.out hf1.out).mono ?_); rintro e w5 ⟨rfl, hb5⟩; have r5 := Lib.hid (bseqZ r4.out hb5); clear hb5)
                | (go_at_call 23; (with_reducible refine (of_any pl _ hok1.out hsp.out).mono ?_); rintro e w7 ⟨a7, d7, a7', d7', rfl, hm7, hb7⟩; have r7 := Lib.hid (bseqZ r6.out hb7); clear hb7 hm7)
                | (go_at_call 23; (with_reducible refine (of_any fl _ hok2.out hsf.out).mono ?_); rintro e w9 ⟨a9, d9, a9', d9', rfl, hm9, hb9⟩; have r9 := Lib.hid (bseqZ r8.out hb9); clear hb9 hm9)
                | (go_at_call 48; (with_reducible refine (zsign_any a9 d9 (rn (parseQ fl)) _).mono ?_); rintro e w10 ⟨rfl, hb10⟩; have r10 := Lib.hid (bseqZ r9.out hb10); clear hb10)
                | (go_at_call 48; (with_reducible refine (zsign_any a7 d7 (rn (parseQ pl)) _).mono ?_); rintro e w8 ⟨rfl, hb8⟩; have r8 := Lib.hid (bseqZ r7.out hb8); clear hb8))
            go_ret
            exact ⟨rfl, r10.out⟩
          · have g5' : sg (rn (parseQ fl)) ≤ 0 := by omega
            have hk := hbad.out (fun hh => g5 hh.2.2.1)
            subst hk
            clear g1 g2 g3 g4 g5 hok hbad hgood
            go_enter Tryz.func21, Tryz.ntmps21
            go_wp2_with (first
                | (go_at_call 46; (with_reducible refine (nums_any 0 ao c n ss _ hnumH.out hlH.out hH.out (by omega) hs2.out).mono ?_); rintro e w1 ⟨rfl, hb1⟩; have r1 := Lib.hid hb1; clear hb1)
                | (go_at_call 58; (with_reducible refine (valid_b fl true _ hv2.out hsf.out).mono ?_); rintro e w3 ⟨rfl, hb3⟩; have r3 := Lib.hid (bseqZ r2.out hb3); clear hb3)
                | (go_at_call 58; (with_reducible refine (valid_b pl true _ hv1.out hsp.out).mono ?_); rintro e w2 ⟨rfl, hb2⟩; have r2 := Lib.hid (bseqZ r1.out hb2); clear hb2)
                | (go_at_call 11; (with_reducible refine (livesR_any 0 ao c n ss _ hklH.out hlH.out (hH.out.below r3.out) hn1 hsH.out).mono ?_); rintro e w4 ⟨rfl, hb4⟩; have r4 := Lib.hid (bseqZ r3.out hb4); clear hb4)
                | (go_at_call 47; (with_reducible refine (short_6 fl true _ hsf.out hf2.out).mono ?_); rintro e w6 ⟨rfl, hb6⟩; have r6 := Lib.hid (bseqZ r5.out hb6); clear hb6)
                | (go_at_call 47; (with_reducible refine (short_6 pl true _ hsp.out hf1.out).mono ?_); rintro e w5 ⟨rfl, hb5⟩; have r5 := Lib.hid (bseqZ r4.out hb5); clear hb5)
                | (go_at_call 23; (with_reducible refine (of_any pl _ hok1.out hsp.out).mono ?_); rintro e w7 ⟨a7, d7, a7', d7', rfl, hm7, hb7⟩; have r7 := Lib.hid (bseqZ r6.out hb7); clear hb7 hm7)
                | (go_at_call 23; (with_reducible refine (of_any fl _ hok2.out hsf.out).mono ?_); rintro e w9 ⟨a9, d9, a9', d9', rfl, hm9, hb9⟩; have r9 := Lib.hid (bseqZ r8.out hb9); clear hb9 hm9)
                | (go_at_call 48; (with_reducible refine (zsign_any a9 d9 (rn (parseQ fl)) _).mono ?_); rintro e w10 ⟨rfl, hb10⟩; have r10 := Lib.hid (bseqZ r9.out hb10); clear hb10)
                | (go_at_call 48; (with_reducible refine (zsign_any a7 d7 (rn (parseQ pl)) _).mono ?_); rintro e w8 ⟨rfl, hb8⟩; have r8 := Lib.hid (bseqZ r7.out hb8); clear hb8))
            go_ret
            exact ⟨rfl, r10.out⟩
        · have g4' : sg (rn (parseQ pl)) ≤ 0 := by omega
          have hk := hbad.out (fun hh => g4 hh.2.1.1)
          subst hk
          clear g1 g2 g3 g4 hok hbad hgood
          go_enter Tryz.func21, Tryz.ntmps21
          go_wp2_with (first
              | (go_at_call 46; (with_reducible refine (nums_any 0 ao c n ss _ hnumH.out hlH.out hH.out (by omega) hs2.out).mono ?_); rintro e w1 ⟨rfl, hb1⟩; have r1 := Lib.hid hb1; clear hb1)
              | (go_at_call 58; (with_reducible refine (valid_b fl true _ hv2.out hsf.out).mono ?_); rintro e w3 ⟨rfl, hb3⟩; have r3 := Lib.hid (bseqZ r2.out hb3); clear hb3)
              | (go_at_call 58; (with_reducible refine (valid_b pl true _ hv1.out hsp.out).mono ?_); rintro e w2 ⟨rfl, hb2⟩; have r2 := Lib.hid (bseqZ r1.out hb2); clear hb2)
              | (go_at_call 11; (with_reducible refine (livesR_any 0 ao c n ss _ hklH.out hlH.out (hH.out.below r3.out) hn1 hsH.out).mono ?_); rintro e w4 ⟨rfl, hb4⟩; have r4 := Lib.hid (bseqZ r3.out hb4); clear hb4)
              | (go_at_call 47; (with_reducible refine (short_6 fl true _ hsf.out hf2.out).mono ?_); rintro e w6 ⟨rfl, hb6⟩; have r6 := Lib.hid (bseqZ r5.out hb6); clear hb6)
              | (go_at_call 47; (with_reducible refine (short_6 pl true _ hsp.out hf1.out).mono ?_); rintro e w5 ⟨rfl, hb5⟩; have r5 := Lib.hid (bseqZ r4.out hb5); clear hb5)
              | (go_at_call 23; (with_reducible refine (of_any pl _ hok1.out hsp.out).mono ?_); rintro e w7 ⟨a7, d7, a7', d7', rfl, hm7, hb7⟩; have r7 := Lib.hid (bseqZ r6.out hb7); clear hb7 hm7)
              | (go_at_call 23; (with_reducible refine (of_any fl _ hok2.out hsf.out).mono ?_); rintro e w9 ⟨a9, d9, a9', d9', rfl, hm9, hb9⟩; have r9 := Lib.hid (bseqZ r8.out hb9); clear hb9 hm9)
              | (go_at_call 48; (with_reducible refine (zsign_any a9 d9 (rn (parseQ fl)) _).mono ?_); rintro e w10 ⟨rfl, hb10⟩; have r10 := Lib.hid (bseqZ r9.out hb10); clear hb10)
              | (go_at_call 48; (with_reducible refine (zsign_any a7 d7 (rn (parseQ pl)) _).mono ?_); rintro e w8 ⟨rfl, hb8⟩; have r8 := Lib.hid (bseqZ r7.out hb8); clear hb8))
          go_ret
          exact ⟨rfl, r8.out⟩
      · have hf2 := Lib.hid (show shortOK fl 6 = false by rw [e2.out]; simpa using g3)
        have hk := hbad.out (fun hh => g3 hh.2.2.2)
        subst hk
        clear g1 g2 g3 hok hbad hgood
        go_enter Tryz.func21, Tryz.ntmps21
        go_wp2_with (first
            | (go_at_call 46; (with_reducible refine (nums_any 0 ao c n ss _ hnumH.out hlH.out hH.out (by omega) hs2.out).mono ?_); rintro e w1 ⟨rfl, hb1⟩; have r1 := Lib.hid hb1; clear hb1)
            | (go_at_call 58; (with_reducible refine (valid_b fl true _ hv2.out hsf.out).mono ?_); rintro e w3 ⟨rfl, hb3⟩; have r3 := Lib.hid (bseqZ r2.out hb3); clear hb3)
            | (go_at_call 58; (with_reducible refine (valid_b pl true _ hv1.out hsp.out).mono ?_); rintro e w2 ⟨rfl, hb2⟩; have r2 := Lib.hid (bseqZ r1.out hb2); clear hb2)
            | (go_at_call 11; (with_reducible refine (livesR_any 0 ao c n ss _ hklH.out hlH.out (hH.out.below r3.out) hn1 hsH.out).mono ?_); rintro e w4 ⟨rfl, hb4⟩; have r4 := Lib.hid (bseqZ r3.out hb4); clear hb4)
            | (go_at_call 47; (with_reducible refine (short_6 fl false _ hsf.out hf2.out).mono ?_); rintro e w6 ⟨rfl, hb6⟩; have r6 := Lib.hid (bseqZ r5.out hb6); clear hb6)
            | (go_at_call 47; (with_reducible refine (short_6 pl true _ hsp.out hf1.out).mono ?_); rintro e w5 ⟨rfl, hb5⟩; have r5 := Lib.hid (bseqZ r4.out hb5); clear hb5)
            | (go_at_call 23; (with_reducible refine (of_any pl _ hok1.out hsp.out).mono ?_); rintro e w7 ⟨a7, d7, a7', d7', rfl, hm7, hb7⟩; have r7 := Lib.hid (bseqZ r6.out hb7); clear hb7 hm7)
            | (go_at_call 23; (with_reducible refine (of_any fl _ hok2.out hsf.out).mono ?_); rintro e w9 ⟨a9, d9, a9', d9', rfl, hm9, hb9⟩; have r9 := Lib.hid (bseqZ r8.out hb9); clear hb9 hm9)
            | (go_at_call 48; (with_reducible refine (zsign_any a9 d9 (rn (parseQ fl)) _).mono ?_); rintro e w10 ⟨rfl, hb10⟩; have r10 := Lib.hid (bseqZ r9.out hb10); clear hb10)
            | (go_at_call 48; (with_reducible refine (zsign_any a7 d7 (rn (parseQ pl)) _).mono ?_); rintro e w8 ⟨rfl, hb8⟩; have r8 := Lib.hid (bseqZ r7.out hb8); clear hb8))
        go_ret
        exact ⟨rfl, r6.out⟩
    · have hf1 := Lib.hid (show shortOK pl 6 = false by rw [e1.out]; simpa using g2)
      have hk := hbad.out (fun hh => g2 hh.2.1.2)
      subst hk
      clear g1 g2 hok hbad hgood
      go_enter Tryz.func21, Tryz.ntmps21
      go_wp2_with (first
          | (go_at_call 46; (with_reducible refine (nums_any 0 ao c n ss _ hnumH.out hlH.out hH.out (by omega) hs2.out).mono ?_); rintro e w1 ⟨rfl, hb1⟩; have r1 := Lib.hid hb1; clear hb1)
          | (go_at_call 58; (with_reducible refine (valid_b fl true _ hv2.out hsf.out).mono ?_); rintro e w3 ⟨rfl, hb3⟩; have r3 := Lib.hid (bseqZ r2.out hb3); clear hb3)
          | (go_at_call 58; (with_reducible refine (valid_b pl true _ hv1.out hsp.out).mono ?_); rintro e w2 ⟨rfl, hb2⟩; have r2 := Lib.hid (bseqZ r1.out hb2); clear hb2)
          | (go_at_call 11; (with_reducible refine (livesR_any 0 ao c n ss _ hklH.out hlH.out (hH.out.below r3.out) hn1 hsH.out).mono ?_); rintro e w4 ⟨rfl, hb4⟩; have r4 := Lib.hid (bseqZ r3.out hb4); clear hb4)
          | (go_at_call 47; (with_reducible refine (short_6 fl true _ hsf.out hf2.out).mono ?_); rintro e w6 ⟨rfl, hb6⟩; have r6 := Lib.hid (bseqZ r5.out hb6); clear hb6)
          | (go_at_call 47; (with_reducible refine (short_6 pl false _ hsp.out hf1.out).mono ?_); rintro e w5 ⟨rfl, hb5⟩; have r5 := Lib.hid (bseqZ r4.out hb5); clear hb5)
          | (go_at_call 23; (with_reducible refine (of_any pl _ hok1.out hsp.out).mono ?_); rintro e w7 ⟨a7, d7, a7', d7', rfl, hm7, hb7⟩; have r7 := Lib.hid (bseqZ r6.out hb7); clear hb7 hm7)
          | (go_at_call 23; (with_reducible refine (of_any fl _ hok2.out hsf.out).mono ?_); rintro e w9 ⟨a9, d9, a9', d9', rfl, hm9, hb9⟩; have r9 := Lib.hid (bseqZ r8.out hb9); clear hb9 hm9)
          | (go_at_call 48; (with_reducible refine (zsign_any a9 d9 (rn (parseQ fl)) _).mono ?_); rintro e w10 ⟨rfl, hb10⟩; have r10 := Lib.hid (bseqZ r9.out hb10); clear hb10)
          | (go_at_call 48; (with_reducible refine (zsign_any a7 d7 (rn (parseQ pl)) _).mono ?_); rintro e w8 ⟨rfl, hb8⟩; have r8 := Lib.hid (bseqZ r7.out hb8); clear hb8))
      go_ret
      exact ⟨rfl, r5.out⟩
  · have hklH := Lib.hid (show livesE ss 1 from Or.inr (Or.inl ⟨hok.1, g1, rfl⟩))
    have hk := hbad.out (fun hh => g1 hh.1)
    subst hk
    clear g1 hok hbad hgood
    go_enter Tryz.func21, Tryz.ntmps21
    go_wp2_with (first
        | (go_at_call 46; (with_reducible refine (nums_any 0 ao c n ss _ hnumH.out hlH.out hH.out (by omega) hs2.out).mono ?_); rintro e w1 ⟨rfl, hb1⟩; have r1 := Lib.hid hb1; clear hb1)
        | (go_at_call 58; (with_reducible refine (valid_b fl true _ hv2.out hsf.out).mono ?_); rintro e w3 ⟨rfl, hb3⟩; have r3 := Lib.hid (bseqZ r2.out hb3); clear hb3)
        | (go_at_call 58; (with_reducible refine (valid_b pl true _ hv1.out hsp.out).mono ?_); rintro e w2 ⟨rfl, hb2⟩; have r2 := Lib.hid (bseqZ r1.out hb2); clear hb2)
        | (go_at_call 11; (with_reducible refine (livesR_any 1 ao c n ss _ hklH.out hlH.out (hH.out.below r3.out) hn1 hsH.out).mono ?_); rintro e w4 ⟨rfl, hb4⟩; have r4 := Lib.hid (bseqZ r3.out hb4); clear hb4)
        | (go_at_call 47; (with_reducible refine (short_6 fl true _ hsf.out hf2.out).mono ?_); rintro e w6 ⟨rfl, hb6⟩; have r6 := Lib.hid (bseqZ r5.out hb6); clear hb6)
        | (go_at_call 47; (with_reducible refine (short_6 pl true _ hsp.out hf1.out).mono ?_); rintro e w5 ⟨rfl, hb5⟩; have r5 := Lib.hid (bseqZ r4.out hb5); clear hb5)
        | (go_at_call 23; (with_reducible refine (of_any pl _ hok1.out hsp.out).mono ?_); rintro e w7 ⟨a7, d7, a7', d7', rfl, hm7, hb7⟩; have r7 := Lib.hid (bseqZ r6.out hb7); clear hb7 hm7)
        | (go_at_call 23; (with_reducible refine (of_any fl _ hok2.out hsf.out).mono ?_); rintro e w9 ⟨a9, d9, a9', d9', rfl, hm9, hb9⟩; have r9 := Lib.hid (bseqZ r8.out hb9); clear hb9 hm9)
        | (go_at_call 48; (with_reducible refine (zsign_any a9 d9 (rn (parseQ fl)) _).mono ?_); rintro e w10 ⟨rfl, hb10⟩; have r10 := Lib.hid (bseqZ r9.out hb10); clear hb10)
        | (go_at_call 48; (with_reducible refine (zsign_any a7 d7 (rn (parseQ pl)) _).mono ?_); rintro e w8 ⟨rfl, hb8⟩; have r8 := Lib.hid (bseqZ r7.out hb8); clear hb8))
    go_ret
    exact ⟨rfl, r4.out⟩

theorem costsR_any (k : Int) (ao : Option Addr) (c n : Nat) (ss : List ByteArray) (pl fl : ByteArray) (w : World) (hk : costE ss pl fl k) (hl : ss.length = n) (h : SL w ao ss) (hn1 : n ≤ 1000) (hs : ∀ s ∈ ss, s.size ≤ 40) (hpl : pl.size ≤ 40) (hfl : fl.size ≤ 40) :
    Calls Tryz.prog 21 #[.slice ao n c, .string pl, .string fl] w (RetNum w k) := by
  rcases hk with ⟨h1, rfl⟩ | ⟨h1, h2, rfl⟩ | ⟨h1, h2, rfl⟩
  · exact costsR_2 ao c n ss pl fl w hl h hn1 hs hpl hfl h1
  · exact costsR_ok 1 ao c n ss pl fl w hl h hn1 hs hpl hfl h1 (Or.inr ⟨h2, rfl⟩)
  · exact costsR_ok 0 ao c n ss pl fl w hl h hn1 hs hpl hfl h1 (Or.inl ⟨h2, rfl⟩)

end Go.Proofs.YtcaeonpjokkjnaaGreat

/- Walk of the law WearRates. -/
namespace Go.Proofs.YtcaeonpjokkjnaaGreat
open Go Go.RowKit Go.Proofs

theorem bestK_one (rs : List Rat) : bestK rs 1 = 0 := by
  unfold bestK
  split <;> rfl
theorem is_m (s : ByteArray) (a : Option Addr) (c : Nat) (a' : Option Addr) (c' : Nat) (q : Rat) (b : Bool) (w : World) (hb : decide (s = nt q) = b) (h : QM w a c a' c' (rn q) (rd q)) (hq : Short4 q) :
    Calls Tryz.prog 25 #[.string s, .agg #[.bool (ng (rn q)), .slice a (LZ (rn q)) c, .bool (ng (rd q)), .slice a' (LZ (rd q)) c']] w (RetBool w b) := is_b s a c a' c' q b w hb h hq
theorem costE.ex (ss : List ByteArray) (pl fl : ByteArray) : ∃ k, costE ss pl fl k := by
  by_cases h : allOK ss ∧ parseOK pl ∧ parseOK fl
  · by_cases h2 : livesGood (ss.map parseQ) ∧ costOK (parseQ pl) ∧ costOK (parseQ fl)
    · exact ⟨0, Or.inr (Or.inr ⟨h, h2, rfl⟩)⟩
    · exact ⟨1, Or.inr (Or.inl ⟨h, h2, rfl⟩)⟩
  · exact ⟨2, Or.inl ⟨h, rfl⟩⟩
theorem all_two {pl fl : ByteArray} : allOK [pl, fl] ↔ parseOK pl ∧ parseOK fl := by
  unfold allOK; simp
theorem rates_k (k : Int) (ao : Option Addr) (c l : Nat) (ss : List ByteArray) (pl fl : ByteArray) (w : World) (hk0 : k = 1 ∨ k = 2) (hk : costE ss pl fl k) (hl : ss.length = l) (h : SL w ao ss) (hn : l ≤ 1000) (hs : ∀ s ∈ ss, s.size ≤ 40) (hpl : pl.size ≤ 40) (hfl : fl.size ≤ 40) :
    Calls Tryz.prog 55 #[.slice ao l c, .string pl, .string fl] w (RetErr w k) := by
  subst hl
  have hss : ∀ s ∈ [pl, fl], s.size ≤ 4611686018427387904 := fun s hh => by
    simp at hh
    rcases hh with rfl | rfl <;> omega
  rcases hk with ⟨h1, rfl⟩ | ⟨⟨h1, h3⟩, h2, rfl⟩ | ⟨_, _, rfl⟩
  · by_cases h4 : allOK ss
    · have h5 : ¬ allOK [pl, fl] := fun h6 => h1 ⟨h4, all_two.1 h6⟩
      by_cases h7 : livesGood (ss.map parseQ)
      · exact rates_form 0 ao c ss.length pl fl w ((read_0 ao c ss w h hs h4 h7).mono fun _ _ => RE.lives) hss (Or.inr h5)
      · exact rates_form 1 ao c ss.length pl fl w ((read_1 ao c ss w h (by omega) hs h4 h7).mono fun _ _ => RE.err) hss (Or.inr h5)
    · exact rates_form 2 ao c ss.length pl fl w ((read_2 ao c ss w h (by omega) hs h4).mono fun _ _ => RE.err) hss (Or.inl rfl)
  · by_cases h7 : livesGood (ss.map parseQ)
    · exact rates_cost ao c ss.length pl fl w ((read_0 ao c ss w h hs h1 h7).mono fun _ _ => RE.lives) hss (all_two.2 h3) ⟨own_sz (ss := [pl]) (by unfold allOK; simpa using h3.1) (by simpa using hpl) _ (by simp), own_sz (ss := [fl]) (by unfold allOK; simpa using h3.2) (by simpa using hfl) _ (by simp)⟩ (fun h8 => h2 ⟨h7, h8⟩)
    · exact rates_arg ao c ss.length pl fl w ((read_1 ao c ss w h (by omega) hs h1 h7).mono fun _ _ => RE.err) hss (all_two.2 h3)
  · omega
theorem rates_0 (ao : Option Addr) (c l : Nat) (ss : List ByteArray) (pl fl : ByteArray) (ps : List Rat) (w : World) (hps : ss.map parseQ = ps) (hl : ss.length = l) (h : SL w ao ss) (hs : ∀ s ∈ ss, s.size ≤ 40) (hpl : pl.size ≤ 40) (hfl : fl.size ≤ 40)
    (hok : allOK ss ∧ parseOK pl ∧ parseOK fl) (hg : livesGood ps ∧ costOK (parseQ pl) ∧ costOK (parseQ fl)) :
    Calls Tryz.prog 55 #[.slice ao l c, .string pl, .string fl] w (RetLives w (rateL ps (parseQ pl) (parseQ fl))) := by
  subst hl hps
  have hv := Lv.of hg.1
  exact rates_good ao c ss pl fl (ss.map parseQ) w (read_0 ao c ss w h hs hok.1 hg.1) hv.len hok.2.1 hok.2.2 (by omega) (by omega) hg.2.1.1 hg.2.2.1 hg.2.1.2 hg.2.2.2 (hv.rates (Cs.of hg.2.1) (Cs.of hg.2.2))

set_option maxRecDepth 100000 in
set_option maxHeartbeats 3200000 in
theorem ratesLaw_bad (k : Int) (hk0 : k = 1 ∨ k = 2) (ao : Option Addr) (c l : Nat) (xs : List ByteArray) (y0 y1 : ByteArray) (w : World) (hk : costE (fewL xs 13) (cut40 y0) (cut40 y1) k) (hl : xs.length = l) (h : SL w ao xs) (hl1 : l ≤ 9223372036854775807) (hs : ∀ s ∈ xs, s.size ≤ 9223372036854775807) (hy0 : y0.size ≤ 9223372036854775807) (hy1 : y1.size ≤ 9223372036854775807) :
    Calls Tryz.prog 4 #[.slice ao l c, .agg #[.string y0, .string y1]] w (RetBool w true) := by
  have hH := Lib.hid h
  have hlH := Lib.hid hl
  have hsH := Lib.hid hs
  have hkH := Lib.hid hk
  obtain ⟨ss, hss⟩ : ∃ ss, ss = fewL xs 13 := ⟨_, rfl⟩
  have hssH := Lib.hid hss
  obtain ⟨pl, hpl⟩ : ∃ pl, pl = cut40 y0 := ⟨_, rfl⟩
  obtain ⟨fl, hfl⟩ : ∃ fl, fl = cut40 y1 := ⟨_, rfl⟩
  have hplH := Lib.hid hpl
  have hflH := Lib.hid hfl
  have p40 : pl.size ≤ 40 := by rw [hpl]; exact cut40_size y0
  have f40 : fl.size ≤ 40 := by rw [hfl]; exact cut40_size y1
  rw [← hss, ← hpl, ← hfl] at hkH
  have hsm := Lib.hid (show ∀ s ∈ ss, s.size ≤ 40 by rw [hss]; exact fewL_small xs 13)
  have hm13 : ss.length ≤ 13 := by rw [hss]; exact fewL_le xs 13
  obtain ⟨m, hm⟩ : ∃ m, ss.length = m := ⟨_, rfl⟩
  have hmH := Lib.hid hm
  rw [hm] at hm13
  have hr : Hid (∀ (v : World) (a : Option Addr) (c : Nat), SL v a ss → Calls Tryz.prog 55 #[.slice a m c, .string pl, .string fl] v (RetErr v k)) := fun v a c hS => rates_k k a c m ss pl fl v hk0 hkH.out hmH.out hS (by omega) hsm.out p40 f40
  have hkn : (k != 0) = true := by rcases hk0 with rfl | rfl <;> rfl
  have hrT : Hid (∀ (v : World) (a : Option Addr) (c : Nat), SL v a ss → Calls Tryz.prog 19 #[.slice a m c, .string pl, .string fl] v (RetErr v k)) := fun v a c hS => ratesT_bad k hkn a c m pl fl v (hr.out v a c hS)
  have hrB : Hid (∀ (v : World) (a : Option Addr) (c : Nat), SL v a ss → Calls Tryz.prog 20 #[.slice a m c, .string pl, .string fl] v (RetBestErr v k)) := fun v a c hS => replace_bad k hkn a c m pl fl v (hr.out v a c hS)
  obtain ⟨W, hW⟩ : ∃ W, W = w.alloc (Obj.cells #[.string y0, .string y1] 35) := ⟨_, rfl⟩
  have hbW := Lib.hid (show Below w.heap.size w W by rw [hW]; exact (Below.refl _ _).alloc (Nat.le_refl _) _)
  have x0 : W.cell? ⟨w.heap.size, 0, none⟩ = some (.string y0) := by rw [hW]; simp [go_sem]
  have x1 : W.cell? ⟨w.heap.size, 1, none⟩ = some (.string y1) := by rw [hW]; simp [go_sem]
  have hzW : w.heap.size < W.heap.size := by rw [hW]; simp
  have hWH := Lib.hid hW
  have hHW := Lib.hid (hH.out.below hbW.out)
  clear h hl hs hk hss hm hpl hfl hkn hW
  go_enter Tryz.func4, Tryz.ntmps4
  go_upto_region 1 with (fail)
  rw [← hWH.out]
  go_region_held3 (fun w' => Kq W w')
    (first | (with_reducible exact Kq.drew _) | (with_reducible exact k1.out) | (with_reducible exact Kq.step (by assumption) (by assumption)))
    (first
      | (go_at_call 10; (with_reducible refine (few_n ao c l xs _ hlH.out (hHW.out.below (Below.refl _ _).drew) hl1 hsH.out).mono ?_); rintro e w1 ⟨a1, c1, rfl, hV1, hb1⟩; rw [← hssH.out] at hV1; have hS1 := Lib.hid (SV.sl hV1); have k1 : Hid (Kq W w1) := Kq.step (by assumption) hb1; rw [← hssH.out, hmH.out]; clear hV1 hb1)
      | (go_at_call 18; (with_reducible refine (num_any y0 _ hy0).mono ?_); rintro e w2 ⟨rfl, rfl⟩; rw [← hplH.out])
      | (go_at_call 18; (with_reducible refine (num_any y1 _ hy1).mono ?_); rintro e w2 ⟨rfl, rfl⟩; rw [← hflH.out]))
  have r1 := Lib.hid (Below.refl w2.heap.size w2)
  rcases hk0 with rfl | rfl
  all_goals (
    go_wp2_with (first
      | (go_at_call 19; go_loud (with_reducible refine (hrT.out _ a1 c1 (hS1.out.below r1.out)).mono ?_); rintro e w3 ⟨rfl, hb3⟩; have r3 := Lib.hid (bseq r1.out hb3); clear hb3)
      | (go_at_call 20; go_loud (with_reducible refine (hrB.out _ a1 c1 (hS1.out.below r3.out)).mono ?_); rintro e w4 ⟨rfl, hb4⟩; have r4 := Lib.hid (bseq r3.out hb4); clear hb4)
      | (go_at_call 21; go_loud (with_reducible refine (costsR_any _ a1 c1 m ss pl fl _ hkH.out hmH.out (hS1.out.below r4.out) (by omega) hsm.out p40 f40).mono ?_); rintro e w5 ⟨rfl, hb5⟩; have r5 := Lib.hid (bseq r4.out hb5); clear hb5)
      | (go_at_call 14; go_loud (with_reducible refine (lives_any _).mono ?_); rintro e w6 ⟨rfl, hb6⟩; have r6 := Lib.hid (bseq r5.out hb6); clear hb6))
    go_ret
    exact ⟨rfl, bseq (bseq hbW.out k1.out.2) r6.out⟩)

set_option maxRecDepth 100000 in
set_option maxHeartbeats 3200000 in
theorem ratesLaw_good (ao : Option Addr) (c l : Nat) (xs : List ByteArray) (y0 y1 : ByteArray) (w : World) (hok : allOK (fewL xs 13) ∧ parseOK (cut40 y0) ∧ parseOK (cut40 y1)) (hg : livesGood ((fewL xs 13).map parseQ) ∧ costOK (parseQ (cut40 y0)) ∧ costOK (parseQ (cut40 y1))) (hl : xs.length = l) (h : SL w ao xs) (hl1 : l ≤ 9223372036854775807) (hs : ∀ s ∈ xs, s.size ≤ 9223372036854775807) (hy0 : y0.size ≤ 9223372036854775807) (hy1 : y1.size ≤ 9223372036854775807) :
    Calls Tryz.prog 4 #[.slice ao l c, .agg #[.string y0, .string y1]] w (RetBool w true) := by
  have hH := Lib.hid h
  have hlH := Lib.hid hl
  have hsH := Lib.hid hs
  obtain ⟨ss, hss⟩ : ∃ ss, ss = fewL xs 13 := ⟨_, rfl⟩
  have hssH := Lib.hid hss
  obtain ⟨pl, hpl⟩ : ∃ pl, pl = cut40 y0 := ⟨_, rfl⟩
  obtain ⟨fl, hfl⟩ : ∃ fl, fl = cut40 y1 := ⟨_, rfl⟩
  have hplH := Lib.hid hpl
  have hflH := Lib.hid hfl
  have p40 : pl.size ≤ 40 := by rw [hpl]; exact cut40_size y0
  have f40 : fl.size ≤ 40 := by rw [hfl]; exact cut40_size y1
  rw [← hss, ← hpl, ← hfl] at hok hg
  have hokH := Lib.hid hok
  have hsm := Lib.hid (show ∀ s ∈ ss, s.size ≤ 40 by rw [hss]; exact fewL_small xs 13)
  have hm13 : ss.length ≤ 13 := by rw [hss]; exact fewL_le xs 13
  obtain ⟨m, hm⟩ : ∃ m, ss.length = m := ⟨_, rfl⟩
  have hmH := Lib.hid hm
  rw [hm] at hm13
  have hkH : Hid (costE ss pl fl 0) := Or.inr (Or.inr ⟨hok, hg, rfl⟩)
  obtain ⟨ps, hps⟩ : ∃ ps, ps = ss.map parseQ := ⟨_, rfl⟩
  have hpsH := Lib.hid hps
  have hpl' : Hid (ps.length = m) := by show _ = _; rw [hps, List.length_map]; exact hm
  rw [← hps] at hg
  have hlv := Lib.hid (Lv.of hg.1)
  have hp12 : m ≤ 12 := by have := hlv.out.len; rw [hpl'.out] at this; exact this
  have hp1 : 1 ≤ m := by have := hlv.out.pos; rw [hpl'.out] at this; exact this
  have hst := Lib.hid (hlv.out.rateSt (Cs.of hg.2.1) (Cs.of hg.2.2))
  obtain ⟨rs, hrs⟩ : ∃ rs, rs = rateL ps (parseQ pl) (parseQ fl) := ⟨_, rfl⟩
  have hrl : Hid (rs.length = m) := by show _ = _; rw [hrs, rateL_length]; exact hpl'.out
  have hrl2 : Hid ((rs.map nt).length = m) := by show _ = _; rw [List.length_map]; exact hrl.out
  have hrz : Hid (∀ r ∈ rs, Sz r ∧ numRes r = (nt r, 0)) := by rw [hrs]; exact hlv.out.rateL (Cs.of hg.2.1) (Cs.of hg.2.2)
  have hr4 : Hid (∀ r ∈ rs, Short4 r) := fun r hr => by
    rw [hrs] at hr
    obtain ⟨k, _, rfl⟩ := List.mem_map.1 hr
    exact hst.out.rate k
  have hr : Hid (∀ (v : World) (a : Option Addr) (c : Nat), SL v a ss → Calls Tryz.prog 55 #[.slice a m c, .string pl, .string fl] v (RetLives v rs)) := fun v a c hS => by
    rw [hrs]; exact rates_0 a c m ss pl fl ps v hps.symm hmH.out hS hsm.out p40 f40 hokH.out hg
  have hrT : Hid (∀ (v : World) (a : Option Addr) (c : Nat), SL v a ss → Calls Tryz.prog 19 #[.slice a m c, .string pl, .string fl] v (RetNums v (rs.map nt))) := fun v a c hS => ratesT_good rs a c m pl fl v (hr.out v a c hS) (by rw [hrl.out]; exact hp12) hrz.out
  obtain ⟨t, ht⟩ : ∃ t, t = bestK rs m := ⟨_, rfl⟩
  have htm : t < m := by rw [ht]; exact bestK_lt rs m hp1
  obtain ⟨r, hrt⟩ : ∃ r, rs[t]? = some r := ⟨_, List.getElem?_eq_getElem (by rw [hrl.out]; exact htm)⟩
  have hrB : Hid (∀ (v : World) (a : Option Addr) (c : Nat), SL v a ss → Calls Tryz.prog 20 #[.slice a m c, .string pl, .string fl] v (RetBest v (t + 1) (nt r))) := fun v a c hS => by
    have := replace_good rs a c m pl fl v (hr.out v a c hS) (by rw [hrl.out]; exact hp1) (by rw [hrl.out]; exact hp12) hrz.out
    rw [hrl.out, ← ht, show nth rs t = r by unfold nth; rw [hrt]; rfl] at this
    exact this
  have hrR : Hid (∀ (v : World) (a b b' f f' : Option Addr) (c d d' g g' : Nat), ZL v a ps → QM v b d b' d' (rn (parseQ pl)) (rd (parseQ pl)) → QM v f g f' g' (rn (parseQ fl)) (rd (parseQ fl)) →
      Calls Tryz.prog 22 #[.slice a m c, .agg #[.bool (ng (rn (parseQ pl))), .slice b (LZ (rn (parseQ pl))) d, .bool (ng (rd (parseQ pl))), .slice b' (LZ (rd (parseQ pl))) d'], .agg #[.bool (ng (rn (parseQ fl))), .slice f (LZ (rn (parseQ fl))) g, .bool (ng (rd (parseQ fl))), .slice f' (LZ (rd (parseQ fl))) g']] v (RetZL v rs)) := fun v a b b' f f' c d d' g g' h0 h1 h2 => by
    rw [hrs]; exact ratesR_any a c m ps (parseQ pl) (parseQ fl) b f b' f' d g d' g' v hpl'.out h0 hp12 hst.out h1 h2
  have hlg : Hid (∀ s ∈ ss, s.size ≤ 4611686018427387904) := fun s hh => by have := hsm.out s hh; omega
  have htH := Lib.hid ht
  have hrtH := Lib.hid hrt
  obtain ⟨W, hW⟩ : ∃ W, W = w.alloc (Obj.cells #[.string y0, .string y1] 35) := ⟨_, rfl⟩
  have hbW := Lib.hid (show Below w.heap.size w W by rw [hW]; exact (Below.refl _ _).alloc (Nat.le_refl _) _)
  have x0 : W.cell? ⟨w.heap.size, 0, none⟩ = some (.string y0) := by rw [hW]; simp [go_sem]
  have x1 : W.cell? ⟨w.heap.size, 1, none⟩ = some (.string y1) := by rw [hW]; simp [go_sem]
  have hzW : w.heap.size < W.heap.size := by rw [hW]; simp
  have hWH := Lib.hid hW
  have hHW := Lib.hid (hH.out.below hbW.out)
  clear h hl hs hss hm hpl hfl hW hok hg hps hrs ht hrt hr
  go_enter Tryz.func4, Tryz.ntmps4
  go_upto_region 1 with (fail)
  rw [← hWH.out]
  go_region_held3 (fun w' => Kq W w')
    (first | (with_reducible exact Kq.drew _) | (with_reducible exact k1.out) | (with_reducible exact Kq.step (by assumption) (by assumption)))
    (first
      | (go_at_call 10; (with_reducible refine (few_n ao c l xs _ hlH.out (hHW.out.below (Below.refl _ _).drew) hl1 hsH.out).mono ?_); rintro e w1 ⟨a1, c1, rfl, hV1, hb1⟩; rw [← hssH.out] at hV1; have hS1 := Lib.hid (SV.sl hV1); have k1 : Hid (Kq W w1) := Kq.step (by assumption) hb1; rw [← hssH.out, hmH.out]; clear hV1 hb1)
      | (go_at_call 18; (with_reducible refine (num_any y0 _ hy0).mono ?_); rintro e w2 ⟨rfl, rfl⟩; rw [← hplH.out])
      | (go_at_call 18; (with_reducible refine (num_any y1 _ hy1).mono ?_); rintro e w2 ⟨rfl, rfl⟩; rw [← hflH.out]))
  have r1 := Lib.hid (Below.refl w2.heap.size w2)
  have hbK := Lib.hid (bseq hbW.out k1.out.2)
  clear x0 x1 hzW hWH hHW hbW k1
  go_wp2_with (first
    | (go_at_call 19; go_loud (with_reducible refine (hrT.out _ a1 c1 (hS1.out.below r1.out)).mono ?_); rintro e w3 ⟨a3, c3, rfl, hV3, hb3⟩; have r3 := Lib.hid (bseq r1.out hb3); have hS3 := Lib.hid (SV.sl hV3); have hcap3 := SV.cap hV3 rfl; rw [hrl2.out] at hcap3 ⊢; clear hV3 hb3)
    | (go_at_call 20; go_loud (with_reducible refine (hrB.out _ a1 c1 (hS1.out.below r3.out)).mono ?_); rintro e w4 ⟨rfl, hb4⟩; have r4 := Lib.hid (bseq r3.out hb4); have hS4 := Lib.hid (hS3.out.below hb4); clear hb4)
    | (go_at_call 21; go_loud (with_reducible refine (costsR_any _ a1 c1 m ss pl fl _ hkH.out hmH.out (hS1.out.below r4.out) (by omega) hsm.out p40 f40).mono ?_); rintro e w5 ⟨rfl, hb5⟩; have r5 := Lib.hid (bseq r4.out hb5); have hS5 := Lib.hid (hS4.out.below hb5); clear hb5)
    | (go_at_call 17; go_loud (with_reducible refine (qs_any a1 c1 m ss _ hmH.out (hS1.out.below r5.out) (by omega) hlg.out hokH.out.1).mono ?_); rintro e w7 ⟨a7, c7, rfl, hV7, hb7⟩; rw [← hpsH.out] at hV7; have hS7 := Lib.hid (ZV.ql hV7); have r7 := Lib.hid (bseq r5.out hb7); have hS57 := Lib.hid (hS5.out.below hb7); rw [← hpsH.out, hpl'.out]; clear hV7 hb7)
    | (go_at_call 23; (with_reducible refine (of_any pl _ hokH.out.2.1 (by omega)).mono ?_); rintro e w8 ⟨a8, c8, a8', c8', rfl, hm8, hb8⟩; have hm8H := Lib.hid hm8; have r8 := Lib.hid (bseq r7.out hb8); have hS8 := Lib.hid (hS57.out.below hb8); have hL8 := Lib.hid (hS7.out.below hb8); clear hb8 hm8)
    | (go_at_call 23; go_loud (with_reducible refine (of_any fl _ hokH.out.2.2 (by omega)).mono ?_); rintro e w9 ⟨a9, c9, a9', c9', rfl, hm9, hb9⟩; have hm9H := Lib.hid hm9; have hm89H := Lib.hid (QM.up hm8H.out hb9); have r9 := Lib.hid (bseq r8.out hb9); have hS9 := Lib.hid (hS8.out.below hb9); have hL9 := Lib.hid (hL8.out.below hb9); clear hb9 hm9)
    | (go_at_call 22; go_loud (with_reducible refine (hrR.out _ a7 a8 a8' a9 a9' c7 c8 c8' c9 c9' hL9.out hm89H.out hm9H.out).mono ?_); rintro e w10 ⟨a10, c10, rfl, hV10, hb10⟩; have hcap10 := ZV.cap hV10 rfl; have hS10 := Lib.hid (ZV.ql hV10); have r10 := Lib.hid (bseq r9.out hb10); have hS310 := Lib.hid (hS9.out.below hb10); rw [hrl.out] at hcap10 ⊢; clear hV10 hb10))
  go_loopw [15, 16] (fun b i wr => ∃ k, i = .int .i64 (k : Nat) ∧ 1 ≤ k ∧ k ≤ m ∧ b = .int .i64 (bestK rs k : Nat) ∧ Below w10.heap.size w10 wr) (fun _ i _ => m - (intOf i).toNat)
  case atStart => exact ⟨1, rfl, Nat.le_refl _, hp1, by rw [bestK_one]; rfl, Below.refl _ _⟩
  case round =>
    obtain ⟨k, rfl, hk1, hk, rfl, hbl⟩ := hrel
    have hblH := Lib.hid hbl
    by_cases hkm : k < m
    · obtain ⟨q, hq⟩ : ∃ q, rs[k]? = some q := ⟨_, List.getElem?_eq_getElem (by rw [hrl.out]; exact hkm)⟩
      obtain ⟨u, hu⟩ : ∃ u, u = bestK rs k := ⟨_, rfl⟩
      have huk : u < k := by rw [hu]; exact bestK_lt rs k hk1
      obtain ⟨r', hr⟩ : ∃ r', rs[u]? = some r' := ⟨_, List.getElem?_eq_getElem (by rw [hrl.out]; omega)⟩
      obtain ⟨b1, o1, p1, ha1, hm1, e0, e1, e2, e3⟩ := (hS10.out.below hbl) k q hq
      obtain ⟨b2, o2, p2, ha2, hm2, f0, f1, f2, f3⟩ := (hS10.out.below hbl) u r' hr
      rw [ha1] at ha2
      injection ha2 with ha2
      injection ha2 with g1 g2 g3
      subst g1 g2 ha1
      have z1 := Lib.hid ((PQ.low (hr4.out q (List.mem_of_getElem? hq))).szq (by omega))
      have z2 := Lib.hid ((PQ.low (hr4.out r' (List.mem_of_getElem? hr))).szq (by omega))
      have hnx : Hid (bestK rs (k + 1) = if rsg q r' < 0 then k else u) := by
        show _ = _
        rw [bestK, ← hu]
        unfold nth
        rw [hq, hr]
        rfl
      have huH := Lib.hid hu
      rw [← hu]
      have hM1 := Lib.hid (show QM wr p1.a p1.c p1.a' p1.c' (rn q) (rd q) from hm1)
      have hM2 := Lib.hid (show QM wr p2.a p2.c p2.a' p2.c' (rn r') (rd r') from hm2)
      have hzb : b1 < wr.heap.size := World.block_lt_of_cell? wr _ e0
      have hkk : (k : Int) < m := by omega
      have huc : (u : Int) < m := by omega
      clear hm1 hm2 hq hr hbl hu
      go_wp2_with (fail)
      by_cases hlt : rsg q r' < 0
      · have hnx2 : Hid (bestK rs (k + 1) = k) := by show _ = _; rw [hnx.out, if_pos hlt]
        have hlt' : sg (rn q * rd r' - rn r' * rd q) < 0 := hlt
        clear hlt
        go_region_held3 (fun w' => Kq wr w')
          (first | (with_reducible exact Kq.drew _) | (with_reducible exact k11.out) | (with_reducible exact Kq.step (by assumption) (by assumption)))
          (first
            | (go_at_call 24; (with_reducible refine (cmpq_any p1.a p1.c p1.a' p1.c' p2.a p2.c p2.a' p2.c' (rn q) (rd q) (rn r') (rd r') _ (QM.kq hM1.out (by assumption)) (QM.kq hM2.out (by assumption)) z1.out z2.out).mono ?_); rintro e w11 ⟨rfl, hb11⟩; have k11 : Hid (Kq wr w11) := Kq.step (by assumption) hb11))
        go_wp2_with (fail)
        go_roundw
        case rel => exact ⟨k + 1, by go_num, by omega, by omega, by rw [hnx2.out], bseqZ hblH.out k11.out.2⟩
        case measure => simp [intOf]; omega
      · have hnx2 : Hid (bestK rs (k + 1) = u) := by show _ = _; rw [hnx.out, if_neg hlt]
        have hlt' : ¬ sg (rn q * rd r' - rn r' * rd q) < 0 := hlt
        clear hlt
        go_region_held3 (fun w' => Kq wr w')
          (first | (with_reducible exact Kq.drew _) | (with_reducible exact k11.out) | (with_reducible exact Kq.step (by assumption) (by assumption)))
          (first
            | (go_at_call 24; (with_reducible refine (cmpq_any p1.a p1.c p1.a' p1.c' p2.a p2.c p2.a' p2.c' (rn q) (rd q) (rn r') (rd r') _ (QM.kq hM1.out (by assumption)) (QM.kq hM2.out (by assumption)) z1.out z2.out).mono ?_); rintro e w11 ⟨rfl, hb11⟩; have k11 : Hid (Kq wr w11) := Kq.step (by assumption) hb11))
        go_wp2_with (fail)
        go_roundw
        case rel => exact ⟨k + 1, by go_num, by omega, by omega, by rw [hnx2.out], bseqZ hblH.out k11.out.2⟩
        case measure => simp [intOf]; omega
    · have hke : k = m := by omega
      subst hke
      rw [← htH.out]
      obtain ⟨b1, o1, p1, rfl, hm1, e0, e1, e2, e3⟩ := (hS10.out.below hbl) t r hrtH.out
      have hM1 := Lib.hid (show QM wr p1.a p1.c p1.a' p1.c' (rn r) (rd r) from hm1)
      have hS3w := Lib.hid (hS310.out.below hbl)
      have hSw := Lib.hid (hS10.out.below hbl)
      have h4 := Lib.hid (hr4.out r (List.mem_of_getElem? hrtH.out))
      have htk : (t : Int) < k := by omega
      clear hm1 hkm hbl
      go_wp2_with (first
        | (go_at_call 15; go_loud (with_reducible refine (are_t a3 (some ⟨b1, o1, none⟩) c3 c10 k rs _ hrl.out hS3w.out hSw.out (by omega) hr4.out hcap3 hcap10).mono ?_); rintro e w12 ⟨rfl, hb12⟩; have f0 := Below.cellAt hb12 (Nat.le_refl _) e0; have f1 := Below.cellAt hb12 (Nat.le_refl _) e1; have f2 := Below.cellAt hb12 (Nat.le_refl _) e2; have f3 := Below.cellAt hb12 (Nat.le_refl _) e3; have hM12 := Lib.hid (QM.up hM1.out hb12); have r12 := Lib.hid (bseq hblH.out hb12); clear hb12)
        | (go_at_call 25; go_loud (with_reducible refine (is_m (nt r) p1.a p1.c p1.a' p1.c' r true _ (by simp) hM12.out h4.out).mono ?_); rintro e w13 ⟨rfl, hb13⟩; have r13 := Lib.hid (bseq r12.out hb13); clear hb13)
        | (go_at_call 14; go_loud (with_reducible refine (lives_any _).mono ?_); rintro e w14 ⟨rfl, hb14⟩; have r14 := Lib.hid (bseq r13.out hb14); clear hb14))
      go_ret
      exact ⟨rfl, bseq (bseq hbK.out r10.out) r14.out⟩

/-- The law holds. -/
theorem ratesLaw_any (ao : Option Addr) (c l : Nat) (xs : List ByteArray) (y0 y1 : ByteArray) (w : World) (hl : xs.length = l) (h : SL w ao xs) (hl1 : l ≤ 9223372036854775807) (hs : ∀ s ∈ xs, s.size ≤ 9223372036854775807) (hy0 : y0.size ≤ 9223372036854775807) (hy1 : y1.size ≤ 9223372036854775807) :
    Calls Tryz.prog 4 #[.slice ao l c, .agg #[.string y0, .string y1]] w (RetBool w true) := by
  obtain ⟨k, hk⟩ := costE.ex (fewL xs 13) (cut40 y0) (cut40 y1)
  have hk2 := hk
  rcases hk2 with ⟨_, rfl⟩ | ⟨_, _, rfl⟩ | ⟨h1, h2, _⟩
  · exact ratesLaw_bad 2 (Or.inr rfl) ao c l xs y0 y1 w hk hl h hl1 hs hy0 hy1
  · exact ratesLaw_bad 1 (Or.inl rfl) ao c l xs y0 y1 w hk hl h hl1 hs hy0 hy1
  · exact ratesLaw_good ao c l xs y0 y1 w h1 h2 hl h hl1 hs hy0 hy1

end Go.Proofs.YtcaeonpjokkjnaaGreat
