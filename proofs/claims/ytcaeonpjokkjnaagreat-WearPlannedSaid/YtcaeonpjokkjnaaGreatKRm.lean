/- Rm -/
import Derived.Test.YtcaeonpjokkjnaaGreatKXc
import Derived.Test.YtcaeonpjokkjnaaGreatKXd
import Derived.Test.YtcaeonpjokkjnaaGreatKXg
set_option linter.unusedVariables false
/- Walk of the law WearMeans. -/
namespace Go.Proofs.YtcaeonpjokkjnaaGreat
open Go Go.RowKit Go.Proofs

theorem read_k (k : Int) (ao : Option Addr) (c l : Nat) (ss : List ByteArray) (w : World) (hk0 : k = 1 ∨ k = 2) (hk : livesE ss k) (hl : ss.length = l) (h : SL w ao ss) (hn : l ≤ 1000) (hs : ∀ s ∈ ss, s.size ≤ 40) :
    Calls Tryz.prog 49 #[.slice ao l c] w (RetErr w k) := by
  subst hl
  rcases hk with ⟨h1, rfl⟩ | ⟨h1, h2, rfl⟩ | ⟨h1, h2, rfl⟩
  · exact read_2 ao c ss w h (by omega) hs h1
  · exact read_1 ao c ss w h (by omega) hs h1 h2
  · omega
theorem mean_bad_l (k : Int) (hk : (k != 0) = true) (ao : Option Addr) (c l : Nat) (ss : List ByteArray) (w : World) (hl : ss.length = l) (h : Calls Tryz.prog 49 #[.slice ao l c] w (RetErr w k)) :
    Calls Tryz.prog 40 #[.slice ao l c] w (RetMeanErr w k) := by subst hl; exact mean_bad k hk ao c ss w h

set_option maxRecDepth 100000 in
set_option maxHeartbeats 3200000 in
theorem means_bad (k : Int) (hk0 : k = 1 ∨ k = 2) (ao : Option Addr) (c l : Nat) (xs : List ByteArray) (w : World) (hk : livesE (fewL xs 13) k) (hl : xs.length = l) (h : SL w ao xs) (hl1 : l ≤ 9223372036854775807) (hs : ∀ s ∈ xs, s.size ≤ 9223372036854775807) :
    Calls Tryz.prog 8 #[.slice ao l c] w (RetBool w true) := by
  have hH := Lib.hid h
  have hlH := Lib.hid hl
  have hsH := Lib.hid hs
  have hkH := Lib.hid hk
  obtain ⟨ss, hss⟩ : ∃ ss, ss = fewL xs 13 := ⟨_, rfl⟩
  have hssH := Lib.hid hss
  rw [← hss] at hkH
  have hsm := Lib.hid (show ∀ s ∈ ss, s.size ≤ 40 by rw [hss]; exact fewL_small xs 13)
  have hm13 : ss.length ≤ 13 := by rw [hss]; exact fewL_le xs 13
  obtain ⟨m, hm⟩ : ∃ m, ss.length = m := ⟨_, rfl⟩
  have hmH := Lib.hid hm
  rw [hm] at hm13
  have hkn : (k != 0) = true := by rcases hk0 with rfl | rfl <;> rfl
  have hr : Hid (∀ (v : World) (a : Option Addr) (c : Nat), SL v a ss → Calls Tryz.prog 49 #[.slice a m c] v (RetErr v k)) := fun v a c hS => read_k k a c m ss v hk0 hkH.out hmH.out hS (by omega) hsm.out
  have hrM : Hid (∀ (v : World) (a : Option Addr) (c : Nat), SL v a ss → Calls Tryz.prog 40 #[.slice a m c] v (RetMeanErr v k)) := fun v a c hS => mean_bad_l k hkn a c m ss v hmH.out (hr.out v a c hS)
  have hrA : Hid (∀ (v : World) (a : Option Addr) (c : Nat), SL v a ss → Calls Tryz.prog 27 #[.slice a m c] v (RetErr v k)) := fun v a c hS => ages_bad k hkn a c m v (hr.out v a c hS)
  have hrH : Hid (∀ (v : World) (a : Option Addr) (c : Nat), SL v a ss → Calls Tryz.prog 36 #[.slice a m c] v (RetErr v k)) := fun v a c hS => hazards_bad k hkn a c m v (hr.out v a c hS)
  clear h hl hs hk hss hm hkn
  rcases hk0 with rfl | rfl
  all_goals (
    go_enter Tryz.func8, Tryz.ntmps8
    go_wp2_with (first
      | (go_at_call 10; go_loud (with_reducible refine (few_n ao c l xs _ hlH.out hH.out hl1 hsH.out).mono ?_); rintro e w1 ⟨a1, c1, rfl, hV1, hb1⟩; rw [← hssH.out] at hV1; have hS1 := Lib.hid (SV.sl hV1); have hb1H := Lib.hid hb1; have r1 := Lib.hid (Below.refl w1.heap.size w1); rw [← hssH.out, hmH.out]; clear hV1 hb1)
      | (go_at_call 40; go_loud (with_reducible refine (hrM.out _ a1 c1 (hS1.out.below r1.out)).mono ?_); rintro e w2 ⟨rfl, hb2⟩; have r2 := Lib.hid (bseq r1.out hb2); clear hb2)
      | (go_at_call 27; go_loud (with_reducible refine (hrA.out _ a1 c1 (hS1.out.below r2.out)).mono ?_); rintro e w3 ⟨rfl, hb3⟩; have r3 := Lib.hid (bseq r2.out hb3); clear hb3)
      | (go_at_call 36; go_loud (with_reducible refine (hrH.out _ a1 c1 (hS1.out.below r3.out)).mono ?_); rintro e w4 ⟨rfl, hb4⟩; have r4 := Lib.hid (bseq r3.out hb4); clear hb4)
      | (go_at_call 11; go_loud (with_reducible refine (livesR_any _ a1 c1 m ss _ hkH.out hmH.out (hS1.out.below r4.out) (by omega) hsm.out).mono ?_); rintro e w5 ⟨rfl, hb5⟩; have r5 := Lib.hid (bseq r4.out hb5); clear hb5)
      | (go_at_call 14; go_loud (with_reducible refine (lives_any _).mono ?_); rintro e w6 ⟨rfl, hb6⟩; have r6 := Lib.hid (bseq r5.out hb6); clear hb6))
    go_ret
    exact ⟨rfl, bseq hb1H.out r6.out⟩)

set_option maxRecDepth 100000 in
set_option maxHeartbeats 6400000 in
theorem means_good (ao : Option Addr) (c l : Nat) (xs : List ByteArray) (w : World) (hk : livesE (fewL xs 13) 0) (hl : xs.length = l) (h : SL w ao xs) (hl1 : l ≤ 9223372036854775807) (hs : ∀ s ∈ xs, s.size ≤ 9223372036854775807) :
    Calls Tryz.prog 8 #[.slice ao l c] w (RetBool w true) := by
  have hH := Lib.hid h
  have hlH := Lib.hid hl
  have hsH := Lib.hid hs
  have hkH := Lib.hid hk
  obtain ⟨ss, hss⟩ : ∃ ss, ss = fewL xs 13 := ⟨_, rfl⟩
  have hssH := Lib.hid hss
  rw [← hss] at hkH
  have hsm := Lib.hid (show ∀ s ∈ ss, s.size ≤ 40 by rw [hss]; exact fewL_small xs 13)
  have hm13 : ss.length ≤ 13 := by rw [hss]; exact fewL_le xs 13
  obtain ⟨m, hm⟩ : ∃ m, ss.length = m := ⟨_, rfl⟩
  have hmH := Lib.hid hm
  rw [hm] at hm13
  have hg : Hid (allOK ss ∧ livesGood (ss.map parseQ)) := by
    rcases hkH.out with ⟨_, h2⟩ | ⟨_, _, h2⟩ | ⟨h1, h2, _⟩
    · exact absurd h2 (by decide)
    · exact absurd h2 (by decide)
    · exact ⟨h1, h2⟩
  obtain ⟨ps, hps⟩ : ∃ ps, ps = ss.map parseQ := ⟨_, rfl⟩
  have hpsH := Lib.hid hps
  have hpl : Hid (ps.length = m) := by show _ = _; rw [hps, List.length_map]; exact hm
  have hlv := Lib.hid (show Lv ps by rw [hps]; exact Lv.of hg.out.2)
  have hp12 : m ≤ 12 := by have := hlv.out.len; rw [hpl.out] at this; exact this
  have hp1 : 1 ≤ m := by have := hlv.out.pos; rw [hpl.out] at this; exact this
  have hr : ∀ (v : World) (a : Option Addr) (c : Nat), SL v a ss → Calls Tryz.prog 49 #[.slice a m c] v (RetLives v ps) := fun v a c hS => by
    have := read_0 a c ss v hS hsm.out hg.out.1 hg.out.2
    rw [← hps, hmH.out] at this
    exact this
  have hrM : Hid (∀ (v : World) (a : Option Addr) (c : Nat), SL v a ss → Calls Tryz.prog 40 #[.slice a m c] v (RetMean v (nt (meanQ ps)) (spanK ps m))) := fun v a c hS => by
    have h1 := hr v a c hS
    rw [← hmH.out] at h1
    have := mean_good a c ss ps v h1 (by rw [hpl.out]; exact hp12) hlv.out.mean
    rw [hpl.out, hmH.out] at this
    exact this
  have hrA : Hid (∀ (v : World) (a : Option Addr) (c : Nat), SL v a ss → Calls Tryz.prog 27 #[.slice a m c] v (RetNums v ((agesL ps).map nt))) := fun v a c hS => ages_good a c m ps v (hr v a c hS) (by rw [hpl.out]; exact hp1) (by rw [hpl.out]; exact hp12) hlv.out.ageSz
  have hrH : Hid (∀ (v : World) (a : Option Addr) (c : Nat), SL v a ss → Calls Tryz.prog 36 #[.slice a m c] v (RetNums v ((hazL ps).map nt))) := fun v a c hS => hazards_good a c m ps v (hr v a c hS) (by rw [hpl.out]; exact hp1) (by rw [hpl.out]; exact hp12) hlv.out.ageSz
  have hmp : 0 < meanQ ps := by have := hlv.out.mean_ge.1; grind
  have hqM : Hid (∀ (v : World) (a : Option Addr) (c : Nat), ZL v a ps → m ≤ c → Calls Tryz.prog 41 #[.slice a m c] v (RetMeanQ v (meanQ ps) (spanK ps m))) := fun v a c hS hc => meanR_any a c m ps v hpl.out hS hp12 hc hlv.out.one hlv.out.non hlv.out.own4 hlv.out.mean4
  have hqA : Hid (∀ (v : World) (a : Option Addr) (c : Nat), ZL v a ps → m ≤ c → Calls Tryz.prog 42 #[.slice a m c] v (RetZL v (agesL ps))) := fun v a c hS hc => agesR_any a c m ps v hpl.out hS hp12 hc hlv.out.one hlv.out.non hlv.out.own4 hlv.out.mean4 hlv.out.left4 hmp
  have hqH : Hid (∀ (v : World) (a : Option Addr) (c : Nat), ZL v a ps → m ≤ c → Calls Tryz.prog 43 #[.slice a m c] v (RetZL v (hazL ps))) := fun v a c hS hc => hazardsR_any a c m ps v hpl.out hS hp12 hc hlv.out.one hlv.out.own4 hlv.out.left4 (fun j hj => hlv.out.left_pos (by rw [hpl.out]; exact hj))
  have hA1 : Hid (((agesL ps).map nt).length = m) := by show _ = _; rw [List.length_map, agesL_length]; exact hpl.out
  have hA2 : Hid ((agesL ps).length = m) := by show _ = _; rw [agesL_length]; exact hpl.out
  have hH1 : Hid (((hazL ps).map nt).length = m) := by show _ = _; rw [List.length_map, hazL_length]; exact hpl.out
  have hH2 : Hid ((hazL ps).length = m) := by show _ = _; rw [hazL_length]; exact hpl.out
  have hA4 : Hid (∀ q ∈ agesL ps, Short4 q) := fun q hq => (hlv.out.agesOK q hq).2.2
  have hH4 : Hid (∀ q ∈ hazL ps, Short4 q) := fun q hq => (hlv.out.hazOK q hq).2.2
  have hM4 : Hid (Short4 (meanQ ps)) := hlv.out.mean4
  have hlg : Hid (∀ s ∈ ss, s.size ≤ 4611686018427387904) := fun s hh => by have := hsm.out s hh; omega
  clear h hl hs hk hss hm hps hr hmp
  generalize agesL ps = gs at *
  generalize hazL ps = hs at *
  generalize meanQ ps = mq at *
  generalize spanK ps m = sp at *
  go_enter Tryz.func8, Tryz.ntmps8
  go_wp2_with (first
    | (go_at_call 10; go_loud (with_reducible refine (few_n ao c l xs _ hlH.out hH.out hl1 hsH.out).mono ?_); rintro e w1 ⟨a1, c1, rfl, hV1, hb1⟩; rw [← hssH.out] at hV1; have hS1 := Lib.hid (SV.sl hV1); have hb1H := Lib.hid hb1; have r1 := Lib.hid (Below.refl w1.heap.size w1); rw [← hssH.out, hmH.out]; clear hV1 hb1)
    | (go_at_call 40; go_loud (with_reducible refine (hrM.out _ a1 c1 (hS1.out.below r1.out)).mono ?_); rintro e w2 ⟨rfl, hb2⟩; have r2 := Lib.hid (bseq r1.out hb2); clear hb2)
    | (go_at_call 27; go_loud (with_reducible refine (hrA.out _ a1 c1 (hS1.out.below r2.out)).mono ?_); rintro e w3 ⟨a3, c3, rfl, hV3, hb3⟩; have hcap3 := SV.cap hV3 rfl; have hS3 := Lib.hid (SV.sl hV3); have r3 := Lib.hid (bseq r2.out hb3); rw [hA1.out] at hcap3 ⊢; clear hV3 hb3)
    | (go_at_call 36; go_loud (with_reducible refine (hrH.out _ a1 c1 (hS1.out.below r3.out)).mono ?_); rintro e w4 ⟨a4, c4, rfl, hV4, hb4⟩; have hcap4 := SV.cap hV4 rfl; have hT4 := Lib.hid (SV.sl hV4); have r4 := Lib.hid (bseq r3.out hb4); have hT1 := Lib.hid (hS1.out.below r4.out); have hT3 := Lib.hid (hS3.out.below hb4); have q4 := Lib.hid (Below.refl w4.heap.size w4); rw [hH1.out] at hcap4 ⊢; clear hV4 hb4)
    | (go_at_call 11; go_loud (with_reducible refine (livesR_any 0 a1 c1 m ss _ hkH.out hmH.out (hT1.out.below q4.out) (by omega) hsm.out).mono ?_); rintro e w5 ⟨rfl, hb5⟩; have q5 := Lib.hid (bseq q4.out hb5); clear hb5)
    | (go_at_call 17; (with_reducible refine (qs_any a1 c1 m ss _ hmH.out (hT1.out.below q11.out) (by omega) hlg.out hg.out.1).mono ?_); rintro e w12 ⟨a12, c12, rfl, hV12, hb12⟩; rw [← hpsH.out] at hV12; have hS12 := Lib.hid (ZV.ql hV12); have hcap12 := ZV.cap hV12 rfl; have q12 := Lib.hid (bseq q11.out hb12); rw [hpl.out] at hcap12; rw [← hpsH.out, hpl.out]; clear hV12 hb12)
    | (go_at_call 17; (with_reducible refine (qs_any a1 c1 m ss _ hmH.out (hT1.out.below q8.out) (by omega) hlg.out hg.out.1).mono ?_); rintro e w9 ⟨a9, c9, rfl, hV9, hb9⟩; rw [← hpsH.out] at hV9; have hS9 := Lib.hid (ZV.ql hV9); have hcap9 := ZV.cap hV9 rfl; have q9 := Lib.hid (bseq q8.out hb9); rw [hpl.out] at hcap9; rw [← hpsH.out, hpl.out]; clear hV9 hb9)
    | (go_at_call 17; go_loud (with_reducible refine (qs_any a1 c1 m ss _ hmH.out (hT1.out.below q5.out) (by omega) hlg.out hg.out.1).mono ?_); rintro e w6 ⟨a6, c6, rfl, hV6, hb6⟩; rw [← hpsH.out] at hV6; have hS6 := Lib.hid (ZV.ql hV6); have hcap6 := ZV.cap hV6 rfl; have q6 := Lib.hid (bseq q5.out hb6); rw [hpl.out] at hcap6; rw [← hpsH.out, hpl.out]; clear hV6 hb6)
    | (go_at_call 41; go_loud (with_reducible refine (hqM.out _ a6 c6 hS6.out hcap6).mono ?_); rintro e w7 ⟨a7, d7, a7', d7', rfl, hm7, hb7⟩; have hm7H := Lib.hid hm7; have q7 := Lib.hid (bseq q6.out hb7); clear hm7 hb7)
    | (go_at_call 25; go_loud (with_reducible refine (is_m (nt mq) a7 d7 a7' d7' mq true _ (by simp) (QM.al hm7H.out _) hM4.out).mono ?_); rintro e w8 ⟨rfl, hb8⟩; have q8 := Lib.hid (bseq (q7.out.alloc q7.out.size _) hb8); clear hb8)
    | (go_at_call 42; go_loud (with_reducible refine (hqA.out _ a9 c9 hS9.out hcap9).mono ?_); rintro e w10 ⟨a10, c10, rfl, hV10, hb10⟩; have hS10 := Lib.hid (ZV.ql hV10); have hcap10 := ZV.cap hV10 rfl; have q10 := Lib.hid (bseq q9.out hb10); rw [hA2.out] at hcap10 ⊢; clear hV10 hb10)
    | (go_at_call 43; go_loud (with_reducible refine (hqH.out _ a12 c12 hS12.out hcap12).mono ?_); rintro e w13 ⟨a13, c13, rfl, hV13, hb13⟩; have hS13 := Lib.hid (ZV.ql hV13); have hcap13 := ZV.cap hV13 rfl; have q13 := Lib.hid (bseq q12.out hb13); rw [hH2.out] at hcap13 ⊢; clear hV13 hb13)
    | (go_at_call 15; (with_reducible refine (are_t a4 a13 c4 c13 m hs _ hH2.out (hT4.out.below q13.out) hS13.out (by omega) hH4.out hcap4 hcap13).mono ?_); rintro e w14 ⟨rfl, hb14⟩; have q14 := Lib.hid (bseq q13.out hb14); clear hb14)
    | (go_at_call 15; go_loud (with_reducible refine (are_t a3 a10 c3 c10 m gs _ hA2.out (hT3.out.below q10.out) hS10.out (by omega) hA4.out hcap3 hcap10).mono ?_); rintro e w11 ⟨rfl, hb11⟩; have q11 := Lib.hid (bseq q10.out hb11); clear hb11)
    | (go_at_call 14; go_loud (with_reducible refine (lives_any _).mono ?_); rintro e w15 ⟨rfl, hb15⟩; have q15 := Lib.hid (bseq q14.out hb15); clear hb15))
  go_ret
  exact ⟨rfl, bseq (bseq hb1H.out r4.out) q15.out⟩

/-- The law holds. -/
theorem means_any (ao : Option Addr) (c l : Nat) (xs : List ByteArray) (w : World) (hl : xs.length = l) (h : SL w ao xs) (hl1 : l ≤ 9223372036854775807) (hs : ∀ s ∈ xs, s.size ≤ 9223372036854775807) :
    Calls Tryz.prog 8 #[.slice ao l c] w (RetBool w true) := by
  obtain ⟨k, hk⟩ := livesE.ex (fewL xs 13)
  have hk2 := hk
  rcases hk2 with ⟨_, rfl⟩ | ⟨_, _, rfl⟩ | ⟨_, _, rfl⟩
  · exact means_bad 2 (Or.inr rfl) ao c l xs w hk hl h hl1 hs
  · exact means_bad 1 (Or.inl rfl) ao c l xs w hk hl h hl1 hs
  · exact means_good ao c l xs w hk hl h hl1 hs

end Go.Proofs.YtcaeonpjokkjnaaGreat
