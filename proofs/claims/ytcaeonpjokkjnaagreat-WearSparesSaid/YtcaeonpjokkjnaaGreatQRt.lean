/- Rt -/
import Derived.Test.YtcaeonpjokkjnaaGreatQRtp
import Derived.Test.YtcaeonpjokkjnaaGreatQYl
import Derived.Test.YtcaeonpjokkjnaaGreatQRn
set_option linter.unusedVariables false
/- Walk of the law WearRates. -/
namespace Go.Proofs.YtcaeonpjokkjnaaGreat
open Go Go.RowKit Go.Proofs

theorem bestK_one (rs : List Rat) : bestK rs 1 = 0 := by
  unfold bestK
  split <;> rfl
theorem is_m (s : ByteArray) (a : Option Addr) (c : Nat) (a' : Option Addr) (c' : Nat) (q : Rat) (b : Bool) (w : World) (hb : decide (s = nt q) = b) (h : QM w a c a' c' (rn q) (rd q)) (hq : Short4 q) :
    Calls Tryz.prog 25 #[.string s, .agg #[.bool (ng (rn q)), .slice a (LZ (rn q)) c, .bool (ng (rd q)), .slice a' (LZ (rd q)) c']] w (RetBool w b) := is_b s a c a' c' q b w hb h hq
theorem costE.ex (ss : List ByteArray) (pl fl : ByteArray) : ∃ k, costE ss pl fl k := by
  by_cases h : allOK ss ∧ parseOK pl ∧ parseOK fl
  · by_cases h2 : livesGood (ss.map parseQ) ∧ costOK (parseQ pl) ∧ costOK (parseQ fl)
    · exact ⟨0, Or.inr (Or.inr ⟨h, h2, rfl⟩)⟩
    · exact ⟨1, Or.inr (Or.inl ⟨h, h2, rfl⟩)⟩
  · exact ⟨2, Or.inl ⟨h, rfl⟩⟩
theorem all_two {pl fl : ByteArray} : allOK [pl, fl] ↔ parseOK pl ∧ parseOK fl := by
  unfold allOK; simp
theorem rates_k (k : Int) (ao : Option Addr) (c l : Nat) (ss : List ByteArray) (pl fl : ByteArray) (w : World) (hk0 : k = 1 ∨ k = 2) (hk : costE ss pl fl k) (hl : ss.length = l) (h : SL w ao ss) (hn : l ≤ 1000) (hs : ∀ s ∈ ss, s.size ≤ 40) (hpl : pl.size ≤ 40) (hfl : fl.size ≤ 40) :
    Calls Tryz.prog 55 #[.slice ao l c, .string pl, .string fl] w (RetErr w k) := by
  subst hl
  have hss : ∀ s ∈ [pl, fl], s.size ≤ 4611686018427387904 := fun s hh => by
    simp at hh
    rcases hh with rfl | rfl <;> omega
  rcases hk with ⟨h1, rfl⟩ | ⟨⟨h1, h3⟩, h2, rfl⟩ | ⟨_, _, rfl⟩
  · by_cases h4 : allOK ss
    · have h5 : ¬ allOK [pl, fl] := fun h6 => h1 ⟨h4, all_two.1 h6⟩
      by_cases h7 : livesGood (ss.map parseQ)
      · exact rates_form 0 ao c ss.length pl fl w ((read_0 ao c ss w h hs h4 h7).mono fun _ _ => RE.lives) hss (Or.inr h5)
      · exact rates_form 1 ao c ss.length pl fl w ((read_1 ao c ss w h (by omega) hs h4 h7).mono fun _ _ => RE.err) hss (Or.inr h5)
    · exact rates_form 2 ao c ss.length pl fl w ((read_2 ao c ss w h (by omega) hs h4).mono fun _ _ => RE.err) hss (Or.inl rfl)
  · by_cases h7 : livesGood (ss.map parseQ)
    · exact rates_cost ao c ss.length pl fl w ((read_0 ao c ss w h hs h1 h7).mono fun _ _ => RE.lives) hss (all_two.2 h3) ⟨own_sz (ss := [pl]) (by unfold allOK; simpa using h3.1) (by simpa using hpl) _ (by simp), own_sz (ss := [fl]) (by unfold allOK; simpa using h3.2) (by simpa using hfl) _ (by simp)⟩ (fun h8 => h2 ⟨h7, h8⟩)
    · exact rates_arg ao c ss.length pl fl w ((read_1 ao c ss w h (by omega) hs h1 h7).mono fun _ _ => RE.err) hss (all_two.2 h3)
  · omega
theorem rates_0 (ao : Option Addr) (c l : Nat) (ss : List ByteArray) (pl fl : ByteArray) (ps : List Rat) (w : World) (hps : ss.map parseQ = ps) (hl : ss.length = l) (h : SL w ao ss) (hs : ∀ s ∈ ss, s.size ≤ 40) (hpl : pl.size ≤ 40) (hfl : fl.size ≤ 40)
    (hok : allOK ss ∧ parseOK pl ∧ parseOK fl) (hg : livesGood ps ∧ costOK (parseQ pl) ∧ costOK (parseQ fl)) :
    Calls Tryz.prog 55 #[.slice ao l c, .string pl, .string fl] w (RetLives w (rateL ps (parseQ pl) (parseQ fl))) := by
  subst hl hps
  have hv := Lv.of hg.1
  exact rates_good ao c ss pl fl (ss.map parseQ) w (read_0 ao c ss w h hs hok.1 hg.1) hv.len hok.2.1 hok.2.2 (by omega) (by omega) hg.2.1.1 hg.2.2.1 hg.2.1.2 hg.2.2.2 (hv.rates (Cs.of hg.2.1) (Cs.of hg.2.2))

set_option maxRecDepth 100000 in
set_option maxHeartbeats 3200000 in
theorem ratesLaw_bad (k : Int) (hk0 : k = 1 ∨ k = 2) (ao : Option Addr) (c l : Nat) (xs : List ByteArray) (y0 y1 : ByteArray) (w : World) (hk : costE (fewL xs 13) (cut40 y0) (cut40 y1) k) (hl : xs.length = l) (h : SL w ao xs) (hl1 : l ≤ 9223372036854775807) (hs : ∀ s ∈ xs, s.size ≤ 9223372036854775807) (hy0 : y0.size ≤ 9223372036854775807) (hy1 : y1.size ≤ 9223372036854775807) :
    Calls Tryz.prog 4 #[.slice ao l c, .agg #[.string y0, .string y1]] w (RetBool w true) := by
  have hH := Lib.hid h
  have hlH := Lib.hid hl
  have hsH := Lib.hid hs
  have hkH := Lib.hid hk
  obtain ⟨ss, hss⟩ : ∃ ss, ss = fewL xs 13 := ⟨_, rfl⟩
  have hssH := Lib.hid hss
  obtain ⟨pl, hpl⟩ : ∃ pl, pl = cut40 y0 := ⟨_, rfl⟩
  obtain ⟨fl, hfl⟩ : ∃ fl, fl = cut40 y1 := ⟨_, rfl⟩
  have hplH := Lib.hid hpl
  have hflH := Lib.hid hfl
  have p40 : pl.size ≤ 40 := by rw [hpl]; exact cut40_size y0
  have f40 : fl.size ≤ 40 := by rw [hfl]; exact cut40_size y1
  rw [← hss, ← hpl, ← hfl] at hkH
  have hsm := Lib.hid (show ∀ s ∈ ss, s.size ≤ 40 by rw [hss]; exact fewL_small xs 13)
  have hm13 : ss.length ≤ 13 := by rw [hss]; exact fewL_le xs 13
  obtain ⟨m, hm⟩ : ∃ m, ss.length = m := ⟨_, rfl⟩
  have hmH := Lib.hid hm
  rw [hm] at hm13
  have hr : Hid (∀ (v : World) (a : Option Addr) (c : Nat), SL v a ss → Calls Tryz.prog 55 #[.slice a m c, .string pl, .string fl] v (RetErr v k)) := fun v a c hS => rates_k k a c m ss pl fl v hk0 hkH.out hmH.out hS (by omega) hsm.out p40 f40
  have hkn : (k != 0) = true := by rcases hk0 with rfl | rfl <;> rfl
  have hrT : Hid (∀ (v : World) (a : Option Addr) (c : Nat), SL v a ss → Calls Tryz.prog 19 #[.slice a m c, .string pl, .string fl] v (RetErr v k)) := fun v a c hS => ratesT_bad k hkn a c m pl fl v (hr.out v a c hS)
  have hrB : Hid (∀ (v : World) (a : Option Addr) (c : Nat), SL v a ss → Calls Tryz.prog 20 #[.slice a m c, .string pl, .string fl] v (RetBestErr v k)) := fun v a c hS => replace_bad k hkn a c m pl fl v (hr.out v a c hS)
  obtain ⟨W, hW⟩ : ∃ W, W = w.alloc (Obj.cells #[.string y0, .string y1] 35) := ⟨_, rfl⟩
  have hbW := Lib.hid (show Below w.heap.size w W by rw [hW]; exact (Below.refl _ _).alloc (Nat.le_refl _) _)
  have x0 : W.cell? ⟨w.heap.size, 0, none⟩ = some (.string y0) := by rw [hW]; simp [go_sem]
  have x1 : W.cell? ⟨w.heap.size, 1, none⟩ = some (.string y1) := by rw [hW]; simp [go_sem]
  have hzW : w.heap.size < W.heap.size := by rw [hW]; simp
  have hWH := Lib.hid hW
  have hHW := Lib.hid (hH.out.below hbW.out)
  clear h hl hs hk hss hm hpl hfl hkn hW
  go_enter Tryz.func4, Tryz.ntmps4
  go_upto_region 1 with (fail)
  rw [← hWH.out]
  go_region_held3 (fun w' => Kq W w')
    (first | (with_reducible exact Kq.drew _) | (with_reducible exact k1.out) | (with_reducible exact Kq.step (by assumption) (by assumption)))
    (first
      | (go_at_call 10; (with_reducible refine (few_n ao c l xs _ hlH.out (hHW.out.below (Below.refl _ _).drew) hl1 hsH.out).mono ?_); rintro e w1 ⟨a1, c1, rfl, hV1, hb1⟩; rw [← hssH.out] at hV1; have hS1 := Lib.hid (SV.sl hV1); have k1 : Hid (Kq W w1) := Kq.step (by assumption) hb1; rw [← hssH.out, hmH.out]; clear hV1 hb1)
      | (go_at_call 18; (with_reducible refine (num_any y0 _ hy0).mono ?_); rintro e w2 ⟨rfl, rfl⟩; rw [← hplH.out])
      | (go_at_call 18; (with_reducible refine (num_any y1 _ hy1).mono ?_); rintro e w2 ⟨rfl, rfl⟩; rw [← hflH.out]))
  have r1 := Lib.hid (Below.refl w2.heap.size w2)
  rcases hk0 with rfl | rfl
  all_goals (
    go_wp2_with (first
      | (go_at_call 19; go_loud (with_reducible refine (hrT.out _ a1 c1 (hS1.out.below r1.out)).mono ?_); rintro e w3 ⟨rfl, hb3⟩; have r3 := Lib.hid (bseq r1.out hb3); clear hb3)
      | (go_at_call 20; go_loud (with_reducible refine (hrB.out _ a1 c1 (hS1.out.below r3.out)).mono ?_); rintro e w4 ⟨rfl, hb4⟩; have r4 := Lib.hid (bseq r3.out hb4); clear hb4)
      | (go_at_call 21; go_loud (with_reducible refine (costsR_any _ a1 c1 m ss pl fl _ hkH.out hmH.out (hS1.out.below r4.out) (by omega) hsm.out p40 f40).mono ?_); rintro e w5 ⟨rfl, hb5⟩; have r5 := Lib.hid (bseq r4.out hb5); clear hb5)
      | (go_at_call 14; go_loud (with_reducible refine (lives_any _).mono ?_); rintro e w6 ⟨rfl, hb6⟩; have r6 := Lib.hid (bseq r5.out hb6); clear hb6))
    go_ret
    exact ⟨rfl, bseq (bseq hbW.out k1.out.2) r6.out⟩)

set_option maxRecDepth 100000 in
set_option maxHeartbeats 3200000 in
theorem ratesLaw_good (ao : Option Addr) (c l : Nat) (xs : List ByteArray) (y0 y1 : ByteArray) (w : World) (hok : allOK (fewL xs 13) ∧ parseOK (cut40 y0) ∧ parseOK (cut40 y1)) (hg : livesGood ((fewL xs 13).map parseQ) ∧ costOK (parseQ (cut40 y0)) ∧ costOK (parseQ (cut40 y1))) (hl : xs.length = l) (h : SL w ao xs) (hl1 : l ≤ 9223372036854775807) (hs : ∀ s ∈ xs, s.size ≤ 9223372036854775807) (hy0 : y0.size ≤ 9223372036854775807) (hy1 : y1.size ≤ 9223372036854775807) :
    Calls Tryz.prog 4 #[.slice ao l c, .agg #[.string y0, .string y1]] w (RetBool w true) := by
  have hH := Lib.hid h
  have hlH := Lib.hid hl
  have hsH := Lib.hid hs
  obtain ⟨ss, hss⟩ : ∃ ss, ss = fewL xs 13 := ⟨_, rfl⟩
  have hssH := Lib.hid hss
  obtain ⟨pl, hpl⟩ : ∃ pl, pl = cut40 y0 := ⟨_, rfl⟩
  obtain ⟨fl, hfl⟩ : ∃ fl, fl = cut40 y1 := ⟨_, rfl⟩
  have hplH := Lib.hid hpl
  have hflH := Lib.hid hfl
  have p40 : pl.size ≤ 40 := by rw [hpl]; exact cut40_size y0
  have f40 : fl.size ≤ 40 := by rw [hfl]; exact cut40_size y1
  rw [← hss, ← hpl, ← hfl] at hok hg
  have hokH := Lib.hid hok
  have hsm := Lib.hid (show ∀ s ∈ ss, s.size ≤ 40 by rw [hss]; exact fewL_small xs 13)
  have hm13 : ss.length ≤ 13 := by rw [hss]; exact fewL_le xs 13
  obtain ⟨m, hm⟩ : ∃ m, ss.length = m := ⟨_, rfl⟩
  have hmH := Lib.hid hm
  rw [hm] at hm13
  have hkH : Hid (costE ss pl fl 0) := Or.inr (Or.inr ⟨hok, hg, rfl⟩)
  obtain ⟨ps, hps⟩ : ∃ ps, ps = ss.map parseQ := ⟨_, rfl⟩
  have hpsH := Lib.hid hps
  have hpl' : Hid (ps.length = m) := by show _ = _; rw [hps, List.length_map]; exact hm
  rw [← hps] at hg
  have hlv := Lib.hid (Lv.of hg.1)
  have hp12 : m ≤ 12 := by have := hlv.out.len; rw [hpl'.out] at this; exact this
  have hp1 : 1 ≤ m := by have := hlv.out.pos; rw [hpl'.out] at this; exact this
  have hst := Lib.hid (hlv.out.rateSt (Cs.of hg.2.1) (Cs.of hg.2.2))
  obtain ⟨rs, hrs⟩ : ∃ rs, rs = rateL ps (parseQ pl) (parseQ fl) := ⟨_, rfl⟩
  have hrl : Hid (rs.length = m) := by show _ = _; rw [hrs, rateL_length]; exact hpl'.out
  have hrl2 : Hid ((rs.map nt).length = m) := by show _ = _; rw [List.length_map]; exact hrl.out
  have hrz : Hid (∀ r ∈ rs, Sz r ∧ numRes r = (nt r, 0)) := by rw [hrs]; exact hlv.out.rateL (Cs.of hg.2.1) (Cs.of hg.2.2)
  have hr4 : Hid (∀ r ∈ rs, Short4 r) := fun r hr => by
    rw [hrs] at hr
    obtain ⟨k, _, rfl⟩ := List.mem_map.1 hr
    exact hst.out.rate k
  have hr : Hid (∀ (v : World) (a : Option Addr) (c : Nat), SL v a ss → Calls Tryz.prog 55 #[.slice a m c, .string pl, .string fl] v (RetLives v rs)) := fun v a c hS => by
    rw [hrs]; exact rates_0 a c m ss pl fl ps v hps.symm hmH.out hS hsm.out p40 f40 hokH.out hg
  have hrT : Hid (∀ (v : World) (a : Option Addr) (c : Nat), SL v a ss → Calls Tryz.prog 19 #[.slice a m c, .string pl, .string fl] v (RetNums v (rs.map nt))) := fun v a c hS => ratesT_good rs a c m pl fl v (hr.out v a c hS) (by rw [hrl.out]; exact hp12) hrz.out
  obtain ⟨t, ht⟩ : ∃ t, t = bestK rs m := ⟨_, rfl⟩
  have htm : t < m := by rw [ht]; exact bestK_lt rs m hp1
  obtain ⟨r, hrt⟩ : ∃ r, rs[t]? = some r := ⟨_, List.getElem?_eq_getElem (by rw [hrl.out]; exact htm)⟩
  have hrB : Hid (∀ (v : World) (a : Option Addr) (c : Nat), SL v a ss → Calls Tryz.prog 20 #[.slice a m c, .string pl, .string fl] v (RetBest v (t + 1) (nt r))) := fun v a c hS => by
    have := replace_good rs a c m pl fl v (hr.out v a c hS) (by rw [hrl.out]; exact hp1) (by rw [hrl.out]; exact hp12) hrz.out
    rw [hrl.out, ← ht, show nth rs t = r by unfold nth; rw [hrt]; rfl] at this
    exact this
  have hrR : Hid (∀ (v : World) (a b b' f f' : Option Addr) (c d d' g g' : Nat), ZL v a ps → QM v b d b' d' (rn (parseQ pl)) (rd (parseQ pl)) → QM v f g f' g' (rn (parseQ fl)) (rd (parseQ fl)) →
      Calls Tryz.prog 22 #[.slice a m c, .agg #[.bool (ng (rn (parseQ pl))), .slice b (LZ (rn (parseQ pl))) d, .bool (ng (rd (parseQ pl))), .slice b' (LZ (rd (parseQ pl))) d'], .agg #[.bool (ng (rn (parseQ fl))), .slice f (LZ (rn (parseQ fl))) g, .bool (ng (rd (parseQ fl))), .slice f' (LZ (rd (parseQ fl))) g']] v (RetZL v rs)) := fun v a b b' f f' c d d' g g' h0 h1 h2 => by
    rw [hrs]; exact ratesR_any a c m ps (parseQ pl) (parseQ fl) b f b' f' d g d' g' v hpl'.out h0 hp12 hst.out h1 h2
  have hlg : Hid (∀ s ∈ ss, s.size ≤ 4611686018427387904) := fun s hh => by have := hsm.out s hh; omega
  have htH := Lib.hid ht
  have hrtH := Lib.hid hrt
  obtain ⟨W, hW⟩ : ∃ W, W = w.alloc (Obj.cells #[.string y0, .string y1] 35) := ⟨_, rfl⟩
  have hbW := Lib.hid (show Below w.heap.size w W by rw [hW]; exact (Below.refl _ _).alloc (Nat.le_refl _) _)
  have x0 : W.cell? ⟨w.heap.size, 0, none⟩ = some (.string y0) := by rw [hW]; simp [go_sem]
  have x1 : W.cell? ⟨w.heap.size, 1, none⟩ = some (.string y1) := by rw [hW]; simp [go_sem]
  have hzW : w.heap.size < W.heap.size := by rw [hW]; simp
  have hWH := Lib.hid hW
  have hHW := Lib.hid (hH.out.below hbW.out)
  clear h hl hs hss hm hpl hfl hW hok hg hps hrs ht hrt hr
  go_enter Tryz.func4, Tryz.ntmps4
  go_upto_region 1 with (fail)
  rw [← hWH.out]
  go_region_held3 (fun w' => Kq W w')
    (first | (with_reducible exact Kq.drew _) | (with_reducible exact k1.out) | (with_reducible exact Kq.step (by assumption) (by assumption)))
    (first
      | (go_at_call 10; (with_reducible refine (few_n ao c l xs _ hlH.out (hHW.out.below (Below.refl _ _).drew) hl1 hsH.out).mono ?_); rintro e w1 ⟨a1, c1, rfl, hV1, hb1⟩; rw [← hssH.out] at hV1; have hS1 := Lib.hid (SV.sl hV1); have k1 : Hid (Kq W w1) := Kq.step (by assumption) hb1; rw [← hssH.out, hmH.out]; clear hV1 hb1)
      | (go_at_call 18; (with_reducible refine (num_any y0 _ hy0).mono ?_); rintro e w2 ⟨rfl, rfl⟩; rw [← hplH.out])
      | (go_at_call 18; (with_reducible refine (num_any y1 _ hy1).mono ?_); rintro e w2 ⟨rfl, rfl⟩; rw [← hflH.out]))
  have r1 := Lib.hid (Below.refl w2.heap.size w2)
  have hbK := Lib.hid (bseq hbW.out k1.out.2)
  clear x0 x1 hzW hWH hHW hbW k1
  go_wp2_with (first
    | (go_at_call 19; go_loud (with_reducible refine (hrT.out _ a1 c1 (hS1.out.below r1.out)).mono ?_); rintro e w3 ⟨a3, c3, rfl, hV3, hb3⟩; have r3 := Lib.hid (bseq r1.out hb3); have hS3 := Lib.hid (SV.sl hV3); have hcap3 := SV.cap hV3 rfl; rw [hrl2.out] at hcap3 ⊢; clear hV3 hb3)
    | (go_at_call 20; go_loud (with_reducible refine (hrB.out _ a1 c1 (hS1.out.below r3.out)).mono ?_); rintro e w4 ⟨rfl, hb4⟩; have r4 := Lib.hid (bseq r3.out hb4); have hS4 := Lib.hid (hS3.out.below hb4); clear hb4)
    | (go_at_call 21; go_loud (with_reducible refine (costsR_any _ a1 c1 m ss pl fl _ hkH.out hmH.out (hS1.out.below r4.out) (by omega) hsm.out p40 f40).mono ?_); rintro e w5 ⟨rfl, hb5⟩; have r5 := Lib.hid (bseq r4.out hb5); have hS5 := Lib.hid (hS4.out.below hb5); clear hb5)
    | (go_at_call 17; go_loud (with_reducible refine (qs_any a1 c1 m ss _ hmH.out (hS1.out.below r5.out) (by omega) hlg.out hokH.out.1).mono ?_); rintro e w7 ⟨a7, c7, rfl, hV7, hb7⟩; rw [← hpsH.out] at hV7; have hS7 := Lib.hid (ZV.ql hV7); have r7 := Lib.hid (bseq r5.out hb7); have hS57 := Lib.hid (hS5.out.below hb7); rw [← hpsH.out, hpl'.out]; clear hV7 hb7)
    | (go_at_call 23; (with_reducible refine (of_any pl _ hokH.out.2.1 (by omega)).mono ?_); rintro e w8 ⟨a8, c8, a8', c8', rfl, hm8, hb8⟩; have hm8H := Lib.hid hm8; have r8 := Lib.hid (bseq r7.out hb8); have hS8 := Lib.hid (hS57.out.below hb8); have hL8 := Lib.hid (hS7.out.below hb8); clear hb8 hm8)
    | (go_at_call 23; go_loud (with_reducible refine (of_any fl _ hokH.out.2.2 (by omega)).mono ?_); rintro e w9 ⟨a9, c9, a9', c9', rfl, hm9, hb9⟩; have hm9H := Lib.hid hm9; have hm89H := Lib.hid (QM.up hm8H.out hb9); have r9 := Lib.hid (bseq r8.out hb9); have hS9 := Lib.hid (hS8.out.below hb9); have hL9 := Lib.hid (hL8.out.below hb9); clear hb9 hm9)
    | (go_at_call 22; go_loud (with_reducible refine (hrR.out _ a7 a8 a8' a9 a9' c7 c8 c8' c9 c9' hL9.out hm89H.out hm9H.out).mono ?_); rintro e w10 ⟨a10, c10, rfl, hV10, hb10⟩; have hcap10 := ZV.cap hV10 rfl; have hS10 := Lib.hid (ZV.ql hV10); have r10 := Lib.hid (bseq r9.out hb10); have hS310 := Lib.hid (hS9.out.below hb10); rw [hrl.out] at hcap10 ⊢; clear hV10 hb10))
  go_loopw [15, 16] (fun b i wr => ∃ k, i = .int .i64 (k : Nat) ∧ 1 ≤ k ∧ k ≤ m ∧ b = .int .i64 (bestK rs k : Nat) ∧ Below w10.heap.size w10 wr) (fun _ i _ => m - (intOf i).toNat)
  case atStart => exact ⟨1, rfl, Nat.le_refl _, hp1, by rw [bestK_one]; rfl, Below.refl _ _⟩
  case round =>
    obtain ⟨k, rfl, hk1, hk, rfl, hbl⟩ := hrel
    have hblH := Lib.hid hbl
    by_cases hkm : k < m
    · obtain ⟨q, hq⟩ : ∃ q, rs[k]? = some q := ⟨_, List.getElem?_eq_getElem (by rw [hrl.out]; exact hkm)⟩
      obtain ⟨u, hu⟩ : ∃ u, u = bestK rs k := ⟨_, rfl⟩
      have huk : u < k := by rw [hu]; exact bestK_lt rs k hk1
      obtain ⟨r', hr⟩ : ∃ r', rs[u]? = some r' := ⟨_, List.getElem?_eq_getElem (by rw [hrl.out]; omega)⟩
      obtain ⟨b1, o1, p1, ha1, hm1, e0, e1, e2, e3⟩ := (hS10.out.below hbl) k q hq
      obtain ⟨b2, o2, p2, ha2, hm2, f0, f1, f2, f3⟩ := (hS10.out.below hbl) u r' hr
      rw [ha1] at ha2
      injection ha2 with ha2
      injection ha2 with g1 g2 g3
      subst g1 g2 ha1
      have z1 := Lib.hid ((PQ.low (hr4.out q (List.mem_of_getElem? hq))).szq (by omega))
      have z2 := Lib.hid ((PQ.low (hr4.out r' (List.mem_of_getElem? hr))).szq (by omega))
      have hnx : Hid (bestK rs (k + 1) = if rsg q r' < 0 then k else u) := by
        show _ = _
        rw [bestK, ← hu]
        unfold nth
        rw [hq, hr]
        rfl
      have huH := Lib.hid hu
      rw [← hu]
      have hM1 := Lib.hid (show QM wr p1.a p1.c p1.a' p1.c' (rn q) (rd q) from hm1)
      have hM2 := Lib.hid (show QM wr p2.a p2.c p2.a' p2.c' (rn r') (rd r') from hm2)
      have hzb : b1 < wr.heap.size := World.block_lt_of_cell? wr _ e0
      have hkk : (k : Int) < m := by omega
      have huc : (u : Int) < m := by omega
      clear hm1 hm2 hq hr hbl hu
      go_wp2_with (fail)
      by_cases hlt : rsg q r' < 0
      · have hnx2 : Hid (bestK rs (k + 1) = k) := by show _ = _; rw [hnx.out, if_pos hlt]
        have hlt' : sg (rn q * rd r' - rn r' * rd q) < 0 := hlt
        clear hlt
        go_region_held3 (fun w' => Kq wr w')
          (first | (with_reducible exact Kq.drew _) | (with_reducible exact k11.out) | (with_reducible exact Kq.step (by assumption) (by assumption)))
          (first
            | (go_at_call 24; (with_reducible refine (cmpq_any p1.a p1.c p1.a' p1.c' p2.a p2.c p2.a' p2.c' (rn q) (rd q) (rn r') (rd r') _ (QM.kq hM1.out (by assumption)) (QM.kq hM2.out (by assumption)) z1.out z2.out).mono ?_); rintro e w11 ⟨rfl, hb11⟩; have k11 : Hid (Kq wr w11) := Kq.step (by assumption) hb11))
        go_wp2_with (fail)
        go_roundw
        case rel => exact ⟨k + 1, by go_num, by omega, by omega, by rw [hnx2.out], bseqZ hblH.out k11.out.2⟩
        case measure => simp [intOf]; omega
      · have hnx2 : Hid (bestK rs (k + 1) = u) := by show _ = _; rw [hnx.out, if_neg hlt]
        have hlt' : ¬ sg (rn q * rd r' - rn r' * rd q) < 0 := hlt
        clear hlt
        go_region_held3 (fun w' => Kq wr w')
          (first | (with_reducible exact Kq.drew _) | (with_reducible exact k11.out) | (with_reducible exact Kq.step (by assumption) (by assumption)))
          (first
            | (go_at_call 24; (with_reducible refine (cmpq_any p1.a p1.c p1.a' p1.c' p2.a p2.c p2.a' p2.c' (rn q) (rd q) (rn r') (rd r') _ (QM.kq hM1.out (by assumption)) (QM.kq hM2.out (by assumption)) z1.out z2.out).mono ?_); rintro e w11 ⟨rfl, hb11⟩; have k11 : Hid (Kq wr w11) := Kq.step (by assumption) hb11))
        go_wp2_with (fail)
        go_roundw
        case rel => exact ⟨k + 1, by go_num, by omega, by omega, by rw [hnx2.out], bseqZ hblH.out k11.out.2⟩
        case measure => simp [intOf]; omega
    · have hke : k = m := by omega
      subst hke
      rw [← htH.out]
      obtain ⟨b1, o1, p1, rfl, hm1, e0, e1, e2, e3⟩ := (hS10.out.below hbl) t r hrtH.out
      have hM1 := Lib.hid (show QM wr p1.a p1.c p1.a' p1.c' (rn r) (rd r) from hm1)
      have hS3w := Lib.hid (hS310.out.below hbl)
      have hSw := Lib.hid (hS10.out.below hbl)
      have h4 := Lib.hid (hr4.out r (List.mem_of_getElem? hrtH.out))
      have htk : (t : Int) < k := by omega
      clear hm1 hkm hbl
      go_wp2_with (first
        | (go_at_call 15; go_loud (with_reducible refine (are_t a3 (some ⟨b1, o1, none⟩) c3 c10 k rs _ hrl.out hS3w.out hSw.out (by omega) hr4.out hcap3 hcap10).mono ?_); rintro e w12 ⟨rfl, hb12⟩; have f0 := Below.cellAt hb12 (Nat.le_refl _) e0; have f1 := Below.cellAt hb12 (Nat.le_refl _) e1; have f2 := Below.cellAt hb12 (Nat.le_refl _) e2; have f3 := Below.cellAt hb12 (Nat.le_refl _) e3; have hM12 := Lib.hid (QM.up hM1.out hb12); have r12 := Lib.hid (bseq hblH.out hb12); clear hb12)
        | (go_at_call 25; go_loud (with_reducible refine (is_m (nt r) p1.a p1.c p1.a' p1.c' r true _ (by simp) hM12.out h4.out).mono ?_); rintro e w13 ⟨rfl, hb13⟩; have r13 := Lib.hid (bseq r12.out hb13); clear hb13)
        | (go_at_call 14; go_loud (with_reducible refine (lives_any _).mono ?_); rintro e w14 ⟨rfl, hb14⟩; have r14 := Lib.hid (bseq r13.out hb14); clear hb14))
      go_ret
      exact ⟨rfl, bseq (bseq hbK.out r10.out) r14.out⟩

/-- The law holds. -/
theorem ratesLaw_any (ao : Option Addr) (c l : Nat) (xs : List ByteArray) (y0 y1 : ByteArray) (w : World) (hl : xs.length = l) (h : SL w ao xs) (hl1 : l ≤ 9223372036854775807) (hs : ∀ s ∈ xs, s.size ≤ 9223372036854775807) (hy0 : y0.size ≤ 9223372036854775807) (hy1 : y1.size ≤ 9223372036854775807) :
    Calls Tryz.prog 4 #[.slice ao l c, .agg #[.string y0, .string y1]] w (RetBool w true) := by
  obtain ⟨k, hk⟩ := costE.ex (fewL xs 13) (cut40 y0) (cut40 y1)
  have hk2 := hk
  rcases hk2 with ⟨_, rfl⟩ | ⟨_, _, rfl⟩ | ⟨h1, h2, _⟩
  · exact ratesLaw_bad 2 (Or.inr rfl) ao c l xs y0 y1 w hk hl h hl1 hs hy0 hy1
  · exact ratesLaw_bad 1 (Or.inl rfl) ao c l xs y0 y1 w hk hl h hl1 hs hy0 hy1
  · exact ratesLaw_good ao c l xs y0 y1 w h1 h2 hl h hl1 hs hy0 hy1

end Go.Proofs.YtcaeonpjokkjnaaGreat
