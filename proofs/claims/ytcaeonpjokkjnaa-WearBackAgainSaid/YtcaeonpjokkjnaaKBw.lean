/- Bw -/
import Derived.Test.YtcaeonpjokkjnaaKXi
import Derived.BigQuiet
set_option linter.unusedVariables false
/- Walk of the law WearBackAgain. -/
namespace Go.Proofs.Ytcaeonpjokkjnaa
open Go Go.RowKit Go.Proofs

set_option maxRecDepth 100000 in
set_option maxHeartbeats 6400000 in
theorem againLaw_any (ao : Option Addr) (c l nn : Nat) (xs : List Nat) (w : World) (hl : xs.length = l) (h : Dg .u8 w ao xs) (hl1 : l ≤ 9223372036854775807) (hx : ∀ x ∈ xs, x < 256) (hn : nn < 256) :
    Calls Try.prog 5 #[.slice ao l c, .int .u8 nn] w (RetBool w true) := by
  have hH := Lib.hid h
  have hlH := Lib.hid hl
  have hxH := Lib.hid hx
  obtain ⟨k, hk⟩ : ∃ k : Nat, (nn : Int) % 9 = (k : Int) := ⟨nn % 9, by omega⟩
  have hk8 : k ≤ 8 := by omega
  obtain ⟨ps, hps⟩ : ∃ ps, ps = madeL xs := ⟨_, rfl⟩
  have hpsH := Lib.hid hps
  obtain ⟨ts, hts⟩ : ∃ ts, ts = ps.map nt := ⟨_, rfl⟩
  have htsH := Lib.hid hts
  have hlv := Lib.hid (show Lv ps by rw [hps]; exact made_lv xs)
  have hs4 := Lib.hid (show ∀ q ∈ ps, Short4 q by rw [hps]; exact made_short)
  have hmad : Hid (∀ q ∈ madeL xs, Short4 q) := made_short
  obtain ⟨m, hm⟩ : ∃ m, ps.length = m := ⟨_, rfl⟩
  have hmH := Lib.hid hm
  have htl : Hid (ts.length = m) := by show _ = _; rw [hts, List.length_map]; exact hm
  have hm12 : m ≤ 12 := by have := hlv.out.len; rw [hm] at this; exact this
  have hok := Lib.hid (show allOK ts ∧ ts.map parseQ = ps by rw [hts]; exact texts_ok hs4.out)
  have ht40 := Lib.hid (show ∀ s ∈ ts, s.size ≤ 40 by rw [hts, hps]; exact made_texts xs)
  have hr : ∀ (v : World) (a : Option Addr) (c : Nat), SL v a ts → Calls Try.prog 28 #[.slice a m c] v (RetLives v ps) := fun v a c hS => by
    have := read_0 a c ts v hS ht40.out hok.out.1 (by rw [hok.out.2, hps]; exact made_good xs)
    rw [hok.out.2, htl.out] at this
    exact this
  have hrn : Hid (∀ (v : World) (a : Option Addr) (c : Nat), SL v a ts → Calls Try.prog 10 #[.slice a m c, .int .i64 k] v (RetNums v ((uL ps k).map nt))) := fun v a c hS => by
    have h1 := hr v a c hS
    rw [← htl.out] at h1
    have := renew_good k (by omega) a c ts ps v h1 (by rw [hm]; exact hm12) (hlv.out.renew (by omega))
    rw [htl.out] at this
    exact this
  obtain ⟨us, hus⟩ : ∃ us, uL ps k = us := ⟨_, rfl⟩
  have husH := Lib.hid hus
  have hu4 : Hid (∀ q ∈ us, Short4 q) := by rw [← hus]; exact hlv.out.u4 (by omega)
  have hul : us.length = k + 1 := by rw [← hus]; exact uL_length ps k
  have hul2 : Hid ((us.map nt).length = k + 1) := by show _ = _; rw [List.length_map]; exact hul
  have hu40 : Hid (∀ s ∈ us.map nt, s.size ≤ 40) := by rw [← hus, hps]; exact uL_texts hk8
  have hfs : Hid (bkL us k = (List.range k).map (nth ps)) := by show _ = _; rw [← hus]; exact back_renew ps k k (Nat.le_refl k)
  have hB := back_two us k (k + 1) hul rfl hk8 hu4.out hu40.out
  obtain ⟨j, hj⟩ : ∃ j, k + 1 = j := ⟨_, rfl⟩
  have hjI : (j : Int) = (k : Int) + 1 := by omega
  have hj1 : (j : Int) - 1 = (k : Int) := by omega
  rw [hj] at hB
  rw [hj] at hul2
  rw [hus] at hrn
  clear h hl hx hps hts hm hr hus hul hj
  rcases hB with ⟨hE, hBk⟩ | ⟨hE, hb4, hBk⟩
  · have hEH := Lib.hid hE
    have hBH := Lib.hid hBk
    clear hE hBk
    go_enter Try.func5, Try.ntmps5
    go_wp2_with (first
      | (go_at_call 8; go_loud (with_reducible refine (madeW_any ao c l xs _ hlH.out hH.out hl1 hxH.out hmad.out).mono ?_); rintro e w1 ⟨a1, c1, rfl, hV1, hb1⟩; rw [← hpsH.out, ← htsH.out] at hV1; have hS1 := Lib.hid (SV.sl hV1); have hb1H := Lib.hid hb1; have r1 := Lib.hid (Below.refl w1.heap.size w1); rw [← hpsH.out, ← htsH.out, htl.out]; clear hV1 hb1)
      | (go_at_call 10; go_loud (with_reducible refine (hrn.out _ a1 c1 (hS1.out.below r1.out)).mono ?_); rintro e w2 ⟨a2, c2, rfl, hV2, hb2⟩; have hS2 := Lib.hid (SV.sl hV2); have r2 := Lib.hid (bseq r1.out hb2); rw [hul2.out]; clear hV2 hb2)
      | (go_at_call 16; go_loud (with_reducible refine (lives_any _).mono ?_); rintro e w3 ⟨rfl, hb3⟩; have r3 := Lib.hid (bseq r2.out hb3); have hS3 := Lib.hid (hS2.out.below hb3); clear hb3)
      | (go_at_call 23; go_loud (with_reducible refine (hBH.out _ a2 c2 hS3.out).mono ?_); rintro e w4 ⟨rfl, hb4⟩; have r4 := Lib.hid (bseq r3.out hb4); have hS4 := Lib.hid (hS3.out.below hb4); clear hb4)
      | (go_at_call 24; go_loud (with_reducible refine (renewalsR_any 1 a2 c2 j _ _ hEH.out hul2.out hS4.out hu40.out).mono ?_); rintro e w5 ⟨rfl, hb5⟩; have r5 := Lib.hid (bseq r4.out hb5); clear hb5))
    go_ret
    exact ⟨rfl, bseq hb1H.out r5.out⟩
  · have hEH := Lib.hid hE
    have hBH := Lib.hid hBk
    obtain ⟨ft, hft⟩ : ∃ ft, ft = (bkL us k).map nt := ⟨_, rfl⟩
    have hftl : Hid (ft.length = k) := by show _ = _; rw [hft, List.length_map, bkL_length]
    have hfta : Hid (∀ t, t < k → ft[t]? = some (nt (nth ps t))) := fun t ht => by
      rw [hft, hfs.out, List.getElem?_map, List.getElem?_map, List.getElem?_range ht]; rfl
    have hftH := Lib.hid hft
    rw [← hft] at hBH
    clear hE hBk hb4 hft
    go_enter Try.func5, Try.ntmps5
    go_wp2_with (first
      | (go_at_call 8; go_loud (with_reducible refine (madeW_any ao c l xs _ hlH.out hH.out hl1 hxH.out hmad.out).mono ?_); rintro e w1 ⟨a1, c1, rfl, hV1, hb1⟩; rw [← hpsH.out, ← htsH.out] at hV1; have hS1 := Lib.hid (SV.sl hV1); have hb1H := Lib.hid hb1; have r1 := Lib.hid (Below.refl w1.heap.size w1); rw [← hpsH.out, ← htsH.out, htl.out]; clear hV1 hb1)
      | (go_at_call 10; go_loud (with_reducible refine (hrn.out _ a1 c1 (hS1.out.below r1.out)).mono ?_); rintro e w2 ⟨a2, c2, rfl, hV2, hb2⟩; have hS2 := Lib.hid (SV.sl hV2); have r2 := Lib.hid (bseq r1.out hb2); rw [hul2.out]; clear hV2 hb2)
      | (go_at_call 16; go_loud (with_reducible refine (lives_any _).mono ?_); rintro e w3 ⟨rfl, hb3⟩; have r3 := Lib.hid (bseq r2.out hb3); have hS3 := Lib.hid (hS2.out.below hb3); clear hb3)
      | (go_at_call 23; go_loud (with_reducible refine (hBH.out _ a2 c2 hS3.out).mono ?_); rintro e w4 ⟨a4, c4, rfl, hV4, hb4⟩; have r4 := Lib.hid (bseq r3.out hb4); have hS4 := Lib.hid (hS3.out.below hb4); have hF4 := Lib.hid (SV.sl hV4); rw [hftl.out]; clear hV4 hb4)
      | (go_at_call 24; go_loud (with_reducible refine (renewalsR_any 0 a2 c2 j _ _ hEH.out hul2.out hS4.out hu40.out).mono ?_); rintro e w5 ⟨rfl, hb5⟩; have r5 := Lib.hid (bseq r4.out hb5); have hF5 := Lib.hid (hF4.out.below hb5); have hT5 := Lib.hid (hS1.out.below (bseq r4.out hb5)); clear hb5))
    go_loopw [10] (fun i wr => ∃ t : Nat, i = .int .i64 (t : Nat) ∧ t ≤ k ∧ Below w5.heap.size w5 wr) (fun i _ => k - (intOf i).toNat)
    case atStart => exact ⟨0, rfl, by omega, Below.refl _ _⟩
    case round =>
      obtain ⟨t, rfl, ht, hbl⟩ := hrel
      have hblH := Lib.hid hbl
      by_cases htk : t < k
      · have hkk : (t : Int) < (k : Int) := by omega
        have ht0 : (0 : Int) ≤ (t : Int) := by omega
        obtain ⟨b1, o1, rfl, e1⟩ := (hF5.out.below hbl) t _ (hfta.out t htk)
        by_cases htm : t < m
        · have htmI : (t : Int) < (m : Int) := by omega
          have hd1 : decide ((t : Int) < (m : Int)) = true := by simp; omega
          have hd2 : decide ((m : Int) ≤ (t : Int)) = false := by simp; omega
          have hd3 : decide (m ≤ t) = false := by simp; omega
          obtain ⟨q, hq⟩ : ∃ q, ps[t]? = some q := ⟨_, List.getElem?_eq_getElem (by rw [hmH.out]; exact htm)⟩
          have hts : ts[t]? = some (nt q) := by rw [htsH.out, List.getElem?_map, hq]; rfl
          have hnq : nth ps t = q := by unfold nth; rw [hq]; rfl
          obtain ⟨b2, o2, rfl, e2⟩ := (hT5.out.below hbl) t _ hts
          rw [hnq] at e1
          obtain ⟨s, hs⟩ : ∃ s, nt q = s := ⟨_, rfl⟩
          rw [hs] at e1 e2
          clear hq hts hnq hs hbl
          go_wp2
          go_quiet (fail)
          go_wp2
          go_roundw
          case rel => exact ⟨t + 1, by go_num, by omega, bdn hblH.out⟩
          case measure => simp [intOf]; omega
        · have htmI : ¬ (t : Int) < (m : Int) := by omega
          have htmI2 : (m : Int) ≤ (t : Int) := by omega
          have hd1 : decide ((t : Int) < (m : Int)) = false := by simp; omega
          have hd2 : decide ((m : Int) ≤ (t : Int)) = true := by simp; omega
          have hd3 : decide (t < m) = false := by simp; omega
          have hd4 : decide (m ≤ t) = true := by simp; omega
          have hnq : nth ps t = 0 := by unfold nth; rw [List.getElem?_eq_none_iff.2 (by rw [hmH.out]; omega)]; rfl
          rw [hnq, nt_zero] at e1
          clear hnq hbl
          go_wp2
          go_quiet (fail)
          go_wp2
          go_roundw
          case rel => exact ⟨t + 1, by go_num, by omega, bdn hblH.out⟩
          case measure => simp [intOf]; omega
      · have hkk : ¬ (t : Int) < (k : Int) := by omega
        go_wp2
        go_ret
        exact ⟨rfl, bseq hb1H.out (bseq r5.out hblH.out)⟩

end Go.Proofs.Ytcaeonpjokkjnaa
