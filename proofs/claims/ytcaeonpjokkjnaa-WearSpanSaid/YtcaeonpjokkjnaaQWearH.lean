/- WearH -/
import Derived.Test.YtcaeonpjokkjnaaQWi
set_option linter.unusedVariables false
/- Walks of package wear: read, its other cases; mean. (Printed by wip/tools/gen_read4.py.) -/
namespace Go.Proofs.Ytcaeonpjokkjnaa
open Go Go.RowKit Go.Proofs

theorem sum_n (ao : Option Addr) (c n : Nat) (qs : List Rat) (w : World) (hnl : qs.length = n) (h : QL w ao qs) (hn : n ≤ 1000000000) (hz : ∀ k, Sz (psum qs k)) (hz2 : ∀ q ∈ qs, Sz q) :
    Calls Try.prog 54 #[.slice ao n c] w (RetRat w qs.sum) := by subst hnl; exact sum_any ao c qs w h hn hz hz2
theorem above_n (ao : Option Addr) (c n : Nat) (qs : List Rat) (w : World) (hnl : qs.length = n) (h : QL w ao qs) (hn : n ≤ 1000000000) (hz : ∀ k, Sz (left qs k)) (hz2 : ∀ q ∈ qs, Sz q) :
    Calls Try.prog 57 #[.slice ao n c] w (RetList w (aboveL qs)) := by subst hnl; exact above_any ao c qs w h hn hz hz2
theorem told_n (ao : Option Addr) (c n : Nat) (qs : List Rat) (w : World) (hnl : qs.length = n) (h : QL w ao qs) (hn : n ≤ 1000000000) (hz2 : ∀ q ∈ qs, Sz q) (hr : ∀ q ∈ qs, numRes q = (nt q, 0)) :
    Calls Try.prog 35 #[.slice ao n c] w (RetNums w (qs.map nt)) := by subst hnl; exact told_any ao c qs w h hn hz2 hr
theorem turned_n (ao : Option Addr) (c n : Nat) (qs : List Rat) (w : World) (hnl : qs.length = n) (h : QL w ao qs) (hn : n ≤ 1000000000) :
    Calls Try.prog 34 #[.slice ao n c] w (RetList w qs.reverse) := by subst hnl; exact turned_any ao c qs w h hn
theorem fits6 (a : Option Addr) (c : Nat) (a' : Option Addr) (c' : Nat) (q : Rat) (w : World) (h1 : RM w a c a' c' q) (hp : Sz q) :
    Calls Try.prog 51 #[.agg #[.bool (ng (rn q)), .slice a (LI (rn q)) c, .bool (ng (rd q)), .slice a' (LI (rd q)) c'], .int .i64 6] w (RetBool w (fits q 6)) := fits_any a c a' c' q 6 w h1 hp
theorem Sz_one : Sz 1 := by refine ⟨?_, ?_⟩ <;> show LI 1 ≤ _ <;> rw [LI_1] <;> omega
theorem Sz_zero : Sz 0 := by
  refine ⟨?_, ?_⟩
  · show LI 0 ≤ _; rw [LI_0]; omega
  · show LI 1 ≤ _; rw [LI_1]; omega

theorem numbers_at (ao : Option Addr) (c n : Nat) (ss : List ByteArray) (w : World) (hnl : ss.length = n) (h : SL w ao ss) (hn : n ≤ 1000000000) (hsz : ∀ s ∈ ss, s.size ≤ 4611686018427387904) (hok : allOK ss) :
    Calls Try.prog 50 #[.slice ao n c] w (fun e w' => ∃ ao c, e = .returned (.tuple #[.slice ao n c, .bool true]) ∧ QV w' w.heap.size (.slice ao n c) (ss.map parseQ) ∧ Below w.heap.size w w') := by
  subst hnl; exact numbers_good ao c ss w h hn hsz hok

set_option maxRecDepth 100000 in
set_option maxHeartbeats 1600000 in
theorem read_last (ao : Option Addr) (c : Nat) (ss : List ByteArray) (w : World) (h : SL w ao ss) (hsz : ∀ s ∈ ss, s.size ≤ 4611686018427387904) (hok : allOK ss) (hl0 : 1 ≤ ss.length) (hl1 : ss.length ≤ 12)
    (hz : ∀ k, Sz (psum (ss.map parseQ) k)) (hz2 : ∀ q ∈ ss.map parseQ, Sz q) (hbad : sg (rn (lastQ (ss.map parseQ))) = 0) :
    Calls Try.prog 28 #[.slice ao ss.length c] w (RetErr w 1) := by
  have hH := Lib.hid h
  have hszH := Lib.hid hsz
  have hokH := Lib.hid hok
  have hzH := Lib.hid hz
  have hz2H := Lib.hid hz2
  obtain ⟨m, hm⟩ : ∃ m, ss.length = m + 1 := ⟨ss.length - 1, by omega⟩
  have hmH := Lib.hid hm
  have hqs : Hid ((ss.map parseQ).length = m + 1) := by show _ = _; rw [List.length_map]; exact hm
  obtain ⟨q, hq⟩ : ∃ q, (ss.map parseQ)[m]? = some q := ⟨_, List.getElem?_eq_getElem (by rw [hqs.out]; omega)⟩
  have hql : lastQ (ss.map parseQ) = q := by unfold lastQ; rw [hqs.out]; show (ss.map parseQ)[m]?.getD 0 = q; rw [hq]; rfl
  have hqH := Lib.hid hq
  have hm1 : ¬ ((m : Int) + 1 < 1) := by omega
  have hm2 : ¬ ((12 : Int) < (m : Int) + 1) := by omega
  have hm3 : m + 1 ≤ 1000000000 := by omega
  rw [hm]
  have hs0 : sg (rn q) = 0 := by rw [← hql]; exact hbad
  clear hbad hql
  clear h hsz hok hz hz2 hl0 hl1 hm hq
  go_enter Try.func28, Try.ntmps28
  go_wp2_with (first
    | (go_at_call 50; go_loud (with_reducible refine (numbers_at ao c (m + 1) ss _ hmH.out hH.out hm3 hszH.out hokH.out).mono ?_); rintro e w1 ⟨a1, c1, rfl, hV, hb1⟩; have hQ := Lib.hid (show QL w1 a1 (ss.map parseQ) from QV.ql hV); have hVH := Lib.hid hV; obtain ⟨b, o, p, rfl, hm', e0, e1, e2, e3⟩ := hQ.out m q hqH.out; have hb1H := Lib.hid hb1; clear hV hm' hb1)
    | (go_at_call 29; go_loud (with_reducible refine (rsign_any p.a p.c p.a' p.c' q _).mono ?_); rintro e w2 ⟨rfl, hb2⟩; have hb2H := Lib.hid (bseq hb1H.out hb2); have hQ2 := Lib.hid (hQ.out.below hb2); have hV2 := Lib.hid (hVH.out.below hb2); clear hb2))
  go_ret2
  exact ⟨rfl, hb2H.out⟩

set_option maxRecDepth 100000 in
set_option maxHeartbeats 1600000 in
theorem read_sum (ao : Option Addr) (c : Nat) (ss : List ByteArray) (w : World) (h : SL w ao ss) (hsz : ∀ s ∈ ss, s.size ≤ 4611686018427387904) (hok : allOK ss) (hl0 : 1 ≤ ss.length) (hl1 : ss.length ≤ 12)
    (hz : ∀ k, Sz (psum (ss.map parseQ) k)) (hz2 : ∀ q ∈ ss.map parseQ, Sz q) (hg : sg (rn (lastQ (ss.map parseQ))) ≠ 0) (hbad : rsg (ss.map parseQ).sum 1 ≠ 0) :
    Calls Try.prog 28 #[.slice ao ss.length c] w (RetErr w 1) := by
  have hH := Lib.hid h
  have hszH := Lib.hid hsz
  have hokH := Lib.hid hok
  have hzH := Lib.hid hz
  have hz2H := Lib.hid hz2
  obtain ⟨m, hm⟩ : ∃ m, ss.length = m + 1 := ⟨ss.length - 1, by omega⟩
  have hmH := Lib.hid hm
  have hqs : Hid ((ss.map parseQ).length = m + 1) := by show _ = _; rw [List.length_map]; exact hm
  obtain ⟨q, hq⟩ : ∃ q, (ss.map parseQ)[m]? = some q := ⟨_, List.getElem?_eq_getElem (by rw [hqs.out]; omega)⟩
  have hql : lastQ (ss.map parseQ) = q := by unfold lastQ; rw [hqs.out]; show (ss.map parseQ)[m]?.getD 0 = q; rw [hq]; rfl
  have hqH := Lib.hid hq
  have hm1 : ¬ ((m : Int) + 1 < 1) := by omega
  have hm2 : ¬ ((12 : Int) < (m : Int) + 1) := by omega
  have hm3 : m + 1 ≤ 1000000000 := by omega
  rw [hm]
  have hs0 : ¬ sg (rn q) = 0 := by rw [← hql]; exact hg
  have hs1 : (sg (rn q) == 0) = false := by simp; exact hs0
  have hs2 : (rsg (ss.map parseQ).sum 1 != 0) = true := by simp; exact hbad
  have hSz : Hid (Sz (ss.map parseQ).sum) := by have := hzH.out (m + 1); unfold psum at this; rw [List.take_of_length_le (by rw [hqs.out]; exact Nat.le_refl _)] at this; exact this
  clear hbad hql hg hs0
  clear h hsz hok hz hz2 hl0 hl1 hm hq
  go_enter Try.func28, Try.ntmps28
  go_wp2_with (first
    | (go_at_call 50; go_loud (with_reducible refine (numbers_at ao c (m + 1) ss _ hmH.out hH.out hm3 hszH.out hokH.out).mono ?_); rintro e w1 ⟨a1, c1, rfl, hV, hb1⟩; have hQ := Lib.hid (show QL w1 a1 (ss.map parseQ) from QV.ql hV); have hVH := Lib.hid hV; obtain ⟨b, o, p, rfl, hm', e0, e1, e2, e3⟩ := hQ.out m q hqH.out; have hb1H := Lib.hid hb1; clear hV hm' hb1)
    | (go_at_call 29; go_loud (with_reducible refine (rsign_any p.a p.c p.a' p.c' q _).mono ?_); rintro e w2 ⟨rfl, hb2⟩; have hb2H := Lib.hid (bseq hb1H.out hb2); have hQ2 := Lib.hid (hQ.out.below hb2); have hV2 := Lib.hid (hVH.out.below hb2); clear hb2)
    | (go_at_call 54; go_loud (with_reducible refine (sum_n (some ⟨b, o, none⟩) c1 (m + 1) (ss.map parseQ) _ hqs.out hQ2.out hm3 hzH.out hz2H.out).mono ?_); rintro e w3 ⟨a3, c3, a3', c3', rfl, hm3', hb3⟩; have hb3H := Lib.hid (bseq hb2H.out hb3); have hV3 := Lib.hid (hV2.out.below hb3); have hS3 := Lib.hid hm3'; clear hb3 hm3')
    | (go_at_call 32; (with_reducible refine (whole_one _).mono ?_); rintro e w4 ⟨a4, c4, a4', c4', rfl, hm4, hb4⟩; have hb4H := Lib.hid (bseq hb3H.out hb4); have hV4 := Lib.hid (hV3.out.below hb4); have hS4 := Lib.hid (hS3.out.up hb4); have hO4 := Lib.hid hm4; clear hb4 hm4)
    | (go_at_call 47; go_loud (with_reducible refine (rcmp_any a3 c3 a3' c3' a4 c4 a4' c4' (ss.map parseQ).sum 1 _ hS4.out hO4.out hSz.out Sz_one).mono ?_); rintro e w5 ⟨rfl, hb5⟩; have hb5H := Lib.hid (bseq hb4H.out hb5); have hV5 := Lib.hid (hV4.out.below hb5); clear hb5))
  go_ret2
  exact ⟨rfl, hb5H.out⟩

set_option maxRecDepth 100000 in
set_option maxHeartbeats 1600000 in
theorem read_bads (ao : Option Addr) (c : Nat) (ss : List ByteArray) (w : World) (h : SL w ao ss) (hsz : ∀ s ∈ ss, s.size ≤ 4611686018427387904) (hok : allOK ss) (hl0 : 1 ≤ ss.length) (hl1 : ss.length ≤ 12)
    (hz : ∀ k, Sz (psum (ss.map parseQ) k)) (hz2 : ∀ q ∈ ss.map parseQ, Sz q) (hg : sg (rn (lastQ (ss.map parseQ))) ≠ 0) (hg1 : rsg (ss.map parseQ).sum 1 = 0) (hg2 : ¬ ∀ q ∈ ss.map parseQ, 0 ≤ sg (rn q) ∧ fits q 6 = true) :
    Calls Try.prog 28 #[.slice ao ss.length c] w (RetErr w 1) := by
  have hH := Lib.hid h
  have hszH := Lib.hid hsz
  have hokH := Lib.hid hok
  have hzH := Lib.hid hz
  have hz2H := Lib.hid hz2
  obtain ⟨m, hm⟩ : ∃ m, ss.length = m + 1 := ⟨ss.length - 1, by omega⟩
  have hmH := Lib.hid hm
  have hqs : Hid ((ss.map parseQ).length = m + 1) := by show _ = _; rw [List.length_map]; exact hm
  obtain ⟨q, hq⟩ : ∃ q, (ss.map parseQ)[m]? = some q := ⟨_, List.getElem?_eq_getElem (by rw [hqs.out]; omega)⟩
  have hql : lastQ (ss.map parseQ) = q := by unfold lastQ; rw [hqs.out]; show (ss.map parseQ)[m]?.getD 0 = q; rw [hq]; rfl
  have hqH := Lib.hid hq
  have hm1 : ¬ ((m : Int) + 1 < 1) := by omega
  have hm2 : ¬ ((12 : Int) < (m : Int) + 1) := by omega
  have hm3 : m + 1 ≤ 1000000000 := by omega
  rw [hm]
  have hs0 : ¬ sg (rn q) = 0 := by rw [← hql]; exact hg
  have hs1 : (sg (rn q) == 0) = false := by simp; exact hs0
  have hs2 : (rsg (ss.map parseQ).sum 1 != 0) = false := by simp; exact hg1
  have hSz : Hid (Sz (ss.map parseQ).sum) := by have := hzH.out (m + 1); unfold psum at this; rw [List.take_of_length_le (by rw [hqs.out]; exact Nat.le_refl _)] at this; exact this
  have hgd := Lib.hid hg2
  clear hql hg hs0 hg1 hg2
  clear h hsz hok hz hz2 hl0 hl1 hm hq
  go_enter Try.func28, Try.ntmps28
  go_wp2_with (first
    | (go_at_call 50; go_loud (with_reducible refine (numbers_at ao c (m + 1) ss _ hmH.out hH.out hm3 hszH.out hokH.out).mono ?_); rintro e w1 ⟨a1, c1, rfl, hV, hb1⟩; have hQ := Lib.hid (show QL w1 a1 (ss.map parseQ) from QV.ql hV); have hVH := Lib.hid hV; obtain ⟨b, o, p, rfl, hm', e0, e1, e2, e3⟩ := hQ.out m q hqH.out; have hb1H := Lib.hid hb1; clear hV hm' hb1)
    | (go_at_call 29; go_loud (with_reducible refine (rsign_any p.a p.c p.a' p.c' q _).mono ?_); rintro e w2 ⟨rfl, hb2⟩; have hb2H := Lib.hid (bseq hb1H.out hb2); have hQ2 := Lib.hid (hQ.out.below hb2); have hV2 := Lib.hid (hVH.out.below hb2); clear hb2)
    | (go_at_call 54; go_loud (with_reducible refine (sum_n (some ⟨b, o, none⟩) c1 (m + 1) (ss.map parseQ) _ hqs.out hQ2.out hm3 hzH.out hz2H.out).mono ?_); rintro e w3 ⟨a3, c3, a3', c3', rfl, hm3', hb3⟩; have hb3H := Lib.hid (bseq hb2H.out hb3); have hV3 := Lib.hid (hV2.out.below hb3); have hS3 := Lib.hid hm3'; clear hb3 hm3')
    | (go_at_call 32; (with_reducible refine (whole_one _).mono ?_); rintro e w4 ⟨a4, c4, a4', c4', rfl, hm4, hb4⟩; have hb4H := Lib.hid (bseq hb3H.out hb4); have hV4 := Lib.hid (hV3.out.below hb4); have hS4 := Lib.hid (hS3.out.up hb4); have hO4 := Lib.hid hm4; clear hb4 hm4)
    | (go_at_call 47; go_loud (with_reducible refine (rcmp_any a3 c3 a3' c3' a4 c4 a4' c4' (ss.map parseQ).sum 1 _ hS4.out hO4.out hSz.out Sz_one).mono ?_); rintro e w5 ⟨rfl, hb5⟩; have hb5H := Lib.hid (bseq hb4H.out hb5); have hV5 := Lib.hid (hV4.out.below hb5); clear hb5))
  clear hs1 hs2 hm1 hm2
  go_loopw [42] (fun i wr => ∃ k, i = .int .i64 (k : Nat) ∧ k ≤ m + 1 ∧ (∀ i r, i < k → (ss.map parseQ)[i]? = some r → 0 ≤ sg (rn r) ∧ fits r 6 = true) ∧ Below w5.heap.size w5 wr) (fun i _ => m + 1 - (intOf i).toNat)
  case atStart => exact ⟨0, rfl, by omega, fun i _ hi => absurd hi (by omega), Below.refl _ _⟩
  case round =>
    obtain ⟨k, rfl, hk, hO, hbl⟩ := hrel
    have hblH := Lib.hid hbl
    have hOH := Lib.hid hO
    clear hO
    by_cases hkn : k < m + 1
    · obtain ⟨r, hr⟩ : ∃ r, (ss.map parseQ)[k]? = some r := ⟨_, List.getElem?_eq_getElem (by rw [hqs.out]; omega)⟩
      obtain ⟨b9, o9, p2, hab, hmr, f0, f1, f2, f3⟩ := (hV5.out.ql.below hbl) k r hr
      injection hab with hab
      injection hab with hab1 hab2 hab3
      subst hab1 hab2
      have hmrH := Lib.hid (show RM wr p2.a p2.c p2.a' p2.c' r from hmr)
      have hzr := Lib.hid (hz2H.out r (List.mem_of_getElem? hr))
      have hrH := Lib.hid hr
      have hkm : (k : Int) < (m : Int) + 1 := by omega
      clear hr hmr hbl hab3
      by_cases hg1 : sg (rn r) < 0
      · go_wp2_with (first
            | (go_at_call 29; go_loud (with_reducible refine (rsign_any p2.a p2.c p2.a' p2.c' r _).mono ?_); rintro e w6 ⟨rfl, hb6⟩; have d0 := Below.cellAt (b := wr.heap.size) (o := 0) (v := .bool (ng (rn r))) hb6 (Nat.le_refl _) (by simp [go_sem]); have d1 := Below.cellAt (b := wr.heap.size) (o := 1) (v := .slice p2.a (LI (rn r)) p2.c) hb6 (Nat.le_refl _) (by simp [go_sem]); have d2 := Below.cellAt (b := wr.heap.size) (o := 2) (v := .bool (ng (rd r))) hb6 (Nat.le_refl _) (by simp [go_sem]); have d3 := Below.cellAt (b := wr.heap.size) (o := 3) (v := .slice p2.a' (LI (rd r)) p2.c') hb6 (Nat.le_refl _) (by simp [go_sem]); have hb6H := Lib.hid (bvia hblH.out hb6); have hm6 := Lib.hid (show RM w6 p2.a p2.c p2.a' p2.c' r from RM.up (RM.up hmrH.out ((Below.refl _ _).alloc (Nat.le_refl _) _)) hb6); clear hb6))
        go_ret2
        exact ⟨rfl, bseq hb5H.out hb6H.out⟩
      · by_cases hg2 : fits r 6 = true
        · go_wp2_with (first
              | (go_at_call 29; go_loud (with_reducible refine (rsign_any p2.a p2.c p2.a' p2.c' r _).mono ?_); rintro e w6 ⟨rfl, hb6⟩; have d0 := Below.cellAt (b := wr.heap.size) (o := 0) (v := .bool (ng (rn r))) hb6 (Nat.le_refl _) (by simp [go_sem]); have d1 := Below.cellAt (b := wr.heap.size) (o := 1) (v := .slice p2.a (LI (rn r)) p2.c) hb6 (Nat.le_refl _) (by simp [go_sem]); have d2 := Below.cellAt (b := wr.heap.size) (o := 2) (v := .bool (ng (rd r))) hb6 (Nat.le_refl _) (by simp [go_sem]); have d3 := Below.cellAt (b := wr.heap.size) (o := 3) (v := .slice p2.a' (LI (rd r)) p2.c') hb6 (Nat.le_refl _) (by simp [go_sem]); have hb6H := Lib.hid (bvia hblH.out hb6); have hm6 := Lib.hid (show RM w6 p2.a p2.c p2.a' p2.c' r from RM.up (RM.up hmrH.out ((Below.refl _ _).alloc (Nat.le_refl _) _)) hb6); clear hb6)
              | (go_at_call 51; go_loud (with_reducible refine (fits6 p2.a p2.c p2.a' p2.c' r _ hm6.out hzr.out).mono ?_); rintro e w7 ⟨rfl, hb7⟩; have hb7H := Lib.hid (bseq hb6H.out hb7); clear hb7))
          go_roundw
          case rel =>
            refine ⟨k + 1, by go_num, by omega, fun i r2 hi hr2 => ?_, hb7H.out⟩
            by_cases e : i = k
            · subst e; have h9 := hrH.out; rw [hr2] at h9; injection h9 with h9; subst h9; exact ⟨hg1, hg2⟩
            · exact hOH.out i r2 (by omega) hr2
          case measure => simp [intOf]; omega
        · have hg3 : fits r 6 = false := by simpa using hg2
          clear hg2
          go_wp2_with (first
              | (go_at_call 29; go_loud (with_reducible refine (rsign_any p2.a p2.c p2.a' p2.c' r _).mono ?_); rintro e w6 ⟨rfl, hb6⟩; have d0 := Below.cellAt (b := wr.heap.size) (o := 0) (v := .bool (ng (rn r))) hb6 (Nat.le_refl _) (by simp [go_sem]); have d1 := Below.cellAt (b := wr.heap.size) (o := 1) (v := .slice p2.a (LI (rn r)) p2.c) hb6 (Nat.le_refl _) (by simp [go_sem]); have d2 := Below.cellAt (b := wr.heap.size) (o := 2) (v := .bool (ng (rd r))) hb6 (Nat.le_refl _) (by simp [go_sem]); have d3 := Below.cellAt (b := wr.heap.size) (o := 3) (v := .slice p2.a' (LI (rd r)) p2.c') hb6 (Nat.le_refl _) (by simp [go_sem]); have hb6H := Lib.hid (bvia hblH.out hb6); have hm6 := Lib.hid (show RM w6 p2.a p2.c p2.a' p2.c' r from RM.up (RM.up hmrH.out ((Below.refl _ _).alloc (Nat.le_refl _) _)) hb6); clear hb6)
              | (go_at_call 51; go_loud (with_reducible refine (fits6 p2.a p2.c p2.a' p2.c' r _ hm6.out hzr.out).mono ?_); rintro e w7 ⟨rfl, hb7⟩; have hb7H := Lib.hid (bseq hb6H.out hb7); clear hb7))
          go_ret2
          exact ⟨rfl, bseq hb5H.out hb7H.out⟩
    · exfalso
      have hke : k = m + 1 := by omega
      refine hgd.out (fun r hr => ?_)
      obtain ⟨i, hi, he⟩ := List.getElem_of_mem hr
      exact hOH.out i r (by rw [hqs.out] at hi; omega) (by rw [List.getElem?_eq_getElem hi, he])

set_option maxRecDepth 100000 in
set_option maxHeartbeats 1600000 in
theorem read_goods (ao : Option Addr) (c : Nat) (ss : List ByteArray) (w : World) (h : SL w ao ss) (hsz : ∀ s ∈ ss, s.size ≤ 4611686018427387904) (hok : allOK ss) (hl0 : 1 ≤ ss.length) (hl1 : ss.length ≤ 12)
    (hz : ∀ k, Sz (psum (ss.map parseQ) k)) (hz2 : ∀ q ∈ ss.map parseQ, Sz q) (hg : sg (rn (lastQ (ss.map parseQ))) ≠ 0) (hg1 : rsg (ss.map parseQ).sum 1 = 0) (hg2 : ∀ q ∈ ss.map parseQ, 0 ≤ sg (rn q) ∧ fits q 6 = true) :
    Calls Try.prog 28 #[.slice ao ss.length c] w (RetLives w (ss.map parseQ)) := by
  have hH := Lib.hid h
  have hszH := Lib.hid hsz
  have hokH := Lib.hid hok
  have hzH := Lib.hid hz
  have hz2H := Lib.hid hz2
  obtain ⟨m, hm⟩ : ∃ m, ss.length = m + 1 := ⟨ss.length - 1, by omega⟩
  have hmH := Lib.hid hm
  have hqs : Hid ((ss.map parseQ).length = m + 1) := by show _ = _; rw [List.length_map]; exact hm
  obtain ⟨q, hq⟩ : ∃ q, (ss.map parseQ)[m]? = some q := ⟨_, List.getElem?_eq_getElem (by rw [hqs.out]; omega)⟩
  have hql : lastQ (ss.map parseQ) = q := by unfold lastQ; rw [hqs.out]; show (ss.map parseQ)[m]?.getD 0 = q; rw [hq]; rfl
  have hqH := Lib.hid hq
  have hm1 : ¬ ((m : Int) + 1 < 1) := by omega
  have hm2 : ¬ ((12 : Int) < (m : Int) + 1) := by omega
  have hm3 : m + 1 ≤ 1000000000 := by omega
  rw [hm]
  have hs0 : ¬ sg (rn q) = 0 := by rw [← hql]; exact hg
  have hs1 : (sg (rn q) == 0) = false := by simp; exact hs0
  have hs2 : (rsg (ss.map parseQ).sum 1 != 0) = false := by simp; exact hg1
  have hSz : Hid (Sz (ss.map parseQ).sum) := by have := hzH.out (m + 1); unfold psum at this; rw [List.take_of_length_le (by rw [hqs.out]; exact Nat.le_refl _)] at this; exact this
  have hgd := Lib.hid hg2
  clear hql hg hs0 hg1 hg2
  clear h hsz hok hz hz2 hl0 hl1 hm hq
  go_enter Try.func28, Try.ntmps28
  go_wp2_with (first
    | (go_at_call 50; go_loud (with_reducible refine (numbers_at ao c (m + 1) ss _ hmH.out hH.out hm3 hszH.out hokH.out).mono ?_); rintro e w1 ⟨a1, c1, rfl, hV, hb1⟩; have hQ := Lib.hid (show QL w1 a1 (ss.map parseQ) from QV.ql hV); have hVH := Lib.hid hV; obtain ⟨b, o, p, rfl, hm', e0, e1, e2, e3⟩ := hQ.out m q hqH.out; have hb1H := Lib.hid hb1; clear hV hm' hb1)
    | (go_at_call 29; go_loud (with_reducible refine (rsign_any p.a p.c p.a' p.c' q _).mono ?_); rintro e w2 ⟨rfl, hb2⟩; have hb2H := Lib.hid (bseq hb1H.out hb2); have hQ2 := Lib.hid (hQ.out.below hb2); have hV2 := Lib.hid (hVH.out.below hb2); clear hb2)
    | (go_at_call 54; go_loud (with_reducible refine (sum_n (some ⟨b, o, none⟩) c1 (m + 1) (ss.map parseQ) _ hqs.out hQ2.out hm3 hzH.out hz2H.out).mono ?_); rintro e w3 ⟨a3, c3, a3', c3', rfl, hm3', hb3⟩; have hb3H := Lib.hid (bseq hb2H.out hb3); have hV3 := Lib.hid (hV2.out.below hb3); have hS3 := Lib.hid hm3'; clear hb3 hm3')
    | (go_at_call 32; (with_reducible refine (whole_one _).mono ?_); rintro e w4 ⟨a4, c4, a4', c4', rfl, hm4, hb4⟩; have hb4H := Lib.hid (bseq hb3H.out hb4); have hV4 := Lib.hid (hV3.out.below hb4); have hS4 := Lib.hid (hS3.out.up hb4); have hO4 := Lib.hid hm4; clear hb4 hm4)
    | (go_at_call 47; go_loud (with_reducible refine (rcmp_any a3 c3 a3' c3' a4 c4 a4' c4' (ss.map parseQ).sum 1 _ hS4.out hO4.out hSz.out Sz_one).mono ?_); rintro e w5 ⟨rfl, hb5⟩; have hb5H := Lib.hid (bseq hb4H.out hb5); have hV5 := Lib.hid (hV4.out.below hb5); clear hb5))
  clear hs1 hs2 hm1 hm2
  go_loopw [42] (fun i wr => ∃ k, i = .int .i64 (k : Nat) ∧ k ≤ m + 1 ∧  Below w5.heap.size w5 wr) (fun i _ => m + 1 - (intOf i).toNat)
  case atStart => exact ⟨0, rfl, by omega, Below.refl _ _⟩
  case round =>
    obtain ⟨k, rfl, hk, hbl⟩ := hrel
    have hblH := Lib.hid hbl
    by_cases hkn : k < m + 1
    · obtain ⟨r, hr⟩ : ∃ r, (ss.map parseQ)[k]? = some r := ⟨_, List.getElem?_eq_getElem (by rw [hqs.out]; omega)⟩
      obtain ⟨b9, o9, p2, hab, hmr, f0, f1, f2, f3⟩ := (hV5.out.ql.below hbl) k r hr
      injection hab with hab
      injection hab with hab1 hab2 hab3
      subst hab1 hab2
      have hmrH := Lib.hid (show RM wr p2.a p2.c p2.a' p2.c' r from hmr)
      have hzr := Lib.hid (hz2H.out r (List.mem_of_getElem? hr))
      have hrH := Lib.hid hr
      have hkm : (k : Int) < (m : Int) + 1 := by omega
      clear hr hmr hbl hab3
      have hgr := hgd.out r (List.mem_of_getElem? hrH.out)
      obtain ⟨hg1, hg2⟩ := hgr
      go_wp2_with (first
          | (go_at_call 29; go_loud (with_reducible refine (rsign_any p2.a p2.c p2.a' p2.c' r _).mono ?_); rintro e w6 ⟨rfl, hb6⟩; have d0 := Below.cellAt (b := wr.heap.size) (o := 0) (v := .bool (ng (rn r))) hb6 (Nat.le_refl _) (by simp [go_sem]); have d1 := Below.cellAt (b := wr.heap.size) (o := 1) (v := .slice p2.a (LI (rn r)) p2.c) hb6 (Nat.le_refl _) (by simp [go_sem]); have d2 := Below.cellAt (b := wr.heap.size) (o := 2) (v := .bool (ng (rd r))) hb6 (Nat.le_refl _) (by simp [go_sem]); have d3 := Below.cellAt (b := wr.heap.size) (o := 3) (v := .slice p2.a' (LI (rd r)) p2.c') hb6 (Nat.le_refl _) (by simp [go_sem]); have hb6H := Lib.hid (bvia hblH.out hb6); have hm6 := Lib.hid (show RM w6 p2.a p2.c p2.a' p2.c' r from RM.up (RM.up hmrH.out ((Below.refl _ _).alloc (Nat.le_refl _) _)) hb6); clear hb6)
          | (go_at_call 51; go_loud (with_reducible refine (fits6 p2.a p2.c p2.a' p2.c' r _ hm6.out hzr.out).mono ?_); rintro e w7 ⟨rfl, hb7⟩; have hb7H := Lib.hid (bseq hb6H.out hb7); clear hb7))
      go_roundw
      case rel => exact ⟨k + 1, by go_num, by omega, hb7H.out⟩
      case measure => simp [intOf]; omega
    · have hke : k = m + 1 := by omega
      have hkm : ¬ (k : Int) < (m : Int) + 1 := by omega
      clear hkn hk
      go_wp2
      go_ret2
      exact ⟨some ⟨b, o, none⟩, c1, by rw [hqs.out]; rfl, by rw [hqs.out]; exact (hV5.out.below hblH.out).base (Nat.le_refl _), bseq hb5H.out hblH.out⟩

theorem read_len2 (ao : Option Addr) (c : Nat) (ss : List ByteArray) (w : World) (h : SL w ao ss) (hn : ss.length ≤ 1000000000) (hsz : ∀ s ∈ ss, s.size ≤ 4611686018427387904) (hok : allOK ss)
    (hz : ss.length ≤ 12 → ∀ k, Sz (psum (ss.map parseQ) k)) (hz2 : ∀ q ∈ ss.map parseQ, Sz q) (hbad : ¬ livesGood (ss.map parseQ)) :
    Calls Try.prog 28 #[.slice ao ss.length c] w (RetErr w 1) := by
  by_cases hl : ss.length < 1 ∨ 12 < ss.length
  · exact read_len ao c ss w h hn hsz hok hl
  · have h1 : 1 ≤ ss.length := by omega
    have h2 : ss.length ≤ 12 := by omega
    by_cases a1 : sg (rn (lastQ (ss.map parseQ))) = 0
    · exact read_last ao c ss w h hsz hok h1 h2 (hz h2) hz2 a1
    · by_cases a2 : rsg (ss.map parseQ).sum 1 = 0
      · refine read_bads ao c ss w h hsz hok h1 h2 (hz h2) hz2 a1 a2 fun a3 => hbad ⟨?_, ?_, a1, a2, a3⟩
        · rw [List.length_map]; exact h1
        · rw [List.length_map]; exact h2
      · exact read_sum ao c ss w h hsz hok h1 h2 (hz h2) hz2 a1 a2
theorem read_ok (ao : Option Addr) (c : Nat) (ss : List ByteArray) (w : World) (h : SL w ao ss) (hsz : ∀ s ∈ ss, s.size ≤ 4611686018427387904) (hok : allOK ss)
    (hz : ∀ k, Sz (psum (ss.map parseQ) k)) (hz2 : ∀ q ∈ ss.map parseQ, Sz q) (hg : livesGood (ss.map parseQ)) :
    Calls Try.prog 28 #[.slice ao ss.length c] w (RetLives w (ss.map parseQ)) := by
  obtain ⟨h1, h2, h3, h4, h5⟩ := hg
  rw [List.length_map] at h1 h2
  exact read_goods ao c ss w h hsz hok h1 h2 hz hz2 h3 h4 h5

end Go.Proofs.Ytcaeonpjokkjnaa
