/- Bk Bl -/
import Derived.Test.YtcaeonpjokkjnaaKBkp
import Derived.Test.YtcaeonpjokkjnaaKXb
import Derived.Test.YtcaeonpjokkjnaaKXd
set_option linter.unusedVariables false
/- Walk of package wear: Back. -/
namespace Go.Proofs.Ytcaeonpjokkjnaa
open Go Go.RowKit Go.Proofs

/-- What Back asks of numbers, but for their count. -/
def rensGood (qs : List Rat) : Prop := (∀ q ∈ qs, fits q 6 = true) ∧ nth qs 0 = 1
theorem numbers_no (ao : Option Addr) (c n : Nat) (ss : List ByteArray) (w : World) (hnl : ss.length = n) (h : SL w ao ss) (hn : n ≤ 1000000000) (hsz : ∀ s ∈ ss, s.size ≤ 4611686018427387904) (hok : ¬ allOK ss) :
    Calls Try.prog 50 #[.slice ao n c] w (NumsPost0 w) := by subst hnl; exact numbers_bad ao c ss w h hn hsz hok
theorem fits6_b (a : Option Addr) (c : Nat) (a' : Option Addr) (c' : Nat) (q : Rat) (b : Bool) (w : World) (hb : fits q 6 = b) (h1 : RM w a c a' c' q) (hp : Sz q) :
    Calls Try.prog 51 #[.agg #[.bool (ng (rn q)), .slice a (LI (rn q)) c, .bool (ng (rd q)), .slice a' (LI (rd q)) c'], .int .i64 6] w (RetBool w b) := by subst hb; exact fits6 a c a' c' q w h1 hp
theorem rcmp_z (a : Option Addr) (c : Nat) (a' : Option Addr) (c' : Nat) (b : Option Addr) (d : Nat) (b' : Option Addr) (d' : Nat) (p q : Rat) (z : Int) (w : World) (hz : rsg p q = z) (h1 : RM w a c a' c' p) (h2 : RM w b d b' d' q) (hp : Sz p) (hq : Sz q) :
    Calls Try.prog 47 #[.agg #[.bool (ng (rn p)), .slice a (LI (rn p)) c, .bool (ng (rd p)), .slice a' (LI (rd p)) c'], .agg #[.bool (ng (rn q)), .slice b (LI (rn q)) d, .bool (ng (rd q)), .slice b' (LI (rd q)) d']] w (RetNum w z) := by subst hz; exact rcmp_any a c a' c' b d b' d' p q w h1 h2 hp hq

theorem rens_next {us : List Rat} {k : Nat} {r : Rat} (h : ∀ i r, i < k → us[i]? = some r → fits r 6 = true) (hr : us[k]? = some r) (hf : fits r 6 = true) : ∀ i r, i < k + 1 → us[i]? = some r → fits r 6 = true := fun i q hi hq => by
  by_cases e : i = k
  · subst e; rw [hr] at hq; injection hq with hq; rw [← hq]; exact hf
  · exact h i q (by omega) hq
theorem rsg_eq {p q : Rat} (h : rsg p q = 0) : p = q := rsg_zero.1 h

set_option maxRecDepth 100000 in
set_option maxHeartbeats 800000 in
theorem back_len (ao : Option Addr) (c l : Nat) (w : World) (hl : l < 1 ∨ 41 < l) :
    Calls Try.prog 23 #[.slice ao l c] w (RetErr w 1) := by
  by_cases h1 : l < 1
  · have h2 : (l : Int) < 1 := by omega
    clear hl h1
    go_enter Try.func23, Try.ntmps23
    go_wp2_with (fail)
    go_ret2
    exact ⟨rfl, Below.refl _ _⟩
  · have h2 : ¬ (l : Int) < 1 := by omega
    have h3 : 41 < (l : Int) := by omega
    clear hl h1
    go_enter Try.func23, Try.ntmps23
    go_wp2_with (fail)
    go_ret2
    exact ⟨rfl, Below.refl _ _⟩

set_option maxRecDepth 100000 in
set_option maxHeartbeats 800000 in
theorem back_form (ao : Option Addr) (c l : Nat) (ss : List ByteArray) (w : World) (hl : ss.length = l) (h : SL w ao ss) (h1 : 1 ≤ l) (h2 : l ≤ 41) (hsz : ∀ s ∈ ss, s.size ≤ 4611686018427387904) (hok : ¬ allOK ss) :
    Calls Try.prog 23 #[.slice ao l c] w (RetErr w 2) := by
  have hH := Lib.hid h
  have hlH := Lib.hid hl
  have hszH := Lib.hid hsz
  have hokH := Lib.hid hok
  have k1 : ¬ (l : Int) < 1 := by omega
  have k2 : ¬ (41 : Int) < l := by omega
  clear h hl hsz hok
  go_enter Try.func23, Try.ntmps23
  go_wp2_with (first
    | (go_at_call 50; go_loud (with_reducible refine (numbers_no ao c l ss _ hlH.out hH.out (by omega) hszH.out hokH.out).mono ?_); rintro e w1 ⟨rfl, hb1⟩))
  go_ret2
  exact ⟨rfl, hb1⟩

section
attribute [local go_sem] undef
set_option maxRecDepth 100000 in
set_option maxHeartbeats 3200000 in
theorem back_arg (ao : Option Addr) (c l : Nat) (ss : List ByteArray) (w : World) (hl : ss.length = l) (h : SL w ao ss) (h1 : 1 ≤ l) (h2 : l ≤ 41) (hsz : ∀ s ∈ ss, s.size ≤ 4611686018427387904) (hok : allOK ss) (hz : ∀ q ∈ ss.map parseQ, Sz q) (hg : ¬ rensGood (ss.map parseQ)) :
    Calls Try.prog 23 #[.slice ao l c] w (RetErr w 1) := by
  have hH := Lib.hid h
  have hlH := Lib.hid hl
  have hszH := Lib.hid hsz
  have hokH := Lib.hid hok
  have hzH := Lib.hid hz
  have hgH := Lib.hid hg
  have hqs : Hid ((ss.map parseQ).length = l) := by show _ = _; rw [List.length_map]; exact hl
  have k1 : ¬ (l : Int) < 1 := by omega
  have k2 : ¬ (41 : Int) < l := by omega
  clear h hl hsz hok hz hg
  go_enter Try.func23, Try.ntmps23
  go_wp2_with (first
    | (go_at_call 50; go_loud (with_reducible refine (numbers_at ao c l ss _ hlH.out hH.out (by omega) hszH.out hokH.out).mono ?_); rintro e w1 ⟨a1, c1, rfl, hV, hb1⟩; have hcap := QV.cap hV hqs.out; have hQ := Lib.hid (show QL w1 a1 (ss.map parseQ) from QV.ql hV); have hb1H := Lib.hid hb1; clear hV hb1))
  generalize ss.map parseQ = us at *
  go_loopw [27] (fun i wr => ∃ k, i = .int .i64 (k : Nat) ∧ k ≤ l ∧ (∀ i r, i < k → us[i]? = some r → fits r 6 = true) ∧ (0 < k → nth us 0 = 1) ∧ Below w1.heap.size w1 wr) (fun i _ => l - (intOf i).toNat)
  case atStart => exact ⟨0, rfl, by omega, fun i _ hi => absurd hi (by omega), fun hi => absurd hi (by omega), Below.refl _ _⟩
  case round =>
    obtain ⟨k, rfl, hk, hO, hN, hbl⟩ := hrel
    have hblH := Lib.hid hbl
    have hOH := Lib.hid hO
    have hNH := Lib.hid hN
    clear hO hN
    by_cases hkn : k < l
    · obtain ⟨r, hr⟩ : ∃ r, us[k]? = some r := ⟨_, List.getElem?_eq_getElem (by rw [hqs.out]; omega)⟩
      obtain ⟨b9, o9, p2, rfl, hmr, f0, f1, f2, f3⟩ := (hQ.out.below hbl) k r hr
      have hmrH := Lib.hid (show RM wr p2.a p2.c p2.a' p2.c' r from hmr)
      have hzr := Lib.hid (hzH.out r (List.mem_of_getElem? hr))
      have hrH := Lib.hid hr
      have hkm : (k : Int) < (l : Int) := by omega
      have hb9 : b9 < wr.heap.size := World.block_lt_of_cell? wr _ f0
      clear hmr hbl
      clear hr
      by_cases hf : fits r 6 = true
      · have hfH := Lib.hid hf
        clear hf
        by_cases hk0 : k = 0
        · have hkz : ((k : Int) == 0) = true := by simp; exact hk0
          have hk0H := Lib.hid hk0
          clear hk0
          by_cases hc : rsg r 1 = 0
          · have hcH := Lib.hid hc
            have hN1 : Hid (0 < k + 1 → nth us 0 = 1) := fun _ => by
              have := hrH.out; rw [hk0H.out] at this; unfold nth; rw [this]; exact rsg_eq hcH.out
            clear hc
            go_upto_region 9 with (fail)
            obtain ⟨W, hW⟩ : ∃ W, W = wr.alloc (Obj.cells #[.bool (ng (rn r)), .slice p2.a (LI (rn r)) p2.c, .bool (ng (rd r)), .slice p2.a' (LI (rd r)) p2.c'] 70) := ⟨_, rfl⟩
            obtain ⟨hM, _, z0, z1, z2, z3⟩ := (Box.new wr p2 r 70 hmrH.out).1
            have hbW' : Below wr.heap.size wr W := by rw [hW]; exact (Below.refl _ _).alloc (Nat.le_refl _) _
            have hbW := Lib.hid (bseq hblH.out hbW')
            have hzW : wr.heap.size < W.heap.size := by rw [hW]; simp
            rw [← hW] at hM z0 z1 z2 z3 ⊢
            have hMW := Lib.hid (show RM W p2.a p2.c p2.a' p2.c' r from hM)
            clear hW hM hbW' f0 f1 f2 f3
            go_region_with (first
              | (go_at_call 51; go_loud (with_reducible refine (fits6_b p2.a p2.c p2.a' p2.c' r true _ hfH.out (RM.up hMW.out (Below.refl _ _).drew) hzr.out).mono ?_); rintro e w6 ⟨rfl, hb6⟩; have q6 := Lib.hid (bseq (Below.refl W.heap.size W).drew hb6); have y0 := Below.cellAt q6.out (Nat.le_refl _) z0; have y1 := Below.cellAt q6.out (Nat.le_refl _) z1; have y2 := Below.cellAt q6.out (Nat.le_refl _) z2; have y3 := Below.cellAt q6.out (Nat.le_refl _) z3; have hM6 := Lib.hid (RM.up hMW.out q6.out))
              | (go_at_call 32; go_loud (with_reducible refine (whole_one _).mono ?_); rintro e w7 ⟨a7, d7, a7', d7', rfl, hm7, hb7⟩; have q7 := Lib.hid (bseq q6.out hb7); have x0 := Below.cellAt hb7 (Nat.le_refl _) y0; have x1 := Below.cellAt hb7 (Nat.le_refl _) y1; have x2 := Below.cellAt hb7 (Nat.le_refl _) y2; have x3 := Below.cellAt hb7 (Nat.le_refl _) y3; have hM7 := Lib.hid (RM.up hM6.out hb7))
              | (go_at_call 47; go_loud (with_reducible refine (rcmp_z p2.a p2.c p2.a' p2.c' a7 d7 a7' d7' r 1 0 _ hcH.out hM7.out hm7 hzr.out Sz_one).mono ?_); rintro e w8 ⟨rfl, hb8⟩; have q8 := Lib.hid (bseq q7.out hb8)))
            all_goals go_wp2_with (fail)
            all_goals exact ⟨⟨k + 1, by go_num, by omega, rens_next hOH.out hrH.out hfH.out, hN1.out, bseq hbW.out q8.out⟩, by simp [intOf]; omega⟩
          · obtain ⟨z, hz⟩ : ∃ z, rsg r 1 = z := ⟨_, rfl⟩
            have hzn : (z != 0) = true := by rw [← hz]; simp; exact hc
            have hcH := Lib.hid hz
            clear hc hz
            go_upto_region 9 with (fail)
            obtain ⟨W, hW⟩ : ∃ W, W = wr.alloc (Obj.cells #[.bool (ng (rn r)), .slice p2.a (LI (rn r)) p2.c, .bool (ng (rd r)), .slice p2.a' (LI (rd r)) p2.c'] 70) := ⟨_, rfl⟩
            obtain ⟨hM, _, z0, z1, z2, z3⟩ := (Box.new wr p2 r 70 hmrH.out).1
            have hbW' : Below wr.heap.size wr W := by rw [hW]; exact (Below.refl _ _).alloc (Nat.le_refl _) _
            have hbW := Lib.hid (bseq hblH.out hbW')
            have hzW : wr.heap.size < W.heap.size := by rw [hW]; simp
            rw [← hW] at hM z0 z1 z2 z3 ⊢
            have hMW := Lib.hid (show RM W p2.a p2.c p2.a' p2.c' r from hM)
            clear hW hM hbW' f0 f1 f2 f3
            go_region_with (first
              | (go_at_call 51; go_loud (with_reducible refine (fits6_b p2.a p2.c p2.a' p2.c' r true _ hfH.out (RM.up hMW.out (Below.refl _ _).drew) hzr.out).mono ?_); rintro e w6 ⟨rfl, hb6⟩; have q6 := Lib.hid (bseq (Below.refl W.heap.size W).drew hb6); have y0 := Below.cellAt q6.out (Nat.le_refl _) z0; have y1 := Below.cellAt q6.out (Nat.le_refl _) z1; have y2 := Below.cellAt q6.out (Nat.le_refl _) z2; have y3 := Below.cellAt q6.out (Nat.le_refl _) z3; have hM6 := Lib.hid (RM.up hMW.out q6.out))
              | (go_at_call 32; go_loud (with_reducible refine (whole_one _).mono ?_); rintro e w7 ⟨a7, d7, a7', d7', rfl, hm7, hb7⟩; have q7 := Lib.hid (bseq q6.out hb7); have x0 := Below.cellAt hb7 (Nat.le_refl _) y0; have x1 := Below.cellAt hb7 (Nat.le_refl _) y1; have x2 := Below.cellAt hb7 (Nat.le_refl _) y2; have x3 := Below.cellAt hb7 (Nat.le_refl _) y3; have hM7 := Lib.hid (RM.up hM6.out hb7))
              | (go_at_call 47; go_loud (with_reducible refine (rcmp_z p2.a p2.c p2.a' p2.c' a7 d7 a7' d7' r 1 z _ hcH.out hM7.out hm7 hzr.out Sz_one).mono ?_); rintro e w8 ⟨rfl, hb8⟩; have q8 := Lib.hid (bseq q7.out hb8)))
            all_goals go_wp2_with (fail)
            all_goals go_ret2
            all_goals exact ⟨rfl, bseq (bseq hb1H.out hbW.out) q8.out⟩
        · have hkz : ((k : Int) == 0) = false := by simp; exact hk0
          have hk0H := Lib.hid hk0
          clear hk0
          have hN1 : Hid (0 < k + 1 → nth us 0 = 1) := fun _ => hNH.out (by have := hk0H.out; omega)
          go_upto_region 9 with (fail)
          obtain ⟨W, hW⟩ : ∃ W, W = wr.alloc (Obj.cells #[.bool (ng (rn r)), .slice p2.a (LI (rn r)) p2.c, .bool (ng (rd r)), .slice p2.a' (LI (rd r)) p2.c'] 70) := ⟨_, rfl⟩
          obtain ⟨hM, _, z0, z1, z2, z3⟩ := (Box.new wr p2 r 70 hmrH.out).1
          have hbW' : Below wr.heap.size wr W := by rw [hW]; exact (Below.refl _ _).alloc (Nat.le_refl _) _
          have hbW := Lib.hid (bseq hblH.out hbW')
          have hzW : wr.heap.size < W.heap.size := by rw [hW]; simp
          rw [← hW] at hM z0 z1 z2 z3 ⊢
          have hMW := Lib.hid (show RM W p2.a p2.c p2.a' p2.c' r from hM)
          clear hW hM hbW' f0 f1 f2 f3
          first | (go_region_with (first
            | (go_at_call 51; go_loud (with_reducible refine (fits6_b p2.a p2.c p2.a' p2.c' r true _ hfH.out (RM.up hMW.out (Below.refl _ _).drew) hzr.out).mono ?_); rintro e w6 ⟨rfl, hb6⟩; have q6 := Lib.hid (bseq (Below.refl W.heap.size W).drew hb6); have y0 := Below.cellAt q6.out (Nat.le_refl _) z0; have y1 := Below.cellAt q6.out (Nat.le_refl _) z1; have y2 := Below.cellAt q6.out (Nat.le_refl _) z2; have y3 := Below.cellAt q6.out (Nat.le_refl _) z3; have hM6 := Lib.hid (RM.up hMW.out q6.out)))) | fail
          all_goals go_wp2_with (fail)
          all_goals exact ⟨⟨k + 1, by go_num, by omega, rens_next hOH.out hrH.out hfH.out, hN1.out, bseq hbW.out q6.out⟩, by simp [intOf]; omega⟩
      · have hfH : Hid (fits r 6 = false) := by show _ = _; simpa using hf
        clear hf
        go_upto_region 9 with (fail)
        obtain ⟨W, hW⟩ : ∃ W, W = wr.alloc (Obj.cells #[.bool (ng (rn r)), .slice p2.a (LI (rn r)) p2.c, .bool (ng (rd r)), .slice p2.a' (LI (rd r)) p2.c'] 70) := ⟨_, rfl⟩
        obtain ⟨hM, _, z0, z1, z2, z3⟩ := (Box.new wr p2 r 70 hmrH.out).1
        have hbW' : Below wr.heap.size wr W := by rw [hW]; exact (Below.refl _ _).alloc (Nat.le_refl _) _
        have hbW := Lib.hid (bseq hblH.out hbW')
        have hzW : wr.heap.size < W.heap.size := by rw [hW]; simp
        rw [← hW] at hM z0 z1 z2 z3 ⊢
        have hMW := Lib.hid (show RM W p2.a p2.c p2.a' p2.c' r from hM)
        clear hW hM hbW' f0 f1 f2 f3
        first | (go_region_with (first
          | (go_at_call 51; go_loud (with_reducible refine (fits6_b p2.a p2.c p2.a' p2.c' r false _ hfH.out (RM.up hMW.out (Below.refl _ _).drew) hzr.out).mono ?_); rintro e w6 ⟨rfl, hb6⟩; have q6 := Lib.hid (bseq (Below.refl W.heap.size W).drew hb6); have y0 := Below.cellAt q6.out (Nat.le_refl _) z0; have y1 := Below.cellAt q6.out (Nat.le_refl _) z1; have y2 := Below.cellAt q6.out (Nat.le_refl _) z2; have y3 := Below.cellAt q6.out (Nat.le_refl _) z3; have hM6 := Lib.hid (RM.up hMW.out q6.out)))) | fail
        all_goals go_wp2_with (fail)
        all_goals go_ret2
        all_goals exact ⟨rfl, bseq (bseq hb1H.out hbW.out) q6.out⟩
    · exfalso
      have hke : k = l := by omega
      refine hgH.out ⟨fun q hq => ?_, hNH.out (by omega)⟩
      obtain ⟨i, hi, he⟩ := List.getElem_of_mem hq
      exact hOH.out i q (by rw [hqs.out] at hi; omega) (by rw [List.getElem?_eq_getElem hi, he])

end
end Go.Proofs.Ytcaeonpjokkjnaa

/- Walk of package wear: Back of valid renewals. -/
namespace Go.Proofs.Ytcaeonpjokkjnaa
open Go Go.RowKit Go.Proofs

theorem QL.drop1 {w : World} {b o : Nat} {us : List Rat} (h : QL w (some ⟨b, o, none⟩) us) : QL w (some ⟨b, o + 4, none⟩) (us.drop 1) := fun i q hq => by
  rw [List.getElem?_drop] at hq
  obtain ⟨b2, o2, p, ha, hm, c0, c1, c2, c3⟩ := h (1 + i) q hq
  injection ha with ha
  injection ha with e1 e2
  subst e1 e2
  have e : o + 4 + i * 4 = o + (1 + i) * 4 := by omega
  exact ⟨b, o + 4, p, rfl, hm, by rw [e]; exact c0, by rw [e]; exact c1, by rw [e]; exact c2, by rw [e]; exact c3⟩
theorem pdot_full (xs ys : List Rat) : pdot xs ys (List.zipWith (· * ·) xs ys).length = dotl xs ys := by
  unfold pdot dotl Go.Proofs.Ytcaeonpjokkjnaa.psum
  rw [List.take_of_length_le (Nat.le_refl _)]

set_option maxRecDepth 100000 in
set_option maxHeartbeats 3200000 in
theorem back_good (ao : Option Addr) (c l : Nat) (ss : List ByteArray) (w : World) (hl : ss.length = l) (h : SL w ao ss) (h1 : 1 ≤ l) (h2 : l ≤ 41) (hsz : ∀ s ∈ ss, s.size ≤ 4611686018427387904) (hok : allOK ss) (hz : ∀ q ∈ ss.map parseQ, Sz q) (hg : rensGood (ss.map parseQ)) (n : Nat) (hn : n + 1 = l) (hB : BackSz (ss.map parseQ) n) :
    Calls Try.prog 23 #[.slice ao l c] w (RetNums w ((bkL (ss.map parseQ) n).map nt)) := by
  have hH := Lib.hid h
  have hlH := Lib.hid hl
  have hszH := Lib.hid hsz
  have hokH := Lib.hid hok
  have hzH := Lib.hid hz
  have hgH := Lib.hid hg
  have hqs : Hid ((ss.map parseQ).length = l) := by show _ = _; rw [List.length_map]; exact hl
  have k1 : ¬ (l : Int) < 1 := by omega
  have k2 : ¬ (41 : Int) < l := by omega
  have hBH := Lib.hid hB
  clear hB
  clear h hl hsz hok hz hg
  go_enter Try.func23, Try.ntmps23
  go_wp2_with (first
    | (go_at_call 50; go_loud (with_reducible refine (numbers_at ao c l ss _ hlH.out hH.out (by omega) hszH.out hokH.out).mono ?_); rintro e w1 ⟨a1, c1, rfl, hV, hb1⟩; have hcap := QV.cap hV hqs.out; have hQ := Lib.hid (show QL w1 a1 (ss.map parseQ) from QV.ql hV); have hb1H := Lib.hid hb1; clear hV hb1))
  generalize ss.map parseQ = us at *
  go_loopw [27] (fun i wr => ∃ k, i = .int .i64 (k : Nat) ∧ k ≤ l ∧ Below w1.heap.size w1 wr) (fun i _ => l - (intOf i).toNat)
  case atStart => exact ⟨0, rfl, by omega, Below.refl _ _⟩
  case round =>
    obtain ⟨k, rfl, hk, hbl⟩ := hrel
    have hblH := Lib.hid hbl
    by_cases hkn : k < l
    · obtain ⟨r, hr⟩ : ∃ r, us[k]? = some r := ⟨_, List.getElem?_eq_getElem (by rw [hqs.out]; omega)⟩
      obtain ⟨b9, o9, p2, rfl, hmr, f0, f1, f2, f3⟩ := (hQ.out.below hbl) k r hr
      have hmrH := Lib.hid (show RM wr p2.a p2.c p2.a' p2.c' r from hmr)
      have hzr := Lib.hid (hzH.out r (List.mem_of_getElem? hr))
      have hrH := Lib.hid hr
      have hkm : (k : Int) < (l : Int) := by omega
      have hb9 : b9 < wr.heap.size := World.block_lt_of_cell? wr _ f0
      clear hmr hbl
      have hfH := Lib.hid (hgH.out.1 r (List.mem_of_getElem? hr))
      by_cases hk0 : k = 0
      · have hkz : ((k : Int) == 0) = true := by simp; exact hk0
        have hc : rsg r 1 = 0 := by
          have h9 := hgH.out.2
          rw [hk0] at hr
          unfold nth at h9; rw [hr] at h9
          exact rsg_zero.2 h9
        have hk0H := Lib.hid hk0
        clear hk0 hr
        have hcH := Lib.hid hc
        clear hc
        go_upto_region 9 with (fail)
        obtain ⟨W, hW⟩ : ∃ W, W = wr.alloc (Obj.cells #[.bool (ng (rn r)), .slice p2.a (LI (rn r)) p2.c, .bool (ng (rd r)), .slice p2.a' (LI (rd r)) p2.c'] 70) := ⟨_, rfl⟩
        obtain ⟨hM, _, z0, z1, z2, z3⟩ := (Box.new wr p2 r 70 hmrH.out).1
        have hbW' : Below wr.heap.size wr W := by rw [hW]; exact (Below.refl _ _).alloc (Nat.le_refl _) _
        have hbW := Lib.hid (bseq hblH.out hbW')
        have hzW : wr.heap.size < W.heap.size := by rw [hW]; simp
        rw [← hW] at hM z0 z1 z2 z3 ⊢
        have hMW := Lib.hid (show RM W p2.a p2.c p2.a' p2.c' r from hM)
        clear hW hM hbW' f0 f1 f2 f3
        go_region_with (first
          | (go_at_call 51; go_loud (with_reducible refine (fits6_b p2.a p2.c p2.a' p2.c' r true _ hfH.out (RM.up hMW.out (Below.refl _ _).drew) hzr.out).mono ?_); rintro e w6 ⟨rfl, hb6⟩; have q6 := Lib.hid (bseq (Below.refl W.heap.size W).drew hb6); have y0 := Below.cellAt q6.out (Nat.le_refl _) z0; have y1 := Below.cellAt q6.out (Nat.le_refl _) z1; have y2 := Below.cellAt q6.out (Nat.le_refl _) z2; have y3 := Below.cellAt q6.out (Nat.le_refl _) z3; have hM6 := Lib.hid (RM.up hMW.out q6.out))
          | (go_at_call 32; go_loud (with_reducible refine (whole_one _).mono ?_); rintro e w7 ⟨a7, d7, a7', d7', rfl, hm7, hb7⟩; have q7 := Lib.hid (bseq q6.out hb7); have x0 := Below.cellAt hb7 (Nat.le_refl _) y0; have x1 := Below.cellAt hb7 (Nat.le_refl _) y1; have x2 := Below.cellAt hb7 (Nat.le_refl _) y2; have x3 := Below.cellAt hb7 (Nat.le_refl _) y3; have hM7 := Lib.hid (RM.up hM6.out hb7))
          | (go_at_call 47; go_loud (with_reducible refine (rcmp_z p2.a p2.c p2.a' p2.c' a7 d7 a7' d7' r 1 0 _ hcH.out hM7.out hm7 hzr.out Sz_one).mono ?_); rintro e w8 ⟨rfl, hb8⟩; have q8 := Lib.hid (bseq q7.out hb8)))
        all_goals go_wp2_with (fail)
        all_goals exact ⟨⟨k + 1, by go_num, by omega, bseq hbW.out q8.out⟩, by simp [intOf]; omega⟩
      · have hkz : ((k : Int) == 0) = false := by simp; exact hk0
        have hk0H := Lib.hid hk0
        clear hk0 hr
        go_upto_region 9 with (fail)
        obtain ⟨W, hW⟩ : ∃ W, W = wr.alloc (Obj.cells #[.bool (ng (rn r)), .slice p2.a (LI (rn r)) p2.c, .bool (ng (rd r)), .slice p2.a' (LI (rd r)) p2.c'] 70) := ⟨_, rfl⟩
        obtain ⟨hM, _, z0, z1, z2, z3⟩ := (Box.new wr p2 r 70 hmrH.out).1
        have hbW' : Below wr.heap.size wr W := by rw [hW]; exact (Below.refl _ _).alloc (Nat.le_refl _) _
        have hbW := Lib.hid (bseq hblH.out hbW')
        have hzW : wr.heap.size < W.heap.size := by rw [hW]; simp
        rw [← hW] at hM z0 z1 z2 z3 ⊢
        have hMW := Lib.hid (show RM W p2.a p2.c p2.a' p2.c' r from hM)
        clear hW hM hbW' f0 f1 f2 f3
        first | (go_region_with (first
          | (go_at_call 51; go_loud (with_reducible refine (fits6_b p2.a p2.c p2.a' p2.c' r true _ hfH.out (RM.up hMW.out (Below.refl _ _).drew) hzr.out).mono ?_); rintro e w6 ⟨rfl, hb6⟩; have q6 := Lib.hid (bseq (Below.refl W.heap.size W).drew hb6); have y0 := Below.cellAt q6.out (Nat.le_refl _) z0; have y1 := Below.cellAt q6.out (Nat.le_refl _) z1; have y2 := Below.cellAt q6.out (Nat.le_refl _) z2; have y3 := Below.cellAt q6.out (Nat.le_refl _) z3; have hM6 := Lib.hid (RM.up hMW.out q6.out)))) | fail
        all_goals go_wp2_with (fail)
        all_goals exact ⟨⟨k + 1, by go_num, by omega, bseq hbW.out q6.out⟩, by simp [intOf]; omega⟩
    · have hkm : ¬ (k : Int) < (l : Int) := by omega
      have hbk := Lib.hid hblH.out
      clear hbl
      generalize wr = wo at *
      have hV0 := Lib.hid (QV.nil wo w1.heap.size)
      go_wp2_with (fail)
      go_loopw [8, 9] (fun b i wr => ∃ k : Nat, i = .int .i64 ((k : Int) + 1) ∧ k ≤ n ∧ QV wr w1.heap.size b (bkL us k) ∧ Below w1.heap.size w1 wr) (fun _ i _ => n + 1 - (intOf i).toNat)
      case atStart => exact ⟨0, rfl, by omega, hV0.out, hblH.out⟩
      case round =>
        clear hblH hbk hkm hkn hk
        obtain ⟨k, rfl, hk, hV, hbl⟩ := hrel
        obtain ⟨ab, cb, hbv⟩ := hV.shape
        subst hbv
        have htlH := Lib.hid (bkL_length us k)
        rw [htlH.out] at hV ⊢
        have hVH := Lib.hid hV
        have hblH := Lib.hid hbl
        have hbs := hbl.size
        clear hV
        by_cases hkn : k < n
        · obtain ⟨r, hr⟩ : ∃ r, us[k + 1]? = some r := ⟨_, List.getElem?_eq_getElem (by rw [hqs.out]; omega)⟩
          have hnx : Hid (bkL us k ++ [r - dotl (bkL us k) ((us.drop 1).take k).reverse] = bkL us (k + 1)) := by show _ = _; rw [bkL]; unfold nth; rw [hr]; rfl
          obtain ⟨b9, o9, p2, rfl, hmr, f0, f1, f2, f3⟩ := (hQ.out.below hbl) (k + 1) r hr
          obtain ⟨b8, o8, p8, hq8, _, f8, _⟩ := hQ.out (k + 1) r hr
          cases hq8
          have hQ1lt : b9 < w1.heap.size := World.block_lt_of_cell? w1 _ f8
          clear f8
          have hmrH := Lib.hid (show RM wr p2.a p2.c p2.a' p2.c' r from hmr)
          have hzr := Lib.hid (hBH.out.own r (List.mem_of_getElem? hr))
          have hkm : (k : Int) + 1 < (l : Int) := by omega
          have hkc : (k : Int) + 1 ≤ (c1 : Int) := by omega
          have hk00 : (0 : Int) ≤ (k : Int) + 1 := by omega
          have hk1 : (1 : Int) ≤ (k : Int) + 1 := by omega
          have hk2 : (k : Int) + 1 - 1 = (k : Int) := by omega
          have hbz9 : b9 < w1.heap.size := hQ1lt
          have hD := Lib.hid (QL.take (QL.drop1 (hQ.out.below hbl)) k)
          have hsl : Hid (((us.drop 1).take k).length = k) := by show _ = _; rw [List.length_take, List.length_drop, hqs.out]; omega
          have hrl : Hid (((us.drop 1).take k).reverse.length = k) := by show _ = _; rw [List.length_reverse]; exact hsl.out
          have z0 := Lib.hid (hBH.out.all k (by omega))
          have z1 := Lib.hid (show ∀ j, Sz (pdot (bkL us k) ((us.drop 1).take k).reverse j) from fun j => hBH.out.dots k j hkn)
          have z2 := Lib.hid (fun q (hq : q ∈ ((us.drop 1).take k).reverse) => hBH.out.own q (segL_mem hq))
          have z3 := Lib.hid (fun p (hp : p ∈ bkL us k) q (hq : q ∈ ((us.drop 1).take k).reverse) => hBH.out.mul k hkn p hp q (segL_mem hq))
          have z4 := Lib.hid (show Sz (dotl (bkL us k) ((us.drop 1).take k).reverse) by rw [← pdot_full]; exact z1.out _)
          generalize (us.drop 1).take k = ds at *
          clear hmr hbl hr
          go_wp2_with (fail)
          have hc0 : Hid (C4 wr b9 (o9 + (k + 1) * 4) (.bool (ng (rn r))) (.slice p2.a (LI (rn r)) p2.c) (.bool (ng (rd r))) (.slice p2.a' (LI (rd r)) p2.c')) := ⟨f0, f1, f2, f3⟩
          have hownH := Lib.hid hVH.out.lt
          have hne : Hid (∀ j, (Value.slice ab k cb).ownBlock = some j → b9 ≠ j) := fun j hj => by have h1 := (hownH.out j hj).1; omega
          go_region_held3 (fun w' => C4 w' b9 (o9 + (k + 1) * 4) (.bool (ng (rn r))) (.slice p2.a (LI (rn r)) p2.c) (.bool (ng (rd r))) (.slice p2.a' (LI (rd r)) p2.c'))
            (first | (with_reducible exact hc9.out) | (with_reducible exact hc8.out.al _) | (with_reducible exact hc8.out) | (with_reducible exact hc7.out) | (with_reducible exact hc6.out) | (with_reducible exact hc5.out) | (with_reducible exact hc0.out.drew))
            (first
            | (go_at_call 32; go_loud (with_reducible refine (whole_zero _).mono ?_); rintro e w5 ⟨a5, d5, a5', d5', rfl, hm5, hb5⟩; have q5 := Lib.hid (bseq (Below.refl wr.heap.size wr).drew hb5); have hc5 := Lib.hid (hc0.out.up q5.out))
            | (go_at_call 34; go_loud (with_reducible refine (turned_n (some ⟨b9, o9 + 4, none⟩) (c1 - 1) k ds _ hsl.out (hD.out.below q5.out) (by omega)).mono ?_); rintro e w6 ⟨a6, c6, rfl, hV6, hb6⟩; have hR6 := Lib.hid (QV.ql hV6); have q6 := Lib.hid (bseq q5.out hb6); have hm56 := Lib.hid (RM.up hm5 hb6); have hc6 := Lib.hid (hc5.out.up hb6); rw [hrl.out]; clear hV6)
            | (go_at_call 33; go_loud (with_reducible refine (dot_n a5 a5' d5 d5' ab a6 cb c6 k k (bkL us k) ds.reverse _ htlH.out hrl.out hm56.out ((hVH.out.below q6.out).ql) hR6.out (by omega) (by omega) z1.out z0.out z2.out z3.out).mono ?_); rintro e w7 ⟨a7, d7, a7', d7', rfl, hm7, hb7⟩; have q7 := Lib.hid (bseq q6.out hb7); have hM7 := Lib.hid (RM.up hmrH.out q7.out); have hc7 := Lib.hid (hc6.out.up hb7))
            | (go_at_call 52; go_loud (with_reducible refine (rsub_any p2.a p2.c p2.a' p2.c' a7 d7 a7' d7' r (dotl (bkL us k) ds.reverse) _ hM7.out hm7 hzr.out z4.out).mono ?_); rintro e w8 ⟨a8, d8, a8', d8', rfl, hm8, hb8⟩; have q8 := Lib.hid (bseq q7.out hb8); have hb8H := Lib.hid (bseq hblH.out q8.out); have hV8 := Lib.hid (hVH.out.below q8.out); have hM8 := Lib.hid (show RMp w8 ⟨a8, d8, a8', d8'⟩ (r - dotl (bkL us k) ds.reverse) from hm8); have hs8 := hb8H.out.size; have hc8 := Lib.hid (hc7.out.up hb8); clear hm8 hb8)
            | ((refine step_append_rat rfl (.tmp 52) (.tmp 65) _ rfl Try.underlying62 w1.heap.size k (.slice ab k cb) (bkL us k) (r - dotl (bkL us k) ds.reverse) ⟨a8, d8, a8', d8'⟩ rfl (hV8.out.below ((Below.refl _ _).alloc (Nat.le_refl _) _)) htlH.out w8.heap.size rfl (by omega) (by simp; omega) (by simp [go_sem]) (by simp [go_sem]) (by simp [go_sem]) (by simp [go_sem]) (hM8.out.up ((Below.refl _ _).alloc (Nat.le_refl _) _)) ?_); intro v' w9 hv9 hg9; rw [hnx.out] at hv9; have hv9H := Lib.hid hv9; have hb9 := Lib.hid ((hb8H.out.alloc hs8 _).grown hg9 (by simp; omega) (fun g hg => (hownH.out g hg).1)); have hc9 := Lib.hid (C4.grown (v := .slice ab k cb) (hc8.out.al _) hg9 hne.out); clear hv9 hg9))
          go_wp2_with (fail)
          go_roundw
          case rel => exact ⟨k + 1, by go_num, by omega, hv9H.out, hb9.out⟩
          case measure => simp [intOf]; omega
        · have hke : k = n := by omega
          subst hke
          have hkm : ¬ (k : Int) + 1 < (l : Int) := by omega
          go_wp2_with (first
            | (go_at_call 35; go_loud (with_reducible refine (told_n ab cb k (bkL us k) _ htlH.out hVH.out.ql (by omega) (hBH.out.all k (Nat.le_refl _)) hBH.out.num).mono ?_); rintro e w7 ⟨a7, c7, rfl, hS7, hb7⟩; have hS7H := Lib.hid hS7; clear hS7))
          go_ret2
          exact ⟨a7, c7, by rw [List.length_map]; rfl, hS7H.out.base (Nat.le_trans hb1H.out.size hblH.out.size), bseq (hb1H.out.trans (hblH.out.mono hb1H.out.size)) hb7⟩

end Go.Proofs.Ytcaeonpjokkjnaa
