/- Bk -/
import Derived.Test.YtcaeonpjokkjnaaKBkp
import Derived.Test.YtcaeonpjokkjnaaKXb
set_option linter.unusedVariables false
/- Walk of package wear: Back. -/
namespace Go.Proofs.Ytcaeonpjokkjnaa
open Go Go.RowKit Go.Proofs

/-- What Back asks of numbers, but for their count. -/
def rensGood (qs : List Rat) : Prop := (∀ q ∈ qs, fits q 6 = true) ∧ nth qs 0 = 1
theorem numbers_no (ao : Option Addr) (c n : Nat) (ss : List ByteArray) (w : World) (hnl : ss.length = n) (h : SL w ao ss) (hn : n ≤ 1000000000) (hsz : ∀ s ∈ ss, s.size ≤ 4611686018427387904) (hok : ¬ allOK ss) :
    Calls Try.prog 50 #[.slice ao n c] w (NumsPost0 w) := by subst hnl; exact numbers_bad ao c ss w h hn hsz hok
theorem fits6_b (a : Option Addr) (c : Nat) (a' : Option Addr) (c' : Nat) (q : Rat) (b : Bool) (w : World) (hb : fits q 6 = b) (h1 : RM w a c a' c' q) (hp : Sz q) :
    Calls Try.prog 51 #[.agg #[.bool (ng (rn q)), .slice a (LI (rn q)) c, .bool (ng (rd q)), .slice a' (LI (rd q)) c'], .int .i64 6] w (RetBool w b) := by subst hb; exact fits6 a c a' c' q w h1 hp
theorem rcmp_z (a : Option Addr) (c : Nat) (a' : Option Addr) (c' : Nat) (b : Option Addr) (d : Nat) (b' : Option Addr) (d' : Nat) (p q : Rat) (z : Int) (w : World) (hz : rsg p q = z) (h1 : RM w a c a' c' p) (h2 : RM w b d b' d' q) (hp : Sz p) (hq : Sz q) :
    Calls Try.prog 47 #[.agg #[.bool (ng (rn p)), .slice a (LI (rn p)) c, .bool (ng (rd p)), .slice a' (LI (rd p)) c'], .agg #[.bool (ng (rn q)), .slice b (LI (rn q)) d, .bool (ng (rd q)), .slice b' (LI (rd q)) d']] w (RetNum w z) := by subst hz; exact rcmp_any a c a' c' b d b' d' p q w h1 h2 hp hq

theorem rens_next {us : List Rat} {k : Nat} {r : Rat} (h : ∀ i r, i < k → us[i]? = some r → fits r 6 = true) (hr : us[k]? = some r) (hf : fits r 6 = true) : ∀ i r, i < k + 1 → us[i]? = some r → fits r 6 = true := fun i q hi hq => by
  by_cases e : i = k
  · subst e; rw [hr] at hq; injection hq with hq; rw [← hq]; exact hf
  · exact h i q (by omega) hq
theorem rsg_eq {p q : Rat} (h : rsg p q = 0) : p = q := rsg_zero.1 h

set_option maxRecDepth 100000 in
set_option maxHeartbeats 800000 in
theorem back_len (ao : Option Addr) (c l : Nat) (w : World) (hl : l < 1 ∨ 41 < l) :
    Calls Try.prog 23 #[.slice ao l c] w (RetErr w 1) := by
  by_cases h1 : l < 1
  · have h2 : (l : Int) < 1 := by omega
    clear hl h1
    go_enter Try.func23, Try.ntmps23
    go_wp2_with (fail)
    go_ret2
    exact ⟨rfl, Below.refl _ _⟩
  · have h2 : ¬ (l : Int) < 1 := by omega
    have h3 : 41 < (l : Int) := by omega
    clear hl h1
    go_enter Try.func23, Try.ntmps23
    go_wp2_with (fail)
    go_ret2
    exact ⟨rfl, Below.refl _ _⟩

set_option maxRecDepth 100000 in
set_option maxHeartbeats 800000 in
theorem back_form (ao : Option Addr) (c l : Nat) (ss : List ByteArray) (w : World) (hl : ss.length = l) (h : SL w ao ss) (h1 : 1 ≤ l) (h2 : l ≤ 41) (hsz : ∀ s ∈ ss, s.size ≤ 4611686018427387904) (hok : ¬ allOK ss) :
    Calls Try.prog 23 #[.slice ao l c] w (RetErr w 2) := by
  have hH := Lib.hid h
  have hlH := Lib.hid hl
  have hszH := Lib.hid hsz
  have hokH := Lib.hid hok
  have k1 : ¬ (l : Int) < 1 := by omega
  have k2 : ¬ (41 : Int) < l := by omega
  clear h hl hsz hok
  go_enter Try.func23, Try.ntmps23
  go_wp2_with (first
    | (go_at_call 50; go_loud (with_reducible refine (numbers_no ao c l ss _ hlH.out hH.out (by omega) hszH.out hokH.out).mono ?_); rintro e w1 ⟨rfl, hb1⟩))
  go_ret2
  exact ⟨rfl, hb1⟩

section
attribute [local go_sem] undef
set_option maxRecDepth 100000 in
set_option maxHeartbeats 3200000 in
theorem back_arg (ao : Option Addr) (c l : Nat) (ss : List ByteArray) (w : World) (hl : ss.length = l) (h : SL w ao ss) (h1 : 1 ≤ l) (h2 : l ≤ 41) (hsz : ∀ s ∈ ss, s.size ≤ 4611686018427387904) (hok : allOK ss) (hz : ∀ q ∈ ss.map parseQ, Sz q) (hg : ¬ rensGood (ss.map parseQ)) :
    Calls Try.prog 23 #[.slice ao l c] w (RetErr w 1) := by
  have hH := Lib.hid h
  have hlH := Lib.hid hl
  have hszH := Lib.hid hsz
  have hokH := Lib.hid hok
  have hzH := Lib.hid hz
  have hgH := Lib.hid hg
  have hqs : Hid ((ss.map parseQ).length = l) := by show _ = _; rw [List.length_map]; exact hl
  have k1 : ¬ (l : Int) < 1 := by omega
  have k2 : ¬ (41 : Int) < l := by omega
  clear h hl hsz hok hz hg
  go_enter Try.func23, Try.ntmps23
  go_wp2_with (first
    | (go_at_call 50; go_loud (with_reducible refine (numbers_at ao c l ss _ hlH.out hH.out (by omega) hszH.out hokH.out).mono ?_); rintro e w1 ⟨a1, c1, rfl, hV, hb1⟩; have hcap := QV.cap hV hqs.out; have hQ := Lib.hid (show QL w1 a1 (ss.map parseQ) from QV.ql hV); have hb1H := Lib.hid hb1; clear hV hb1))
  generalize ss.map parseQ = us at *
  go_loopw [27] (fun i wr => ∃ k, i = .int .i64 (k : Nat) ∧ k ≤ l ∧ (∀ i r, i < k → us[i]? = some r → fits r 6 = true) ∧ (0 < k → nth us 0 = 1) ∧ Below w1.heap.size w1 wr) (fun i _ => l - (intOf i).toNat)
  case atStart => exact ⟨0, rfl, by omega, fun i _ hi => absurd hi (by omega), fun hi => absurd hi (by omega), Below.refl _ _⟩
  case round =>
    obtain ⟨k, rfl, hk, hO, hN, hbl⟩ := hrel
    have hblH := Lib.hid hbl
    have hOH := Lib.hid hO
    have hNH := Lib.hid hN
    clear hO hN
    by_cases hkn : k < l
    · obtain ⟨r, hr⟩ : ∃ r, us[k]? = some r := ⟨_, List.getElem?_eq_getElem (by rw [hqs.out]; omega)⟩
      obtain ⟨b9, o9, p2, rfl, hmr, f0, f1, f2, f3⟩ := (hQ.out.below hbl) k r hr
      have hmrH := Lib.hid (show RM wr p2.a p2.c p2.a' p2.c' r from hmr)
      have hzr := Lib.hid (hzH.out r (List.mem_of_getElem? hr))
      have hrH := Lib.hid hr
      have hkm : (k : Int) < (l : Int) := by omega
      have hb9 : b9 < wr.heap.size := World.block_lt_of_cell? wr _ f0
      clear hmr hbl
      clear hr
      by_cases hf : fits r 6 = true
      · have hfH := Lib.hid hf
        clear hf
        by_cases hk0 : k = 0
        · have hkz : ((k : Int) == 0) = true := by simp; exact hk0
          have hk0H := Lib.hid hk0
          clear hk0
          by_cases hc : rsg r 1 = 0
          · have hcH := Lib.hid hc
            have hN1 : Hid (0 < k + 1 → nth us 0 = 1) := fun _ => by
              have := hrH.out; rw [hk0H.out] at this; unfold nth; rw [this]; exact rsg_eq hcH.out
            clear hc
            go_upto_region 9 with (fail)
            obtain ⟨W, hW⟩ : ∃ W, W = wr.alloc (Obj.cells #[.bool (ng (rn r)), .slice p2.a (LI (rn r)) p2.c, .bool (ng (rd r)), .slice p2.a' (LI (rd r)) p2.c'] 70) := ⟨_, rfl⟩
            obtain ⟨hM, _, z0, z1, z2, z3⟩ := (Box.new wr p2 r 70 hmrH.out).1
            have hbW' : Below wr.heap.size wr W := by rw [hW]; exact (Below.refl _ _).alloc (Nat.le_refl _) _
            have hbW := Lib.hid (bseq hblH.out hbW')
            have hzW : wr.heap.size < W.heap.size := by rw [hW]; simp
            rw [← hW] at hM z0 z1 z2 z3 ⊢
            have hMW := Lib.hid (show RM W p2.a p2.c p2.a' p2.c' r from hM)
            clear hW hM hbW' f0 f1 f2 f3
            go_region_with (first
              | (go_at_call 51; go_loud (with_reducible refine (fits6_b p2.a p2.c p2.a' p2.c' r true _ hfH.out (RM.up hMW.out (Below.refl _ _).drew) hzr.out).mono ?_); rintro e w6 ⟨rfl, hb6⟩; have q6 := Lib.hid (bseq (Below.refl W.heap.size W).drew hb6); have y0 := Below.cellAt q6.out (Nat.le_refl _) z0; have y1 := Below.cellAt q6.out (Nat.le_refl _) z1; have y2 := Below.cellAt q6.out (Nat.le_refl _) z2; have y3 := Below.cellAt q6.out (Nat.le_refl _) z3; have hM6 := Lib.hid (RM.up hMW.out q6.out))
              | (go_at_call 32; go_loud (with_reducible refine (whole_one _).mono ?_); rintro e w7 ⟨a7, d7, a7', d7', rfl, hm7, hb7⟩; have q7 := Lib.hid (bseq q6.out hb7); have x0 := Below.cellAt hb7 (Nat.le_refl _) y0; have x1 := Below.cellAt hb7 (Nat.le_refl _) y1; have x2 := Below.cellAt hb7 (Nat.le_refl _) y2; have x3 := Below.cellAt hb7 (Nat.le_refl _) y3; have hM7 := Lib.hid (RM.up hM6.out hb7))
              | (go_at_call 47; go_loud (with_reducible refine (rcmp_z p2.a p2.c p2.a' p2.c' a7 d7 a7' d7' r 1 0 _ hcH.out hM7.out hm7 hzr.out Sz_one).mono ?_); rintro e w8 ⟨rfl, hb8⟩; have q8 := Lib.hid (bseq q7.out hb8)))
            all_goals go_wp2_with (fail)
            all_goals exact ⟨⟨k + 1, by go_num, by omega, rens_next hOH.out hrH.out hfH.out, hN1.out, bseq hbW.out q8.out⟩, by simp [intOf]; omega⟩
          · obtain ⟨z, hz⟩ : ∃ z, rsg r 1 = z := ⟨_, rfl⟩
            have hzn : (z != 0) = true := by rw [← hz]; simp; exact hc
            have hcH := Lib.hid hz
            clear hc hz
            go_upto_region 9 with (fail)
            obtain ⟨W, hW⟩ : ∃ W, W = wr.alloc (Obj.cells #[.bool (ng (rn r)), .slice p2.a (LI (rn r)) p2.c, .bool (ng (rd r)), .slice p2.a' (LI (rd r)) p2.c'] 70) := ⟨_, rfl⟩
            obtain ⟨hM, _, z0, z1, z2, z3⟩ := (Box.new wr p2 r 70 hmrH.out).1
            have hbW' : Below wr.heap.size wr W := by rw [hW]; exact (Below.refl _ _).alloc (Nat.le_refl _) _
            have hbW := Lib.hid (bseq hblH.out hbW')
            have hzW : wr.heap.size < W.heap.size := by rw [hW]; simp
            rw [← hW] at hM z0 z1 z2 z3 ⊢
            have hMW := Lib.hid (show RM W p2.a p2.c p2.a' p2.c' r from hM)
            clear hW hM hbW' f0 f1 f2 f3
            go_region_with (first
              | (go_at_call 51; go_loud (with_reducible refine (fits6_b p2.a p2.c p2.a' p2.c' r true _ hfH.out (RM.up hMW.out (Below.refl _ _).drew) hzr.out).mono ?_); rintro e w6 ⟨rfl, hb6⟩; have q6 := Lib.hid (bseq (Below.refl W.heap.size W).drew hb6); have y0 := Below.cellAt q6.out (Nat.le_refl _) z0; have y1 := Below.cellAt q6.out (Nat.le_refl _) z1; have y2 := Below.cellAt q6.out (Nat.le_refl _) z2; have y3 := Below.cellAt q6.out (Nat.le_refl _) z3; have hM6 := Lib.hid (RM.up hMW.out q6.out))
              | (go_at_call 32; go_loud (with_reducible refine (whole_one _).mono ?_); rintro e w7 ⟨a7, d7, a7', d7', rfl, hm7, hb7⟩; have q7 := Lib.hid (bseq q6.out hb7); have x0 := Below.cellAt hb7 (Nat.le_refl _) y0; have x1 := Below.cellAt hb7 (Nat.le_refl _) y1; have x2 := Below.cellAt hb7 (Nat.le_refl _) y2; have x3 := Below.cellAt hb7 (Nat.le_refl _) y3; have hM7 := Lib.hid (RM.up hM6.out hb7))
              | (go_at_call 47; go_loud (with_reducible refine (rcmp_z p2.a p2.c p2.a' p2.c' a7 d7 a7' d7' r 1 z _ hcH.out hM7.out hm7 hzr.out Sz_one).mono ?_); rintro e w8 ⟨rfl, hb8⟩; have q8 := Lib.hid (bseq q7.out hb8)))
            all_goals go_wp2_with (fail)
            all_goals go_ret2
            all_goals exact ⟨rfl, bseq (bseq hb1H.out hbW.out) q8.out⟩
        · have hkz : ((k : Int) == 0) = false := by simp; exact hk0
          have hk0H := Lib.hid hk0
          clear hk0
          have hN1 : Hid (0 < k + 1 → nth us 0 = 1) := fun _ => hNH.out (by have := hk0H.out; omega)
          go_upto_region 9 with (fail)
          obtain ⟨W, hW⟩ : ∃ W, W = wr.alloc (Obj.cells #[.bool (ng (rn r)), .slice p2.a (LI (rn r)) p2.c, .bool (ng (rd r)), .slice p2.a' (LI (rd r)) p2.c'] 70) := ⟨_, rfl⟩
          obtain ⟨hM, _, z0, z1, z2, z3⟩ := (Box.new wr p2 r 70 hmrH.out).1
          have hbW' : Below wr.heap.size wr W := by rw [hW]; exact (Below.refl _ _).alloc (Nat.le_refl _) _
          have hbW := Lib.hid (bseq hblH.out hbW')
          have hzW : wr.heap.size < W.heap.size := by rw [hW]; simp
          rw [← hW] at hM z0 z1 z2 z3 ⊢
          have hMW := Lib.hid (show RM W p2.a p2.c p2.a' p2.c' r from hM)
          clear hW hM hbW' f0 f1 f2 f3
          first | (go_region_with (first
            | (go_at_call 51; go_loud (with_reducible refine (fits6_b p2.a p2.c p2.a' p2.c' r true _ hfH.out (RM.up hMW.out (Below.refl _ _).drew) hzr.out).mono ?_); rintro e w6 ⟨rfl, hb6⟩; have q6 := Lib.hid (bseq (Below.refl W.heap.size W).drew hb6); have y0 := Below.cellAt q6.out (Nat.le_refl _) z0; have y1 := Below.cellAt q6.out (Nat.le_refl _) z1; have y2 := Below.cellAt q6.out (Nat.le_refl _) z2; have y3 := Below.cellAt q6.out (Nat.le_refl _) z3; have hM6 := Lib.hid (RM.up hMW.out q6.out)))) | fail
          all_goals go_wp2_with (fail)
          all_goals exact ⟨⟨k + 1, by go_num, by omega, rens_next hOH.out hrH.out hfH.out, hN1.out, bseq hbW.out q6.out⟩, by simp [intOf]; omega⟩
      · have hfH : Hid (fits r 6 = false) := by show _ = _; simpa using hf
        clear hf
        go_upto_region 9 with (fail)
        obtain ⟨W, hW⟩ : ∃ W, W = wr.alloc (Obj.cells #[.bool (ng (rn r)), .slice p2.a (LI (rn r)) p2.c, .bool (ng (rd r)), .slice p2.a' (LI (rd r)) p2.c'] 70) := ⟨_, rfl⟩
        obtain ⟨hM, _, z0, z1, z2, z3⟩ := (Box.new wr p2 r 70 hmrH.out).1
        have hbW' : Below wr.heap.size wr W := by rw [hW]; exact (Below.refl _ _).alloc (Nat.le_refl _) _
        have hbW := Lib.hid (bseq hblH.out hbW')
        have hzW : wr.heap.size < W.heap.size := by rw [hW]; simp
        rw [← hW] at hM z0 z1 z2 z3 ⊢
        have hMW := Lib.hid (show RM W p2.a p2.c p2.a' p2.c' r from hM)
        clear hW hM hbW' f0 f1 f2 f3
        first | (go_region_with (first
          | (go_at_call 51; go_loud (with_reducible refine (fits6_b p2.a p2.c p2.a' p2.c' r false _ hfH.out (RM.up hMW.out (Below.refl _ _).drew) hzr.out).mono ?_); rintro e w6 ⟨rfl, hb6⟩; have q6 := Lib.hid (bseq (Below.refl W.heap.size W).drew hb6); have y0 := Below.cellAt q6.out (Nat.le_refl _) z0; have y1 := Below.cellAt q6.out (Nat.le_refl _) z1; have y2 := Below.cellAt q6.out (Nat.le_refl _) z2; have y3 := Below.cellAt q6.out (Nat.le_refl _) z3; have hM6 := Lib.hid (RM.up hMW.out q6.out)))) | fail
        all_goals go_wp2_with (fail)
        all_goals go_ret2
        all_goals exact ⟨rfl, bseq (bseq hb1H.out hbW.out) q6.out⟩
    · exfalso
      have hke : k = l := by omega
      refine hgH.out ⟨fun q hq => ?_, hNH.out (by omega)⟩
      obtain ⟨i, hi, he⟩ := List.getElem_of_mem hq
      exact hOH.out i q (by rw [hqs.out] at hi; omega) (by rw [List.getElem?_eq_getElem hi, he])

end
end Go.Proofs.Ytcaeonpjokkjnaa
