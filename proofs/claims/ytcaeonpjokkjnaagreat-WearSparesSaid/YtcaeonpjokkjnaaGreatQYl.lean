/- Yl -/
import Derived.Test.YtcaeonpjokkjnaaGreatQRn
import Derived.Test.YtcaeonpjokkjnaaGreatQWs
set_option linter.unusedVariables false
/- Walk of the reference: Costs. (Printed by wip/tools/gen_costs.py.) -/
namespace Go.Proofs.YtcaeonpjokkjnaaGreat
open Go Go.RowKit Go.Proofs

/-- What Costs answers. -/
def costE (ss : List ByteArray) (pl fl : ByteArray) (k : Int) : Prop :=
  (¬ (allOK ss ∧ parseOK pl ∧ parseOK fl) ∧ k = 2) ∨ ((allOK ss ∧ parseOK pl ∧ parseOK fl) ∧ ¬ (livesGood (ss.map parseQ) ∧ costOK (parseQ pl) ∧ costOK (parseQ fl)) ∧ k = 1) ∨
  ((allOK ss ∧ parseOK pl ∧ parseOK fl) ∧ (livesGood (ss.map parseQ) ∧ costOK (parseQ pl) ∧ costOK (parseQ fl)) ∧ k = 0)

set_option maxRecDepth 100000 in
set_option maxHeartbeats 3200000 in
theorem costsR_2 (ao : Option Addr) (c n : Nat) (ss : List ByteArray) (pl fl : ByteArray) (w : World) (hl : ss.length = n) (h : SL w ao ss) (hn1 : n ≤ 1000) (hs : ∀ s ∈ ss, s.size ≤ 40) (hpl : pl.size ≤ 40) (hfl : fl.size ≤ 40) (hbad : ¬ (allOK ss ∧ parseOK pl ∧ parseOK fl)) :
    Calls Tryz.prog 21 #[.slice ao n c, .string pl, .string fl] w (RetNum w 2) := by
  have hH := Lib.hid h
  have hlH := Lib.hid hl
  have hsH := Lib.hid hs
  have hs2 : Hid (∀ s ∈ ss, s.size ≤ 4611686018427387904) := fun s hh => by have := hs s hh; omega
  have hsp : Hid (pl.size ≤ 4611686018427387904) := by show _ ≤ _; omega
  have hsf : Hid (fl.size ≤ 4611686018427387904) := by show _ ≤ _; omega
  clear h hl hs
  by_cases h1 : allOK ss
  · have hnumH := Lib.hid (show (allOK ss ∧ (0 : Int) = 0) ∨ (¬ allOK ss ∧ (0 : Int) = 2) from Or.inl ⟨h1, rfl⟩)
    by_cases h2 : parseOK pl
    · have hv1 := Lib.hid (vok_true h2)
      have h3 : ¬ parseOK fl := fun h => hbad ⟨h1, h2, h⟩
      have hv2 := Lib.hid (vok_false h3)
      clear h1 h2 h3 hbad
      go_enter Tryz.func21, Tryz.ntmps21
      go_wp2_with (first
          | (go_at_call 46; (with_reducible refine (nums_any 0 ao c n ss _ hnumH.out hlH.out hH.out (by omega) hs2.out).mono ?_); rintro e w1 ⟨rfl, hb1⟩; have r1 := Lib.hid hb1; clear hb1)
          | (go_at_call 58; (with_reducible refine (valid_b fl false _ hv2.out hsf.out).mono ?_); rintro e w3 ⟨rfl, hb3⟩; have r3 := Lib.hid (bseqZ r2.out hb3); clear hb3)
          | (go_at_call 58; (with_reducible refine (valid_b pl true _ hv1.out hsp.out).mono ?_); rintro e w2 ⟨rfl, hb2⟩; have r2 := Lib.hid (bseqZ r1.out hb2); clear hb2)
          | (go_at_call 11; (with_reducible refine (livesR_any 0 ao c n ss _ hklH.out hlH.out (hH.out.below r3.out) hn1 hsH.out).mono ?_); rintro e w4 ⟨rfl, hb4⟩; have r4 := Lib.hid (bseqZ r3.out hb4); clear hb4)
          | (go_at_call 47; (with_reducible refine (short_6 fl true _ hsf.out hf2.out).mono ?_); rintro e w6 ⟨rfl, hb6⟩; have r6 := Lib.hid (bseqZ r5.out hb6); clear hb6)
          | (go_at_call 47; (with_reducible refine (short_6 pl true _ hsp.out hf1.out).mono ?_); rintro e w5 ⟨rfl, hb5⟩; have r5 := Lib.hid (bseqZ r4.out hb5); clear hb5)
          | (go_at_call 23; (with_reducible refine (of_any pl _ hok1.out hsp.out).mono ?_); rintro e w7 ⟨a7, d7, a7', d7', rfl, hm7, hb7⟩; have r7 := Lib.hid (bseqZ r6.out hb7); clear hb7 hm7)
          | (go_at_call 23; (with_reducible refine (of_any fl _ hok2.out hsf.out).mono ?_); rintro e w9 ⟨a9, d9, a9', d9', rfl, hm9, hb9⟩; have r9 := Lib.hid (bseqZ r8.out hb9); clear hb9 hm9)
          | (go_at_call 48; (with_reducible refine (zsign_any a9 d9 (rn (parseQ fl)) _).mono ?_); rintro e w10 ⟨rfl, hb10⟩; have r10 := Lib.hid (bseqZ r9.out hb10); clear hb10)
          | (go_at_call 48; (with_reducible refine (zsign_any a7 d7 (rn (parseQ pl)) _).mono ?_); rintro e w8 ⟨rfl, hb8⟩; have r8 := Lib.hid (bseqZ r7.out hb8); clear hb8))
      go_ret
      exact ⟨rfl, r3.out⟩
    · have hv1 := Lib.hid (vok_false h2)
      clear h1 h2 hbad
      go_enter Tryz.func21, Tryz.ntmps21
      go_wp2_with (first
          | (go_at_call 46; (with_reducible refine (nums_any 0 ao c n ss _ hnumH.out hlH.out hH.out (by omega) hs2.out).mono ?_); rintro e w1 ⟨rfl, hb1⟩; have r1 := Lib.hid hb1; clear hb1)
          | (go_at_call 58; (with_reducible refine (valid_b fl true _ hv2.out hsf.out).mono ?_); rintro e w3 ⟨rfl, hb3⟩; have r3 := Lib.hid (bseqZ r2.out hb3); clear hb3)
          | (go_at_call 58; (with_reducible refine (valid_b pl false _ hv1.out hsp.out).mono ?_); rintro e w2 ⟨rfl, hb2⟩; have r2 := Lib.hid (bseqZ r1.out hb2); clear hb2)
          | (go_at_call 11; (with_reducible refine (livesR_any 0 ao c n ss _ hklH.out hlH.out (hH.out.below r3.out) hn1 hsH.out).mono ?_); rintro e w4 ⟨rfl, hb4⟩; have r4 := Lib.hid (bseqZ r3.out hb4); clear hb4)
          | (go_at_call 47; (with_reducible refine (short_6 fl true _ hsf.out hf2.out).mono ?_); rintro e w6 ⟨rfl, hb6⟩; have r6 := Lib.hid (bseqZ r5.out hb6); clear hb6)
          | (go_at_call 47; (with_reducible refine (short_6 pl true _ hsp.out hf1.out).mono ?_); rintro e w5 ⟨rfl, hb5⟩; have r5 := Lib.hid (bseqZ r4.out hb5); clear hb5)
          | (go_at_call 23; (with_reducible refine (of_any pl _ hok1.out hsp.out).mono ?_); rintro e w7 ⟨a7, d7, a7', d7', rfl, hm7, hb7⟩; have r7 := Lib.hid (bseqZ r6.out hb7); clear hb7 hm7)
          | (go_at_call 23; (with_reducible refine (of_any fl _ hok2.out hsf.out).mono ?_); rintro e w9 ⟨a9, d9, a9', d9', rfl, hm9, hb9⟩; have r9 := Lib.hid (bseqZ r8.out hb9); clear hb9 hm9)
          | (go_at_call 48; (with_reducible refine (zsign_any a9 d9 (rn (parseQ fl)) _).mono ?_); rintro e w10 ⟨rfl, hb10⟩; have r10 := Lib.hid (bseqZ r9.out hb10); clear hb10)
          | (go_at_call 48; (with_reducible refine (zsign_any a7 d7 (rn (parseQ pl)) _).mono ?_); rintro e w8 ⟨rfl, hb8⟩; have r8 := Lib.hid (bseqZ r7.out hb8); clear hb8))
      go_ret
      exact ⟨rfl, r2.out⟩
  · have hnumH := Lib.hid (show (allOK ss ∧ (2 : Int) = 0) ∨ (¬ allOK ss ∧ (2 : Int) = 2) from Or.inr ⟨h1, rfl⟩)
    clear h1 hbad
    go_enter Tryz.func21, Tryz.ntmps21
    go_wp2_with (first
        | (go_at_call 46; (with_reducible refine (nums_any 2 ao c n ss _ hnumH.out hlH.out hH.out (by omega) hs2.out).mono ?_); rintro e w1 ⟨rfl, hb1⟩; have r1 := Lib.hid hb1; clear hb1)
        | (go_at_call 58; (with_reducible refine (valid_b fl true _ hv2.out hsf.out).mono ?_); rintro e w3 ⟨rfl, hb3⟩; have r3 := Lib.hid (bseqZ r2.out hb3); clear hb3)
        | (go_at_call 58; (with_reducible refine (valid_b pl true _ hv1.out hsp.out).mono ?_); rintro e w2 ⟨rfl, hb2⟩; have r2 := Lib.hid (bseqZ r1.out hb2); clear hb2)
        | (go_at_call 11; (with_reducible refine (livesR_any 0 ao c n ss _ hklH.out hlH.out (hH.out.below r3.out) hn1 hsH.out).mono ?_); rintro e w4 ⟨rfl, hb4⟩; have r4 := Lib.hid (bseqZ r3.out hb4); clear hb4)
        | (go_at_call 47; (with_reducible refine (short_6 fl true _ hsf.out hf2.out).mono ?_); rintro e w6 ⟨rfl, hb6⟩; have r6 := Lib.hid (bseqZ r5.out hb6); clear hb6)
        | (go_at_call 47; (with_reducible refine (short_6 pl true _ hsp.out hf1.out).mono ?_); rintro e w5 ⟨rfl, hb5⟩; have r5 := Lib.hid (bseqZ r4.out hb5); clear hb5)
        | (go_at_call 23; (with_reducible refine (of_any pl _ hok1.out hsp.out).mono ?_); rintro e w7 ⟨a7, d7, a7', d7', rfl, hm7, hb7⟩; have r7 := Lib.hid (bseqZ r6.out hb7); clear hb7 hm7)
        | (go_at_call 23; (with_reducible refine (of_any fl _ hok2.out hsf.out).mono ?_); rintro e w9 ⟨a9, d9, a9', d9', rfl, hm9, hb9⟩; have r9 := Lib.hid (bseqZ r8.out hb9); clear hb9 hm9)
        | (go_at_call 48; (with_reducible refine (zsign_any a9 d9 (rn (parseQ fl)) _).mono ?_); rintro e w10 ⟨rfl, hb10⟩; have r10 := Lib.hid (bseqZ r9.out hb10); clear hb10)
        | (go_at_call 48; (with_reducible refine (zsign_any a7 d7 (rn (parseQ pl)) _).mono ?_); rintro e w8 ⟨rfl, hb8⟩; have r8 := Lib.hid (bseqZ r7.out hb8); clear hb8))
    go_ret
    exact ⟨rfl, r1.out⟩

set_option maxRecDepth 100000 in
set_option maxHeartbeats 3200000 in
theorem costsR_ok (k : Int) (ao : Option Addr) (c n : Nat) (ss : List ByteArray) (pl fl : ByteArray) (w : World) (hl : ss.length = n) (h : SL w ao ss) (hn1 : n ≤ 1000) (hs : ∀ s ∈ ss, s.size ≤ 40) (hpl : pl.size ≤ 40) (hfl : fl.size ≤ 40) (hok : allOK ss ∧ parseOK pl ∧ parseOK fl)
    (hk : ((livesGood (ss.map parseQ) ∧ costOK (parseQ pl) ∧ costOK (parseQ fl)) ∧ k = 0) ∨ (¬ (livesGood (ss.map parseQ) ∧ costOK (parseQ pl) ∧ costOK (parseQ fl)) ∧ k = 1)) :
    Calls Tryz.prog 21 #[.slice ao n c, .string pl, .string fl] w (RetNum w k) := by
  have hH := Lib.hid h
  have hlH := Lib.hid hl
  have hsH := Lib.hid hs
  have hs2 : Hid (∀ s ∈ ss, s.size ≤ 4611686018427387904) := fun s hh => by have := hs s hh; omega
  have hsp : Hid (pl.size ≤ 4611686018427387904) := by show _ ≤ _; omega
  have hsf : Hid (fl.size ≤ 4611686018427387904) := by show _ ≤ _; omega
  have hnumH := Lib.hid (show (allOK ss ∧ (0 : Int) = 0) ∨ (¬ allOK ss ∧ (0 : Int) = 2) from Or.inl ⟨hok.1, rfl⟩)
  have hv1 := Lib.hid (vok_true hok.2.1)
  have hv2 := Lib.hid (vok_true hok.2.2)
  have hok1 := Lib.hid hok.2.1
  have hok2 := Lib.hid hok.2.2
  have hfld := field_N
  have e1 := Lib.hid (short_fits hok.2.1 (n := 6) (by omega))
  have e2 := Lib.hid (short_fits hok.2.2 (n := 6) (by omega))
  have hbad : Hid (¬ (livesGood (ss.map parseQ) ∧ costOK (parseQ pl) ∧ costOK (parseQ fl)) → k = 1) := fun hh => by
    rcases hk with ⟨h1, _⟩ | ⟨_, h2⟩
    · exact absurd h1 hh
    · exact h2
  have hgood : Hid ((livesGood (ss.map parseQ) ∧ costOK (parseQ pl) ∧ costOK (parseQ fl)) → k = 0) := fun hh => by
    rcases hk with ⟨_, h2⟩ | ⟨h1, _⟩
    · exact h2
    · exact absurd hh h1
  clear h hl hs hk
  by_cases g1 : livesGood (ss.map parseQ)
  · have hklH := Lib.hid (show livesE ss 0 from Or.inr (Or.inr ⟨hok.1, g1, rfl⟩))
    by_cases g2 : fits (parseQ pl) 6 = true
    · have hf1 := Lib.hid (show shortOK pl 6 = true by rw [e1.out]; exact g2)
      by_cases g3 : fits (parseQ fl) 6 = true
      · have hf2 := Lib.hid (show shortOK fl 6 = true by rw [e2.out]; exact g3)
        by_cases g4 : 0 < sg (rn (parseQ pl))
        · have g4' : ¬ sg (rn (parseQ pl)) ≤ 0 := by omega
          by_cases g5 : 0 < sg (rn (parseQ fl))
          · have g5' : ¬ sg (rn (parseQ fl)) ≤ 0 := by omega
            have hk := hgood.out ⟨g1, ⟨g4, g2⟩, ⟨g5, g3⟩⟩
            subst hk
            clear g1 g2 g3 g4 g5 hok hbad hgood
            go_enter Tryz.func21, Tryz.ntmps21
            go_wp2_with (first
                | (go_at_call 46; (with_reducible refine (nums_any 0 ao c n ss _ hnumH.out hlH.out hH.out (by omega) hs2.out).mono ?_); rintro e w1 ⟨rfl, hb1⟩; have r1 := Lib.hid hb1; clear hb1)
                | (go_at_call 58; (with_reducible refine (valid_b fl true _ hv2.out hsf.out).mono ?_); rintro e w3 ⟨rfl, hb3⟩; have r3 := Lib.hid (bseqZ r2.out hb3); clear hb3)
                | (go_at_call 58; (with_reducible refine (valid_b pl true _ hv1.out hsp.out).mono ?_); rintro e w2 ⟨rfl, hb2⟩; have r2 := Lib.hid (bseqZ r1.out hb2); clear hb2)
                | (go_at_call 11; (with_reducible refine (livesR_any 0 ao c n ss _ hklH.out hlH.out (hH.out.below r3.out) hn1 hsH.out).mono ?_); rintro e w4 ⟨rfl, hb4⟩; have r4 := Lib.hid (bseqZ r3.out hb4); clear hb4)
                | (go_at_call 47; (with_reducible refine (short_6 fl true _ hsf.out hf2.out).mono ?_); rintro e w6 ⟨rfl, hb6⟩; have r6 := Lib.hid (bseqZ r5.out hb6); clear hb6)
                | (go_at_call 47; (with_reducible refine (short_6 pl true _ hsp.out hf1.out).mono ?_); rintro e w5 ⟨rfl, hb5⟩; have r5 := Lib.hid (bseqZ r4.out hb5); clear hb5)
                | (go_at_call 23; (with_reducible refine (of_any pl _ hok1.out hsp.out).mono ?_); rintro e w7 ⟨a7, d7, a7', d7', rfl, hm7, hb7⟩; have r7 := Lib.hid (bseqZ r6.out hb7); clear hb7 hm7)
                | (go_at_call 23; (with_reducible refine (of_any fl _ hok2.out hsf.out).mono ?_); rintro e w9 ⟨a9, d9, a9', d9', rfl, hm9, hb9⟩; have r9 := Lib.hid (bseqZ r8.out hb9); clear hb9 hm9)
                | (go_at_call 48; (with_reducible refine (zsign_any a9 d9 (rn (parseQ fl)) _).mono ?_); rintro e w10 ⟨rfl, hb10⟩; have r10 := Lib.hid (bseqZ r9.out hb10); clear hb10)
                | (go_at_call 48; (with_reducible refine (zsign_any a7 d7 (rn (parseQ pl)) _).mono ?_); rintro e w8 ⟨rfl, hb8⟩; have r8 := Lib.hid (bseqZ r7.out hb8); clear hb8))
            go_ret
            exact ⟨rfl, r10.out⟩
          · have g5' : sg (rn (parseQ fl)) ≤ 0 := by omega
            have hk := hbad.out (fun hh => g5 hh.2.2.1)
            subst hk
            clear g1 g2 g3 g4 g5 hok hbad hgood
            go_enter Tryz.func21, Tryz.ntmps21
            go_wp2_with (first
                | (go_at_call 46; (with_reducible refine (nums_any 0 ao c n ss _ hnumH.out hlH.out hH.out (by omega) hs2.out).mono ?_); rintro e w1 ⟨rfl, hb1⟩; have r1 := Lib.hid hb1; clear hb1)
                | (go_at_call 58; (with_reducible refine (valid_b fl true _ hv2.out hsf.out).mono ?_); rintro e w3 ⟨rfl, hb3⟩; have r3 := Lib.hid (bseqZ r2.out hb3); clear hb3)
                | (go_at_call 58; (with_reducible refine (valid_b pl true _ hv1.out hsp.out).mono ?_); rintro e w2 ⟨rfl, hb2⟩; have r2 := Lib.hid (bseqZ r1.out hb2); clear hb2)
                | (go_at_call 11; (with_reducible refine (livesR_any 0 ao c n ss _ hklH.out hlH.out (hH.out.below r3.out) hn1 hsH.out).mono ?_); rintro e w4 ⟨rfl, hb4⟩; have r4 := Lib.hid (bseqZ r3.out hb4); clear hb4)
                | (go_at_call 47; (with_reducible refine (short_6 fl true _ hsf.out hf2.out).mono ?_); rintro e w6 ⟨rfl, hb6⟩; have r6 := Lib.hid (bseqZ r5.out hb6); clear hb6)
                | (go_at_call 47; (with_reducible refine (short_6 pl true _ hsp.out hf1.out).mono ?_); rintro e w5 ⟨rfl, hb5⟩; have r5 := Lib.hid (bseqZ r4.out hb5); clear hb5)
                | (go_at_call 23; (with_reducible refine (of_any pl _ hok1.out hsp.out).mono ?_); rintro e w7 ⟨a7, d7, a7', d7', rfl, hm7, hb7⟩; have r7 := Lib.hid (bseqZ r6.out hb7); clear hb7 hm7)
                | (go_at_call 23; (with_reducible refine (of_any fl _ hok2.out hsf.out).mono ?_); rintro e w9 ⟨a9, d9, a9', d9', rfl, hm9, hb9⟩; have r9 := Lib.hid (bseqZ r8.out hb9); clear hb9 hm9)
                | (go_at_call 48; (with_reducible refine (zsign_any a9 d9 (rn (parseQ fl)) _).mono ?_); rintro e w10 ⟨rfl, hb10⟩; have r10 := Lib.hid (bseqZ r9.out hb10); clear hb10)
                | (go_at_call 48; (with_reducible refine (zsign_any a7 d7 (rn (parseQ pl)) _).mono ?_); rintro e w8 ⟨rfl, hb8⟩; have r8 := Lib.hid (bseqZ r7.out hb8); clear hb8))
            go_ret
            exact ⟨rfl, r10.out⟩
        · have g4' : sg (rn (parseQ pl)) ≤ 0 := by omega
          have hk := hbad.out (fun hh => g4 hh.2.1.1)
          subst hk
          clear g1 g2 g3 g4 hok hbad hgood
          go_enter Tryz.func21, Tryz.ntmps21
          go_wp2_with (first
              | (go_at_call 46; (with_reducible refine (nums_any 0 ao c n ss _ hnumH.out hlH.out hH.out (by omega) hs2.out).mono ?_); rintro e w1 ⟨rfl, hb1⟩; have r1 := Lib.hid hb1; clear hb1)
              | (go_at_call 58; (with_reducible refine (valid_b fl true _ hv2.out hsf.out).mono ?_); rintro e w3 ⟨rfl, hb3⟩; have r3 := Lib.hid (bseqZ r2.out hb3); clear hb3)
              | (go_at_call 58; (with_reducible refine (valid_b pl true _ hv1.out hsp.out).mono ?_); rintro e w2 ⟨rfl, hb2⟩; have r2 := Lib.hid (bseqZ r1.out hb2); clear hb2)
              | (go_at_call 11; (with_reducible refine (livesR_any 0 ao c n ss _ hklH.out hlH.out (hH.out.below r3.out) hn1 hsH.out).mono ?_); rintro e w4 ⟨rfl, hb4⟩; have r4 := Lib.hid (bseqZ r3.out hb4); clear hb4)
              | (go_at_call 47; (with_reducible refine (short_6 fl true _ hsf.out hf2.out).mono ?_); rintro e w6 ⟨rfl, hb6⟩; have r6 := Lib.hid (bseqZ r5.out hb6); clear hb6)
              | (go_at_call 47; (with_reducible refine (short_6 pl true _ hsp.out hf1.out).mono ?_); rintro e w5 ⟨rfl, hb5⟩; have r5 := Lib.hid (bseqZ r4.out hb5); clear hb5)
              | (go_at_call 23; (with_reducible refine (of_any pl _ hok1.out hsp.out).mono ?_); rintro e w7 ⟨a7, d7, a7', d7', rfl, hm7, hb7⟩; have r7 := Lib.hid (bseqZ r6.out hb7); clear hb7 hm7)
              | (go_at_call 23; (with_reducible refine (of_any fl _ hok2.out hsf.out).mono ?_); rintro e w9 ⟨a9, d9, a9', d9', rfl, hm9, hb9⟩; have r9 := Lib.hid (bseqZ r8.out hb9); clear hb9 hm9)
              | (go_at_call 48; (with_reducible refine (zsign_any a9 d9 (rn (parseQ fl)) _).mono ?_); rintro e w10 ⟨rfl, hb10⟩; have r10 := Lib.hid (bseqZ r9.out hb10); clear hb10)
              | (go_at_call 48; (with_reducible refine (zsign_any a7 d7 (rn (parseQ pl)) _).mono ?_); rintro e w8 ⟨rfl, hb8⟩; have r8 := Lib.hid (bseqZ r7.out hb8); clear hb8))
          go_ret
          exact ⟨rfl, r8.out⟩
      · have hf2 := Lib.hid (show shortOK fl 6 = false by rw [e2.out]; simpa using g3)
        have hk := hbad.out (fun hh => g3 hh.2.2.2)
        subst hk
        clear g1 g2 g3 hok hbad hgood
        go_enter Tryz.func21, Tryz.ntmps21
        go_wp2_with (first
            | (go_at_call 46; (with_reducible refine (nums_any 0 ao c n ss _ hnumH.out hlH.out hH.out (by omega) hs2.out).mono ?_); rintro e w1 ⟨rfl, hb1⟩; have r1 := Lib.hid hb1; clear hb1)
            | (go_at_call 58; (with_reducible refine (valid_b fl true _ hv2.out hsf.out).mono ?_); rintro e w3 ⟨rfl, hb3⟩; have r3 := Lib.hid (bseqZ r2.out hb3); clear hb3)
            | (go_at_call 58; (with_reducible refine (valid_b pl true _ hv1.out hsp.out).mono ?_); rintro e w2 ⟨rfl, hb2⟩; have r2 := Lib.hid (bseqZ r1.out hb2); clear hb2)
            | (go_at_call 11; (with_reducible refine (livesR_any 0 ao c n ss _ hklH.out hlH.out (hH.out.below r3.out) hn1 hsH.out).mono ?_); rintro e w4 ⟨rfl, hb4⟩; have r4 := Lib.hid (bseqZ r3.out hb4); clear hb4)
            | (go_at_call 47; (with_reducible refine (short_6 fl false _ hsf.out hf2.out).mono ?_); rintro e w6 ⟨rfl, hb6⟩; have r6 := Lib.hid (bseqZ r5.out hb6); clear hb6)
            | (go_at_call 47; (with_reducible refine (short_6 pl true _ hsp.out hf1.out).mono ?_); rintro e w5 ⟨rfl, hb5⟩; have r5 := Lib.hid (bseqZ r4.out hb5); clear hb5)
            | (go_at_call 23; (with_reducible refine (of_any pl _ hok1.out hsp.out).mono ?_); rintro e w7 ⟨a7, d7, a7', d7', rfl, hm7, hb7⟩; have r7 := Lib.hid (bseqZ r6.out hb7); clear hb7 hm7)
            | (go_at_call 23; (with_reducible refine (of_any fl _ hok2.out hsf.out).mono ?_); rintro e w9 ⟨a9, d9, a9', d9', rfl, hm9, hb9⟩; have r9 := Lib.hid (bseqZ r8.out hb9); clear hb9 hm9)
            | (go_at_call 48; (with_reducible refine (zsign_any a9 d9 (rn (parseQ fl)) _).mono ?_); rintro e w10 ⟨rfl, hb10⟩; have r10 := Lib.hid (bseqZ r9.out hb10); clear hb10)
            | (go_at_call 48; (with_reducible refine (zsign_any a7 d7 (rn (parseQ pl)) _).mono ?_); rintro e w8 ⟨rfl, hb8⟩; have r8 := Lib.hid (bseqZ r7.out hb8); clear hb8))
        go_ret
        exact ⟨rfl, r6.out⟩
    · have hf1 := Lib.hid (show shortOK pl 6 = false by rw [e1.out]; simpa using g2)
      have hk := hbad.out (fun hh => g2 hh.2.1.2)
      subst hk
      clear g1 g2 hok hbad hgood
      go_enter Tryz.func21, Tryz.ntmps21
      go_wp2_with (first
          | (go_at_call 46; (with_reducible refine (nums_any 0 ao c n ss _ hnumH.out hlH.out hH.out (by omega) hs2.out).mono ?_); rintro e w1 ⟨rfl, hb1⟩; have r1 := Lib.hid hb1; clear hb1)
          | (go_at_call 58; (with_reducible refine (valid_b fl true _ hv2.out hsf.out).mono ?_); rintro e w3 ⟨rfl, hb3⟩; have r3 := Lib.hid (bseqZ r2.out hb3); clear hb3)
          | (go_at_call 58; (with_reducible refine (valid_b pl true _ hv1.out hsp.out).mono ?_); rintro e w2 ⟨rfl, hb2⟩; have r2 := Lib.hid (bseqZ r1.out hb2); clear hb2)
          | (go_at_call 11; (with_reducible refine (livesR_any 0 ao c n ss _ hklH.out hlH.out (hH.out.below r3.out) hn1 hsH.out).mono ?_); rintro e w4 ⟨rfl, hb4⟩; have r4 := Lib.hid (bseqZ r3.out hb4); clear hb4)
          | (go_at_call 47; (with_reducible refine (short_6 fl true _ hsf.out hf2.out).mono ?_); rintro e w6 ⟨rfl, hb6⟩; have r6 := Lib.hid (bseqZ r5.out hb6); clear hb6)
          | (go_at_call 47; (with_reducible refine (short_6 pl false _ hsp.out hf1.out).mono ?_); rintro e w5 ⟨rfl, hb5⟩; have r5 := Lib.hid (bseqZ r4.out hb5); clear hb5)
          | (go_at_call 23; (with_reducible refine (of_any pl _ hok1.out hsp.out).mono ?_); rintro e w7 ⟨a7, d7, a7', d7', rfl, hm7, hb7⟩; have r7 := Lib.hid (bseqZ r6.out hb7); clear hb7 hm7)
          | (go_at_call 23; (with_reducible refine (of_any fl _ hok2.out hsf.out).mono ?_); rintro e w9 ⟨a9, d9, a9', d9', rfl, hm9, hb9⟩; have r9 := Lib.hid (bseqZ r8.out hb9); clear hb9 hm9)
          | (go_at_call 48; (with_reducible refine (zsign_any a9 d9 (rn (parseQ fl)) _).mono ?_); rintro e w10 ⟨rfl, hb10⟩; have r10 := Lib.hid (bseqZ r9.out hb10); clear hb10)
          | (go_at_call 48; (with_reducible refine (zsign_any a7 d7 (rn (parseQ pl)) _).mono ?_); rintro e w8 ⟨rfl, hb8⟩; have r8 := Lib.hid (bseqZ r7.out hb8); clear hb8))
      go_ret
      exact ⟨rfl, r5.out⟩
  · have hklH := Lib.hid (show livesE ss 1 from Or.inr (Or.inl ⟨hok.1, g1, rfl⟩))
    have hk := hbad.out (fun hh => g1 hh.1)
    subst hk
    clear g1 hok hbad hgood
    go_enter Tryz.func21, Tryz.ntmps21
    go_wp2_with (first
        | (go_at_call 46; (with_reducible refine (nums_any 0 ao c n ss _ hnumH.out hlH.out hH.out (by omega) hs2.out).mono ?_); rintro e w1 ⟨rfl, hb1⟩; have r1 := Lib.hid hb1; clear hb1)
        | (go_at_call 58; (with_reducible refine (valid_b fl true _ hv2.out hsf.out).mono ?_); rintro e w3 ⟨rfl, hb3⟩; have r3 := Lib.hid (bseqZ r2.out hb3); clear hb3)
        | (go_at_call 58; (with_reducible refine (valid_b pl true _ hv1.out hsp.out).mono ?_); rintro e w2 ⟨rfl, hb2⟩; have r2 := Lib.hid (bseqZ r1.out hb2); clear hb2)
        | (go_at_call 11; (with_reducible refine (livesR_any 1 ao c n ss _ hklH.out hlH.out (hH.out.below r3.out) hn1 hsH.out).mono ?_); rintro e w4 ⟨rfl, hb4⟩; have r4 := Lib.hid (bseqZ r3.out hb4); clear hb4)
        | (go_at_call 47; (with_reducible refine (short_6 fl true _ hsf.out hf2.out).mono ?_); rintro e w6 ⟨rfl, hb6⟩; have r6 := Lib.hid (bseqZ r5.out hb6); clear hb6)
        | (go_at_call 47; (with_reducible refine (short_6 pl true _ hsp.out hf1.out).mono ?_); rintro e w5 ⟨rfl, hb5⟩; have r5 := Lib.hid (bseqZ r4.out hb5); clear hb5)
        | (go_at_call 23; (with_reducible refine (of_any pl _ hok1.out hsp.out).mono ?_); rintro e w7 ⟨a7, d7, a7', d7', rfl, hm7, hb7⟩; have r7 := Lib.hid (bseqZ r6.out hb7); clear hb7 hm7)
        | (go_at_call 23; (with_reducible refine (of_any fl _ hok2.out hsf.out).mono ?_); rintro e w9 ⟨a9, d9, a9', d9', rfl, hm9, hb9⟩; have r9 := Lib.hid (bseqZ r8.out hb9); clear hb9 hm9)
        | (go_at_call 48; (with_reducible refine (zsign_any a9 d9 (rn (parseQ fl)) _).mono ?_); rintro e w10 ⟨rfl, hb10⟩; have r10 := Lib.hid (bseqZ r9.out hb10); clear hb10)
        | (go_at_call 48; (with_reducible refine (zsign_any a7 d7 (rn (parseQ pl)) _).mono ?_); rintro e w8 ⟨rfl, hb8⟩; have r8 := Lib.hid (bseqZ r7.out hb8); clear hb8))
    go_ret
    exact ⟨rfl, r4.out⟩

theorem costsR_any (k : Int) (ao : Option Addr) (c n : Nat) (ss : List ByteArray) (pl fl : ByteArray) (w : World) (hk : costE ss pl fl k) (hl : ss.length = n) (h : SL w ao ss) (hn1 : n ≤ 1000) (hs : ∀ s ∈ ss, s.size ≤ 40) (hpl : pl.size ≤ 40) (hfl : fl.size ≤ 40) :
    Calls Tryz.prog 21 #[.slice ao n c, .string pl, .string fl] w (RetNum w k) := by
  rcases hk with ⟨h1, rfl⟩ | ⟨h1, h2, rfl⟩ | ⟨h1, h2, rfl⟩
  · exact costsR_2 ao c n ss pl fl w hl h hn1 hs hpl hfl h1
  · exact costsR_ok 1 ao c n ss pl fl w hl h hn1 hs hpl hfl h1 (Or.inr ⟨h2, rfl⟩)
  · exact costsR_ok 0 ao c n ss pl fl w hl h hn1 hs hpl hfl h1 (Or.inl ⟨h2, rfl⟩)

end Go.Proofs.YtcaeonpjokkjnaaGreat
