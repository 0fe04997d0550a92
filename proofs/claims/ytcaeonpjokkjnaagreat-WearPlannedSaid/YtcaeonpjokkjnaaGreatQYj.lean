/- Yj -/
import Derived.Test.YtcaeonpjokkjnaaGreatQYi
import Derived.Test.YtcaeonpjokkjnaaGreatQWn
import Derived.Test.YtcaeonpjokkjnaaGreatQWr
set_option linter.unusedVariables false
/- Walk of the reference: Lives. -/
namespace Go.Proofs.YtcaeonpjokkjnaaGreat
open Go Go.RowKit Go.Proofs

theorem field_N (b : Bool) (a : Option Addr) (n c : Nat) (b' : Bool) (a' : Option Addr) (n' c' : Nat) (w : World) : (Instr.field 46 (.agg #[.bool b, .slice a n c, .bool b', .slice a' n' c']) 0).run Tryz.prog w = .ok (.agg #[.bool b, .slice a n c]) w := by kernel_rfl
theorem short_6 (s : ByteArray) (b : Bool) (w : World) (hs : s.size ≤ 4611686018427387904) (hb : shortOK s 6 = b) : Calls Tryz.prog 47 #[.string s, .int .i64 6] w (RetBool w b) := by subst hb; exact short_any s 6 w hs (by omega)
theorem sign_z (a1 : Option Addr) (c1 : Nat) (x z : Int) (w : World) (hz : sg x = z) :
    Calls Tryz.prog 48 #[.agg #[.bool (ng x), .slice a1 (LZ x) c1]] w (RetNum w z) := by subst hz; exact zsign_any a1 c1 x w
theorem cmpq_z (a : Option Addr) (c : Nat) (a' : Option Addr) (c' : Nat) (b : Option Addr) (d : Nat) (b' : Option Addr) (d' : Nat) (n1 d1 n2 d2 z : Int) (w : World) (hz : sg (n1 * d2 - n2 * d1) = z) (h1 : QM w a c a' c' n1 d1) (h2 : QM w b d b' d' n2 d2) (hp : SzQ n1 d1) (hq : SzQ n2 d2) :
    Calls Tryz.prog 24 #[.agg #[Value.bool (ng n1), Value.slice a (LZ n1) c, Value.bool (ng d1), Value.slice a' (LZ d1) c'], .agg #[Value.bool (ng n2), Value.slice b (LZ n2) d, Value.bool (ng d2), Value.slice b' (LZ d2) d']] w (RetNum w z) := by
  subst hz; exact cmpq_any a c a' c' b d b' d' n1 d1 n2 d2 w h1 h2 hp hq
theorem QM.kq {W w' : World} {a a' : Option Addr} {c c' : Nat} {n d : Int} (h : QM W a c a' c' n d) (hk : Kq W w') : QM w' a c a' c' n d := h.up hk.2
theorem sg_cases (x : Int) : sg x = -1 ∨ sg x = 0 ∨ sg x = 1 := by unfold sg; split <;> (try split) <;> simp

/-- A short text's number has short parts. -/
theorem parse_short {s : ByteArray} (h : parseOK s) (hs : s.size ≤ 40) : Short4 (parseQ s) := by
  obtain ⟨a, b⟩ := parse_small h hs
  have e : (rd (parseQ s)).natAbs = (parseQ s).den := by unfold rd; exact Int.natAbs_natCast _
  exact ⟨Nat.lt_of_le_of_lt a (p10_lt (by omega)), by rw [e]; exact Nat.lt_of_le_of_lt b (p10_lt (by omega))⟩
/-- What each of the lives must be. -/
def elOK (q : Rat) : Prop := 0 ≤ sg (rn q) ∧ fits q 6 = true

theorem pq_one {n d : Int} {q : Rat} {B : Nat} (h : PQ n d q B) : sg (n * rd 1 - rn 1 * d) = 0 ↔ rsg q 1 = 0 := by
  rw [rsg_zero]
  have h1 : rd 1 = 1 := rfl
  have h2 : rn 1 = 1 := rfl
  obtain ⟨hd, hq, _, _⟩ := h
  rw [h1, h2]
  have e : sg (n * 1 - 1 * d) = 0 ↔ n = d := by unfold sg; split <;> (try split) <;> omega
  rw [e, ← hq]
  constructor
  · rintro rfl
    have := (Rat.divInt_eq_divInt_iff (n₁ := n) (d₁ := n) (n₂ := 1) (d₂ := 1) (by omega) (by omega)).2 (by omega)
    rw [this]; rfl
  · intro h
    have h3 : Rat.divInt n d = Rat.divInt 1 1 := by rw [h]; rfl
    have := (Rat.divInt_eq_divInt_iff (by omega) (by omega)).1 h3
    omega

set_option maxRecDepth 100000 in
set_option maxHeartbeats 800000 in
theorem livesR_2 (ao : Option Addr) (c n : Nat) (ss : List ByteArray) (w : World) (hl : ss.length = n) (h : SL w ao ss) (hn : n ≤ 1000000000) (hs : ∀ s ∈ ss, s.size ≤ 4611686018427387904) (hbad : ¬ allOK ss) :
    Calls Tryz.prog 11 #[.slice ao n c] w (RetNum w 2) := by
  go_enter Tryz.func11, Tryz.ntmps11
  go_wp2_with (first
    | (go_at_call 46; go_loud (with_reducible refine (nums_any 2 ao c n ss _ (Or.inr ⟨hbad, rfl⟩) hl h hn hs).mono ?_); rintro e w1 ⟨rfl, hb1⟩))
  go_ret
  exact ⟨rfl, hb1⟩

set_option maxRecDepth 100000 in
set_option maxHeartbeats 6400000 in
theorem livesR_ok (k0 : Int) (ao : Option Addr) (c n : Nat) (ss : List ByteArray) (w : World) (hl : ss.length = n) (h : SL w ao ss) (hn : n ≤ 1000) (hs : ∀ s ∈ ss, s.size ≤ 40) (hok : allOK ss)
    (hk : (livesGood (ss.map parseQ) ∧ k0 = 0) ∨ (¬ livesGood (ss.map parseQ) ∧ k0 = 1)) :
    Calls Tryz.prog 11 #[.slice ao n c] w (RetNum w k0) := by
  have hH := Lib.hid h
  have hlH := Lib.hid hl
  have hsH := Lib.hid hs
  have hs2 : Hid (∀ s ∈ ss, s.size ≤ 4611686018427387904) := fun s hh => by have := hs s hh; omega
  have hokH := Lib.hid hok
  have hkH := Lib.hid hk
  have hfld := field_N
  clear h hl hs hok hk
  go_enter Tryz.func11, Tryz.ntmps11
  go_wp2_with (first
    | (go_at_call 46; go_loud (with_reducible refine (nums_any 0 ao c n ss _ (Or.inl ⟨hokH.out, rfl⟩) hlH.out hH.out (by omega) hs2.out).mono ?_); rintro e w1 ⟨rfl, hb1⟩; have hb1H := Lib.hid hb1; clear hb1)
    | (go_at_call 29; go_loud (with_reducible refine (whole0 _).mono ?_); rintro e w3 ⟨a3, c3, a3', c3', rfl, hm3, hb3⟩))
  have hQ0 := Lib.hid (QBox.new hm3)
  have hb3H := Lib.hid (bseqZ hb1H.out hb3)
  have hS3 := Lib.hid (hH.out.below hb3H.out)
  obtain ⟨V3, hV3e⟩ : ∃ V3, V3 = w3.alloc (Obj.cells #[.bool (ng 0), .slice a3 (LZ 0) c3, .bool (ng 1), .slice a3' (LZ 1) c3'] 46) := ⟨_, rfl⟩
  rw [← hV3e] at hQ0 ⊢
  clear hV3e hm3 hb3
  go_loopw [5] (fun i wr => ∃ (j : Nat) (p : RP) (sn sd : Int), i = .int .i64 (j : Nat) ∧ j ≤ n ∧ (∀ (i : Nat) (s : ByteArray), i < j → ss[i]? = some s → elOK (parseQ s)) ∧ QBox w3 wr w3.heap.size p sn sd ∧ PQ sn sd (psum (ss.map parseQ) j) (1 + 1001 * j)) (fun i _ => n - (intOf i).toNat)
  case atStart => exact ⟨0, _, 0, 1, rfl, by omega, fun i s hi => absurd hi (by omega), hQ0.out, by rw [show psum (ss.map parseQ) 0 = 0 by simp [psum]]; exact PQ.zero⟩
  case round =>
    obtain ⟨j, p, sn, sd, rfl, hj, hall, hQ, hPQ⟩ := hrel
    have hQH := Lib.hid hQ
    have hPH := Lib.hid hPQ
    have hallH := Lib.hid hall
    obtain ⟨bm, x0, x1, x2, x3, _, hbw⟩ := hQ
    have hbx := Lib.hid (hb3H.out.trans (hbw.mono hb3H.out.size))
    have hM := Lib.hid (show QM wr p.a p.c p.a' p.c' sn sd from bm)
    clear hPQ bm hall
    by_cases hjn : j < n
    · obtain ⟨s, hs⟩ : ∃ s, ss[j]? = some s := ⟨_, List.getElem?_eq_getElem (by rw [hlH.out]; exact hjn)⟩
      obtain ⟨b, o, rfl, e1⟩ := (hS3.out.below hbw) j s hs
      have hsm := List.mem_of_getElem? hs
      have hss := Lib.hid (hs2.out s hsm)
      have hpo := Lib.hid (hokH.out s hsm)
      have hq4 := Lib.hid (PQ.low (parse_short hpo.out (hsH.out s hsm)))
      have hsf := Lib.hid (short_fits hpo.out (n := 6) (by omega))
      have hmm := Lib.hid (List.mem_map_of_mem (f := parseQ) hsm)
      have hqj := Lib.hid (show (ss.map parseQ)[j]? = some (parseQ s) by rw [List.getElem?_map, hs]; rfl)
      have hsj := Lib.hid hs
      obtain ⟨q, hq⟩ : ∃ q, q = parseQ s := ⟨_, rfl⟩
      have hqH := Lib.hid hq
      rw [← hq] at hq4 hsf hmm hqj
      have hjj : (j : Int) < n := by omega
      have hb0 : Hid (¬ elOK q → k0 = 1) := fun hh => by
        rcases hkH.out with ⟨h1, _⟩ | ⟨_, h2⟩
        · exact absurd (h1.2.2.2.2 q hmm.out) hh
        · exact h2
      clear hbw hs hsm hq
      by_cases hf : fits q 6 = true
      · have hfs := Lib.hid (show shortOK s 6 = true by rw [hsf.out]; exact hf)
        by_cases hg : 0 ≤ sg (rn q)
        · have hg1 : ¬ sg (rn q) < 0 := by omega
          have hel := Lib.hid (show elOK q from ⟨hg, hf⟩)
          have hnx := Lib.hid (psum_next (ss.map parseQ) j q hqj.out)
          have hps := Lib.hid (hPH.out.add hq4.out)
          have hz1 := Lib.hid (hPH.out.szq (by omega))
          have hz2 := Lib.hid (hq4.out.szq (by omega))
          clear hg hf
          go_upto_region 10 with (first
            | (go_at_call 47; go_loud (with_reducible refine (short_6 s true _ hss.out hfs.out).mono ?_); rintro e w4 ⟨rfl, hb4⟩; have e4 := Below.cellAt hb4 (Nat.le_refl _) e1; have hb4H := Lib.hid hb4; clear hb4)
            | (go_at_call 23; go_loud (with_reducible refine (of_any s _ hpo.out hss.out).mono ?_); rintro e w5 ⟨a5, d5, a5', d5', rfl, hm5, hb5⟩; rw [← hqH.out] at hm5; rw [← hqH.out]; have hb5H := Lib.hid (bseqZ hb4H.out hb5); clear hb5 hm5)
            | (go_at_call 48; go_loud (with_reducible refine (zsign_any a5 d5 (rn q) _).mono ?_); rintro e w6 ⟨rfl, hb6⟩; have hb6H := Lib.hid (bseqZ hb5H.out hb6); clear hb6))
          have hQ6 := Lib.hid (hQH.out.step hb6H.out)
          have e6 := Below.cellAt hb6H.out (Nat.le_refl _) e1
          obtain ⟨_, u0, u1, u2, u3, _, _⟩ := hQ6.out
          have hM6 := Lib.hid (hM.out.up hb6H.out)
          clear e1 x0 x1 x2 x3
          go_region_with (first
            | (go_at_call 23; go_loud (with_reducible refine (of_any s _ hpo.out hss.out).mono ?_); rintro e w7 ⟨a7, d7, a7', d7', rfl, hm7, hb7⟩; rw [← hqH.out] at hm7; rw [← hqH.out]; have hQ7 := Lib.hid ((hQ6.out.step (Below.refl _ _).drew).step hb7); have hM7 := Lib.hid (QM.up (QM.up hM6.out (Below.refl _ _).drew) hb7); obtain ⟨_, y0, y1, y2, y3, _, _⟩ := hQ7.out)
            | (go_at_call 30; go_loud (with_reducible refine (addq_any p.a p.c p.a' p.c' a7 d7 a7' d7' sn sd (rn q) (rd q) _ hM7.out hm7 hz1.out hz2.out).mono ?_); rintro e w8 ⟨a8, d8, a8', d8', rfl, hm8, hb8⟩; have hQ8 := Lib.hid (hQ7.out.step hb8); obtain ⟨_, t2, t3, t5, _⟩ := hQ8.out.2.2.2.2.2.1))
          all_goals go_wp2_with (fail)
          all_goals (
            go_roundw
            case rel =>
              refine ⟨j + 1, ⟨a8, d8, a8', d8'⟩, _, _, by go_num, by omega, fun i t hi ht => ?_, hQ8.out.store hm8, by have h := hps.out; rw [hnx.out] at h; exact h.mono (by omega)⟩
              by_cases e : i = j
              · subst e
                have h9 := hsj.out
                rw [ht] at h9
                injection h9 with h9
                rw [h9, ← hqH.out]
                exact hel.out
              · exact hallH.out i t (by omega) ht
            case measure => simp [intOf]; omega)
        · have hg1 : sg (rn q) < 0 := by omega
          have hk1 := Lib.hid (hb0.out fun hh => hg hh.1)
          clear hf hg
          go_wp2_with (first
            | (go_at_call 47; go_loud (with_reducible refine (short_6 s true _ hss.out hfs.out).mono ?_); rintro e w4 ⟨rfl, hb4⟩; have e4 := Below.cellAt hb4 (Nat.le_refl _) e1; have hb4H := Lib.hid hb4; clear hb4)
            | (go_at_call 23; go_loud (with_reducible refine (of_any s _ hpo.out hss.out).mono ?_); rintro e w5 ⟨a5, d5, a5', d5', rfl, hm5, hb5⟩; rw [← hqH.out] at hm5; rw [← hqH.out]; have hb5H := Lib.hid (bseqZ hb4H.out hb5); clear hb5 hm5)
            | (go_at_call 48; go_loud (with_reducible refine (zsign_any a5 d5 (rn q) _).mono ?_); rintro e w6 ⟨rfl, hb6⟩; have hb6H := Lib.hid (bseqZ hb5H.out hb6); clear hb6))
          go_ret
          exact ⟨by rw [hk1.out]; rfl, bseqZ hbx.out hb6H.out⟩
      · have hf2 : fits q 6 = false := by simpa using hf
        have hfs := Lib.hid (show shortOK s 6 = false by rw [hsf.out]; exact hf2)
        have hk1 := Lib.hid (hb0.out fun hh => hf hh.2)
        clear hf hf2
        go_wp2_with (first
          | (go_at_call 47; go_loud (with_reducible refine (short_6 s false _ hss.out hfs.out).mono ?_); rintro e w4 ⟨rfl, hb4⟩))
        go_ret
        exact ⟨by rw [hk1.out]; rfl, bseqZ hbx.out hb4⟩
    · have hjn2 : j = n := by omega
      subst hjn2
      have hjj : ¬ (j : Int) < j := by omega
      by_cases h0 : j = 0
      · have hc1 : (j : Int) < 1 := by omega
        have hk1 : Hid (k0 = 1) := by
          show _ = _
          rcases hkH.out with ⟨h1, _⟩ | ⟨_, h2⟩
          · have := h1.1; rw [List.length_map, hlH.out] at this; omega
          · exact h2
        clear h0 hbw x0 x1 x2 x3
        go_upto_region 11 with (fail)
        go_region
        all_goals go_wp2_with (fail)
        all_goals go_ret
        all_goals exact ⟨by rw [hk1.out]; rfl, hbx.out.drew⟩
      · by_cases h12 : 12 < j
        · have hc1 : ¬ (j : Int) < 1 := by omega
          have hc2 : (12 : Int) < j := by omega
          have hk1 : Hid (k0 = 1) := by
            show _ = _
            rcases hkH.out with ⟨h1, _⟩ | ⟨_, h2⟩
            · have := h1.2.1; rw [List.length_map, hlH.out] at this; omega
            · exact h2
          clear h0 h12 hbw x0 x1 x2 x3
          go_upto_region 11 with (fail)
          go_region
          all_goals go_wp2_with (fail)
          all_goals go_ret
          all_goals exact ⟨by rw [hk1.out]; rfl, hbx.out.drew⟩
        · obtain ⟨m, rfl⟩ : ∃ m, j = m + 1 := ⟨j - 1, by omega⟩
          have hc1 : ¬ ((m : Int) + 1) < 1 := by omega
          have hc2 : ¬ (12 : Int) < (m : Int) + 1 := by omega
          have hc3 : (m : Int) < (m : Int) + 1 := by omega
          have hw1 : IntKind.i64.wrap (m : Int) = (m : Int) := by rw [IntKind.wrap_i64]; omega
          obtain ⟨s, hs⟩ : ∃ s, ss[m]? = some s := ⟨_, List.getElem?_eq_getElem (by rw [hlH.out]; omega)⟩
          obtain ⟨b, o, rfl, e1⟩ := (hS3.out.below hbw) m s hs
          have hsm := List.mem_of_getElem? hs
          have hss := Lib.hid (hs2.out s hsm)
          have hpo := Lib.hid (hokH.out s hsm)
          have hlast : Hid (lastQ (ss.map parseQ) = parseQ s) := by
            show _ = _
            unfold lastQ
            rw [List.length_map, hlH.out, show m + 1 - 1 = m by omega, List.getElem?_map, hs]
            rfl
          have hsum : Hid (psum (ss.map parseQ) (m + 1) = (ss.map parseQ).sum) := by
            show _ = _
            unfold psum
            rw [List.take_of_length_le (by rw [List.length_map, hlH.out]; exact Nat.le_refl _)]
          obtain ⟨q, hq⟩ : ∃ q, q = parseQ s := ⟨_, rfl⟩
          have hqH := Lib.hid hq
          have hz4 := Lib.hid (hPH.out.szq (by omega))
          have hz1 := Lib.hid (show SzQ (rn 1) (rd 1) from ⟨by have := L_12.1; show L B4 1 ≤ _; omega, by have := L_12.1; show L B4 1 ≤ _; omega⟩)
          have hone := Lib.hid (pq_one hPH.out)
          have hels : Hid (∀ q ∈ ss.map parseQ, elOK q) := fun q hq => by
            obtain ⟨t, ht, rfl⟩ := List.mem_map.1 hq
            obtain ⟨i, hi, hit⟩ := List.getElem_of_mem ht
            exact hallH.out i t (by rw [hlH.out] at hi; exact hi) (by rw [List.getElem?_eq_getElem hi, hit])
          have hno1 : Hid (sg (sn * rd 1 - rn 1 * sd) ≠ 0 → k0 = 1) := fun hh => by
            rcases hkH.out with ⟨h1, _⟩ | ⟨_, h2⟩
            · exact absurd (hone.out.2 (by rw [hsum.out]; exact h1.2.2.2.1)) hh
            · exact h2
          have hno2 : Hid (sg (rn q) = 0 → k0 = 1) := fun hh => by
            rcases hkH.out with ⟨h1, _⟩ | ⟨_, h2⟩
            · exact absurd (by rw [hlast.out, ← hqH.out]; exact hh) h1.2.2.1
            · exact h2
          have hyes : Hid (sg (sn * rd 1 - rn 1 * sd) = 0 → sg (rn q) ≠ 0 → k0 = 0) := fun h1 h2 => by
            rcases hkH.out with ⟨_, h3⟩ | ⟨h3, _⟩
            · exact h3
            · refine absurd ⟨?_, ?_, ?_, ?_, hels.out⟩ h3
              · rw [List.length_map, hlH.out]; omega
              · rw [List.length_map, hlH.out]; omega
              · rw [hlast.out, ← hqH.out]; exact h2
              · have := hone.out.1 h1
                rw [hsum.out] at this
                exact this
          have hzb1 := World.block_lt_of_cell? wr _ x0
          have hzb2 := World.block_lt_of_cell? wr _ e1
          simp only [] at hzb1 hzb2
          clear hs hsm hq hbw h0 h12 hkH hlH hsH hs2 hokH hS3 hb3H hQH hPH hallH hlast hsum hone hels hn hj hQ0
          go_upto_region 11 with (fail)
          by_cases hz : sg (sn * rd 1 - rn 1 * sd) = 0
          · have hzH := Lib.hid hz
            clear hz
            go_region_held3 (fun w' => Kq wr w')
              (first | (with_reducible exact Kq.drew _) | (with_reducible exact k7.out) | (with_reducible exact k6.out) | (with_reducible exact k5.out) | (with_reducible exact k4.out) | (with_reducible exact Kq.step (by assumption) (by assumption)))
              (first
              | (go_at_call 29; (with_reducible refine (whole1 _).mono ?_); rintro e w4 ⟨a4, d4, a4', d4', rfl, hm4, hb4⟩; have k4 : Hid (Kq wr w4) := Kq.step (by assumption) hb4)
              | (go_at_call 24; (with_reducible refine (cmpq_z p.a p.c p.a' p.c' a4 d4 a4' d4' sn sd (rn 1) (rd 1) 0 _ hzH.out (QM.kq hM.out k4.out) hm4 hz4.out hz1.out).mono ?_); rintro e w5 ⟨rfl, hb5⟩; have k5 : Hid (Kq wr w5) := Kq.step (by assumption) hb5)
              | (go_at_call 23; (with_reducible refine (of_any s _ hpo.out hss.out).mono ?_); rintro e w6 ⟨a6, d6, a6', d6', rfl, hm6, hb6⟩; rw [← hqH.out]; have k6 : Hid (Kq wr w6) := Kq.step (by assumption) hb6)
              | (go_at_call 48; (with_reducible refine (zsign_any a6 d6 (rn q) _).mono ?_); rintro e w7 ⟨rfl, hb7⟩; have k7 : Hid (Kq wr w7) := Kq.step (by assumption) hb7))
            by_cases hy : sg (rn q) = 0
            · have hk1 := Lib.hid (hno2.out hy)
              have hy2 : (sg (rn q) == 0) = true := by simpa using hy
              go_wp2_with (fail)
              go_ret
              exact ⟨by rw [hk1.out]; rfl, hbx.out.trans (k7.out.2.mono hbx.out.size)⟩
            · have hk1 := Lib.hid (hyes.out hzH.out hy)
              have hy2 : (sg (rn q) == 0) = false := by simpa using hy
              go_wp2_with (fail)
              go_ret
              exact ⟨by rw [hk1.out]; rfl, hbx.out.trans (k7.out.2.mono hbx.out.size)⟩
          · have hk1 := Lib.hid (hno1.out hz)
            obtain ⟨z, hz0⟩ : ∃ z, sg (sn * rd 1 - rn 1 * sd) = z := ⟨_, rfl⟩
            have hzH := Lib.hid hz0
            have hzne : (z != 0) = true := by rw [← hz0]; simpa using hz
            clear hz hz0 hno1 hno2 hyes
            first
            | (go_region_with (first
                | (go_at_call 29; (with_reducible refine (whole1 _).mono ?_); rintro e w4 ⟨a4, d4, a4', d4', rfl, hm4, hb4⟩; have hb4H := Lib.hid (bseqZ (Below.refl wr.heap.size wr).drew hb4); have y0 := Below.cellAt hb4H.out (Nat.le_refl _) x0; have y1 := Below.cellAt hb4H.out (Nat.le_refl _) x1; have y2 := Below.cellAt hb4H.out (Nat.le_refl _) x2; have y3 := Below.cellAt hb4H.out (Nat.le_refl _) x3; have hM4 := Lib.hid (hM.out.up hb4H.out))
                | (go_at_call 24; (with_reducible refine (cmpq_z p.a p.c p.a' p.c' a4 d4 a4' d4' sn sd (rn 1) (rd 1) z _ hzH.out hM4.out hm4 hz4.out hz1.out).mono ?_); rintro e w5 ⟨rfl, hb5⟩; have hb5H := Lib.hid (bseqZ hb4H.out hb5))))
            | fail
            all_goals go_wp2_with (fail)
            all_goals go_ret
            all_goals exact ⟨by rw [hk1.out]; rfl, bseqZ hbx.out hb5H.out⟩

end Go.Proofs.YtcaeonpjokkjnaaGreat
