/- Ui -/
import Derived.Test.YtkecdjdggkpdpaaQUh
set_option linter.unusedVariables false
/- Walk of the program's Proves, of prices in their range. -/
namespace Go.Proofs.Ytkecdjdggkpdpaa
open Go Go.RowKit Go.Proofs

set_option maxRecDepth 100000 in
set_option maxHeartbeats 6400000 in
theorem proves_good (ao aR aK : Option Addr) (c cR cK n : Nat) (C : List (List Int)) (R K : List Int) (s : Int) (b : Bool) (w : World) (h : IMx w ao C) (hg : goodC C) (hn : C.length = n) (hR : IZ w aR R) (hK : IZ w aK K)
    (h1 : rangeB R n = true) (h2 : rangeB K n = true) (hb : provB C n R K s = b) :
    Calls Try.prog 8 #[.slice ao n c, .slice aR n cR, .slice aK n cK, .int .i64 s] w (fun e w' => e = .returned (.tuple #[.bool b, .int .i64 0]) ∧ Below w.heap.size w w') := by
  have hn8 : n ≤ 8 := by rw [← hn]; exact hg.2.1
  have hcb := Lib.hid (show costsB C = true from decide_eq_true hg)
  have hH := Lib.hid h
  have hgH := Lib.hid hg
  have hnH := Lib.hid hn
  have hRH := Lib.hid hR
  have hKH := Lib.hid hK
  have hwR := Lib.hid (wild_any h1).1
  have hwK := Lib.hid (wild_any h2).1
  have hlR := Lib.hid (wild_any h1).2
  have hlK := Lib.hid (wild_any h2).2
  have hrR := Lib.hid (of_decide_eq_true h1).1
  have hrK := Lib.hid (of_decide_eq_true h2).1
  have hbH := Lib.hid hb
  have hsm := Lib.hid (sumRK_small hrR.out hrK.out hlR.out hlK.out)
  have e1B : ((n : Int) != (n : Int)) = false := by simp
  clear h hg hn hR hK h1 h2 hb
  go_enter Try.func8, Try.ntmps8
  go_wp2_with (first
    | (go_at_call 14; (with_reducible refine (valid_any ao c n C true _ hH.out hnH.out (by omega) hcb.out).mono ?_); rintro e w1 ⟨rfl, rfl⟩)
    | (go_at_call 19; (with_reducible refine (containsFuncI_any aR n cR 18 wildB R false _ hRH.out hlR.out (by omega) great_at eg_great hwR.out).mono ?_); rintro e w2 ⟨rfl, rfl⟩)
    | (go_at_call 19; (with_reducible refine (containsFuncI_any aK n cK 18 wildB K false _ hKH.out hlK.out (by omega) great_at eg_great hwK.out).mono ?_); rintro e w2 ⟨rfl, rfl⟩))
  go_loopg [11, 45] n (fun gk sv iv wr => ∃ (i : Nat) (y : Int), sv = .int .i64 y ∧ iv = .int .i64 (i : Nat) ∧ i + gk = n ∧ sumRK R K i = y ∧ (∀ a, a < i → ∀ d, d < n → at0 R a + at0 K d ≤ cst C a d) ∧ Below w.heap.size w wr)
  case atStart => exact ⟨0, 0, rfl, rfl, by omega, rfl, fun a ha => absurd ha (Nat.not_lt_zero _), Below.refl _ _⟩
  case round =>
    obtain ⟨i, y, rfl, rfl, hi, hy, hall, hbl⟩ := hrel
    have hallH := Lib.hid hall
    have hblH := Lib.hid hbl
    have hyH := Lib.hid hy
    have hys := hsm.out i (by omega)
    rw [hy] at hys
    obtain ⟨y1, y2⟩ := hys
    clear hall hbl hy
    by_cases hin : i < n
    · obtain ⟨g1, rfl⟩ : ∃ g1, gk = g1 + 1 := ⟨gk - 1, by omega⟩
      have hiI : (i : Int) < (n : Int) := by omega
      have hi0 : (0 : Int) ≤ (i : Int) := by omega
      obtain ⟨bR, oR, rfl, cRi⟩ := (hRH.out.below hblH.out).at (i := i) (by rw [hlR.out]; exact hin)
      obtain ⟨bK, oK, rfl, cKi⟩ := (hKH.out.below hblH.out).at (i := i) (by rw [hlK.out]; exact hin)
      obtain ⟨b5, o5, b6, o6, c6, hao, f1, hc6, _, _, _⟩ := (hH.out.below hblH.out).cost hgH.out hnH.out hin hin
      have haoH := Lib.hid hao
      subst hao
      obtain ⟨u1, u2⟩ := at0_in hrR.out hlR.out hin
      obtain ⟨v1, v2⟩ := at0_in hrK.out hlK.out hin
      have hss := Lib.hid (sumRK_succ R K i)
      obtain ⟨ri, hri⟩ : ∃ ri, at0 R i = ri := ⟨_, rfl⟩
      obtain ⟨ki, hki⟩ : ∃ ki, at0 K i = ki := ⟨_, rfl⟩
      rw [hri] at cRi u1 u2
      rw [hki] at cKi v1 v2
      have hriH := Lib.hid hri
      have hkiH := Lib.hid hki
      clear hri hki
      have w1 : IntKind.i64.wrap (ri + ki) = ri + ki := by rw [IntKind.wrap_i64]; omega
      have w2 : IntKind.i64.wrap (y + (ri + ki)) = y + (ri + ki) := by rw [IntKind.wrap_i64]; omega
      go_upto_region 10 with (fail)
      go_quiet (fail)
      obtain ⟨W, hW⟩ : ∃ W, W = wr.drewN nq := ⟨_, rfl⟩
      rw [← hW]
      have hbW : Hid (Below w.heap.size w W) := by show Below _ _ _; rw [hW]; exact bdn hblH.out
      have f1H : Hid (wr.cell? ⟨b5, o5 + i, none⟩ = some (.slice (some ⟨b6, o6, none⟩) n c6)) := f1
      clear hW w1 w2 cRi cKi f1
      obtain ⟨t, ht⟩ : ∃ t, y + (ri + ki) = t := ⟨_, rfl⟩
      rw [ht]
      have htH : Hid (sumRK R K (i + 1) = t) := by show _ = _; rw [hss.out, hyH.out, hriH.out, hkiH.out]; exact ht
      clear ht
      go_wp2_with (fail)
      go_loopg [63] n (fun gj jv wx => ∃ j : Nat, jv = .int .i64 (j : Nat) ∧ j + gj = n ∧ (∀ d, d < j → ri + at0 K d ≤ cst C i d) ∧ Below w.heap.size w wx)
      case atStart => exact ⟨0, rfl, by omega, fun d hd => absurd hd (Nat.not_lt_zero _), hbW.out⟩
      case round =>
        clear hbW
        obtain ⟨j, rfl, hj, hrow, hbl⟩ := hrel
        have hrowH := Lib.hid hrow
        have hblH2 := Lib.hid hbl
        clear hrow hbl
        by_cases hjn : j < n
        · obtain ⟨g2, rfl⟩ : ∃ g2, gk = g2 + 1 := ⟨gk - 1, by omega⟩
          have hjI : (j : Int) < (n : Int) := by omega
          have hj0 : (0 : Int) ≤ (j : Int) := by omega
          obtain ⟨bR', oR', haR, cRi⟩ := (hRH.out.below hblH2.out).at (i := i) (by rw [hlR.out]; exact hin)
          obtain ⟨bK', oK', haK, cKj⟩ := (hKH.out.below hblH2.out).at (i := j) (by rw [hlK.out]; exact hjn)
          injection haR with haR
          injection haR with e1 e2
          injection haK with haK
          injection haK with e3 e4
          subst e1 e2 e3 e4
          have f2 : wr.cell? ⟨b6, o6 + j, none⟩ = some (.int .i64 (cst C i j)) ∧ 0 ≤ cst C i j ∧ cst C i j ≤ 1000 := by
            obtain ⟨b7, o7, b8, o8, c8, hao, f3, _, f4, q0, q1⟩ := (hH.out.below hblH2.out).cost hgH.out hnH.out hin hjn
            injection hao with hao
            injection hao with e1 e2
            subst e1 e2
            obtain ⟨b9, o9, b10, o10, c10, hao2, f5, _, _, _, _⟩ := hH.out.cost hgH.out hnH.out hin hjn
            injection hao2 with hao2
            injection hao2 with e1 e2
            subst e1 e2
            have f6 := Below.cellAt hblH2.out (Nat.le_refl _) f5
            have f7 := Below.cellAt hblH.out (Nat.le_refl _) f5
            rw [f3] at f6
            rw [f1H.out] at f7
            injection f6 with f6
            injection f7 with f7
            injection f6 with e1 _ e2
            injection f7 with e3 _ e4
            rw [← e3] at e1
            injection e1 with e1
            injection e1 with e1 e5
            subst e1 e5
            exact ⟨f4, q0, q1⟩
          obtain ⟨f2, q0, q1⟩ := f2
          obtain ⟨v1, v2⟩ := at0_in hrK.out hlK.out hjn
          rw [hriH.out] at cRi
          obtain ⟨kj, hkj⟩ : ∃ kj, at0 K j = kj := ⟨_, rfl⟩
          obtain ⟨p, hp⟩ : ∃ p, cst C i j = p := ⟨_, rfl⟩
          rw [hkj] at cKj v1 v2
          rw [hp] at f2 q0 q1
          have hkjH := Lib.hid hkj
          have hpH := Lib.hid hp
          clear hkj hp
          have w1 : IntKind.i64.wrap (ri + kj) = ri + kj := by rw [IntKind.wrap_i64]; omega
          by_cases hlt : p < ri + kj
          · have hltB : decide (p < ri + kj) = true := by simpa using hlt
            have hno := Lib.hid (provB_no (s := s) hin hjn (show cst C i j < at0 R i + at0 K j by rw [hpH.out, hriH.out, hkjH.out]; exact hlt))
            go_upto_region 14 with (fail)
            go_quiet (fail)
            go_wp2_with (fail)
            go_ret2
            have hf : b = false := hbH.out.symm.trans hno.out
            subst hf
            exact ⟨rfl, bdn hblH2.out⟩
          · have hltB : decide (p < ri + kj) = false := by simpa using hlt
            go_upto_region 14 with (fail)
            go_quiet (fail)
            go_wp2_with (fail)
            go_roundg g2
            case measure => omega
            case rel =>
              refine ⟨j + 1, by go_num, by omega, fun d hd => ?_, bdn hblH2.out⟩
              by_cases e : d = j
              · subst e; rw [hkjH.out, hpH.out]; omega
              · exact hrowH.out d (by omega)
        · have hje : n = j := by omega
          subst hje
          have hjI : ¬ (n : Int) < (n : Int) := by omega
          go_wp2_with (fail)
          go_roundg g1
          case measure => omega
          case rel =>
            refine ⟨i + 1, t, rfl, by go_num, by omega, htH.out, fun a ha d hd => ?_, hblH2.out⟩
            by_cases e : a = i
            · subst e; rw [hriH.out]; exact hrowH.out d hd
            · exact hallH.out a (by omega) d hd
    · have hie : n = i := by omega
      subst hie
      have hiI : ¬ (n : Int) < (n : Int) := by omega
      go_wp2_with (fail)
      go_ret2
      have hf : b = decide (s ≤ y) := by rw [← hbH.out, provB_end hallH.out, hyH.out]
      subst hf
      exact ⟨rfl, hblH.out⟩
end Go.Proofs.Ytkecdjdggkpdpaa
