/- Tn -/
import Derived.Test.YtbehfhmdilifkaaGreatQTl
import Derived.Test.YtbehfhmdilifkaaGreatQWe
import Derived.Test.YtbehfhmdilifkaaGreatQWn
import Derived.Test.YtbehfhmdilifkaaGreatQTo
set_option linter.unusedVariables false
/- Walk of Pell. -/
namespace Go.Proofs.YtbehfhmdilifkaaGreat
open Go Go.RowKit Go.Proofs

theorem zi_lit1 (w : World) (x : Int) (base : Nat) (h : base ≤ w.heap.size) : ZI (w.alloc (Obj.cells #[.int .i64 x] 3)) base (.slice (some ⟨w.heap.size, 0, none⟩) 1 1) [x] :=
  ⟨rfl, .inr ⟨w.heap.size, 1, #[.int .i64 x], rfl, h, World.alloc_heap_new w _, Nat.le_refl _, by unfold maxLen; omega, rfl, rfl⟩⟩
/-- Two boxes are laid. -/
theorem alloc2 {w : World} {n m c c' : Nat} {a a' : Option Addr} (h1 : IM w a c (n : Int)) (h2 : IM w a' c' (m : Int)) :
    PIs ((w.alloc (Obj.cells #[.bool (ng (n : Int)), .slice a (LI (n : Int)) c] 62)).alloc (Obj.cells #[.bool (ng (m : Int)), .slice a' (LI (m : Int)) c'] 62)) w.heap.size n ∧
    PIs ((w.alloc (Obj.cells #[.bool (ng (n : Int)), .slice a (LI (n : Int)) c] 62)).alloc (Obj.cells #[.bool (ng (m : Int)), .slice a' (LI (m : Int)) c'] 62)) (w.heap.size + 1) m ∧
    Below w.heap.size w ((w.alloc (Obj.cells #[.bool (ng (n : Int)), .slice a (LI (n : Int)) c] 62)).alloc (Obj.cells #[.bool (ng (m : Int)), .slice a' (LI (m : Int)) c'] 62)) := by
  have hb : Below w.heap.size w ((w.alloc (Obj.cells #[.bool (ng (n : Int)), .slice a (LI (n : Int)) c] 62)).alloc (Obj.cells #[.bool (ng (m : Int)), .slice a' (LI (m : Int)) c'] 62)) := below_al (below_al (Below.refl _ _) _) _
  have e1 : (w.alloc (Obj.cells #[.bool (ng (n : Int)), .slice a (LI (n : Int)) c] 62)).heap.size = w.heap.size + 1 := by simp
  refine ⟨⟨a, c, ?_, h1.up hb⟩, ⟨a', c', ?_, h2.up hb⟩, hb⟩
  · exact (Below.heap_alloc _ _ _ (by simp)).trans (World.alloc_heap_new w _)
  · have := World.alloc_heap_new (w.alloc (Obj.cells #[.bool (ng (n : Int)), .slice a (LI (n : Int)) c] 62)) (Obj.cells #[.bool (ng (m : Int)), .slice a' (LI (m : Int)) c'] 62)
    rw [e1] at this
    exact this
theorem fromIntN (a : Option Addr) (c n : Nat) (w : World) (h : IM w a c (n : Int)) : Calls Tryz.prog 31 #[.agg #[.bool (ng (n : Int)), .slice a (LI (n : Int)) c]] w (RetRat w (((n : Nat) : Int) : Rat)) := fromInt_any a c (n : Int) w h
/-- The text of a number. -/
theorem RetNumN_of {n : Nat} (h : n < cvB) : ∀ (a : Option Addr) (c : Nat) (a' : Option Addr) (c' : Nat) (w : World), RM w a c a' c' (((n : Nat) : Int) : Rat) →
    Calls Tryz.prog 32 #[.agg #[.bool (ng (rn (((n : Nat) : Int) : Rat))), .slice a (LI (rn (((n : Nat) : Int) : Rat))) c, .bool (ng (rd (((n : Nat) : Int) : Rat))), .slice a' (LI (rd (((n : Nat) : Int) : Rat))) c']] w (RetNumS w (nt (((n : Nat) : Int) : Rat), 0)) := fun a c a' c' w hm => by
  have e1 : rn (((n : Nat) : Int) : Rat) = (n : Int) := by unfold rn; simp
  have e2 : rd (((n : Nat) : Int) : Rat) = 1 := by unfold rd; simp
  have hp : cvB < p10 4000 := Nat.lt_of_lt_of_le (show cvB < p10 101 by decide) (p10_mono (by omega))
  have h1 := rnum_any a c a' c' (((n : Nat) : Int) : Rat) w hm ⟨by rw [e1]; have := LI_cvB h; omega, by rw [e2]; exact Nat.le_trans (LI_cvB (n := 1) (by decide)) (by omega)⟩
  rw [numRes_ok (by rw [e1]; omega) (by rw [e2]; exact Nat.lt_of_lt_of_le (show 1 < p10 101 by decide) (p10_mono (by omega)))] at h1
  exact h1
/-- The sign that is asked for. -/
def sgP (neg : Bool) : Int := if neg then -1 else 1
set_option maxRecDepth 100000 in
set_option maxHeartbeats 12800000 in
theorem pellP_main (d c n L r : Nat) (sg ri ci : Int) (X F : List Nat) (x y : Nat) (w : World) (hrt : ∀ W, Calls Tryz.prog 5 #[.int .i64 (d : Nat)] W (RootPost X n W)) (hL : X.length = L) (hL1 : 1 ≤ L) (hL2 : L ≤ 70) (hn : n ≤ 31) (hr : L % 2 = r) (hri : (r : Int) = ri) (hci : (c : Int) = ci)
    (hc : (c = 1 ∧ F = X) ∨ (c = 2 ∧ F = X ++ X)) (hsg : (sg = 1 ∧ ri = 1 ∧ ci = 2) ∨ (sg = 1 ∧ ri = 0 ∧ ci = 1) ∨ (sg = -1 ∧ ri = 1 ∧ ci = 1)) (hok : allOk (cv0 n) F.dropLast = true) (hx : (cvEnd (cv0 n) F.dropLast).1 = x) (hy : (cvEnd (cv0 n) F.dropLast).2.2.1 = y) :
    Calls Tryz.prog 8 #[.int .i64 (d : Nat), .int .i64 sg] w (fun e w' => e = .returned (.tuple #[.string (nt (((x : Nat) : Int) : Rat)), .string (nt (((y : Nat) : Int) : Rat)), .int .i64 0]) ∧ Below w.heap.size w w') := by
  have hrtH := Lib.hid hrt
  have hLH := Lib.hid hL
  have hokH := Lib.hid hok
  have hxH := Lib.hid hx
  have hyH := Lib.hid hy
  have hcH := Lib.hid hc
  obtain ⟨N, hN⟩ : ∃ N, F.length = N := ⟨_, rfl⟩
  have hNL : L ≤ N ∧ N ≤ 140 := by
    rcases hc with ⟨_, h⟩ | ⟨_, h⟩
    · rw [← hN, h]; omega
    · rw [← hN, h, List.length_append]; omega
  obtain ⟨hN1, hN2⟩ := hNL
  have hNH := Lib.hid hN
  have t1 : ((L : Int)).tmod 2 = ri := by rw [← hri, ← hr]; exact (Int.ofNat_tmod L 2).symm
  have t2 : ((L : Int)) % 2 = ri := by omega
  have hrep : Hid (∀ W g0 cap, IZ W (some ⟨g0, 0, none⟩) (nzT X) → Calls Tryz.prog 27 #[.slice (some ⟨g0, 0, none⟩) L cap, .int .i64 ci] W (RetL W (nzT F))) := fun W g0 cap hI => by
    rw [← hci]
    exact repeatL_any g0 L c cap N (nzT X) (nzT F) W hI (by rw [nzT_length]; exact hL) hL1 (by omega) (by rw [nzT_length]; exact hN) (by
      rcases hc with ⟨h, h2⟩ | ⟨h, h2⟩
      · exact .inl ⟨h, by rw [h2], by rw [← hN, h2, hL]⟩
      · exact .inr ⟨h, by rw [h2]; unfold nzT; rw [List.map_append], by rw [← hN, h2, List.length_append, hL]; omega⟩)
  have hzl : Hid ((nzT F).length = N) := by show _ = _; rw [nzT_length]; exact hN
  clear hrt hL hok hx hy hc hN hr hri hci hcH
  rcases hsg with ⟨rfl, rfl, rfl⟩ | ⟨rfl, rfl, rfl⟩ | ⟨rfl, rfl, rfl⟩
  · go_enter Tryz.func8, Tryz.ntmps8
    go_upto_region 13 with (first
      | (go_at_call 5; go_loud (with_reducible refine (hrtH.out _).mono ?_); rintro e w1 ⟨g, cap, rfl, hcap, hI, hb1⟩; rw [hLH.out] at hcap ⊢; have hIH := Lib.hid hI; have hb1H := Lib.hid hb1; clear hI hb1)
      | (go_at_call 27; go_loud (with_reducible refine (hrep.out _ g cap (hIH.out.below (below_al (Below.refl _ _) _))).mono ?_); rintro e w2 ⟨g2, rfl, hI2, hb2⟩; rw [hzl.out]; have hI2H := Lib.hid hI2; have hb2H := Lib.hid (bseqT hb1H.out (bseqT (below_al (Below.refl _ _) _) hb2)); have hZ2 := Lib.hid ((zi_lit1 w1 (n : Int) w.heap.size hb1H.out.size).below hb2); clear hI2 hb2)
      | (at_builtin; go_loud (refine wpList_append_ze _ rfl (.tmp 53) (.tmp 56) _ rfl Tryz.underlying23 w.heap.size 1 _ [(n : Int)] (by rfl) (.inl hZ2.out) rfl _ N N (nzT F) (by rfl) hI2H.out hzl.out (by omega) (by omega) (by have := hb2H.out.size; omega) ?_); intro v3 w3 hA3; have hA3H := Lib.hid hA3; clear hA3))
    obtain ⟨ga, ca, hva⟩ := hA3H.out.1.some (by simp)
    have hal : Hid (([(n : Int)] ++ nzT F).length = N + 1) := by show _ = _; rw [List.length_append, hzl.out]; simp; omega
    rw [hal.out] at hva
    subst hva
    have hca := hA3H.out.1.iz.2
    have hIa := Lib.hid hA3H.out.1.iz.1
    have hb3 := Lib.hid (hb2H.out.trans hA3H.out.2.1)
    clear hA3H hZ2 hI2H hb2H hIH hb1H hrep hrtH t1 t2
    go_upto_region 14 with (first
      | (go_at_call 28; (with_reducible refine (ofN n _ (by omega)).mono ?_); rintro e w4 ⟨a4, c4, rfl, hm4, hb4⟩; have hm4H := Lib.hid hm4; have hb4H := Lib.hid hb4; clear hm4 hb4)
      | (go_at_call 28; (with_reducible refine (of_one _).mono ?_); rintro e w5 ⟨a5, c5, rfl, hm5, hb5⟩; have hm5H := Lib.hid hm5; have hb5H := Lib.hid hb5; have hm45 := Lib.hid (hm4H.out.up hb5); clear hm5 hb5))
    obtain ⟨V1, hV1⟩ : ∃ V, V = (w5.alloc (Obj.cells #[.bool (ng (n : Int)), .slice a4 (LI (n : Int)) c4] 62)).alloc (Obj.cells #[.bool (ng 1), .slice a5 (LI 1) c5] 62) := ⟨_, rfl⟩
    have x1 : PIs V1 w5.heap.size n := by rw [hV1]; exact (alloc2 (m := 1) hm45.out hm5H.out).1
    have x2 : PIs V1 (w5.heap.size + 1) 1 := by rw [hV1]; exact (alloc2 (m := 1) hm45.out hm5H.out).2.1
    have x3 : Below w5.heap.size w5 V1 := by rw [hV1]; exact (alloc2 (m := 1) hm45.out hm5H.out).2.2
    rw [← hV1]
    have hb1V := Lib.hid (bseqT hb3.out (bseqT hb4H.out (bseqT hb5H.out x3)))
    have hIa1 := Lib.hid (hIa.out.below (bseqT hb4H.out (bseqT hb5H.out x3)))
    have hwV : w.heap.size ≤ w5.heap.size := Nat.le_trans hb3.out.size (Nat.le_trans hb4H.out.size hb5H.out.size)
    obtain ⟨b1, hb1e⟩ : ∃ b, b = w5.heap.size := ⟨_, rfl⟩
    obtain ⟨b2, hb2e⟩ : ∃ b, b = w5.heap.size + 1 := ⟨_, rfl⟩
    rw [← hb1e] at x1
    rw [← hb2e] at x2
    rw [← hb2e, ← hb1e]
    have hb12 : b2 = b1 + 1 := by omega
    have hwb : w.heap.size ≤ b1 := by omega
    have x1H := Lib.hid x1
    have x2H := Lib.hid x2
    have hb12H := Lib.hid hb12
    clear x1 x2 x3 hV1 hm45 hm5H hm4H hb4H hb5H hIa hb3 hb1e hb2e hb12 hwV
    go_upto_region 15 with (first
      | (go_at_call 28; (with_reducible refine (of_one _).mono ?_); rintro e w6 ⟨a6, c6, rfl, hm6, hb6⟩; have hm6H := Lib.hid hm6; have hb6H := Lib.hid hb6; clear hm6 hb6)
      | (go_at_call 28; (with_reducible refine (of_zero _).mono ?_); rintro e w7 ⟨a7, c7, rfl, hm7, hb7⟩; have hm7H := Lib.hid hm7; have hb7H := Lib.hid (bseqT hb6H.out hb7); have hm67 := Lib.hid (hm6H.out.up hb7); clear hm7 hb7))
    obtain ⟨V2, hV2⟩ : ∃ V, V = (w7.alloc (Obj.cells #[.bool (ng 1), .slice a6 (LI 1) c6] 62)).alloc (Obj.cells #[.bool (ng 0), .slice a7 (LI 0) c7] 62) := ⟨_, rfl⟩
    have x3 : PIs V2 w7.heap.size 1 := by rw [hV2]; exact (alloc2 (n := 1) (m := 0) hm67.out hm7H.out).1
    have x4 : PIs V2 (w7.heap.size + 1) 0 := by rw [hV2]; exact (alloc2 (n := 1) (m := 0) hm67.out hm7H.out).2.1
    have x5 : Below w7.heap.size w7 V2 := by rw [hV2]; exact (alloc2 (n := 1) (m := 0) hm67.out hm7H.out).2.2
    rw [← hV2]
    have hbV := Lib.hid (bseqT hb1V.out (bseqT hb7H.out x5))
    have hIaV := Lib.hid (hIa1.out.below (bseqT hb7H.out x5))
    obtain ⟨b3, hb3e⟩ : ∃ b, b = w7.heap.size := ⟨_, rfl⟩
    obtain ⟨b4, hb4e⟩ : ∃ b, b = w7.heap.size + 1 := ⟨_, rfl⟩
    rw [← hb3e] at x3
    rw [← hb4e] at x4
    rw [← hb4e, ← hb3e]
    have hlt1 := x1H.out.lt
    have hlt2 := x2H.out.lt
    have hs7 := hb7H.out.size
    have hP4 : Hid (P4 V2 b1 b2 b3 b4 (cv0 n)) := ⟨x1H.out.below (bseqT hb7H.out x5), x2H.out.below (bseqT hb7H.out x5), x3, x4⟩
    have hN4 : Hid (N4 b1 b2 b3 b4) := by
      have := hb12H.out
      show N4 _ _ _ _
      constructor <;> omega
    have hbs : w.heap.size ≤ b2 ∧ w.heap.size ≤ b3 ∧ w.heap.size ≤ b4 := by have := hb12H.out; omega
    have hbsH := Lib.hid hbs
    clear x3 x4 x5 hV2 hb3e hb4e hlt1 hlt2 hs7 hbs x1H x2H hb12H hb1V hIa1 hb6H hb7H hm6H hm7H hm67
    obtain ⟨M, hM⟩ : ∃ M, N + 1 = M := ⟨_, rfl⟩
    have hM1 : (M : Int) - 1 = (N : Int) := by omega
    have hMc : M ≤ ca := by omega
    rw [hM]
    have hNc : (N : Int) ≤ (ca : Int) := by omega
    have hN0 : (1 : Int) ≤ (N : Int) := by omega
    have hca1 : ¬ ca = 1 := by omega
    have hMH := Lib.hid hM
    clear hM hca
    obtain ⟨l, hl⟩ : ∃ l, F.dropLast = l := ⟨_, rfl⟩
    rw [hl] at hokH hxH hyH
    obtain ⟨T, hT⟩ : ∃ T, N - 1 = T := ⟨_, rfl⟩
    have hll : Hid (l.length = T) := by show _ = _; rw [← hl, List.length_dropLast, hNH.out, hT]
    have hTI : (N : Int) - 1 = (T : Int) := by omega
    have hlI : Hid (IZ V2 (some ⟨ga, 1, none⟩) (nzT l)) := by
      show IZ _ _ _
      have h1 := (hIaV.out.drop 1).take T
      rw [← hl]
      have e1 : (List.drop 1 ([(n : Int)] ++ nzT F)).take T = nzT F.dropLast := by
        rw [List.dropLast_eq_take, hNH.out, hT]
        unfold nzT
        rw [List.map_take]
        rfl
      rw [e1, Nat.zero_add] at h1
      exact h1
    have hTN : T ≤ 140 := by omega
    have hTH := Lib.hid hT
    clear hl hIaV hT hal hzl hNH hcap
    go_wp2_with (fail)
    go_loopw [69] (fun iv wr => ∃ (i : Nat) (t : Cv), iv = .int .i64 (i : Nat) ∧ i ≤ T ∧ P4 wr b1 b2 b3 b4 t ∧ allOk t (l.drop i) = true ∧ cvEnd t (l.drop i) = cvEnd (cv0 n) l ∧ IZ wr (some ⟨ga, 1, none⟩) (nzT l) ∧ Below w.heap.size w wr) (fun iv _ => T - (intOf iv).toNat)
    case atStart => exact ⟨0, cv0 n, rfl, by omega, hP4.out, hokH.out, rfl, hlI.out, hbV.out⟩
    case round =>
      clear hP4 hokH hlI hbV
      obtain ⟨i, ⟨p, e, q, f⟩, rfl, hi, hP, hok, hend, hI, hbl⟩ := hrel
      have hPH := Lib.hid hP
      have hokH := Lib.hid hok
      have hendH := Lib.hid hend
      have hIH := Lib.hid hI
      have hblH := Lib.hid hbl
      clear hP hok hend hI hbl
      by_cases hiT : i < T
      · have hiI : (i : Int) < (T : Int) := by omega
        have hi0 : (0 : Int) ≤ (i : Int) := by omega
        obtain ⟨a, ha⟩ : ∃ a, l[i]? = some a := ⟨_, List.getElem?_eq_getElem (by rw [hll.out]; exact hiT)⟩
        have hdr : l.drop i = a :: l.drop (i + 1) := by
          have h1 := (List.getElem?_eq_some_iff.1 ha)
          rw [List.drop_eq_getElem_cons h1.1, h1.2]
        have hok1 := hokH.out
        have hend1 := hendH.out
        rw [hdr] at hok1 hend1
        unfold allOk at hok1
        simp only [Bool.and_eq_true, decide_eq_true_eq] at hok1
        obtain ⟨⟨hst, ha100⟩, hok2⟩ := hok1
        unfold stOk at hst
        simp only [Bool.and_eq_true, decide_eq_true_eq] at hst
        obtain ⟨⟨⟨hp, he⟩, hq⟩, hf⟩ := hst
        obtain ⟨z1, hz1⟩ : ∃ z, a * p = z := ⟨_, rfl⟩
        obtain ⟨z2, hz2⟩ : ∃ z, z1 + e = z := ⟨_, rfl⟩
        obtain ⟨z3, hz3⟩ : ∃ z, a * q = z := ⟨_, rfl⟩
        obtain ⟨z4, hz4⟩ : ∃ z, z3 + f = z := ⟨_, rfl⟩
        have hstp : cvStep (p, e, q, f) a = (z2, p, z4, q) := by unfold cvStep; simp only [hz1, hz2, hz3, hz4]
        have hok3 := Lib.hid (show allOk (z2, p, z4, q) (l.drop (i + 1)) = true by rw [← hstp]; exact hok2)
        have hend3 := Lib.hid (show cvEnd (z2, p, z4, q) (l.drop (i + 1)) = cvEnd (cv0 n) l by rw [← hend1, ← hstp]; rfl)
        have lp := Lib.hid (LI_cvB hp)
        have le := Lib.hid (LI_cvB he)
        have lq := Lib.hid (LI_cvB hq)
        have lf := Lib.hid (LI_cvB hf)
        have la : Hid (LI (a : Int) ≤ 11) := LI_cvB (Nat.lt_of_le_of_lt ha100 (by decide))
        have lz1 : Hid (LI (z1 : Int) ≤ 40) := by
          show _ ≤ _
          rw [← hz1, Int.natCast_mul]
          have := LI_mul (a : Int) (p : Int)
          have := lp.out
          have := la.out
          omega
        have lz3 : Hid (LI (z3 : Int) ≤ 40) := by
          show _ ≤ _
          rw [← hz3, Int.natCast_mul]
          have := LI_mul (a : Int) (q : Int)
          have := lq.out
          have := la.out
          omega
        have hz1H := Lib.hid hz1
        have hz2H := Lib.hid hz2
        have hz3H := Lib.hid hz3
        have hz4H := Lib.hid hz4
        obtain ⟨bz, oz, haz, cz⟩ := hIH.out.at (i := i) (by rw [nzT_length, hll.out]; exact hiT)
        injection haz with haz
        injection haz with e1 e2
        subst e1 e2
        have hz0 : at0 (nzT l) i = (a : Int) := at0_of (by unfold nzT; rw [List.getElem?_map, ha]; rfl)
        rw [hz0] at cz
        have cz2 : wr.cell? ⟨ga, i + 1, none⟩ = some (.int .i64 (a : Nat)) := by rw [Nat.add_comm i 1]; exact cz
        obtain ⟨ax, cx, hbx, hix⟩ := hPH.out.x
        obtain ⟨ae, ce, hbe, hie⟩ := hPH.out.e
        have hbxH := Lib.hid hbx
        have hbeH := Lib.hid hbe
        have hixH := Lib.hid hix
        have hieH := Lib.hid hie
        have hq0 : wr.cell? ⟨b1, 0, none⟩ = some (.bool (ng (p : Int))) ∧ wr.cell? ⟨b1, 1, none⟩ = some (.slice ax (LI (p : Int)) cx) ∧ wr.cell? ⟨b2, 0, none⟩ = some (.bool (ng (e : Int))) ∧ wr.cell? ⟨b2, 1, none⟩ = some (.slice ae (LI (e : Int)) ce) := ⟨by rw [hbx.cell]; rfl, by rw [hbx.cell]; rfl, by rw [hbe.cell]; rfl, by rw [hbe.cell]; rfl⟩
        have hq0H := Lib.hid hq0
        have hup : Hid (∀ W, Below wr.heap.size wr W → W.cell? ⟨b1, 0, none⟩ = some (.bool (ng (p : Int))) ∧ W.cell? ⟨b1, 1, none⟩ = some (.slice ax (LI (p : Int)) cx) ∧ W.cell? ⟨b2, 0, none⟩ = some (.bool (ng (e : Int))) ∧ W.cell? ⟨b2, 1, none⟩ = some (.slice ae (LI (e : Int)) ce)) := fun W hW =>
          ⟨Below.cellAt hW (Nat.le_refl _) hq0.1, Below.cellAt hW (Nat.le_refl _) hq0.2.1, Below.cellAt hW (Nat.le_refl _) hq0.2.2.1, Below.cellAt hW (Nat.le_refl _) hq0.2.2.2⟩
        have ne12 := hN4.out.n12
        have ne21 := hN4.out.n12.symm
        have hB0 : Below wr.heap.size wr wr := Below.refl _ _
        clear hdr hend1 hok2 hp he hq hf hz1 hz2 hz3 hz4 hstp ha hz0 hbx hbe hix hie hq0
        have hstep1 : Hid (∀ (W V : World) (a6 : Option Addr) (c6 : Nat), Below wr.heap.size wr W → IM W a6 c6 (z2 : Int) → (V = (putI (putI W b1 z2 a6 c6) b2 p ax cx).drew ∨ V = putI (putI W b1 z2 a6 c6) b2 p ax cx) → P4 V b1 b2 b3 b4 (z2, p, q, f) ∧ IZ V (some ⟨ga, 1, none⟩) (nzT l) ∧ Below w.heap.size w V) := by
          intro W V a6 c6 hW hm hV
          have hPW := hPH.out.below hW
          have h1 := hPW.put1 hN4.out hm (hixH.out.up hW)
          have hIW := hIH.out.below hW
          have hIV : IZ (putI (putI W b1 z2 a6 c6) b2 p ax cx) (some ⟨ga, 1, none⟩) (nzT l) := PIs.izPut (PIs.other (m := z2) (a := a6) (c := c6) hPW.x hPW.e ne21) (hPW.x.izPut hIW)
          have hbV : Below w.heap.size w (putI (putI W b1 z2 a6 c6) b2 p ax cx) := putI_below (putI_below (bseqT hblH.out hW) hwb) hbsH.out.1
          rcases hV with rfl | rfl
          · exact ⟨h1.below (Below.drew (Below.refl _ _)), hIV.below (Below.drew (Below.refl _ _)), Below.drew hbV⟩
          · exact ⟨h1, hIV, hbV⟩
        go_upto_region 18 with (fail)
        obtain ⟨k1, k2, k3, k4⟩ := hq0H.out
        -- tail S: fun W => Below wr.heap.size wr W ∧ W.cell? ⟨b1, 0, none⟩ = some (.bool (ng (p : Int))) ∧ W.cell? ⟨b1, 1, none⟩ = some (.slice ax (LI (p : Int)) cx) ∧ W.cell? ⟨b2, 0, none⟩ = some (.bool (ng (e : Int))) ∧ W.cell? ⟨b2, 1, none⟩ = some (.slice ae (LI (e : Int)) ce)
        -- tail s0: ⟨Below.drew hB0, hup.out _ (Below.drew hB0)⟩
        -- arm 1: go_at_call 28; (with_reducible refine (ofN a _ (by omega)).mono ?_); rintro e w4 ⟨a4, c4, rfl, hm4, hb4⟩; have hm4H := Lib.hid hm4; have hq4 : Below wr.heap.size wr w4 := bseqT hHeld.1 hb4
        -- arm 1 s: ⟨hq4, hup.out _ hq4⟩
        -- arm 3: go_at_call 29; (with_reducible refine (mulN3 a4 ax c4 cx a p z1 _ hm4H.out (hixH.out.up hq4) (by have := la.out; omega) (by have := lp.out; omega) hz1H.out).mono ?_); rintro e w5 ⟨a5, c5, rfl, hm5, hb5⟩; have hm5H := Lib.hid hm5; have hq5 : Below wr.heap.size wr w5 := bseqT hq4 hb5
        -- arm 3 s: ⟨hq5, hup.out _ hq5⟩
        -- arm 5: go_at_call 30; (with_reducible refine (addN3 a5 ae c5 ce z1 e z2 _ hm5H.out (hieH.out.up hq5) (by have := lz1.out; omega) (by have := le.out; omega) hz2H.out).mono ?_); rintro e w6 ⟨a6, c6, rfl, hm6, hb6⟩; have hm6H := Lib.hid hm6; have hq6 : Below wr.heap.size wr w6 := bseqT hq5 hb6; have fz1 := Blk.frozen (Blk.later hbxH.out hq6); have fz2 := Blk.frozen (Blk.later hbeH.out hq6)
        -- arm 5 s: ⟨hq6, hup.out _ hq6⟩
        -- tail x 0 2 4 6 c1 c3 c5 t7 t8
        refine wp_region_tail (fun W => Below wr.heap.size wr W ∧ W.cell? ⟨b1, 0, none⟩ = some (.bool (ng (p : Int))) ∧ W.cell? ⟨b1, 1, none⟩ = some (.slice ax (LI (p : Int)) cx) ∧ W.cell? ⟨b2, 0, none⟩ = some (.bool (ng (e : Int))) ∧ W.cell? ⟨b2, 1, none⟩ = some (.slice ae (LI (e : Int)) ce)) (fun j => decide (7 ≤ j)) (by kernel_rfl) (⟨Below.drew hB0, hup.out _ (Below.drew hB0)⟩) (fun hHeld => ?_)
        refine wpAnyT_take (i := 0) (oi := ?oix0) (v := ?vx0) ?hox0 (by kernel_rfl) (by kernel_rfl) (by kernel_rfl) (by kernel_rfl) ?hqx0 (Or.inl ⟨?hwx0, ?hyx0⟩) (by assumption) ?_
        case hox0 => rfl
        case hwx0 => rfl
        case hyx0 => (intro w hSw; (try dsimp only at hSw); go_split_ands; go_simp; (try (with_reducible rfl)))
        case hqx0 => exact fun _ _ _ h => h
        simp only [Act.put, List.getElem_toArray, List.getElem_cons_zero, List.setIfInBounds_toArray, List.set_cons_zero, List.set_cons_succ]
        refine wpAnyT_take (i := 2) (oi := ?oix2) (v := ?vx2) ?hox2 (by kernel_rfl) (by kernel_rfl) (by kernel_rfl) (by kernel_rfl) ?hqx2 (Or.inl ⟨?hwx2, ?hyx2⟩) (by assumption) ?_
        case hox2 => rfl
        case hwx2 => rfl
        case hyx2 => (intro w hSw; (try dsimp only at hSw); go_split_ands; go_simp; (try (with_reducible rfl)))
        case hqx2 => exact fun _ _ _ h => h
        simp only [Act.put, List.getElem_toArray, List.getElem_cons_succ, List.getElem_cons_zero, List.setIfInBounds_toArray, List.set_cons_zero, List.set_cons_succ]
        refine wpAnyT_take (i := 4) (oi := ?oix4) (v := ?vx4) ?hox4 (by kernel_rfl) (by kernel_rfl) (by kernel_rfl) (by kernel_rfl) ?hqx4 (Or.inl ⟨?hwx4, ?hyx4⟩) (by assumption) ?_
        case hox4 => rfl
        case hwx4 => rfl
        case hyx4 => (intro w hSw; (try dsimp only at hSw); go_split_ands; go_simp; (try (with_reducible rfl)))
        case hqx4 => exact fun _ _ _ h => h
        simp only [Act.put, List.getElem_toArray, List.getElem_cons_succ, List.getElem_cons_zero, List.setIfInBounds_toArray, List.set_cons_zero, List.set_cons_succ]
        refine wpAnyT_take (i := 6) (oi := ?oix6) (v := ?vx6) ?hox6 (by kernel_rfl) (by kernel_rfl) (by kernel_rfl) (by kernel_rfl) ?hqx6 (Or.inl ⟨?hwx6, ?hyx6⟩) (by assumption) ?_
        case hox6 => rfl
        case hwx6 => rfl
        case hyx6 => (intro w hSw; (try dsimp only at hSw); go_split_ands; go_simp; (try (with_reducible rfl)))
        case hqx6 => exact fun _ _ _ h => h
        simp only [Act.put, List.getElem_toArray, List.getElem_cons_succ, List.getElem_cons_zero, List.setIfInBounds_toArray, List.set_cons_zero, List.set_cons_succ]
        refine wpAnyT_one (i := 1) (o := ?oix1) (by kernel_rfl) ?hox1 (fun K hK => ?_)
        case hox1 => rfl
        rw [if_pos (by rfl)]
        go_simp
        go_at_call 28; (with_reducible refine (ofN a _ (by omega)).mono ?_); rintro e w4 ⟨a4, c4, rfl, hm4, hb4⟩; have hm4H := Lib.hid hm4; have hq4 : Below wr.heap.size wr w4 := bseqT hHeld.1 hb4
        (try go_wp2_with (fail))
        refine hK.out _ _ (fun _ => ⟨hq4, hup.out _ hq4⟩) (fun hHeld => ?_)
        replace hHeld := hHeld rfl
        clear hK K
        refine wpAnyT_one (i := 3) (o := ?oix3) (by kernel_rfl) ?hox3 (fun K hK => ?_)
        case hox3 => rfl
        rw [if_pos (by rfl)]
        go_simp
        go_at_call 29; (with_reducible refine (mulN3 a4 ax c4 cx a p z1 _ hm4H.out (hixH.out.up hq4) (by have := la.out; omega) (by have := lp.out; omega) hz1H.out).mono ?_); rintro e w5 ⟨a5, c5, rfl, hm5, hb5⟩; have hm5H := Lib.hid hm5; have hq5 : Below wr.heap.size wr w5 := bseqT hq4 hb5
        (try go_wp2_with (fail))
        refine hK.out _ _ (fun _ => ⟨hq5, hup.out _ hq5⟩) (fun hHeld => ?_)
        replace hHeld := hHeld rfl
        clear hK K
        refine wpAnyT_one (i := 5) (o := ?oix5) (by kernel_rfl) ?hox5 (fun K hK => ?_)
        case hox5 => rfl
        rw [if_pos (by rfl)]
        go_simp
        go_at_call 30; (with_reducible refine (addN3 a5 ae c5 ce z1 e z2 _ hm5H.out (hieH.out.up hq5) (by have := lz1.out; omega) (by have := le.out; omega) hz2H.out).mono ?_); rintro e w6 ⟨a6, c6, rfl, hm6, hb6⟩; have hm6H := Lib.hid hm6; have hq6 : Below wr.heap.size wr w6 := bseqT hq5 hb6; have fz1 := Blk.frozen (Blk.later hbxH.out hq6); have fz2 := Blk.frozen (Blk.later hbeH.out hq6)
        (try go_wp2_with (fail))
        refine hK.out _ _ (fun _ => ⟨hq6, hup.out _ hq6⟩) (fun hHeld => ?_)
        replace hHeld := hHeld rfl
        clear hK K
        refine wpAnyT_one (i := 7) (o := ?oix7) (by kernel_rfl) ?hox7 (fun K hK => ?_)
        case hox7 => rfl
        rw [if_pos (by rfl)]
        go_simp
        refine hK.out _ _ (fun h0 => by cases h0) (fun _ => ?_)
        clear hK K
        refine wpAnyT_one (i := 8) (o := ?oix8) (by kernel_rfl) ?hox8 (fun K hK => ?_)
        case hox8 => rfl
        rw [if_pos (by rfl)]
        go_simp
        refine hK.out _ _ (fun h0 => by cases h0) (fun _ => ?_)
        clear hK K
        refine wpAnyT_done (by kernel_rfl) ?_ _
        -- tail end
        obtain ⟨V1, hV1⟩ : ∃ V, V = putI (putI w6 b1 z2 a6 c6) b2 p ax cx := ⟨_, rfl⟩
        have hV1' : (((w6.setCell ⟨b1, 0, none⟩ (.bool (ng (z2 : Int)))).setCell ⟨b1, 1, none⟩ (.slice a6 (LI (z2 : Int)) c6)).setCell ⟨b2, 0, none⟩ (.bool (ng (p : Int)))).setCell ⟨b2, 1, none⟩ (.slice ax (LI (p : Int)) cx) = V1 := hV1.symm
        rw [hV1']
        obtain ⟨hP1, hI1, hbl1⟩ := hstep1.out w6 V1 a6 c6 hq6 hm6H.out (.inr hV1)
        have hP1H := Lib.hid hP1
        have hI1H := Lib.hid hI1
        have hbl1H := Lib.hid hbl1
        clear hV1 hV1' hP1 hI1 hbl1 hstep1 hq4 hq5 hq6 fz1 fz2 hHeld hm4H hm5H hm6H hup k1 k2 k3 k4 hPH hblH hIH hbxH hbeH hixH hieH hz1H hz2H hB0 cz cz2 lz1 le ne12 ne21 hokH hendH
        obtain ⟨ay, cy, hby, hiy⟩ := hP1H.out.y
        obtain ⟨af, cf, hbf, hif⟩ := hP1H.out.f
        have hbyH := Lib.hid hby
        have hbfH := Lib.hid hbf
        have hiyH := Lib.hid hiy
        have hifH := Lib.hid hif
        have hq0 : V1.cell? ⟨b3, 0, none⟩ = some (.bool (ng (q : Int))) ∧ V1.cell? ⟨b3, 1, none⟩ = some (.slice ay (LI (q : Int)) cy) ∧ V1.cell? ⟨b4, 0, none⟩ = some (.bool (ng (f : Int))) ∧ V1.cell? ⟨b4, 1, none⟩ = some (.slice af (LI (f : Int)) cf) := ⟨by rw [hby.cell]; rfl, by rw [hby.cell]; rfl, by rw [hbf.cell]; rfl, by rw [hbf.cell]; rfl⟩
        have hup : Hid (∀ W, Below V1.heap.size V1 W → W.cell? ⟨b3, 0, none⟩ = some (.bool (ng (q : Int))) ∧ W.cell? ⟨b3, 1, none⟩ = some (.slice ay (LI (q : Int)) cy) ∧ W.cell? ⟨b4, 0, none⟩ = some (.bool (ng (f : Int))) ∧ W.cell? ⟨b4, 1, none⟩ = some (.slice af (LI (f : Int)) cf)) := fun W hW =>
          ⟨Below.cellAt hW (Nat.le_refl _) hq0.1, Below.cellAt hW (Nat.le_refl _) hq0.2.1, Below.cellAt hW (Nat.le_refl _) hq0.2.2.1, Below.cellAt hW (Nat.le_refl _) hq0.2.2.2⟩
        have ne34 := hN4.out.n34
        have ne43 := hN4.out.n34.symm
        have hB0 : Below V1.heap.size V1 V1 := Below.refl _ _
        have hstep2 : Hid (∀ (W V : World) (a6 : Option Addr) (c6 : Nat), Below V1.heap.size V1 W → IM W a6 c6 (z4 : Int) → V = putI (putI W b3 z4 a6 c6) b4 q ay cy → P4 V b1 b2 b3 b4 (z2, p, z4, q) ∧ IZ V (some ⟨ga, 1, none⟩) (nzT l) ∧ Below w.heap.size w V) := by
          intro W V a6 c6 hW hm hV
          have hPW := hP1H.out.below hW
          have h1 := hPW.put2 hN4.out hm (hiyH.out.up hW)
          have hIW := hI1H.out.below hW
          have hIV : IZ (putI (putI W b3 z4 a6 c6) b4 q ay cy) (some ⟨ga, 1, none⟩) (nzT l) := PIs.izPut (PIs.other (m := z4) (a := a6) (c := c6) hPW.y hPW.f ne43) (hPW.y.izPut hIW)
          have hbV : Below w.heap.size w (putI (putI W b3 z4 a6 c6) b4 q ay cy) := putI_below (putI_below (bseqT hbl1H.out hW) hbsH.out.2.1) hbsH.out.2.2
          rw [hV]
          exact ⟨h1, hIV, hbV⟩
        clear hby hbf hiy hif
        go_upto_region 19 with (fail)
        obtain ⟨k1, k2, k3, k4⟩ := hq0
        -- tail S: fun W => Below V1.heap.size V1 W ∧ W.cell? ⟨b3, 0, none⟩ = some (.bool (ng (q : Int))) ∧ W.cell? ⟨b3, 1, none⟩ = some (.slice ay (LI (q : Int)) cy) ∧ W.cell? ⟨b4, 0, none⟩ = some (.bool (ng (f : Int))) ∧ W.cell? ⟨b4, 1, none⟩ = some (.slice af (LI (f : Int)) cf)
        -- tail s0: ⟨Below.drew hB0, hup.out _ (Below.drew hB0)⟩
        -- arm 1: go_at_call 28; (with_reducible refine (ofN a _ (by omega)).mono ?_); rintro e w4 ⟨a4, c4, rfl, hm4, hb4⟩; have hm4H := Lib.hid hm4; have hq4 : Below V1.heap.size V1 w4 := bseqT hHeld.1 hb4
        -- arm 1 s: ⟨hq4, hup.out _ hq4⟩
        -- arm 3: go_at_call 29; (with_reducible refine (mulN3 a4 ay c4 cy a q z3 _ hm4H.out (hiyH.out.up hq4) (by have := la.out; omega) (by have := lq.out; omega) hz3H.out).mono ?_); rintro e w5 ⟨a5, c5, rfl, hm5, hb5⟩; have hm5H := Lib.hid hm5; have hq5 : Below V1.heap.size V1 w5 := bseqT hq4 hb5
        -- arm 3 s: ⟨hq5, hup.out _ hq5⟩
        -- arm 5: go_at_call 30; (with_reducible refine (addN3 a5 af c5 cf z3 f z4 _ hm5H.out (hifH.out.up hq5) (by have := lz3.out; omega) (by have := lf.out; omega) hz4H.out).mono ?_); rintro e w6 ⟨a6, c6, rfl, hm6, hb6⟩; have hm6H := Lib.hid hm6; have hq6 : Below V1.heap.size V1 w6 := bseqT hq5 hb6; have fz1 := Blk.frozen (Blk.later hbyH.out hq6); have fz2 := Blk.frozen (Blk.later hbfH.out hq6)
        -- arm 5 s: ⟨hq6, hup.out _ hq6⟩
        -- tail y 0 2 4 6 c1 c3 c5 t7 t8
        refine wp_region_tail (fun W => Below V1.heap.size V1 W ∧ W.cell? ⟨b3, 0, none⟩ = some (.bool (ng (q : Int))) ∧ W.cell? ⟨b3, 1, none⟩ = some (.slice ay (LI (q : Int)) cy) ∧ W.cell? ⟨b4, 0, none⟩ = some (.bool (ng (f : Int))) ∧ W.cell? ⟨b4, 1, none⟩ = some (.slice af (LI (f : Int)) cf)) (fun j => decide (7 ≤ j)) (by kernel_rfl) (⟨Below.drew hB0, hup.out _ (Below.drew hB0)⟩) (fun hHeld => ?_)
        refine wpAnyT_take (i := 0) (oi := ?oiy0) (v := ?vy0) ?hoy0 (by kernel_rfl) (by kernel_rfl) (by kernel_rfl) (by kernel_rfl) ?hqy0 (Or.inl ⟨?hwy0, ?hyy0⟩) (by assumption) ?_
        case hoy0 => rfl
        case hwy0 => rfl
        case hyy0 => (intro w hSw; (try dsimp only at hSw); go_split_ands; go_simp; (try (with_reducible rfl)))
        case hqy0 => exact fun _ _ _ h => h
        simp only [Act.put, List.getElem_toArray, List.getElem_cons_zero, List.setIfInBounds_toArray, List.set_cons_zero, List.set_cons_succ]
        refine wpAnyT_take (i := 2) (oi := ?oiy2) (v := ?vy2) ?hoy2 (by kernel_rfl) (by kernel_rfl) (by kernel_rfl) (by kernel_rfl) ?hqy2 (Or.inl ⟨?hwy2, ?hyy2⟩) (by assumption) ?_
        case hoy2 => rfl
        case hwy2 => rfl
        case hyy2 => (intro w hSw; (try dsimp only at hSw); go_split_ands; go_simp; (try (with_reducible rfl)))
        case hqy2 => exact fun _ _ _ h => h
        simp only [Act.put, List.getElem_toArray, List.getElem_cons_succ, List.getElem_cons_zero, List.setIfInBounds_toArray, List.set_cons_zero, List.set_cons_succ]
        refine wpAnyT_take (i := 4) (oi := ?oiy4) (v := ?vy4) ?hoy4 (by kernel_rfl) (by kernel_rfl) (by kernel_rfl) (by kernel_rfl) ?hqy4 (Or.inl ⟨?hwy4, ?hyy4⟩) (by assumption) ?_
        case hoy4 => rfl
        case hwy4 => rfl
        case hyy4 => (intro w hSw; (try dsimp only at hSw); go_split_ands; go_simp; (try (with_reducible rfl)))
        case hqy4 => exact fun _ _ _ h => h
        simp only [Act.put, List.getElem_toArray, List.getElem_cons_succ, List.getElem_cons_zero, List.setIfInBounds_toArray, List.set_cons_zero, List.set_cons_succ]
        refine wpAnyT_take (i := 6) (oi := ?oiy6) (v := ?vy6) ?hoy6 (by kernel_rfl) (by kernel_rfl) (by kernel_rfl) (by kernel_rfl) ?hqy6 (Or.inl ⟨?hwy6, ?hyy6⟩) (by assumption) ?_
        case hoy6 => rfl
        case hwy6 => rfl
        case hyy6 => (intro w hSw; (try dsimp only at hSw); go_split_ands; go_simp; (try (with_reducible rfl)))
        case hqy6 => exact fun _ _ _ h => h
        simp only [Act.put, List.getElem_toArray, List.getElem_cons_succ, List.getElem_cons_zero, List.setIfInBounds_toArray, List.set_cons_zero, List.set_cons_succ]
        refine wpAnyT_one (i := 1) (o := ?oiy1) (by kernel_rfl) ?hoy1 (fun K hK => ?_)
        case hoy1 => rfl
        rw [if_pos (by rfl)]
        go_simp
        go_at_call 28; (with_reducible refine (ofN a _ (by omega)).mono ?_); rintro e w4 ⟨a4, c4, rfl, hm4, hb4⟩; have hm4H := Lib.hid hm4; have hq4 : Below V1.heap.size V1 w4 := bseqT hHeld.1 hb4
        (try go_wp2_with (fail))
        refine hK.out _ _ (fun _ => ⟨hq4, hup.out _ hq4⟩) (fun hHeld => ?_)
        replace hHeld := hHeld rfl
        clear hK K
        refine wpAnyT_one (i := 3) (o := ?oiy3) (by kernel_rfl) ?hoy3 (fun K hK => ?_)
        case hoy3 => rfl
        rw [if_pos (by rfl)]
        go_simp
        go_at_call 29; (with_reducible refine (mulN3 a4 ay c4 cy a q z3 _ hm4H.out (hiyH.out.up hq4) (by have := la.out; omega) (by have := lq.out; omega) hz3H.out).mono ?_); rintro e w5 ⟨a5, c5, rfl, hm5, hb5⟩; have hm5H := Lib.hid hm5; have hq5 : Below V1.heap.size V1 w5 := bseqT hq4 hb5
        (try go_wp2_with (fail))
        refine hK.out _ _ (fun _ => ⟨hq5, hup.out _ hq5⟩) (fun hHeld => ?_)
        replace hHeld := hHeld rfl
        clear hK K
        refine wpAnyT_one (i := 5) (o := ?oiy5) (by kernel_rfl) ?hoy5 (fun K hK => ?_)
        case hoy5 => rfl
        rw [if_pos (by rfl)]
        go_simp
        go_at_call 30; (with_reducible refine (addN3 a5 af c5 cf z3 f z4 _ hm5H.out (hifH.out.up hq5) (by have := lz3.out; omega) (by have := lf.out; omega) hz4H.out).mono ?_); rintro e w6 ⟨a6, c6, rfl, hm6, hb6⟩; have hm6H := Lib.hid hm6; have hq6 : Below V1.heap.size V1 w6 := bseqT hq5 hb6; have fz1 := Blk.frozen (Blk.later hbyH.out hq6); have fz2 := Blk.frozen (Blk.later hbfH.out hq6)
        (try go_wp2_with (fail))
        refine hK.out _ _ (fun _ => ⟨hq6, hup.out _ hq6⟩) (fun hHeld => ?_)
        replace hHeld := hHeld rfl
        clear hK K
        refine wpAnyT_one (i := 7) (o := ?oiy7) (by kernel_rfl) ?hoy7 (fun K hK => ?_)
        case hoy7 => rfl
        rw [if_pos (by rfl)]
        go_simp
        refine hK.out _ _ (fun h0 => by cases h0) (fun _ => ?_)
        clear hK K
        refine wpAnyT_one (i := 8) (o := ?oiy8) (by kernel_rfl) ?hoy8 (fun K hK => ?_)
        case hoy8 => rfl
        rw [if_pos (by rfl)]
        go_simp
        refine hK.out _ _ (fun h0 => by cases h0) (fun _ => ?_)
        clear hK K
        refine wpAnyT_done (by kernel_rfl) ?_ _
        -- tail end
        obtain ⟨V2, hV2⟩ : ∃ V, V = putI (putI w6 b3 z4 a6 c6) b4 q ay cy := ⟨_, rfl⟩
        have hV2' : (((w6.setCell ⟨b3, 0, none⟩ (.bool (ng (z4 : Int)))).setCell ⟨b3, 1, none⟩ (.slice a6 (LI (z4 : Int)) c6)).setCell ⟨b4, 0, none⟩ (.bool (ng (q : Int)))).setCell ⟨b4, 1, none⟩ (.slice ay (LI (q : Int)) cy) = V2 := hV2.symm
        rw [hV2']
        obtain ⟨hP2, hI2, hbl2⟩ := hstep2.out w6 V2 a6 c6 hq6 hm6H.out hV2
        have hP2H := Lib.hid hP2
        have hI2H := Lib.hid hI2
        have hbl2H := Lib.hid hbl2
        clear hV2 hV2' hP2 hI2 hbl2 hstep2 hq4 hq5 hq6 fz1 fz2 hHeld hm4H hm5H hm6H hup k1 k2 k3 k4 hP1H hbl1H hI1H hbyH hbfH hiyH hifH hB0
        go_wp2_with (fail)
        go_roundw
        case rel => exact ⟨i + 1, (z2, p, z4, q), by go_num, by omega, hP2H.out, hok3.out, hend3.out, hI2H.out, hbl2H.out⟩
        case measure => simp [intOf]; omega
      · obtain rfl : i = T := by omega
        have hdr : l.drop i = [] := List.drop_eq_nil_of_le (by rw [hll.out]; exact Nat.le_refl _)
        have hok1 := hokH.out
        have hend1 := hendH.out
        rw [hdr] at hok1 hend1
        unfold allOk stOk at hok1
        simp only [Bool.and_eq_true, decide_eq_true_eq] at hok1
        obtain ⟨⟨⟨hp, he⟩, hq⟩, hf⟩ := hok1
        have hend2 : (p, e, q, f) = cvEnd (cv0 n) l := hend1
        rw [← hend2] at hxH hyH
        have hpx : p = x := hxH.out
        have hqy : q = y := hyH.out
        subst hpx hqy
        obtain ⟨ax, cx, hbx, hix⟩ := hPH.out.x
        obtain ⟨ay, cy, hby, hiy⟩ := hPH.out.y
        have hixH := Lib.hid hix
        have hiyH := Lib.hid hiy
        have k1 : wr.cell? ⟨b1, 0, none⟩ = some (.bool (ng (p : Int))) := by rw [hbx.cell]; rfl
        have k2 : wr.cell? ⟨b1, 1, none⟩ = some (.slice ax (LI (p : Int)) cx) := by rw [hbx.cell]; rfl
        have k3 : Hid (∀ W, Below wr.heap.size wr W → W.cell? ⟨b3, 0, none⟩ = some (.bool (ng (q : Int))) ∧ W.cell? ⟨b3, 1, none⟩ = some (.slice ay (LI (q : Int)) cy)) := fun W hW => ⟨Below.cellAt hW (Nat.le_refl _) (by rw [hby.cell]; rfl), Below.cellAt hW (Nat.le_refl _) (by rw [hby.cell]; rfl)⟩
        have lx := Lib.hid (RetNumN_of hp)
        have ly := Lib.hid (RetNumN_of hq)
        have hnii : ¬ (i : Int) < (i : Int) := by omega
        clear hdr hend1 hend2 hp he hq hf hxH hyH hokH hendH hiT hi
        go_upto_region 22 with (first
          | (go_at_call 31; (with_reducible refine (fromIntN ax cx p _ hixH.out).mono ?_); rintro e w4 ⟨a4, c4, a5, c5, rfl, hm4, hb4⟩; have hm4H := Lib.hid hm4; have hb4H := Lib.hid hb4; obtain ⟨k5, k6⟩ := k3.out _ hb4; clear hm4 hb4)
          | (go_at_call 32; (with_reducible refine (lx.out _ _ _ _ _ hm4H.out).mono ?_); rintro e w5 ⟨rfl, hb5⟩; have hb5H := Lib.hid (bseqT hb4H.out hb5); obtain ⟨k7, k8⟩ := k3.out _ hb5H.out; clear hb5))
        go_wp2_with (first
          | (go_at_call 31; (with_reducible refine (fromIntN ay cy q _ (hiyH.out.up hb5H.out)).mono ?_); rintro e w6 ⟨a6, c6, a7, c7, rfl, hm6, hb6⟩; have hm6H := Lib.hid hm6; have hb6H := Lib.hid (bseqT hb5H.out hb6); clear hm6 hb6)
          | (go_at_call 32; (with_reducible refine (ly.out _ _ _ _ _ hm6H.out).mono ?_); rintro e w7 ⟨rfl, hb7⟩; have hb7H := Lib.hid (bseqT hb6H.out hb7); clear hb7))
        go_ret3
        exact ⟨rfl, bseqT hblH.out hb7H.out⟩
  · go_enter Tryz.func8, Tryz.ntmps8
    go_upto_region 13 with (first
      | (go_at_call 5; go_loud (with_reducible refine (hrtH.out _).mono ?_); rintro e w1 ⟨g, cap, rfl, hcap, hI, hb1⟩; rw [hLH.out] at hcap ⊢; have hIH := Lib.hid hI; have hb1H := Lib.hid hb1; clear hI hb1)
      | (go_at_call 27; go_loud (with_reducible refine (hrep.out _ g cap (hIH.out.below (below_al (Below.refl _ _) _))).mono ?_); rintro e w2 ⟨g2, rfl, hI2, hb2⟩; rw [hzl.out]; have hI2H := Lib.hid hI2; have hb2H := Lib.hid (bseqT hb1H.out (bseqT (below_al (Below.refl _ _) _) hb2)); have hZ2 := Lib.hid ((zi_lit1 w1 (n : Int) w.heap.size hb1H.out.size).below hb2); clear hI2 hb2)
      | (at_builtin; go_loud (refine wpList_append_ze _ rfl (.tmp 53) (.tmp 56) _ rfl Tryz.underlying23 w.heap.size 1 _ [(n : Int)] (by rfl) (.inl hZ2.out) rfl _ N N (nzT F) (by rfl) hI2H.out hzl.out (by omega) (by omega) (by have := hb2H.out.size; omega) ?_); intro v3 w3 hA3; have hA3H := Lib.hid hA3; clear hA3))
    obtain ⟨ga, ca, hva⟩ := hA3H.out.1.some (by simp)
    have hal : Hid (([(n : Int)] ++ nzT F).length = N + 1) := by show _ = _; rw [List.length_append, hzl.out]; simp; omega
    rw [hal.out] at hva
    subst hva
    have hca := hA3H.out.1.iz.2
    have hIa := Lib.hid hA3H.out.1.iz.1
    have hb3 := Lib.hid (hb2H.out.trans hA3H.out.2.1)
    clear hA3H hZ2 hI2H hb2H hIH hb1H hrep hrtH t1 t2
    go_upto_region 14 with (first
      | (go_at_call 28; (with_reducible refine (ofN n _ (by omega)).mono ?_); rintro e w4 ⟨a4, c4, rfl, hm4, hb4⟩; have hm4H := Lib.hid hm4; have hb4H := Lib.hid hb4; clear hm4 hb4)
      | (go_at_call 28; (with_reducible refine (of_one _).mono ?_); rintro e w5 ⟨a5, c5, rfl, hm5, hb5⟩; have hm5H := Lib.hid hm5; have hb5H := Lib.hid hb5; have hm45 := Lib.hid (hm4H.out.up hb5); clear hm5 hb5))
    obtain ⟨V1, hV1⟩ : ∃ V, V = (w5.alloc (Obj.cells #[.bool (ng (n : Int)), .slice a4 (LI (n : Int)) c4] 62)).alloc (Obj.cells #[.bool (ng 1), .slice a5 (LI 1) c5] 62) := ⟨_, rfl⟩
    have x1 : PIs V1 w5.heap.size n := by rw [hV1]; exact (alloc2 (m := 1) hm45.out hm5H.out).1
    have x2 : PIs V1 (w5.heap.size + 1) 1 := by rw [hV1]; exact (alloc2 (m := 1) hm45.out hm5H.out).2.1
    have x3 : Below w5.heap.size w5 V1 := by rw [hV1]; exact (alloc2 (m := 1) hm45.out hm5H.out).2.2
    rw [← hV1]
    have hb1V := Lib.hid (bseqT hb3.out (bseqT hb4H.out (bseqT hb5H.out x3)))
    have hIa1 := Lib.hid (hIa.out.below (bseqT hb4H.out (bseqT hb5H.out x3)))
    have hwV : w.heap.size ≤ w5.heap.size := Nat.le_trans hb3.out.size (Nat.le_trans hb4H.out.size hb5H.out.size)
    obtain ⟨b1, hb1e⟩ : ∃ b, b = w5.heap.size := ⟨_, rfl⟩
    obtain ⟨b2, hb2e⟩ : ∃ b, b = w5.heap.size + 1 := ⟨_, rfl⟩
    rw [← hb1e] at x1
    rw [← hb2e] at x2
    rw [← hb2e, ← hb1e]
    have hb12 : b2 = b1 + 1 := by omega
    have hwb : w.heap.size ≤ b1 := by omega
    have x1H := Lib.hid x1
    have x2H := Lib.hid x2
    have hb12H := Lib.hid hb12
    clear x1 x2 x3 hV1 hm45 hm5H hm4H hb4H hb5H hIa hb3 hb1e hb2e hb12 hwV
    go_upto_region 15 with (first
      | (go_at_call 28; (with_reducible refine (of_one _).mono ?_); rintro e w6 ⟨a6, c6, rfl, hm6, hb6⟩; have hm6H := Lib.hid hm6; have hb6H := Lib.hid hb6; clear hm6 hb6)
      | (go_at_call 28; (with_reducible refine (of_zero _).mono ?_); rintro e w7 ⟨a7, c7, rfl, hm7, hb7⟩; have hm7H := Lib.hid hm7; have hb7H := Lib.hid (bseqT hb6H.out hb7); have hm67 := Lib.hid (hm6H.out.up hb7); clear hm7 hb7))
    obtain ⟨V2, hV2⟩ : ∃ V, V = (w7.alloc (Obj.cells #[.bool (ng 1), .slice a6 (LI 1) c6] 62)).alloc (Obj.cells #[.bool (ng 0), .slice a7 (LI 0) c7] 62) := ⟨_, rfl⟩
    have x3 : PIs V2 w7.heap.size 1 := by rw [hV2]; exact (alloc2 (n := 1) (m := 0) hm67.out hm7H.out).1
    have x4 : PIs V2 (w7.heap.size + 1) 0 := by rw [hV2]; exact (alloc2 (n := 1) (m := 0) hm67.out hm7H.out).2.1
    have x5 : Below w7.heap.size w7 V2 := by rw [hV2]; exact (alloc2 (n := 1) (m := 0) hm67.out hm7H.out).2.2
    rw [← hV2]
    have hbV := Lib.hid (bseqT hb1V.out (bseqT hb7H.out x5))
    have hIaV := Lib.hid (hIa1.out.below (bseqT hb7H.out x5))
    obtain ⟨b3, hb3e⟩ : ∃ b, b = w7.heap.size := ⟨_, rfl⟩
    obtain ⟨b4, hb4e⟩ : ∃ b, b = w7.heap.size + 1 := ⟨_, rfl⟩
    rw [← hb3e] at x3
    rw [← hb4e] at x4
    rw [← hb4e, ← hb3e]
    have hlt1 := x1H.out.lt
    have hlt2 := x2H.out.lt
    have hs7 := hb7H.out.size
    have hP4 : Hid (P4 V2 b1 b2 b3 b4 (cv0 n)) := ⟨x1H.out.below (bseqT hb7H.out x5), x2H.out.below (bseqT hb7H.out x5), x3, x4⟩
    have hN4 : Hid (N4 b1 b2 b3 b4) := by
      have := hb12H.out
      show N4 _ _ _ _
      constructor <;> omega
    have hbs : w.heap.size ≤ b2 ∧ w.heap.size ≤ b3 ∧ w.heap.size ≤ b4 := by have := hb12H.out; omega
    have hbsH := Lib.hid hbs
    clear x3 x4 x5 hV2 hb3e hb4e hlt1 hlt2 hs7 hbs x1H x2H hb12H hb1V hIa1 hb6H hb7H hm6H hm7H hm67
    obtain ⟨M, hM⟩ : ∃ M, N + 1 = M := ⟨_, rfl⟩
    have hM1 : (M : Int) - 1 = (N : Int) := by omega
    have hMc : M ≤ ca := by omega
    rw [hM]
    have hNc : (N : Int) ≤ (ca : Int) := by omega
    have hN0 : (1 : Int) ≤ (N : Int) := by omega
    have hca1 : ¬ ca = 1 := by omega
    have hMH := Lib.hid hM
    clear hM hca
    obtain ⟨l, hl⟩ : ∃ l, F.dropLast = l := ⟨_, rfl⟩
    rw [hl] at hokH hxH hyH
    obtain ⟨T, hT⟩ : ∃ T, N - 1 = T := ⟨_, rfl⟩
    have hll : Hid (l.length = T) := by show _ = _; rw [← hl, List.length_dropLast, hNH.out, hT]
    have hTI : (N : Int) - 1 = (T : Int) := by omega
    have hlI : Hid (IZ V2 (some ⟨ga, 1, none⟩) (nzT l)) := by
      show IZ _ _ _
      have h1 := (hIaV.out.drop 1).take T
      rw [← hl]
      have e1 : (List.drop 1 ([(n : Int)] ++ nzT F)).take T = nzT F.dropLast := by
        rw [List.dropLast_eq_take, hNH.out, hT]
        unfold nzT
        rw [List.map_take]
        rfl
      rw [e1, Nat.zero_add] at h1
      exact h1
    have hTN : T ≤ 140 := by omega
    have hTH := Lib.hid hT
    clear hl hIaV hT hal hzl hNH hcap
    go_wp2_with (fail)
    go_loopw [69] (fun iv wr => ∃ (i : Nat) (t : Cv), iv = .int .i64 (i : Nat) ∧ i ≤ T ∧ P4 wr b1 b2 b3 b4 t ∧ allOk t (l.drop i) = true ∧ cvEnd t (l.drop i) = cvEnd (cv0 n) l ∧ IZ wr (some ⟨ga, 1, none⟩) (nzT l) ∧ Below w.heap.size w wr) (fun iv _ => T - (intOf iv).toNat)
    case atStart => exact ⟨0, cv0 n, rfl, by omega, hP4.out, hokH.out, rfl, hlI.out, hbV.out⟩
    case round =>
      clear hP4 hokH hlI hbV
      obtain ⟨i, ⟨p, e, q, f⟩, rfl, hi, hP, hok, hend, hI, hbl⟩ := hrel
      have hPH := Lib.hid hP
      have hokH := Lib.hid hok
      have hendH := Lib.hid hend
      have hIH := Lib.hid hI
      have hblH := Lib.hid hbl
      clear hP hok hend hI hbl
      by_cases hiT : i < T
      · have hiI : (i : Int) < (T : Int) := by omega
        have hi0 : (0 : Int) ≤ (i : Int) := by omega
        obtain ⟨a, ha⟩ : ∃ a, l[i]? = some a := ⟨_, List.getElem?_eq_getElem (by rw [hll.out]; exact hiT)⟩
        have hdr : l.drop i = a :: l.drop (i + 1) := by
          have h1 := (List.getElem?_eq_some_iff.1 ha)
          rw [List.drop_eq_getElem_cons h1.1, h1.2]
        have hok1 := hokH.out
        have hend1 := hendH.out
        rw [hdr] at hok1 hend1
        unfold allOk at hok1
        simp only [Bool.and_eq_true, decide_eq_true_eq] at hok1
        obtain ⟨⟨hst, ha100⟩, hok2⟩ := hok1
        unfold stOk at hst
        simp only [Bool.and_eq_true, decide_eq_true_eq] at hst
        obtain ⟨⟨⟨hp, he⟩, hq⟩, hf⟩ := hst
        obtain ⟨z1, hz1⟩ : ∃ z, a * p = z := ⟨_, rfl⟩
        obtain ⟨z2, hz2⟩ : ∃ z, z1 + e = z := ⟨_, rfl⟩
        obtain ⟨z3, hz3⟩ : ∃ z, a * q = z := ⟨_, rfl⟩
        obtain ⟨z4, hz4⟩ : ∃ z, z3 + f = z := ⟨_, rfl⟩
        have hstp : cvStep (p, e, q, f) a = (z2, p, z4, q) := by unfold cvStep; simp only [hz1, hz2, hz3, hz4]
        have hok3 := Lib.hid (show allOk (z2, p, z4, q) (l.drop (i + 1)) = true by rw [← hstp]; exact hok2)
        have hend3 := Lib.hid (show cvEnd (z2, p, z4, q) (l.drop (i + 1)) = cvEnd (cv0 n) l by rw [← hend1, ← hstp]; rfl)
        have lp := Lib.hid (LI_cvB hp)
        have le := Lib.hid (LI_cvB he)
        have lq := Lib.hid (LI_cvB hq)
        have lf := Lib.hid (LI_cvB hf)
        have la : Hid (LI (a : Int) ≤ 11) := LI_cvB (Nat.lt_of_le_of_lt ha100 (by decide))
        have lz1 : Hid (LI (z1 : Int) ≤ 40) := by
          show _ ≤ _
          rw [← hz1, Int.natCast_mul]
          have := LI_mul (a : Int) (p : Int)
          have := lp.out
          have := la.out
          omega
        have lz3 : Hid (LI (z3 : Int) ≤ 40) := by
          show _ ≤ _
          rw [← hz3, Int.natCast_mul]
          have := LI_mul (a : Int) (q : Int)
          have := lq.out
          have := la.out
          omega
        have hz1H := Lib.hid hz1
        have hz2H := Lib.hid hz2
        have hz3H := Lib.hid hz3
        have hz4H := Lib.hid hz4
        obtain ⟨bz, oz, haz, cz⟩ := hIH.out.at (i := i) (by rw [nzT_length, hll.out]; exact hiT)
        injection haz with haz
        injection haz with e1 e2
        subst e1 e2
        have hz0 : at0 (nzT l) i = (a : Int) := at0_of (by unfold nzT; rw [List.getElem?_map, ha]; rfl)
        rw [hz0] at cz
        have cz2 : wr.cell? ⟨ga, i + 1, none⟩ = some (.int .i64 (a : Nat)) := by rw [Nat.add_comm i 1]; exact cz
        obtain ⟨ax, cx, hbx, hix⟩ := hPH.out.x
        obtain ⟨ae, ce, hbe, hie⟩ := hPH.out.e
        have hbxH := Lib.hid hbx
        have hbeH := Lib.hid hbe
        have hixH := Lib.hid hix
        have hieH := Lib.hid hie
        have hq0 : wr.cell? ⟨b1, 0, none⟩ = some (.bool (ng (p : Int))) ∧ wr.cell? ⟨b1, 1, none⟩ = some (.slice ax (LI (p : Int)) cx) ∧ wr.cell? ⟨b2, 0, none⟩ = some (.bool (ng (e : Int))) ∧ wr.cell? ⟨b2, 1, none⟩ = some (.slice ae (LI (e : Int)) ce) := ⟨by rw [hbx.cell]; rfl, by rw [hbx.cell]; rfl, by rw [hbe.cell]; rfl, by rw [hbe.cell]; rfl⟩
        have hq0H := Lib.hid hq0
        have hup : Hid (∀ W, Below wr.heap.size wr W → W.cell? ⟨b1, 0, none⟩ = some (.bool (ng (p : Int))) ∧ W.cell? ⟨b1, 1, none⟩ = some (.slice ax (LI (p : Int)) cx) ∧ W.cell? ⟨b2, 0, none⟩ = some (.bool (ng (e : Int))) ∧ W.cell? ⟨b2, 1, none⟩ = some (.slice ae (LI (e : Int)) ce)) := fun W hW =>
          ⟨Below.cellAt hW (Nat.le_refl _) hq0.1, Below.cellAt hW (Nat.le_refl _) hq0.2.1, Below.cellAt hW (Nat.le_refl _) hq0.2.2.1, Below.cellAt hW (Nat.le_refl _) hq0.2.2.2⟩
        have ne12 := hN4.out.n12
        have ne21 := hN4.out.n12.symm
        have hB0 : Below wr.heap.size wr wr := Below.refl _ _
        clear hdr hend1 hok2 hp he hq hf hz1 hz2 hz3 hz4 hstp ha hz0 hbx hbe hix hie hq0
        have hstep1 : Hid (∀ (W V : World) (a6 : Option Addr) (c6 : Nat), Below wr.heap.size wr W → IM W a6 c6 (z2 : Int) → (V = (putI (putI W b1 z2 a6 c6) b2 p ax cx).drew ∨ V = putI (putI W b1 z2 a6 c6) b2 p ax cx) → P4 V b1 b2 b3 b4 (z2, p, q, f) ∧ IZ V (some ⟨ga, 1, none⟩) (nzT l) ∧ Below w.heap.size w V) := by
          intro W V a6 c6 hW hm hV
          have hPW := hPH.out.below hW
          have h1 := hPW.put1 hN4.out hm (hixH.out.up hW)
          have hIW := hIH.out.below hW
          have hIV : IZ (putI (putI W b1 z2 a6 c6) b2 p ax cx) (some ⟨ga, 1, none⟩) (nzT l) := PIs.izPut (PIs.other (m := z2) (a := a6) (c := c6) hPW.x hPW.e ne21) (hPW.x.izPut hIW)
          have hbV : Below w.heap.size w (putI (putI W b1 z2 a6 c6) b2 p ax cx) := putI_below (putI_below (bseqT hblH.out hW) hwb) hbsH.out.1
          rcases hV with rfl | rfl
          · exact ⟨h1.below (Below.drew (Below.refl _ _)), hIV.below (Below.drew (Below.refl _ _)), Below.drew hbV⟩
          · exact ⟨h1, hIV, hbV⟩
        go_upto_region 18 with (fail)
        obtain ⟨k1, k2, k3, k4⟩ := hq0H.out
        -- tail S: fun W => Below wr.heap.size wr W ∧ W.cell? ⟨b1, 0, none⟩ = some (.bool (ng (p : Int))) ∧ W.cell? ⟨b1, 1, none⟩ = some (.slice ax (LI (p : Int)) cx) ∧ W.cell? ⟨b2, 0, none⟩ = some (.bool (ng (e : Int))) ∧ W.cell? ⟨b2, 1, none⟩ = some (.slice ae (LI (e : Int)) ce)
        -- tail s0: ⟨Below.drew hB0, hup.out _ (Below.drew hB0)⟩
        -- arm 1: go_at_call 28; (with_reducible refine (ofN a _ (by omega)).mono ?_); rintro e w4 ⟨a4, c4, rfl, hm4, hb4⟩; have hm4H := Lib.hid hm4; have hq4 : Below wr.heap.size wr w4 := bseqT hHeld.1 hb4
        -- arm 1 s: ⟨hq4, hup.out _ hq4⟩
        -- arm 3: go_at_call 29; (with_reducible refine (mulN3 a4 ax c4 cx a p z1 _ hm4H.out (hixH.out.up hq4) (by have := la.out; omega) (by have := lp.out; omega) hz1H.out).mono ?_); rintro e w5 ⟨a5, c5, rfl, hm5, hb5⟩; have hm5H := Lib.hid hm5; have hq5 : Below wr.heap.size wr w5 := bseqT hq4 hb5
        -- arm 3 s: ⟨hq5, hup.out _ hq5⟩
        -- arm 5: go_at_call 30; (with_reducible refine (addN3 a5 ae c5 ce z1 e z2 _ hm5H.out (hieH.out.up hq5) (by have := lz1.out; omega) (by have := le.out; omega) hz2H.out).mono ?_); rintro e w6 ⟨a6, c6, rfl, hm6, hb6⟩; have hm6H := Lib.hid hm6; have hq6 : Below wr.heap.size wr w6 := bseqT hq5 hb6; have fz1 := Blk.frozen (Blk.later hbxH.out hq6); have fz2 := Blk.frozen (Blk.later hbeH.out hq6)
        -- arm 5 s: ⟨hq6, hup.out _ hq6⟩
        -- tail xb 0 2 4 6 c1 c3 c5 t7 t8
        refine wp_region_tail (fun W => Below wr.heap.size wr W ∧ W.cell? ⟨b1, 0, none⟩ = some (.bool (ng (p : Int))) ∧ W.cell? ⟨b1, 1, none⟩ = some (.slice ax (LI (p : Int)) cx) ∧ W.cell? ⟨b2, 0, none⟩ = some (.bool (ng (e : Int))) ∧ W.cell? ⟨b2, 1, none⟩ = some (.slice ae (LI (e : Int)) ce)) (fun j => decide (7 ≤ j)) (by kernel_rfl) (⟨Below.drew hB0, hup.out _ (Below.drew hB0)⟩) (fun hHeld => ?_)
        refine wpAnyT_take (i := 0) (oi := ?oixb0) (v := ?vxb0) ?hoxb0 (by kernel_rfl) (by kernel_rfl) (by kernel_rfl) (by kernel_rfl) ?hqxb0 (Or.inl ⟨?hwxb0, ?hyxb0⟩) (by assumption) ?_
        case hoxb0 => rfl
        case hwxb0 => rfl
        case hyxb0 => (intro w hSw; (try dsimp only at hSw); go_split_ands; go_simp; (try (with_reducible rfl)))
        case hqxb0 => exact fun _ _ _ h => h
        simp only [Act.put, List.getElem_toArray, List.getElem_cons_zero, List.setIfInBounds_toArray, List.set_cons_zero, List.set_cons_succ]
        refine wpAnyT_take (i := 2) (oi := ?oixb2) (v := ?vxb2) ?hoxb2 (by kernel_rfl) (by kernel_rfl) (by kernel_rfl) (by kernel_rfl) ?hqxb2 (Or.inl ⟨?hwxb2, ?hyxb2⟩) (by assumption) ?_
        case hoxb2 => rfl
        case hwxb2 => rfl
        case hyxb2 => (intro w hSw; (try dsimp only at hSw); go_split_ands; go_simp; (try (with_reducible rfl)))
        case hqxb2 => exact fun _ _ _ h => h
        simp only [Act.put, List.getElem_toArray, List.getElem_cons_succ, List.getElem_cons_zero, List.setIfInBounds_toArray, List.set_cons_zero, List.set_cons_succ]
        refine wpAnyT_take (i := 4) (oi := ?oixb4) (v := ?vxb4) ?hoxb4 (by kernel_rfl) (by kernel_rfl) (by kernel_rfl) (by kernel_rfl) ?hqxb4 (Or.inl ⟨?hwxb4, ?hyxb4⟩) (by assumption) ?_
        case hoxb4 => rfl
        case hwxb4 => rfl
        case hyxb4 => (intro w hSw; (try dsimp only at hSw); go_split_ands; go_simp; (try (with_reducible rfl)))
        case hqxb4 => exact fun _ _ _ h => h
        simp only [Act.put, List.getElem_toArray, List.getElem_cons_succ, List.getElem_cons_zero, List.setIfInBounds_toArray, List.set_cons_zero, List.set_cons_succ]
        refine wpAnyT_take (i := 6) (oi := ?oixb6) (v := ?vxb6) ?hoxb6 (by kernel_rfl) (by kernel_rfl) (by kernel_rfl) (by kernel_rfl) ?hqxb6 (Or.inl ⟨?hwxb6, ?hyxb6⟩) (by assumption) ?_
        case hoxb6 => rfl
        case hwxb6 => rfl
        case hyxb6 => (intro w hSw; (try dsimp only at hSw); go_split_ands; go_simp; (try (with_reducible rfl)))
        case hqxb6 => exact fun _ _ _ h => h
        simp only [Act.put, List.getElem_toArray, List.getElem_cons_succ, List.getElem_cons_zero, List.setIfInBounds_toArray, List.set_cons_zero, List.set_cons_succ]
        refine wpAnyT_one (i := 1) (o := ?oixb1) (by kernel_rfl) ?hoxb1 (fun K hK => ?_)
        case hoxb1 => rfl
        rw [if_pos (by rfl)]
        go_simp
        go_at_call 28; (with_reducible refine (ofN a _ (by omega)).mono ?_); rintro e w4 ⟨a4, c4, rfl, hm4, hb4⟩; have hm4H := Lib.hid hm4; have hq4 : Below wr.heap.size wr w4 := bseqT hHeld.1 hb4
        (try go_wp2_with (fail))
        refine hK.out _ _ (fun _ => ⟨hq4, hup.out _ hq4⟩) (fun hHeld => ?_)
        replace hHeld := hHeld rfl
        clear hK K
        refine wpAnyT_one (i := 3) (o := ?oixb3) (by kernel_rfl) ?hoxb3 (fun K hK => ?_)
        case hoxb3 => rfl
        rw [if_pos (by rfl)]
        go_simp
        go_at_call 29; (with_reducible refine (mulN3 a4 ax c4 cx a p z1 _ hm4H.out (hixH.out.up hq4) (by have := la.out; omega) (by have := lp.out; omega) hz1H.out).mono ?_); rintro e w5 ⟨a5, c5, rfl, hm5, hb5⟩; have hm5H := Lib.hid hm5; have hq5 : Below wr.heap.size wr w5 := bseqT hq4 hb5
        (try go_wp2_with (fail))
        refine hK.out _ _ (fun _ => ⟨hq5, hup.out _ hq5⟩) (fun hHeld => ?_)
        replace hHeld := hHeld rfl
        clear hK K
        refine wpAnyT_one (i := 5) (o := ?oixb5) (by kernel_rfl) ?hoxb5 (fun K hK => ?_)
        case hoxb5 => rfl
        rw [if_pos (by rfl)]
        go_simp
        go_at_call 30; (with_reducible refine (addN3 a5 ae c5 ce z1 e z2 _ hm5H.out (hieH.out.up hq5) (by have := lz1.out; omega) (by have := le.out; omega) hz2H.out).mono ?_); rintro e w6 ⟨a6, c6, rfl, hm6, hb6⟩; have hm6H := Lib.hid hm6; have hq6 : Below wr.heap.size wr w6 := bseqT hq5 hb6; have fz1 := Blk.frozen (Blk.later hbxH.out hq6); have fz2 := Blk.frozen (Blk.later hbeH.out hq6)
        (try go_wp2_with (fail))
        refine hK.out _ _ (fun _ => ⟨hq6, hup.out _ hq6⟩) (fun hHeld => ?_)
        replace hHeld := hHeld rfl
        clear hK K
        refine wpAnyT_one (i := 7) (o := ?oixb7) (by kernel_rfl) ?hoxb7 (fun K hK => ?_)
        case hoxb7 => rfl
        rw [if_pos (by rfl)]
        go_simp
        refine hK.out _ _ (fun h0 => by cases h0) (fun _ => ?_)
        clear hK K
        refine wpAnyT_one (i := 8) (o := ?oixb8) (by kernel_rfl) ?hoxb8 (fun K hK => ?_)
        case hoxb8 => rfl
        rw [if_pos (by rfl)]
        go_simp
        refine hK.out _ _ (fun h0 => by cases h0) (fun _ => ?_)
        clear hK K
        refine wpAnyT_done (by kernel_rfl) ?_ _
        -- tail end
        obtain ⟨V1, hV1⟩ : ∃ V, V = putI (putI w6 b1 z2 a6 c6) b2 p ax cx := ⟨_, rfl⟩
        have hV1' : (((w6.setCell ⟨b1, 0, none⟩ (.bool (ng (z2 : Int)))).setCell ⟨b1, 1, none⟩ (.slice a6 (LI (z2 : Int)) c6)).setCell ⟨b2, 0, none⟩ (.bool (ng (p : Int)))).setCell ⟨b2, 1, none⟩ (.slice ax (LI (p : Int)) cx) = V1 := hV1.symm
        rw [hV1']
        obtain ⟨hP1, hI1, hbl1⟩ := hstep1.out w6 V1 a6 c6 hq6 hm6H.out (.inr hV1)
        have hP1H := Lib.hid hP1
        have hI1H := Lib.hid hI1
        have hbl1H := Lib.hid hbl1
        clear hV1 hV1' hP1 hI1 hbl1 hstep1 hq4 hq5 hq6 fz1 fz2 hHeld hm4H hm5H hm6H hup k1 k2 k3 k4 hPH hblH hIH hbxH hbeH hixH hieH hz1H hz2H hB0 cz cz2 lz1 le ne12 ne21 hokH hendH
        obtain ⟨ay, cy, hby, hiy⟩ := hP1H.out.y
        obtain ⟨af, cf, hbf, hif⟩ := hP1H.out.f
        have hbyH := Lib.hid hby
        have hbfH := Lib.hid hbf
        have hiyH := Lib.hid hiy
        have hifH := Lib.hid hif
        have hq0 : V1.cell? ⟨b3, 0, none⟩ = some (.bool (ng (q : Int))) ∧ V1.cell? ⟨b3, 1, none⟩ = some (.slice ay (LI (q : Int)) cy) ∧ V1.cell? ⟨b4, 0, none⟩ = some (.bool (ng (f : Int))) ∧ V1.cell? ⟨b4, 1, none⟩ = some (.slice af (LI (f : Int)) cf) := ⟨by rw [hby.cell]; rfl, by rw [hby.cell]; rfl, by rw [hbf.cell]; rfl, by rw [hbf.cell]; rfl⟩
        have hup : Hid (∀ W, Below V1.heap.size V1 W → W.cell? ⟨b3, 0, none⟩ = some (.bool (ng (q : Int))) ∧ W.cell? ⟨b3, 1, none⟩ = some (.slice ay (LI (q : Int)) cy) ∧ W.cell? ⟨b4, 0, none⟩ = some (.bool (ng (f : Int))) ∧ W.cell? ⟨b4, 1, none⟩ = some (.slice af (LI (f : Int)) cf)) := fun W hW =>
          ⟨Below.cellAt hW (Nat.le_refl _) hq0.1, Below.cellAt hW (Nat.le_refl _) hq0.2.1, Below.cellAt hW (Nat.le_refl _) hq0.2.2.1, Below.cellAt hW (Nat.le_refl _) hq0.2.2.2⟩
        have ne34 := hN4.out.n34
        have ne43 := hN4.out.n34.symm
        have hB0 : Below V1.heap.size V1 V1 := Below.refl _ _
        have hstep2 : Hid (∀ (W V : World) (a6 : Option Addr) (c6 : Nat), Below V1.heap.size V1 W → IM W a6 c6 (z4 : Int) → V = putI (putI W b3 z4 a6 c6) b4 q ay cy → P4 V b1 b2 b3 b4 (z2, p, z4, q) ∧ IZ V (some ⟨ga, 1, none⟩) (nzT l) ∧ Below w.heap.size w V) := by
          intro W V a6 c6 hW hm hV
          have hPW := hP1H.out.below hW
          have h1 := hPW.put2 hN4.out hm (hiyH.out.up hW)
          have hIW := hI1H.out.below hW
          have hIV : IZ (putI (putI W b3 z4 a6 c6) b4 q ay cy) (some ⟨ga, 1, none⟩) (nzT l) := PIs.izPut (PIs.other (m := z4) (a := a6) (c := c6) hPW.y hPW.f ne43) (hPW.y.izPut hIW)
          have hbV : Below w.heap.size w (putI (putI W b3 z4 a6 c6) b4 q ay cy) := putI_below (putI_below (bseqT hbl1H.out hW) hbsH.out.2.1) hbsH.out.2.2
          rw [hV]
          exact ⟨h1, hIV, hbV⟩
        clear hby hbf hiy hif
        go_upto_region 19 with (fail)
        obtain ⟨k1, k2, k3, k4⟩ := hq0
        -- tail S: fun W => Below V1.heap.size V1 W ∧ W.cell? ⟨b3, 0, none⟩ = some (.bool (ng (q : Int))) ∧ W.cell? ⟨b3, 1, none⟩ = some (.slice ay (LI (q : Int)) cy) ∧ W.cell? ⟨b4, 0, none⟩ = some (.bool (ng (f : Int))) ∧ W.cell? ⟨b4, 1, none⟩ = some (.slice af (LI (f : Int)) cf)
        -- tail s0: ⟨Below.drew hB0, hup.out _ (Below.drew hB0)⟩
        -- arm 1: go_at_call 28; (with_reducible refine (ofN a _ (by omega)).mono ?_); rintro e w4 ⟨a4, c4, rfl, hm4, hb4⟩; have hm4H := Lib.hid hm4; have hq4 : Below V1.heap.size V1 w4 := bseqT hHeld.1 hb4
        -- arm 1 s: ⟨hq4, hup.out _ hq4⟩
        -- arm 3: go_at_call 29; (with_reducible refine (mulN3 a4 ay c4 cy a q z3 _ hm4H.out (hiyH.out.up hq4) (by have := la.out; omega) (by have := lq.out; omega) hz3H.out).mono ?_); rintro e w5 ⟨a5, c5, rfl, hm5, hb5⟩; have hm5H := Lib.hid hm5; have hq5 : Below V1.heap.size V1 w5 := bseqT hq4 hb5
        -- arm 3 s: ⟨hq5, hup.out _ hq5⟩
        -- arm 5: go_at_call 30; (with_reducible refine (addN3 a5 af c5 cf z3 f z4 _ hm5H.out (hifH.out.up hq5) (by have := lz3.out; omega) (by have := lf.out; omega) hz4H.out).mono ?_); rintro e w6 ⟨a6, c6, rfl, hm6, hb6⟩; have hm6H := Lib.hid hm6; have hq6 : Below V1.heap.size V1 w6 := bseqT hq5 hb6; have fz1 := Blk.frozen (Blk.later hbyH.out hq6); have fz2 := Blk.frozen (Blk.later hbfH.out hq6)
        -- arm 5 s: ⟨hq6, hup.out _ hq6⟩
        -- tail yb 0 2 4 6 c1 c3 c5 t7 t8
        refine wp_region_tail (fun W => Below V1.heap.size V1 W ∧ W.cell? ⟨b3, 0, none⟩ = some (.bool (ng (q : Int))) ∧ W.cell? ⟨b3, 1, none⟩ = some (.slice ay (LI (q : Int)) cy) ∧ W.cell? ⟨b4, 0, none⟩ = some (.bool (ng (f : Int))) ∧ W.cell? ⟨b4, 1, none⟩ = some (.slice af (LI (f : Int)) cf)) (fun j => decide (7 ≤ j)) (by kernel_rfl) (⟨Below.drew hB0, hup.out _ (Below.drew hB0)⟩) (fun hHeld => ?_)
        refine wpAnyT_take (i := 0) (oi := ?oiyb0) (v := ?vyb0) ?hoyb0 (by kernel_rfl) (by kernel_rfl) (by kernel_rfl) (by kernel_rfl) ?hqyb0 (Or.inl ⟨?hwyb0, ?hyyb0⟩) (by assumption) ?_
        case hoyb0 => rfl
        case hwyb0 => rfl
        case hyyb0 => (intro w hSw; (try dsimp only at hSw); go_split_ands; go_simp; (try (with_reducible rfl)))
        case hqyb0 => exact fun _ _ _ h => h
        simp only [Act.put, List.getElem_toArray, List.getElem_cons_zero, List.setIfInBounds_toArray, List.set_cons_zero, List.set_cons_succ]
        refine wpAnyT_take (i := 2) (oi := ?oiyb2) (v := ?vyb2) ?hoyb2 (by kernel_rfl) (by kernel_rfl) (by kernel_rfl) (by kernel_rfl) ?hqyb2 (Or.inl ⟨?hwyb2, ?hyyb2⟩) (by assumption) ?_
        case hoyb2 => rfl
        case hwyb2 => rfl
        case hyyb2 => (intro w hSw; (try dsimp only at hSw); go_split_ands; go_simp; (try (with_reducible rfl)))
        case hqyb2 => exact fun _ _ _ h => h
        simp only [Act.put, List.getElem_toArray, List.getElem_cons_succ, List.getElem_cons_zero, List.setIfInBounds_toArray, List.set_cons_zero, List.set_cons_succ]
        refine wpAnyT_take (i := 4) (oi := ?oiyb4) (v := ?vyb4) ?hoyb4 (by kernel_rfl) (by kernel_rfl) (by kernel_rfl) (by kernel_rfl) ?hqyb4 (Or.inl ⟨?hwyb4, ?hyyb4⟩) (by assumption) ?_
        case hoyb4 => rfl
        case hwyb4 => rfl
        case hyyb4 => (intro w hSw; (try dsimp only at hSw); go_split_ands; go_simp; (try (with_reducible rfl)))
        case hqyb4 => exact fun _ _ _ h => h
        simp only [Act.put, List.getElem_toArray, List.getElem_cons_succ, List.getElem_cons_zero, List.setIfInBounds_toArray, List.set_cons_zero, List.set_cons_succ]
        refine wpAnyT_take (i := 6) (oi := ?oiyb6) (v := ?vyb6) ?hoyb6 (by kernel_rfl) (by kernel_rfl) (by kernel_rfl) (by kernel_rfl) ?hqyb6 (Or.inl ⟨?hwyb6, ?hyyb6⟩) (by assumption) ?_
        case hoyb6 => rfl
        case hwyb6 => rfl
        case hyyb6 => (intro w hSw; (try dsimp only at hSw); go_split_ands; go_simp; (try (with_reducible rfl)))
        case hqyb6 => exact fun _ _ _ h => h
        simp only [Act.put, List.getElem_toArray, List.getElem_cons_succ, List.getElem_cons_zero, List.setIfInBounds_toArray, List.set_cons_zero, List.set_cons_succ]
        refine wpAnyT_one (i := 1) (o := ?oiyb1) (by kernel_rfl) ?hoyb1 (fun K hK => ?_)
        case hoyb1 => rfl
        rw [if_pos (by rfl)]
        go_simp
        go_at_call 28; (with_reducible refine (ofN a _ (by omega)).mono ?_); rintro e w4 ⟨a4, c4, rfl, hm4, hb4⟩; have hm4H := Lib.hid hm4; have hq4 : Below V1.heap.size V1 w4 := bseqT hHeld.1 hb4
        (try go_wp2_with (fail))
        refine hK.out _ _ (fun _ => ⟨hq4, hup.out _ hq4⟩) (fun hHeld => ?_)
        replace hHeld := hHeld rfl
        clear hK K
        refine wpAnyT_one (i := 3) (o := ?oiyb3) (by kernel_rfl) ?hoyb3 (fun K hK => ?_)
        case hoyb3 => rfl
        rw [if_pos (by rfl)]
        go_simp
        go_at_call 29; (with_reducible refine (mulN3 a4 ay c4 cy a q z3 _ hm4H.out (hiyH.out.up hq4) (by have := la.out; omega) (by have := lq.out; omega) hz3H.out).mono ?_); rintro e w5 ⟨a5, c5, rfl, hm5, hb5⟩; have hm5H := Lib.hid hm5; have hq5 : Below V1.heap.size V1 w5 := bseqT hq4 hb5
        (try go_wp2_with (fail))
        refine hK.out _ _ (fun _ => ⟨hq5, hup.out _ hq5⟩) (fun hHeld => ?_)
        replace hHeld := hHeld rfl
        clear hK K
        refine wpAnyT_one (i := 5) (o := ?oiyb5) (by kernel_rfl) ?hoyb5 (fun K hK => ?_)
        case hoyb5 => rfl
        rw [if_pos (by rfl)]
        go_simp
        go_at_call 30; (with_reducible refine (addN3 a5 af c5 cf z3 f z4 _ hm5H.out (hifH.out.up hq5) (by have := lz3.out; omega) (by have := lf.out; omega) hz4H.out).mono ?_); rintro e w6 ⟨a6, c6, rfl, hm6, hb6⟩; have hm6H := Lib.hid hm6; have hq6 : Below V1.heap.size V1 w6 := bseqT hq5 hb6; have fz1 := Blk.frozen (Blk.later hbyH.out hq6); have fz2 := Blk.frozen (Blk.later hbfH.out hq6)
        (try go_wp2_with (fail))
        refine hK.out _ _ (fun _ => ⟨hq6, hup.out _ hq6⟩) (fun hHeld => ?_)
        replace hHeld := hHeld rfl
        clear hK K
        refine wpAnyT_one (i := 7) (o := ?oiyb7) (by kernel_rfl) ?hoyb7 (fun K hK => ?_)
        case hoyb7 => rfl
        rw [if_pos (by rfl)]
        go_simp
        refine hK.out _ _ (fun h0 => by cases h0) (fun _ => ?_)
        clear hK K
        refine wpAnyT_one (i := 8) (o := ?oiyb8) (by kernel_rfl) ?hoyb8 (fun K hK => ?_)
        case hoyb8 => rfl
        rw [if_pos (by rfl)]
        go_simp
        refine hK.out _ _ (fun h0 => by cases h0) (fun _ => ?_)
        clear hK K
        refine wpAnyT_done (by kernel_rfl) ?_ _
        -- tail end
        obtain ⟨V2, hV2⟩ : ∃ V, V = putI (putI w6 b3 z4 a6 c6) b4 q ay cy := ⟨_, rfl⟩
        have hV2' : (((w6.setCell ⟨b3, 0, none⟩ (.bool (ng (z4 : Int)))).setCell ⟨b3, 1, none⟩ (.slice a6 (LI (z4 : Int)) c6)).setCell ⟨b4, 0, none⟩ (.bool (ng (q : Int)))).setCell ⟨b4, 1, none⟩ (.slice ay (LI (q : Int)) cy) = V2 := hV2.symm
        rw [hV2']
        obtain ⟨hP2, hI2, hbl2⟩ := hstep2.out w6 V2 a6 c6 hq6 hm6H.out hV2
        have hP2H := Lib.hid hP2
        have hI2H := Lib.hid hI2
        have hbl2H := Lib.hid hbl2
        clear hV2 hV2' hP2 hI2 hbl2 hstep2 hq4 hq5 hq6 fz1 fz2 hHeld hm4H hm5H hm6H hup k1 k2 k3 k4 hP1H hbl1H hI1H hbyH hbfH hiyH hifH hB0
        go_wp2_with (fail)
        go_roundw
        case rel => exact ⟨i + 1, (z2, p, z4, q), by go_num, by omega, hP2H.out, hok3.out, hend3.out, hI2H.out, hbl2H.out⟩
        case measure => simp [intOf]; omega
      · obtain rfl : i = T := by omega
        have hdr : l.drop i = [] := List.drop_eq_nil_of_le (by rw [hll.out]; exact Nat.le_refl _)
        have hok1 := hokH.out
        have hend1 := hendH.out
        rw [hdr] at hok1 hend1
        unfold allOk stOk at hok1
        simp only [Bool.and_eq_true, decide_eq_true_eq] at hok1
        obtain ⟨⟨⟨hp, he⟩, hq⟩, hf⟩ := hok1
        have hend2 : (p, e, q, f) = cvEnd (cv0 n) l := hend1
        rw [← hend2] at hxH hyH
        have hpx : p = x := hxH.out
        have hqy : q = y := hyH.out
        subst hpx hqy
        obtain ⟨ax, cx, hbx, hix⟩ := hPH.out.x
        obtain ⟨ay, cy, hby, hiy⟩ := hPH.out.y
        have hixH := Lib.hid hix
        have hiyH := Lib.hid hiy
        have k1 : wr.cell? ⟨b1, 0, none⟩ = some (.bool (ng (p : Int))) := by rw [hbx.cell]; rfl
        have k2 : wr.cell? ⟨b1, 1, none⟩ = some (.slice ax (LI (p : Int)) cx) := by rw [hbx.cell]; rfl
        have k3 : Hid (∀ W, Below wr.heap.size wr W → W.cell? ⟨b3, 0, none⟩ = some (.bool (ng (q : Int))) ∧ W.cell? ⟨b3, 1, none⟩ = some (.slice ay (LI (q : Int)) cy)) := fun W hW => ⟨Below.cellAt hW (Nat.le_refl _) (by rw [hby.cell]; rfl), Below.cellAt hW (Nat.le_refl _) (by rw [hby.cell]; rfl)⟩
        have lx := Lib.hid (RetNumN_of hp)
        have ly := Lib.hid (RetNumN_of hq)
        have hnii : ¬ (i : Int) < (i : Int) := by omega
        clear hdr hend1 hend2 hp he hq hf hxH hyH hokH hendH hiT hi
        go_upto_region 22 with (first
          | (go_at_call 31; (with_reducible refine (fromIntN ax cx p _ hixH.out).mono ?_); rintro e w4 ⟨a4, c4, a5, c5, rfl, hm4, hb4⟩; have hm4H := Lib.hid hm4; have hb4H := Lib.hid hb4; obtain ⟨k5, k6⟩ := k3.out _ hb4; clear hm4 hb4)
          | (go_at_call 32; (with_reducible refine (lx.out _ _ _ _ _ hm4H.out).mono ?_); rintro e w5 ⟨rfl, hb5⟩; have hb5H := Lib.hid (bseqT hb4H.out hb5); obtain ⟨k7, k8⟩ := k3.out _ hb5H.out; clear hb5))
        go_wp2_with (first
          | (go_at_call 31; (with_reducible refine (fromIntN ay cy q _ (hiyH.out.up hb5H.out)).mono ?_); rintro e w6 ⟨a6, c6, a7, c7, rfl, hm6, hb6⟩; have hm6H := Lib.hid hm6; have hb6H := Lib.hid (bseqT hb5H.out hb6); clear hm6 hb6)
          | (go_at_call 32; (with_reducible refine (ly.out _ _ _ _ _ hm6H.out).mono ?_); rintro e w7 ⟨rfl, hb7⟩; have hb7H := Lib.hid (bseqT hb6H.out hb7); clear hb7))
        go_ret3
        exact ⟨rfl, bseqT hblH.out hb7H.out⟩
  · go_enter Tryz.func8, Tryz.ntmps8
    go_upto_region 13 with (first
      | (go_at_call 5; go_loud (with_reducible refine (hrtH.out _).mono ?_); rintro e w1 ⟨g, cap, rfl, hcap, hI, hb1⟩; rw [hLH.out] at hcap ⊢; have hIH := Lib.hid hI; have hb1H := Lib.hid hb1; clear hI hb1)
      | (go_at_call 27; go_loud (with_reducible refine (hrep.out _ g cap (hIH.out.below (below_al (Below.refl _ _) _))).mono ?_); rintro e w2 ⟨g2, rfl, hI2, hb2⟩; rw [hzl.out]; have hI2H := Lib.hid hI2; have hb2H := Lib.hid (bseqT hb1H.out (bseqT (below_al (Below.refl _ _) _) hb2)); have hZ2 := Lib.hid ((zi_lit1 w1 (n : Int) w.heap.size hb1H.out.size).below hb2); clear hI2 hb2)
      | (at_builtin; go_loud (refine wpList_append_ze _ rfl (.tmp 53) (.tmp 56) _ rfl Tryz.underlying23 w.heap.size 1 _ [(n : Int)] (by rfl) (.inl hZ2.out) rfl _ N N (nzT F) (by rfl) hI2H.out hzl.out (by omega) (by omega) (by have := hb2H.out.size; omega) ?_); intro v3 w3 hA3; have hA3H := Lib.hid hA3; clear hA3))
    obtain ⟨ga, ca, hva⟩ := hA3H.out.1.some (by simp)
    have hal : Hid (([(n : Int)] ++ nzT F).length = N + 1) := by show _ = _; rw [List.length_append, hzl.out]; simp; omega
    rw [hal.out] at hva
    subst hva
    have hca := hA3H.out.1.iz.2
    have hIa := Lib.hid hA3H.out.1.iz.1
    have hb3 := Lib.hid (hb2H.out.trans hA3H.out.2.1)
    clear hA3H hZ2 hI2H hb2H hIH hb1H hrep hrtH t1 t2
    go_upto_region 14 with (first
      | (go_at_call 28; (with_reducible refine (ofN n _ (by omega)).mono ?_); rintro e w4 ⟨a4, c4, rfl, hm4, hb4⟩; have hm4H := Lib.hid hm4; have hb4H := Lib.hid hb4; clear hm4 hb4)
      | (go_at_call 28; (with_reducible refine (of_one _).mono ?_); rintro e w5 ⟨a5, c5, rfl, hm5, hb5⟩; have hm5H := Lib.hid hm5; have hb5H := Lib.hid hb5; have hm45 := Lib.hid (hm4H.out.up hb5); clear hm5 hb5))
    obtain ⟨V1, hV1⟩ : ∃ V, V = (w5.alloc (Obj.cells #[.bool (ng (n : Int)), .slice a4 (LI (n : Int)) c4] 62)).alloc (Obj.cells #[.bool (ng 1), .slice a5 (LI 1) c5] 62) := ⟨_, rfl⟩
    have x1 : PIs V1 w5.heap.size n := by rw [hV1]; exact (alloc2 (m := 1) hm45.out hm5H.out).1
    have x2 : PIs V1 (w5.heap.size + 1) 1 := by rw [hV1]; exact (alloc2 (m := 1) hm45.out hm5H.out).2.1
    have x3 : Below w5.heap.size w5 V1 := by rw [hV1]; exact (alloc2 (m := 1) hm45.out hm5H.out).2.2
    rw [← hV1]
    have hb1V := Lib.hid (bseqT hb3.out (bseqT hb4H.out (bseqT hb5H.out x3)))
    have hIa1 := Lib.hid (hIa.out.below (bseqT hb4H.out (bseqT hb5H.out x3)))
    have hwV : w.heap.size ≤ w5.heap.size := Nat.le_trans hb3.out.size (Nat.le_trans hb4H.out.size hb5H.out.size)
    obtain ⟨b1, hb1e⟩ : ∃ b, b = w5.heap.size := ⟨_, rfl⟩
    obtain ⟨b2, hb2e⟩ : ∃ b, b = w5.heap.size + 1 := ⟨_, rfl⟩
    rw [← hb1e] at x1
    rw [← hb2e] at x2
    rw [← hb2e, ← hb1e]
    have hb12 : b2 = b1 + 1 := by omega
    have hwb : w.heap.size ≤ b1 := by omega
    have x1H := Lib.hid x1
    have x2H := Lib.hid x2
    have hb12H := Lib.hid hb12
    clear x1 x2 x3 hV1 hm45 hm5H hm4H hb4H hb5H hIa hb3 hb1e hb2e hb12 hwV
    go_upto_region 15 with (first
      | (go_at_call 28; (with_reducible refine (of_one _).mono ?_); rintro e w6 ⟨a6, c6, rfl, hm6, hb6⟩; have hm6H := Lib.hid hm6; have hb6H := Lib.hid hb6; clear hm6 hb6)
      | (go_at_call 28; (with_reducible refine (of_zero _).mono ?_); rintro e w7 ⟨a7, c7, rfl, hm7, hb7⟩; have hm7H := Lib.hid hm7; have hb7H := Lib.hid (bseqT hb6H.out hb7); have hm67 := Lib.hid (hm6H.out.up hb7); clear hm7 hb7))
    obtain ⟨V2, hV2⟩ : ∃ V, V = (w7.alloc (Obj.cells #[.bool (ng 1), .slice a6 (LI 1) c6] 62)).alloc (Obj.cells #[.bool (ng 0), .slice a7 (LI 0) c7] 62) := ⟨_, rfl⟩
    have x3 : PIs V2 w7.heap.size 1 := by rw [hV2]; exact (alloc2 (n := 1) (m := 0) hm67.out hm7H.out).1
    have x4 : PIs V2 (w7.heap.size + 1) 0 := by rw [hV2]; exact (alloc2 (n := 1) (m := 0) hm67.out hm7H.out).2.1
    have x5 : Below w7.heap.size w7 V2 := by rw [hV2]; exact (alloc2 (n := 1) (m := 0) hm67.out hm7H.out).2.2
    rw [← hV2]
    have hbV := Lib.hid (bseqT hb1V.out (bseqT hb7H.out x5))
    have hIaV := Lib.hid (hIa1.out.below (bseqT hb7H.out x5))
    obtain ⟨b3, hb3e⟩ : ∃ b, b = w7.heap.size := ⟨_, rfl⟩
    obtain ⟨b4, hb4e⟩ : ∃ b, b = w7.heap.size + 1 := ⟨_, rfl⟩
    rw [← hb3e] at x3
    rw [← hb4e] at x4
    rw [← hb4e, ← hb3e]
    have hlt1 := x1H.out.lt
    have hlt2 := x2H.out.lt
    have hs7 := hb7H.out.size
    have hP4 : Hid (P4 V2 b1 b2 b3 b4 (cv0 n)) := ⟨x1H.out.below (bseqT hb7H.out x5), x2H.out.below (bseqT hb7H.out x5), x3, x4⟩
    have hN4 : Hid (N4 b1 b2 b3 b4) := by
      have := hb12H.out
      show N4 _ _ _ _
      constructor <;> omega
    have hbs : w.heap.size ≤ b2 ∧ w.heap.size ≤ b3 ∧ w.heap.size ≤ b4 := by have := hb12H.out; omega
    have hbsH := Lib.hid hbs
    clear x3 x4 x5 hV2 hb3e hb4e hlt1 hlt2 hs7 hbs x1H x2H hb12H hb1V hIa1 hb6H hb7H hm6H hm7H hm67
    obtain ⟨M, hM⟩ : ∃ M, N + 1 = M := ⟨_, rfl⟩
    have hM1 : (M : Int) - 1 = (N : Int) := by omega
    have hMc : M ≤ ca := by omega
    rw [hM]
    have hNc : (N : Int) ≤ (ca : Int) := by omega
    have hN0 : (1 : Int) ≤ (N : Int) := by omega
    have hca1 : ¬ ca = 1 := by omega
    have hMH := Lib.hid hM
    clear hM hca
    obtain ⟨l, hl⟩ : ∃ l, F.dropLast = l := ⟨_, rfl⟩
    rw [hl] at hokH hxH hyH
    obtain ⟨T, hT⟩ : ∃ T, N - 1 = T := ⟨_, rfl⟩
    have hll : Hid (l.length = T) := by show _ = _; rw [← hl, List.length_dropLast, hNH.out, hT]
    have hTI : (N : Int) - 1 = (T : Int) := by omega
    have hlI : Hid (IZ V2 (some ⟨ga, 1, none⟩) (nzT l)) := by
      show IZ _ _ _
      have h1 := (hIaV.out.drop 1).take T
      rw [← hl]
      have e1 : (List.drop 1 ([(n : Int)] ++ nzT F)).take T = nzT F.dropLast := by
        rw [List.dropLast_eq_take, hNH.out, hT]
        unfold nzT
        rw [List.map_take]
        rfl
      rw [e1, Nat.zero_add] at h1
      exact h1
    have hTN : T ≤ 140 := by omega
    have hTH := Lib.hid hT
    clear hl hIaV hT hal hzl hNH hcap
    go_wp2_with (fail)
    go_loopw [69] (fun iv wr => ∃ (i : Nat) (t : Cv), iv = .int .i64 (i : Nat) ∧ i ≤ T ∧ P4 wr b1 b2 b3 b4 t ∧ allOk t (l.drop i) = true ∧ cvEnd t (l.drop i) = cvEnd (cv0 n) l ∧ IZ wr (some ⟨ga, 1, none⟩) (nzT l) ∧ Below w.heap.size w wr) (fun iv _ => T - (intOf iv).toNat)
    case atStart => exact ⟨0, cv0 n, rfl, by omega, hP4.out, hokH.out, rfl, hlI.out, hbV.out⟩
    case round =>
      clear hP4 hokH hlI hbV
      obtain ⟨i, ⟨p, e, q, f⟩, rfl, hi, hP, hok, hend, hI, hbl⟩ := hrel
      have hPH := Lib.hid hP
      have hokH := Lib.hid hok
      have hendH := Lib.hid hend
      have hIH := Lib.hid hI
      have hblH := Lib.hid hbl
      clear hP hok hend hI hbl
      by_cases hiT : i < T
      · have hiI : (i : Int) < (T : Int) := by omega
        have hi0 : (0 : Int) ≤ (i : Int) := by omega
        obtain ⟨a, ha⟩ : ∃ a, l[i]? = some a := ⟨_, List.getElem?_eq_getElem (by rw [hll.out]; exact hiT)⟩
        have hdr : l.drop i = a :: l.drop (i + 1) := by
          have h1 := (List.getElem?_eq_some_iff.1 ha)
          rw [List.drop_eq_getElem_cons h1.1, h1.2]
        have hok1 := hokH.out
        have hend1 := hendH.out
        rw [hdr] at hok1 hend1
        unfold allOk at hok1
        simp only [Bool.and_eq_true, decide_eq_true_eq] at hok1
        obtain ⟨⟨hst, ha100⟩, hok2⟩ := hok1
        unfold stOk at hst
        simp only [Bool.and_eq_true, decide_eq_true_eq] at hst
        obtain ⟨⟨⟨hp, he⟩, hq⟩, hf⟩ := hst
        obtain ⟨z1, hz1⟩ : ∃ z, a * p = z := ⟨_, rfl⟩
        obtain ⟨z2, hz2⟩ : ∃ z, z1 + e = z := ⟨_, rfl⟩
        obtain ⟨z3, hz3⟩ : ∃ z, a * q = z := ⟨_, rfl⟩
        obtain ⟨z4, hz4⟩ : ∃ z, z3 + f = z := ⟨_, rfl⟩
        have hstp : cvStep (p, e, q, f) a = (z2, p, z4, q) := by unfold cvStep; simp only [hz1, hz2, hz3, hz4]
        have hok3 := Lib.hid (show allOk (z2, p, z4, q) (l.drop (i + 1)) = true by rw [← hstp]; exact hok2)
        have hend3 := Lib.hid (show cvEnd (z2, p, z4, q) (l.drop (i + 1)) = cvEnd (cv0 n) l by rw [← hend1, ← hstp]; rfl)
        have lp := Lib.hid (LI_cvB hp)
        have le := Lib.hid (LI_cvB he)
        have lq := Lib.hid (LI_cvB hq)
        have lf := Lib.hid (LI_cvB hf)
        have la : Hid (LI (a : Int) ≤ 11) := LI_cvB (Nat.lt_of_le_of_lt ha100 (by decide))
        have lz1 : Hid (LI (z1 : Int) ≤ 40) := by
          show _ ≤ _
          rw [← hz1, Int.natCast_mul]
          have := LI_mul (a : Int) (p : Int)
          have := lp.out
          have := la.out
          omega
        have lz3 : Hid (LI (z3 : Int) ≤ 40) := by
          show _ ≤ _
          rw [← hz3, Int.natCast_mul]
          have := LI_mul (a : Int) (q : Int)
          have := lq.out
          have := la.out
          omega
        have hz1H := Lib.hid hz1
        have hz2H := Lib.hid hz2
        have hz3H := Lib.hid hz3
        have hz4H := Lib.hid hz4
        obtain ⟨bz, oz, haz, cz⟩ := hIH.out.at (i := i) (by rw [nzT_length, hll.out]; exact hiT)
        injection haz with haz
        injection haz with e1 e2
        subst e1 e2
        have hz0 : at0 (nzT l) i = (a : Int) := at0_of (by unfold nzT; rw [List.getElem?_map, ha]; rfl)
        rw [hz0] at cz
        have cz2 : wr.cell? ⟨ga, i + 1, none⟩ = some (.int .i64 (a : Nat)) := by rw [Nat.add_comm i 1]; exact cz
        obtain ⟨ax, cx, hbx, hix⟩ := hPH.out.x
        obtain ⟨ae, ce, hbe, hie⟩ := hPH.out.e
        have hbxH := Lib.hid hbx
        have hbeH := Lib.hid hbe
        have hixH := Lib.hid hix
        have hieH := Lib.hid hie
        have hq0 : wr.cell? ⟨b1, 0, none⟩ = some (.bool (ng (p : Int))) ∧ wr.cell? ⟨b1, 1, none⟩ = some (.slice ax (LI (p : Int)) cx) ∧ wr.cell? ⟨b2, 0, none⟩ = some (.bool (ng (e : Int))) ∧ wr.cell? ⟨b2, 1, none⟩ = some (.slice ae (LI (e : Int)) ce) := ⟨by rw [hbx.cell]; rfl, by rw [hbx.cell]; rfl, by rw [hbe.cell]; rfl, by rw [hbe.cell]; rfl⟩
        have hq0H := Lib.hid hq0
        have hup : Hid (∀ W, Below wr.heap.size wr W → W.cell? ⟨b1, 0, none⟩ = some (.bool (ng (p : Int))) ∧ W.cell? ⟨b1, 1, none⟩ = some (.slice ax (LI (p : Int)) cx) ∧ W.cell? ⟨b2, 0, none⟩ = some (.bool (ng (e : Int))) ∧ W.cell? ⟨b2, 1, none⟩ = some (.slice ae (LI (e : Int)) ce)) := fun W hW =>
          ⟨Below.cellAt hW (Nat.le_refl _) hq0.1, Below.cellAt hW (Nat.le_refl _) hq0.2.1, Below.cellAt hW (Nat.le_refl _) hq0.2.2.1, Below.cellAt hW (Nat.le_refl _) hq0.2.2.2⟩
        have ne12 := hN4.out.n12
        have ne21 := hN4.out.n12.symm
        have hB0 : Below wr.heap.size wr wr := Below.refl _ _
        clear hdr hend1 hok2 hp he hq hf hz1 hz2 hz3 hz4 hstp ha hz0 hbx hbe hix hie hq0
        have hstep1 : Hid (∀ (W V : World) (a6 : Option Addr) (c6 : Nat), Below wr.heap.size wr W → IM W a6 c6 (z2 : Int) → (V = (putI (putI W b1 z2 a6 c6) b2 p ax cx).drew ∨ V = putI (putI W b1 z2 a6 c6) b2 p ax cx) → P4 V b1 b2 b3 b4 (z2, p, q, f) ∧ IZ V (some ⟨ga, 1, none⟩) (nzT l) ∧ Below w.heap.size w V) := by
          intro W V a6 c6 hW hm hV
          have hPW := hPH.out.below hW
          have h1 := hPW.put1 hN4.out hm (hixH.out.up hW)
          have hIW := hIH.out.below hW
          have hIV : IZ (putI (putI W b1 z2 a6 c6) b2 p ax cx) (some ⟨ga, 1, none⟩) (nzT l) := PIs.izPut (PIs.other (m := z2) (a := a6) (c := c6) hPW.x hPW.e ne21) (hPW.x.izPut hIW)
          have hbV : Below w.heap.size w (putI (putI W b1 z2 a6 c6) b2 p ax cx) := putI_below (putI_below (bseqT hblH.out hW) hwb) hbsH.out.1
          rcases hV with rfl | rfl
          · exact ⟨h1.below (Below.drew (Below.refl _ _)), hIV.below (Below.drew (Below.refl _ _)), Below.drew hbV⟩
          · exact ⟨h1, hIV, hbV⟩
        go_upto_region 18 with (fail)
        obtain ⟨k1, k2, k3, k4⟩ := hq0H.out
        -- tail S: fun W => Below wr.heap.size wr W ∧ W.cell? ⟨b1, 0, none⟩ = some (.bool (ng (p : Int))) ∧ W.cell? ⟨b1, 1, none⟩ = some (.slice ax (LI (p : Int)) cx) ∧ W.cell? ⟨b2, 0, none⟩ = some (.bool (ng (e : Int))) ∧ W.cell? ⟨b2, 1, none⟩ = some (.slice ae (LI (e : Int)) ce)
        -- tail s0: ⟨Below.drew hB0, hup.out _ (Below.drew hB0)⟩
        -- arm 1: go_at_call 28; (with_reducible refine (ofN a _ (by omega)).mono ?_); rintro e w4 ⟨a4, c4, rfl, hm4, hb4⟩; have hm4H := Lib.hid hm4; have hq4 : Below wr.heap.size wr w4 := bseqT hHeld.1 hb4
        -- arm 1 s: ⟨hq4, hup.out _ hq4⟩
        -- arm 3: go_at_call 29; (with_reducible refine (mulN3 a4 ax c4 cx a p z1 _ hm4H.out (hixH.out.up hq4) (by have := la.out; omega) (by have := lp.out; omega) hz1H.out).mono ?_); rintro e w5 ⟨a5, c5, rfl, hm5, hb5⟩; have hm5H := Lib.hid hm5; have hq5 : Below wr.heap.size wr w5 := bseqT hq4 hb5
        -- arm 3 s: ⟨hq5, hup.out _ hq5⟩
        -- arm 5: go_at_call 30; (with_reducible refine (addN3 a5 ae c5 ce z1 e z2 _ hm5H.out (hieH.out.up hq5) (by have := lz1.out; omega) (by have := le.out; omega) hz2H.out).mono ?_); rintro e w6 ⟨a6, c6, rfl, hm6, hb6⟩; have hm6H := Lib.hid hm6; have hq6 : Below wr.heap.size wr w6 := bseqT hq5 hb6; have fz1 := Blk.frozen (Blk.later hbxH.out hq6); have fz2 := Blk.frozen (Blk.later hbeH.out hq6)
        -- arm 5 s: ⟨hq6, hup.out _ hq6⟩
        -- tail xc 0 2 4 6 c1 c3 c5 t7 t8
        refine wp_region_tail (fun W => Below wr.heap.size wr W ∧ W.cell? ⟨b1, 0, none⟩ = some (.bool (ng (p : Int))) ∧ W.cell? ⟨b1, 1, none⟩ = some (.slice ax (LI (p : Int)) cx) ∧ W.cell? ⟨b2, 0, none⟩ = some (.bool (ng (e : Int))) ∧ W.cell? ⟨b2, 1, none⟩ = some (.slice ae (LI (e : Int)) ce)) (fun j => decide (7 ≤ j)) (by kernel_rfl) (⟨Below.drew hB0, hup.out _ (Below.drew hB0)⟩) (fun hHeld => ?_)
        refine wpAnyT_take (i := 0) (oi := ?oixc0) (v := ?vxc0) ?hoxc0 (by kernel_rfl) (by kernel_rfl) (by kernel_rfl) (by kernel_rfl) ?hqxc0 (Or.inl ⟨?hwxc0, ?hyxc0⟩) (by assumption) ?_
        case hoxc0 => rfl
        case hwxc0 => rfl
        case hyxc0 => (intro w hSw; (try dsimp only at hSw); go_split_ands; go_simp; (try (with_reducible rfl)))
        case hqxc0 => exact fun _ _ _ h => h
        simp only [Act.put, List.getElem_toArray, List.getElem_cons_zero, List.setIfInBounds_toArray, List.set_cons_zero, List.set_cons_succ]
        refine wpAnyT_take (i := 2) (oi := ?oixc2) (v := ?vxc2) ?hoxc2 (by kernel_rfl) (by kernel_rfl) (by kernel_rfl) (by kernel_rfl) ?hqxc2 (Or.inl ⟨?hwxc2, ?hyxc2⟩) (by assumption) ?_
        case hoxc2 => rfl
        case hwxc2 => rfl
        case hyxc2 => (intro w hSw; (try dsimp only at hSw); go_split_ands; go_simp; (try (with_reducible rfl)))
        case hqxc2 => exact fun _ _ _ h => h
        simp only [Act.put, List.getElem_toArray, List.getElem_cons_succ, List.getElem_cons_zero, List.setIfInBounds_toArray, List.set_cons_zero, List.set_cons_succ]
        refine wpAnyT_take (i := 4) (oi := ?oixc4) (v := ?vxc4) ?hoxc4 (by kernel_rfl) (by kernel_rfl) (by kernel_rfl) (by kernel_rfl) ?hqxc4 (Or.inl ⟨?hwxc4, ?hyxc4⟩) (by assumption) ?_
        case hoxc4 => rfl
        case hwxc4 => rfl
        case hyxc4 => (intro w hSw; (try dsimp only at hSw); go_split_ands; go_simp; (try (with_reducible rfl)))
        case hqxc4 => exact fun _ _ _ h => h
        simp only [Act.put, List.getElem_toArray, List.getElem_cons_succ, List.getElem_cons_zero, List.setIfInBounds_toArray, List.set_cons_zero, List.set_cons_succ]
        refine wpAnyT_take (i := 6) (oi := ?oixc6) (v := ?vxc6) ?hoxc6 (by kernel_rfl) (by kernel_rfl) (by kernel_rfl) (by kernel_rfl) ?hqxc6 (Or.inl ⟨?hwxc6, ?hyxc6⟩) (by assumption) ?_
        case hoxc6 => rfl
        case hwxc6 => rfl
        case hyxc6 => (intro w hSw; (try dsimp only at hSw); go_split_ands; go_simp; (try (with_reducible rfl)))
        case hqxc6 => exact fun _ _ _ h => h
        simp only [Act.put, List.getElem_toArray, List.getElem_cons_succ, List.getElem_cons_zero, List.setIfInBounds_toArray, List.set_cons_zero, List.set_cons_succ]
        refine wpAnyT_one (i := 1) (o := ?oixc1) (by kernel_rfl) ?hoxc1 (fun K hK => ?_)
        case hoxc1 => rfl
        rw [if_pos (by rfl)]
        go_simp
        go_at_call 28; (with_reducible refine (ofN a _ (by omega)).mono ?_); rintro e w4 ⟨a4, c4, rfl, hm4, hb4⟩; have hm4H := Lib.hid hm4; have hq4 : Below wr.heap.size wr w4 := bseqT hHeld.1 hb4
        (try go_wp2_with (fail))
        refine hK.out _ _ (fun _ => ⟨hq4, hup.out _ hq4⟩) (fun hHeld => ?_)
        replace hHeld := hHeld rfl
        clear hK K
        refine wpAnyT_one (i := 3) (o := ?oixc3) (by kernel_rfl) ?hoxc3 (fun K hK => ?_)
        case hoxc3 => rfl
        rw [if_pos (by rfl)]
        go_simp
        go_at_call 29; (with_reducible refine (mulN3 a4 ax c4 cx a p z1 _ hm4H.out (hixH.out.up hq4) (by have := la.out; omega) (by have := lp.out; omega) hz1H.out).mono ?_); rintro e w5 ⟨a5, c5, rfl, hm5, hb5⟩; have hm5H := Lib.hid hm5; have hq5 : Below wr.heap.size wr w5 := bseqT hq4 hb5
        (try go_wp2_with (fail))
        refine hK.out _ _ (fun _ => ⟨hq5, hup.out _ hq5⟩) (fun hHeld => ?_)
        replace hHeld := hHeld rfl
        clear hK K
        refine wpAnyT_one (i := 5) (o := ?oixc5) (by kernel_rfl) ?hoxc5 (fun K hK => ?_)
        case hoxc5 => rfl
        rw [if_pos (by rfl)]
        go_simp
        go_at_call 30; (with_reducible refine (addN3 a5 ae c5 ce z1 e z2 _ hm5H.out (hieH.out.up hq5) (by have := lz1.out; omega) (by have := le.out; omega) hz2H.out).mono ?_); rintro e w6 ⟨a6, c6, rfl, hm6, hb6⟩; have hm6H := Lib.hid hm6; have hq6 : Below wr.heap.size wr w6 := bseqT hq5 hb6; have fz1 := Blk.frozen (Blk.later hbxH.out hq6); have fz2 := Blk.frozen (Blk.later hbeH.out hq6)
        (try go_wp2_with (fail))
        refine hK.out _ _ (fun _ => ⟨hq6, hup.out _ hq6⟩) (fun hHeld => ?_)
        replace hHeld := hHeld rfl
        clear hK K
        refine wpAnyT_one (i := 7) (o := ?oixc7) (by kernel_rfl) ?hoxc7 (fun K hK => ?_)
        case hoxc7 => rfl
        rw [if_pos (by rfl)]
        go_simp
        refine hK.out _ _ (fun h0 => by cases h0) (fun _ => ?_)
        clear hK K
        refine wpAnyT_one (i := 8) (o := ?oixc8) (by kernel_rfl) ?hoxc8 (fun K hK => ?_)
        case hoxc8 => rfl
        rw [if_pos (by rfl)]
        go_simp
        refine hK.out _ _ (fun h0 => by cases h0) (fun _ => ?_)
        clear hK K
        refine wpAnyT_done (by kernel_rfl) ?_ _
        -- tail end
        obtain ⟨V1, hV1⟩ : ∃ V, V = putI (putI w6 b1 z2 a6 c6) b2 p ax cx := ⟨_, rfl⟩
        have hV1' : (((w6.setCell ⟨b1, 0, none⟩ (.bool (ng (z2 : Int)))).setCell ⟨b1, 1, none⟩ (.slice a6 (LI (z2 : Int)) c6)).setCell ⟨b2, 0, none⟩ (.bool (ng (p : Int)))).setCell ⟨b2, 1, none⟩ (.slice ax (LI (p : Int)) cx) = V1 := hV1.symm
        rw [hV1']
        obtain ⟨hP1, hI1, hbl1⟩ := hstep1.out w6 V1 a6 c6 hq6 hm6H.out (.inr hV1)
        have hP1H := Lib.hid hP1
        have hI1H := Lib.hid hI1
        have hbl1H := Lib.hid hbl1
        clear hV1 hV1' hP1 hI1 hbl1 hstep1 hq4 hq5 hq6 fz1 fz2 hHeld hm4H hm5H hm6H hup k1 k2 k3 k4 hPH hblH hIH hbxH hbeH hixH hieH hz1H hz2H hB0 cz cz2 lz1 le ne12 ne21 hokH hendH
        obtain ⟨ay, cy, hby, hiy⟩ := hP1H.out.y
        obtain ⟨af, cf, hbf, hif⟩ := hP1H.out.f
        have hbyH := Lib.hid hby
        have hbfH := Lib.hid hbf
        have hiyH := Lib.hid hiy
        have hifH := Lib.hid hif
        have hq0 : V1.cell? ⟨b3, 0, none⟩ = some (.bool (ng (q : Int))) ∧ V1.cell? ⟨b3, 1, none⟩ = some (.slice ay (LI (q : Int)) cy) ∧ V1.cell? ⟨b4, 0, none⟩ = some (.bool (ng (f : Int))) ∧ V1.cell? ⟨b4, 1, none⟩ = some (.slice af (LI (f : Int)) cf) := ⟨by rw [hby.cell]; rfl, by rw [hby.cell]; rfl, by rw [hbf.cell]; rfl, by rw [hbf.cell]; rfl⟩
        have hup : Hid (∀ W, Below V1.heap.size V1 W → W.cell? ⟨b3, 0, none⟩ = some (.bool (ng (q : Int))) ∧ W.cell? ⟨b3, 1, none⟩ = some (.slice ay (LI (q : Int)) cy) ∧ W.cell? ⟨b4, 0, none⟩ = some (.bool (ng (f : Int))) ∧ W.cell? ⟨b4, 1, none⟩ = some (.slice af (LI (f : Int)) cf)) := fun W hW =>
          ⟨Below.cellAt hW (Nat.le_refl _) hq0.1, Below.cellAt hW (Nat.le_refl _) hq0.2.1, Below.cellAt hW (Nat.le_refl _) hq0.2.2.1, Below.cellAt hW (Nat.le_refl _) hq0.2.2.2⟩
        have ne34 := hN4.out.n34
        have ne43 := hN4.out.n34.symm
        have hB0 : Below V1.heap.size V1 V1 := Below.refl _ _
        have hstep2 : Hid (∀ (W V : World) (a6 : Option Addr) (c6 : Nat), Below V1.heap.size V1 W → IM W a6 c6 (z4 : Int) → V = putI (putI W b3 z4 a6 c6) b4 q ay cy → P4 V b1 b2 b3 b4 (z2, p, z4, q) ∧ IZ V (some ⟨ga, 1, none⟩) (nzT l) ∧ Below w.heap.size w V) := by
          intro W V a6 c6 hW hm hV
          have hPW := hP1H.out.below hW
          have h1 := hPW.put2 hN4.out hm (hiyH.out.up hW)
          have hIW := hI1H.out.below hW
          have hIV : IZ (putI (putI W b3 z4 a6 c6) b4 q ay cy) (some ⟨ga, 1, none⟩) (nzT l) := PIs.izPut (PIs.other (m := z4) (a := a6) (c := c6) hPW.y hPW.f ne43) (hPW.y.izPut hIW)
          have hbV : Below w.heap.size w (putI (putI W b3 z4 a6 c6) b4 q ay cy) := putI_below (putI_below (bseqT hbl1H.out hW) hbsH.out.2.1) hbsH.out.2.2
          rw [hV]
          exact ⟨h1, hIV, hbV⟩
        clear hby hbf hiy hif
        go_upto_region 19 with (fail)
        obtain ⟨k1, k2, k3, k4⟩ := hq0
        -- tail S: fun W => Below V1.heap.size V1 W ∧ W.cell? ⟨b3, 0, none⟩ = some (.bool (ng (q : Int))) ∧ W.cell? ⟨b3, 1, none⟩ = some (.slice ay (LI (q : Int)) cy) ∧ W.cell? ⟨b4, 0, none⟩ = some (.bool (ng (f : Int))) ∧ W.cell? ⟨b4, 1, none⟩ = some (.slice af (LI (f : Int)) cf)
        -- tail s0: ⟨Below.drew hB0, hup.out _ (Below.drew hB0)⟩
        -- arm 1: go_at_call 28; (with_reducible refine (ofN a _ (by omega)).mono ?_); rintro e w4 ⟨a4, c4, rfl, hm4, hb4⟩; have hm4H := Lib.hid hm4; have hq4 : Below V1.heap.size V1 w4 := bseqT hHeld.1 hb4
        -- arm 1 s: ⟨hq4, hup.out _ hq4⟩
        -- arm 3: go_at_call 29; (with_reducible refine (mulN3 a4 ay c4 cy a q z3 _ hm4H.out (hiyH.out.up hq4) (by have := la.out; omega) (by have := lq.out; omega) hz3H.out).mono ?_); rintro e w5 ⟨a5, c5, rfl, hm5, hb5⟩; have hm5H := Lib.hid hm5; have hq5 : Below V1.heap.size V1 w5 := bseqT hq4 hb5
        -- arm 3 s: ⟨hq5, hup.out _ hq5⟩
        -- arm 5: go_at_call 30; (with_reducible refine (addN3 a5 af c5 cf z3 f z4 _ hm5H.out (hifH.out.up hq5) (by have := lz3.out; omega) (by have := lf.out; omega) hz4H.out).mono ?_); rintro e w6 ⟨a6, c6, rfl, hm6, hb6⟩; have hm6H := Lib.hid hm6; have hq6 : Below V1.heap.size V1 w6 := bseqT hq5 hb6; have fz1 := Blk.frozen (Blk.later hbyH.out hq6); have fz2 := Blk.frozen (Blk.later hbfH.out hq6)
        -- arm 5 s: ⟨hq6, hup.out _ hq6⟩
        -- tail yc 0 2 4 6 c1 c3 c5 t7 t8
        refine wp_region_tail (fun W => Below V1.heap.size V1 W ∧ W.cell? ⟨b3, 0, none⟩ = some (.bool (ng (q : Int))) ∧ W.cell? ⟨b3, 1, none⟩ = some (.slice ay (LI (q : Int)) cy) ∧ W.cell? ⟨b4, 0, none⟩ = some (.bool (ng (f : Int))) ∧ W.cell? ⟨b4, 1, none⟩ = some (.slice af (LI (f : Int)) cf)) (fun j => decide (7 ≤ j)) (by kernel_rfl) (⟨Below.drew hB0, hup.out _ (Below.drew hB0)⟩) (fun hHeld => ?_)
        refine wpAnyT_take (i := 0) (oi := ?oiyc0) (v := ?vyc0) ?hoyc0 (by kernel_rfl) (by kernel_rfl) (by kernel_rfl) (by kernel_rfl) ?hqyc0 (Or.inl ⟨?hwyc0, ?hyyc0⟩) (by assumption) ?_
        case hoyc0 => rfl
        case hwyc0 => rfl
        case hyyc0 => (intro w hSw; (try dsimp only at hSw); go_split_ands; go_simp; (try (with_reducible rfl)))
        case hqyc0 => exact fun _ _ _ h => h
        simp only [Act.put, List.getElem_toArray, List.getElem_cons_zero, List.setIfInBounds_toArray, List.set_cons_zero, List.set_cons_succ]
        refine wpAnyT_take (i := 2) (oi := ?oiyc2) (v := ?vyc2) ?hoyc2 (by kernel_rfl) (by kernel_rfl) (by kernel_rfl) (by kernel_rfl) ?hqyc2 (Or.inl ⟨?hwyc2, ?hyyc2⟩) (by assumption) ?_
        case hoyc2 => rfl
        case hwyc2 => rfl
        case hyyc2 => (intro w hSw; (try dsimp only at hSw); go_split_ands; go_simp; (try (with_reducible rfl)))
        case hqyc2 => exact fun _ _ _ h => h
        simp only [Act.put, List.getElem_toArray, List.getElem_cons_succ, List.getElem_cons_zero, List.setIfInBounds_toArray, List.set_cons_zero, List.set_cons_succ]
        refine wpAnyT_take (i := 4) (oi := ?oiyc4) (v := ?vyc4) ?hoyc4 (by kernel_rfl) (by kernel_rfl) (by kernel_rfl) (by kernel_rfl) ?hqyc4 (Or.inl ⟨?hwyc4, ?hyyc4⟩) (by assumption) ?_
        case hoyc4 => rfl
        case hwyc4 => rfl
        case hyyc4 => (intro w hSw; (try dsimp only at hSw); go_split_ands; go_simp; (try (with_reducible rfl)))
        case hqyc4 => exact fun _ _ _ h => h
        simp only [Act.put, List.getElem_toArray, List.getElem_cons_succ, List.getElem_cons_zero, List.setIfInBounds_toArray, List.set_cons_zero, List.set_cons_succ]
        refine wpAnyT_take (i := 6) (oi := ?oiyc6) (v := ?vyc6) ?hoyc6 (by kernel_rfl) (by kernel_rfl) (by kernel_rfl) (by kernel_rfl) ?hqyc6 (Or.inl ⟨?hwyc6, ?hyyc6⟩) (by assumption) ?_
        case hoyc6 => rfl
        case hwyc6 => rfl
        case hyyc6 => (intro w hSw; (try dsimp only at hSw); go_split_ands; go_simp; (try (with_reducible rfl)))
        case hqyc6 => exact fun _ _ _ h => h
        simp only [Act.put, List.getElem_toArray, List.getElem_cons_succ, List.getElem_cons_zero, List.setIfInBounds_toArray, List.set_cons_zero, List.set_cons_succ]
        refine wpAnyT_one (i := 1) (o := ?oiyc1) (by kernel_rfl) ?hoyc1 (fun K hK => ?_)
        case hoyc1 => rfl
        rw [if_pos (by rfl)]
        go_simp
        go_at_call 28; (with_reducible refine (ofN a _ (by omega)).mono ?_); rintro e w4 ⟨a4, c4, rfl, hm4, hb4⟩; have hm4H := Lib.hid hm4; have hq4 : Below V1.heap.size V1 w4 := bseqT hHeld.1 hb4
        (try go_wp2_with (fail))
        refine hK.out _ _ (fun _ => ⟨hq4, hup.out _ hq4⟩) (fun hHeld => ?_)
        replace hHeld := hHeld rfl
        clear hK K
        refine wpAnyT_one (i := 3) (o := ?oiyc3) (by kernel_rfl) ?hoyc3 (fun K hK => ?_)
        case hoyc3 => rfl
        rw [if_pos (by rfl)]
        go_simp
        go_at_call 29; (with_reducible refine (mulN3 a4 ay c4 cy a q z3 _ hm4H.out (hiyH.out.up hq4) (by have := la.out; omega) (by have := lq.out; omega) hz3H.out).mono ?_); rintro e w5 ⟨a5, c5, rfl, hm5, hb5⟩; have hm5H := Lib.hid hm5; have hq5 : Below V1.heap.size V1 w5 := bseqT hq4 hb5
        (try go_wp2_with (fail))
        refine hK.out _ _ (fun _ => ⟨hq5, hup.out _ hq5⟩) (fun hHeld => ?_)
        replace hHeld := hHeld rfl
        clear hK K
        refine wpAnyT_one (i := 5) (o := ?oiyc5) (by kernel_rfl) ?hoyc5 (fun K hK => ?_)
        case hoyc5 => rfl
        rw [if_pos (by rfl)]
        go_simp
        go_at_call 30; (with_reducible refine (addN3 a5 af c5 cf z3 f z4 _ hm5H.out (hifH.out.up hq5) (by have := lz3.out; omega) (by have := lf.out; omega) hz4H.out).mono ?_); rintro e w6 ⟨a6, c6, rfl, hm6, hb6⟩; have hm6H := Lib.hid hm6; have hq6 : Below V1.heap.size V1 w6 := bseqT hq5 hb6; have fz1 := Blk.frozen (Blk.later hbyH.out hq6); have fz2 := Blk.frozen (Blk.later hbfH.out hq6)
        (try go_wp2_with (fail))
        refine hK.out _ _ (fun _ => ⟨hq6, hup.out _ hq6⟩) (fun hHeld => ?_)
        replace hHeld := hHeld rfl
        clear hK K
        refine wpAnyT_one (i := 7) (o := ?oiyc7) (by kernel_rfl) ?hoyc7 (fun K hK => ?_)
        case hoyc7 => rfl
        rw [if_pos (by rfl)]
        go_simp
        refine hK.out _ _ (fun h0 => by cases h0) (fun _ => ?_)
        clear hK K
        refine wpAnyT_one (i := 8) (o := ?oiyc8) (by kernel_rfl) ?hoyc8 (fun K hK => ?_)
        case hoyc8 => rfl
        rw [if_pos (by rfl)]
        go_simp
        refine hK.out _ _ (fun h0 => by cases h0) (fun _ => ?_)
        clear hK K
        refine wpAnyT_done (by kernel_rfl) ?_ _
        -- tail end
        obtain ⟨V2, hV2⟩ : ∃ V, V = putI (putI w6 b3 z4 a6 c6) b4 q ay cy := ⟨_, rfl⟩
        have hV2' : (((w6.setCell ⟨b3, 0, none⟩ (.bool (ng (z4 : Int)))).setCell ⟨b3, 1, none⟩ (.slice a6 (LI (z4 : Int)) c6)).setCell ⟨b4, 0, none⟩ (.bool (ng (q : Int)))).setCell ⟨b4, 1, none⟩ (.slice ay (LI (q : Int)) cy) = V2 := hV2.symm
        rw [hV2']
        obtain ⟨hP2, hI2, hbl2⟩ := hstep2.out w6 V2 a6 c6 hq6 hm6H.out hV2
        have hP2H := Lib.hid hP2
        have hI2H := Lib.hid hI2
        have hbl2H := Lib.hid hbl2
        clear hV2 hV2' hP2 hI2 hbl2 hstep2 hq4 hq5 hq6 fz1 fz2 hHeld hm4H hm5H hm6H hup k1 k2 k3 k4 hP1H hbl1H hI1H hbyH hbfH hiyH hifH hB0
        go_wp2_with (fail)
        go_roundw
        case rel => exact ⟨i + 1, (z2, p, z4, q), by go_num, by omega, hP2H.out, hok3.out, hend3.out, hI2H.out, hbl2H.out⟩
        case measure => simp [intOf]; omega
      · obtain rfl : i = T := by omega
        have hdr : l.drop i = [] := List.drop_eq_nil_of_le (by rw [hll.out]; exact Nat.le_refl _)
        have hok1 := hokH.out
        have hend1 := hendH.out
        rw [hdr] at hok1 hend1
        unfold allOk stOk at hok1
        simp only [Bool.and_eq_true, decide_eq_true_eq] at hok1
        obtain ⟨⟨⟨hp, he⟩, hq⟩, hf⟩ := hok1
        have hend2 : (p, e, q, f) = cvEnd (cv0 n) l := hend1
        rw [← hend2] at hxH hyH
        have hpx : p = x := hxH.out
        have hqy : q = y := hyH.out
        subst hpx hqy
        obtain ⟨ax, cx, hbx, hix⟩ := hPH.out.x
        obtain ⟨ay, cy, hby, hiy⟩ := hPH.out.y
        have hixH := Lib.hid hix
        have hiyH := Lib.hid hiy
        have k1 : wr.cell? ⟨b1, 0, none⟩ = some (.bool (ng (p : Int))) := by rw [hbx.cell]; rfl
        have k2 : wr.cell? ⟨b1, 1, none⟩ = some (.slice ax (LI (p : Int)) cx) := by rw [hbx.cell]; rfl
        have k3 : Hid (∀ W, Below wr.heap.size wr W → W.cell? ⟨b3, 0, none⟩ = some (.bool (ng (q : Int))) ∧ W.cell? ⟨b3, 1, none⟩ = some (.slice ay (LI (q : Int)) cy)) := fun W hW => ⟨Below.cellAt hW (Nat.le_refl _) (by rw [hby.cell]; rfl), Below.cellAt hW (Nat.le_refl _) (by rw [hby.cell]; rfl)⟩
        have lx := Lib.hid (RetNumN_of hp)
        have ly := Lib.hid (RetNumN_of hq)
        have hnii : ¬ (i : Int) < (i : Int) := by omega
        clear hdr hend1 hend2 hp he hq hf hxH hyH hokH hendH hiT hi
        go_upto_region 22 with (first
          | (go_at_call 31; (with_reducible refine (fromIntN ax cx p _ hixH.out).mono ?_); rintro e w4 ⟨a4, c4, a5, c5, rfl, hm4, hb4⟩; have hm4H := Lib.hid hm4; have hb4H := Lib.hid hb4; obtain ⟨k5, k6⟩ := k3.out _ hb4; clear hm4 hb4)
          | (go_at_call 32; (with_reducible refine (lx.out _ _ _ _ _ hm4H.out).mono ?_); rintro e w5 ⟨rfl, hb5⟩; have hb5H := Lib.hid (bseqT hb4H.out hb5); obtain ⟨k7, k8⟩ := k3.out _ hb5H.out; clear hb5))
        go_wp2_with (first
          | (go_at_call 31; (with_reducible refine (fromIntN ay cy q _ (hiyH.out.up hb5H.out)).mono ?_); rintro e w6 ⟨a6, c6, a7, c7, rfl, hm6, hb6⟩; have hm6H := Lib.hid hm6; have hb6H := Lib.hid (bseqT hb5H.out hb6); clear hm6 hb6)
          | (go_at_call 32; (with_reducible refine (ly.out _ _ _ _ _ hm6H.out).mono ?_); rintro e w7 ⟨rfl, hb7⟩; have hb7H := Lib.hid (bseqT hb6H.out hb7); clear hb7))
        go_ret3
        exact ⟨rfl, bseqT hblH.out hb7H.out⟩
end Go.Proofs.YtbehfhmdilifkaaGreat
