/- Wb -/
import Derived.Test.YteiipfajoikfpaaQWa
import Derived.Test.YteiipfajoikfpaaQUn
import Derived.Test.YteiipfajoikfpaaQPa
set_option linter.unusedVariables false
/- Walk of the reference's Covers. -/
namespace Go.Proofs.Yteiipfajoikfpaa
open Go Go.RowKit Go.Proofs

def covB (A : Nat → Nat → Bool) (n : Nat) (rs cs : List Nat) : Bool := (List.range n).all fun i => (List.range n).all fun j => !A i j || (rs.contains i || cs.contains j)
theorem covB_iff {A : Nat → Nat → Bool} {n : Nat} {rs cs : List Nat} : covB A n rs cs = true ↔ Cov A n rs cs := by
  unfold covB Cov
  simp only [List.all_eq_true, List.mem_range, Bool.or_eq_true, Bool.not_eq_true', List.contains_iff_mem]
  constructor
  · intro h i j hi hj hA
    rcases h i hi j hj with h1 | h1
    · rw [hA] at h1; cases h1
    · exact h1
  · intro h i hi j hj
    rcases hA : A i j
    · exact .inl rfl
    · exact .inr (h i j hi hj hA)
theorem covB_no {A : Nat → Nat → Bool} {n : Nat} {rs cs : List Nat} {i j : Nat} (hi : i < n) (hj : j < n) (hA : A i j = true) (h1 : i ∉ rs) (h2 : j ∉ cs) : covB A n rs cs = false := by
  rcases hb : covB A n rs cs
  · rfl
  · rcases covB_iff.1 hb i j hi hj hA with h | h
    · exact absurd h h1
    · exact absurd h h2
theorem Asc.shortJ {n : Nat} {p : List Nat} (h : Asc n 0 p) : p.length ≤ n := by
  rcases h.len with h1 | h1
  · omega
  · subst h1; simp
set_option maxRecDepth 100000 in
set_option maxHeartbeats 12800000 in
theorem coversR_any (ao aR aC : Option Addr) (c n lR cR lC cC : Nat) (C : List (List Int)) (z : Int) (rs cs : List Nat) (b : Bool) (w : World) (h : IMx w ao C) (hg : goodC C) (hn : C.length = n) (hR : IZ w aR (nz rs)) (hC : IZ w aC (nz cs))
    (hlR : rs.length = lR) (hlC : cs.length = lC) (hcR : lR ≤ cR) (hcC : lC ≤ cC) (hrA : Asc n 0 rs) (hcA : Asc n 0 cs) (hb : covB (upA C z) n rs cs = b) :
    Calls Try.prog 41 #[.slice ao n c, .int .i64 z, .slice aR lR cR, .slice aC lC cC] w (RetB w b) := by
  have hn8 : n ≤ 8 := by rw [← hn]; exact hg.2.1
  have hn1 : 1 ≤ n := by rw [← hn]; exact hg.1
  have hlR8 : lR ≤ 8 := by rw [← hlR]; exact Nat.le_trans hrA.shortJ hn8
  have hlC8 : lC ≤ 8 := by rw [← hlC]; exact Nat.le_trans hcA.shortJ hn8
  have hH := Lib.hid h
  have hgH := Lib.hid hg
  have hnH := Lib.hid hn
  have hRH := Lib.hid hR
  have hCH := Lib.hid hC
  have hlRH := Lib.hid hlR
  have hlCH := Lib.hid hlC
  have hrAH := Lib.hid hrA
  have hcAH := Lib.hid hcA
  have hbH := Lib.hid hb
  have wn : IntKind.i64.wrap ((n : Int) - 1) = (n : Int) - 1 := by rw [IntKind.wrap_i64]; omega
  clear h hg hn hR hC hlR hlC hrA hcA hb
  go_enter Try.func41, Try.ntmps41
  go_upto_region 2 with (fail)
  obtain ⟨V, hV⟩ : ∃ V, V = w.alloc (Obj.cells #[.slice aR lR cR, .slice aC lC cC] 24) := ⟨_, rfl⟩
  rw [← hV]
  have c0 := Lib.hid (show V.cell? ⟨w.heap.size, 0, none⟩ = some (.slice aR lR cR) by rw [hV, al_new rfl]; rfl)
  have c1 := Lib.hid (show V.cell? ⟨w.heap.size, 1, none⟩ = some (.slice aC lC cC) by rw [hV, al_new rfl]; rfl)
  have hbV := Lib.hid (show Below w.heap.size w V by rw [hV]; exact below_al (Below.refl _ _) _)
  have hpart : Hid (∀ k, k < 2 → ∃ (a : Option Addr) (l d : Nat) (q : List Nat), V.cell? ⟨w.heap.size, k, none⟩ = some (.slice a l d) ∧ IZ w a (nz q) ∧ q.length = l ∧ l ≤ d ∧ Asc n 0 q) := fun k hk => by
    have : k = 0 ∨ k = 1 := by omega
    rcases this with rfl | rfl
    · exact ⟨aR, lR, cR, rs, c0.out, hRH.out, hlRH.out, hcR, hrAH.out⟩
    · exact ⟨aC, lC, cC, cs, c1.out, hCH.out, hlCH.out, hcC, hcAH.out⟩
  clear hV c0 c1
  go_wp2_with (fail)
  go_loopg [18] 2 (fun gk kv wr => ∃ k : Nat, kv = .int .i64 (k : Nat) ∧ k + gk = 2 ∧ Below V.heap.size V wr)
  case atStart => exact ⟨0, rfl, by omega, Below.refl _ _⟩
  case round =>
    obtain ⟨k, rfl, hk, hbl⟩ := hrel
    have hblH := Lib.hid hbl
    clear hbl
    by_cases hk2 : k < 2
    · obtain ⟨g1, rfl⟩ : ∃ g1, gk = g1 + 1 := ⟨gk - 1, by omega⟩
      obtain ⟨a, l, d, q, e0, hI, hl, hld, hA⟩ := hpart.out k hk2
      have e1 : wr.cell? ⟨w.heap.size, k, none⟩ = some (.slice a l d) := Below.cellAt hblH.out (Nat.le_refl _) e0
      have hl8 : l ≤ 8 := by rw [← hl]; exact Nat.le_trans hA.shortJ hn8
      have hIH := Lib.hid (hI.below hbV.out)
      have hlH := Lib.hid hl
      have hAlt := Lib.hid hA.lt
      have hAri := Lib.hid hA.rise
      have hkI : (k : Int) < 2 := by omega
      have hk0 : (0 : Int) ≤ (k : Int) := by omega
      have hk1B : decide ((1 : Int) < (k : Int)) = false := by simp; omega
      have hk1N : decide (1 < k) = false := by simp; omega
      clear e0 hI hl hA
      go_upto_region 4 with (fail)
      clear e1
      go_wp2_with (fail)
      go_loopg [11] l (fun gj iv wx => ∃ i : Nat, iv = .int .i64 (i : Nat) ∧ i + gj = l ∧ Below V.heap.size V wx)
      case atStart => exact ⟨0, rfl, by omega, hblH.out⟩
      case round =>
        clear hblH
        obtain ⟨i, rfl, hi, hbl⟩ := hrel
        have hblH := Lib.hid hbl
        clear hbl
        by_cases hil : i < l
        · obtain ⟨g2, rfl⟩ : ∃ g2, gk = g2 + 1 := ⟨gk - 1, by omega⟩
          have hiI : (i : Int) < (l : Int) := by omega
          have hi0 : (0 : Int) ≤ (i : Int) := by omega
          obtain ⟨x, hx⟩ : ∃ x, q[i]? = some x := ⟨_, List.getElem?_eq_getElem (by rw [hlH.out]; exact hil)⟩
          have hxn := hAlt.out x (List.mem_of_getElem? hx)
          have hI2 := hIH.out.below hblH.out
          obtain ⟨b1, o1, ha1, e1⟩ := hI2 i _ (nz_get hx)
          have ha1H := Lib.hid ha1
          subst ha1
          have hin : Hid (inB (x : Int) 0 ((n : Int) - 1) = true) := inB_true.2 ⟨by omega, by omega⟩
          by_cases hiz : i = 0
          · subst hiz
            rw [Nat.add_zero] at e1
            have hgt : decide ((0 : Int) < ((0 : Nat) : Int)) = false := by simp
            have hgt2 : decide ((0 : Int) < 0) = false := by simp
            clear hx hI2 hxn
            go_upto_region 7 with (fail)
            go_quiet (first
              | (go_at_call 52; exact quiet_sameJ (in_any (x : Int) 0 ((n : Int) - 1) true _ hin.out)))
            go_wp2_with (fail)
            go_roundg g2
            case measure => omega
            case rel => exact ⟨0 + 1, by go_num, by omega, bdn hblH.out⟩
          · obtain ⟨x2, hx2⟩ : ∃ x2, q[i - 1]? = some x2 := ⟨_, List.getElem?_eq_getElem (by rw [hlH.out]; omega)⟩
            have hlt2 : x2 < x := by
              obtain ⟨h1, e1⟩ := List.getElem?_eq_some_iff.1 hx
              obtain ⟨h2, e2⟩ := List.getElem?_eq_some_iff.1 hx2
              have := List.pairwise_iff_getElem.1 hAri.out (i - 1) i h2 h1 (by omega)
              rw [e1, e2] at this; exact this
            obtain ⟨b2, o2, ha2, e3⟩ := hI2 (i - 1) _ (nz_get hx2)
            injection ha2 with ha2
            injection ha2 with q1 q2
            subst q1 q2
            obtain ⟨i2, hi2⟩ : ∃ i2, i - 1 = i2 := ⟨_, rfl⟩
            rw [hi2] at e3
            have hi2I : (i : Int) - 1 = (i2 : Int) := by omega
            have wi2 : IntKind.i64.wrap ((i : Int) - 1) = (i2 : Int) := by rw [IntKind.wrap_i64]; omega
            have hi2u : (i2 : Int) < (l : Int) := by omega
            have hi20 : (0 : Int) ≤ (i2 : Int) := by omega
            have hgt : decide ((0 : Int) < (i : Int)) = true := by simp; omega
            have hgtN : decide (0 < i) = true := by simp; omega
            have hge : decide ((x : Int) ≤ (x2 : Int)) = false := by simp; omega
            have hgeN : decide (x ≤ x2) = false := by simp; omega
            clear hx hx2 hI2 hi2 hxn
            go_upto_region 7 with (fail)
            go_quiet (first
              | (go_at_call 52; exact quiet_sameJ (in_any (x : Int) 0 ((n : Int) - 1) true _ hin.out)))
            go_wp2_with (fail)
            go_roundg g2
            case measure => omega
            case rel => exact ⟨i + 1, by go_num, by omega, bdn hblH.out⟩
        · have hie : l = i := by omega
          subst hie
          have hiI : ¬ (l : Int) < (l : Int) := by omega
          go_wp2_with (fail)
          go_roundg g1
          case measure => omega
          case rel => exact ⟨k + 1, by go_num, by omega, hblH.out⟩
    · have hke : k = 2 := by omega
      subst hke
      have hbw := Lib.hid (bseqJ hbV.out hblH.out)
      clear hpart hblH hbV
      go_wp2_with (fail)
      go_loopg [12] n (fun gk iv wx => ∃ i : Nat, iv = .int .i64 (i : Nat) ∧ i + gk = n ∧ (∀ a, a < i → ∀ d, d < n → upA C z a d = true → a ∈ rs ∨ d ∈ cs) ∧ Below w.heap.size w wx)
      case atStart => exact ⟨0, rfl, by omega, fun a ha => absurd ha (Nat.not_lt_zero _), hbw.out⟩
      case round =>
        clear hbw
        obtain ⟨i, rfl, hi, hall, hbl⟩ := hrel
        have hallH := Lib.hid hall
        have hblH := Lib.hid hbl
        clear hall hbl
        by_cases hin : i < n
        · obtain ⟨g1, rfl⟩ : ∃ g1, gk = g1 + 1 := ⟨gk - 1, by omega⟩
          have hiI : (i : Int) < (n : Int) := by omega
          have hi0 : (0 : Int) ≤ (i : Int) := by omega
          go_wp2_with (fail)
          go_loopg [13] n (fun gj jv wx => ∃ j : Nat, jv = .int .i64 (j : Nat) ∧ j + gj = n ∧ (∀ d, d < j → upA C z i d = true → i ∈ rs ∨ d ∈ cs) ∧ Below w.heap.size w wx)
          case atStart => exact ⟨0, rfl, by omega, fun d hd => absurd hd (Nat.not_lt_zero _), hblH.out⟩
          case round =>
            clear hblH
            obtain ⟨j, rfl, hj, hrow, hbl⟩ := hrel
            have hrowH := Lib.hid hrow
            have hblH := Lib.hid hbl
            clear hrow hbl
            by_cases hjn : j < n
            · obtain ⟨g2, rfl⟩ : ∃ g2, gk = g2 + 1 := ⟨gk - 1, by omega⟩
              have hjI : (j : Int) < (n : Int) := by omega
              have hj0 : (0 : Int) ≤ (j : Int) := by omega
              obtain ⟨b5, o5, b6, o6, c6, hao, f1, hc6, f2, q0, q1⟩ := (hH.out.below hblH.out).cost hgH.out hnH.out hin hjn
              have haoH := Lib.hid hao
              subst hao
              obtain ⟨y, hy⟩ : ∃ y, cst C i j = y := ⟨_, rfl⟩
              rw [hy] at f2
              have hup : Hid (upA C z i j = decide (y ≤ z)) := by show _ = _; rw [← hy]; rfl
              have hI1 := Lib.hid (hRH.out.below hblH.out)
              have hI2 := Lib.hid (hCH.out.below hblH.out)
              have hz1 : Hid ((nz rs).length = lR) := by show _ = _; rw [nz_length]; exact hlRH.out
              have hz2 : Hid ((nz cs).length = lC) := by show _ = _; rw [nz_length]; exact hlCH.out
              clear hy q0 q1
              by_cases hle : y ≤ z
              · have hleB : decide (y ≤ z) = true := by simpa using hle
                rcases h1 : hasB (nz rs) (i : Int)
                · have h1H := Lib.hid h1
                  clear h1
                  rcases h2 : hasB (nz cs) (j : Int)
                  · have h2H := Lib.hid h2
                    have hno := Lib.hid (covB_no (A := upA C z) hin hjn (by rw [hup.out]; exact hleB) (by have := h1H.out; rw [hasB_nz] at this; exact of_decide_eq_false this) (by have := h2H.out; rw [hasB_nz] at this; exact of_decide_eq_false this))
                    clear h2
                    go_wp2_with (first
                      | (go_at_call 62; (with_reducible refine (has_any aR cR lR (nz rs) (i : Nat) false _ hI1.out hz1.out (by omega) h1H.out).mono ?_); rintro e w1 ⟨rfl, rfl⟩)
                      | (go_at_call 62; (with_reducible refine (has_any aC cC lC (nz cs) (j : Nat) false _ hI2.out hz2.out (by omega) h2H.out).mono ?_); rintro e w1 ⟨rfl, rfl⟩))
                    go_ret
                    exact ⟨ret_boolJ (by rw [← hbH.out, hno.out]), hblH.out⟩
                  · have h2H := Lib.hid h2
                    clear h2
                    go_wp2_with (first
                      | (go_at_call 62; (with_reducible refine (has_any aR cR lR (nz rs) (i : Nat) false _ hI1.out hz1.out (by omega) h1H.out).mono ?_); rintro e w1 ⟨rfl, rfl⟩)
                      | (go_at_call 62; (with_reducible refine (has_any aC cC lC (nz cs) (j : Nat) true _ hI2.out hz2.out (by omega) h2H.out).mono ?_); rintro e w1 ⟨rfl, rfl⟩))
                    go_roundg g2
                    case measure => omega
                    case rel =>
                      refine ⟨j + 1, by go_num, by omega, fun d hd hA => ?_, hblH.out⟩
                      by_cases e : d = j
                      · subst e; right; have := h2H.out; rw [hasB_nz] at this; exact of_decide_eq_true this
                      · exact hrowH.out d (by omega) hA
                · have h1H := Lib.hid h1
                  clear h1
                  go_wp2_with (first
                    | (go_at_call 62; (with_reducible refine (has_any aR cR lR (nz rs) (i : Nat) true _ hI1.out hz1.out (by omega) h1H.out).mono ?_); rintro e w1 ⟨rfl, rfl⟩))
                  go_roundg g2
                  case measure => omega
                  case rel =>
                    refine ⟨j + 1, by go_num, by omega, fun d hd hA => ?_, hblH.out⟩
                    left; have := h1H.out; rw [hasB_nz] at this; exact of_decide_eq_true this
              · have hleB : decide (y ≤ z) = false := by simpa using hle
                go_wp2_with (fail)
                go_roundg g2
                case measure => omega
                case rel =>
                  refine ⟨j + 1, by go_num, by omega, fun d hd hA => ?_, hblH.out⟩
                  by_cases e : d = j
                  · subst e; rw [hup.out, hleB] at hA; cases hA
                  · exact hrowH.out d (by omega) hA
            · have hje : n = j := by omega
              subst hje
              have hjI : ¬ (n : Int) < (n : Int) := by omega
              go_wp2_with (fail)
              go_roundg g1
              case measure => omega
              case rel =>
                refine ⟨i + 1, by go_num, by omega, fun a ha d hd hA => ?_, hblH.out⟩
                by_cases e : a = i
                · subst e; exact hrowH.out d hd hA
                · exact hallH.out a (by omega) d hd hA
        · have hie : n = i := by omega
          subst hie
          have hiI : ¬ (n : Int) < (n : Int) := by omega
          go_wp2_with (fail)
          go_ret
          exact ⟨ret_boolJ (by rw [← hbH.out]; exact (covB_iff.2 fun i j hi hj hA => hallH.out i hi j hj hA).symm), hblH.out⟩
end Go.Proofs.Yteiipfajoikfpaa
