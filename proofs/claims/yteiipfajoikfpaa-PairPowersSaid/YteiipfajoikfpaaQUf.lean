/- Uf -/
import Derived.Test.YteiipfajoikfpaaQPd
import Derived.Test.YteiipfajoikfpaaQPa
import Derived.BigQuiet
set_option linter.unusedVariables false
/- Walks of the reference's Prices and Proves. -/
namespace Go.Proofs.Yteiipfajoikfpaa
open Go Go.RowKit Go.Proofs

/-- Prices in their range, n of them. -/
def rangeB (xs : List Int) (n : Nat) : Bool := decide ((∀ x ∈ xs, -1000000000 ≤ x ∧ x ≤ 1000000000) ∧ xs.length = n)
set_option maxHeartbeats 1600000 in
theorem pricesR_any (ao : Option Addr) (c l n : Nat) (xs : List Int) (b : Bool) (w : World) (h : IZ w ao xs) (hl : xs.length = l) (hl2 : l ≤ 9223372036854775807) (hb : rangeB xs n = b) :
    Calls Try.prog 34 #[.slice ao l c, .int .i64 (n : Nat)] w (RetB w b) := by
  have hH := Lib.hid h
  have hlH := Lib.hid hl
  have hbH := Lib.hid hb
  clear h hl hb
  go_enter Try.func34, Try.ntmps34
  go_wp2_with (fail)
  go_loopw [5] (fun i wr => ∃ k : Nat, i = .int .i64 (k : Nat) ∧ k ≤ l ∧ (∀ x ∈ xs.take k, -1000000000 ≤ x ∧ x ≤ 1000000000) ∧ wr = w) (fun i _ => l - (intOf i).toNat)
  case atStart => exact ⟨0, rfl, by omega, by simp, by trivial⟩
  case round =>
    obtain ⟨k, rfl, hk, hall, rfl⟩ := hrel
    have hallH := Lib.hid hall
    clear hall
    by_cases hkl : k < l
    · obtain ⟨b1, o1, rfl, c1⟩ := hH.out.at (i := k) (by rw [hlH.out]; exact hkl)
      have hkI : (k : Int) < (l : Int) := by omega
      have hk0 : (0 : Int) ≤ (k : Int) := by omega
      have ht := Lib.hid (take_at0 xs (k := k) (by rw [hlH.out]; exact hkl))
      have hm : Hid (at0 xs k ∈ xs) := List.mem_of_getElem? (at0_get (by rw [hlH.out]; exact hkl))
      obtain ⟨x, hx⟩ : ∃ x, at0 xs k = x := ⟨_, rfl⟩
      rw [hx] at c1
      have hxH := Lib.hid hx
      clear hx
      rcases hi : inB x (-1000000000) 1000000000
      · have hiH := Lib.hid hi
        clear hi
        go_wp2_with (go_at_call 52; (with_reducible refine (in_any x _ _ false _ hiH.out).mono ?_); rintro e w1 ⟨rfl, rfl⟩)
        go_ret
        refine ⟨ret_boolJ ?_, Below.refl _ _⟩
        rw [← hbH.out]
        refine (decide_eq_false fun hh => ?_).symm
        have h1 := hh.1 _ hm.out
        rw [hxH.out] at h1
        have h2 := hiH.out
        unfold inB at h2
        simp at h2
        omega
      · have hiH := Lib.hid hi
        clear hi
        go_wp2_with (go_at_call 52; (with_reducible refine (in_any x _ _ true _ hiH.out).mono ?_); rintro e w1 ⟨rfl, rfl⟩)
        go_roundw
        case rel =>
          refine ⟨k + 1, by go_num, by omega, ?_, by trivial⟩
          rw [ht.out, hxH.out]
          intro y hy
          rcases List.mem_append.1 hy with h1 | h1
          · exact hallH.out y h1
          · rw [List.mem_singleton.1 h1]
            have h2 := hiH.out
            unfold inB at h2
            simp at h2
            omega
        case measure => simp [intOf]; omega
    · have hke : k = l := by omega
      subst hke
      have hkI : ¬ (k : Int) < (k : Int) := by omega
      go_wp2_with (fail)
      go_ret
      refine ⟨ret_boolJ ?_, Below.refl _ _⟩
      rw [← hbH.out]
      have h1 := hallH.out
      rw [List.take_of_length_le (by rw [hlH.out]; exact Nat.le_refl _)] at h1
      unfold rangeB
      rw [hlH.out]
      by_cases e : k = n
      · subst e; simp; exact h1
      · have : ¬ (k : Int) = (n : Int) := by omega
        simp [e, this]

/-- All prices of the first rows and columns. -/
def sumRK (R K : List Int) (i : Nat) : Int := ((List.range i).map fun k => at0 R k + at0 K k).sum
theorem sumRK_succ (R K : List Int) (i : Nat) : sumRK R K (i + 1) = sumRK R K i + (at0 R i + at0 K i) := by
  unfold sumRK; rw [List.range_succ, List.map_append, List.sum_append]; simp
theorem sumRK_dual (R K : List Int) (n : Nat) : sumRK R K n = dual n R K := by
  induction n with
  | zero => rfl
  | succ n ih =>
    rw [sumRK_succ, ih]
    unfold dual
    rw [List.range_succ, List.map_append, List.map_append, List.sum_append, List.sum_append]
    simp; omega
theorem at0_in {xs : List Int} {n i : Nat} (h : ∀ x ∈ xs, -1000000000 ≤ x ∧ x ≤ 1000000000) (hl : xs.length = n) (hi : i < n) : -1000000000 ≤ at0 xs i ∧ at0 xs i ≤ 1000000000 := h _ (List.mem_of_getElem? (at0_get (by omega)))
theorem sumRK_small {R K : List Int} (hR : ∀ x ∈ R, -1000000000 ≤ x ∧ x ≤ 1000000000) (hK : ∀ x ∈ K, -1000000000 ≤ x ∧ x ≤ 1000000000) {n : Nat} (lR : R.length = n) (lK : K.length = n) : ∀ i, i ≤ n → -(2000000000 * (i : Int)) ≤ sumRK R K i ∧ sumRK R K i ≤ 2000000000 * (i : Int) := by
  intro i
  induction i with
  | zero => intro _; exact ⟨by simp [sumRK], by simp [sumRK]⟩
  | succ i ih =>
    intro hi
    have h1 := ih (by omega)
    have h2 := at0_in hR lR (i := i) (by omega)
    have h3 := at0_in hK lK (i := i) (by omega)
    rw [sumRK_succ]
    omega
/-- Prices that prove a sum. -/
def provB (C : List (List Int)) (n : Nat) (R K : List Int) (s : Int) : Bool := decide ((∀ i, i < n → ∀ j, j < n → at0 R i + at0 K j ≤ cst C i j) ∧ s ≤ dual n R K)
theorem provB_no {C : List (List Int)} {n : Nat} {R K : List Int} {s : Int} {i j : Nat} (hi : i < n) (hj : j < n) (h : cst C i j < at0 R i + at0 K j) : provB C n R K s = false := decide_eq_false fun hh => by
  have := hh.1 i hi j hj; omega
theorem provB_end {C : List (List Int)} {n : Nat} {R K : List Int} {s : Int} (h : ∀ i, i < n → ∀ j, j < n → at0 R i + at0 K j ≤ cst C i j) : provB C n R K s = decide (s ≤ sumRK R K n) := by
  unfold provB; rw [sumRK_dual]
  exact decide_eq_decide.2 ⟨fun hh => hh.2, fun hh => ⟨h, hh⟩⟩
set_option maxRecDepth 100000 in
set_option maxHeartbeats 6400000 in
theorem provesR_any (ao aR aK : Option Addr) (c cR cK n : Nat) (C : List (List Int)) (R K : List Int) (s : Int) (b : Bool) (w : World) (h : IMx w ao C) (hg : goodC C) (hn : C.length = n) (hR : IZ w aR R) (hK : IZ w aK K)
    (lR : R.length = n) (lK : K.length = n) (rR : ∀ x ∈ R, -1000000000 ≤ x ∧ x ≤ 1000000000) (rK : ∀ x ∈ K, -1000000000 ≤ x ∧ x ≤ 1000000000) (hb : provB C n R K s = b) :
    Calls Try.prog 35 #[.slice ao n c, .slice aR n cR, .slice aK n cK, .int .i64 s] w (RetB w b) := by
  have hn8 : n ≤ 8 := by rw [← hn]; exact hg.2.1
  have hH := Lib.hid h
  have hgH := Lib.hid hg
  have hnH := Lib.hid hn
  have hRH := Lib.hid hR
  have hKH := Lib.hid hK
  have hlR := Lib.hid lR
  have hlK := Lib.hid lK
  have hrR := Lib.hid rR
  have hrK := Lib.hid rK
  have hbH := Lib.hid hb
  have hsm := Lib.hid (sumRK_small rR rK lR lK)
  clear h hg hn hR hK lR lK rR rK hb
  go_enter Try.func35, Try.ntmps35
  go_wp2_with (fail)
  go_loopg [9, 10] n (fun gk sv iv wr => ∃ (i : Nat) (y : Int), sv = .int .i64 y ∧ iv = .int .i64 (i : Nat) ∧ i + gk = n ∧ sumRK R K i = y ∧ (∀ a, a < i → ∀ d, d < n → at0 R a + at0 K d ≤ cst C a d) ∧ Below w.heap.size w wr)
  case atStart => exact ⟨0, 0, rfl, rfl, by omega, rfl, fun a ha => absurd ha (Nat.not_lt_zero _), Below.refl _ _⟩
  case round =>
    obtain ⟨i, y, rfl, rfl, hi, hy, hall, hbl⟩ := hrel
    have hallH := Lib.hid hall
    have hblH := Lib.hid hbl
    have hyH := Lib.hid hy
    have hys := hsm.out i (by omega)
    rw [hy] at hys
    obtain ⟨y1, y2⟩ := hys
    clear hall hbl hy
    by_cases hin : i < n
    · obtain ⟨g1, rfl⟩ : ∃ g1, gk = g1 + 1 := ⟨gk - 1, by omega⟩
      have hiI : (i : Int) < (n : Int) := by omega
      have hi0 : (0 : Int) ≤ (i : Int) := by omega
      obtain ⟨bR, oR, rfl, cRi⟩ := (hRH.out.below hblH.out).at (i := i) (by rw [hlR.out]; exact hin)
      obtain ⟨bK, oK, rfl, cKi⟩ := (hKH.out.below hblH.out).at (i := i) (by rw [hlK.out]; exact hin)
      obtain ⟨u1, u2⟩ := at0_in hrR.out hlR.out hin
      obtain ⟨v1, v2⟩ := at0_in hrK.out hlK.out hin
      have hss := Lib.hid (sumRK_succ R K i)
      obtain ⟨ri, hri⟩ : ∃ ri, at0 R i = ri := ⟨_, rfl⟩
      obtain ⟨ki, hki⟩ : ∃ ki, at0 K i = ki := ⟨_, rfl⟩
      rw [hri] at cRi u1 u2
      rw [hki] at cKi v1 v2
      have hriH := Lib.hid hri
      have hkiH := Lib.hid hki
      clear hri hki
      have w1 : IntKind.i64.wrap (ri + ki) = ri + ki := by rw [IntKind.wrap_i64]; omega
      have w2 : IntKind.i64.wrap (y + (ri + ki)) = y + (ri + ki) := by rw [IntKind.wrap_i64]; omega
      go_upto_region 5 with (fail)
      go_quiet (fail)
      obtain ⟨W, hW⟩ : ∃ W, W = wr.drewN nq := ⟨_, rfl⟩
      rw [← hW]
      have hbW : Hid (Below w.heap.size w W) := by show Below _ _ _; rw [hW]; exact bdn hblH.out
      clear hW w1 w2 cRi cKi
      obtain ⟨t, ht⟩ : ∃ t, y + (ri + ki) = t := ⟨_, rfl⟩
      rw [ht]
      have htH : Hid (sumRK R K (i + 1) = t) := by show _ = _; rw [hss.out, hyH.out, hriH.out, hkiH.out]; exact ht
      clear ht
      go_wp2_with (fail)
      go_loopg [11] n (fun gj jv wx => ∃ j : Nat, jv = .int .i64 (j : Nat) ∧ j + gj = n ∧ (∀ d, d < j → ri + at0 K d ≤ cst C i d) ∧ Below w.heap.size w wx)
      case atStart => exact ⟨0, rfl, by omega, fun d hd => absurd hd (Nat.not_lt_zero _), hbW.out⟩
      case round =>
        clear hbW
        obtain ⟨j, rfl, hj, hrow, hbl⟩ := hrel
        have hrowH := Lib.hid hrow
        have hblH := Lib.hid hbl
        clear hrow hbl
        by_cases hjn : j < n
        · obtain ⟨g2, rfl⟩ : ∃ g2, gk = g2 + 1 := ⟨gk - 1, by omega⟩
          have hjI : (j : Int) < (n : Int) := by omega
          have hj0 : (0 : Int) ≤ (j : Int) := by omega
          obtain ⟨bR', oR', haR, cRi⟩ := (hRH.out.below hblH.out).at (i := i) (by rw [hlR.out]; exact hin)
          obtain ⟨bK', oK', haK, cKj⟩ := (hKH.out.below hblH.out).at (i := j) (by rw [hlK.out]; exact hjn)
          injection haR with haR
          injection haR with e1 e2
          injection haK with haK
          injection haK with e3 e4
          subst e1 e2 e3 e4
          obtain ⟨b5, o5, b6, o6, c6, hao, f1, hc6, f2, q0, q1⟩ := (hH.out.below hblH.out).cost hgH.out hnH.out hin hjn
          have haoH := Lib.hid hao
          subst hao
          obtain ⟨v1, v2⟩ := at0_in hrK.out hlK.out hjn
          rw [hriH.out] at cRi
          obtain ⟨kj, hkj⟩ : ∃ kj, at0 K j = kj := ⟨_, rfl⟩
          obtain ⟨p, hp⟩ : ∃ p, cst C i j = p := ⟨_, rfl⟩
          rw [hkj] at cKj v1 v2
          rw [hp] at f2 q0 q1
          have hkjH := Lib.hid hkj
          have hpH := Lib.hid hp
          clear hkj hp
          have w1 : IntKind.i64.wrap (ri + kj) = ri + kj := by rw [IntKind.wrap_i64]; omega
          by_cases hlt : p < ri + kj
          · have hltB : decide (p < ri + kj) = true := by simpa using hlt
            have hno := Lib.hid (provB_no (s := s) hin hjn (show cst C i j < at0 R i + at0 K j by rw [hpH.out, hriH.out, hkjH.out]; exact hlt))
            go_upto_region 9 with (fail)
            go_quiet (fail)
            go_wp2_with (fail)
            go_ret
            exact ⟨ret_boolJ (by rw [← hbH.out, hno.out]), bdn hblH.out⟩
          · have hltB : decide (p < ri + kj) = false := by simpa using hlt
            go_upto_region 9 with (fail)
            go_quiet (fail)
            go_wp2_with (fail)
            go_roundg g2
            case measure => omega
            case rel =>
              refine ⟨j + 1, by go_num, by omega, fun d hd => ?_, bdn hblH.out⟩
              by_cases e : d = j
              · subst e; rw [hkjH.out, hpH.out]; omega
              · exact hrowH.out d (by omega)
        · have hje : n = j := by omega
          subst hje
          have hjI : ¬ (n : Int) < (n : Int) := by omega
          go_wp2_with (fail)
          go_roundg g1
          case measure => omega
          case rel =>
            refine ⟨i + 1, t, rfl, by go_num, by omega, htH.out, fun a ha d hd => ?_, hblH.out⟩
            by_cases e : a = i
            · subst e; rw [hriH.out]; exact hrowH.out d hd
            · exact hallH.out a (by omega) d hd
    · have hie : n = i := by omega
      subst hie
      have hiI : ¬ (n : Int) < (n : Int) := by omega
      go_wp2_with (fail)
      go_ret
      refine ⟨ret_boolJ ?_, hblH.out⟩
      rw [← hbH.out, provB_end hallH.out, hyH.out]
end Go.Proofs.Yteiipfajoikfpaa
