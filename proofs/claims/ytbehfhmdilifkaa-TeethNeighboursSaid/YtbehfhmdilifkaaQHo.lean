/- Ho -/
import Derived.Test.YtbehfhmdilifkaaQHm
import Derived.Test.YtbehfhmdilifkaaQHf
set_option linter.unusedVariables false
/- Walk of the law TeethNeighbours. -/
namespace Go.Proofs.Ytbehfhmdilifkaa
open Go Go.RowKit Go.Proofs

/-- Neighbours a/d and c/e. -/
structure Nb (a d c e : Nat) : Prop where
  a1 : 1 ≤ a
  d1 : 1 ≤ d
  c1 : 1 ≤ c
  e1 : 1 ≤ e
  a2 : a ≤ 500000
  d2 : d ≤ 500000
  c2 : c ≤ 500000
  e2 : e ≤ 500000
  eq : c * d = a * e + 1
theorem Nb.l {a d c e : Nat} (h : Nb a d c e) (h1 : a + c ≤ 500000) (h2 : d + e ≤ 500000) : Nb (a + c) (d + e) c e := by
  have := h.a1; have := h.d1; have := h.c1; have := h.e1
  exact ⟨by omega, by omega, by omega, by omega, h1, h2, by omega, by omega, by have := h.eq; rw [Nat.mul_add, Nat.add_mul]; omega⟩
theorem Nb.r {a d c e : Nat} (h : Nb a d c e) (h1 : a + c ≤ 500000) (h2 : d + e ≤ 500000) : Nb a d (a + c) (d + e) := by
  have := h.a1; have := h.d1; have := h.c1; have := h.e1
  exact ⟨by omega, by omega, by omega, by omega, by omega, by omega, h1, h2, by have := h.eq; rw [Nat.mul_add, Nat.add_mul]; omega⟩
theorem Nb.call {a d c e p q : Nat} (h : Nb a d c e) (hp : a + c = p) (hq : d + e = q) (W : World) :
    Calls Try.prog 43 #[.int .i64 (a : Nat), .int .i64 (d : Nat), .int .i64 (c : Nat), .int .i64 (e : Nat)] W (fun e w' => e = .returned (.tuple #[.int .i64 (p : Nat), .int .i64 (q : Nat), .int .i64 0]) ∧ Below W.heap.size W w') := by
  have := h.a1; have := h.d1; have := h.c1; have := h.e1
  have := h.a2; have := h.d2; have := h.c2; have := h.e2
  have heq := h.eq
  refine (betweenP_good a d c e W (by omega) (by omega) (by omega) (by omega) (by omega) (by omega) (by omega) (by omega) (by omega)).mono ?_
  rintro e w' ⟨p', q', rfl, hm, hb⟩
  obtain ⟨rfl, rfl⟩ := hm.unique (Mid.mediant (by omega) heq)
  subst hp hq
  exact ⟨rfl, hb⟩
section
attribute [local go_sem] undef
set_option maxRecDepth 100000 in
set_option maxHeartbeats 6400000 in
theorem nbLaw_any (a0 : Option Addr) (len cap : Nat) (xs : List Nat) (w : World) (hl : xs.length = len) (hI : Dg .u8 w a0 xs) (hm : len ≤ 9223372036854775807) (hx : ∀ x ∈ xs, x < 256) :
    Calls Try.prog 16 #[.slice a0 len cap] w (RetB w true) := by
  have hlH := Lib.hid hl
  have hIH := Lib.hid hI
  have hxH := Lib.hid hx
  clear hl hI hx
  go_enter Try.func16, Try.ntmps16
  go_wp2_with (fail)
  go_loopg [3, 4, 5, 6, 7] 40 (fun gk av dv cv ev iv wr => ∃ a d c e i : Nat, av = .int .i64 (a : Nat) ∧ dv = .int .i64 (d : Nat) ∧ cv = .int .i64 (c : Nat) ∧ ev = .int .i64 (e : Nat) ∧ iv = .int .i64 (i : Nat) ∧ i + gk = 40 ∧ Nb a d c e ∧ Below w.heap.size w wr)
  case atStart => exact ⟨1, 2, 1, 1, 0, rfl, rfl, rfl, rfl, rfl, rfl, ⟨by decide, by decide, by decide, by decide, by decide, by decide, by decide, by decide, by decide⟩, Below.refl _ _⟩
  case round =>
    obtain ⟨a, d, c, e, i, rfl, rfl, rfl, rfl, rfl, hig, hN, hbl⟩ := hrel
    have hblH := Lib.hid hbl
    clear hbl
    have a2 := hN.a2; have d2 := hN.d2; have c2 := hN.c2; have e2 := hN.e2
    have hNH := Lib.hid hN
    clear hN
    obtain ⟨p, hp⟩ : ∃ p, a + c = p := ⟨_, rfl⟩
    obtain ⟨q, hq⟩ : ∃ q, d + e = q := ⟨_, rfl⟩
    have hpI : (a : Int) + (c : Int) = (p : Int) := by omega
    have hqI : (d : Int) + (e : Int) = (q : Int) := by omega
    have hpl : p ≤ 1000000 := by omega
    have hql : q ≤ 1000000 := by omega
    have hbt := Lib.hid (fun W => hNH.out.call hp hq W)
    have hpH := Lib.hid hp
    have hqH := Lib.hid hq
    obtain ⟨X, hX⟩ : ∃ X, c * d = X := ⟨_, rfl⟩
    obtain ⟨Y, hY⟩ : ∃ Y, a * e = Y := ⟨_, rfl⟩
    have hXI := mulN hX
    have hYI := mulN hY
    have hXY : (X : Int) - (Y : Int) = 1 := by have := hNH.out.eq; omega
    have hXl : X ≤ 250000000000 := by rw [← hX]; exact Nat.le_trans (Nat.mul_le_mul c2 d2) (by decide)
    have hYl : Y ≤ 250000000000 := by rw [← hY]; exact Nat.le_trans (Nat.mul_le_mul a2 e2) (by decide)
    have ep : ((p : Int) == (p : Int)) = true := by simp
    have eq : ((q : Int) == (q : Int)) = true := by simp
    clear hp hq hX hY
    by_cases h1 : i < len
    · have h1I : (i : Int) < (len : Int) := by omega
      by_cases h2 : i < 40
      · have h2I : (i : Int) < 40 := by omega
        by_cases h3 : q ≤ 500000
        · have h3I : (q : Int) ≤ 500000 := by omega
          have k3 : decide ((q : Int) ≤ 500000) = true := decide_eq_true h3I
          by_cases h4 : p ≤ 500000
          · have h4I : (p : Int) ≤ 500000 := by omega
            have k4 : decide ((p : Int) ≤ 500000) = true := decide_eq_true h4I
            obtain ⟨x, hx⟩ : ∃ x, xs[i]? = some x := ⟨_, List.getElem?_eq_getElem (by rw [hlH.out]; exact h1)⟩
            obtain ⟨b, o, rfl, c0⟩ := (hIH.out i x hx)
            have c1 := Below.cellAt hblH.out (Nat.le_refl _) c0
            have hx256 := hxH.out x (List.mem_of_getElem? hx)
            obtain ⟨r, hr⟩ : ∃ r, x % 2 = r := ⟨_, rfl⟩
            have hr2 : r < 2 := by omega
            have t1 : (x : Int).tmod 2 = (r : Int) := by rw [← hr]; exact (Int.ofNat_tmod x 2).symm
            have t2 : (x : Int) % 2 = (r : Int) := by rw [← hr]; exact (Int.natCast_emod x 2).symm
            have hi0 : (0 : Int) ≤ (i : Int) := by omega
            clear hx hr c0 hbt
            by_cases hr0 : r = 0
            · subst hr0
              have hn := Lib.hid (hNH.out.l (by rw [hpH.out]; exact h4) (by rw [hqH.out]; exact h3))
              rw [hpH.out, hqH.out] at hn
              go_wp2_with (fail)
              go_roundg (gk - 1)
              case measure => omega
              case rel => exact ⟨p, q, c, e, i + 1, rfl, rfl, rfl, rfl, by go_num, by omega, hn.out, hblH.out⟩
            · have hr1 : r = 1 := by omega
              subst hr1
              have hn := Lib.hid (hNH.out.r (by rw [hpH.out]; exact h4) (by rw [hqH.out]; exact h3))
              rw [hpH.out, hqH.out] at hn
              go_wp2_with (fail)
              go_roundg (gk - 1)
              case measure => omega
              case rel => exact ⟨a, d, p, q, i + 1, rfl, rfl, rfl, rfl, by go_num, by omega, hn.out, hblH.out⟩
          · have h4I : ¬ (p : Int) ≤ 500000 := by omega
            have k4 : decide ((p : Int) ≤ 500000) = false := decide_eq_false h4I
            go_wp2_with (first
              | (go_at_call 43; (with_reducible refine (hbt.out _).mono ?_); rintro e1 w1 ⟨rfl, hb⟩; have hb1 := Lib.hid hb; clear hb)
              | (go_at_call 23; (with_reducible refine (lives_any _).mono ?_); rintro e1 w2 ⟨rfl, hb⟩; have hb2 := Lib.hid hb; clear hb))
            go_ret
            exact ⟨rfl, bseqT hblH.out (bseqT hb1.out hb2.out)⟩
        · have h3I : ¬ (q : Int) ≤ 500000 := by omega
          have k3 : decide ((q : Int) ≤ 500000) = false := decide_eq_false h3I
          go_wp2_with (first
            | (go_at_call 43; (with_reducible refine (hbt.out _).mono ?_); rintro e1 w1 ⟨rfl, hb⟩; have hb1 := Lib.hid hb; clear hb)
            | (go_at_call 23; (with_reducible refine (lives_any _).mono ?_); rintro e1 w2 ⟨rfl, hb⟩; have hb2 := Lib.hid hb; clear hb))
          go_ret
          exact ⟨rfl, bseqT hblH.out (bseqT hb1.out hb2.out)⟩
      · have h2I : ¬ (i : Int) < 40 := by omega
        go_wp2_with (first
          | (go_at_call 43; (with_reducible refine (hbt.out _).mono ?_); rintro e1 w1 ⟨rfl, hb⟩; have hb1 := Lib.hid hb; clear hb)
          | (go_at_call 23; (with_reducible refine (lives_any _).mono ?_); rintro e1 w2 ⟨rfl, hb⟩; have hb2 := Lib.hid hb; clear hb))
        go_ret
        exact ⟨rfl, bseqT hblH.out (bseqT hb1.out hb2.out)⟩
    · have h1I : ¬ (i : Int) < (len : Int) := by omega
      go_wp2_with (first
        | (go_at_call 43; (with_reducible refine (hbt.out _).mono ?_); rintro e1 w1 ⟨rfl, hb⟩; have hb1 := Lib.hid hb; clear hb)
        | (go_at_call 23; (with_reducible refine (lives_any _).mono ?_); rintro e1 w2 ⟨rfl, hb⟩; have hb2 := Lib.hid hb; clear hb))
      go_ret
      exact ⟨rfl, bseqT hblH.out (bseqT hb1.out hb2.out)⟩
end
end Go.Proofs.Ytbehfhmdilifkaa
