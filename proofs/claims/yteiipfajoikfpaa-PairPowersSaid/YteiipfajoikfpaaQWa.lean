/- Wa -/
import Derived.Test.YteiipfajoikfpaaQPh
import Derived.Test.YteiipfajoikfpaaQPa
set_option linter.unusedVariables false
/- Walk of the reference's Most. -/
namespace Go.Proofs.Yteiipfajoikfpaa
open Go Go.RowKit Go.Proofs

set_option maxRecDepth 100000 in
set_option maxHeartbeats 12800000 in
theorem mostRec_any (n c : Nat) (C : List (List Int)) (z : Int) (hg : goodC C) (hn : C.length = n) : ∀ (m i u : Nat) (ao : Option Addr) (w : World), i + m = n → u < 2 ^ n → IMx w ao C →
    Calls Try.prog 67 #[.slice ao n c, .int .i64 z, .int .i64 (i : Nat), .int .i64 (u : Nat)] w (fun e w' => e = .returned (.int .i64 (mostM (upA C z) n m u : Nat)) ∧ Below w.heap.size w w') := by
  have hn8 : n ≤ 8 := by rw [← hn]; exact hg.2.1
  have hN : 2 ^ n ≤ 256 := Nat.pow_le_pow_right (n := 2) (by omega) hn8
  have hgH := Lib.hid hg
  have hnH := Lib.hid hn
  clear hg hn
  intro m
  induction m with
  | zero =>
    intro i u ao w hi hu hM
    have e1 : ((i : Int) == (n : Int)) = true := by simp; omega
    clear hM hu
    go_enter Try.func67, Try.ntmps67
    go_wp2_with (fail)
    go_ret
    exact ⟨rfl, Below.refl _ _⟩
  | succ m ih =>
    intro i u ao w hi hu hM
    have e1 : ((i : Int) == (n : Int)) = false := by simp; omega
    have hin : i < n := by omega
    have hmi : Hid (n - (m + 1) = i) := by show _ = _; omega
    have ihH := Lib.hid ih
    have hMH := Lib.hid hM
    have huH := Lib.hid hu
    have hu256 : u < 256 := by omega
    have hiI : (i : Int) < (n : Int) := by omega
    have hi0 : (0 : Int) ≤ (i : Int) := by omega
    have hs : Hid (mostM (upA C z) n (m + 1) u = mostU (upA C z) n m u n) := mostM_succ _ _ _ _
    have h0 := mostM_le (upA C z) n m u
    have hz0 : Hid (mostU (upA C z) n m u 0 = mostM (upA C z) n m u) := mostU_zero _ _ _ _
    obtain ⟨r0, hr0⟩ : ∃ r0, mostM (upA C z) n m u = r0 := ⟨_, rfl⟩
    rw [hr0] at h0
    have hr0H := Lib.hid hr0
    clear ih hM hu hr0
    go_enter Try.func67, Try.ntmps67
    go_wp2_with (first
      | (go_at_call 67; go_loud (refine (ihH.out (i + 1) u ao _ (by omega) huH.out hMH.out).mono ?_); rintro e w1 ⟨he, hb1⟩; rw [hr0H.out] at he; subst he; have hb1H := Lib.hid hb1; clear hb1))
    go_loopg [9, 10] n (fun gk bv jv wr => ∃ (j b : Nat), bv = .int .i64 (b : Nat) ∧ jv = .int .i64 (j : Nat) ∧ j + gk = n ∧ mostU (upA C z) n m u j = b ∧ Below w.heap.size w wr)
    case atStart => exact ⟨0, r0, rfl, rfl, by omega, by rw [hz0.out]; exact hr0H.out, hb1H.out⟩
    case round =>
      clear hb1H
      obtain ⟨j, b, rfl, rfl, hj, hb, hbl⟩ := hrel
      have hbb := mostU_le (upA C z) n m u j
      rw [hb] at hbb
      have hbH := Lib.hid hb
      have hblH := Lib.hid hbl
      clear hb hbl
      by_cases hjn : j < n
      · obtain ⟨g1, rfl⟩ : ∃ g1, gk = g1 + 1 := ⟨gk - 1, by omega⟩
        have hjI : (j : Int) < (n : Int) := by omega
        have hj64 : (j : Int) < 64 := by omega
        have hj0 : (0 : Int) ≤ (j : Int) := by omega
        have hus := Lib.hid (mostU_succ (upA C z) n m u j)
        rcases ht : u.testBit j
        · have hbit : bits .and .i64 ((u : Int) / 2 ^ j) 1 = 0 := by rw [bit_at u j (by omega), ht]; rfl
          have htH := Lib.hid ht
          clear ht
          obtain ⟨b5, o5, b6, o6, c6, hao, f1, hc6, f2, q0, q1⟩ := (hMH.out.below hblH.out).cost hgH.out hnH.out hin hjn
          have haoH := Lib.hid hao
          subst hao
          obtain ⟨y, hy⟩ : ∃ y, cst C i j = y := ⟨_, rfl⟩
          rw [hy] at f2
          have hyH := Lib.hid hy
          clear hy q0 q1
          by_cases hle : y ≤ z
          · have hleB : decide (y ≤ z) = true := by simpa using hle
            have hA : Hid (u.testBit j = false ∧ upA C z (n - (m + 1)) j = true) := by
              refine ⟨htH.out, ?_⟩
              rw [hmi.out]
              exact decide_eq_true (by rw [hyH.out]; exact hle)
            have hol : u ||| 2 ^ j < 2 ^ n := Nat.or_lt_two_pow huH.out (Nat.pow_lt_pow_right (by omega) hjn)
            have hpw := pow_in j (by omega)
            have hpw2 : IntKind.i64.wrap ((2 : Int) ^ j) = (2 : Int) ^ j := (IntWalk.i64_left _).trans hpw
            have hpw3 : IntKind.i64.wrap (1 * (2 : Int) ^ j) = (2 : Int) ^ j := by rw [Int.one_mul]; exact hpw2
            have hor := or_bit u j (by omega) (by omega)
            obtain ⟨o, ho⟩ : ∃ o, u ||| 2 ^ j = o := ⟨_, rfl⟩
            rw [ho] at hor hol
            obtain ⟨r, hr⟩ : ∃ r, mostM (upA C z) n m o = r := ⟨_, rfl⟩
            have hrm : r ≤ m := by rw [← hr]; exact mostM_le _ _ _ _
            have hrH := Lib.hid hr
            have hnx : Hid (mostU (upA C z) n m u (j + 1) = max b (1 + r)) := by show _ = _; rw [hus.out, if_pos hA.out, hbH.out, ho, hr]
            have holH := Lib.hid hol
            have ho256 : o < 256 := by omega
            have wr1 : IntKind.i64.wrap (1 + (r : Int)) = 1 + (r : Int) := by rw [IntKind.wrap_i64]; omega
            clear hr ho hol
            by_cases hmx : b < 1 + r
            · have hmxI : (b : Int) < 1 + (r : Int) := by omega
              have hmxB : decide ((b : Int) < 1 + (r : Int)) = true := by simpa using hmxI
              have e2 : max b (1 + r) = 1 + r := by omega
              have e3 : max (b : Int) (1 + (r : Int)) = 1 + (r : Int) := by omega
              have e2H := Lib.hid e2
              clear e2
              go_wp2_with (first
                | (go_at_call 67; go_loud (refine (ihH.out (i + 1) o _ _ (by omega) holH.out (hMH.out.below hblH.out)).mono ?_); rintro e w3 ⟨he, hb3⟩; rw [hrH.out] at he; subst he; have hb3H := Lib.hid hb3; clear hb3))
              go_roundg g1
              case measure => omega
              case rel => exact ⟨j + 1, 1 + r, by go_num, by go_num, by omega, by rw [hnx.out, e2H.out], bseqJ hblH.out hb3H.out⟩
            · have hmxI : ¬ (b : Int) < 1 + (r : Int) := by omega
              have hmxB : decide ((b : Int) < 1 + (r : Int)) = false := by simpa using hmxI
              have e2 : max b (1 + r) = b := by omega
              have e3 : max (b : Int) (1 + (r : Int)) = (b : Int) := by omega
              have e2H := Lib.hid e2
              clear e2
              go_wp2_with (first
                | (go_at_call 67; go_loud (refine (ihH.out (i + 1) o _ _ (by omega) holH.out (hMH.out.below hblH.out)).mono ?_); rintro e w3 ⟨he, hb3⟩; rw [hrH.out] at he; subst he; have hb3H := Lib.hid hb3; clear hb3))
              go_roundg g1
              case measure => omega
              case rel => exact ⟨j + 1, b, by go_num, by go_num, by omega, by rw [hnx.out, e2H.out], bseqJ hblH.out hb3H.out⟩
          · have hleB : decide (y ≤ z) = false := by simpa using hle
            have hA : Hid (¬ (u.testBit j = false ∧ upA C z (n - (m + 1)) j = true)) := fun ⟨_, h⟩ => by
              rw [hmi.out] at h
              have := of_decide_eq_true h
              rw [hyH.out] at this
              exact hle this
            go_wp2_with (fail)
            go_roundg g1
            case measure => omega
            case rel => exact ⟨j + 1, b, rfl, by go_num, by omega, by rw [hus.out, if_neg hA.out]; exact hbH.out, hblH.out⟩
        · have hbit : bits .and .i64 ((u : Int) / 2 ^ j) 1 = 1 := by rw [bit_at u j (by omega), ht]; rfl
          have hA : Hid (¬ (u.testBit j = false ∧ upA C z (n - (m + 1)) j = true)) := fun ⟨h, _⟩ => by rw [ht] at h; cases h
          clear ht
          go_wp2_with (fail)
          go_roundg g1
          case measure => omega
          case rel => exact ⟨j + 1, b, rfl, by go_num, by omega, by rw [hus.out, if_neg hA.out]; exact hbH.out, hblH.out⟩
      · have hje : n = j := by omega
        subst hje
        have hjI : ¬ (n : Int) < (n : Int) := by omega
        go_wp2_with (fail)
        go_ret
        exact ⟨by rw [hs.out, hbH.out]; rfl, hblH.out⟩
theorem mostR_any (ao : Option Addr) (c n : Nat) (C : List (List Int)) (z : Int) (t : Nat) (w : World) (h : IMx w ao C) (hg : goodC C) (hn : C.length = n) (ht : mostM (upA C z) n n 0 = t) :
    Calls Try.prog 40 #[.slice ao n c, .int .i64 z] w (RetI w (t : Nat)) := by
  have hH := Lib.hid (mostRec_any n c C z hg hn n 0 0 ao w (by omega) (Nat.two_pow_pos n) h)
  have htH := Lib.hid ht
  clear h hg hn ht
  go_enter Try.func40, Try.ntmps40
  go_wp2_with (first
    | (go_at_call 67; go_loud (refine (hH.out).mono ?_); rintro e w1 ⟨he, hb1⟩; rw [htH.out] at he; subst he; have hb1H := Lib.hid hb1; clear hb1))
  go_ret
  exact ⟨rfl, hb1H.out⟩
end Go.Proofs.Yteiipfajoikfpaa
