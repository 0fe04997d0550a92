/- Th -/
import Derived.Test.YtkecdjdggkpdpabQTg
import Derived.Test.YtkecdjdggkpdpabQTd
set_option linter.unusedVariables false
/- Walk of Near. -/
namespace Go.Proofs.Ytkecdjdggkpdpab
open Go Go.RowKit Go.Proofs

theorem off_max {o u p q A B D : Nat} (hA : o * q = A) (hB : p * u = B) (hD : offN o u p q = D) : max ((A : Int) - (B : Int)) (-((A : Int) - (B : Int))) = (D : Int) := by
  unfold offN at hD
  rw [hA, hB] at hD
  omega
theorem Trd.at {o u Q k : Nat} : Trd o u Q (k + 1) Q (o * Q / u + k) := Trd.succ.2 (.inr ⟨rfl, rfl⟩)
theorem Trd.num_le {o u Q k q p : Nat} (h : Trd o u Q k q p) : p ≤ o * q + k + 1 := by
  have h1 := Nat.div_le_self (o * q) u
  rcases h with h | ⟨rfl, h3, h4⟩ <;> omega
/-- What the search holds. -/
def NS (o u Q k bp bq off : Nat) : Prop := (Q = 1 ∧ k = 0 ∧ bp = 0 ∧ bq = 0 ∧ off = 0) ∨ (NB o u Q k bp bq ∧ off = offN o u bp bq)
theorem lit3T (w : World) (x y z : Int) : IZ (w.alloc (Obj.cells #[.int .i64 x, .int .i64 y, .int .i64 z] 3)) (some ⟨w.heap.size, 0, none⟩) [x, y, z] := fun i v hz => by
  rcases i with _ | _ | _ | i
  · simp at hz; subst hz; exact ⟨_, 0, rfl, by rw [al_newT rfl]; rfl⟩
  · simp at hz; subst hz; exact ⟨_, 0, rfl, by rw [al_newT rfl]; rfl⟩
  · simp at hz; subst hz; exact ⟨_, 0, rfl, by rw [al_newT rfl]; rfl⟩
  · simp at hz
theorem nearP_bad (o u m : Int) (w : World) (h : inL 1000000 [o, u, m] = false) :
    Calls Try.prog 6 #[.int .i64 o, .int .i64 u, .int .i64 m] w (fun e w' => e = .returned (.tuple #[.int .i64 0, .int .i64 0, .int .i64 1]) ∧ Below w.heap.size w w') := by
  have hH := Lib.hid h
  clear h
  go_enter Try.func6, Try.ntmps6
  go_wp2_with (go_at_call 10; go_loud (with_reducible refine (inP_any _ 3 3 1000000 [o, u, m] false _ (lit3T w o u m) rfl (by omega) hH.out).mono ?_); rintro e w1 ⟨rfl, hb1⟩; have hb1H := Lib.hid hb1; clear hb1)
  go_ret3
  exact ⟨rfl, bseqT (below_al (Below.refl _ _) _) hb1H.out⟩
set_option maxRecDepth 100000 in
set_option maxHeartbeats 6400000 in
theorem nearP_good (o u m a b : Nat) (w : World) (ho : 1 ≤ o) (ho2 : o ≤ 1000000) (hu : 1 ≤ u) (hu2 : u ≤ 1000000) (hm : 1 ≤ m) (hm2 : m ≤ 1000000) (hN : NearI o u m a b) :
    Calls Try.prog 6 #[.int .i64 (o : Nat), .int .i64 (u : Nat), .int .i64 (m : Nat)] w (fun e w' => e = .returned (.tuple #[.int .i64 (a : Nat), .int .i64 (b : Nat), .int .i64 0]) ∧ Below w.heap.size w w') := by
  have hI : Hid (inL 1000000 [(o : Int), (u : Int), (m : Int)] = true) := inL_iff.2 (fun x hx => by simp at hx; rcases hx with rfl | rfl | rfl <;> omega)
  have hNH := Lib.hid hN
  clear hN
  go_enter Try.func6, Try.ntmps6
  go_wp2_with (go_at_call 10; go_loud (with_reducible refine (inP_any _ 3 3 1000000 [(o : Int), (u : Int), (m : Int)] true _ (lit3T w o u m) rfl (by omega) hI.out).mono ?_); rintro e w1 ⟨rfl, hb1⟩; have hb1H := Lib.hid (bseqT (below_al (Below.refl _ _) _) hb1); clear hb1)
  have hu1 : ¬ (u : Int) = 0 := by omega
  have hu3 : ((u : Int) == 0) = false := by simp; omega
  go_loop [9, 10, 11, 12] (fun pv qv ov iv => ∃ bp bq off Q : Nat, pv = .int .i64 (bp : Nat) ∧ qv = .int .i64 (bq : Nat) ∧ ov = .int .i64 (off : Nat) ∧ iv = .int .i64 (Q : Nat) ∧ 1 ≤ Q ∧ Q ≤ m + 1 ∧ NS o u Q 0 bp bq off) (fun _ _ _ iv => m + 1 - (intOf iv).toNat)
  case atStart => exact ⟨0, 0, 0, 1, rfl, rfl, rfl, rfl, Nat.le_refl _, by omega, .inl ⟨rfl, rfl, rfl, rfl, rfl⟩⟩
  case round =>
    obtain ⟨bp, bq, off, Q, rfl, rfl, rfl, rfl, hQ, hQm, hS⟩ := hrel
    have hSH := Lib.hid hS
    clear hS
    by_cases hlt : Q ≤ m
    · have hltI : (Q : Int) ≤ (m : Int) := by omega
      obtain ⟨A, hA⟩ : ∃ A, o * Q = A := ⟨_, rfl⟩
      have hAI := mulN hA
      have hA2 : A ≤ 1000000000000 := by rw [← hA]; exact Nat.le_trans (Nat.mul_le_mul ho2 (show Q ≤ 1000000 by omega)) (by decide)
      obtain ⟨L, hL⟩ : ∃ L, A / u = L := ⟨_, rfl⟩
      have hL2 : L ≤ 1000000000000 := by rw [← hL]; exact Nat.le_trans (Nat.div_le_self _ _) hA2
      have t3 : (A : Int).tdiv (u : Int) = (L : Int) := by rw [← hL]; exact (Int.ofNat_tdiv A u).symm
      have t4 : (A : Int) / (u : Int) = (L : Int) := by rw [← hL]; exact (Int.natCast_ediv A u).symm
      have hLu : L * u ≤ A := by rw [← hL]; exact Nat.div_mul_le_self _ _
      have hLd : Hid (o * Q / u = L) := by show _ = _; rw [hA, hL]
      have hAH := Lib.hid hA
      have hLuH := Lib.hid hLu
      clear hA hL hLu
      go_wp2_with (fail)
      go_loop [9, 10, 11, 14] (fun pv qv ov iv => ∃ bp bq off k P : Nat, pv = .int .i64 (bp : Nat) ∧ qv = .int .i64 (bq : Nat) ∧ ov = .int .i64 (off : Nat) ∧ iv = .int .i64 (P : Nat) ∧ P = L + k ∧ k ≤ 2 ∧ NS o u Q k bp bq off) (fun _ _ _ iv => L + 2 - (intOf iv).toNat)
      case atStart => exact ⟨bp, bq, off, 0, L, rfl, rfl, rfl, rfl, rfl, by omega, hSH.out⟩
      case round =>
        clear hSH
        obtain ⟨bp, bq, off, k, P, rfl, rfl, rfl, rfl, hP, hk, hS⟩ := hrel
        have hSH := Lib.hid hS
        clear hS
        have hPH := Lib.hid hP
        obtain ⟨P1, hP1⟩ : ∃ P1, P + 1 = P1 := ⟨_, rfl⟩
        have hP1I : (P : Int) + 1 = (P1 : Int) := by omega
        obtain ⟨L1, hL1⟩ : ∃ L1, L + 1 = L1 := ⟨_, rfl⟩
        have hL1I : (L : Int) + 1 = (L1 : Int) := by omega
        have hP1H := Lib.hid hP1
        have hL1H := Lib.hid hL1
        clear hP hP1 hL1
        by_cases hk2 : k < 2
        · have hle : (P : Int) ≤ (L1 : Int) := by have := hPH.out; have := hL1H.out; omega
          obtain ⟨B, hB⟩ : ∃ B, P * u = B := ⟨_, rfl⟩
          have hBI := mulN hB
          have hB2 : B ≤ 1000001000000 := by
            have h1 : P * u ≤ (L + 1) * u := Nat.mul_le_mul_right _ (by have := hPH.out; omega)
            rw [Nat.succ_mul] at h1
            have := hLuH.out
            omega
          obtain ⟨D, hD⟩ : ∃ D, offN o u P Q = D := ⟨_, rfl⟩
          have hDm := off_max hAH.out hB hD
          have hat : Trd o u Q (k + 1) Q P := by have := @Trd.at o u Q k; rwa [hLd.out, ← hPH.out] at this
          have hD2 : D ≤ u := by rw [← hD]; exact hat.off hu (by omega)
          have hDH := Lib.hid hD
          have wd : IntKind.i64.wrap ((A : Int) - (B : Int)) = (A : Int) - (B : Int) := wr64 (by omega) (by omega)
          clear hB hD hat
          rcases hSH.out with ⟨e1, e2, e3, e4, e5⟩ | ⟨hNB, hoff⟩
          · subst e1 e2 e3 e4 e5
            have hAo : o = A := by have := hAH.out; omega
            subst hAo
            go_wp2_with (fail)
            go_round
            case rel => exact ⟨P, 1, D, 1, P1, rfl, rfl, rfl, rfl, by have := hP1H.out; have := hPH.out; omega, by omega, .inr ⟨by have := @NB.first o u; rw [hLd.out] at this; rw [hPH.out]; exact this, hDH.out.symm⟩⟩
            case measure => have := hP1H.out; have := hPH.out; simp [intOf]; omega
          · have hq1 := hNB.pos
            have hq2 := hNB.mem.le
            have ho3 : off ≤ u := by rw [hoff]; exact hNB.mem.off hu (by omega)
            have hqe : ((bq : Int) == 0) = false := by simp; omega
            have hqn : ¬ (bq : Int) = 0 := by omega
            obtain ⟨X, hX⟩ : ∃ X, D * bq = X := ⟨_, rfl⟩
            obtain ⟨Y, hY⟩ : ∃ Y, off * Q = Y := ⟨_, rfl⟩
            have hXI := mulN hX
            have hYI := mulN hY
            have hX2 : X ≤ 1000000000000 := by rw [← hX]; exact Nat.le_trans (Nat.mul_le_mul (show D ≤ 1000000 by omega) (show bq ≤ 1000000 by omega)) (by decide)
            have hY2 : Y ≤ 1000000000000 := by rw [← hY]; exact Nat.le_trans (Nat.mul_le_mul (show off ≤ 1000000 by omega) (show Q ≤ 1000000 by omega)) (by decide)
            have hNBH := Lib.hid hNB
            have hoffH := Lib.hid hoff
            have hXH := Lib.hid hX
            have hYH := Lib.hid hY
            have hPL : Hid (P = o * Q / u + k) := by show _ = _; rw [hLd.out]; exact hPH.out
            clear hNB hoff hX hY
            by_cases hXY : X < Y
            · have hXYI : decide ((X : Int) < (Y : Int)) = true := decide_eq_true (by omega)
              have hXYN : decide (X < Y) = true := decide_eq_true hXY
              go_wp2_with (fail)
              go_round
              case rel => exact ⟨P, Q, D, k + 1, P1, rfl, rfl, rfl, rfl, by have := hP1H.out; have := hPH.out; omega, by omega, .inr ⟨by rw [hPL.out]; exact hNBH.out.take hQ (by rw [← hPL.out, hDH.out, ← hoffH.out, hXH.out, hYH.out]; exact hXY), hDH.out.symm⟩⟩
              case measure => have := hP1H.out; have := hPH.out; simp [intOf]; omega
            · have hXYI : decide ((X : Int) < (Y : Int)) = false := decide_eq_false (by omega)
              have hXYN : decide (X < Y) = false := decide_eq_false hXY
              go_wp2_with (fail)
              go_round
              case rel => exact ⟨bp, bq, off, k + 1, P1, rfl, rfl, rfl, rfl, by have := hP1H.out; have := hPH.out; omega, by omega, .inr ⟨hNBH.out.keep (by rw [← hPL.out, hDH.out, ← hoffH.out, hXH.out, hYH.out]; omega), hoffH.out⟩⟩
              case measure => have := hP1H.out; have := hPH.out; simp [intOf]; omega
        · have hke : k = 2 := by omega
          subst hke
          have hle : ¬ (P : Int) ≤ (L1 : Int) := by have := hPH.out; have := hL1H.out; omega
          rcases hSH.out with ⟨_, e2, _⟩ | ⟨hNB, hoff⟩
          · omega
          · have hq1 := hNB.pos
            have hq2 := hNB.mem.le
            by_cases h0 : off = 0
            · subst h0
              have hex := hNB.exact hQ hlt hoff.symm
              obtain ⟨e1, e2⟩ := hex.unique hm hNH.out
              subst e1 e2
              have hbp2 := hNH.out.mem.num_le
              have hbp3 : o * bq ≤ 1000000 * 1000001 := Nat.mul_le_mul ho2 (by have := hNH.out.mem.le; omega)
              have hbq2 : bq ≤ 1000001 := by have := hNH.out.mem.le; omega
              have hgcH := Lib.hid (hNH.out.gcd (by omega))
              clear hNB hoff hex
              go_wp2_with (go_at_call 25; go_loud (with_reducible refine (divisor_any bp bq _ (by omega) (by omega)).mono ?_); rintro e w2 ⟨rfl, hb2⟩; rw [hgcH.out]; have hb2H := Lib.hid hb2; clear hb2)
              go_quiet (fail)
              go_wp2_with (fail)
              go_ret3
              exact ⟨by simp, bdn (bseqT hb1H.out hb2H.out)⟩
            · have hoI : ((off : Int) == 0) = false := by simp; omega
              have hoN : ¬ (off : Int) = 0 := by omega
              have hnx := Lib.hid (show NS o u (Q + 1) 0 bp bq off from .inr ⟨hNB.next hQ, hoff⟩)
              clear hNB hoff
              go_wp2_with (fail)
              go_round
              case rel => exact ⟨bp, bq, off, Q + 1, rfl, rfl, rfl, by go_num, by omega, by omega, hnx.out⟩
              case measure => simp [intOf]; omega
    · have hQe : Q = m + 1 := by omega
      subst hQe
      have hltI : ¬ ((m + 1 : Nat) : Int) ≤ (m : Int) := by omega
      rcases hSH.out with ⟨e1, _⟩ | ⟨hNB, hoff⟩
      · omega
      · have hex := hNB.done hm
        have hoffH := Lib.hid hoff
        obtain ⟨e1, e2⟩ := hex.unique hm hNH.out
        subst e1 e2
        have hbp2 := hNH.out.mem.num_le
        have hbp3 : o * bq ≤ 1000000 * 1000001 := Nat.mul_le_mul ho2 (by have := hNH.out.mem.le; omega)
        have hbq2 : bq ≤ 1000001 := by have := hNH.out.mem.le; omega
        have hgcH := Lib.hid (hNH.out.gcd (by omega))
        clear hNB hoff hex
        go_wp2_with (go_at_call 25; go_loud (with_reducible refine (divisor_any bp bq _ (by omega) (by omega)).mono ?_); rintro e w2 ⟨rfl, hb2⟩; rw [hgcH.out]; have hb2H := Lib.hid hb2; clear hb2)
        go_quiet (fail)
        go_wp2_with (fail)
        go_ret3
        exact ⟨by simp, bdn (bseqT hb1H.out hb2H.out)⟩
end Go.Proofs.Ytkecdjdggkpdpab
