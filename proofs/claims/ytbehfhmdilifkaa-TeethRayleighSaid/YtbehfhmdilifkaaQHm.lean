/- Hm -/
import Derived.Test.YtbehfhmdilifkaaQTw
import Derived.Test.YtbehfhmdilifkaaQTh
import Derived.Test.YtbehfhmdilifkaaQTb
set_option linter.unusedVariables false
/- Walks of between, Between and the reference's Between. -/
namespace Go.Proofs.Ytbehfhmdilifkaa
open Go Go.RowKit Go.Proofs

theorem Mid.le {a b c d p q : Nat} (h : Mid a b c d p q) (hb : 1 ≤ b) (hl : a * d < c * b) : q ≤ b + d ∧ p ≤ a + c := h.least _ _ (In.mediant hb hl)
def BtwP (a b c d : Nat) (w : World) (e : Ending) (w' : World) : Prop := ∃ p q : Nat, e = .returned (.tuple #[.int .i64 (p : Nat), .int .i64 (q : Nat)]) ∧ Mid a b c d p q ∧ Below w.heap.size w w'
section
attribute [local go_sem] undef
set_option maxRecDepth 100000 in
set_option maxHeartbeats 3200000 in
theorem between_any : ∀ (f a b c d : Nat) (W : World), BtOk f a b c d → a ≤ 1000000 → b ≤ 1000000 → c ≤ 1000000 → d ≤ 1000000 →
    Calls Try.prog 75 #[.int .i64 (a : Nat), .int .i64 (b : Nat), .int .i64 (c : Nat), .int .i64 (d : Nat)] W (BtwP a b c d W) := by
  intro f
  induction f with
  | zero => intro a b c d W h; have := h.fu; omega
  | succ f ih =>
    intro a b c d W h ha hb hc hd
    have hb1 := h.b1
    obtain ⟨n, hn⟩ : ∃ n, a / b = n := ⟨_, rfl⟩
    have hnl : n ≤ 1000000 := by rw [← hn]; exact Nat.le_trans (Nat.div_le_self _ _) ha
    have e1 : ¬ (b : Int) = 0 := by omega
    have e2 : ((b : Int) == 0) = false := by simp; omega
    have t3 : (a : Int).tdiv (b : Int) = (n : Int) := by rw [← hn]; exact (Int.ofNat_tdiv a b).symm
    have t4 : (a : Int) / (b : Int) = (n : Int) := by rw [← hn]; exact (Int.natCast_ediv a b).symm
    obtain ⟨n1, hn1⟩ : ∃ n1, n + 1 = n1 := ⟨_, rfl⟩
    have hn1I : (n : Int) + 1 = (n1 : Int) := by omega
    have hn1l : n1 ≤ 1000001 := by omega
    obtain ⟨X, hX⟩ : ∃ X, n1 * d = X := ⟨_, rfl⟩
    have hXI := mulN hX
    have hXl : X ≤ 1000001000000 := by rw [← hX]; exact Nat.le_trans (Nat.mul_le_mul hn1l hd) (by decide)
    by_cases hd0 : d = 0
    · subst hd0
      have hm : Hid (Mid a b c 0 n1 1) := by
        show Mid _ _ _ _ _ _
        rw [← hn1]; exact Mid.whole hb1 hn (by have := h.c1; omega)
      clear ih h hX hXI hn hn1
      go_enter Try.func75, Try.ntmps75
      go_wp2_with (fail)
      go_ret2
      exact ⟨n1, 1, rfl, hm.out, Below.refl _ _⟩
    · have ed : ((d : Int) == 0) = false := by simp; omega
      by_cases hlt : X < c
      · have hltI : (X : Int) < (c : Int) := by omega
        have hm : Hid (Mid a b c d n1 1) := by
          show Mid _ _ _ _ _ _
          rw [← hn1]; exact Mid.whole hb1 hn (by rw [hn1, hX]; exact hlt)
        clear ih h hX hn hn1
        go_enter Try.func75, Try.ntmps75
        go_wp2_with (fail)
        go_ret2
        exact ⟨n1, 1, rfl, hm.out, Below.refl _ _⟩
      · have hltI : ¬ (X : Int) < (c : Int) := by omega
        obtain ⟨s, t, hs, ht, hsb, ht1, htd, hB⟩ := h.next hn hd0 (by rw [hn1, hX]; omega)
        have hlim := fun p q (hm : Mid a b c d p q) => hm.le hb1 h.lt
        have hstep := fun P Q (hm : Mid d t b s P Q) => Mid.step hs ht (show 1 ≤ d by omega) hm
        obtain ⟨Y, hY⟩ : ∃ Y, n * d = Y := ⟨_, rfl⟩
        obtain ⟨Z, hZ⟩ : ∃ Z, n * b = Z := ⟨_, rfl⟩
        have hYI := mulN hY
        have hZI := mulN hZ
        rw [hY] at ht
        rw [hZ] at hs
        have htI : (c : Int) - (Y : Int) = (t : Int) := by omega
        have hsI : (a : Int) - (Z : Int) = (s : Int) := by omega
        have hYl : Y ≤ 1000000 := by omega
        have hZl : Z ≤ 1000000 := by omega
        have ihH := Lib.hid (fun W => ih d t b s W hB hd (by omega) hb (by omega))
        have hlimH := Lib.hid hlim
        have hstepH := Lib.hid hstep
        clear ih h hX hn hn1 hY hZ hB hlim hstep hs ht
        go_enter Try.func75, Try.ntmps75
        go_upto_region 5 with (first
          | (go_at_call 75; go_loud (with_reducible refine (ihH.out _).mono ?_); rintro e w1 ⟨P, Q, rfl, hm, hb⟩; have hmH := Lib.hid (hstepH.out P Q hm); have hb1H := Lib.hid hb; clear hm hb))
        obtain ⟨V, hV⟩ : ∃ V, n * P = V := ⟨_, rfl⟩
        have hVI := mulN hV
        have hl := hlimH.out _ _ hmH.out
        rw [hV] at hl hmH
        have hVl : V ≤ 2000000 := by omega
        have hVQ : V + Q ≤ 2000000 := by omega
        clear hV hl
        go_wp2_with (fail)
        go_ret2
        exact ⟨V + Q, P, by simp, hmH.out, hb1H.out⟩
end
def BtP (a b c d : Nat) (w : World) (e : Ending) (w' : World) : Prop := ∃ p q : Nat, e = .returned (.tuple #[.int .i64 (p : Nat), .int .i64 (q : Nat), .int .i64 0]) ∧ Mid a b c d p q ∧ Below w.heap.size w w'
theorem lit4T (w : World) (x y z u : Int) : IZ (w.alloc (Obj.cells #[.int .i64 x, .int .i64 y, .int .i64 z, .int .i64 u] 3)) (some ⟨w.heap.size, 0, none⟩) [x, y, z, u] := fun i v hz => by
  refine ⟨_, 0, rfl, ?_⟩
  rw [al_newT rfl]
  rcases i with _ | _ | _ | _ | i <;> simp at hz
  all_goals (subst hz; rfl)
theorem betweenP_good (a b c d : Nat) (w : World) (ha : 1 ≤ a) (ha2 : a ≤ 1000000) (hb : 1 ≤ b) (hb2 : b ≤ 1000000) (hc : 1 ≤ c) (hc2 : c ≤ 1000000) (hd : 1 ≤ d) (hd2 : d ≤ 1000000) (hl : a * d < c * b) :
    Calls Try.prog 43 #[.int .i64 (a : Nat), .int .i64 (b : Nat), .int .i64 (c : Nat), .int .i64 (d : Nat)] w (BtP a b c d w) := by
  have hI : Hid (inL 1000000 [(a : Int), (b : Int), (c : Int), (d : Int)] = true) := inL_iff.2 (fun x hx => by simp at hx; rcases hx with rfl | rfl | rfl | rfl <;> omega)
  have hbt := Lib.hid (fun W => between_any (b + d + 1) a b c d W ⟨hb, hl, by omega⟩ ha2 hb2 hc2 hd2)
  obtain ⟨X, hX⟩ : ∃ X, a * d = X := ⟨_, rfl⟩
  obtain ⟨Y, hY⟩ : ∃ Y, c * b = Y := ⟨_, rfl⟩
  have hXI := mulN hX
  have hYI := mulN hY
  have hXl : X ≤ 1000000000000 := by rw [← hX]; exact Nat.le_trans (Nat.mul_le_mul ha2 hd2) (by decide)
  have hYl : Y ≤ 1000000000000 := by rw [← hY]; exact Nat.le_trans (Nat.mul_le_mul hc2 hb2) (by decide)
  rw [hX, hY] at hl
  have hlI : ¬ (Y : Int) ≤ (X : Int) := by omega
  have hlD : decide ((Y : Int) ≤ (X : Int)) = false := decide_eq_false hlI
  have hlD2 : decide (Y ≤ X) = false := decide_eq_false (by omega)
  clear hX hY
  go_enter Try.func43, Try.ntmps43
  go_wp2_with (first
    | (go_at_call 51; go_loud (with_reducible refine (inP_any _ 4 4 1000000 [(a : Int), (b : Int), (c : Int), (d : Int)] true _ (lit4T w a b c d) rfl (by omega) hI.out).mono ?_); rintro e w1 ⟨rfl, hb1⟩; have hb1H := Lib.hid (bseqT (below_al (Below.refl _ _) _) hb1); clear hb1)
    | (go_at_call 75; go_loud (with_reducible refine (hbt.out _).mono ?_); rintro e w2 ⟨p, q, rfl, hm, hb⟩; have hmH := Lib.hid hm; have hb2H := Lib.hid hb; clear hm hb))
  go_ret3
  exact ⟨p, q, rfl, hmH.out, bseqT hb1H.out hb2H.out⟩
section
attribute [local go_sem] undef
theorem betweenP_bad (a b c d : Int) (w : World) (h : inL 1000000 [a, b, c, d] = false) :
    Calls Try.prog 43 #[.int .i64 a, .int .i64 b, .int .i64 c, .int .i64 d] w (fun e w' => e = .returned (.tuple #[.int .i64 0, .int .i64 0, .int .i64 1]) ∧ Below w.heap.size w w') := by
  have hH := Lib.hid h
  clear h
  go_enter Try.func43, Try.ntmps43
  go_wp2_with (go_at_call 51; go_loud (with_reducible refine (inP_any _ 4 4 1000000 [a, b, c, d] false _ (lit4T w a b c d) rfl (by omega) hH.out).mono ?_); rintro e w1 ⟨rfl, hb1⟩; have hb1H := Lib.hid (bseqT (below_al (Below.refl _ _) _) hb1); clear hb1)
  go_ret3
  exact ⟨rfl, hb1H.out⟩
end
theorem betweenP_none (a b c d : Nat) (w : World) (ha : 1 ≤ a) (ha2 : a ≤ 1000000) (hb : 1 ≤ b) (hb2 : b ≤ 1000000) (hc : 1 ≤ c) (hc2 : c ≤ 1000000) (hd : 1 ≤ d) (hd2 : d ≤ 1000000) (hl : c * b ≤ a * d) :
    Calls Try.prog 43 #[.int .i64 (a : Nat), .int .i64 (b : Nat), .int .i64 (c : Nat), .int .i64 (d : Nat)] w (fun e w' => e = .returned (.tuple #[.int .i64 0, .int .i64 0, .int .i64 1]) ∧ Below w.heap.size w w') := by
  have hI : Hid (inL 1000000 [(a : Int), (b : Int), (c : Int), (d : Int)] = true) := inL_iff.2 (fun x hx => by simp at hx; rcases hx with rfl | rfl | rfl | rfl <;> omega)
  obtain ⟨X, hX⟩ : ∃ X, a * d = X := ⟨_, rfl⟩
  obtain ⟨Y, hY⟩ : ∃ Y, c * b = Y := ⟨_, rfl⟩
  have hXI := mulN hX
  have hYI := mulN hY
  have hXl : X ≤ 1000000000000 := by rw [← hX]; exact Nat.le_trans (Nat.mul_le_mul ha2 hd2) (by decide)
  have hYl : Y ≤ 1000000000000 := by rw [← hY]; exact Nat.le_trans (Nat.mul_le_mul hc2 hb2) (by decide)
  rw [hX, hY] at hl
  have hlI : (Y : Int) ≤ (X : Int) := by omega
  have hlD : decide ((Y : Int) ≤ (X : Int)) = true := decide_eq_true hlI
  have hlD2 : decide (Y ≤ X) = true := decide_eq_true (by omega)
  clear hX hY
  go_enter Try.func43, Try.ntmps43
  go_wp2_with (first
    | (go_at_call 51; go_loud (with_reducible refine (inP_any _ 4 4 1000000 [(a : Int), (b : Int), (c : Int), (d : Int)] true _ (lit4T w a b c d) rfl (by omega) hI.out).mono ?_); rintro e w1 ⟨rfl, hb1⟩; have hb1H := Lib.hid (bseqT (below_al (Below.refl _ _) _) hb1); clear hb1))
  go_ret3
  exact ⟨rfl, hb1H.out⟩
set_option maxRecDepth 100000 in
set_option maxHeartbeats 3200000 in
theorem betweenR_good (a b c d p q m : Nat) (w : World) (ha : 1 ≤ a) (ha2 : a ≤ 1000000) (hb : 1 ≤ b) (hb2 : b ≤ 1000000) (hc : 1 ≤ c) (hc2 : c ≤ 1000000) (hd : 1 ≤ d) (hd2 : d ≤ 1000000) (hm : Mid a b c d p q) (hq : q ≤ m) (hml : m ≤ 2000000) :
    Calls Try.prog 44 #[.int .i64 (a : Nat), .int .i64 (b : Nat), .int .i64 (c : Nat), .int .i64 (d : Nat), .int .i64 (m : Nat)] w (fun e w' => e = .returned (.tuple #[.int .i64 (p : Nat), .int .i64 (q : Nat), .bool true]) ∧ Below w.heap.size w w') := by
  have hlow := hm.low hb
  have hless := Lib.hid (fun s => Mid.less (s := s) hb hm)
  have hq1 := hm.is.q1
  have hlowH := Lib.hid hlow
  clear hm hlow
  go_enter Try.func44, Try.ntmps44
  go_wp2_with (fail)
  go_loopg [13, 14] q (fun gk sv pv wr => ∃ s : Nat, sv = .int .i64 (s : Nat) ∧ s + gk = q + 1 ∧ 1 ≤ s ∧ s ≤ q ∧ Below w.heap.size w wr)
  case atStart => exact ⟨1, rfl, by omega, by omega, hq1, Below.refl _ _⟩
  case round =>
    obtain ⟨s, rfl, hsg, hs1, hsq, hbl⟩ := hrel
    have hblH := Lib.hid hbl
    clear hbl
    have hsm : (s : Int) ≤ (m : Int) := by omega
    obtain ⟨A, hA⟩ : ∃ A, a * s = A := ⟨_, rfl⟩
    have hAI := mulN hA
    have hAl : A ≤ 2000000000000 := by rw [← hA]; exact Nat.le_trans (Nat.mul_le_mul ha2 (show s ≤ 2000000 by omega)) (by decide)
    obtain ⟨B, hB⟩ : ∃ B, A / b = B := ⟨_, rfl⟩
    have hBl : B ≤ 2000000000000 := by rw [← hB]; exact Nat.le_trans (Nat.div_le_self _ _) hAl
    have e1 : ¬ (b : Int) = 0 := by omega
    have e2 : ((b : Int) == 0) = false := by simp; omega
    have t3 : (A : Int).tdiv (b : Int) = (B : Int) := by rw [← hB]; exact (Int.ofNat_tdiv A b).symm
    have t4 : (A : Int) / (b : Int) = (B : Int) := by rw [← hB]; exact (Int.natCast_ediv A b).symm
    obtain ⟨r, hr⟩ : ∃ r, B + 1 = r := ⟨_, rfl⟩
    have hrI : (B : Int) + 1 = (r : Int) := by omega
    have hrl : r ≤ 2000000000001 := by omega
    obtain ⟨X, hX⟩ : ∃ X, r * d = X := ⟨_, rfl⟩
    obtain ⟨Y, hY⟩ : ∃ Y, c * s = Y := ⟨_, rfl⟩
    have hXI := mulN hX
    have hYI := mulN hY
    have hXl : X ≤ 2000000000001000000 := by rw [← hX]; exact Nat.le_trans (Nat.mul_le_mul hrl hd2) (by decide)
    have hYl : Y ≤ 2000000000000 := by rw [← hY]; exact Nat.le_trans (Nat.mul_le_mul hc2 (show s ≤ 2000000 by omega)) (by decide)
    by_cases hse : s = q
    · subst hse
      have h5 := hlowH.out
      rw [hA, hB, hr] at h5
      have h6 : X < Y := by rw [← hX, ← hY]; exact h5.2
      have h6I : (X : Int) < (Y : Int) := by omega
      have h7 := h5.1
      subst h7
      clear h5 hA hB hX hY hr
      go_wp2_with (fail)
      go_ret3
      exact ⟨rfl, hblH.out⟩
    · have h5 := hless.out s hs1 (by omega)
      rw [hA, hB, hr, hX, hY] at h5
      have h6I : ¬ (X : Int) < (Y : Int) := by omega
      clear hA hB hX hY hr h5
      go_wp2_with (fail)
      go_roundg (gk - 1)
      case measure => omega
      case rel => exact ⟨s + 1, by go_num, by omega, by omega, by omega, hblH.out⟩
end Go.Proofs.Ytbehfhmdilifkaa
