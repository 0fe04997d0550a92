/- Tb Tc -/
import Derived.Test.YtkecdjdggkpdpabProg
import Derived.Test.YtkecdjdggkpdpabQTa
import Derived.Test.YtkecdjdggkpdpabQJo
import Derived.Lib.Hide
import Derived.IntWalk
import Derived.BigQuiet
import Derived.Deep.QuietTactic
import Derived.Test.YtkecdjdggkpdpabQShelf
import Derived.Test.YtkecdjdggkpdpabQJm
set_option linter.unusedVariables false
/- Walks of small functions: below, divisor, and the reference's in, Fraction, Gcd, Floor, Square. -/
namespace Go.Proofs.Ytkecdjdggkpdpab
open Go Go.RowKit Go.Proofs

theorem retI {k : IntKind} {a b : Int} (h : a = b) : Ending.returned (.int k a) = .returned (.int k b) := by rw [h]
theorem retBo {a b : Bool} (h : a = b) : Ending.returned (.bool a) = .returned (.bool b) := by rw [h]
/-- A product of two numbers, as the walk spells it. -/
theorem mulN {a b P : Nat} (h : a * b = P) : (a : Int) * (b : Int) = (P : Int) := by rw [← h]; exact (Int.natCast_mul a b).symm
theorem wr64 {z : Int} (h1 : -9223372036854775808 ≤ z) (h2 : z ≤ 9223372036854775807) : IntKind.i64.wrap z = z := by rw [IntKind.wrap_i64]; omega
end Go.Proofs.Ytkecdjdggkpdpab

/- Walks: divisor, the reference's in, Fraction, Gcd, Square, off, Closer. -/
namespace Go.Proofs.Ytkecdjdggkpdpab
open Go Go.RowKit Go.Proofs

def inB (v lo hi : Int) : Bool := decide (lo ≤ v) && decide (v ≤ hi)
def frB (o u : Int) : Bool := inB o 1 1000000 && inB u 1 1000000
set_option maxHeartbeats 800000 in
theorem divisor_any (a b : Nat) (w : World) (ha : a ≤ 9223372036854775807) (hb : b ≤ 9223372036854775807) :
    Calls Try.prog 25 #[.int .i64 (a : Nat), .int .i64 (b : Nat)] w (fun e w' => e = .returned (.int .i64 (Nat.gcd a b : Nat)) ∧ Below w.heap.size w w') := by
  obtain ⟨g, hg⟩ : ∃ g, Nat.gcd a b = g := ⟨_, rfl⟩
  rw [hg]
  have hgH := Lib.hid hg
  clear hg
  go_enter Try.func25, Try.ntmps25
  go_wp2_with (fail)
  go_loopw [0, 1] (fun av bv wr => ∃ x y : Nat, av = .int .i64 (x : Nat) ∧ bv = .int .i64 (y : Nat) ∧ x ≤ 9223372036854775807 ∧ y ≤ 9223372036854775807 ∧ Nat.gcd x y = g ∧ Below w.heap.size w wr) (fun _ bv _ => (intOf bv).toNat)
  case atStart => exact ⟨a, b, rfl, rfl, ha, hb, hgH.out, Below.refl _ _⟩
  case round =>
    obtain ⟨x, y, rfl, rfl, hx, hy, hxy, hbl⟩ := hrel
    have hblH := Lib.hid hbl
    have hxyH := Lib.hid hxy
    clear hbl hxy
    by_cases h0 : 0 < y
    · have hy1 : ¬ (y : Int) = 0 := by omega
      have hy2 : ((y : Int) == 0) = false := by simp; omega
      have hy3 : ((y : Int) != 0) = true := by simp; omega
      obtain ⟨z, hz⟩ : ∃ z, x % y = z := ⟨_, rfl⟩
      have hzy : z < y := by rw [← hz]; exact Nat.mod_lt _ h0
      have t1 : (x : Int).tmod (y : Int) = (z : Int) := by rw [← hz]; exact (Int.ofNat_tmod x y).symm
      have t2 : (x : Int) % (y : Int) = (z : Int) := by rw [← hz]; exact (Int.natCast_emod x y).symm
      have hzH := Lib.hid hz
      clear hz
      go_wp2_with (fail)
      go_quiet (fail)
      go_wp2_with (fail)
      go_roundw
      case rel => exact ⟨y, z, rfl, rfl, hy, by omega, by rw [← hxyH.out, ← hzH.out, Nat.gcd_comm x y]; exact (Nat.gcd_comm _ _).trans (Nat.gcd_rec y x).symm, bdn hblH.out⟩
      case measure => simp [intOf]; omega
    · have hye : 0 = y := by omega
      subst hye
      go_wp2_with (fail)
      go_ret
      have := hxyH.out
      rw [Nat.gcd_zero_right] at this
      subst this
      exact ⟨rfl, hblH.out⟩
def sqB (d : Nat) : Bool := decide (fl d * fl d = d)
/-- How far p/q is from o/u: the numerator, the denominator being u q. -/
def offN (o u p q : Nat) : Nat := (o * q - p * u) + (p * u - o * q)
set_option maxHeartbeats 800000 in
theorem off_any (o u p q : Nat) (w : World) (h1 : o * q ≤ 4611686018427387904) (h2 : p * u ≤ 4611686018427387904) :
    Calls Try.prog 31 #[.int .i64 (o : Nat), .int .i64 (u : Nat), .int .i64 (p : Nat), .int .i64 (q : Nat)] w (fun e w' => e = .returned (.int .u64 (offN o u p q : Nat)) ∧ w = w') := by
  obtain ⟨A, hA⟩ : ∃ A, o * q = A := ⟨_, rfl⟩
  obtain ⟨B, hB⟩ : ∃ B, p * u = B := ⟨_, rfl⟩
  have hAI := mulN hA
  have hBI := mulN hB
  have he : Hid (offN o u p q = (A - B) + (B - A)) := by show _ = _; unfold offN; rw [hA, hB]
  rw [hA] at h1
  rw [hB] at h2
  clear hA hB
  by_cases h : B ≤ A
  · have hd : (0 : Int) ≤ (A : Int) - (B : Int) := by omega
    have hd1 : (B : Int) ≤ (A : Int) := by omega
    have he2 : Hid ((offN o u p q : Int) = (A : Int) - (B : Int)) := by show _ = _; rw [he.out]; omega
    go_enter Try.func31, Try.ntmps31
    go_wp2_with (fail)
    go_ret
    refine ⟨retI ?_, rfl⟩
    rw [he2.out]
  · have hd1 : ¬ (B : Int) ≤ (A : Int) := by omega
    have hd : ¬ (0 : Int) ≤ (A : Int) - (B : Int) := by omega
    have he2 : Hid ((offN o u p q : Int) = (B : Int) - (A : Int)) := by show _ = _; rw [he.out]; omega
    go_enter Try.func31, Try.ntmps31
    go_wp2_with (fail)
    go_ret
    refine ⟨retI ?_, rfl⟩
    rw [he2.out]
/-- p/q is closer to o/u than r/s. -/
def closerB (o u p q r s : Nat) : Bool := decide (offN o u p q * s < offN o u r s * q)
theorem split_lt (X Y B : Nat) (hB : 0 < B) : X < Y ↔ (X / B < Y / B ∨ (X / B = Y / B ∧ X % B < Y % B)) := by
  have h1 := Nat.div_add_mod X B
  have h2 := Nat.div_add_mod Y B
  have h3 := Nat.mod_lt X hB
  have h4 := Nat.mod_lt Y hB
  constructor
  · intro h
    rcases Nat.lt_trichotomy (X / B) (Y / B) with h5 | h5 | h5
    · exact .inl h5
    · right
      refine ⟨h5, ?_⟩
      rw [h5] at h1
      omega
    · have h6 := Nat.mul_le_mul_left B h5
      rw [Nat.succ_eq_add_one, Nat.mul_add, Nat.mul_one] at h6
      omega
  · rintro (h | ⟨h, h5⟩)
    · have h6 := Nat.mul_le_mul_left B h
      rw [Nat.succ_eq_add_one, Nat.mul_add, Nat.mul_one] at h6
      omega
    · rw [h] at h1
      omega
set_option maxHeartbeats 1600000 in
theorem closer_any (o u p q r s : Nat) (b : Bool) (w : World) (h1 : o * q ≤ 4611686018427387904) (h2 : p * u ≤ 4611686018427387904) (h3 : o * s ≤ 4611686018427387904) (h4 : r * u ≤ 4611686018427387904) (hq : q ≤ 9223372036854775807) (hs : s ≤ 9223372036854775807) (hb : closerB o u p q r s = b) :
    Calls Try.prog 9 #[.int .i64 (o : Nat), .int .i64 (u : Nat), .int .i64 (p : Nat), .int .i64 (q : Nat), .int .i64 (r : Nat), .int .i64 (s : Nat)] w (fun e w' => e = .returned (.bool b) ∧ w = w') := by
  have c1 := Lib.hid (fun W => off_any o u p q W h1 h2)
  have c2 := Lib.hid (fun W => off_any o u r s W h3 h4)
  have hm1 : offN o u p q < 18446744073709551616 := by unfold offN; omega
  have hm2 : offN o u r s < 18446744073709551616 := by unfold offN; omega
  unfold closerB at hb
  obtain ⟨x, hx⟩ : ∃ x, offN o u p q = x := ⟨_, rfl⟩
  obtain ⟨y, hy⟩ : ∃ y, offN o u r s = y := ⟨_, rfl⟩
  rw [hx] at c1 hm1 hb
  rw [hy] at c2 hm2 hb
  clear hx hy h1 h2 h3 h4
  have m1 := Lib.hid (fun W => Try.bits_Mul64 x s hm1 (by omega) W)
  have m2 := Lib.hid (fun W => Try.bits_Mul64 y q hm2 (by omega) W)
  have hsp := split_lt (x * s) (y * q) 18446744073709551616 (by omega)
  obtain ⟨a1, ha1⟩ : ∃ a, x * s / 18446744073709551616 = a := ⟨_, rfl⟩
  obtain ⟨a2, ha2⟩ : ∃ a, x * s % 18446744073709551616 = a := ⟨_, rfl⟩
  obtain ⟨b1, hb1⟩ : ∃ a, y * q / 18446744073709551616 = a := ⟨_, rfl⟩
  obtain ⟨b2, hb2⟩ : ∃ a, y * q % 18446744073709551616 = a := ⟨_, rfl⟩
  rw [ha1, ha2] at m1 hsp
  rw [hb1, hb2] at m2 hsp
  have hbH := Lib.hid hb
  have hspH := Lib.hid hsp
  have wq : IntKind.u64.wrap (q : Int) = (q : Int) := by rw [IntKind.wrap_u64]; omega
  have ws : IntKind.u64.wrap (s : Int) = (s : Int) := by rw [IntKind.wrap_u64]; omega
  clear hb hsp ha1 ha2 hb1 hb2
  have fin : Hid (∀ c : Bool, (c = true ↔ (a1 < b1 ∨ (a1 = b1 ∧ a2 < b2))) → c = b) := fun c hc => by
    rw [← hbH.out, Bool.eq_iff_iff, hc, ← hspH.out]; simp
  by_cases k1 : a1 < b1
  · have d1 : decide (a1 < b1) = true := decide_eq_true k1
    have d2 : decide ((a1 : Int) < (b1 : Int)) = true := decide_eq_true (by omega)
    have hr := Lib.hid (fin.out true (by simp [k1]))
    clear k1
    go_enter Try.func9, Try.ntmps9
    go_wp2_with (first
      | (go_at_call 31; (with_reducible refine (c1.out _).mono ?_); rintro e w1 ⟨rfl, rfl⟩)
      | (go_at_call 31; (with_reducible refine (c2.out _).mono ?_); rintro e w1 ⟨rfl, rfl⟩)
      | (go_at_call 30; (with_reducible refine (m1.out _).mono ?_); rintro e w1 ⟨rfl, rfl⟩)
      | (go_at_call 30; (with_reducible refine (m2.out _).mono ?_); rintro e w1 ⟨rfl, rfl⟩))
    go_ret
    exact ⟨retBo hr.out, rfl⟩
  · have d1 : decide (a1 < b1) = false := decide_eq_false k1
    have d2 : decide ((a1 : Int) < (b1 : Int)) = false := decide_eq_false (by omega)
    by_cases k2 : a1 = b1
    · subst k2
      have d3 : ((a1 : Int) == (a1 : Int)) = true := by simp
      by_cases k3 : a2 < b2
      · have d4 : decide (a2 < b2) = true := decide_eq_true k3
        have d5 : decide ((a2 : Int) < (b2 : Int)) = true := decide_eq_true (by omega)
        have hr := Lib.hid (fin.out true (by simp [k3]))
        clear k1 k3
        go_enter Try.func9, Try.ntmps9
        go_wp2_with (first
          | (go_at_call 31; (with_reducible refine (c1.out _).mono ?_); rintro e w1 ⟨rfl, rfl⟩)
          | (go_at_call 31; (with_reducible refine (c2.out _).mono ?_); rintro e w1 ⟨rfl, rfl⟩)
          | (go_at_call 30; (with_reducible refine (m1.out _).mono ?_); rintro e w1 ⟨rfl, rfl⟩)
          | (go_at_call 30; (with_reducible refine (m2.out _).mono ?_); rintro e w1 ⟨rfl, rfl⟩))
        go_ret
        exact ⟨retBo hr.out, rfl⟩
      · have d4 : decide (a2 < b2) = false := decide_eq_false k3
        have d5 : decide ((a2 : Int) < (b2 : Int)) = false := decide_eq_false (by omega)
        have hr := Lib.hid (fin.out false (by simp [k3]))
        clear k1 k3
        go_enter Try.func9, Try.ntmps9
        go_wp2_with (first
          | (go_at_call 31; (with_reducible refine (c1.out _).mono ?_); rintro e w1 ⟨rfl, rfl⟩)
          | (go_at_call 31; (with_reducible refine (c2.out _).mono ?_); rintro e w1 ⟨rfl, rfl⟩)
          | (go_at_call 30; (with_reducible refine (m1.out _).mono ?_); rintro e w1 ⟨rfl, rfl⟩)
          | (go_at_call 30; (with_reducible refine (m2.out _).mono ?_); rintro e w1 ⟨rfl, rfl⟩))
        go_ret
        exact ⟨retBo hr.out, rfl⟩
    · have d3 : ((a1 : Int) == (b1 : Int)) = false := by simp; omega
      have hr := Lib.hid (fin.out false (by simp [k1, k2]))
      clear k1 k2
      go_enter Try.func9, Try.ntmps9
      go_wp2_with (first
        | (go_at_call 31; (with_reducible refine (c1.out _).mono ?_); rintro e w1 ⟨rfl, rfl⟩)
        | (go_at_call 31; (with_reducible refine (c2.out _).mono ?_); rintro e w1 ⟨rfl, rfl⟩)
        | (go_at_call 30; (with_reducible refine (m1.out _).mono ?_); rintro e w1 ⟨rfl, rfl⟩)
        | (go_at_call 30; (with_reducible refine (m2.out _).mono ?_); rintro e w1 ⟨rfl, rfl⟩))
      go_ret
      exact ⟨retBo hr.out, rfl⟩
end Go.Proofs.Ytkecdjdggkpdpab
