/- Tw -/
import Derived.Test.YtbehfhmdilifkaaQTa
set_option linter.unusedVariables false
/- Plain: the fraction between two ones that has the least denominator. -/
namespace Go.Proofs.Ytbehfhmdilifkaa

/-- p/q lies between a/b and c/d. -/
structure In (a b c d p q : Nat) : Prop where
  q1 : 1 ≤ q
  lo : a * q < p * b
  hi : p * d < c * q
structure Mid (a b c d p q : Nat) : Prop where
  is : In a b c d p q
  least : ∀ p' q', In a b c d p' q' → q ≤ q' ∧ p ≤ p'
theorem Mid.unique {a b c d p q r s : Nat} (h : Mid a b c d p q) (k : Mid a b c d r s) : p = r ∧ q = s := by
  have h1 := h.least _ _ k.is
  have h2 := k.least _ _ h.is
  omega
theorem Mid.whole {a b c d n : Nat} (hb : 1 ≤ b) (hn : a / b = n) (h : (n + 1) * d < c) : Mid a b c d (n + 1) 1 := by
  have h1 := Nat.lt_div_mul_add (a := a) (b := b) hb
  have h2 := Nat.div_mul_le_self a b
  rw [hn] at h1 h2
  refine ⟨⟨Nat.le_refl _, by rw [Nat.mul_one, Nat.add_mul, Nat.one_mul]; exact h1, by rw [Nat.mul_one]; exact h⟩, fun p' q' k => ⟨k.q1, ?_⟩⟩
  rcases Nat.lt_or_ge n p' with h3 | h3
  · exact h3
  · exfalso
    have h4 : n * b * 1 ≤ a * q' := Nat.mul_le_mul h2 k.q1
    have h5 := k.lo
    have h6 : p' * b ≤ n * b := Nat.mul_le_mul_right b h3
    omega
theorem Mid.step {a b c d n s t P Q : Nat} (ha : a = n * b + s) (hc : c = n * d + t) (hd : 1 ≤ d) (h : Mid d t b s P Q) : Mid a b c d (n * P + Q) P := by
  subst ha hc
  have hi := h.is
  have h1 := hi.q1
  have h2 := hi.lo
  have h3 := hi.hi
  have hP : 1 ≤ P := by
    rcases Nat.eq_zero_or_pos P with h4 | h4
    · subst h4; rw [Nat.zero_mul] at h2; omega
    · exact h4
  refine ⟨⟨hP, ?_, ?_⟩, fun p' q' k => ?_⟩
  · rw [Nat.add_mul, Nat.add_mul, Nat.mul_right_comm, Nat.mul_assoc n P b, Nat.mul_comm P b, ← Nat.mul_assoc, Nat.mul_right_comm n b P]
    have e : s * P = P * s := Nat.mul_comm _ _
    have e2 : Q * b = b * Q := Nat.mul_comm _ _
    have e3 : n * P * b = n * b * P := Nat.mul_right_comm _ _ _
    omega
  · rw [Nat.add_mul, Nat.add_mul]
    have e : Q * d = d * Q := Nat.mul_comm _ _
    have e2 : t * P = P * t := Nat.mul_comm _ _
    have e3 : n * P * d = n * d * P := Nat.mul_right_comm _ _ _
    omega
  · have k1 := k.q1
    have k2 := k.lo
    have k3 := k.hi
    rw [Nat.add_mul] at k2 k3
    have hp : n * q' < p' := by
      rcases Nat.lt_or_ge (n * q') p' with h4 | h4
      · exact h4
      · exfalso
        have h5 : p' * b ≤ n * q' * b := Nat.mul_le_mul_right b h4
        have e3 : n * q' * b = n * b * q' := Nat.mul_right_comm _ _ _
        omega
    obtain ⟨R, hR⟩ : ∃ R, p' = n * q' + R := ⟨p' - n * q', by omega⟩
    subst hR
    rw [Nat.add_mul] at k2 k3
    have e3 : n * q' * b = n * b * q' := Nat.mul_right_comm _ _ _
    have e4 : n * q' * d = n * d * q' := Nat.mul_right_comm _ _ _
    have e5 : s * q' = q' * s := Nat.mul_comm _ _
    have e6 : R * b = b * R := Nat.mul_comm _ _
    have e7 : R * d = d * R := Nat.mul_comm _ _
    have e8 : t * q' = q' * t := Nat.mul_comm _ _
    have hk : In d t b s q' R := ⟨by omega, by omega, by omega⟩
    have h6 := h.least _ _ hk
    refine ⟨h6.2, ?_⟩
    have h7 : n * P ≤ n * q' := Nat.mul_le_mul_left n h6.2
    omega
/-- What the recursion asks. -/
structure BtOk (f a b c d : Nat) : Prop where
  b1 : 1 ≤ b
  lt : a * d < c * b
  fu : b + d < f
theorem BtOk.c1 {f a b c d : Nat} (h : BtOk f a b c d) : 1 ≤ c := by
  rcases Nat.eq_zero_or_pos c with h1 | h1
  · have := h.lt; subst h1; rw [Nat.zero_mul] at this; omega
  · exact h1
theorem BtOk.next {f a b c d n : Nat} (h : BtOk (f + 1) a b c d) (hn : a / b = n) (hd : d ≠ 0) (hge : c ≤ (n + 1) * d) :
    ∃ s t, a = n * b + s ∧ c = n * d + t ∧ s < b ∧ 1 ≤ t ∧ t ≤ d ∧ BtOk f d t b s := by
  have h1 := Nat.lt_div_mul_add (a := a) (b := b) h.b1
  have h2 := Nat.div_mul_le_self a b
  rw [hn] at h1 h2
  have hl := h.lt
  have hc : n * d < c := by
    rcases Nat.lt_or_ge (n * d) c with h3 | h3
    · exact h3
    · exfalso
      have h4 : c * b ≤ n * d * b := Nat.mul_le_mul_right b h3
      have h5 : n * b * d ≤ a * d := Nat.mul_le_mul_right d h2
      have e : n * d * b = n * b * d := Nat.mul_right_comm _ _ _
      omega
  obtain ⟨s, hs⟩ : ∃ s, a = n * b + s := ⟨a - n * b, by omega⟩
  obtain ⟨t, ht⟩ : ∃ t, c = n * d + t := ⟨c - n * d, by omega⟩
  rw [Nat.add_mul, Nat.one_mul] at hge
  refine ⟨s, t, hs, ht, by omega, by omega, by omega, ⟨by omega, ?_, by have := h.fu; omega⟩⟩
  rw [hs, ht, Nat.add_mul, Nat.add_mul, Nat.mul_right_comm] at hl
  have e : s * d = d * s := Nat.mul_comm _ _
  have e2 : t * b = b * t := Nat.mul_comm _ _
  omega
theorem In.mediant {a b c d : Nat} (hb : 1 ≤ b) (h : a * d < c * b) : In a b c d (a + c) (b + d) := by
  refine ⟨by omega, ?_, ?_⟩
  · rw [Nat.mul_add, Nat.add_mul]; omega
  · rw [Nat.mul_add, Nat.add_mul]; omega
theorem Mid.mediant {a b c d : Nat} (hb : 1 ≤ b) (h : c * b = a * d + 1) : Mid a b c d (a + c) (b + d) := by
  refine ⟨In.mediant hb (by omega), fun p q k => ?_⟩
  have k2 := k.lo
  have k3 := k.hi
  obtain ⟨x, hx⟩ : ∃ x, p * b = a * q + 1 + x := ⟨p * b - a * q - 1, by omega⟩
  obtain ⟨y, hy⟩ : ∃ y, c * q = p * d + 1 + y := ⟨c * q - p * d - 1, by omega⟩
  -- q = b (c q - d p) + d (p b - a q), p = a (c q - d p) + c (p b - a q)
  have h1 : q = b * (1 + y) + d * (1 + x) := by
    have e1 : b * (c * q) = b * (p * d) + b * (1 + y) := by rw [hy, Nat.add_assoc, Nat.mul_add]
    have e2 : d * (p * b) = d * (a * q) + d * (1 + x) := by rw [hx, Nat.add_assoc, Nat.mul_add]
    have e3 : c * b * q = a * d * q + q := by rw [h, Nat.add_mul, Nat.one_mul]
    have e4 : b * (c * q) = c * b * q := by rw [← Nat.mul_assoc, Nat.mul_comm b c]
    have e5 : b * (p * d) = d * (p * b) := by rw [Nat.mul_comm b, Nat.mul_comm p d, Nat.mul_assoc]
    have e6 : d * (a * q) = a * d * q := by rw [← Nat.mul_assoc, Nat.mul_comm d a]
    omega
  have h2 : p = a * (1 + y) + c * (1 + x) := by
    have e1 : a * (c * q) = a * (p * d) + a * (1 + y) := by rw [hy, Nat.add_assoc, Nat.mul_add]
    have e2 : c * (p * b) = c * (a * q) + c * (1 + x) := by rw [hx, Nat.add_assoc, Nat.mul_add]
    have e3 : c * b * p = a * d * p + p := by rw [h, Nat.add_mul, Nat.one_mul]
    have e4 : c * (p * b) = c * b * p := by rw [Nat.mul_comm p b, ← Nat.mul_assoc]
    have e5 : a * (c * q) = c * (a * q) := by rw [← Nat.mul_assoc, Nat.mul_comm a c, Nat.mul_assoc]
    have e6 : a * (p * d) = a * d * p := by rw [Nat.mul_comm p d, ← Nat.mul_assoc]
    omega
  have h3 : b * 1 ≤ b * (1 + y) := Nat.mul_le_mul_left b (by omega)
  have h4 : d * 1 ≤ d * (1 + x) := Nat.mul_le_mul_left d (by omega)
  have h5 : a * 1 ≤ a * (1 + y) := Nat.mul_le_mul_left a (by omega)
  have h6 : c * 1 ≤ c * (1 + x) := Nat.mul_le_mul_left c (by omega)
  omega
/-- The least numerator above a/b with the denominator s. -/
theorem In.of_low {a b c d s : Nat} (hb : 1 ≤ b) (hs : 1 ≤ s) (h : (a * s / b + 1) * d < c * s) : In a b c d (a * s / b + 1) s := by
  refine ⟨hs, ?_, h⟩
  have h1 := Nat.lt_div_mul_add (a := a * s) (b := b) hb
  rw [Nat.add_mul, Nat.one_mul]; exact h1
theorem Mid.low {a b c d p q : Nat} (hb : 1 ≤ b) (h : Mid a b c d p q) : a * q / b + 1 = p ∧ (a * q / b + 1) * d < c * q := by
  have h1 := h.is.lo
  have h2 : a * q / b < p := (Nat.div_lt_iff_lt_mul hb).2 h1
  have h3 : (a * q / b + 1) * d ≤ p * d := Nat.mul_le_mul_right d h2
  have h4 := h.is.hi
  have h5 : (a * q / b + 1) * d < c * q := by omega
  have h6 := (h.least _ _ (In.of_low hb h.is.q1 h5)).2
  omega
theorem Mid.less {a b c d p q s : Nat} (hb : 1 ≤ b) (h : Mid a b c d p q) (hs : 1 ≤ s) (hsq : s < q) : ¬ (a * s / b + 1) * d < c * s := fun h1 => by
  have := (h.least _ _ (In.of_low hb hs h1)).1
  omega
end Go.Proofs.Ytbehfhmdilifkaa
