/- Tg Ty -/
import Derived.Test.YtkecdjdggkpdpabQTb
import Derived.Test.YtkecdjdggkpdpabQTa
set_option linter.unusedVariables false
/- Plain: the closest fraction with a denominator of at most some number. -/
namespace Go.Proofs.Ytkecdjdggkpdpab

/-- What the search has tried: all denominators below Q, and k numerators of Q. -/
def Trd (o u Q k q p : Nat) : Prop := (1 ≤ q ∧ q < Q ∧ (p = o * q / u ∨ p = o * q / u + 1)) ∨ (q = Q ∧ o * Q / u ≤ p ∧ p < o * Q / u + k)
/-- p/q is no closer than bp/bq; strictly farther, if it was tried before. -/
def Far (o u bp bq q p : Nat) : Prop := offN o u bp bq * q ≤ offN o u p q * bq ∧ ((q < bq ∨ (q = bq ∧ p < bp)) → offN o u bp bq * q < offN o u p q * bq)
/-- The best one so far. -/
structure NB (o u Q k bp bq : Nat) : Prop where
  pos : 1 ≤ bq
  mem : Trd o u Q k bq bp
  far : ∀ q p, Trd o u Q k q p → Far o u bp bq q p
theorem Trd.pos {o u Q k q p : Nat} (hQ : 1 ≤ Q) (h : Trd o u Q k q p) : 1 ≤ q := by
  rcases h with h | h
  · exact h.1
  · omega
theorem Trd.le {o u Q k q p : Nat} (h : Trd o u Q k q p) : q ≤ Q := by
  rcases h with h | h <;> omega
theorem Trd.succ {o u Q k q p : Nat} : Trd o u Q (k + 1) q p ↔ Trd o u Q k q p ∨ (q = Q ∧ p = o * Q / u + k) := by
  unfold Trd
  constructor
  · rintro (h | ⟨h1, h2, h3⟩)
    · exact .inl (.inl h)
    · by_cases h4 : p < o * Q / u + k
      · exact .inl (.inr ⟨h1, h2, h4⟩)
      · exact .inr ⟨h1, by omega⟩
  · rintro ((h | ⟨h1, h2, h3⟩) | ⟨h1, h2⟩)
    · exact .inl h
    · exact .inr ⟨h1, h2, by omega⟩
    · exact .inr ⟨h1, by omega, by omega⟩
theorem Trd.next {o u Q q p : Nat} (hQ : 1 ≤ Q) : Trd o u (Q + 1) 0 q p ↔ Trd o u Q 2 q p := by
  unfold Trd
  constructor
  · rintro (⟨h1, h2, h3⟩ | ⟨h1, h2, h3⟩)
    · by_cases h4 : q < Q
      · exact .inl ⟨h1, h4, h3⟩
      · have : q = Q := by omega
        subst this
        exact .inr ⟨rfl, by omega, by omega⟩
    · omega
  · rintro (⟨h1, h2, h3⟩ | ⟨h1, h2, h3⟩)
    · exact .inl ⟨h1, by omega, h3⟩
    · subst h1
      exact .inl ⟨hQ, by omega, by omega⟩
theorem Trd.none {o u q p : Nat} : ¬ Trd o u 1 0 q p := by
  unfold Trd
  rintro (⟨h1, h2, _⟩ | ⟨_, h2, h3⟩) <;> omega
theorem NB.next {o u Q bp bq : Nat} (hQ : 1 ≤ Q) (h : NB o u Q 2 bp bq) : NB o u (Q + 1) 0 bp bq :=
  ⟨h.pos, (Trd.next hQ).2 h.mem, fun q p ht => h.far q p ((Trd.next hQ).1 ht)⟩
/-- The first one. -/
theorem NB.first {o u : Nat} : NB o u 1 1 (o * 1 / u) 1 := by
  refine ⟨Nat.le_refl _, .inr ⟨rfl, Nat.le_refl _, by omega⟩, fun q p ht => ?_⟩
  rcases Trd.succ.1 ht with h | ⟨rfl, rfl⟩
  · exact absurd h Trd.none
  · exact ⟨Nat.le_refl _, fun h => by omega⟩
/-- A closer one comes. -/
theorem NB.take {o u Q k bp bq : Nat} (hQ : 1 ≤ Q) (h : NB o u Q k bp bq) (hlt : offN o u (o * Q / u + k) Q * bq < offN o u bp bq * Q) : NB o u Q (k + 1) (o * Q / u + k) Q := by
  have key : ∀ q p, Trd o u Q k q p → offN o u (o * Q / u + k) Q * q < offN o u p q * Q := fun q p ht => by
    have h1 := (h.far q p ht).1
    have hq := ht.pos hQ
    have h2 := Nat.mul_lt_mul_of_pos_right hlt (show 0 < q by omega)
    have h3 := Nat.mul_le_mul_right Q h1
    have e1 : offN o u (o * Q / u + k) Q * bq * q = offN o u (o * Q / u + k) Q * q * bq := by rw [Nat.mul_assoc, Nat.mul_comm bq q, ← Nat.mul_assoc]
    have e2 : offN o u bp bq * Q * q = offN o u bp bq * q * Q := by rw [Nat.mul_assoc, Nat.mul_comm Q q, ← Nat.mul_assoc]
    have e3 : offN o u p q * bq * Q = offN o u p q * Q * bq := by rw [Nat.mul_assoc, Nat.mul_comm bq Q, ← Nat.mul_assoc]
    rw [e1, e2] at h2
    rw [e3] at h3
    exact Nat.lt_of_mul_lt_mul_right (a := bq) (Nat.lt_of_lt_of_le h2 h3)
  refine ⟨hQ, Trd.succ.2 (.inr ⟨rfl, rfl⟩), fun q p ht => ?_⟩
  rcases Trd.succ.1 ht with ht | ⟨rfl, rfl⟩
  · exact ⟨Nat.le_of_lt (key q p ht), fun _ => key q p ht⟩
  · exact ⟨Nat.le_refl _, fun h => by omega⟩
/-- One that is no closer comes. -/
theorem NB.keep {o u Q k bp bq : Nat} (h : NB o u Q k bp bq) (hge : offN o u bp bq * Q ≤ offN o u (o * Q / u + k) Q * bq) : NB o u Q (k + 1) bp bq := by
  refine ⟨h.pos, Trd.succ.2 (.inl h.mem), fun q p ht => ?_⟩
  rcases Trd.succ.1 ht with ht | ⟨rfl, rfl⟩
  · exact h.far q p ht
  · refine ⟨hge, fun h2 => ?_⟩
    rcases h.mem with ⟨_, h3, _⟩ | ⟨h3, h4, h5⟩ <;> omega
/-- The closest one, with the least denominator, with the least numerator. -/
def NearI (o u m bp bq : Nat) : Prop := NB o u m 2 bp bq
theorem NB.done {o u m bp bq : Nat} (hm : 1 ≤ m) (h : NB o u (m + 1) 0 bp bq) : NearI o u m bp bq :=
  ⟨h.pos, (Trd.next hm).1 h.mem, fun q p ht => h.far q p ((Trd.next hm).2 ht)⟩
/-- An exact one: no later one is closer. -/
theorem NB.exact {o u Q m bp bq : Nat} (hQ : 1 ≤ Q) (hm : Q ≤ m) (h : NB o u Q 2 bp bq) (h0 : offN o u bp bq = 0) : NearI o u m bp bq := by
  have up : ∀ d, NB o u (Q + d) 2 bp bq := by
    intro d
    induction d with
    | zero => exact h
    | succ d ih =>
      have h1 := ih.next (by omega)
      exact ((h1.keep (by rw [h0]; omega)).keep (by rw [h0]; omega))
  have := up (m - Q)
  rw [show Q + (m - Q) = m by omega] at this
  exact this
theorem NearI.unique {o u m a b c d : Nat} (hm : 1 ≤ m) (h : NearI o u m a b) (k : NearI o u m c d) : a = c ∧ b = d := by
  have h1 := h.far d c k.mem
  have h2 := k.far b a h.mem
  have e : b = d := by
    rcases Nat.lt_trichotomy b d with h3 | h3 | h3
    · have := h2.2 (.inl h3)
      have := h1.1
      omega
    · exact h3
    · have := h1.2 (.inl h3)
      have := h2.1
      omega
  subst e
  refine ⟨?_, rfl⟩
  rcases Nat.lt_trichotomy a c with h3 | h3 | h3
  · have := h2.2 (.inr ⟨rfl, h3⟩)
    have := h1.1
    omega
  · exact h3
  · have := h1.2 (.inr ⟨rfl, h3⟩)
    have := h2.1
    omega
theorem low_le {o u q : Nat} (hu : 0 < u) : o * q / u * u ≤ o * q ∧ o * q < o * q / u * u + u := by
  have h1 := Nat.div_add_mod (o * q) u
  have h2 := Nat.mod_lt (o * q) hu
  rw [Nat.mul_comm] at h1
  omega
/-- How far the two around are. -/
theorem off_low {o u q : Nat} (hu : 0 < u) : offN o u (o * q / u) q = o * q - o * q / u * u ∧ offN o u (o * q / u + 1) q = o * q / u * u + u - o * q := by
  have h := low_le (o := o) (q := q) hu
  unfold offN
  rw [Nat.succ_mul]
  omega
theorem Trd.off {o u Q k q p : Nat} (hu : 0 < u) (hk : k ≤ 2) (h : Trd o u Q k q p) : offN o u p q ≤ u := by
  have h1 := off_low (o := o) (q := q) hu
  have h2 := low_le (o := o) (q := q) hu
  have : p = o * q / u ∨ p = o * q / u + 1 := by
    rcases h with h | ⟨rfl, h3, h4⟩
    · exact h.2.2
    · omega
  rcases this with rfl | rfl <;> omega
/-- Which fractions are near enough to be tried. -/
theorem near_low {o u p q : Nat} (hu : 0 < u) (h : offN o u p q < u) : p = o * q / u ∨ p = o * q / u + 1 := by
  have h2 := low_le (o := o) (q := q) hu
  unfold offN at h
  have h3 : p * u < o * q / u * u + 2 * u := by omega
  have h4 : o * q / u * u < p * u + u := by omega
  rw [← Nat.add_mul] at h3
  rw [← Nat.succ_mul] at h4
  have h5 := Nat.lt_of_mul_lt_mul_right h3
  have h6 := Nat.lt_of_mul_lt_mul_right h4
  omega
theorem offN_mul {o u p q : Nat} (g : Nat) : offN o u (g * p) (g * q) = g * offN o u p q := by
  unfold offN
  rw [Nat.mul_add, Nat.mul_sub, Nat.mul_sub]
  congr 2
  · rw [Nat.mul_left_comm]
  · rw [Nat.mul_assoc]
  · rw [Nat.mul_assoc]
  · rw [Nat.mul_left_comm]
/-- It is in lowest terms. -/
theorem NearI.gcd {o u m bp bq : Nat} (hu : 0 < u) (h : NearI o u m bp bq) : Nat.gcd bp bq = 1 := by
  have hp := h.pos
  have hg0 : 0 < Nat.gcd bp bq := Nat.gcd_pos_of_pos_right _ (by omega)
  refine Nat.le_antisymm (Nat.le_of_not_lt fun hg => ?_) hg0
  obtain ⟨g, hgd⟩ : ∃ g, Nat.gcd bp bq = g := ⟨_, rfl⟩
  obtain ⟨p', hp'⟩ := Nat.gcd_dvd_left bp bq
  obtain ⟨q', hq'⟩ := Nat.gcd_dvd_right bp bq
  rw [hgd] at hg hp' hq' hg0
  have hoff := h.mem.off hu (Nat.le_refl _)
  have hoff2 : offN o u bp bq ≠ u ∨ g * offN o u p' q' ≤ u := by right; rw [← offN_mul, ← hp', ← hq']; exact hoff
  have hm : offN o u bp bq = g * offN o u p' q' := by
    conv => lhs; rw [hp', hq']
    exact offN_mul g
  have hlt : offN o u p' q' < u := by
    have h1 : g * offN o u p' q' ≤ u := by rw [← hm]; exact hoff
    have h2 : 2 * offN o u p' q' ≤ g * offN o u p' q' := Nat.mul_le_mul_right _ hg
    omega
  have hq0 : 0 < q' := by
    rcases Nat.eq_zero_or_pos q' with h0 | h0
    · rw [h0, Nat.mul_zero] at hq'; omega
    · exact h0
  have hqlt : q' < bq := by
    have h2 : 2 * q' ≤ g * q' := Nat.mul_le_mul_right _ hg
    omega
  have hqm := h.mem.le
  have h3 := (h.far q' p' (.inl ⟨hq0, by omega, near_low hu hlt⟩)).2 (.inl hqlt)
  rw [hm] at h3
  have h4 : g * offN o u p' q' * q' = offN o u p' q' * bq := by
    conv => rhs; rw [hq']
    rw [Nat.mul_comm g, Nat.mul_assoc]
  omega
end Go.Proofs.Ytkecdjdggkpdpab

/- Plain: the convergents of a fraction are its closest fractions. -/
namespace Go.Proofs.Ytkecdjdggkpdpab

/-- What holds behind a term: the convergent p/q, the one before, the two remainders r > s. -/
structure CI (o u p q pp qq r s : Nat) : Prop where
  ho : o = p * r + pp * s
  hu : u = q * r + qq * s
  lt : s < r
  q1 : 1 ≤ q
  det : (pp * q = p * qq + 1) ∨ (p * qq = pp * q + 1)
theorem CI.start {o u : Nat} (hu : 1 ≤ u) : CI o u (o / u) 1 1 0 u (o % u) :=
  ⟨by have := Nat.div_add_mod o u; rw [Nat.mul_comm] at this; omega, by omega, Nat.mod_lt _ hu, Nat.le_refl _, .inl (by omega)⟩
theorem CI.step {o u p q pp qq r s : Nat} (h : CI o u p q pp qq r s) (hs : 1 ≤ s) : CI o u (r / s * p + pp) (r / s * q + qq) p q s (r % s) := by
  have hd := Nat.div_add_mod r s
  obtain ⟨t, ht⟩ : ∃ t, r / s = t := ⟨_, rfl⟩
  obtain ⟨m, hm⟩ : ∃ m, r % s = m := ⟨_, rfl⟩
  rw [ht, hm] at hd ⊢
  have hml : m < s := by rw [← hm]; exact Nat.mod_lt _ hs
  have ht1 : 1 ≤ t := by
    rw [← ht]; exact Nat.div_pos (Nat.le_of_lt h.lt) hs
  have hq := h.q1
  refine ⟨?_, ?_, hml, ?_, ?_⟩
  · rw [h.ho, ← hd, Nat.mul_add, Nat.add_mul]
    have e : p * (s * t) = t * p * s := by rw [Nat.mul_comm s t, ← Nat.mul_assoc, Nat.mul_comm p t]
    omega
  · rw [h.hu, ← hd, Nat.mul_add, Nat.add_mul]
    have e : q * (s * t) = t * q * s := by rw [Nat.mul_comm s t, ← Nat.mul_assoc, Nat.mul_comm q t]
    omega
  · have : 1 * q ≤ t * q := Nat.mul_le_mul_right q ht1
    omega
  · rw [Nat.mul_add, Nat.add_mul]
    have e : p * (t * q) = t * p * q := by rw [← Nat.mul_assoc, Nat.mul_comm p t]
    rcases h.det with h1 | h1
    · exact .inr (by omega)
    · exact .inl (by omega)
theorem CI.p_le {o u p q pp qq r s : Nat} (h : CI o u p q pp qq r s) : p ≤ o ∧ q ≤ u := by
  have h1 := h.lt
  have h2 : p * 1 ≤ p * r := Nat.mul_le_mul_left p (by omega)
  have h3 : q * 1 ≤ q * r := Nat.mul_le_mul_left q (by omega)
  have := h.ho
  have := h.hu
  omega
/-- How far the convergent is. -/
theorem CI.off {o u p q pp qq r s : Nat} (h : CI o u p q pp qq r s) : offN o u p q = s := by
  unfold offN
  rw [h.ho, h.hu, Nat.add_mul, Nat.mul_add]
  have e : p * r * q = p * (q * r) := by rw [Nat.mul_assoc, Nat.mul_comm r q]
  have e1 : pp * s * q = pp * q * s := Nat.mul_right_comm _ _ _
  have e2 : p * (qq * s) = p * qq * s := (Nat.mul_assoc _ _ _).symm
  rcases h.det with h1 | h1
  · have e3 : pp * q * s = p * qq * s + s := by rw [h1, Nat.add_mul, Nat.one_mul]
    omega
  · have e3 : p * qq * s = pp * q * s + s := by rw [h1, Nat.add_mul, Nat.one_mul]
    omega
/-- No other one with a denominator of at most q is nearer than r. -/
theorem CI.best {o u p q pp qq r s P Q : Nat} (h : CI o u p q pp qq r s) (hqq : 1 ≤ qq) (hQ : 1 ≤ Q) (hQq : Q ≤ q) (hne : ¬ (P = p ∧ Q = q)) : r ≤ offN o u P Q := by
  obtain ⟨A, hA⟩ : ∃ A : Int, (p * Q : Int) - P * q = A := ⟨_, rfl⟩
  obtain ⟨B, hB⟩ : ∃ B : Int, (pp * Q : Int) - P * qq = B := ⟨_, rfl⟩
  have hq1 := h.q1
  have hoff : ((o * Q : Nat) : Int) - ((P * u : Nat) : Int) = r * A + s * B := by
    rw [h.ho, h.hu, ← hA, ← hB]
    simp only [Int.natCast_mul, Int.natCast_add, Int.add_mul, Int.mul_add, Int.mul_sub]
    have e1 : (p : Int) * r * Q = r * (p * Q) := by rw [Int.mul_comm (p : Int) r, Int.mul_assoc]
    have e2 : (pp : Int) * s * Q = s * (pp * Q) := by rw [Int.mul_comm (pp : Int) s, Int.mul_assoc]
    have e3 : (P : Int) * (q * r) = r * (P * q) := by rw [← Int.mul_assoc, Int.mul_comm]
    have e4 : (P : Int) * (qq * s) = s * (P * qq) := by rw [← Int.mul_assoc, Int.mul_comm]
    omega
  have hoffN : (offN o u P Q : Int) = (r * A + s * B) ∨ (offN o u P Q : Int) = -(r * A + s * B) := by
    unfold offN
    omega
  have hoff0 : (0 : Int) ≤ (offN o u P Q : Int) := by omega
  -- ε Q = B q - A qq
  have hQe : ((Q : Int) = B * q - A * qq) ∨ (-(Q : Int) = B * q - A * qq) := by
    rw [← hA, ← hB]
    simp only [Int.sub_mul]
    have e1 : (pp : Int) * Q * q = Q * (pp * q) := by rw [Int.mul_comm (pp : Int) Q, Int.mul_assoc]
    have e2 : (P : Int) * qq * q = P * q * qq := by rw [Int.mul_assoc, Int.mul_comm (qq : Int) q, ← Int.mul_assoc]
    have e3 : (p : Int) * Q * qq = Q * (p * qq) := by rw [Int.mul_comm (p : Int) Q, Int.mul_assoc]
    rcases h.det with h1 | h1
    · left
      have h2 : (pp : Int) * q = p * qq + 1 := by exact_mod_cast h1
      have h3 : (Q : Int) * (pp * q) = Q * (p * qq) + Q := by rw [h2, Int.mul_add, Int.mul_one]
      omega
    · right
      have h2 : (p : Int) * qq = pp * q + 1 := by exact_mod_cast h1
      have h3 : (Q : Int) * (p * qq) = Q * (pp * q) + Q := by rw [h2, Int.mul_add, Int.mul_one]
      omega
  have hr : (0 : Int) ≤ r := by omega
  have hs : (0 : Int) ≤ s := by omega
  rcases Int.lt_trichotomy A 0 with hA0 | hA0 | hA0
  · rcases Int.lt_or_le 0 B with hB0 | hB0
    · exfalso
      have h1 : (q : Int) ≤ B * q := by
        have := Int.mul_le_mul_of_nonneg_right (show (1 : Int) ≤ B by omega) (show (0 : Int) ≤ q by omega)
        omega
      have h2 : A * qq ≤ (-1) * qq := Int.mul_le_mul_of_nonneg_right (show A ≤ -1 by omega) (by omega)
      omega
    · have h1 : (r : Int) * A ≤ r * (-1) := Int.mul_le_mul_of_nonneg_left (by omega) hr
      have h2 : (s : Int) * B ≤ s * 0 := Int.mul_le_mul_of_nonneg_left (by omega) hs
      omega
  · exfalso
    rw [hA0, Int.zero_mul] at hQe
    rcases Int.lt_trichotomy B 0 with hB0 | hB0 | hB0
    · have h1 : B * q ≤ (-1) * q := Int.mul_le_mul_of_nonneg_right (by omega) (by omega)
      have hQ2 : Q = q := by omega
      have h2 : (p : Int) * Q = P * q := by omega
      rw [hQ2] at h2
      have h3 := Int.eq_of_mul_eq_mul_right (show (q : Int) ≠ 0 by omega) h2
      exact hne ⟨by omega, hQ2⟩
    · rw [hB0, Int.zero_mul] at hQe; omega
    · have h1 : (1 : Int) * q ≤ B * q := Int.mul_le_mul_of_nonneg_right (by omega) (by omega)
      have hQ2 : Q = q := by omega
      have h2 : (p : Int) * Q = P * q := by omega
      rw [hQ2] at h2
      have h3 := Int.eq_of_mul_eq_mul_right (show (q : Int) ≠ 0 by omega) h2
      exact hne ⟨by omega, hQ2⟩
  · rcases Int.lt_or_le B 0 with hB0 | hB0
    · exfalso
      have h1 : B * q ≤ (-1) * q := Int.mul_le_mul_of_nonneg_right (by omega) (by omega)
      have h2 : (1 : Int) * qq ≤ A * qq := Int.mul_le_mul_of_nonneg_right (by omega) (by omega)
      omega
    · have h1 : (r : Int) * 1 ≤ r * A := Int.mul_le_mul_of_nonneg_left (by omega) hr
      have h2 : (s : Int) * 0 ≤ s * B := Int.mul_le_mul_of_nonneg_left (by omega) hs
      omega
theorem CI.near {o u p q pp qq r s : Nat} (h : CI o u p q pp qq r s) (hqq : 1 ≤ qq) : NearI o u q p q := by
  have hlt := h.lt
  have hq1 := h.q1
  have hu0 : 0 < u := by have := h.p_le.2; omega
  have hoff := h.off
  have hsu : s < u := by
    have h1 : 1 * r ≤ q * r := Nat.mul_le_mul_right r hq1
    have := h.hu
    omega
  have hl := near_low (o := o) (p := p) (q := q) hu0 (by omega)
  refine ⟨hq1, .inr ⟨rfl, by omega, by omega⟩, fun Q P hT => ?_⟩
  have hQ1 := hT.pos hq1
  have hQ2 := hT.le
  unfold Far
  rw [hoff]
  by_cases he : P = p ∧ Q = q
  · obtain ⟨rfl, rfl⟩ := he
    exact ⟨by rw [hoff]; exact Nat.le_refl _, fun hc => by omega⟩
  · have hb := h.best hqq hQ1 hQ2 he
    have h1 : s * Q ≤ s * q := Nat.mul_le_mul_left s hQ2
    have h2 : s * q < offN o u P Q * q := Nat.mul_lt_mul_of_lt_of_le (by omega) (Nat.le_refl _) (by omega)
    exact ⟨by omega, fun _ => by omega⟩
theorem CI.near0 {o u s : Nat} (hu : 1 ≤ u) (hs : o % u = s) (h2 : 2 * s ≤ u) : NearI o u 1 (o / u) 1 := by
  have hl := low_le (o := o) (q := 1) (u := u) hu
  have ho := off_low (o := o) (q := 1) (u := u) hu
  rw [Nat.mul_one] at hl ho
  have hd := Nat.div_add_mod o u
  rw [Nat.mul_comm] at hd
  refine ⟨Nat.le_refl _, .inr ⟨rfl, by rw [Nat.mul_one]; exact Nat.le_refl _, by rw [Nat.mul_one]; omega⟩, fun Q P hT => ?_⟩
  have hQ : Q = 1 := by have := hT.pos (Nat.le_refl 1); have := hT.le; omega
  subst hQ
  have hP : P = o / u ∨ P = o / u + 1 := by
    rcases hT with h | ⟨_, h3, h4⟩
    · omega
    · rw [Nat.mul_one] at h3 h4; omega
  unfold Far
  rcases hP with rfl | rfl
  · exact ⟨Nat.le_refl _, fun hc => by omega⟩
  · exact ⟨by rw [ho.1, ho.2]; omega, fun hc => by omega⟩
/-- Near is at least as close as any of these. -/
theorem NearI.closest {o u m p q s k : Nat} (hu : 0 < u) (hm : 1 ≤ m) (h : NearI o u m p q) (hs : 1 ≤ s) (hsm : s ≤ m) : offN o u p q * s ≤ offN o u (o * s / u + k) s * q := by
  have hT : ∀ j, j < 2 → Trd o u m 2 s (o * s / u + j) := fun j hj => by
    rcases Nat.lt_or_ge s m with h1 | h1
    · exact .inl ⟨hs, h1, by omega⟩
    · have : s = m := by omega
      subst this
      exact .inr ⟨rfl, by omega, by omega⟩
  have h0 := (h.far _ _ (hT 0 (by omega))).1
  have h1 := (h.far _ _ (hT 1 (by omega))).1
  rcases k with _ | _ | k
  · exact h0
  · exact h1
  · refine Nat.le_trans h1 (Nat.mul_le_mul_right q ?_)
    have hl := low_le (o := o) (q := s) (u := u) hu
    unfold offN
    rw [show o * s / u + (k + 1 + 1) = o * s / u + 1 + (k + 1) by omega, Nat.add_mul (o * s / u + 1)]
    have e1 : (o * s / u + 1) * u = o * s / u * u + u := by rw [Nat.add_mul, Nat.one_mul]
    omega
/-- Near of multiples. -/
theorem offN_scale {o u p q k : Nat} : offN (k * o) (k * u) p q = k * offN o u p q := by
  unfold offN
  rw [show k * o * q = k * (o * q) from Nat.mul_assoc _ _ _, show p * (k * u) = k * (p * u) by rw [← Nat.mul_assoc, Nat.mul_comm p k, Nat.mul_assoc], ← Nat.mul_sub, ← Nat.mul_sub, ← Nat.mul_add]
theorem NearI.scale {o u m p q k : Nat} (hk : 0 < k) (h : NearI o u m p q) : NearI (k * o) (k * u) m p q := by
  have e : ∀ q', k * o * q' / (k * u) = o * q' / u := fun q' => by rw [Nat.mul_assoc, Nat.mul_div_mul_left _ _ hk]
  have eT : ∀ q' p', Trd (k * o) (k * u) m 2 q' p' ↔ Trd o u m 2 q' p' := fun q' p' => by unfold Trd; rw [e, e]
  refine ⟨h.pos, (eT _ _).2 h.mem, fun q' p' hT => ?_⟩
  have hf := h.far _ _ ((eT _ _).1 hT)
  unfold Far at hf ⊢
  rw [offN_scale, offN_scale, Nat.mul_assoc, Nat.mul_assoc]
  exact ⟨Nat.mul_le_mul_left k hf.1, fun hc => Nat.mul_lt_mul_of_pos_left (hf.2 hc) hk⟩
end Go.Proofs.Ytkecdjdggkpdpab
