/- Tg -/
import Derived.Test.YtbehfhmdilifkaaQTb
set_option linter.unusedVariables false
/- Plain: the closest fraction with a denominator of at most some number. -/
namespace Go.Proofs.Ytbehfhmdilifkaa

/-- What the search has tried: all denominators below Q, and k numerators of Q. -/
def Trd (o u Q k q p : Nat) : Prop := (1 ≤ q ∧ q < Q ∧ (p = o * q / u ∨ p = o * q / u + 1)) ∨ (q = Q ∧ o * Q / u ≤ p ∧ p < o * Q / u + k)
/-- p/q is no closer than bp/bq; strictly farther, if it was tried before. -/
def Far (o u bp bq q p : Nat) : Prop := offN o u bp bq * q ≤ offN o u p q * bq ∧ ((q < bq ∨ (q = bq ∧ p < bp)) → offN o u bp bq * q < offN o u p q * bq)
/-- The best one so far. -/
structure NB (o u Q k bp bq : Nat) : Prop where
  pos : 1 ≤ bq
  mem : Trd o u Q k bq bp
  far : ∀ q p, Trd o u Q k q p → Far o u bp bq q p
theorem Trd.pos {o u Q k q p : Nat} (hQ : 1 ≤ Q) (h : Trd o u Q k q p) : 1 ≤ q := by
  rcases h with h | h
  · exact h.1
  · omega
theorem Trd.le {o u Q k q p : Nat} (h : Trd o u Q k q p) : q ≤ Q := by
  rcases h with h | h <;> omega
theorem Trd.succ {o u Q k q p : Nat} : Trd o u Q (k + 1) q p ↔ Trd o u Q k q p ∨ (q = Q ∧ p = o * Q / u + k) := by
  unfold Trd
  constructor
  · rintro (h | ⟨h1, h2, h3⟩)
    · exact .inl (.inl h)
    · by_cases h4 : p < o * Q / u + k
      · exact .inl (.inr ⟨h1, h2, h4⟩)
      · exact .inr ⟨h1, by omega⟩
  · rintro ((h | ⟨h1, h2, h3⟩) | ⟨h1, h2⟩)
    · exact .inl h
    · exact .inr ⟨h1, h2, by omega⟩
    · exact .inr ⟨h1, by omega, by omega⟩
theorem Trd.next {o u Q q p : Nat} (hQ : 1 ≤ Q) : Trd o u (Q + 1) 0 q p ↔ Trd o u Q 2 q p := by
  unfold Trd
  constructor
  · rintro (⟨h1, h2, h3⟩ | ⟨h1, h2, h3⟩)
    · by_cases h4 : q < Q
      · exact .inl ⟨h1, h4, h3⟩
      · have : q = Q := by omega
        subst this
        exact .inr ⟨rfl, by omega, by omega⟩
    · omega
  · rintro (⟨h1, h2, h3⟩ | ⟨h1, h2, h3⟩)
    · exact .inl ⟨h1, by omega, h3⟩
    · subst h1
      exact .inl ⟨hQ, by omega, by omega⟩
theorem Trd.none {o u q p : Nat} : ¬ Trd o u 1 0 q p := by
  unfold Trd
  rintro (⟨h1, h2, _⟩ | ⟨_, h2, h3⟩) <;> omega
theorem NB.next {o u Q bp bq : Nat} (hQ : 1 ≤ Q) (h : NB o u Q 2 bp bq) : NB o u (Q + 1) 0 bp bq :=
  ⟨h.pos, (Trd.next hQ).2 h.mem, fun q p ht => h.far q p ((Trd.next hQ).1 ht)⟩
/-- The first one. -/
theorem NB.first {o u : Nat} : NB o u 1 1 (o * 1 / u) 1 := by
  refine ⟨Nat.le_refl _, .inr ⟨rfl, Nat.le_refl _, by omega⟩, fun q p ht => ?_⟩
  rcases Trd.succ.1 ht with h | ⟨rfl, rfl⟩
  · exact absurd h Trd.none
  · exact ⟨Nat.le_refl _, fun h => by omega⟩
/-- A closer one comes. -/
theorem NB.take {o u Q k bp bq : Nat} (hQ : 1 ≤ Q) (h : NB o u Q k bp bq) (hlt : offN o u (o * Q / u + k) Q * bq < offN o u bp bq * Q) : NB o u Q (k + 1) (o * Q / u + k) Q := by
  have key : ∀ q p, Trd o u Q k q p → offN o u (o * Q / u + k) Q * q < offN o u p q * Q := fun q p ht => by
    have h1 := (h.far q p ht).1
    have hq := ht.pos hQ
    have h2 := Nat.mul_lt_mul_of_pos_right hlt (show 0 < q by omega)
    have h3 := Nat.mul_le_mul_right Q h1
    have e1 : offN o u (o * Q / u + k) Q * bq * q = offN o u (o * Q / u + k) Q * q * bq := by rw [Nat.mul_assoc, Nat.mul_comm bq q, ← Nat.mul_assoc]
    have e2 : offN o u bp bq * Q * q = offN o u bp bq * q * Q := by rw [Nat.mul_assoc, Nat.mul_comm Q q, ← Nat.mul_assoc]
    have e3 : offN o u p q * bq * Q = offN o u p q * Q * bq := by rw [Nat.mul_assoc, Nat.mul_comm bq Q, ← Nat.mul_assoc]
    rw [e1, e2] at h2
    rw [e3] at h3
    exact Nat.lt_of_mul_lt_mul_right (a := bq) (Nat.lt_of_lt_of_le h2 h3)
  refine ⟨hQ, Trd.succ.2 (.inr ⟨rfl, rfl⟩), fun q p ht => ?_⟩
  rcases Trd.succ.1 ht with ht | ⟨rfl, rfl⟩
  · exact ⟨Nat.le_of_lt (key q p ht), fun _ => key q p ht⟩
  · exact ⟨Nat.le_refl _, fun h => by omega⟩
/-- One that is no closer comes. -/
theorem NB.keep {o u Q k bp bq : Nat} (h : NB o u Q k bp bq) (hge : offN o u bp bq * Q ≤ offN o u (o * Q / u + k) Q * bq) : NB o u Q (k + 1) bp bq := by
  refine ⟨h.pos, Trd.succ.2 (.inl h.mem), fun q p ht => ?_⟩
  rcases Trd.succ.1 ht with ht | ⟨rfl, rfl⟩
  · exact h.far q p ht
  · refine ⟨hge, fun h2 => ?_⟩
    rcases h.mem with ⟨_, h3, _⟩ | ⟨h3, h4, h5⟩ <;> omega
/-- The closest one, with the least denominator, with the least numerator. -/
def NearI (o u m bp bq : Nat) : Prop := NB o u m 2 bp bq
theorem NB.done {o u m bp bq : Nat} (hm : 1 ≤ m) (h : NB o u (m + 1) 0 bp bq) : NearI o u m bp bq :=
  ⟨h.pos, (Trd.next hm).1 h.mem, fun q p ht => h.far q p ((Trd.next hm).2 ht)⟩
/-- An exact one: no later one is closer. -/
theorem NB.exact {o u Q m bp bq : Nat} (hQ : 1 ≤ Q) (hm : Q ≤ m) (h : NB o u Q 2 bp bq) (h0 : offN o u bp bq = 0) : NearI o u m bp bq := by
  have up : ∀ d, NB o u (Q + d) 2 bp bq := by
    intro d
    induction d with
    | zero => exact h
    | succ d ih =>
      have h1 := ih.next (by omega)
      exact ((h1.keep (by rw [h0]; omega)).keep (by rw [h0]; omega))
  have := up (m - Q)
  rw [show Q + (m - Q) = m by omega] at this
  exact this
theorem NearI.unique {o u m a b c d : Nat} (hm : 1 ≤ m) (h : NearI o u m a b) (k : NearI o u m c d) : a = c ∧ b = d := by
  have h1 := h.far d c k.mem
  have h2 := k.far b a h.mem
  have e : b = d := by
    rcases Nat.lt_trichotomy b d with h3 | h3 | h3
    · have := h2.2 (.inl h3)
      have := h1.1
      omega
    · exact h3
    · have := h1.2 (.inl h3)
      have := h2.1
      omega
  subst e
  refine ⟨?_, rfl⟩
  rcases Nat.lt_trichotomy a c with h3 | h3 | h3
  · have := h2.2 (.inr ⟨rfl, h3⟩)
    have := h1.1
    omega
  · exact h3
  · have := h1.2 (.inr ⟨rfl, h3⟩)
    have := h2.1
    omega
theorem low_le {o u q : Nat} (hu : 0 < u) : o * q / u * u ≤ o * q ∧ o * q < o * q / u * u + u := by
  have h1 := Nat.div_add_mod (o * q) u
  have h2 := Nat.mod_lt (o * q) hu
  rw [Nat.mul_comm] at h1
  omega
/-- How far the two around are. -/
theorem off_low {o u q : Nat} (hu : 0 < u) : offN o u (o * q / u) q = o * q - o * q / u * u ∧ offN o u (o * q / u + 1) q = o * q / u * u + u - o * q := by
  have h := low_le (o := o) (q := q) hu
  unfold offN
  rw [Nat.succ_mul]
  omega
theorem Trd.off {o u Q k q p : Nat} (hu : 0 < u) (hk : k ≤ 2) (h : Trd o u Q k q p) : offN o u p q ≤ u := by
  have h1 := off_low (o := o) (q := q) hu
  have h2 := low_le (o := o) (q := q) hu
  have : p = o * q / u ∨ p = o * q / u + 1 := by
    rcases h with h | ⟨rfl, h3, h4⟩
    · exact h.2.2
    · omega
  rcases this with rfl | rfl <;> omega
/-- Which fractions are near enough to be tried. -/
theorem near_low {o u p q : Nat} (hu : 0 < u) (h : offN o u p q < u) : p = o * q / u ∨ p = o * q / u + 1 := by
  have h2 := low_le (o := o) (q := q) hu
  unfold offN at h
  have h3 : p * u < o * q / u * u + 2 * u := by omega
  have h4 : o * q / u * u < p * u + u := by omega
  rw [← Nat.add_mul] at h3
  rw [← Nat.succ_mul] at h4
  have h5 := Nat.lt_of_mul_lt_mul_right h3
  have h6 := Nat.lt_of_mul_lt_mul_right h4
  omega
theorem offN_mul {o u p q : Nat} (g : Nat) : offN o u (g * p) (g * q) = g * offN o u p q := by
  unfold offN
  rw [Nat.mul_add, Nat.mul_sub, Nat.mul_sub]
  congr 2
  · rw [Nat.mul_left_comm]
  · rw [Nat.mul_assoc]
  · rw [Nat.mul_assoc]
  · rw [Nat.mul_left_comm]
/-- It is in lowest terms. -/
theorem NearI.gcd {o u m bp bq : Nat} (hu : 0 < u) (h : NearI o u m bp bq) : Nat.gcd bp bq = 1 := by
  have hp := h.pos
  have hg0 : 0 < Nat.gcd bp bq := Nat.gcd_pos_of_pos_right _ (by omega)
  refine Nat.le_antisymm (Nat.le_of_not_lt fun hg => ?_) hg0
  obtain ⟨g, hgd⟩ : ∃ g, Nat.gcd bp bq = g := ⟨_, rfl⟩
  obtain ⟨p', hp'⟩ := Nat.gcd_dvd_left bp bq
  obtain ⟨q', hq'⟩ := Nat.gcd_dvd_right bp bq
  rw [hgd] at hg hp' hq' hg0
  have hoff := h.mem.off hu (Nat.le_refl _)
  have hoff2 : offN o u bp bq ≠ u ∨ g * offN o u p' q' ≤ u := by right; rw [← offN_mul, ← hp', ← hq']; exact hoff
  have hm : offN o u bp bq = g * offN o u p' q' := by
    conv => lhs; rw [hp', hq']
    exact offN_mul g
  have hlt : offN o u p' q' < u := by
    have h1 : g * offN o u p' q' ≤ u := by rw [← hm]; exact hoff
    have h2 : 2 * offN o u p' q' ≤ g * offN o u p' q' := Nat.mul_le_mul_right _ hg
    omega
  have hq0 : 0 < q' := by
    rcases Nat.eq_zero_or_pos q' with h0 | h0
    · rw [h0, Nat.mul_zero] at hq'; omega
    · exact h0
  have hqlt : q' < bq := by
    have h2 : 2 * q' ≤ g * q' := Nat.mul_le_mul_right _ hg
    omega
  have hqm := h.mem.le
  have h3 := (h.far q' p' (.inl ⟨hq0, by omega, near_low hu hlt⟩)).2 (.inl hqlt)
  rw [hm] at h3
  have h4 : g * offN o u p' q' * q' = offN o u p' q' * bq := by
    conv => rhs; rw [hq']
    rw [Nat.mul_comm g, Nat.mul_assoc]
  omega
end Go.Proofs.Ytbehfhmdilifkaa
