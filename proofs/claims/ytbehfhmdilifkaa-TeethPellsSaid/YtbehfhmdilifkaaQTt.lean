/- Tt -/
import Derived.Test.YtbehfhmdilifkaaQTa
set_option linter.unusedVariables false
/- Plain: beats of a root: each number is a beat of just one letter (Beatty, Rayleigh). -/
namespace Go.Proofs.Ytbehfhmdilifkaa

def av (d k : Nat) : Nat := k + fl (k * k * d)
def bv (d k : Nat) : Nat := k + fl (k * k / d)
/-- How many beats of a and of b the first N numbers are. -/
def bst (d : Nat) : Nat → Nat × Nat
  | 0 => (0, 0)
  | N + 1 => let s := bst d N; if (s.1 + 1) * (s.1 + 1) * d < (s.2 + 1) * (s.2 + 1) then (s.1 + 1, s.2) else (s.1, s.2 + 1)
def ltA (d : Nat) (s : Nat × Nat) : Prop := (s.1 + 1) * (s.1 + 1) * d < (s.2 + 1) * (s.2 + 1)
instance (d : Nat) (s : Nat × Nat) : Decidable (ltA d s) := inferInstanceAs (Decidable (_ < _))
def isB (d N : Nat) : Bool := !decide (ltA d (bst d N))
theorem root_irr {d p q : Nat} (hq : 0 < q) (h : p * p = q * q * d) : fl d * fl d = d := by
  obtain ⟨g, hg⟩ : ∃ g, Nat.gcd p q = g := ⟨_, rfl⟩
  have hg0 : 0 < g := by rw [← hg]; exact Nat.gcd_pos_of_pos_right p hq
  obtain ⟨p1, hp⟩ : g ∣ p := by rw [← hg]; exact Nat.gcd_dvd_left p q
  obtain ⟨q1, hq1⟩ : g ∣ q := by rw [← hg]; exact Nat.gcd_dvd_right p q
  have hc : Nat.gcd p1 q1 = 1 := by
    have : Nat.gcd (g * p1) (g * q1) = g := by rw [← hp, ← hq1]; exact hg
    rw [Nat.gcd_mul_left] at this
    exact Nat.eq_of_mul_eq_mul_left hg0 (by rw [this, Nat.mul_one])
  have h2 : p1 * p1 = q1 * q1 * d := by
    rw [hp, hq1] at h
    have e : (g * g) * (p1 * p1) = (g * g) * (q1 * q1 * d) := by
      have e1 : g * p1 * (g * p1) = g * g * (p1 * p1) := by simp [Nat.mul_comm, Nat.mul_left_comm]
      have e2 : g * q1 * (g * q1) * d = g * g * (q1 * q1 * d) := by simp [Nat.mul_comm, Nat.mul_left_comm]
      rw [← e1, ← e2]; exact h
    exact Nat.eq_of_mul_eq_mul_left (Nat.mul_pos hg0 hg0) e
  have hd : q1 ∣ p1 * p1 := ⟨q1 * d, by rw [h2, Nat.mul_assoc]⟩
  have hd2 : q1 ∣ p1 := (Nat.Coprime.symm hc).dvd_of_dvd_mul_left hd
  have h1 : q1 = 1 := by
    have : q1 ∣ Nat.gcd p1 q1 := Nat.dvd_gcd hd2 (Nat.dvd_refl _)
    rw [hc] at this
    exact Nat.dvd_one.1 this
  rw [h1, Nat.mul_one, Nat.one_mul] at h2
  have : Sq p1 d := ⟨by omega, by rw [← h2]; exact Nat.mul_lt_mul_of_lt_of_le (by omega) (by omega) (by omega)⟩
  rw [this.fl]; exact h2
structure BI (d N i j : Nat) : Prop where
  sum : i + j = N
  lo : i * i * d < (j + 1) * (j + 1)
  hi : j * j < (i + 1) * (i + 1) * d
theorem bst_inv {d : Nat} (hd : 0 < d) (hs : ¬ fl d * fl d = d) : ∀ N, BI d N (bst d N).1 (bst d N).2
  | 0 => ⟨rfl, by simp [bst], by simp [bst]; exact hd⟩
  | N + 1 => by
    have ih := bst_inv hd hs N
    obtain ⟨s, hS⟩ : ∃ s, bst d N = s := ⟨_, rfl⟩
    rw [hS] at ih
    have e : bst d (N + 1) = if (s.1 + 1) * (s.1 + 1) * d < (s.2 + 1) * (s.2 + 1) then (s.1 + 1, s.2) else (s.1, s.2 + 1) := by
      simp only [bst, hS]
    rw [e]
    by_cases h : (s.1 + 1) * (s.1 + 1) * d < (s.2 + 1) * (s.2 + 1)
    · rw [if_pos h]
      refine ⟨by have := ih.sum; simp only; omega, h, Nat.lt_of_lt_of_le ih.hi (Nat.mul_le_mul_right d (Nat.mul_le_mul (by omega) (by omega)))⟩
    · rw [if_neg h]
      have hne : ¬ (s.2 + 1) * (s.2 + 1) = (s.1 + 1) * (s.1 + 1) * d := fun h2 => hs (root_irr (by omega) h2)
      exact ⟨by have := ih.sum; simp only; omega, Nat.lt_of_lt_of_le ih.lo (Nat.mul_le_mul (by omega) (by omega)), by simp only; omega⟩
theorem fl_eq {n x : Nat} (h1 : n * n ≤ x) (h2 : x < (n + 1) * (n + 1)) : fl x = n := Sq.fl ⟨h1, h2⟩
theorem fl_lt {n x : Nat} (h : x < (n + 1) * (n + 1)) : fl x ≤ n := by
  rcases Nat.lt_or_ge n (fl x) with h1 | h1
  · exfalso
    have h2 := (fl_sq x).1
    have h3 : (n + 1) * (n + 1) ≤ fl x * fl x := Nat.mul_le_mul h1 h1
    omega
  · exact h1
theorem le_fl {n x : Nat} (h : n * n ≤ x) : n ≤ fl x := by
  rcases Nat.lt_or_ge (fl x) n with h1 | h1
  · exfalso
    have h2 := (fl_sq x).2
    have h3 : (fl x + 1) * (fl x + 1) ≤ n * n := Nat.mul_le_mul h1 h1
    omega
  · exact h1
theorem bv_mono {d j k : Nat} (h : j ≤ k) : bv d j ≤ bv d k := by
  unfold bv
  have : fl (j * j / d) ≤ fl (k * k / d) := fl_mono (Nat.div_le_div_right (Nat.mul_le_mul h h))
  omega
theorem av_mono {d j k : Nat} (h : j ≤ k) : av d j ≤ av d k := by
  unfold av
  have : fl (j * j * d) ≤ fl (k * k * d) := fl_mono (Nat.mul_le_mul_right d (Nat.mul_le_mul h h))
  omega
theorem bv_ge (d k : Nat) : k ≤ bv d k := by unfold bv; omega
theorem av_ge (d k : Nat) : k ≤ av d k := by unfold av; omega
theorem isB_false {d N : Nat} (hd : 0 < d) (hs : ¬ fl d * fl d = d) (h : isB d N = false) : av d ((bst d N).1 + 1) = N + 1 ∧ ∀ k, bv d k ≠ N + 1 := by
  have hI := bst_inv hd hs N
  have hlt : ltA d (bst d N) := by unfold isB at h; simpa using h
  unfold ltA at hlt
  obtain ⟨i, hi⟩ : ∃ i, (bst d N).1 = i := ⟨_, rfl⟩
  obtain ⟨j, hj⟩ : ∃ j, (bst d N).2 = j := ⟨_, rfl⟩
  rw [hi, hj] at hI hlt
  rw [hi]
  have hN := hI.sum
  refine ⟨?_, fun k hk => ?_⟩
  · unfold av
    rw [fl_eq (n := j) (Nat.le_of_lt hI.hi) hlt]
    omega
  · rcases Nat.lt_or_ge j k with h1 | h1
    · have h2 := bv_mono (d := d) (j := j + 1) h1
      have h3 : i + 1 ≤ fl ((j + 1) * (j + 1) / d) := le_fl ((Nat.le_div_iff_mul_le hd).2 (Nat.le_of_lt hlt))
      unfold bv at h2 hk
      omega
    · have h2 := bv_mono (d := d) h1
      have h3 : fl (j * j / d) ≤ i := fl_lt ((Nat.div_lt_iff_lt_mul hd).2 hI.hi)
      unfold bv at h2 hk
      omega
theorem isB_true {d N : Nat} (hd : 0 < d) (hs : ¬ fl d * fl d = d) (h : isB d N = true) : bv d ((bst d N).2 + 1) = N + 1 ∧ ∀ k, av d k ≠ N + 1 := by
  have hI := bst_inv hd hs N
  have hge : ¬ ltA d (bst d N) := by unfold isB at h; simpa using h
  unfold ltA at hge
  obtain ⟨i, hi⟩ : ∃ i, (bst d N).1 = i := ⟨_, rfl⟩
  obtain ⟨j, hj⟩ : ∃ j, (bst d N).2 = j := ⟨_, rfl⟩
  rw [hi, hj] at hI hge
  rw [hj]
  have hN := hI.sum
  have hne : ¬ (j + 1) * (j + 1) = (i + 1) * (i + 1) * d := fun h2 => hs (root_irr (by omega) h2)
  have hlt : (j + 1) * (j + 1) < (i + 1) * (i + 1) * d := by omega
  refine ⟨?_, fun k hk => ?_⟩
  · unfold bv
    rw [fl_eq (n := i) ((Nat.le_div_iff_mul_le hd).2 (Nat.le_of_lt hI.lo)) ((Nat.div_lt_iff_lt_mul hd).2 hlt)]
    omega
  · rcases Nat.lt_or_ge i k with h1 | h1
    · have h2 := av_mono (d := d) (j := i + 1) h1
      have h3 : j + 1 ≤ fl ((i + 1) * (i + 1) * d) := le_fl (Nat.le_of_lt hlt)
      unfold av at h2 hk
      omega
    · have h2 := av_mono (d := d) h1
      have h3 : fl (i * i * d) ≤ j := fl_lt hI.lo
      unfold av at h2 hk
      omega
/-- The beats, as bytes. -/
def btL (d n : Nat) : List Nat := (List.range n).map fun p => if isB d p then 98 else 97
/-- Is p + 1 among the first K beats of b, of a? -/
def hasB (d p K : Nat) : Bool := (List.range K).any fun k => bv d (k + 1) == p + 1
def hasA (d p K : Nat) : Bool := (List.range K).any fun k => av d (k + 1) == p + 1
theorem hasB_iff {d p K : Nat} : hasB d p K = true ↔ ∃ k, k < K ∧ bv d (k + 1) = p + 1 := by
  unfold hasB
  simp [List.any_eq_true, List.mem_range]
theorem hasA_iff {d p K : Nat} : hasA d p K = true ↔ ∃ k, k < K ∧ av d (k + 1) = p + 1 := by
  unfold hasA
  simp [List.any_eq_true, List.mem_range]
theorem hasB_succ {d p K : Nat} : hasB d p (K + 1) = (hasB d p K || (bv d (K + 1) == p + 1)) := by
  unfold hasB
  rw [List.range_succ, List.any_append]
  simp
theorem hasA_succ {d p K : Nat} : hasA d p (K + 1) = (hasA d p K || (av d (K + 1) == p + 1)) := by
  unfold hasA
  rw [List.range_succ, List.any_append]
  simp
/-- What the program has after K beats. -/
def pbL (d n K : Nat) : List Nat := (List.range n).map fun p => if hasB d p K then 98 else 97
theorem pbL_length (d n K : Nat) : (pbL d n K).length = n := by simp [pbL]
theorem pbL_zero (d n : Nat) : pbL d n 0 = List.replicate n 97 := by
  apply List.ext_getElem
  · simp [pbL]
  · intro i h1 h2
    simp [pbL, hasB]
theorem pbL_succ {d n K b : Nat} (hb : bv d (K + 1) = b) (h1 : b ≤ n) : (pbL d n K).set (b - 1) 98 = pbL d n (K + 1) := by
  have hb0 := bv_ge d (K + 1)
  apply List.ext_getElem
  · simp [pbL]
  · intro i h2 h3
    rw [List.getElem_set]
    simp only [pbL, List.getElem_map, List.getElem_range, hasB_succ, hb]
    by_cases he : b - 1 = i
    · have e : (b == i + 1) = true := by simp; omega
      rw [if_pos he, e]; simp
    · have e : (b == i + 1) = false := by simp; omega
      rw [if_neg he, e]; simp
theorem pbL_done {d n K : Nat} (hd : 0 < d) (hs : ¬ fl d * fl d = d) (h : n < bv d (K + 1)) : pbL d n K = btL d n := by
  apply List.ext_getElem
  · simp [pbL, btL]
  · intro i h2 h3
    have hi : i < n := by simpa [pbL] using h2
    simp only [pbL, btL, List.getElem_map, List.getElem_range]
    have e : hasB d i K = isB d i := by
      by_cases hb : isB d i = true
      · rw [hb]
        obtain ⟨h4, _⟩ := isB_true hd hs hb
        refine hasB_iff.2 ⟨(bst d i).2, ?_, h4⟩
        rcases Nat.lt_or_ge (bst d i).2 K with h5 | h5
        · exact h5
        · have := bv_mono (d := d) (Nat.succ_le_succ h5)
          simp only [Nat.succ_eq_add_one] at this
          omega
      · have hb' : isB d i = false := by simpa using hb
        rw [hb']
        obtain ⟨_, h4⟩ := isB_false hd hs hb'
        cases hh : hasB d i K with
        | false => rfl
        | true => obtain ⟨k, _, hk⟩ := hasB_iff.1 hh; exact absurd hk (h4 _)
    rw [e]
/-- What the reference has after K beats of each letter. -/
def rbL (d n K L : Nat) : List Nat := (List.range n).map fun p => if hasA d p K then 97 else if hasB d p L then 98 else 0
theorem rbL_length (d n K L : Nat) : (rbL d n K L).length = n := by simp [rbL]
theorem rbL_zero (d n : Nat) : rbL d n 0 0 = List.replicate n 0 := by
  apply List.ext_getElem
  · simp [rbL]
  · intro i h1 h2
    simp [rbL, hasB, hasA]
theorem rbL_a {d n K L a : Nat} (ha : av d (K + 1) = a) (h1 : a ≤ n) : (rbL d n K L).set (a - 1) 97 = rbL d n (K + 1) L := by
  have ha0 := av_ge d (K + 1)
  apply List.ext_getElem
  · simp [rbL]
  · intro i h2 h3
    rw [List.getElem_set]
    simp only [rbL, List.getElem_map, List.getElem_range, hasA_succ, ha]
    by_cases he : a - 1 = i
    · have e : (a == i + 1) = true := by simp; omega
      rw [if_pos he, e]; simp
    · have e : (a == i + 1) = false := by simp; omega
      rw [if_neg he, e]; simp
theorem rbL_a_not {d n K L : Nat} (h1 : n < av d (K + 1)) : rbL d n (K + 1) L = rbL d n K L := by
  apply List.ext_getElem
  · simp [rbL]
  · intro i h2 h3
    have hi : i < n := by simpa [rbL] using h2
    simp only [rbL, List.getElem_map, List.getElem_range, hasA_succ]
    have e : (av d (K + 1) == i + 1) = false := by simp; omega
    rw [e]; simp
theorem ab_apart {d j k : Nat} (hd : 0 < d) (hs : ¬ fl d * fl d = d) (h : bv d (j + 1) = av d (k + 1)) : False := by
  obtain ⟨N, hN⟩ : ∃ N, bv d (j + 1) = N + 1 := ⟨bv d (j + 1) - 1, by have := bv_ge d (j + 1); omega⟩
  by_cases hb : isB d N = true
  · exact (isB_true hd hs hb).2 _ (by rw [← h]; exact hN)
  · exact (isB_false hd hs (by simpa using hb)).2 _ hN
theorem rbL_b {d n K L b : Nat} (hd : 0 < d) (hs : ¬ fl d * fl d = d) (hb : bv d (L + 1) = b) (h1 : b ≤ n) : (rbL d n K L).set (b - 1) 98 = rbL d n K (L + 1) := by
  have hb0 := bv_ge d (L + 1)
  apply List.ext_getElem
  · simp [rbL]
  · intro i h2 h3
    rw [List.getElem_set]
    simp only [rbL, List.getElem_map, List.getElem_range, hasB_succ, hb]
    by_cases he : b - 1 = i
    · have e : (b == i + 1) = true := by simp; omega
      have hA : hasA d i K = false := by
        cases hh : hasA d i K with
        | false => rfl
        | true => obtain ⟨k, _, hk⟩ := hasA_iff.1 hh; exact absurd (by rw [hb, hk]; omega) (fun h => ab_apart (j := L) (k := k) hd hs h)
      rw [if_pos he, e, hA]; simp
    · have e : (b == i + 1) = false := by simp; omega
      rw [if_neg he, e]; simp
theorem rbL_b_not {d n K L : Nat} (h1 : n < bv d (L + 1)) : rbL d n K (L + 1) = rbL d n K L := by
  apply List.ext_getElem
  · simp [rbL]
  · intro i h2 h3
    have hi : i < n := by simpa [rbL] using h2
    simp only [rbL, List.getElem_map, List.getElem_range, hasB_succ]
    have e : (bv d (L + 1) == i + 1) = false := by simp; omega
    rw [e]; simp
theorem rbL_done {d n : Nat} (hd : 0 < d) (hs : ¬ fl d * fl d = d) : rbL d n n n = btL d n := by
  apply List.ext_getElem
  · simp [rbL, btL]
  · intro i h2 h3
    have hi : i < n := by simpa [rbL] using h2
    have hI := (bst_inv hd hs i).sum
    simp only [rbL, btL, List.getElem_map, List.getElem_range]
    by_cases hb : isB d i = true
    · obtain ⟨h4, h5⟩ := isB_true hd hs hb
      have hA : hasA d i n = false := by
        cases hh : hasA d i n with
        | false => rfl
        | true => obtain ⟨k, _, hk⟩ := hasA_iff.1 hh; exact absurd hk (h5 _)
      have hB : hasB d i n = true := hasB_iff.2 ⟨(bst d i).2, by omega, h4⟩
      rw [hA, hB, hb]; simp
    · have hb' : isB d i = false := by simpa using hb
      obtain ⟨h4, h5⟩ := isB_false hd hs hb'
      have hA : hasA d i n = true := hasA_iff.2 ⟨(bst d i).1, by omega, h4⟩
      rw [hA, hb']; simp
end Go.Proofs.Ytbehfhmdilifkaa
