/- Ta Tu Tt Ti Tv Tk -/
import Derived.WalkKit
set_option linter.unusedVariables false
/- Plain: the terms of a fraction, common divisors, roots. -/
namespace Go.Proofs.Ytkecdjdggkpdpab

/-- The terms of a fraction. -/
def trm (a b : Nat) : List Nat := if h : b = 0 then [] else (a / b) :: trm b (a % b)
termination_by b
decreasing_by exact Nat.mod_lt _ (by omega)
theorem trm_zero (a : Nat) : trm a 0 = [] := by rw [trm]; simp
theorem trm_pos {a b : Nat} (h : 0 < b) : trm a b = (a / b) :: trm b (a % b) := by
  conv => lhs; rw [trm]
  rw [dif_neg (by omega)]
theorem trm_length (a b : Nat) : (trm a b).length ≤ b := by
  induction b using Nat.strongRecOn generalizing a with
  | _ b ih =>
    rcases Nat.eq_zero_or_pos b with rfl | hb
    · rw [trm_zero]; exact Nat.le_refl _
    · rw [trm_pos hb, List.length_cons]
      have h1 := Nat.mod_lt a hb
      have h2 := ih (a % b) h1 b
      omega
theorem trm_ne {a b : Nat} (h : 0 < b) : trm a b ≠ [] := by rw [trm_pos h]; simp
/-- n is the greatest number whose square is at most x. -/
def Sq (n x : Nat) : Prop := n * n ≤ x ∧ x < (n + 1) * (n + 1)
theorem Sq.unique {n m x : Nat} (h : Sq n x) (k : Sq m x) : n = m := by
  rcases Nat.lt_trichotomy n m with h1 | h1 | h1
  · have := Nat.mul_le_mul h1 h1
    have := k.1; have := h.2
    simp only [Nat.succ_eq_add_one] at *
    omega
  · exact h1
  · have := Nat.mul_le_mul h1 h1
    have := h.1; have := k.2
    simp only [Nat.succ_eq_add_one] at *
    omega
/-- The greatest number whose square is at most x. -/
def fl : Nat → Nat
  | 0 => 0
  | x + 1 => if (fl x + 1) * (fl x + 1) ≤ x + 1 then fl x + 1 else fl x
theorem fl_sq (x : Nat) : Sq (fl x) x := by
  induction x with
  | zero => exact ⟨Nat.le_refl _, by simp [fl]⟩
  | succ x ih =>
    unfold fl
    obtain ⟨h1, h2⟩ := ih
    by_cases h : (fl x + 1) * (fl x + 1) ≤ x + 1
    · rw [if_pos h]
      refine ⟨h, ?_⟩
      have e : (fl x + 1 + 1) * (fl x + 1 + 1) = (fl x + 1) * (fl x + 1) + 2 * (fl x) + 3 := by simp only [Nat.add_mul, Nat.mul_add]; omega
      omega
    · rw [if_neg h]
      exact ⟨by omega, by omega⟩
theorem Sq.fl {n x : Nat} (h : Sq n x) : fl x = n := (fl_sq x).unique h
theorem fl_le (x : Nat) : fl x ≤ x := by
  have h := (fl_sq x).1
  rcases Nat.eq_zero_or_pos (fl x) with h0 | h0
  · omega
  · exact Nat.le_trans (Nat.le_mul_of_pos_left _ h0) h
theorem fl_mono {x y : Nat} (h : x ≤ y) : fl x ≤ fl y := by
  refine Nat.le_of_not_lt fun hlt => ?_
  have h1 := (fl_sq x).1
  have h2 := (fl_sq y).2
  have h3 := Nat.mul_le_mul hlt hlt
  simp only [Nat.succ_eq_add_one] at h3
  omega
/-- A greater number's square is greater. -/
theorem sq_lt {a b : Nat} (h : a * a < b * b) : a < b := by
  refine Nat.lt_of_not_le fun hle => ?_
  have := Nat.mul_le_mul hle hle
  omega
theorem sq_le {a b : Nat} (h : a * a ≤ b * b) : a ≤ b := by
  refine Nat.le_of_not_lt fun hlt => ?_
  have := Nat.mul_lt_mul_of_lt_of_lt hlt hlt
  omega
end Go.Proofs.Ytkecdjdggkpdpab

/- Plain: Markov's numbers. -/
namespace Go.Proofs.Ytkecdjdggkpdpab
open Go Go.Proofs

/-- The third numbers of the triples that come from one, up to a greatest number. -/
def mkV : Nat → Nat → Nat → Nat → Nat → List Nat
  | 0, _, _, _, _ => []
  | f + 1, m, x, y, z => if m < z then [] else z :: (mkV f m x z (3 * x * z - y) ++ mkV f m y z (3 * y * z - x))
/-- The same, as the reference finds them. -/
def rkV : Nat → Nat → Nat → Nat → Nat → List Nat
  | 0, _, _, _, _ => []
  | f + 1, m, x, y, z => if m < z then [] else z :: (if 1 < y ∧ x < y then rkV f m x z (3 * x * z - y) ++ rkV f m y z (3 * y * z - x) else [])
/-- How many triples the reference takes off its list. -/
def rkN : Nat → Nat → Nat → Nat → Nat → Nat
  | 0, _, _, _, _ => 1
  | f + 1, m, x, y, z => if m < z then 1 else 1 + (if 1 < y ∧ x < y then rkN f m x z (3 * x * z - y) + rkN f m y z (3 * y * z - x) else 0)
structure TOk (f m x y z : Nat) : Prop where
  x1 : 1 ≤ x
  xy : x ≤ y
  yz : y ≤ z
  lt : m < z * 2 ^ f
theorem mk_ge {x y z : Nat} (hx : 1 ≤ x) (hy : y ≤ z) : 2 * z ≤ 3 * x * z - y := by
  have : 3 * 1 * z ≤ 3 * x * z := Nat.mul_le_mul_right z (Nat.mul_le_mul_left 3 hx)
  omega
theorem TOk.l {f m x y z : Nat} (h : TOk (f + 1) m x y z) : TOk f m x z (3 * x * z - y) := by
  have h1 := mk_ge h.x1 h.yz
  have := h.xy
  have := h.yz
  refine ⟨h.x1, by omega, by omega, Nat.lt_of_lt_of_le h.lt ?_⟩
  rw [Nat.pow_succ, Nat.mul_comm (2 ^ f) 2, ← Nat.mul_assoc, Nat.mul_comm z 2]
  exact Nat.mul_le_mul_right _ h1
theorem TOk.r {f m x y z : Nat} (h : TOk (f + 1) m x y z) : TOk f m y z (3 * y * z - x) := by
  have := h.xy
  have := h.yz
  have := h.x1
  have h1 := mk_ge (x := y) (y := x) (z := z) (by omega) (by omega)
  refine ⟨by omega, h.yz, by omega, Nat.lt_of_lt_of_le h.lt ?_⟩
  rw [Nat.pow_succ, Nat.mul_comm (2 ^ f) 2, ← Nat.mul_assoc, Nat.mul_comm z 2]
  exact Nat.mul_le_mul_right _ h1
theorem TOk.zero {m x y z : Nat} (h : TOk 0 m x y z) : m < z := by have := h.lt; omega
theorem mkV_length : ∀ (f m x y z : Nat), (mkV f m x y z).length + 1 ≤ 2 ^ f
  | 0, _, _, _, _ => by simp [mkV]
  | f + 1, m, x, y, z => by
    have h1 := mkV_length f m x z (3 * x * z - y)
    have h2 := mkV_length f m y z (3 * y * z - x)
    have h3 : 2 ^ (f + 1) = 2 ^ f + 2 ^ f := by rw [Nat.pow_succ]; omega
    simp only [mkV]
    split
    · simp; exact Nat.one_le_two_pow
    · simp only [List.length_cons, List.length_append]; omega
theorem mkV_le : ∀ (f m x y z v : Nat), v ∈ mkV f m x y z → v ≤ m
  | 0, _, _, _, _, _, h => by simp [mkV] at h
  | f + 1, m, x, y, z, v, h => by
    simp only [mkV] at h
    split at h
    · simp at h
    · rename_i hz
      simp only [List.mem_cons, List.mem_append] at h
      rcases h with h | h | h
      · omega
      · exact mkV_le _ _ _ _ _ _ h
      · exact mkV_le _ _ _ _ _ _ h
/-- The fuel does not matter where it is enough. -/
theorem mkV_fuel : ∀ (f g m x y z : Nat), TOk f m x y z → TOk g m x y z → mkV f m x y z = mkV g m x y z
  | 0, 0, _, _, _, _, _, _ => rfl
  | 0, g + 1, m, x, y, z, h, _ => by simp only [mkV]; rw [if_pos h.zero]
  | f + 1, 0, m, x, y, z, _, h => by simp only [mkV]; rw [if_pos h.zero]
  | f + 1, g + 1, m, x, y, z, h, k => by
    simp only [mkV]
    rw [mkV_fuel f g m x z _ h.l k.l, mkV_fuel f g m y z _ h.r k.r]
theorem rkV_eq : ∀ (f m x y z : Nat), TOk f m x y z → 1 < y → x < y → y < z → rkV f m x y z = mkV f m x y z
  | 0, _, _, _, _, _, _, _, _ => rfl
  | f + 1, m, x, y, z, h, h1, h2, h3 => by
    have hx := h.x1
    have e1 := mk_ge h.x1 h.yz
    have e2 := mk_ge (x := y) (y := x) (z := z) (by omega) (by omega)
    simp only [mkV, rkV]
    by_cases hm : m < z
    · rw [if_pos hm, if_pos hm]
    rw [if_neg hm, if_neg hm, if_pos (show 1 < y ∧ x < y from ⟨h1, h2⟩), rkV_eq f m x z _ h.l (by omega) (by omega) (by omega), rkV_eq f m y z _ h.r (by omega) (by omega) (by omega)]
/-- Strictly rising lists with the same numbers are one. -/
theorem rise_ext : ∀ {l k : List Nat}, l.Pairwise (· < ·) → k.Pairwise (· < ·) → (∀ v, v ∈ l ↔ v ∈ k) → l = k
  | [], [], _, _, _ => rfl
  | [], b :: k, _, _, h => by have := (h b).2 (by simp); simp at this
  | a :: l, [], _, _, h => by have := (h a).1 (by simp); simp at this
  | a :: l, b :: k, h1, h2, h => by
    rw [List.pairwise_cons] at h1 h2
    have hab : a = b := by
      have ha := (h a).1 (by simp)
      have hb := (h b).2 (by simp)
      rw [List.mem_cons] at ha hb
      rcases ha with rfl | ha
      · rfl
      · rcases hb with e | hb
        · exact e.symm
        · have := h1.1 _ hb; have := h2.1 _ ha; omega
    subst hab
    congr 1
    refine rise_ext h1.2 h2.2 fun v => ?_
    constructor
    · intro hv
      have := (h v).1 (List.mem_cons_of_mem _ hv)
      rw [List.mem_cons] at this
      rcases this with rfl | h3
      · have := h1.1 _ hv; omega
      · exact h3
    · intro hv
      have := (h v).2 (List.mem_cons_of_mem _ hv)
      rw [List.mem_cons] at this
      rcases this with rfl | h3
      · have := h2.1 _ hv; omega
      · exact h3
/-- A number put into a rising list. -/
def insS (v : Nat) : List Nat → List Nat
  | [] => [v]
  | a :: l => if a < v then a :: insS v l else if a = v then a :: l else v :: a :: l
theorem insS_mem {v u : Nat} : ∀ {l : List Nat}, u ∈ insS v l ↔ u = v ∨ u ∈ l
  | [] => by simp [insS]
  | a :: l => by
    simp only [insS]
    split
    · rw [List.mem_cons, insS_mem, List.mem_cons]
      constructor
      · rintro (h | h | h) <;> simp [h]
      · rintro (h | h | h) <;> simp [h]
    · split
      · rename_i h; subst h; simp
      · simp
theorem insS_rise {v : Nat} : ∀ {l : List Nat}, l.Pairwise (· < ·) → (insS v l).Pairwise (· < ·)
  | [], _ => by simp [insS]
  | a :: l, h => by
    have h' := List.pairwise_cons.1 h
    simp only [insS]
    split
    · rename_i h1
      refine List.pairwise_cons.2 ⟨fun u hu => ?_, insS_rise h'.2⟩
      rcases insS_mem.1 hu with rfl | hu
      · exact h1
      · exact h'.1 _ hu
    · split
      · exact h
      · rename_i h1 h2
        refine List.pairwise_cons.2 ⟨fun u hu => ?_, h⟩
        rw [List.mem_cons] at hu
        rcases hu with rfl | hu
        · omega
        · have := h'.1 _ hu; omega
/-- How many numbers at the head are less. -/
def posS (v : Nat) : List Nat → Nat
  | [] => 0
  | a :: l => if a < v then posS v l + 1 else 0
theorem posS_le {v : Nat} : ∀ {l : List Nat}, posS v l ≤ l.length
  | [] => Nat.le_refl _
  | a :: l => by
    simp only [posS]
    split
    · have := posS_le (v := v) (l := l); simp; omega
    · simp
theorem posS_lt {v k : Nat} : ∀ {l : List Nat}, k < posS v l → l.getD k 0 < v
  | [], h => by simp [posS] at h
  | a :: l, h => by
    simp only [posS] at h
    split at h
    · rename_i h1
      rcases k with _ | k
      · simpa using h1
      · simpa using posS_lt (v := v) (l := l) (k := k) (by omega)
    · omega
theorem posS_end {v : Nat} : ∀ {l : List Nat}, posS v l < l.length → v ≤ l.getD (posS v l) 0
  | [], h => by simp [posS] at h
  | a :: l, h => by
    simp only [posS] at h ⊢
    split
    · rename_i h1
      rw [if_pos h1] at h
      simpa using posS_end (v := v) (l := l) (by simpa using h)
    · rename_i h1
      simp; omega
theorem insS_new {v : Nat} : ∀ {l : List Nat}, (posS v l = l.length ∨ l.getD (posS v l) 0 ≠ v) → insS v l = l.take (posS v l) ++ [v] ++ l.drop (posS v l)
  | [], _ => by simp [insS, posS]
  | a :: l, h => by
    simp only [insS, posS] at h ⊢
    split
    · rename_i h1
      rw [if_pos h1] at h
      rw [insS_new (v := v) (l := l) (by simpa using h)]
      simp
    · rename_i h1
      rw [if_neg h1] at h
      have h2 : a ≠ v := by
        rcases h with h | h
        · simp at h
        · simpa using h
      rw [if_neg h2]
      simp
theorem insS_old {v : Nat} : ∀ {l : List Nat}, posS v l < l.length → l.getD (posS v l) 0 = v → insS v l = l
  | [], h, _ => by simp [posS] at h
  | a :: l, h, e => by
    simp only [insS, posS] at h e ⊢
    split
    · rename_i h1
      rw [if_pos h1] at h e
      rw [insS_old (v := v) (l := l) (by simpa using h) (by simpa using e)]
    · rename_i h1
      rw [if_neg h1] at e
      have : a = v := by simpa using e
      rw [if_pos this]
/-- Markov's numbers up to m, rising. -/
def mkL (m : Nat) : List Nat := (1 :: mkV 40 m 1 1 2).foldr insS []
theorem mkL_mem {m v : Nat} : v ∈ mkL m ↔ v = 1 ∨ v ∈ mkV 40 m 1 1 2 := by
  unfold mkL
  have : ∀ l : List Nat, v ∈ l.foldr insS [] ↔ v ∈ l := fun l => by
    induction l with
    | nil => simp
    | cons a l ih => rw [List.foldr_cons, insS_mem, ih, List.mem_cons]
  rw [this, List.mem_cons]
theorem mkL_rise {m : Nat} : (mkL m).Pairwise (· < ·) := by
  unfold mkL
  have : ∀ l : List Nat, (l.foldr insS []).Pairwise (· < ·) := fun l => by
    induction l with
    | nil => simp
    | cons a l ih => rw [List.foldr_cons]; exact insS_rise ih
  exact this _
theorem mkL_ref {m v : Nat} (hm : 1 ≤ m) (hm2 : m ≤ 1000000000) : (v ∈ rkV 40 m 1 1 1 ∨ v ∈ rkV 40 m 1 1 2 ∨ v ∈ rkV 40 m 1 2 5) ↔ v ∈ mkL m := by
  rw [mkL_mem]
  have t5 : ∀ f, 30 ≤ f → TOk f m 1 2 5 := fun f hf => ⟨by omega, by omega, by omega, by
    have : 2 ^ 30 ≤ 2 ^ f := Nat.pow_le_pow_right (by omega) hf
    have e : (2 : Nat) ^ 30 = 1073741824 := rfl
    omega⟩
  have h1 : rkV 40 m 1 1 1 = [1] := by
    show rkV (39 + 1) m 1 1 1 = [1]
    rw [rkV, if_neg (by omega), if_neg (by omega)]
  have h2 : rkV 40 m 1 1 2 = if m < 2 then [] else [2] := by
    show rkV (39 + 1) m 1 1 2 = _
    rw [rkV, if_neg (by omega : ¬ (1 < 1 ∧ 1 < 1))]
  have h3 : rkV 40 m 1 2 5 = mkV 40 m 1 2 5 := rkV_eq 40 m 1 2 5 (t5 40 (by omega)) (by omega) (by omega) (by omega)
  have h4 : mkV 40 m 1 1 2 = if m < 2 then [] else 2 :: (mkV 40 m 1 2 5 ++ mkV 40 m 1 2 5) := by
    show mkV (39 + 1) m 1 1 2 = _
    rw [mkV, mkV_fuel 40 39 m 1 2 5 (t5 40 (by omega)) (t5 39 (by omega))]
  rw [h1, h2, h3, h4]
  by_cases hm3 : m < 2
  · have h5 : mkV 40 m 1 2 5 = [] := by
      show mkV (39 + 1) m 1 2 5 = _
      rw [mkV, if_pos (by omega)]
    rw [if_pos hm3, if_pos hm3, h5]; simp
  · rw [if_neg hm3, if_neg hm3]; simp
end Go.Proofs.Ytkecdjdggkpdpab

/- Plain: beats of a root: each number is a beat of just one letter (Beatty, Rayleigh). -/
namespace Go.Proofs.Ytkecdjdggkpdpab

def av (d k : Nat) : Nat := k + fl (k * k * d)
def bv (d k : Nat) : Nat := k + fl (k * k / d)
/-- How many beats of a and of b the first N numbers are. -/
def bst (d : Nat) : Nat → Nat × Nat
  | 0 => (0, 0)
  | N + 1 => let s := bst d N; if (s.1 + 1) * (s.1 + 1) * d < (s.2 + 1) * (s.2 + 1) then (s.1 + 1, s.2) else (s.1, s.2 + 1)
def ltA (d : Nat) (s : Nat × Nat) : Prop := (s.1 + 1) * (s.1 + 1) * d < (s.2 + 1) * (s.2 + 1)
instance (d : Nat) (s : Nat × Nat) : Decidable (ltA d s) := inferInstanceAs (Decidable (_ < _))
def isB (d N : Nat) : Bool := !decide (ltA d (bst d N))
theorem root_irr {d p q : Nat} (hq : 0 < q) (h : p * p = q * q * d) : fl d * fl d = d := by
  obtain ⟨g, hg⟩ : ∃ g, Nat.gcd p q = g := ⟨_, rfl⟩
  have hg0 : 0 < g := by rw [← hg]; exact Nat.gcd_pos_of_pos_right p hq
  obtain ⟨p1, hp⟩ : g ∣ p := by rw [← hg]; exact Nat.gcd_dvd_left p q
  obtain ⟨q1, hq1⟩ : g ∣ q := by rw [← hg]; exact Nat.gcd_dvd_right p q
  have hc : Nat.gcd p1 q1 = 1 := by
    have : Nat.gcd (g * p1) (g * q1) = g := by rw [← hp, ← hq1]; exact hg
    rw [Nat.gcd_mul_left] at this
    exact Nat.eq_of_mul_eq_mul_left hg0 (by rw [this, Nat.mul_one])
  have h2 : p1 * p1 = q1 * q1 * d := by
    rw [hp, hq1] at h
    have e : (g * g) * (p1 * p1) = (g * g) * (q1 * q1 * d) := by
      have e1 : g * p1 * (g * p1) = g * g * (p1 * p1) := by simp [Nat.mul_comm, Nat.mul_left_comm]
      have e2 : g * q1 * (g * q1) * d = g * g * (q1 * q1 * d) := by simp [Nat.mul_comm, Nat.mul_left_comm]
      rw [← e1, ← e2]; exact h
    exact Nat.eq_of_mul_eq_mul_left (Nat.mul_pos hg0 hg0) e
  have hd : q1 ∣ p1 * p1 := ⟨q1 * d, by rw [h2, Nat.mul_assoc]⟩
  have hd2 : q1 ∣ p1 := (Nat.Coprime.symm hc).dvd_of_dvd_mul_left hd
  have h1 : q1 = 1 := by
    have : q1 ∣ Nat.gcd p1 q1 := Nat.dvd_gcd hd2 (Nat.dvd_refl _)
    rw [hc] at this
    exact Nat.dvd_one.1 this
  rw [h1, Nat.mul_one, Nat.one_mul] at h2
  have : Sq p1 d := ⟨by omega, by rw [← h2]; exact Nat.mul_lt_mul_of_lt_of_le (by omega) (by omega) (by omega)⟩
  rw [this.fl]; exact h2
structure BI (d N i j : Nat) : Prop where
  sum : i + j = N
  lo : i * i * d < (j + 1) * (j + 1)
  hi : j * j < (i + 1) * (i + 1) * d
theorem bst_inv {d : Nat} (hd : 0 < d) (hs : ¬ fl d * fl d = d) : ∀ N, BI d N (bst d N).1 (bst d N).2
  | 0 => ⟨rfl, by simp [bst], by simp [bst]; exact hd⟩
  | N + 1 => by
    have ih := bst_inv hd hs N
    obtain ⟨s, hS⟩ : ∃ s, bst d N = s := ⟨_, rfl⟩
    rw [hS] at ih
    have e : bst d (N + 1) = if (s.1 + 1) * (s.1 + 1) * d < (s.2 + 1) * (s.2 + 1) then (s.1 + 1, s.2) else (s.1, s.2 + 1) := by
      simp only [bst, hS]
    rw [e]
    by_cases h : (s.1 + 1) * (s.1 + 1) * d < (s.2 + 1) * (s.2 + 1)
    · rw [if_pos h]
      refine ⟨by have := ih.sum; simp only; omega, h, Nat.lt_of_lt_of_le ih.hi (Nat.mul_le_mul_right d (Nat.mul_le_mul (by omega) (by omega)))⟩
    · rw [if_neg h]
      have hne : ¬ (s.2 + 1) * (s.2 + 1) = (s.1 + 1) * (s.1 + 1) * d := fun h2 => hs (root_irr (by omega) h2)
      exact ⟨by have := ih.sum; simp only; omega, Nat.lt_of_lt_of_le ih.lo (Nat.mul_le_mul (by omega) (by omega)), by simp only; omega⟩
theorem fl_eq {n x : Nat} (h1 : n * n ≤ x) (h2 : x < (n + 1) * (n + 1)) : fl x = n := Sq.fl ⟨h1, h2⟩
theorem fl_lt {n x : Nat} (h : x < (n + 1) * (n + 1)) : fl x ≤ n := by
  rcases Nat.lt_or_ge n (fl x) with h1 | h1
  · exfalso
    have h2 := (fl_sq x).1
    have h3 : (n + 1) * (n + 1) ≤ fl x * fl x := Nat.mul_le_mul h1 h1
    omega
  · exact h1
theorem le_fl {n x : Nat} (h : n * n ≤ x) : n ≤ fl x := by
  rcases Nat.lt_or_ge (fl x) n with h1 | h1
  · exfalso
    have h2 := (fl_sq x).2
    have h3 : (fl x + 1) * (fl x + 1) ≤ n * n := Nat.mul_le_mul h1 h1
    omega
  · exact h1
theorem bv_mono {d j k : Nat} (h : j ≤ k) : bv d j ≤ bv d k := by
  unfold bv
  have : fl (j * j / d) ≤ fl (k * k / d) := fl_mono (Nat.div_le_div_right (Nat.mul_le_mul h h))
  omega
theorem av_mono {d j k : Nat} (h : j ≤ k) : av d j ≤ av d k := by
  unfold av
  have : fl (j * j * d) ≤ fl (k * k * d) := fl_mono (Nat.mul_le_mul_right d (Nat.mul_le_mul h h))
  omega
theorem bv_ge (d k : Nat) : k ≤ bv d k := by unfold bv; omega
theorem av_ge (d k : Nat) : k ≤ av d k := by unfold av; omega
theorem isB_false {d N : Nat} (hd : 0 < d) (hs : ¬ fl d * fl d = d) (h : isB d N = false) : av d ((bst d N).1 + 1) = N + 1 ∧ ∀ k, bv d k ≠ N + 1 := by
  have hI := bst_inv hd hs N
  have hlt : ltA d (bst d N) := by unfold isB at h; simpa using h
  unfold ltA at hlt
  obtain ⟨i, hi⟩ : ∃ i, (bst d N).1 = i := ⟨_, rfl⟩
  obtain ⟨j, hj⟩ : ∃ j, (bst d N).2 = j := ⟨_, rfl⟩
  rw [hi, hj] at hI hlt
  rw [hi]
  have hN := hI.sum
  refine ⟨?_, fun k hk => ?_⟩
  · unfold av
    rw [fl_eq (n := j) (Nat.le_of_lt hI.hi) hlt]
    omega
  · rcases Nat.lt_or_ge j k with h1 | h1
    · have h2 := bv_mono (d := d) (j := j + 1) h1
      have h3 : i + 1 ≤ fl ((j + 1) * (j + 1) / d) := le_fl ((Nat.le_div_iff_mul_le hd).2 (Nat.le_of_lt hlt))
      unfold bv at h2 hk
      omega
    · have h2 := bv_mono (d := d) h1
      have h3 : fl (j * j / d) ≤ i := fl_lt ((Nat.div_lt_iff_lt_mul hd).2 hI.hi)
      unfold bv at h2 hk
      omega
theorem isB_true {d N : Nat} (hd : 0 < d) (hs : ¬ fl d * fl d = d) (h : isB d N = true) : bv d ((bst d N).2 + 1) = N + 1 ∧ ∀ k, av d k ≠ N + 1 := by
  have hI := bst_inv hd hs N
  have hge : ¬ ltA d (bst d N) := by unfold isB at h; simpa using h
  unfold ltA at hge
  obtain ⟨i, hi⟩ : ∃ i, (bst d N).1 = i := ⟨_, rfl⟩
  obtain ⟨j, hj⟩ : ∃ j, (bst d N).2 = j := ⟨_, rfl⟩
  rw [hi, hj] at hI hge
  rw [hj]
  have hN := hI.sum
  have hne : ¬ (j + 1) * (j + 1) = (i + 1) * (i + 1) * d := fun h2 => hs (root_irr (by omega) h2)
  have hlt : (j + 1) * (j + 1) < (i + 1) * (i + 1) * d := by omega
  refine ⟨?_, fun k hk => ?_⟩
  · unfold bv
    rw [fl_eq (n := i) ((Nat.le_div_iff_mul_le hd).2 (Nat.le_of_lt hI.lo)) ((Nat.div_lt_iff_lt_mul hd).2 hlt)]
    omega
  · rcases Nat.lt_or_ge i k with h1 | h1
    · have h2 := av_mono (d := d) (j := i + 1) h1
      have h3 : j + 1 ≤ fl ((i + 1) * (i + 1) * d) := le_fl (Nat.le_of_lt hlt)
      unfold av at h2 hk
      omega
    · have h2 := av_mono (d := d) h1
      have h3 : fl (i * i * d) ≤ j := fl_lt hI.lo
      unfold av at h2 hk
      omega
/-- The beats, as bytes. -/
def btL (d n : Nat) : List Nat := (List.range n).map fun p => if isB d p then 98 else 97
/-- Is p + 1 among the first K beats of b, of a? -/
def hasB (d p K : Nat) : Bool := (List.range K).any fun k => bv d (k + 1) == p + 1
def hasA (d p K : Nat) : Bool := (List.range K).any fun k => av d (k + 1) == p + 1
theorem hasB_iff {d p K : Nat} : hasB d p K = true ↔ ∃ k, k < K ∧ bv d (k + 1) = p + 1 := by
  unfold hasB
  simp [List.any_eq_true, List.mem_range]
theorem hasA_iff {d p K : Nat} : hasA d p K = true ↔ ∃ k, k < K ∧ av d (k + 1) = p + 1 := by
  unfold hasA
  simp [List.any_eq_true, List.mem_range]
theorem hasB_succ {d p K : Nat} : hasB d p (K + 1) = (hasB d p K || (bv d (K + 1) == p + 1)) := by
  unfold hasB
  rw [List.range_succ, List.any_append]
  simp
theorem hasA_succ {d p K : Nat} : hasA d p (K + 1) = (hasA d p K || (av d (K + 1) == p + 1)) := by
  unfold hasA
  rw [List.range_succ, List.any_append]
  simp
/-- What the program has after K beats. -/
def pbL (d n K : Nat) : List Nat := (List.range n).map fun p => if hasB d p K then 98 else 97
theorem pbL_length (d n K : Nat) : (pbL d n K).length = n := by simp [pbL]
theorem pbL_zero (d n : Nat) : pbL d n 0 = List.replicate n 97 := by
  apply List.ext_getElem
  · simp [pbL]
  · intro i h1 h2
    simp [pbL, hasB]
theorem pbL_succ {d n K b : Nat} (hb : bv d (K + 1) = b) (h1 : b ≤ n) : (pbL d n K).set (b - 1) 98 = pbL d n (K + 1) := by
  have hb0 := bv_ge d (K + 1)
  apply List.ext_getElem
  · simp [pbL]
  · intro i h2 h3
    rw [List.getElem_set]
    simp only [pbL, List.getElem_map, List.getElem_range, hasB_succ, hb]
    by_cases he : b - 1 = i
    · have e : (b == i + 1) = true := by simp; omega
      rw [if_pos he, e]; simp
    · have e : (b == i + 1) = false := by simp; omega
      rw [if_neg he, e]; simp
theorem pbL_done {d n K : Nat} (hd : 0 < d) (hs : ¬ fl d * fl d = d) (h : n < bv d (K + 1)) : pbL d n K = btL d n := by
  apply List.ext_getElem
  · simp [pbL, btL]
  · intro i h2 h3
    have hi : i < n := by simpa [pbL] using h2
    simp only [pbL, btL, List.getElem_map, List.getElem_range]
    have e : hasB d i K = isB d i := by
      by_cases hb : isB d i = true
      · rw [hb]
        obtain ⟨h4, _⟩ := isB_true hd hs hb
        refine hasB_iff.2 ⟨(bst d i).2, ?_, h4⟩
        rcases Nat.lt_or_ge (bst d i).2 K with h5 | h5
        · exact h5
        · have := bv_mono (d := d) (Nat.succ_le_succ h5)
          simp only [Nat.succ_eq_add_one] at this
          omega
      · have hb' : isB d i = false := by simpa using hb
        rw [hb']
        obtain ⟨_, h4⟩ := isB_false hd hs hb'
        cases hh : hasB d i K with
        | false => rfl
        | true => obtain ⟨k, _, hk⟩ := hasB_iff.1 hh; exact absurd hk (h4 _)
    rw [e]
/-- What the reference has after K beats of each letter. -/
def rbL (d n K L : Nat) : List Nat := (List.range n).map fun p => if hasA d p K then 97 else if hasB d p L then 98 else 0
theorem rbL_length (d n K L : Nat) : (rbL d n K L).length = n := by simp [rbL]
theorem rbL_zero (d n : Nat) : rbL d n 0 0 = List.replicate n 0 := by
  apply List.ext_getElem
  · simp [rbL]
  · intro i h1 h2
    simp [rbL, hasB, hasA]
theorem rbL_a {d n K L a : Nat} (ha : av d (K + 1) = a) (h1 : a ≤ n) : (rbL d n K L).set (a - 1) 97 = rbL d n (K + 1) L := by
  have ha0 := av_ge d (K + 1)
  apply List.ext_getElem
  · simp [rbL]
  · intro i h2 h3
    rw [List.getElem_set]
    simp only [rbL, List.getElem_map, List.getElem_range, hasA_succ, ha]
    by_cases he : a - 1 = i
    · have e : (a == i + 1) = true := by simp; omega
      rw [if_pos he, e]; simp
    · have e : (a == i + 1) = false := by simp; omega
      rw [if_neg he, e]; simp
theorem rbL_a_not {d n K L : Nat} (h1 : n < av d (K + 1)) : rbL d n (K + 1) L = rbL d n K L := by
  apply List.ext_getElem
  · simp [rbL]
  · intro i h2 h3
    have hi : i < n := by simpa [rbL] using h2
    simp only [rbL, List.getElem_map, List.getElem_range, hasA_succ]
    have e : (av d (K + 1) == i + 1) = false := by simp; omega
    rw [e]; simp
theorem ab_apart {d j k : Nat} (hd : 0 < d) (hs : ¬ fl d * fl d = d) (h : bv d (j + 1) = av d (k + 1)) : False := by
  obtain ⟨N, hN⟩ : ∃ N, bv d (j + 1) = N + 1 := ⟨bv d (j + 1) - 1, by have := bv_ge d (j + 1); omega⟩
  by_cases hb : isB d N = true
  · exact (isB_true hd hs hb).2 _ (by rw [← h]; exact hN)
  · exact (isB_false hd hs (by simpa using hb)).2 _ hN
theorem rbL_b {d n K L b : Nat} (hd : 0 < d) (hs : ¬ fl d * fl d = d) (hb : bv d (L + 1) = b) (h1 : b ≤ n) : (rbL d n K L).set (b - 1) 98 = rbL d n K (L + 1) := by
  have hb0 := bv_ge d (L + 1)
  apply List.ext_getElem
  · simp [rbL]
  · intro i h2 h3
    rw [List.getElem_set]
    simp only [rbL, List.getElem_map, List.getElem_range, hasB_succ, hb]
    by_cases he : b - 1 = i
    · have e : (b == i + 1) = true := by simp; omega
      have hA : hasA d i K = false := by
        cases hh : hasA d i K with
        | false => rfl
        | true => obtain ⟨k, _, hk⟩ := hasA_iff.1 hh; exact absurd (by rw [hb, hk]; omega) (fun h => ab_apart (j := L) (k := k) hd hs h)
      rw [if_pos he, e, hA]; simp
    · have e : (b == i + 1) = false := by simp; omega
      rw [if_neg he, e]; simp
theorem rbL_b_not {d n K L : Nat} (h1 : n < bv d (L + 1)) : rbL d n K (L + 1) = rbL d n K L := by
  apply List.ext_getElem
  · simp [rbL]
  · intro i h2 h3
    have hi : i < n := by simpa [rbL] using h2
    simp only [rbL, List.getElem_map, List.getElem_range, hasB_succ]
    have e : (bv d (L + 1) == i + 1) = false := by simp; omega
    rw [e]; simp
theorem rbL_done {d n : Nat} (hd : 0 < d) (hs : ¬ fl d * fl d = d) : rbL d n n n = btL d n := by
  apply List.ext_getElem
  · simp [rbL, btL]
  · intro i h2 h3
    have hi : i < n := by simpa [rbL] using h2
    have hI := (bst_inv hd hs i).sum
    simp only [rbL, btL, List.getElem_map, List.getElem_range]
    by_cases hb : isB d i = true
    · obtain ⟨h4, h5⟩ := isB_true hd hs hb
      have hA : hasA d i n = false := by
        cases hh : hasA d i n with
        | false => rfl
        | true => obtain ⟨k, _, hk⟩ := hasA_iff.1 hh; exact absurd hk (h5 _)
      have hB : hasB d i n = true := hasB_iff.2 ⟨(bst d i).2, by omega, h4⟩
      rw [hA, hB, hb]; simp
    · have hb' : isB d i = false := by simpa using hb
      obtain ⟨h4, h5⟩ := isB_false hd hs hb'
      have hA : hasA d i n = true := hasA_iff.2 ⟨(bst d i).1, by omega, h4⟩
      rw [hA, hb']; simp
end Go.Proofs.Ytkecdjdggkpdpab

/- Plain: the terms of the roots of the numbers up to 1000, by reckoning. -/
namespace Go.Proofs.Ytkecdjdggkpdpab

/-- The greatest number whose square is at most d, for small d. -/
def sq32 (d : Nat) : Nat := ((List.range 32).filter fun r => decide (r * r ≤ d)).length - 1
/-- The terms from a state on, until one is twice the first one. -/
def rtGo (d n : Nat) : Nat → Nat → Nat → Nat → Option (List Nat)
  | 0, _, _, _ => none
  | f + 1, m, k, a =>
    if a = 2 * n then some []
    else if m ≤ k * a ∧ (k * a - m) * (k * a - m) ≤ d ∧ 1 ≤ k ∧ k ≤ 2000 ∧ a ≤ 100 ∧ 1 ≤ (d - (k * a - m) * (k * a - m)) / k ∧ k * a - m ≤ 31 then
      (rtGo d n f (k * a - m) ((d - (k * a - m) * (k * a - m)) / k) ((n + (k * a - m)) / ((d - (k * a - m) * (k * a - m)) / k))).map (((n + (k * a - m)) / ((d - (k * a - m) * (k * a - m)) / k)) :: ·)
    else none
/-- The period of d's root. -/
def perO (d : Nat) : Option (List Nat) := rtGo d (sq32 d) 100 0 1 (sq32 d)
def per (d : Nat) : List Nat := (perO d).getD []
/-- Everything that is asked of one root. -/
def rtOk (d : Nat) : Bool :=
  decide (sq32 d * sq32 d ≤ d) && decide (d < (sq32 d + 1) * (sq32 d + 1)) &&
    (decide (sq32 d * sq32 d = d) || ((perO d).isSome && decide (per d ≠ []) && decide ((per d).length ≤ 70) && (per d).all (fun x => decide (1 ≤ x) && decide (x ≤ 2 * sq32 d)) &&
      decide ((per d).getLast? = some (2 * sq32 d)) && decide ((per d).dropLast.reverse = (per d).dropLast)))
theorem rt_all : (List.range 1001).all (fun d => rtOk d || decide (d < 2)) = true := by kernel_rfl
theorem rt_ok {d : Nat} (h2 : 2 ≤ d) (h3 : d ≤ 1000) : rtOk d = true := by
  have h := List.all_eq_true.1 rt_all d (List.mem_range.2 (by omega))
  simp only [Bool.or_eq_true, decide_eq_true_eq] at h
  rcases h with h | h
  · exact h
  · omega
theorem sq32_sq {d : Nat} (h2 : 2 ≤ d) (h3 : d ≤ 1000) : Sq (sq32 d) d := by
  have h := rt_ok h2 h3
  unfold rtOk at h
  simp only [Bool.and_eq_true, decide_eq_true_eq] at h
  exact ⟨h.1.1, h.1.2⟩
theorem fl_small {d : Nat} (h2 : 2 ≤ d) (h3 : d ≤ 1000) : fl d = sq32 d := (sq32_sq h2 h3).fl
/-- What the period of a root that is no whole number is. -/
structure PerI (d : Nat) : Prop where
  go : perO d = some (per d)
  ne : per d ≠ []
  len : (per d).length ≤ 70
  pos : ∀ x ∈ per d, 1 ≤ x ∧ x ≤ 2 * sq32 d
  last : (per d).getLast? = some (2 * sq32 d)
  pal : (per d).dropLast.reverse = (per d).dropLast
theorem perI {d : Nat} (h2 : 2 ≤ d) (h3 : d ≤ 1000) (hs : ¬ fl d * fl d = d) : PerI d := by
  have h := rt_ok h2 h3
  rw [fl_small h2 h3] at hs
  unfold rtOk at h
  simp only [Bool.and_eq_true, Bool.or_eq_true, decide_eq_true_eq] at h
  rcases h.2 with h | h
  · exact absurd h hs
  · obtain ⟨⟨⟨⟨⟨h4, h5⟩, h6⟩, h7⟩, h8⟩, h9⟩ := h
    refine ⟨?_, h5, h6, fun x hx => ?_, h8, h9⟩
    · obtain ⟨l, hl⟩ := Option.isSome_iff_exists.1 h4
      unfold per
      rw [hl]; rfl
    · have := List.all_eq_true.1 h7 x hx
      simpa using this
theorem sq32_le (d : Nat) : sq32 d ≤ 31 := by
  unfold sq32
  have := List.length_filter_le (fun r => decide (r * r ≤ d)) (List.range 32)
  rw [List.length_range] at this
  omega
/-- One step of the search for the period. -/
theorem rtGo_end {d n f m k a : Nat} {l : List Nat} (h : rtGo d n f m k a = some l) (ha : a = 2 * n) : l = [] := by
  cases f with
  | zero => cases h
  | succ f =>
    unfold rtGo at h
    rw [if_pos ha] at h
    injection h with h
    exact h.symm
/-- What the next state is. -/
structure RtS (d n f m k a m1 k1 a1 : Nat) (l : List Nat) : Prop where
  hm : k * a = m + m1
  hm1 : m1 * m1 ≤ d
  hk : 1 ≤ k
  hk2 : k ≤ 2000
  ha : a ≤ 100
  hk1 : (d - m1 * m1) / k = k1
  hk3 : 1 ≤ k1
  hm3 : m1 ≤ 31
  ha1 : (n + m1) / k1 = a1
  next : ∃ l', l = a1 :: l' ∧ rtGo d n f m1 k1 a1 = some l'
theorem rtGo_step {d n f m k a : Nat} {l : List Nat} (h : rtGo d n f m k a = some l) (ha : a ≠ 2 * n) : ∃ f' m1 k1 a1, f = f' + 1 ∧ RtS d n f' m k a m1 k1 a1 l := by
  cases f with
  | zero => cases h
  | succ f =>
    unfold rtGo at h
    rw [if_neg ha] at h
    split at h
    · rename_i hc
      obtain ⟨c1, c2, c3, c4, c5, c6, c7⟩ := hc
      obtain ⟨l', h1, h2⟩ := Option.map_eq_some_iff.1 h
      exact ⟨f, _, _, _, rfl, ⟨by omega, c2, c3, c4, c5, rfl, c6, c7, rfl, l', h2.symm, h1⟩⟩
    · cases h
end Go.Proofs.Ytkecdjdggkpdpab

/- Plain: the terms of a fraction: multiples, the reciprocal; what the convergents are. -/
namespace Go.Proofs.Ytkecdjdggkpdpab

theorem trm_mul {a b k : Nat} (hk : 0 < k) : trm (k * a) (k * b) = trm a b := by
  induction b using Nat.strongRecOn generalizing a with
  | ind b ih =>
    by_cases h : b = 0
    · subst h; rw [Nat.mul_zero, trm_zero, trm_zero]
    · have hb : 0 < b := by omega
      rw [trm_pos (Nat.mul_pos hk hb), trm_pos hb, Nat.mul_div_mul_left _ _ hk, Nat.mul_mod_mul_left, ih (a % b) (Nat.mod_lt _ hb)]
theorem trm_lt {a b : Nat} (h : a < b) : trm a b = 0 :: trm b a := by
  rw [trm_pos (by omega), Nat.div_eq_of_lt h, Nat.mod_eq_of_lt h]
theorem trm_self {a : Nat} (h : 0 < a) : trm a a = [1] := by
  rw [trm_pos h, Nat.div_self h, Nat.mod_self, trm_zero]
end Go.Proofs.Ytkecdjdggkpdpab

/- Plain: the solutions of Pell's equation for the numbers up to 1000, by reckoning. -/
namespace Go.Proofs.Ytkecdjdggkpdpab

/-- Numerator and denominator of a convergent, and of the one before it. -/
abbrev Cv := Nat × Nat × Nat × Nat
def cvStep (s : Cv) (a : Nat) : Cv := (a * s.1 + s.2.1, s.1, a * s.2.2.1 + s.2.2.2, s.2.2.1)
def cvB : Nat := 10000000000000000000000000000000000000000000000000000000000000000000000000000000000000000000000000000
def stOk (s : Cv) : Bool := decide (s.1 < cvB) && decide (s.2.1 < cvB) && decide (s.2.2.1 < cvB) && decide (s.2.2.2 < cvB)
def allOk : Cv → List Nat → Bool
  | s, [] => stOk s
  | s, a :: l => stOk s && decide (a ≤ 100) && allOk (cvStep s a) l
def cvEnd (s : Cv) (l : List Nat) : Cv := l.foldl cvStep s
/-- A solution of Pell's equation. -/
def isSol (d : Nat) (neg : Bool) (x y : Nat) : Bool := (if neg then decide (x * x + 1 = d * (y * y)) else decide (x * x = d * (y * y) + 1)) && decide (0 < y)
/-- The first convergent with the value that is asked for. -/
def refGo (d : Nat) (neg : Bool) : Cv → List Nat → Option (Nat × Nat)
  | s, l =>
    if isSol d neg s.1 s.2.2.1 then some (s.1, s.2.2.1)
    else match l with
      | [] => none
      | a :: l => refGo d neg (cvStep s a) l
def cv0 (n : Nat) : Cv := (n, 1, 1, 0)
/-- The program's terms: one period, or two, without the last term. -/
def pellL (d : Nat) (neg : Bool) : List Nat := (if !neg && decide ((per d).length % 2 = 1) then per d ++ per d else per d).dropLast
/-- The program's solution. -/
def pellV (d : Nat) (neg : Bool) : Nat × Nat := ((cvEnd (cv0 (sq32 d)) (pellL d neg)).1, (cvEnd (cv0 (sq32 d)) (pellL d neg)).2.2.1)
/-- Is there a solution? -/
def pellIs (d : Nat) (neg : Bool) : Bool := !neg || decide ((per d).length % 2 = 1)
def pellOk1 (d : Nat) (neg : Bool) : Bool :=
  if pellIs d neg then allOk (cv0 (sq32 d)) (pellL d neg) && decide (refGo d neg (cv0 (sq32 d)) (per d ++ per d) = some (pellV d neg)) && decide (0 < (pellV d neg).1) && decide (0 < (pellV d neg).2)
  else decide (refGo d neg (cv0 (sq32 d)) (per d ++ per d) = none)
def pellOk (d : Nat) : Bool := decide (sq32 d * sq32 d = d) || (pellOk1 d false && pellOk1 d true && allOk (cv0 (sq32 d)) (per d ++ per d) &&
  (!pellIs d true || (decide ((pellV d false).1 = (pellV d true).1 * (pellV d true).1 + d * ((pellV d true).2 * (pellV d true).2)) && decide ((pellV d false).2 = 2 * ((pellV d true).1 * (pellV d true).2)))))
theorem pell_all : (List.range 1001).all (fun d => pellOk d || decide (d < 2)) = true := by kernel_rfl
theorem pell_ok {d : Nat} (h2 : 2 ≤ d) (h3 : d ≤ 1000) (hs : ¬ fl d * fl d = d) : pellOk1 d false = true ∧ pellOk1 d true = true ∧ allOk (cv0 (sq32 d)) (per d ++ per d) = true ∧
    (pellIs d true = true → (pellV d false).1 = (pellV d true).1 * (pellV d true).1 + d * ((pellV d true).2 * (pellV d true).2) ∧ (pellV d false).2 = 2 * ((pellV d true).1 * (pellV d true).2)) := by
  have h := List.all_eq_true.1 pell_all d (List.mem_range.2 (by omega))
  rw [fl_small h2 h3] at hs
  unfold pellOk at h
  simp only [Bool.or_eq_true, Bool.and_eq_true, decide_eq_true_eq] at h
  rcases h with (h | ⟨⟨⟨h4, h5⟩, h6⟩, h7⟩) | h
  · exact absurd h hs
  · refine ⟨h4, h5, h6, fun h8 => ?_⟩
    rw [h8] at h7
    simpa using h7
  · omega
/-- What holds of the program's solution. -/
theorem pell_is {d : Nat} {neg : Bool} (h : pellOk1 d neg = true) (hi : pellIs d neg = true) : allOk (cv0 (sq32 d)) (pellL d neg) = true ∧ refGo d neg (cv0 (sq32 d)) (per d ++ per d) = some (pellV d neg) ∧ 0 < (pellV d neg).1 ∧ 0 < (pellV d neg).2 := by
  unfold pellOk1 at h
  rw [if_pos hi] at h
  simp only [Bool.and_eq_true, decide_eq_true_eq] at h
  obtain ⟨⟨⟨h1, h2⟩, h3⟩, h4⟩ := h
  exact ⟨h1, h2, h3, h4⟩
theorem pell_not {d : Nat} {neg : Bool} (h : pellOk1 d neg = true) (hi : pellIs d neg = false) : refGo d neg (cv0 (sq32 d)) (per d ++ per d) = none := by
  unfold pellOk1 at h
  rw [if_neg (by rw [hi]; simp)] at h
  simpa using h
theorem refGo_eq (d : Nat) (neg : Bool) (s : Cv) (l : List Nat) : refGo d neg s l = if isSol d neg s.1 s.2.2.1 then some (s.1, s.2.2.1) else match l with | [] => none | a :: l => refGo d neg (cvStep s a) l := by
  cases l <;> rfl
/-- What the search finds is a solution. -/
theorem refGo_sol {d : Nat} {neg : Bool} {s : Cv} {l : List Nat} {x y : Nat} (h : refGo d neg s l = some (x, y)) : isSol d neg x y = true := by
  induction l generalizing s with
  | nil =>
    rw [refGo_eq] at h
    by_cases hc : isSol d neg s.1 s.2.2.1 = true
    · rw [if_pos hc] at h
      injection h with h
      injection h with h1 h2
      subst h1 h2
      exact hc
    · rw [if_neg hc] at h
      cases h
  | cons a l ih =>
    rw [refGo_eq] at h
    by_cases hc : isSol d neg s.1 s.2.2.1 = true
    · rw [if_pos hc] at h
      injection h with h
      injection h with h1 h2
      subst h1 h2
      exact hc
    · rw [if_neg hc] at h
      exact ih h
end Go.Proofs.Ytkecdjdggkpdpab
