/- Tu -/
import Derived.Test.YtbehfhmdilifkaaQTa
import Derived.WalkKit
set_option linter.unusedVariables false
/- Plain: Markov's numbers. -/
namespace Go.Proofs.Ytbehfhmdilifkaa
open Go Go.Proofs

/-- The third numbers of the triples that come from one, up to a greatest number. -/
def mkV : Nat → Nat → Nat → Nat → Nat → List Nat
  | 0, _, _, _, _ => []
  | f + 1, m, x, y, z => if m < z then [] else z :: (mkV f m x z (3 * x * z - y) ++ mkV f m y z (3 * y * z - x))
/-- The same, as the reference finds them. -/
def rkV : Nat → Nat → Nat → Nat → Nat → List Nat
  | 0, _, _, _, _ => []
  | f + 1, m, x, y, z => if m < z then [] else z :: (if 1 < y ∧ x < y then rkV f m x z (3 * x * z - y) ++ rkV f m y z (3 * y * z - x) else [])
/-- How many triples the reference takes off its list. -/
def rkN : Nat → Nat → Nat → Nat → Nat → Nat
  | 0, _, _, _, _ => 1
  | f + 1, m, x, y, z => if m < z then 1 else 1 + (if 1 < y ∧ x < y then rkN f m x z (3 * x * z - y) + rkN f m y z (3 * y * z - x) else 0)
structure TOk (f m x y z : Nat) : Prop where
  x1 : 1 ≤ x
  xy : x ≤ y
  yz : y ≤ z
  lt : m < z * 2 ^ f
theorem mk_ge {x y z : Nat} (hx : 1 ≤ x) (hy : y ≤ z) : 2 * z ≤ 3 * x * z - y := by
  have : 3 * 1 * z ≤ 3 * x * z := Nat.mul_le_mul_right z (Nat.mul_le_mul_left 3 hx)
  omega
theorem TOk.l {f m x y z : Nat} (h : TOk (f + 1) m x y z) : TOk f m x z (3 * x * z - y) := by
  have h1 := mk_ge h.x1 h.yz
  have := h.xy
  have := h.yz
  refine ⟨h.x1, by omega, by omega, Nat.lt_of_lt_of_le h.lt ?_⟩
  rw [Nat.pow_succ, Nat.mul_comm (2 ^ f) 2, ← Nat.mul_assoc, Nat.mul_comm z 2]
  exact Nat.mul_le_mul_right _ h1
theorem TOk.r {f m x y z : Nat} (h : TOk (f + 1) m x y z) : TOk f m y z (3 * y * z - x) := by
  have := h.xy
  have := h.yz
  have := h.x1
  have h1 := mk_ge (x := y) (y := x) (z := z) (by omega) (by omega)
  refine ⟨by omega, h.yz, by omega, Nat.lt_of_lt_of_le h.lt ?_⟩
  rw [Nat.pow_succ, Nat.mul_comm (2 ^ f) 2, ← Nat.mul_assoc, Nat.mul_comm z 2]
  exact Nat.mul_le_mul_right _ h1
theorem TOk.zero {m x y z : Nat} (h : TOk 0 m x y z) : m < z := by have := h.lt; omega
theorem mkV_length : ∀ (f m x y z : Nat), (mkV f m x y z).length + 1 ≤ 2 ^ f
  | 0, _, _, _, _ => by simp [mkV]
  | f + 1, m, x, y, z => by
    have h1 := mkV_length f m x z (3 * x * z - y)
    have h2 := mkV_length f m y z (3 * y * z - x)
    have h3 : 2 ^ (f + 1) = 2 ^ f + 2 ^ f := by rw [Nat.pow_succ]; omega
    simp only [mkV]
    split
    · simp; exact Nat.one_le_two_pow
    · simp only [List.length_cons, List.length_append]; omega
theorem mkV_le : ∀ (f m x y z v : Nat), v ∈ mkV f m x y z → v ≤ m
  | 0, _, _, _, _, _, h => by simp [mkV] at h
  | f + 1, m, x, y, z, v, h => by
    simp only [mkV] at h
    split at h
    · simp at h
    · rename_i hz
      simp only [List.mem_cons, List.mem_append] at h
      rcases h with h | h | h
      · omega
      · exact mkV_le _ _ _ _ _ _ h
      · exact mkV_le _ _ _ _ _ _ h
/-- The fuel does not matter where it is enough. -/
theorem mkV_fuel : ∀ (f g m x y z : Nat), TOk f m x y z → TOk g m x y z → mkV f m x y z = mkV g m x y z
  | 0, 0, _, _, _, _, _, _ => rfl
  | 0, g + 1, m, x, y, z, h, _ => by simp only [mkV]; rw [if_pos h.zero]
  | f + 1, 0, m, x, y, z, _, h => by simp only [mkV]; rw [if_pos h.zero]
  | f + 1, g + 1, m, x, y, z, h, k => by
    simp only [mkV]
    rw [mkV_fuel f g m x z _ h.l k.l, mkV_fuel f g m y z _ h.r k.r]
theorem rkV_eq : ∀ (f m x y z : Nat), TOk f m x y z → 1 < y → x < y → y < z → rkV f m x y z = mkV f m x y z
  | 0, _, _, _, _, _, _, _, _ => rfl
  | f + 1, m, x, y, z, h, h1, h2, h3 => by
    have hx := h.x1
    have e1 := mk_ge h.x1 h.yz
    have e2 := mk_ge (x := y) (y := x) (z := z) (by omega) (by omega)
    simp only [mkV, rkV]
    by_cases hm : m < z
    · rw [if_pos hm, if_pos hm]
    rw [if_neg hm, if_neg hm, if_pos (show 1 < y ∧ x < y from ⟨h1, h2⟩), rkV_eq f m x z _ h.l (by omega) (by omega) (by omega), rkV_eq f m y z _ h.r (by omega) (by omega) (by omega)]
/-- Strictly rising lists with the same numbers are one. -/
theorem rise_ext : ∀ {l k : List Nat}, l.Pairwise (· < ·) → k.Pairwise (· < ·) → (∀ v, v ∈ l ↔ v ∈ k) → l = k
  | [], [], _, _, _ => rfl
  | [], b :: k, _, _, h => by have := (h b).2 (by simp); simp at this
  | a :: l, [], _, _, h => by have := (h a).1 (by simp); simp at this
  | a :: l, b :: k, h1, h2, h => by
    rw [List.pairwise_cons] at h1 h2
    have hab : a = b := by
      have ha := (h a).1 (by simp)
      have hb := (h b).2 (by simp)
      rw [List.mem_cons] at ha hb
      rcases ha with rfl | ha
      · rfl
      · rcases hb with e | hb
        · exact e.symm
        · have := h1.1 _ hb; have := h2.1 _ ha; omega
    subst hab
    congr 1
    refine rise_ext h1.2 h2.2 fun v => ?_
    constructor
    · intro hv
      have := (h v).1 (List.mem_cons_of_mem _ hv)
      rw [List.mem_cons] at this
      rcases this with rfl | h3
      · have := h1.1 _ hv; omega
      · exact h3
    · intro hv
      have := (h v).2 (List.mem_cons_of_mem _ hv)
      rw [List.mem_cons] at this
      rcases this with rfl | h3
      · have := h2.1 _ hv; omega
      · exact h3
/-- A number put into a rising list. -/
def insS (v : Nat) : List Nat → List Nat
  | [] => [v]
  | a :: l => if a < v then a :: insS v l else if a = v then a :: l else v :: a :: l
theorem insS_mem {v u : Nat} : ∀ {l : List Nat}, u ∈ insS v l ↔ u = v ∨ u ∈ l
  | [] => by simp [insS]
  | a :: l => by
    simp only [insS]
    split
    · rw [List.mem_cons, insS_mem, List.mem_cons]
      constructor
      · rintro (h | h | h) <;> simp [h]
      · rintro (h | h | h) <;> simp [h]
    · split
      · rename_i h; subst h; simp
      · simp
theorem insS_rise {v : Nat} : ∀ {l : List Nat}, l.Pairwise (· < ·) → (insS v l).Pairwise (· < ·)
  | [], _ => by simp [insS]
  | a :: l, h => by
    have h' := List.pairwise_cons.1 h
    simp only [insS]
    split
    · rename_i h1
      refine List.pairwise_cons.2 ⟨fun u hu => ?_, insS_rise h'.2⟩
      rcases insS_mem.1 hu with rfl | hu
      · exact h1
      · exact h'.1 _ hu
    · split
      · exact h
      · rename_i h1 h2
        refine List.pairwise_cons.2 ⟨fun u hu => ?_, h⟩
        rw [List.mem_cons] at hu
        rcases hu with rfl | hu
        · omega
        · have := h'.1 _ hu; omega
/-- How many numbers at the head are less. -/
def posS (v : Nat) : List Nat → Nat
  | [] => 0
  | a :: l => if a < v then posS v l + 1 else 0
theorem posS_le {v : Nat} : ∀ {l : List Nat}, posS v l ≤ l.length
  | [] => Nat.le_refl _
  | a :: l => by
    simp only [posS]
    split
    · have := posS_le (v := v) (l := l); simp; omega
    · simp
theorem posS_lt {v k : Nat} : ∀ {l : List Nat}, k < posS v l → l.getD k 0 < v
  | [], h => by simp [posS] at h
  | a :: l, h => by
    simp only [posS] at h
    split at h
    · rename_i h1
      rcases k with _ | k
      · simpa using h1
      · simpa using posS_lt (v := v) (l := l) (k := k) (by omega)
    · omega
theorem posS_end {v : Nat} : ∀ {l : List Nat}, posS v l < l.length → v ≤ l.getD (posS v l) 0
  | [], h => by simp [posS] at h
  | a :: l, h => by
    simp only [posS] at h ⊢
    split
    · rename_i h1
      rw [if_pos h1] at h
      simpa using posS_end (v := v) (l := l) (by simpa using h)
    · rename_i h1
      simp; omega
theorem insS_new {v : Nat} : ∀ {l : List Nat}, (posS v l = l.length ∨ l.getD (posS v l) 0 ≠ v) → insS v l = l.take (posS v l) ++ [v] ++ l.drop (posS v l)
  | [], _ => by simp [insS, posS]
  | a :: l, h => by
    simp only [insS, posS] at h ⊢
    split
    · rename_i h1
      rw [if_pos h1] at h
      rw [insS_new (v := v) (l := l) (by simpa using h)]
      simp
    · rename_i h1
      rw [if_neg h1] at h
      have h2 : a ≠ v := by
        rcases h with h | h
        · simp at h
        · simpa using h
      rw [if_neg h2]
      simp
theorem insS_old {v : Nat} : ∀ {l : List Nat}, posS v l < l.length → l.getD (posS v l) 0 = v → insS v l = l
  | [], h, _ => by simp [posS] at h
  | a :: l, h, e => by
    simp only [insS, posS] at h e ⊢
    split
    · rename_i h1
      rw [if_pos h1] at h e
      rw [insS_old (v := v) (l := l) (by simpa using h) (by simpa using e)]
    · rename_i h1
      rw [if_neg h1] at e
      have : a = v := by simpa using e
      rw [if_pos this]
/-- Markov's numbers up to m, rising. -/
def mkL (m : Nat) : List Nat := (1 :: mkV 40 m 1 1 2).foldr insS []
theorem mkL_mem {m v : Nat} : v ∈ mkL m ↔ v = 1 ∨ v ∈ mkV 40 m 1 1 2 := by
  unfold mkL
  have : ∀ l : List Nat, v ∈ l.foldr insS [] ↔ v ∈ l := fun l => by
    induction l with
    | nil => simp
    | cons a l ih => rw [List.foldr_cons, insS_mem, ih, List.mem_cons]
  rw [this, List.mem_cons]
theorem mkL_rise {m : Nat} : (mkL m).Pairwise (· < ·) := by
  unfold mkL
  have : ∀ l : List Nat, (l.foldr insS []).Pairwise (· < ·) := fun l => by
    induction l with
    | nil => simp
    | cons a l ih => rw [List.foldr_cons]; exact insS_rise ih
  exact this _
theorem mkL_ref {m v : Nat} (hm : 1 ≤ m) (hm2 : m ≤ 1000000000) : (v ∈ rkV 40 m 1 1 1 ∨ v ∈ rkV 40 m 1 1 2 ∨ v ∈ rkV 40 m 1 2 5) ↔ v ∈ mkL m := by
  rw [mkL_mem]
  have t5 : ∀ f, 30 ≤ f → TOk f m 1 2 5 := fun f hf => ⟨by omega, by omega, by omega, by
    have : 2 ^ 30 ≤ 2 ^ f := Nat.pow_le_pow_right (by omega) hf
    have e : (2 : Nat) ^ 30 = 1073741824 := rfl
    omega⟩
  have h1 : rkV 40 m 1 1 1 = [1] := by
    show rkV (39 + 1) m 1 1 1 = [1]
    rw [rkV, if_neg (by omega), if_neg (by omega)]
  have h2 : rkV 40 m 1 1 2 = if m < 2 then [] else [2] := by
    show rkV (39 + 1) m 1 1 2 = _
    rw [rkV, if_neg (by omega : ¬ (1 < 1 ∧ 1 < 1))]
  have h3 : rkV 40 m 1 2 5 = mkV 40 m 1 2 5 := rkV_eq 40 m 1 2 5 (t5 40 (by omega)) (by omega) (by omega) (by omega)
  have h4 : mkV 40 m 1 1 2 = if m < 2 then [] else 2 :: (mkV 40 m 1 2 5 ++ mkV 40 m 1 2 5) := by
    show mkV (39 + 1) m 1 1 2 = _
    rw [mkV, mkV_fuel 40 39 m 1 2 5 (t5 40 (by omega)) (t5 39 (by omega))]
  rw [h1, h2, h3, h4]
  by_cases hm3 : m < 2
  · have h5 : mkV 40 m 1 2 5 = [] := by
      show mkV (39 + 1) m 1 2 5 = _
      rw [mkV, if_pos (by omega)]
    rw [if_pos hm3, if_pos hm3, h5]; simp
  · rw [if_neg hm3, if_neg hm3]; simp
end Go.Proofs.Ytbehfhmdilifkaa
