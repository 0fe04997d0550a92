/- Bkp -/
import Derived.Test.YtcaeonpjokkjnaaQWs
import Derived.Test.YtcaeonpjokkjnaaKXb
import Derived.Test.YtcaeonpjokkjnaaQWp
set_option linter.unusedVariables false
/- The numbers that renewals come from, and their sizes. Plain. -/
namespace Go.Proofs.Ytcaeonpjokkjnaa
open Go

def ab (q : Rat) : Rat := if q < 0 then -q else q
theorem ab_nonneg (q : Rat) : 0 ≤ ab q := by unfold ab; split <;> grind
theorem ab_add (p q : Rat) : ab (p + q) ≤ ab p + ab q := by unfold ab; split <;> split <;> split <;> grind
theorem ab_sub (p q : Rat) : ab (p - q) ≤ ab p + ab q := by unfold ab; split <;> split <;> split <;> grind
theorem ab_le {q K : Rat} (h : ab q ≤ K) : -K ≤ q ∧ q ≤ K := by unfold ab at h; split at h <;> grind
theorem le_ab {q K : Rat} (h1 : -K ≤ q) (h2 : q ≤ K) : ab q ≤ K := by unfold ab; split <;> grind
theorem ab_mul (p q : Rat) : ab (p * q) = ab p * ab q := by
  by_cases hp : p < 0
  · by_cases hq : q < 0
    · have h := Rat.mul_nonneg (a := -p) (b := -q) (by grind) (by grind)
      have e : -p * -q = p * q := by grind
      rw [e] at h
      unfold ab
      rw [if_pos hp, if_pos hq, if_neg (by grind)]; grind
    · have h := Rat.mul_nonneg (a := -p) (b := q) (by grind) (by grind)
      have e : -p * q = -(p * q) := by grind
      rw [e] at h
      unfold ab
      rw [if_pos hp, if_neg hq]
      split <;> grind
  · by_cases hq : q < 0
    · have h := Rat.mul_nonneg (a := p) (b := -q) (by grind) (by grind)
      have e : p * -q = -(p * q) := by grind
      rw [e] at h
      unfold ab
      rw [if_neg hp, if_pos hq]
      split <;> grind
    · have h := Rat.mul_nonneg (a := p) (b := q) (by grind) (by grind)
      unfold ab
      rw [if_neg hp, if_neg hq, if_neg (by grind)]
def asum (l : List Rat) : Rat := (l.map ab).sum
theorem asum_nonneg (l : List Rat) : 0 ≤ asum l := sum_nonneg _ fun q hq => by
  obtain ⟨r, _, rfl⟩ := List.mem_map.1 hq
  exact ab_nonneg r
theorem ab_sum : ∀ l : List Rat, ab l.sum ≤ asum l
  | [] => by decide
  | q :: l => by
    have h := ab_sum l
    have h2 := ab_add q l.sum
    unfold asum at h ⊢
    rw [List.map_cons, List.sum_cons, List.sum_cons]
    grind
theorem asum_take (l : List Rat) (k : Nat) : asum (l.take k) ≤ asum l := by
  have h := (psum_le (l.map ab) (fun q hq => by
    obtain ⟨r, _, rfl⟩ := List.mem_map.1 hq
    exact ab_nonneg r) k).2
  unfold Go.Proofs.Ytcaeonpjokkjnaa.psum at h
  unfold asum
  rw [List.map_take]
  exact h
theorem ab_psum (l : List Rat) (k : Nat) : ab (Go.Proofs.Ytcaeonpjokkjnaa.psum l k) ≤ asum l := Rat.le_trans (ab_sum _) (asum_take l k)
theorem ab_mem (l : List Rat) (q : Rat) (hq : q ∈ l) : ab q ≤ asum l :=
  mem_le_sum _ (fun r hr => by
    obtain ⟨s, _, rfl⟩ := List.mem_map.1 hr
    exact ab_nonneg s) _ (List.mem_map_of_mem hq)
theorem asum_dot {U : Rat} (hU : 0 ≤ U) : ∀ xs ys : List Rat, (∀ y ∈ ys, ab y ≤ U) → asum (List.zipWith (· * ·) xs ys) ≤ U * asum xs
  | [], ys, _ => by unfold asum; simp
  | x :: xs, [], _ => by
    have := Rat.mul_nonneg hU (asum_nonneg (x :: xs))
    unfold asum at this ⊢
    simpa using this
  | x :: xs, y :: ys, h => by
    have ih := asum_dot hU xs ys fun z hz => h z (List.mem_cons_of_mem _ hz)
    have hy := h y (List.mem_cons_self ..)
    have h2 : ab x * ab y ≤ ab x * U := Rat.mul_le_mul_of_nonneg_left hy (ab_nonneg x)
    unfold asum at ih ⊢
    rw [List.zipWith_cons_cons, List.map_cons, List.sum_cons, List.map_cons, List.sum_cons, ab_mul]
    grind

/-- What the renewals come from. -/
def segL (us : List Rat) (k : Nat) : List Rat := ((us.drop 1).take k).reverse
def bkL (us : List Rat) : Nat → List Rat
  | 0 => []
  | k + 1 => bkL us k ++ [nth us (k + 1) - dotl (bkL us k) (segL us k)]
theorem bkL_length (us : List Rat) : ∀ k, (bkL us k).length = k
  | 0 => rfl
  | k + 1 => by rw [bkL, List.length_append, bkL_length us k]; rfl
theorem segL_length {us : List Rat} {k : Nat} (h : k + 1 ≤ us.length) : (segL us k).length = k := by
  unfold segL
  rw [List.length_reverse, List.length_take, List.length_drop]; omega
theorem segL_mem {us : List Rat} {k : Nat} {q : Rat} (h : q ∈ segL us k) : q ∈ us := List.mem_of_mem_drop (List.mem_of_mem_take (List.mem_reverse.1 h))
theorem segL_at {us : List Rat} {k j : Nat} (h : k + 1 ≤ us.length) (hj : j < k) : (segL us k)[j]? = us[k - j]? := by
  unfold segL
  have hl : ((us.drop 1).take k).length = k := by rw [List.length_take, List.length_drop]; omega
  rw [List.getElem?_reverse (by rw [hl]; exact hj), hl, List.getElem?_take_of_lt (by omega), List.getElem?_drop]
  congr 1; omega

def cN (n : Nat) : Rat := ((n : Int) : Rat)
theorem cN_mul (a b : Nat) : cN (a * b) = cN a * cN b := by unfold cN; rw [Int.natCast_mul, Rat.intCast_mul]
theorem cN_succ (a : Nat) : cN (a + 1) = cN a + 1 := by unfold cN; rw [Int.natCast_add, Rat.intCast_add]; rfl
theorem cN_mono {a b : Nat} (h : a ≤ b) : cN a ≤ cN b := Rat.intCast_le_intCast.2 (by omega)
theorem cN_nonneg (a : Nat) : 0 ≤ cN a := cN_mono (a := 0) (Nat.zero_le _)

/-- The sizes of renewals: n of them behind the first. -/
structure Bs (us : List Rat) (n D U : Nat) : Prop where
  len : us.length = n + 1
  d0 : 0 < D
  iz : ∀ q ∈ us, Iz D q
  ab : ∀ q ∈ us, Go.Proofs.Ytcaeonpjokkjnaa.ab q ≤ cN U
  big : ((U + 1) * D) ^ n ≤ p10 3000

theorem Bs.asum {us : List Rat} {n D U : Nat} (h : Bs us n D U) : ∀ k, k ≤ n → Go.Proofs.Ytcaeonpjokkjnaa.asum (bkL us k) + 1 ≤ cN ((U + 1) ^ k)
  | 0, _ => by
    unfold bkL Go.Proofs.Ytcaeonpjokkjnaa.asum
    simp [cN]
    grind
  | k + 1, hk => by
    have ih := h.asum k (by omega)
    have hm : nth us (k + 1) ∈ us := by
      unfold nth
      have hl := h.len
      rw [List.getElem?_eq_getElem (by omega)]
      exact List.getElem_mem _
    have h1 := h.ab _ hm
    have h2 := asum_dot (cN_nonneg U) (bkL us k) (segL us k) fun q hq => h.ab q (segL_mem hq)
    have h3 := ab_sum (List.zipWith (· * ·) (bkL us k) (segL us k))
    have h4 := ab_sub (nth us (k + 1)) (dotl (bkL us k) (segL us k))
    have h5 : Go.Proofs.Ytcaeonpjokkjnaa.asum (bkL us (k + 1)) = Go.Proofs.Ytcaeonpjokkjnaa.asum (bkL us k) + Go.Proofs.Ytcaeonpjokkjnaa.ab (nth us (k + 1) - dotl (bkL us k) (segL us k)) := by
      unfold Go.Proofs.Ytcaeonpjokkjnaa.asum
      rw [bkL, List.map_append, List.sum_append]
      simp
      grind
    have h6 : cN ((U + 1) ^ (k + 1)) = cN ((U + 1) ^ k) * (cN U + 1) := by rw [Nat.pow_succ, cN_mul, cN_succ]
    have h7 : (Go.Proofs.Ytcaeonpjokkjnaa.asum (bkL us k) + 1) * (cN U + 1) ≤ cN ((U + 1) ^ k) * (cN U + 1) := Rat.mul_le_mul_of_nonneg_right ih (by have := cN_nonneg U; grind)
    have h8 : Go.Proofs.Ytcaeonpjokkjnaa.ab (dotl (bkL us k) (segL us k)) ≤ cN U * Go.Proofs.Ytcaeonpjokkjnaa.asum (bkL us k) := Rat.le_trans h3 h2
    rw [h5, h6]
    grind
theorem Bs.izb {us : List Rat} {n D U : Nat} (h : Bs us n D U) : ∀ k, k ≤ n → ∀ q ∈ bkL us k, Iz (D ^ k) q
  | 0, _ => fun q hq => by simp [bkL] at hq
  | k + 1, hk => fun q hq => by
    have ih := h.izb k (by omega)
    rw [bkL, List.mem_append, List.mem_singleton] at hq
    rcases hq with hq | rfl
    · rw [Nat.pow_succ]; exact (ih q hq).up D
    · have hm : nth us (k + 1) ∈ us := by
        unfold nth
        have hl := h.len
        rw [List.getElem?_eq_getElem (by omega)]
        exact List.getElem_mem _
      refine Iz.sub ?_ ?_
      · rw [Nat.pow_succ, Nat.mul_comm]; exact (h.iz _ hm).up _
      · rw [Nat.pow_succ]
        exact Iz.sum _ (zip_iz _ _ ih fun q hq => h.iz q (segL_mem hq))
where
  zip_iz {d e : Nat} : ∀ xs ys : List Rat, (∀ p ∈ xs, Iz d p) → (∀ q ∈ ys, Iz e q) → ∀ x ∈ List.zipWith (· * ·) xs ys, Iz (d * e) x
    | [], ys, _, _ => by simp
    | x :: xs, [], _, _ => by simp
    | x :: xs, y :: ys, h1, h2 => fun z hz => by
      rw [List.zipWith_cons_cons, List.mem_cons] at hz
      rcases hz with rfl | hz
      · exact (h1 x (List.mem_cons_self ..)).mul (h2 y (List.mem_cons_self ..))
      · exact zip_iz xs ys (fun p hp => h1 p (List.mem_cons_of_mem _ hp)) (fun p hp => h2 p (List.mem_cons_of_mem _ hp)) z hz

theorem Iz.bda {d : Nat} {q : Rat} {k : Nat} (h : Iz d q) (hk : Go.Proofs.Ytcaeonpjokkjnaa.ab q ≤ cN k) : Bd d (k * d) q := by
  obtain ⟨z, h1⟩ := h
  obtain ⟨a1, a2⟩ := ab_le hk
  refine ⟨z, h1, ?_⟩
  have hd : (0 : Rat) ≤ ((d : Int) : Rat) := by exact_mod_cast Int.natCast_nonneg d
  have b : (z : Rat) ≤ (((k * d : Nat) : Int) : Rat) := by
    rw [← h1, Int.natCast_mul, Rat.intCast_mul]
    exact Rat.mul_le_mul_of_nonneg_right a2 hd
  have b2 : ((-z : Int) : Rat) ≤ (((k * d : Nat) : Int) : Rat) := by
    have e : ((-z : Int) : Rat) = -q * ((d : Int) : Rat) := by rw [Rat.intCast_neg, ← h1]; grind
    rw [e, Int.natCast_mul, Rat.intCast_mul]
    exact Rat.mul_le_mul_of_nonneg_right (by unfold cN at a1; grind) hd
  have b' : z ≤ ((k * d : Nat) : Int) := by exact_mod_cast b
  have c' : -z ≤ ((k * d : Nat) : Int) := by exact_mod_cast b2
  omega

/-- The parts of the next one. -/
theorem Bs.part {us : List Rat} {n D U : Nat} (h : Bs us n D U) {k : Nat} (hk : k < n) (j : Nat) :
    Iz (D ^ (k + 1)) (pdot (bkL us k) (segL us k) j) ∧ Go.Proofs.Ytcaeonpjokkjnaa.ab (pdot (bkL us k) (segL us k) j) ≤ cN ((U + 1) ^ (k + 1)) ∧
    Iz (D ^ (k + 1)) (nth us (k + 1) - pdot (bkL us k) (segL us k) j) ∧ Go.Proofs.Ytcaeonpjokkjnaa.ab (nth us (k + 1) - pdot (bkL us k) (segL us k) j) ≤ cN ((U + 1) ^ (k + 1)) := by
  have hm : nth us (k + 1) ∈ us := by
    unfold nth
    have hl := h.len
    rw [List.getElem?_eq_getElem (by omega)]
    exact List.getElem_mem _
  have i1 : Iz (D ^ (k + 1)) (pdot (bkL us k) (segL us k) j) := by
    rw [Nat.pow_succ]
    exact psum_iz _ (Bs.izb.zip_iz _ _ (h.izb k (by omega)) fun q hq => h.iz q (segL_mem hq)) j
  have i2 : Iz (D ^ (k + 1)) (nth us (k + 1)) := by rw [Nat.pow_succ, Nat.mul_comm]; exact (h.iz _ hm).up _
  have ih := h.asum k (by omega)
  have h1 := h.ab _ hm
  have h2 := asum_dot (cN_nonneg U) (bkL us k) (segL us k) fun q hq => h.ab q (segL_mem hq)
  have h3 : Go.Proofs.Ytcaeonpjokkjnaa.ab (pdot (bkL us k) (segL us k) j) ≤ cN U * Go.Proofs.Ytcaeonpjokkjnaa.asum (bkL us k) := Rat.le_trans (ab_psum _ j) h2
  have h4 := ab_sub (nth us (k + 1)) (pdot (bkL us k) (segL us k) j)
  have h6 : cN ((U + 1) ^ (k + 1)) = cN ((U + 1) ^ k) * (cN U + 1) := by rw [Nat.pow_succ, cN_mul, cN_succ]
  have h7 : (Go.Proofs.Ytcaeonpjokkjnaa.asum (bkL us k) + 1) * (cN U + 1) ≤ cN ((U + 1) ^ k) * (cN U + 1) := Rat.mul_le_mul_of_nonneg_right ih (by have := cN_nonneg U; grind)
  have h0 := asum_nonneg (bkL us k)
  have hU := cN_nonneg U
  refine ⟨i1, ?_, i2.sub i1, ?_⟩
  · rw [h6]; grind
  · rw [h6]; grind
theorem Bs.mem {us : List Rat} {n D U : Nat} (h : Bs us n D U) {k : Nat} (hk : k ≤ n) (q : Rat) (hq : q ∈ bkL us k) : Iz (D ^ k) q ∧ Go.Proofs.Ytcaeonpjokkjnaa.ab q ≤ cN ((U + 1) ^ k) := by
  have ih := h.asum k hk
  have h1 := ab_mem _ q hq
  exact ⟨h.izb k hk q hq, by grind⟩
theorem Bs.bigk {us : List Rat} {n D U : Nat} (h : Bs us n D U) {k : Nat} (hk : k ≤ n) : (U + 1) ^ k * D ^ k ≤ p10 3000 := by
  rw [← Nat.mul_pow]
  exact Nat.le_trans (Nat.pow_le_pow_right (Nat.mul_pos (by omega) h.d0) hk) h.big
theorem Bs.fin {us : List Rat} {n D U : Nat} (h : Bs us n D U) {k : Nat} (hk : k ≤ n) {q : Rat} (h1 : Iz (D ^ k) q) (h2 : Go.Proofs.Ytcaeonpjokkjnaa.ab q ≤ cN ((U + 1) ^ k)) : Sz q ∧ numRes q = (nt q, 0) ∧ Short4 q := by
  have hb := h1.bda h2
  have hd := Nat.pow_pos (n := k) h.d0
  have hg := h.bigk hk
  have hu : 1 ≤ (U + 1) ^ k := Nat.pow_pos (by omega)
  have hg2 : D ^ k ≤ p10 3000 := Nat.le_trans (by simpa using Nat.mul_le_mul_right (D ^ k) hu) hg
  have h3 := small (k := 1) hg (by omega) (by omega)
  have h4 := small (k := 1) hg2 (by omega) (by omega)
  have hp : p10 4000 ≤ p10 10000 := p10_mono (by omega)
  obtain ⟨a, b⟩ := hb.parts hd
  exact ⟨hb.sz hd (by omega) (by omega), numRes_ok (by omega) (by omega), by omega, by omega⟩
theorem Bs.mulOK {us : List Rat} {n D U : Nat} (h : Bs us n D U) {k : Nat} (hk : k < n) {p q : Rat} (hp : p ∈ bkL us k) (hq : q ∈ us) : Sz (p * q) := by
  obtain ⟨a, b⟩ := h.mem (by omega) p hp
  have c := h.ab q hq
  refine (h.fin (k := k + 1) hk (by rw [Nat.pow_succ]; exact a.mul (h.iz q hq)) ?_).1
  rw [ab_mul, Nat.pow_succ, cN_mul, cN_succ]
  have h1 : Go.Proofs.Ytcaeonpjokkjnaa.ab p * Go.Proofs.Ytcaeonpjokkjnaa.ab q ≤ Go.Proofs.Ytcaeonpjokkjnaa.ab p * cN U := Rat.mul_le_mul_of_nonneg_left c (ab_nonneg p)
  have h2 : Go.Proofs.Ytcaeonpjokkjnaa.ab p * cN U ≤ cN ((U + 1) ^ k) * cN U := Rat.mul_le_mul_of_nonneg_right b (cN_nonneg U)
  have h3 := cN_nonneg ((U + 1) ^ k)
  grind

/-- The sizes that the walk of Back asks for. -/
structure BackSz (us : List Rat) (n : Nat) : Prop where
  own : ∀ q ∈ us, Sz q
  all : ∀ k, k ≤ n → ∀ q ∈ bkL us k, Sz q
  dots : ∀ k j, k < n → Sz (pdot (bkL us k) (segL us k) j)
  mul : ∀ k, k < n → ∀ p ∈ bkL us k, ∀ q ∈ us, Sz (p * q)
  num : ∀ q ∈ bkL us n, numRes q = (nt q, 0)
theorem Bs.backSz {us : List Rat} {n D U : Nat} (h : Bs us n D U) (ho : ∀ q ∈ us, Sz q) : BackSz us n where
  own := ho
  all k hk q hq := (h.fin hk (h.mem hk q hq).1 (h.mem hk q hq).2).1
  dots k j hk := (h.fin (k := k + 1) hk (h.part hk j).1 (h.part hk j).2.1).1
  mul k hk p hp q hq := h.mulOK hk hp hq
  num q hq := (h.fin (Nat.le_refl _) (h.mem (Nat.le_refl _) q hq).1 (h.mem (Nat.le_refl _) q hq).2).2.1
theorem Bs.all4 {us : List Rat} {n D U : Nat} (h : Bs us n D U) {k : Nat} (hk : k ≤ n) (q : Rat) (hq : q ∈ bkL us k) : Short4 q := (h.fin hk (h.mem hk q hq).1 (h.mem hk q hq).2).2.2
theorem Bs.part4 {us : List Rat} {n D U : Nat} (h : Bs us n D U) {k : Nat} (hk : k < n) (j : Nat) : Short4 (nth us (k + 1) - pdot (bkL us k) (segL us k) j) := (h.fin (k := k + 1) hk (h.part hk j).2.2.1 (h.part hk j).2.2.2).2.2

end Go.Proofs.Ytcaeonpjokkjnaa
