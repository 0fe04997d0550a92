/- Sza Szb Szc -/
import Derived.Test.YtcaeonpjokkjnaaQWj
import Derived.Test.YtcaeonpjokkjnaaQWearH
import Derived.Test.YtcaeonpjokkjnaaQWf
set_option linter.unusedVariables false
/- Sizes that the walks ask for, out of what read asks of lives. Plain. -/
namespace Go.Proofs.Ytcaeonpjokkjnaa

/-- Times d it is an integer. -/
def Iz (d : Nat) (q : Rat) : Prop := ∃ z : Int, q * ((d : Int) : Rat) = (z : Rat)
theorem Iz.add {d : Nat} {p q : Rat} (hp : Iz d p) (hq : Iz d q) : Iz d (p + q) := by
  obtain ⟨z, h1⟩ := hp
  obtain ⟨y, h3⟩ := hq
  exact ⟨z + y, by rw [Rat.intCast_add, ← h1, ← h3]; grind⟩
theorem Iz.sub {d : Nat} {p q : Rat} (hp : Iz d p) (hq : Iz d q) : Iz d (p - q) := by
  obtain ⟨z, h1⟩ := hp
  obtain ⟨y, h3⟩ := hq
  exact ⟨z - y, by rw [Rat.intCast_sub, ← h1, ← h3]; grind⟩
theorem Iz.mul {d e : Nat} {p q : Rat} (hp : Iz d p) (hq : Iz e q) : Iz (d * e) (p * q) := by
  obtain ⟨z, h1⟩ := hp
  obtain ⟨y, h3⟩ := hq
  exact ⟨z * y, by rw [Rat.intCast_mul, ← h1, ← h3, Int.natCast_mul, Rat.intCast_mul]; grind⟩
theorem Iz.up {d : Nat} {q : Rat} (h : Iz d q) (k : Nat) : Iz (d * k) q := by
  obtain ⟨z, h1⟩ := h
  exact ⟨z * k, by rw [Rat.intCast_mul, ← h1, Int.natCast_mul, Rat.intCast_mul]; grind⟩
theorem Iz.whole (n : Int) (d : Nat) : Iz d (n : Rat) := ⟨n * d, by rw [Rat.intCast_mul]⟩
theorem Iz.one (d : Nat) : Iz d 1 := Iz.whole 1 d
theorem Iz.zero (d : Nat) : Iz d 0 := Iz.whole 0 d
theorem Iz.sum {d : Nat} : ∀ l : List Rat, (∀ q ∈ l, Iz d q) → Iz d l.sum
  | [], _ => Iz.zero d
  | q :: l, h => by
    rw [List.sum_cons]
    exact (h q (List.mem_cons_self ..)).add (Iz.sum l fun x hx => h x (List.mem_cons_of_mem _ hx))
theorem Iz.bd {d : Nat} {q : Rat} {k : Nat} (h : Iz d q) (h0 : 0 ≤ q) (hk : q ≤ ((k : Int) : Rat)) : Bd d (k * d) q := by
  obtain ⟨z, h1⟩ := h
  refine ⟨z, h1, ?_⟩
  have hd : (0 : Rat) ≤ ((d : Int) : Rat) := by exact_mod_cast Int.natCast_nonneg d
  have a : (0 : Rat) ≤ (z : Rat) := by rw [← h1]; exact Rat.mul_nonneg h0 hd
  have b : (z : Rat) ≤ (((k * d : Nat) : Int) : Rat) := by
    rw [← h1, Int.natCast_mul, Rat.intCast_mul]
    exact Rat.mul_le_mul_of_nonneg_right hk hd
  have a' : (0 : Int) ≤ z := by exact_mod_cast a
  have b' : z ≤ ((k * d : Nat) : Int) := by exact_mod_cast b
  omega
theorem p10_mono {a b : Nat} (h : a ≤ b) : p10 a ≤ p10 b := Nat.pow_le_pow_right (by omega) h
theorem Iz.sz {d : Nat} {q : Rat} {k : Nat} (h : Iz d q) (hd : 0 < d) (h0 : 0 ≤ q) (hk : q ≤ ((k : Int) : Rat)) (h1 : k * d < p10 4000) (h2 : d < p10 4000) : Sz q ∧ numRes q = (nt q, 0) := by
  have hb := h.bd h0 hk
  have hp : p10 4000 ≤ p10 10000 := p10_mono (by omega)
  refine ⟨hb.sz hd (by omega) (by omega), ?_⟩
  obtain ⟨a, b⟩ := hb.parts hd
  exact numRes_ok (by omega) (by omega)

/-- The product of the denominators. -/
def dens : List Rat → Nat | [] => 1 | q :: l => q.den * dens l
theorem dens_pos : ∀ l, 0 < dens l
  | [] => by simp [dens]
  | q :: l => Nat.mul_pos q.den_pos (dens_pos l)
theorem dens_le {B : Nat} : ∀ l : List Rat, (∀ q ∈ l, q.den ≤ B) → dens l ≤ B ^ l.length
  | [], _ => by simp [dens]
  | q :: l, h => by
    rw [List.length_cons, Nat.pow_succ, Nat.mul_comm]
    exact Nat.mul_le_mul (h q (List.mem_cons_self ..)) (dens_le l fun x hx => h x (List.mem_cons_of_mem _ hx))
theorem Iz.self (q : Rat) : Iz q.den q := by
  obtain ⟨z, h1, _⟩ := Bd.self q
  exact ⟨z, h1⟩
theorem dens_mem : ∀ (l : List Rat) (q : Rat), q ∈ l → Iz (dens l) q
  | [], q, h => by simp at h
  | p :: l, q, h => by
    rw [List.mem_cons] at h
    rcases h with rfl | h
    · exact (Iz.self q).up _
    · have := (dens_mem l q h).up p.den
      rw [Nat.mul_comm] at this
      exact this

theorem sum_nonneg : ∀ l : List Rat, (∀ q ∈ l, 0 ≤ q) → 0 ≤ l.sum
  | [], _ => by simp
  | q :: l, h => by
    rw [List.sum_cons]
    have h1 := h q (List.mem_cons_self ..)
    have h2 := sum_nonneg l fun x hx => h x (List.mem_cons_of_mem _ hx)
    grind
theorem psum_le (l : List Rat) (h : ∀ q ∈ l, 0 ≤ q) (k : Nat) : 0 ≤ psum l k ∧ psum l k ≤ l.sum := by
  have e : l.sum = psum l k + (l.drop k).sum := by
    unfold psum
    rw [← List.sum_append, List.take_append_drop]
  have h1 := sum_nonneg (l.take k) fun x hx => h x (List.mem_of_mem_take hx)
  have h2 := sum_nonneg (l.drop k) fun x hx => h x (List.mem_of_mem_drop hx)
  rw [e]
  unfold psum at *
  exact ⟨h1, by grind⟩
theorem mem_le_sum (l : List Rat) (h : ∀ q ∈ l, 0 ≤ q) (q : Rat) (hq : q ∈ l) : q ≤ l.sum := by
  induction l with
  | nil => simp at hq
  | cons p l ih =>
    rw [List.sum_cons]
    have h1 := h p (List.mem_cons_self ..)
    have h2 := sum_nonneg l fun x hx => h x (List.mem_cons_of_mem _ hx)
    rw [List.mem_cons] at hq
    rcases hq with rfl | hq
    · grind
    · have := ih (fun x hx => h x (List.mem_cons_of_mem _ hx)) hq
      grind
theorem sum_le_length (l : List Rat) (h : ∀ q ∈ l, q ≤ 1) : l.sum ≤ ((l.length : Int) : Rat) := by
  induction l with
  | nil => simp
  | cons p l ih =>
    rw [List.sum_cons, List.length_cons, Int.natCast_add, Rat.intCast_add]
    have h1 := h p (List.mem_cons_self ..)
    have h2 := ih fun x hx => h x (List.mem_cons_of_mem _ hx)
    have h3 : (((1 : Nat) : Int) : Rat) = 1 := rfl
    rw [h3]
    grind
theorem psum_iz {d : Nat} (l : List Rat) (h : ∀ q ∈ l, Iz d q) (k : Nat) : Iz d (psum l k) := Iz.sum _ fun x hx => h x (List.mem_of_mem_take hx)

end Go.Proofs.Ytcaeonpjokkjnaa

/- Sizes that the walks of Renew and Mean ask for. Plain. -/
namespace Go.Proofs.Ytcaeonpjokkjnaa

/-- What read asks of lives, in plain words. -/
structure Lv (ps : List Rat) : Prop where
  pos : 1 ≤ ps.length
  len : ps.length ≤ 12
  non : ∀ q ∈ ps, 0 ≤ q
  one : ps.sum = 1
  last : lastQ ps ≠ 0
  den : ∀ q ∈ ps, q.den ≤ 1000000
theorem Lv.le1 {ps : List Rat} (h : Lv ps) (q : Rat) (hq : q ∈ ps) : q ≤ 1 := by
  have := mem_le_sum ps h.non q hq
  rw [h.one] at this
  exact this
theorem p10_add (a b : Nat) : p10 (a + b) = p10 a * p10 b := Nat.pow_add 10 a b
theorem p10_pow (a k : Nat) : p10 a ^ k = p10 (a * k) := (Nat.pow_mul 10 a k).symm
theorem p10_up {a b : Nat} (h : a ≤ b) : p10 a ≤ p10 b := Nat.pow_le_pow_right (by omega) h
theorem p10_lt {a b : Nat} (h : a < b) : p10 a < p10 b := Nat.pow_lt_pow_right (by omega) h
theorem p10_9 : p10 9 = 1000000000 := by decide
theorem small {d j k : Nat} (h : d ≤ p10 j) (hj : j ≤ 3990) (hk : k ≤ 1000000000) : k * d < p10 4000 := by
  have h1 : k * d ≤ p10 9 * p10 j := Nat.mul_le_mul (by rw [p10_9]; exact hk) h
  rw [← p10_add] at h1
  exact Nat.lt_of_le_of_lt h1 (p10_lt (by omega))
theorem Lv.dens {ps : List Rat} (h : Lv ps) : Go.Proofs.Ytcaeonpjokkjnaa.dens ps ≤ p10 72 := by
  refine Nat.le_trans (dens_le (B := 1000000) ps h.den) ?_
  refine Nat.le_trans (Nat.pow_le_pow_right (by omega) h.len) ?_
  have : (1000000 : Nat) = p10 6 := by decide
  rw [this, p10_pow]
  exact Nat.le_refl _
theorem Lv.pow {ps : List Rat} (h : Lv ps) {k : Nat} (hk : k ≤ 42) : Go.Proofs.Ytcaeonpjokkjnaa.dens ps ^ k ≤ p10 3024 := by
  refine Nat.le_trans (Nat.pow_le_pow_left h.dens k) ?_
  rw [p10_pow]
  exact p10_up (by omega)
theorem Iz.fin {d j : Nat} {q : Rat} (h : Iz d q) (hd : 0 < d) (hj : d ≤ p10 j) (hj2 : j ≤ 3990) (h0 : 0 ≤ q) (hk : q ≤ 1000000) : Sz q ∧ numRes q = (nt q, 0) :=
  h.sz (k := 1000000) hd h0 (by exact hk) (small hj hj2 (by omega)) (by have := small (k := 1) hj hj2 (by omega); omega)

theorem Lv.psum {ps : List Rat} (h : Lv ps) (k : Nat) : 0 ≤ psum ps k ∧ psum ps k ≤ 1 ∧ Iz (Go.Proofs.Ytcaeonpjokkjnaa.dens ps) (Go.Proofs.Ytcaeonpjokkjnaa.psum ps k) := by
  have := psum_le ps h.non k
  rw [h.one] at this
  exact ⟨this.1, this.2, psum_iz ps (dens_mem ps) k⟩
theorem Lv.left {ps : List Rat} (h : Lv ps) (k : Nat) : 0 ≤ left ps k ∧ left ps k ≤ 1 ∧ Iz (Go.Proofs.Ytcaeonpjokkjnaa.dens ps) (Go.Proofs.Ytcaeonpjokkjnaa.left ps k) := by
  obtain ⟨h1, h2, h3⟩ := h.psum k
  unfold Go.Proofs.Ytcaeonpjokkjnaa.left
  exact ⟨by grind, by grind, (Iz.one _).sub h3⟩
theorem Lv.above {ps : List Rat} (h : Lv ps) (q : Rat) (hq : q ∈ aboveL ps) : 0 ≤ q ∧ q ≤ 1 ∧ Iz (Go.Proofs.Ytcaeonpjokkjnaa.dens ps) q := by
  obtain ⟨k, rfl⟩ := aboveL_mem hq
  exact h.left k
theorem Lv.time {ps : List Rat} (h : Lv ps) (k : Nat) : 0 ≤ Go.Proofs.Ytcaeonpjokkjnaa.psum (aboveL ps) k ∧ Go.Proofs.Ytcaeonpjokkjnaa.psum (aboveL ps) k ≤ 12 ∧ Iz (Go.Proofs.Ytcaeonpjokkjnaa.dens ps) (Go.Proofs.Ytcaeonpjokkjnaa.psum (aboveL ps) k) := by
  have h1 := psum_le (aboveL ps) (fun q hq => (h.above q hq).1) k
  have h2 := sum_le_length (aboveL ps) (fun q hq => (h.above q hq).2.1)
  rw [aboveL_length] at h2
  have h3 : ((ps.length : Int) : Rat) ≤ ((12 : Int) : Rat) := by
    have := h.len
    exact Rat.intCast_le_intCast.2 (by omega)
  have h4 : ((12 : Int) : Rat) = 12 := rfl
  rw [h4] at h3
  exact ⟨h1.1, by grind, psum_iz _ (fun q hq => (h.above q hq).2.2) k⟩

theorem zip_ok {d e : Nat} : ∀ xs ys : List Rat, (∀ p ∈ xs, 0 ≤ p ∧ Iz d p) → (∀ q ∈ ys, 0 ≤ q ∧ q ≤ 1 ∧ Iz e q) →
    (∀ x ∈ List.zipWith (· * ·) xs ys, 0 ≤ x ∧ Iz (d * e) x) ∧ (List.zipWith (· * ·) xs ys).sum ≤ xs.sum
  | [], ys, _, _ => by simp
  | x :: xs, [], h, _ => by
    refine ⟨by simp, ?_⟩
    have := sum_nonneg (x :: xs) (fun q hq => (h q hq).1)
    simpa using this
  | x :: xs, y :: ys, h1, h2 => by
    obtain ⟨a, b⟩ := zip_ok xs ys (fun p hp => h1 p (List.mem_cons_of_mem _ hp)) (fun p hp => h2 p (List.mem_cons_of_mem _ hp))
    obtain ⟨p0, p1⟩ := h1 x (List.mem_cons_self ..)
    obtain ⟨q0, q1, q2⟩ := h2 y (List.mem_cons_self ..)
    rw [List.zipWith_cons_cons]
    constructor
    · intro z hz
      rw [List.mem_cons] at hz
      rcases hz with rfl | hz
      · exact ⟨Rat.mul_nonneg p0 q0, p1.mul q2⟩
      · exact a z hz
    · rw [List.sum_cons, List.sum_cons]
      have : x * y ≤ x * 1 := Rat.mul_le_mul_of_nonneg_left q1 p0
      grind

theorem Lv.us {ps : List Rat} (h : Lv ps) : ∀ k, ∀ q ∈ uL ps k, 0 ≤ q ∧ q ≤ 1 ∧ Iz (Go.Proofs.Ytcaeonpjokkjnaa.dens ps ^ k) q
  | 0 => fun q hq => by
    simp [uL] at hq
    subst hq
    exact ⟨by decide, by decide, Iz.one _⟩
  | k + 1 => fun q hq => by
    have ih := Lv.us h k
    simp only [uL, List.mem_append, List.mem_singleton] at hq
    rcases hq with hq | rfl
    · obtain ⟨a, b, c⟩ := ih q hq
      exact ⟨a, b, by rw [Nat.pow_succ]; exact c.up _⟩
    · obtain ⟨a, b⟩ := zip_ok (d := Go.Proofs.Ytcaeonpjokkjnaa.dens ps) (e := Go.Proofs.Ytcaeonpjokkjnaa.dens ps ^ k) ps (uL ps k).reverse (fun p hp => ⟨h.non p hp, dens_mem ps p hp⟩) (fun q hq => ih q (List.mem_reverse.1 hq))
      rw [h.one] at b
      refine ⟨sum_nonneg _ fun x hx => (a x hx).1, b, ?_⟩
      rw [Nat.pow_succ, Nat.mul_comm]
      exact Iz.sum _ fun x hx => (a x hx).2
theorem Lv.dots {ps : List Rat} (h : Lv ps) (k j : Nat) : 0 ≤ pdot ps (uL ps k).reverse j ∧ pdot ps (uL ps k).reverse j ≤ 1 ∧ Iz (Go.Proofs.Ytcaeonpjokkjnaa.dens ps ^ (k + 1)) (pdot ps (uL ps k).reverse j) := by
  obtain ⟨a, b⟩ := zip_ok (d := Go.Proofs.Ytcaeonpjokkjnaa.dens ps) (e := Go.Proofs.Ytcaeonpjokkjnaa.dens ps ^ k) ps (uL ps k).reverse (fun p hp => ⟨h.non p hp, dens_mem ps p hp⟩) (fun q hq => h.us k q (List.mem_reverse.1 hq))
  rw [h.one] at b
  have c := psum_le _ (fun x hx => (a x hx).1) j
  refine ⟨c.1, Rat.le_trans c.2 b, ?_⟩
  rw [Nat.pow_succ, Nat.mul_comm]
  exact psum_iz _ (fun x hx => (a x hx).2) j

theorem le_mil {q : Rat} (h : q ≤ 12) : q ≤ 1000000 := by grind
theorem le_mil1 {q : Rat} (h : q ≤ 1) : q ≤ 1000000 := by grind
theorem Lv.fin {ps : List Rat} (h : Lv ps) {k : Nat} {q : Rat} (hk : k ≤ 42) (hi : Iz (Go.Proofs.Ytcaeonpjokkjnaa.dens ps ^ k) q) (h0 : 0 ≤ q) (h1 : q ≤ 12) : Sz q ∧ numRes q = (nt q, 0) :=
  hi.fin (Nat.pow_pos (dens_pos ps)) (h.pow hk) (by omega) h0 (le_mil h1)
theorem le_12 {q : Rat} (h : q ≤ 1) : q ≤ 12 := by grind
theorem Lv.fin1 {ps : List Rat} (h : Lv ps) {q : Rat} (hi : Iz (Go.Proofs.Ytcaeonpjokkjnaa.dens ps) q) (h0 : 0 ≤ q) (h1 : q ≤ 12) : Sz q ∧ numRes q = (nt q, 0) :=
  h.fin (k := 1) (by omega) (by rw [Nat.pow_one]; exact hi) h0 h1

theorem Lv.renew {ps : List Rat} (h : Lv ps) {n : Nat} (hn : n ≤ 40) : RenewSz ps n where
  dots k j hk := by
    obtain ⟨a, b, c⟩ := h.dots k j
    exact (h.fin (by omega) c a (le_12 b)).1
  own q hq := (h.fin1 (dens_mem ps q hq) (h.non q hq) (le_12 (h.le1 q hq))).1
  us q hq := by
    obtain ⟨a, b, c⟩ := h.us n q hq
    exact (h.fin (by omega) c a (le_12 b)).1
  mul p hp q hq := by
    obtain ⟨a, b, c⟩ := h.us n q hq
    have hi := (dens_mem ps p hp).mul c
    rw [Nat.mul_comm, ← Nat.pow_succ] at hi
    have : p * q ≤ p * 1 := Rat.mul_le_mul_of_nonneg_left b (h.non p hp)
    have h1 := h.le1 p hp
    exact (h.fin (by omega) hi (Rat.mul_nonneg (h.non p hp) a) (le_12 (by grind))).1
  num q hq := by
    obtain ⟨a, b, c⟩ := h.us n q hq
    exact (h.fin (by omega) c a (le_12 b)).2
theorem meanQ_psum (ps : List Rat) : meanQ ps = psum (aboveL ps) ps.length := by
  unfold meanQ psum
  rw [List.take_of_length_le (by rw [aboveL_length]; exact Nat.le_refl _)]
theorem Lv.mean {ps : List Rat} (h : Lv ps) : MeanSz ps where
  left k := by
    obtain ⟨a, b, c⟩ := h.left k
    exact (h.fin1 c a (le_12 b)).1
  own q hq := (h.fin1 (dens_mem ps q hq) (h.non q hq) (le_12 (h.le1 q hq))).1
  sums k := by
    obtain ⟨a, b, c⟩ := h.time k
    exact (h.fin1 c a b).1
  mean := by
    rw [meanQ_psum]
    obtain ⟨a, b, c⟩ := h.time ps.length
    exact (h.fin1 c a b).1
  num := by
    rw [meanQ_psum]
    obtain ⟨a, b, c⟩ := h.time ps.length
    exact (h.fin1 c a b).2

end Go.Proofs.Ytcaeonpjokkjnaa

/- Sizes that the walk of read asks for, out of the texts' sizes. Plain. -/
namespace Go.Proofs.Ytcaeonpjokkjnaa
open Go Go.RowKit Go.Proofs

theorem dens_dvd : ∀ (l : List Rat) (q : Rat), q ∈ l → ∃ k, dens l = q.den * k
  | [], q, h => by simp at h
  | p :: l, q, h => by
    rw [List.mem_cons] at h
    rcases h with rfl | h
    · exact ⟨dens l, rfl⟩
    · obtain ⟨k, hk⟩ := dens_dvd l q h
      exact ⟨p.den * k, by simp only [dens]; rw [hk, Nat.mul_left_comm]⟩
theorem Bd.sum {d m : Nat} : ∀ l : List Rat, (∀ q ∈ l, Bd d m q) → Bd d (l.length * m) l.sum
  | [], _ => by simpa using Bd.zero d
  | q :: l, h => by
    have := (h q (List.mem_cons_self ..)).add (Bd.sum l fun x hx => h x (List.mem_cons_of_mem _ hx))
    rw [List.sum_cons, List.length_cons, Nat.add_mul, Nat.one_mul, Nat.add_comm]
    exact this
theorem bd_mem {l : List Rat} {q : Rat} {M : Nat} (h : q ∈ l) (hM : (rn q).natAbs ≤ M) : Bd (dens l) (M * dens l) q := by
  obtain ⟨k, hk⟩ := dens_dvd l q h
  have h1 := (Bd.self q).up k
  have e : (rd q).natAbs = q.den := by unfold rd; exact Int.natAbs_natCast _
  rw [e, ← hk] at h1
  refine h1.mono (Nat.mul_le_mul hM ?_)
  rw [hk]
  exact Nat.le_mul_of_pos_left _ q.den_pos

/-- A short text's number. -/
theorem parse_small {s : ByteArray} (h : parseOK s) (hs : s.size ≤ 40) : (rn (parseQ s)).natAbs ≤ p10 40 ∧ (parseQ s).den ≤ p10 40 := by
  constructor
  · rw [parse_rn h, natAbs_pz]
    have h1 := rv_L h.1.1 (bare s).size
    have h2 := bare_size s
    have h3 : p10 (bare s).size ≤ p10 40 := p10_up (by omega)
    unfold pn
    omega
  · have h0 := parse_rd h
    have e : ((parseQ s).den : Int) = pden s := h0
    unfold pden at e
    split at e
    · rename_i hst
      have h1 := rv_L (h.2.1 hst).1.1 (under s).size
      have h2 := under_size s
      have h3 : p10 (under s).size ≤ p10 40 := p10_up (by omega)
      have e' : (parseQ s).den = pd s := by exact_mod_cast e
      unfold pd at e'
      omega
    · have e' : (parseQ s).den = 1 := by exact_mod_cast e
      have h3 : p10 0 ≤ p10 40 := p10_up (by omega)
      have : p10 0 = 1 := rfl
      omega

theorem dens_small {ss : List ByteArray} (hok : allOK ss) (hs : ∀ s ∈ ss, s.size ≤ 40) (h12 : ss.length ≤ 12) : dens (ss.map parseQ) ≤ p10 480 := by
  refine Nat.le_trans (dens_le (B := p10 40) _ fun q hq => ?_) ?_
  · obtain ⟨s, h1, rfl⟩ := List.mem_map.1 hq
    exact (parse_small (hok s h1) (hs s h1)).2
  · rw [List.length_map]
    refine Nat.le_trans (Nat.pow_le_pow_right (Nat.pow_pos (by omega)) h12) ?_
    exact Nat.le_of_eq (p10_pow 40 12)
theorem psum_sz {ss : List ByteArray} (hok : allOK ss) (hs : ∀ s ∈ ss, s.size ≤ 40) (h12 : ss.length ≤ 12) (k : Nat) : Sz (psum (ss.map parseQ) k) := by
  have hb : Bd (dens (ss.map parseQ)) (((ss.map parseQ).take k).length * (p10 40 * dens (ss.map parseQ))) (psum (ss.map parseQ) k) := Bd.sum _ fun q hq => by
    have hq' := List.mem_of_mem_take hq
    obtain ⟨s, h1, rfl⟩ := List.mem_map.1 hq'
    exact bd_mem hq' (parse_small (hok s h1) (hs s h1)).1
  have hd := dens_small hok hs h12
  have hl : ((ss.map parseQ).take k).length ≤ p10 9 := by
    rw [List.length_take, List.length_map, p10_9]; omega
  refine hb.sz (dens_pos _) ?_ (Nat.lt_of_le_of_lt hd (p10_lt (by omega)))
  refine Nat.lt_of_le_of_lt (Nat.mul_le_mul hl (Nat.mul_le_mul (Nat.le_refl _) hd)) ?_
  rw [← p10_add, ← p10_add]
  exact p10_lt (by omega)
theorem own_sz {ss : List ByteArray} (hok : allOK ss) (hs : ∀ s ∈ ss, s.size ≤ 40) : ∀ q ∈ ss.map parseQ, Sz q := fun q hq => by
  obtain ⟨s, h1, rfl⟩ := List.mem_map.1 hq
  obtain ⟨a, b⟩ := parse_small (hok s h1) (hs s h1)
  have e : (rd (parseQ s)).natAbs = (parseQ s).den := by unfold rd; exact Int.natAbs_natCast _
  refine (Bd.self (parseQ s)).sz (by rw [e]; exact (parseQ s).den_pos) (Nat.lt_of_le_of_lt a (p10_lt (by omega))) (by rw [e]; exact Nat.lt_of_le_of_lt b (p10_lt (by omega)))

/-- What read answers. -/
theorem read_2 (ao : Option Addr) (c : Nat) (ss : List ByteArray) (w : World) (h : SL w ao ss) (hn : ss.length ≤ 1000000000) (hs : ∀ s ∈ ss, s.size ≤ 40) (hok : ¬ allOK ss) :
    Calls Try.prog 28 #[.slice ao ss.length c] w (RetErr w 2) := read_form ao c ss w h hn (fun s hh => by have := hs s hh; omega) hok
theorem read_1 (ao : Option Addr) (c : Nat) (ss : List ByteArray) (w : World) (h : SL w ao ss) (hn : ss.length ≤ 1000000000) (hs : ∀ s ∈ ss, s.size ≤ 40) (hok : allOK ss) (hbad : ¬ livesGood (ss.map parseQ)) :
    Calls Try.prog 28 #[.slice ao ss.length c] w (RetErr w 1) := read_len2 ao c ss w h hn (fun s hh => by have := hs s hh; omega) hok (fun h12 => psum_sz hok hs h12) (own_sz hok hs) hbad
theorem read_0 (ao : Option Addr) (c : Nat) (ss : List ByteArray) (w : World) (h : SL w ao ss) (hs : ∀ s ∈ ss, s.size ≤ 40) (hok : allOK ss) (hg : livesGood (ss.map parseQ)) :
    Calls Try.prog 28 #[.slice ao ss.length c] w (RetLives w (ss.map parseQ)) := by
  have h12 := hg.2.1
  rw [List.length_map] at h12
  exact read_ok ao c ss w h (fun s hh => by have := hs s hh; omega) hok (psum_sz hok hs h12) (own_sz hok hs) hg

theorem fits_den {q : Rat} {k : Nat} (h : fits q k = true) : q.den < p10 k ∧ (rn q).natAbs < p10 k := by
  unfold fits at h
  rw [Bool.and_eq_true] at h
  have a := of_decide_eq_true h.1
  have b := of_decide_eq_true h.2
  have e : (rd q).natAbs = q.den := by unfold rd; exact Int.natAbs_natCast _
  have lt : ∀ n : Nat, (dec n).size ≤ k → n < p10 k := fun n hn => by
    rw [dec_size] at hn
    split at hn
    · rename_i h0; rw [h0]; exact Nat.pow_pos (by omega)
    · exact Nat.lt_of_lt_of_le (lt_pow_L two_le_10 n) (Nat.pow_le_pow_right (by omega) hn)
  constructor
  · have := lt (rd q).natAbs b
    rw [e] at this
    exact this
  · exact lt _ a
theorem rsg_zero {p q : Rat} : rsg p q = 0 ↔ p = q := by
  unfold rsg rn rd
  rw [show sg (p.num * (q.den : Int) - q.num * (p.den : Int)) = 0 ↔ p.num * (q.den : Int) = q.num * (p.den : Int) by unfold sg; split <;> (try split) <;> omega]
  constructor
  · intro h
    have hp : ((p.den : Int) : Rat) ≠ 0 := by exact_mod_cast p.den_nz
    have hq : ((q.den : Int) : Rat) ≠ 0 := by exact_mod_cast q.den_nz
    have h1 := Iz.self p
    have e1 := rat_eq p
    have e2 := rat_eq q
    unfold rn rd at e1 e2
    rw [← e1, ← e2]
    exact (Rat.divInt_eq_divInt_iff (by exact_mod_cast p.den_nz) (by exact_mod_cast q.den_nz)).2 h
  · rintro rfl; rfl
theorem Lv.of {ps : List Rat} (h : livesGood ps) : Lv ps where
  pos := h.1
  len := h.2.1
  non q hq := by
    have := (h.2.2.2.2 q hq).1
    have h0 : 0 ≤ q.num := by
      have : 0 ≤ sg q.num := this
      unfold sg at this
      split at this <;> omega
    exact Rat.num_nonneg.1 h0
  one := rsg_zero.1 h.2.2.2.1
  last := fun e => h.2.2.1 (by rw [e]; rfl)
  den q hq := by
    have := (fits_den (h.2.2.2.2 q hq).2).1
    have e : p10 6 = 1000000 := by decide
    omega

end Go.Proofs.Ytcaeonpjokkjnaa
