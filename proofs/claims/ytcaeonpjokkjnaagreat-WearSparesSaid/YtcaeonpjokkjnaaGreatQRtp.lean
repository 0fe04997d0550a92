/- Rtp -/
import Derived.Test.YtcaeonpjokkjnaaGreatQWs
import Derived.Test.YtcaeonpjokkjnaaGreatQYj
import Derived.Test.YtcaeonpjokkjnaaGreatQYn
set_option linter.unusedVariables false
/- Sizes that the reference's walks ask for. Plain. -/
namespace Go.Proofs.YtcaeonpjokkjnaaGreat
open Go

theorem Iz.s4 {d j : Nat} {q : Rat} (h : Iz d q) (hd : 0 < d) (hj : d ≤ p10 j) (hj2 : j ≤ 3990) (h0 : 0 ≤ q) (hk : q ≤ 2000000) : Short4 q := by
  obtain ⟨a, b⟩ := (h.bd (k := 2000000) h0 (by exact hk)).parts hd
  have h1 := small (k := 2000000) hj hj2 (by omega)
  have h2 := small (k := 1) hj hj2 (by omega)
  exact ⟨by omega, by omega⟩
theorem le_2m {q : Rat} (h : q ≤ 1) : q ≤ 2000000 := by grind
theorem Lv.left4 {ps : List Rat} (h : Lv ps) (j : Nat) : Short4 (Go.Proofs.YtcaeonpjokkjnaaGreat.left ps j) := by
  obtain ⟨a, b, c⟩ := h.left j
  exact c.s4 (dens_pos ps) h.dens (by omega) a (le_2m b)
theorem Lv.own4 {ps : List Rat} (h : Lv ps) : ∀ p ∈ ps, Short4 p := fun p hp =>
  (Iz.self p).s4 p.den_pos (mil_p10 (h.den p hp)) (by omega) (h.non p hp) (le_2m (h.le1 p hp))
theorem Cs.s4 {c : Rat} (h : Cs c) : Short4 c := (Iz.self c).s4 c.den_pos (mil_p10 h.den) (by omega) (Rat.le_of_lt h.pos) (by have := h.le; grind)
theorem Lv.timepos {ps : List Rat} (h : Lv ps) (k : Nat) : 0 < Go.Proofs.YtcaeonpjokkjnaaGreat.psum (aboveL ps) (k + 1) := by
  have := h.time1 k
  grind

/-- A quotient whose divisor is at least some lesser part. -/
theorem Iz.quot2 {d e : Nat} {p q : Rat} (hp : Iz d p) (hq : Iz e q) (h0 : 0 < q) (k : Nat) (hk : q ≤ ((k : Int) : Rat)) (he : 0 < e) : ∃ n : Nat, 0 < n ∧ n ≤ k * e ∧ Iz (d * n) (p / q) := by
  obtain ⟨z, hz⟩ := hp
  obtain ⟨y, hy⟩ := hq
  have hD : (0 : Rat) < ((e : Int) : Rat) := by exact_mod_cast he
  have hy0 : (0 : Rat) < (y : Rat) := by rw [← hy]; exact Rat.mul_pos h0 hD
  have hy1 : 0 < y := by exact_mod_cast hy0
  have hyb : y ≤ (k : Int) * (e : Int) := by
    have : (y : Rat) ≤ (((k : Int) * (e : Int) : Int) : Rat) := by
      rw [← hy, Rat.intCast_mul]
      exact Rat.mul_le_mul_of_nonneg_right hk (Rat.le_of_lt hD)
    exact Rat.intCast_le_intCast.1 this
  obtain ⟨n, rfl⟩ : ∃ n : Nat, y = n := ⟨y.toNat, by omega⟩
  refine ⟨n, by omega, by exact_mod_cast hyb, z * e, ?_⟩
  have hq0 : q ≠ 0 := by intro h; rw [h] at h0; exact absurd h0 (by decide)
  have hd : p / q * q = p := Rat.div_mul_cancel hq0
  rw [Int.natCast_mul, Rat.intCast_mul, Rat.intCast_mul, ← hz, ← hy]
  grind
theorem Lv.rate4 {ps : List Rat} (h : Lv ps) {c0 c1 : Rat} (h0 : Cs c0) (h1 : Cs c1) (k : Nat) : Short4 (rateQ ps c0 c1 k) := by
  obtain ⟨a, b, c⟩ := h.cost h0 h1 k
  obtain ⟨d, e⟩ := Cs.dens h h0 h1
  obtain ⟨a2, b2, c2⟩ := h.time (k + 1)
  have t0 := h.timepos k
  have t1 := h.time1 k
  obtain ⟨n, n0, n1, hI⟩ := c.quot2 c2 t0 12 (by exact b2) (dens_pos ps)
  have ht0 : Go.Proofs.YtcaeonpjokkjnaaGreat.psum (aboveL ps) (k + 1) ≠ 0 := by intro e; rw [e] at t1; exact absurd t1 (by decide)
  have hr : rateQ ps c0 c1 k * Go.Proofs.YtcaeonpjokkjnaaGreat.psum (aboveL ps) (k + 1) = costQ ps c0 c1 k := by unfold rateQ; exact Rat.div_mul_cancel ht0
  have hr0 : 0 ≤ rateQ ps c0 c1 k := by
    unfold rateQ
    rw [Rat.div_def]
    exact Rat.mul_nonneg a (Rat.le_of_lt (Rat.inv_pos.2 (by grind)))
  have hr1 : rateQ ps c0 c1 k ≤ 2000000 := by
    have : rateQ ps c0 c1 k * 1 ≤ rateQ ps c0 c1 k * Go.Proofs.YtcaeonpjokkjnaaGreat.psum (aboveL ps) (k + 1) := Rat.mul_le_mul_of_nonneg_left t1 hr0
    rw [hr] at this
    grind
  have hn : n ≤ p10 74 := by
    have h2 : (12 : Nat) * Go.Proofs.YtcaeonpjokkjnaaGreat.dens ps ≤ p10 2 * p10 72 := Nat.mul_le_mul (by decide) h.dens
    rw [← p10_add] at h2
    exact Nat.le_trans n1 h2
  exact Iz.s4 (j := 84 + 74) hI (Nat.mul_pos e n0) (mul_p10 d hn) (by omega) hr0 hr1
theorem Lv.rateSt {ps : List Rat} (h : Lv ps) {c0 c1 : Rat} (h0 : Cs c0) (h1 : Cs c1) : RateSt ps c0 c1 where
  one := h.one
  own := h.own4
  left := h.left4
  planned := h0.s4
  failed := h1.s4
  time := h.timepos
  rate := h.rate4 h0 h1

end Go.Proofs.YtcaeonpjokkjnaaGreat
