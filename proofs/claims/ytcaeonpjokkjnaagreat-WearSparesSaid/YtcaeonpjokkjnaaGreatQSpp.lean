/- Spp -/
import Derived.Test.YtcaeonpjokkjnaaGreatQRtp
import Derived.Test.YtcaeonpjokkjnaaGreatQQs
set_option linter.unusedVariables false
/- Sizes of spares. Plain. -/
namespace Go.Proofs.YtcaeonpjokkjnaaGreat
open Go

theorem Lv.sp {ps : List Rat} (h : Lv ps) (n : Nat) : ∀ k, ∀ q ∈ spL ps n k, 0 ≤ q ∧ q ≤ 1 ∧ Iz (Go.Proofs.YtcaeonpjokkjnaaGreat.dens ps ^ k) q
  | 0 => fun q hq => by
    rw [spL, List.mem_cons, List.mem_replicate] at hq
    rcases hq with rfl | ⟨_, rfl⟩
    · exact ⟨by decide, by decide, Iz.one _⟩
    · exact ⟨by decide, by decide, Iz.zero _⟩
  | k + 1 => fun q hq => by
    have ih := Lv.sp h n k
    rw [spL, List.mem_map] at hq
    obtain ⟨i, _, rfl⟩ := hq
    obtain ⟨a, b⟩ := zip_ok (d := Go.Proofs.YtcaeonpjokkjnaaGreat.dens ps) (e := Go.Proofs.YtcaeonpjokkjnaaGreat.dens ps ^ k) ps ((spL ps n k).take i).reverse (fun p hp => ⟨h.non p hp, dens_mem ps p hp⟩) (fun q hq => ih q (List.mem_of_mem_take (List.mem_reverse.1 hq)))
    rw [h.one] at b
    refine ⟨sum_nonneg _ fun x hx => (a x hx).1, b, ?_⟩
    rw [Nat.pow_succ, Nat.mul_comm]
    exact Iz.sum _ fun x hx => (a x hx).2
theorem Lv.spdots {ps : List Rat} (h : Lv ps) (n k i j : Nat) : 0 ≤ pdot ps ((spL ps n k).take i).reverse j ∧ pdot ps ((spL ps n k).take i).reverse j ≤ 1 ∧ Iz (Go.Proofs.YtcaeonpjokkjnaaGreat.dens ps ^ (k + 1)) (pdot ps ((spL ps n k).take i).reverse j) := by
  obtain ⟨a, b⟩ := zip_ok (d := Go.Proofs.YtcaeonpjokkjnaaGreat.dens ps) (e := Go.Proofs.YtcaeonpjokkjnaaGreat.dens ps ^ k) ps ((spL ps n k).take i).reverse (fun p hp => ⟨h.non p hp, dens_mem ps p hp⟩) (fun q hq => h.sp n k q (List.mem_of_mem_take (List.mem_reverse.1 hq)))
  rw [h.one] at b
  have c := psum_le _ (fun x hx => (a x hx).1) j
  refine ⟨c.1, Rat.le_trans c.2 b, ?_⟩
  rw [Nat.pow_succ, Nat.mul_comm]
  exact psum_iz _ (fun x hx => (a x hx).2) j
theorem le_41 {n : Nat} (hn : n ≤ 40) {q : Rat} (h : q ≤ (((n + 1 : Nat) : Int) : Rat)) : q ≤ 1000000 := by
  have h2 : (((n + 1 : Nat) : Int) : Rat) ≤ ((1000000 : Int) : Rat) := Rat.intCast_le_intCast.2 (by omega)
  exact Rat.le_trans h h2
theorem Lv.spsum {ps : List Rat} (h : Lv ps) {n k : Nat} (hn : n ≤ 40) (j : Nat) : 0 ≤ Go.Proofs.YtcaeonpjokkjnaaGreat.psum (spL ps n k) j ∧ Go.Proofs.YtcaeonpjokkjnaaGreat.psum (spL ps n k) j ≤ 1000000 ∧ Iz (Go.Proofs.YtcaeonpjokkjnaaGreat.dens ps ^ k) (Go.Proofs.YtcaeonpjokkjnaaGreat.psum (spL ps n k) j) := by
  have a := psum_le (spL ps n k) (fun q hq => (h.sp n k q hq).1) j
  have b := sum_le_length (spL ps n k) (fun q hq => (h.sp n k q hq).2.1)
  rw [spL_length] at b
  exact ⟨a.1, le_41 hn (Rat.le_trans a.2 b), psum_iz _ (fun q hq => (h.sp n k q hq).2.2) j⟩
theorem psum_full (l : List Rat) : Go.Proofs.YtcaeonpjokkjnaaGreat.psum l l.length = l.sum := by
  unfold Go.Proofs.YtcaeonpjokkjnaaGreat.psum
  rw [List.take_of_length_le (Nat.le_refl _)]

theorem Lv.sparesSz {ps : List Rat} (h : Lv ps) {n k : Nat} (hn : n ≤ 40) (hk : k ≤ 40) : SparesSz ps n k where
  own := h.mean.own
  all t ht q hq := by
    obtain ⟨a, b, c⟩ := h.sp n t q hq
    exact (h.fin (by omega) c a (le_12 b)).1
  dots t i j ht := by
    obtain ⟨a, b, c⟩ := h.spdots n t i j
    exact (h.fin (by omega) c a (le_12 b)).1
  mul t ht p hp q hq := by
    obtain ⟨a, b, c⟩ := h.sp n t q hq
    have hi := (dens_mem ps p hp).mul c
    rw [Nat.mul_comm, ← Nat.pow_succ] at hi
    have : p * q ≤ p * 1 := Rat.mul_le_mul_of_nonneg_left b (h.non p hp)
    have h1 := h.le1 p hp
    exact (h.fin (by omega) hi (Rat.mul_nonneg (h.non p hp) a) (le_12 (by grind))).1
  sums j := by
    obtain ⟨a, b, c⟩ := h.spsum (k := k) hn j
    exact (c.fin (Nat.pow_pos (dens_pos ps)) (h.pow (by omega)) (by omega) a b).1
  last := by
    obtain ⟨a, b, c⟩ := h.spsum (k := k) hn (spL ps n k).length
    rw [psum_full] at a b c
    exact (c.fin (Nat.pow_pos (dens_pos ps)) (h.pow (by omega)) (by omega) a b).1
  num := by
    obtain ⟨a, b, c⟩ := h.spsum (k := k) hn (spL ps n k).length
    rw [psum_full] at a b c
    exact (c.fin (Nat.pow_pos (dens_pos ps)) (h.pow (by omega)) (by omega) a b).2
/-- The parts are short. -/
theorem Lv.sp4 {ps : List Rat} (h : Lv ps) {n k : Nat} (hk : k ≤ 40) : ∀ q ∈ spL ps n k, Short4 q := fun q hq => by
  obtain ⟨a, b, c⟩ := h.sp n k q hq
  exact c.s4 (Nat.pow_pos (dens_pos ps)) (h.pow (by omega)) (by omega) a (le_2m b)
theorem Lv.spsum4 {ps : List Rat} (h : Lv ps) {n k : Nat} (hn : n ≤ 40) (hk : k ≤ 40) : Short4 (spL ps n k).sum := by
  obtain ⟨a, b, c⟩ := h.spsum (k := k) hn (spL ps n k).length
  rw [psum_full] at a b c
  exact c.s4 (Nat.pow_pos (dens_pos ps)) (h.pow (by omega)) (by omega) a (by grind)

end Go.Proofs.YtcaeonpjokkjnaaGreat
