/- Rmp Spp -/
import Derived.Test.YtcaeonpjokkjnaaKXa
import Derived.Test.YtcaeonpjokkjnaaKXb
set_option linter.unusedVariables false
/- Sizes of means, ages and hazards. Plain. -/
namespace Go.Proofs.Ytcaeonpjokkjnaa
open Go

theorem Lv.left_sum {ps : List Rat} (h : Lv ps) (k : Nat) : Go.Proofs.Ytcaeonpjokkjnaa.left ps k = (ps.drop k).sum := (drop_left h.one k).symm
theorem Lv.nth_le {ps : List Rat} (h : Lv ps) {k : Nat} (hk : k < ps.length) : 0 ≤ nth ps k ∧ nth ps k ≤ Go.Proofs.Ytcaeonpjokkjnaa.left ps k := by
  have e : nth ps k = ps[k] := by unfold nth; rw [List.getElem?_eq_getElem hk]; rfl
  have hm : ps[k] ∈ ps.drop k := by
    rw [List.drop_eq_getElem_cons hk]; exact List.mem_cons_self ..
  rw [h.left_sum, e]
  exact ⟨h.non _ (List.getElem_mem hk), mem_le_sum _ (fun q hq => h.non q (List.mem_of_mem_drop hq)) _ hm⟩
theorem Lv.left_pos {ps : List Rat} (h : Lv ps) {k : Nat} (hk : k < ps.length) : 0 < Go.Proofs.Ytcaeonpjokkjnaa.left ps k := by
  have hl : ps.length - 1 < ps.length := by omega
  have e : lastQ ps = ps[ps.length - 1] := by unfold lastQ; rw [List.getElem?_eq_getElem hl]; rfl
  have hm : lastQ ps ∈ ps.drop k := by
    rw [e]
    exact List.mem_drop_iff_getElem.2 ⟨ps.length - 1 - k, by omega, by congr 1; omega⟩
  have h1 := mem_le_sum _ (fun q hq => h.non q (List.mem_of_mem_drop hq)) _ hm
  have h2 := h.non _ (List.mem_of_mem_drop hm)
  have h3 := h.last
  rw [h.left_sum]
  grind
theorem Lv.mean_ge {ps : List Rat} (h : Lv ps) : 1 ≤ meanQ ps ∧ meanQ ps ≤ 12 ∧ Iz (Go.Proofs.Ytcaeonpjokkjnaa.dens ps) (meanQ ps) := by
  have hp := h.pos
  obtain ⟨a, b, c⟩ := h.time ps.length
  have t := h.time1 (ps.length - 1)
  rw [show ps.length - 1 + 1 = ps.length by omega] at t
  rw [meanQ_psum]
  exact ⟨t, b, c⟩

theorem Lv.quot {ps : List Rat} (h : Lv ps) {p q : Rat} (hp : Iz (Go.Proofs.Ytcaeonpjokkjnaa.dens ps) p) (hq : Iz (Go.Proofs.Ytcaeonpjokkjnaa.dens ps) q) (p0 : 0 ≤ p) (q0 : 0 < q) (hpq : p ≤ q) (hk : q ≤ 12) :
    Sz (p / q) ∧ numRes (p / q) = (nt (p / q), 0) ∧ Short4 (p / q) := by
  obtain ⟨n, n0, n1, hI⟩ := hp.quot2 hq q0 12 (by exact hk) (dens_pos ps)
  have q1 : q ≠ 0 := by intro e; rw [e] at q0; exact absurd q0 (by decide)
  have hr : p / q * q = p := Rat.div_mul_cancel q1
  have hr0 : 0 ≤ p / q := by
    rw [Rat.div_def]
    exact Rat.mul_nonneg p0 (Rat.le_of_lt (Rat.inv_pos.2 q0))
  have hr1 : p / q ≤ 1 := by
    refine Rat.not_lt.1 fun hc => ?_
    have : 1 * q < p / q * q := Rat.mul_lt_mul_of_pos_right hc q0
    rw [hr] at this
    grind
  have hn : n ≤ p10 74 := by
    have h2 : (12 : Nat) * Go.Proofs.Ytcaeonpjokkjnaa.dens ps ≤ p10 2 * p10 72 := Nat.mul_le_mul (by decide) h.dens
    rw [← p10_add] at h2
    exact Nat.le_trans n1 h2
  have hd := Nat.mul_pos (dens_pos ps) n0
  have hj := mul_p10 h.dens hn
  exact ⟨(hI.fin9 hd hj (by omega) hr0 (le_2m hr1)).1, (hI.fin9 hd hj (by omega) hr0 (le_2m hr1)).2, hI.s4 hd hj (by omega) hr0 (le_2m hr1)⟩

theorem Lv.left_mean {ps : List Rat} (h : Lv ps) (k : Nat) : Sz (Go.Proofs.Ytcaeonpjokkjnaa.left ps k / meanQ ps) ∧ numRes (Go.Proofs.Ytcaeonpjokkjnaa.left ps k / meanQ ps) = (nt (Go.Proofs.Ytcaeonpjokkjnaa.left ps k / meanQ ps), 0) ∧ Short4 (Go.Proofs.Ytcaeonpjokkjnaa.left ps k / meanQ ps) := by
  obtain ⟨a, b, c⟩ := h.left k
  obtain ⟨m1, m2, m3⟩ := h.mean_ge
  exact h.quot c m3 a (by grind) (by grind) m2
theorem Lv.haz {ps : List Rat} (h : Lv ps) {k : Nat} (hk : k < ps.length) : Sz (hazQ ps k) ∧ numRes (hazQ ps k) = (nt (hazQ ps k), 0) ∧ Short4 (hazQ ps k) := by
  obtain ⟨a, b, c⟩ := h.left k
  obtain ⟨p0, p1⟩ := h.nth_le hk
  have e : nth ps k ∈ ps := by unfold nth; rw [List.getElem?_eq_getElem hk]; exact List.getElem_mem hk
  exact h.quot (dens_mem ps _ e) c p0 (h.left_pos hk) p1 (le_12 b)
theorem Lv.agesOK {ps : List Rat} (h : Lv ps) : ∀ q ∈ agesL ps, Sz q ∧ numRes q = (nt q, 0) ∧ Short4 q := fun q hq => by
  unfold agesL aboveL at hq
  rw [List.map_map] at hq
  obtain ⟨k, _, rfl⟩ := List.mem_map.1 hq
  exact h.left_mean k
theorem Lv.hazOK {ps : List Rat} (h : Lv ps) : ∀ q ∈ hazL ps, Sz q ∧ numRes q = (nt q, 0) ∧ Short4 q := fun q hq => by
  obtain ⟨k, hk, rfl⟩ := List.mem_map.1 hq
  exact h.haz (List.mem_range.1 hk)
theorem Lv.mean4 {ps : List Rat} (h : Lv ps) : Short4 (meanQ ps) := by
  obtain ⟨m1, m2, m3⟩ := h.mean_ge
  exact m3.s4 (dens_pos ps) h.dens (by omega) (by grind) (by grind)
theorem Lv.ageSz {ps : List Rat} (h : Lv ps) : AgeSz ps where
  left := h.mean.left
  own := h.mean.own
  sums := h.mean.sums
  mean := h.mean.mean
  mpos := rnum_pos.2 (by have := h.mean_ge.1; grind)
  lpos k hk := rnum_pos.2 (h.left_pos hk)
  ages q hq := ⟨(h.agesOK q hq).1, (h.agesOK q hq).2.1⟩
  haz q hq := ⟨(h.hazOK q hq).1, (h.hazOK q hq).2.1⟩

end Go.Proofs.Ytcaeonpjokkjnaa

/- Sizes of spares. Plain. -/
namespace Go.Proofs.Ytcaeonpjokkjnaa
open Go

theorem Lv.sp {ps : List Rat} (h : Lv ps) (n : Nat) : ∀ k, ∀ q ∈ spL ps n k, 0 ≤ q ∧ q ≤ 1 ∧ Iz (Go.Proofs.Ytcaeonpjokkjnaa.dens ps ^ k) q
  | 0 => fun q hq => by
    rw [spL, List.mem_cons, List.mem_replicate] at hq
    rcases hq with rfl | ⟨_, rfl⟩
    · exact ⟨by decide, by decide, Iz.one _⟩
    · exact ⟨by decide, by decide, Iz.zero _⟩
  | k + 1 => fun q hq => by
    have ih := Lv.sp h n k
    rw [spL, List.mem_map] at hq
    obtain ⟨i, _, rfl⟩ := hq
    obtain ⟨a, b⟩ := zip_ok (d := Go.Proofs.Ytcaeonpjokkjnaa.dens ps) (e := Go.Proofs.Ytcaeonpjokkjnaa.dens ps ^ k) ps ((spL ps n k).take i).reverse (fun p hp => ⟨h.non p hp, dens_mem ps p hp⟩) (fun q hq => ih q (List.mem_of_mem_take (List.mem_reverse.1 hq)))
    rw [h.one] at b
    refine ⟨sum_nonneg _ fun x hx => (a x hx).1, b, ?_⟩
    rw [Nat.pow_succ, Nat.mul_comm]
    exact Iz.sum _ fun x hx => (a x hx).2
theorem Lv.spdots {ps : List Rat} (h : Lv ps) (n k i j : Nat) : 0 ≤ pdot ps ((spL ps n k).take i).reverse j ∧ pdot ps ((spL ps n k).take i).reverse j ≤ 1 ∧ Iz (Go.Proofs.Ytcaeonpjokkjnaa.dens ps ^ (k + 1)) (pdot ps ((spL ps n k).take i).reverse j) := by
  obtain ⟨a, b⟩ := zip_ok (d := Go.Proofs.Ytcaeonpjokkjnaa.dens ps) (e := Go.Proofs.Ytcaeonpjokkjnaa.dens ps ^ k) ps ((spL ps n k).take i).reverse (fun p hp => ⟨h.non p hp, dens_mem ps p hp⟩) (fun q hq => h.sp n k q (List.mem_of_mem_take (List.mem_reverse.1 hq)))
  rw [h.one] at b
  have c := psum_le _ (fun x hx => (a x hx).1) j
  refine ⟨c.1, Rat.le_trans c.2 b, ?_⟩
  rw [Nat.pow_succ, Nat.mul_comm]
  exact psum_iz _ (fun x hx => (a x hx).2) j
theorem le_41 {n : Nat} (hn : n ≤ 40) {q : Rat} (h : q ≤ (((n + 1 : Nat) : Int) : Rat)) : q ≤ 1000000 := by
  have h2 : (((n + 1 : Nat) : Int) : Rat) ≤ ((1000000 : Int) : Rat) := Rat.intCast_le_intCast.2 (by omega)
  exact Rat.le_trans h h2
theorem Lv.spsum {ps : List Rat} (h : Lv ps) {n k : Nat} (hn : n ≤ 40) (j : Nat) : 0 ≤ Go.Proofs.Ytcaeonpjokkjnaa.psum (spL ps n k) j ∧ Go.Proofs.Ytcaeonpjokkjnaa.psum (spL ps n k) j ≤ 1000000 ∧ Iz (Go.Proofs.Ytcaeonpjokkjnaa.dens ps ^ k) (Go.Proofs.Ytcaeonpjokkjnaa.psum (spL ps n k) j) := by
  have a := psum_le (spL ps n k) (fun q hq => (h.sp n k q hq).1) j
  have b := sum_le_length (spL ps n k) (fun q hq => (h.sp n k q hq).2.1)
  rw [spL_length] at b
  exact ⟨a.1, le_41 hn (Rat.le_trans a.2 b), psum_iz _ (fun q hq => (h.sp n k q hq).2.2) j⟩
theorem psum_full (l : List Rat) : Go.Proofs.Ytcaeonpjokkjnaa.psum l l.length = l.sum := by
  unfold Go.Proofs.Ytcaeonpjokkjnaa.psum
  rw [List.take_of_length_le (Nat.le_refl _)]

theorem Lv.sparesSz {ps : List Rat} (h : Lv ps) {n k : Nat} (hn : n ≤ 40) (hk : k ≤ 40) : SparesSz ps n k where
  own := h.mean.own
  all t ht q hq := by
    obtain ⟨a, b, c⟩ := h.sp n t q hq
    exact (h.fin (by omega) c a (le_12 b)).1
  dots t i j ht := by
    obtain ⟨a, b, c⟩ := h.spdots n t i j
    exact (h.fin (by omega) c a (le_12 b)).1
  mul t ht p hp q hq := by
    obtain ⟨a, b, c⟩ := h.sp n t q hq
    have hi := (dens_mem ps p hp).mul c
    rw [Nat.mul_comm, ← Nat.pow_succ] at hi
    have : p * q ≤ p * 1 := Rat.mul_le_mul_of_nonneg_left b (h.non p hp)
    have h1 := h.le1 p hp
    exact (h.fin (by omega) hi (Rat.mul_nonneg (h.non p hp) a) (le_12 (by grind))).1
  sums j := by
    obtain ⟨a, b, c⟩ := h.spsum (k := k) hn j
    exact (c.fin (Nat.pow_pos (dens_pos ps)) (h.pow (by omega)) (by omega) a b).1
  last := by
    obtain ⟨a, b, c⟩ := h.spsum (k := k) hn (spL ps n k).length
    rw [psum_full] at a b c
    exact (c.fin (Nat.pow_pos (dens_pos ps)) (h.pow (by omega)) (by omega) a b).1
  num := by
    obtain ⟨a, b, c⟩ := h.spsum (k := k) hn (spL ps n k).length
    rw [psum_full] at a b c
    exact (c.fin (Nat.pow_pos (dens_pos ps)) (h.pow (by omega)) (by omega) a b).2
/-- The parts are short. -/
theorem Lv.sp4 {ps : List Rat} (h : Lv ps) {n k : Nat} (hk : k ≤ 40) : ∀ q ∈ spL ps n k, Short4 q := fun q hq => by
  obtain ⟨a, b, c⟩ := h.sp n k q hq
  exact c.s4 (Nat.pow_pos (dens_pos ps)) (h.pow (by omega)) (by omega) a (le_2m b)
theorem Lv.spsum4 {ps : List Rat} (h : Lv ps) {n k : Nat} (hn : n ≤ 40) (hk : k ≤ 40) : Short4 (spL ps n k).sum := by
  obtain ⟨a, b, c⟩ := h.spsum (k := k) hn (spL ps n k).length
  rw [psum_full] at a b c
  exact c.s4 (Nat.pow_pos (dens_pos ps)) (h.pow (by omega)) (by omega) a (by grind)

end Go.Proofs.Ytcaeonpjokkjnaa
