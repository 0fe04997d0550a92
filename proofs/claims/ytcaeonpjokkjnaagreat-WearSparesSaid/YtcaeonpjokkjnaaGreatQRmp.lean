/- Rmp -/
import Derived.Test.YtcaeonpjokkjnaaGreatQRtp
import Derived.Test.YtcaeonpjokkjnaaGreatQAg
set_option linter.unusedVariables false
/- Sizes of means, ages and hazards. Plain. -/
namespace Go.Proofs.YtcaeonpjokkjnaaGreat
open Go

theorem Lv.left_sum {ps : List Rat} (h : Lv ps) (k : Nat) : Go.Proofs.YtcaeonpjokkjnaaGreat.left ps k = (ps.drop k).sum := (drop_left h.one k).symm
theorem Lv.nth_le {ps : List Rat} (h : Lv ps) {k : Nat} (hk : k < ps.length) : 0 ≤ nth ps k ∧ nth ps k ≤ Go.Proofs.YtcaeonpjokkjnaaGreat.left ps k := by
  have e : nth ps k = ps[k] := by unfold nth; rw [List.getElem?_eq_getElem hk]; rfl
  have hm : ps[k] ∈ ps.drop k := by
    rw [List.drop_eq_getElem_cons hk]; exact List.mem_cons_self ..
  rw [h.left_sum, e]
  exact ⟨h.non _ (List.getElem_mem hk), mem_le_sum _ (fun q hq => h.non q (List.mem_of_mem_drop hq)) _ hm⟩
theorem Lv.left_pos {ps : List Rat} (h : Lv ps) {k : Nat} (hk : k < ps.length) : 0 < Go.Proofs.YtcaeonpjokkjnaaGreat.left ps k := by
  have hl : ps.length - 1 < ps.length := by omega
  have e : lastQ ps = ps[ps.length - 1] := by unfold lastQ; rw [List.getElem?_eq_getElem hl]; rfl
  have hm : lastQ ps ∈ ps.drop k := by
    rw [e]
    exact List.mem_drop_iff_getElem.2 ⟨ps.length - 1 - k, by omega, by congr 1; omega⟩
  have h1 := mem_le_sum _ (fun q hq => h.non q (List.mem_of_mem_drop hq)) _ hm
  have h2 := h.non _ (List.mem_of_mem_drop hm)
  have h3 := h.last
  rw [h.left_sum]
  grind
theorem Lv.mean_ge {ps : List Rat} (h : Lv ps) : 1 ≤ meanQ ps ∧ meanQ ps ≤ 12 ∧ Iz (Go.Proofs.YtcaeonpjokkjnaaGreat.dens ps) (meanQ ps) := by
  have hp := h.pos
  obtain ⟨a, b, c⟩ := h.time ps.length
  have t := h.time1 (ps.length - 1)
  rw [show ps.length - 1 + 1 = ps.length by omega] at t
  rw [meanQ_psum]
  exact ⟨t, b, c⟩

theorem Lv.quot {ps : List Rat} (h : Lv ps) {p q : Rat} (hp : Iz (Go.Proofs.YtcaeonpjokkjnaaGreat.dens ps) p) (hq : Iz (Go.Proofs.YtcaeonpjokkjnaaGreat.dens ps) q) (p0 : 0 ≤ p) (q0 : 0 < q) (hpq : p ≤ q) (hk : q ≤ 12) :
    Sz (p / q) ∧ numRes (p / q) = (nt (p / q), 0) ∧ Short4 (p / q) := by
  obtain ⟨n, n0, n1, hI⟩ := hp.quot2 hq q0 12 (by exact hk) (dens_pos ps)
  have q1 : q ≠ 0 := by intro e; rw [e] at q0; exact absurd q0 (by decide)
  have hr : p / q * q = p := Rat.div_mul_cancel q1
  have hr0 : 0 ≤ p / q := by
    rw [Rat.div_def]
    exact Rat.mul_nonneg p0 (Rat.le_of_lt (Rat.inv_pos.2 q0))
  have hr1 : p / q ≤ 1 := by
    refine Rat.not_lt.1 fun hc => ?_
    have : 1 * q < p / q * q := Rat.mul_lt_mul_of_pos_right hc q0
    rw [hr] at this
    grind
  have hn : n ≤ p10 74 := by
    have h2 : (12 : Nat) * Go.Proofs.YtcaeonpjokkjnaaGreat.dens ps ≤ p10 2 * p10 72 := Nat.mul_le_mul (by decide) h.dens
    rw [← p10_add] at h2
    exact Nat.le_trans n1 h2
  have hd := Nat.mul_pos (dens_pos ps) n0
  have hj := mul_p10 h.dens hn
  exact ⟨(hI.fin9 hd hj (by omega) hr0 (le_2m hr1)).1, (hI.fin9 hd hj (by omega) hr0 (le_2m hr1)).2, hI.s4 hd hj (by omega) hr0 (le_2m hr1)⟩

theorem Lv.left_mean {ps : List Rat} (h : Lv ps) (k : Nat) : Sz (Go.Proofs.YtcaeonpjokkjnaaGreat.left ps k / meanQ ps) ∧ numRes (Go.Proofs.YtcaeonpjokkjnaaGreat.left ps k / meanQ ps) = (nt (Go.Proofs.YtcaeonpjokkjnaaGreat.left ps k / meanQ ps), 0) ∧ Short4 (Go.Proofs.YtcaeonpjokkjnaaGreat.left ps k / meanQ ps) := by
  obtain ⟨a, b, c⟩ := h.left k
  obtain ⟨m1, m2, m3⟩ := h.mean_ge
  exact h.quot c m3 a (by grind) (by grind) m2
theorem Lv.haz {ps : List Rat} (h : Lv ps) {k : Nat} (hk : k < ps.length) : Sz (hazQ ps k) ∧ numRes (hazQ ps k) = (nt (hazQ ps k), 0) ∧ Short4 (hazQ ps k) := by
  obtain ⟨a, b, c⟩ := h.left k
  obtain ⟨p0, p1⟩ := h.nth_le hk
  have e : nth ps k ∈ ps := by unfold nth; rw [List.getElem?_eq_getElem hk]; exact List.getElem_mem hk
  exact h.quot (dens_mem ps _ e) c p0 (h.left_pos hk) p1 (le_12 b)
theorem Lv.agesOK {ps : List Rat} (h : Lv ps) : ∀ q ∈ agesL ps, Sz q ∧ numRes q = (nt q, 0) ∧ Short4 q := fun q hq => by
  unfold agesL aboveL at hq
  rw [List.map_map] at hq
  obtain ⟨k, _, rfl⟩ := List.mem_map.1 hq
  exact h.left_mean k
theorem Lv.hazOK {ps : List Rat} (h : Lv ps) : ∀ q ∈ hazL ps, Sz q ∧ numRes q = (nt q, 0) ∧ Short4 q := fun q hq => by
  obtain ⟨k, hk, rfl⟩ := List.mem_map.1 hq
  exact h.haz (List.mem_range.1 hk)
theorem Lv.mean4 {ps : List Rat} (h : Lv ps) : Short4 (meanQ ps) := by
  obtain ⟨m1, m2, m3⟩ := h.mean_ge
  exact m3.s4 (dens_pos ps) h.dens (by omega) (by grind) (by grind)
theorem Lv.ageSz {ps : List Rat} (h : Lv ps) : AgeSz ps where
  left := h.mean.left
  own := h.mean.own
  sums := h.mean.sums
  mean := h.mean.mean
  mpos := rnum_pos.2 (by have := h.mean_ge.1; grind)
  lpos k hk := rnum_pos.2 (h.left_pos hk)
  ages q hq := ⟨(h.agesOK q hq).1, (h.agesOK q hq).2.1⟩
  haz q hq := ⟨(h.hazOK q hq).1, (h.hazOK q hq).2.1⟩

end Go.Proofs.YtcaeonpjokkjnaaGreat
