/- Ti -/
import Derived.Test.YtbehfhmdilifkaaQTa
import Derived.WalkKit
set_option linter.unusedVariables false
/- Plain: the terms of the roots of the numbers up to 1000, by reckoning. -/
namespace Go.Proofs.Ytbehfhmdilifkaa

/-- The greatest number whose square is at most d, for small d. -/
def sq32 (d : Nat) : Nat := ((List.range 32).filter fun r => decide (r * r ≤ d)).length - 1
/-- The terms from a state on, until one is twice the first one. -/
def rtGo (d n : Nat) : Nat → Nat → Nat → Nat → Option (List Nat)
  | 0, _, _, _ => none
  | f + 1, m, k, a =>
    if a = 2 * n then some []
    else if m ≤ k * a ∧ (k * a - m) * (k * a - m) ≤ d ∧ 1 ≤ k ∧ k ≤ 2000 ∧ a ≤ 100 ∧ 1 ≤ (d - (k * a - m) * (k * a - m)) / k ∧ k * a - m ≤ 31 then
      (rtGo d n f (k * a - m) ((d - (k * a - m) * (k * a - m)) / k) ((n + (k * a - m)) / ((d - (k * a - m) * (k * a - m)) / k))).map (((n + (k * a - m)) / ((d - (k * a - m) * (k * a - m)) / k)) :: ·)
    else none
/-- The period of d's root. -/
def perO (d : Nat) : Option (List Nat) := rtGo d (sq32 d) 100 0 1 (sq32 d)
def per (d : Nat) : List Nat := (perO d).getD []
/-- Everything that is asked of one root. -/
def rtOk (d : Nat) : Bool :=
  decide (sq32 d * sq32 d ≤ d) && decide (d < (sq32 d + 1) * (sq32 d + 1)) &&
    (decide (sq32 d * sq32 d = d) || ((perO d).isSome && decide (per d ≠ []) && decide ((per d).length ≤ 70) && (per d).all (fun x => decide (1 ≤ x) && decide (x ≤ 2 * sq32 d)) &&
      decide ((per d).getLast? = some (2 * sq32 d)) && decide ((per d).dropLast.reverse = (per d).dropLast)))
theorem rt_all : (List.range 1001).all (fun d => rtOk d || decide (d < 2)) = true := by kernel_rfl
theorem rt_ok {d : Nat} (h2 : 2 ≤ d) (h3 : d ≤ 1000) : rtOk d = true := by
  have h := List.all_eq_true.1 rt_all d (List.mem_range.2 (by omega))
  simp only [Bool.or_eq_true, decide_eq_true_eq] at h
  rcases h with h | h
  · exact h
  · omega
theorem sq32_sq {d : Nat} (h2 : 2 ≤ d) (h3 : d ≤ 1000) : Sq (sq32 d) d := by
  have h := rt_ok h2 h3
  unfold rtOk at h
  simp only [Bool.and_eq_true, decide_eq_true_eq] at h
  exact ⟨h.1.1, h.1.2⟩
theorem fl_small {d : Nat} (h2 : 2 ≤ d) (h3 : d ≤ 1000) : fl d = sq32 d := (sq32_sq h2 h3).fl
/-- What the period of a root that is no whole number is. -/
structure PerI (d : Nat) : Prop where
  go : perO d = some (per d)
  ne : per d ≠ []
  len : (per d).length ≤ 70
  pos : ∀ x ∈ per d, 1 ≤ x ∧ x ≤ 2 * sq32 d
  last : (per d).getLast? = some (2 * sq32 d)
  pal : (per d).dropLast.reverse = (per d).dropLast
theorem perI {d : Nat} (h2 : 2 ≤ d) (h3 : d ≤ 1000) (hs : ¬ fl d * fl d = d) : PerI d := by
  have h := rt_ok h2 h3
  rw [fl_small h2 h3] at hs
  unfold rtOk at h
  simp only [Bool.and_eq_true, Bool.or_eq_true, decide_eq_true_eq] at h
  rcases h.2 with h | h
  · exact absurd h hs
  · obtain ⟨⟨⟨⟨⟨h4, h5⟩, h6⟩, h7⟩, h8⟩, h9⟩ := h
    refine ⟨?_, h5, h6, fun x hx => ?_, h8, h9⟩
    · obtain ⟨l, hl⟩ := Option.isSome_iff_exists.1 h4
      unfold per
      rw [hl]; rfl
    · have := List.all_eq_true.1 h7 x hx
      simpa using this
theorem sq32_le (d : Nat) : sq32 d ≤ 31 := by
  unfold sq32
  have := List.length_filter_le (fun r => decide (r * r ≤ d)) (List.range 32)
  rw [List.length_range] at this
  omega
/-- One step of the search for the period. -/
theorem rtGo_end {d n f m k a : Nat} {l : List Nat} (h : rtGo d n f m k a = some l) (ha : a = 2 * n) : l = [] := by
  cases f with
  | zero => cases h
  | succ f =>
    unfold rtGo at h
    rw [if_pos ha] at h
    injection h with h
    exact h.symm
/-- What the next state is. -/
structure RtS (d n f m k a m1 k1 a1 : Nat) (l : List Nat) : Prop where
  hm : k * a = m + m1
  hm1 : m1 * m1 ≤ d
  hk : 1 ≤ k
  hk2 : k ≤ 2000
  ha : a ≤ 100
  hk1 : (d - m1 * m1) / k = k1
  hk3 : 1 ≤ k1
  hm3 : m1 ≤ 31
  ha1 : (n + m1) / k1 = a1
  next : ∃ l', l = a1 :: l' ∧ rtGo d n f m1 k1 a1 = some l'
theorem rtGo_step {d n f m k a : Nat} {l : List Nat} (h : rtGo d n f m k a = some l) (ha : a ≠ 2 * n) : ∃ f' m1 k1 a1, f = f' + 1 ∧ RtS d n f' m k a m1 k1 a1 l := by
  cases f with
  | zero => cases h
  | succ f =>
    unfold rtGo at h
    rw [if_neg ha] at h
    split at h
    · rename_i hc
      obtain ⟨c1, c2, c3, c4, c5, c6, c7⟩ := hc
      obtain ⟨l', h1, h2⟩ := Option.map_eq_some_iff.1 h
      exact ⟨f, _, _, _, rfl, ⟨by omega, c2, c3, c4, c5, rfl, c6, c7, rfl, l', h2.symm, h1⟩⟩
    · cases h
end Go.Proofs.Ytbehfhmdilifkaa
