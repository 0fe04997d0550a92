/- Es -/
import Derived.Test.YtcaeonpjokkjnaaKEb
import Derived.Test.YtcaeonpjokkjnaaKXd
import Derived.Test.YtcaeonpjokkjnaaKXf
set_option linter.unusedVariables false
/- E7: lives multiplied by a number; renewals of numbers that are no multiple of the span. Plain. -/
namespace Go.Proofs.Ytcaeonpjokkjnaa
open Go

/-- Lives, all multiplied by k: the first n. -/
def lgf (k : Nat) (ps : List Rat) (j : Nat) : Rat := if (j + 1) % k = 0 then nth ps ((j + 1) / k - 1) else 0
def lgL (k : Nat) (ps : List Rat) (n : Nat) : List Rat := (List.range n).map (lgf k ps)
theorem lgL_length (k : Nat) (ps : List Rat) (n : Nat) : (lgL k ps n).length = n := by simp [lgL]
theorem lgL_next (k : Nat) (ps : List Rat) (n : Nat) : lgL k ps n ++ [lgf k ps n] = lgL k ps (n + 1) := by
  unfold lgL; rw [List.range_succ, List.map_append]; rfl
theorem nth_ge {ps : List Rat} {i : Nat} (h : ps.length ≤ i) : nth ps i = 0 := by
  unfold nth; rw [List.getElem?_eq_none_iff.2 h]; rfl
theorem dm {k a r : Nat} (hr : r < k) : (k * a + r) / k = a ∧ (k * a + r) % k = r := by
  have h1 := Nat.mul_add_div (show 0 < k by omega) a r
  have h2 := Nat.mul_add_mod k a r
  rw [Nat.div_eq_of_lt hr] at h1
  rw [Nat.mod_eq_of_lt hr] at h2
  exact ⟨by omega, h2⟩
theorem lgf_no {k : Nat} {ps : List Rat} {i j : Nat} (hj : j + 1 < k) : lgf k ps (k * i + j) = 0 := by
  unfold lgf
  rw [Nat.add_assoc, (dm (a := i) hj).2, if_neg (by omega)]
theorem lgf_at {k : Nat} (hk : 0 < k) (ps : List Rat) (i : Nat) : lgf k ps (k * i + (k - 1)) = nth ps i := by
  have e : k * i + (k - 1) + 1 = k * (i + 1) + 0 := by rw [Nat.mul_succ]; omega
  unfold lgf
  rw [e, (dm (a := i + 1) hk).2, (dm (a := i + 1) hk).1, if_pos rfl, Nat.add_sub_cancel]
theorem nth_lg {k : Nat} (hk : 0 < k) (ps : List Rat) (j : Nat) : nth (lgL k ps (k * ps.length)) j = lgf k ps j := by
  by_cases h : j < k * ps.length
  · exact nth_map_range _ h
  · rw [nth_ge (by rw [lgL_length]; omega)]
    unfold lgf
    split
    · rename_i h1
      refine (nth_ge ?_).symm
      have h2 : k * ps.length ≤ j + 1 - 1 := by omega
      have h3 : ps.length < (j + 1) / k := by
        have h4 := Nat.div_add_mod (j + 1) k
        rw [h1] at h4
        refine Nat.lt_of_mul_lt_mul_left (a := k) ?_
        omega
      omega
    · rfl
theorem lg_mem {k n : Nat} {ps : List Rat} {q : Rat} (h : q ∈ lgL k ps n) : q = 0 ∨ q ∈ ps := by
  unfold lgL at h
  obtain ⟨j, _, rfl⟩ := List.mem_map.1 h
  unfold lgf
  split
  · unfold nth
    cases h : ps[(j + 1) / k - 1]? with
    | none => exact .inl rfl
    | some q => exact .inr (List.mem_of_getElem? h)
  · exact .inl rfl

/-- A sum of which only each k-th is not 0. -/
theorem sum_block {k : Nat} (hk : 0 < k) (g : Nat → Rat) (hg : ∀ i j, j + 1 < k → g (k * i + j) = 0) : ∀ m, sumTo g (k * m) = sumTo (fun i => g (k * i + (k - 1))) m
  | 0 => rfl
  | m + 1 => by
    have e : k * (m + 1) = (k * m + (k - 1)) + 1 := by rw [Nat.mul_succ]; omega
    rw [e, sumTo, sumTo, ← sum_block hk g hg m, sumTo_ext g (m := k * m) (k * m + (k - 1)) (by omega)]
    intro j h1 h2
    have := hg m (j - k * m) (by omega)
    rw [show k * m + (j - k * m) = j by omega] at this
    exact this
theorem sum_blockn {k : Nat} (hk : 0 < k) (g : Nat → Rat) (hg : ∀ i j, j + 1 < k → g (k * i + j) = 0) (n : Nat) : sumTo g n = sumTo (fun i => g (k * i + (k - 1))) (n / k) := by
  rw [← sum_block hk g hg (n / k)]
  have h1 := Nat.div_add_mod n k
  have h2 := Nat.mod_lt n hk
  refine sumTo_ext g (m := k * (n / k)) n (by omega) fun j h3 h4 => ?_
  have := hg (n / k) (j - k * (n / k)) (by omega)
  rw [show k * (n / k) + (j - k * (n / k)) = j by omega] at this
  exact this

theorem uf_long {k : Nat} (hk : 0 < k) (ps : List Rat) : ∀ n, uf (lgL k ps (k * ps.length)) n = if n % k = 0 then uf ps (n / k) else 0 := by
  intro n
  induction n using Nat.strongRecOn with
  | _ n ih =>
    cases n with
    | zero => rw [if_pos (Nat.zero_mod k), Nat.zero_div, uf_zero, uf_zero]
    | succ n =>
      rw [uf_succ, sum_blockn hk _ (fun i j hj => by
        show _ * _ = _
        rw [nth_lg hk, lgf_no hj, Rat.zero_mul])]
      have hd := Nat.div_add_mod (n + 1) k
      have hl := Nat.mod_lt (n + 1) hk
      obtain ⟨M, hM⟩ : ∃ M, (n + 1) / k = M := ⟨_, rfl⟩
      obtain ⟨r, hr⟩ : ∃ r, (n + 1) % k = r := ⟨_, rfl⟩
      rw [hM] at hd ⊢
      rw [hr] at hd hl ⊢
      have hterm : ∀ i, i < M → nth (lgL k ps (k * ps.length)) (k * i + (k - 1)) * uf (lgL k ps (k * ps.length)) (n - (k * i + (k - 1))) = nth ps i * (if r = 0 then uf ps (M - 1 - i) else 0) := fun i hi => by
        obtain ⟨d, rfl⟩ : ∃ d, M = i + 1 + d := ⟨M - (i + 1), by omega⟩
        have e1 : k * (i + 1 + d) = k * i + k + k * d := by rw [Nat.mul_add, Nat.mul_succ]
        have e : n - (k * i + (k - 1)) = k * d + r := by omega
        rw [nth_lg hk, lgf_at hk, e, ih (k * d + r) (by omega), (dm hl).1, (dm hl).2]
        rw [show i + 1 + d - 1 - i = d by omega]
      rw [sumTo_congr M hterm]
      by_cases hr0 : r = 0
      · rw [if_pos hr0]
        have hM1 : 0 < M := by
          rcases Nat.eq_zero_or_pos M with h | h
          · rw [h] at hd; simp at hd; omega
          · exact h
        obtain ⟨M', rfl⟩ : ∃ M', M = M' + 1 := ⟨M - 1, by omega⟩
        rw [uf_succ]
        exact sumTo_congr _ fun i _ => by rw [if_pos hr0, Nat.add_sub_cancel]
      · rw [if_neg hr0]
        exact sumTo_zero _ _ fun i _ => by rw [if_neg hr0, Rat.mul_zero]

theorem mean_sumTo {ps : List Rat} (h : ps.sum = 1) : meanQ ps = sumTo (fun j => (((j + 1 : Nat) : Int) : Rat) * nth ps j) ps.length := by
  rw [← wsum_mean h, psum_sumTo]
  exact sumTo_congr _ fun j hj => by unfold wL; rw [nth_map_range _ hj]
theorem lg_sum {k : Nat} (hk : 0 < k) {ps : List Rat} (h : ps.sum = 1) : (lgL k ps (k * ps.length)).sum = 1 := by
  unfold lgL
  rw [sum_range, sum_block hk _ (fun i j hj => lgf_no hj), sumTo_congr (g := nth ps) _ fun i _ => lgf_at hk ps i, ← psum_sumTo]
  unfold psum
  rw [List.take_of_length_le (Nat.le_refl _), h]
theorem mean_long {k : Nat} (hk : 0 < k) {ps : List Rat} (h : ps.sum = 1) : meanQ (lgL k ps (k * ps.length)) = meanQ ps * (((k : Nat) : Int) : Rat) := by
  rw [mean_sumTo (lg_sum hk h), lgL_length, sum_block hk _ (fun i j hj => by
    show _ * _ = _
    rw [nth_lg hk, lgf_no hj, Rat.mul_zero]), mean_sumTo h, ← sumTo_mul]
  refine sumTo_congr _ fun i _ => ?_
  have e : k * i + (k - 1) + 1 = (i + 1) * k := by rw [Nat.add_mul, Nat.mul_comm]; omega
  rw [nth_lg hk, lgf_at hk, e, Int.natCast_mul, Rat.intCast_mul]
  grind

theorem spanK_nth (ps : List Rat) (n : Nat) : spanK ps (n + 1) = if sg (rn (nth ps n)) = 0 then spanK ps n else Nat.gcd (spanK ps n) (n + 1) := rfl
theorem sg_rn0 : sg (rn 0) = 0 := by decide
theorem span_long {k : Nat} (hk : 0 < k) (ps : List Rat) : ∀ m, spanK (lgL k ps (k * ps.length)) (k * m) = k * spanK ps m
  | 0 => rfl
  | m + 1 => by
    have h1 : ∀ r, r < k → spanK (lgL k ps (k * ps.length)) (k * m + r) = k * spanK ps m := fun r => by
      induction r with
      | zero => exact fun _ => span_long hk ps m
      | succ r ih =>
        intro hr
        rw [← Nat.add_assoc, spanK_nth, nth_lg hk, lgf_no hr, if_pos sg_rn0]
        exact ih (by omega)
    have e : k * (m + 1) = (k * m + (k - 1)) + 1 := by rw [Nat.mul_succ]; omega
    rw [e, spanK_nth, nth_lg hk, lgf_at hk, h1 (k - 1) (by omega), ← e, spanK_nth]
    split
    · rfl
    · exact Nat.gcd_mul_left ..
theorem span_dvd (ps : List Rat) : ∀ k j, j < k → nth ps j ≠ 0 → spanK ps k ∣ j + 1
  | 0, j, h, _ => by omega
  | k + 1, j, h, hz => by
    rw [spanK_nth]
    by_cases e : j = k
    · subst e
      rw [if_neg fun h1 => hz (sgz_rn h1)]
      exact Nat.gcd_dvd_right ..
    · have ih := span_dvd ps k j (by omega) hz
      split
      · exact ih
      · exact Nat.dvd_trans (Nat.gcd_dvd_left ..) ih
theorem uf_off (ps : List Rat) : ∀ n, ¬ spanK ps ps.length ∣ n → uf ps n = 0 := by
  intro n
  induction n using Nat.strongRecOn with
  | _ n ih =>
    intro hn
    cases n with
    | zero => exact absurd (Nat.dvd_zero _) hn
    | succ n =>
      rw [uf_succ]
      refine sumTo_zero _ _ fun j hj => ?_
      show nth ps j * uf ps (n - j) = 0
      by_cases hz : nth ps j = 0
      · rw [hz, Rat.zero_mul]
      · have hlt : j < ps.length := Nat.lt_of_not_le fun h => hz (nth_ge h)
        have h1 := span_dvd ps ps.length j hlt hz
        rw [ih (n - j) (by omega) fun h2 => hn (by
          have := Nat.dvd_add h2 h1
          rwa [show n - j + (j + 1) = n + 1 by omega] at this), Rat.mul_zero]
theorem span_pos {ps : List Rat} (h : 1 ≤ ps.length) (hz : lastQ ps ≠ 0) : 1 ≤ spanK ps ps.length := by
  obtain ⟨m, hm⟩ : ∃ m, ps.length = m + 1 := ⟨ps.length - 1, by omega⟩
  have e : nth ps m = lastQ ps := by unfold nth lastQ; rw [hm]; rfl
  rw [hm, spanK_nth, e, if_neg fun h1 => hz (sgz_rn h1)]
  exact Nat.gcd_pos_of_pos_right _ (by omega)

/-- The long lives are lives. -/
theorem long_good {k : Nat} (hk : 0 < k) {ps : List Rat} (h : livesGood ps) (hl : k * ps.length ≤ 12) : livesGood (lgL k ps (k * ps.length)) := by
  have hv := Lv.of h
  have h1 := hv.pos
  have hkl : 1 ≤ k * ps.length := Nat.mul_pos hk h1
  refine ⟨by rw [lgL_length]; exact hkl, by rw [lgL_length]; exact hl, ?_, rsg_zero.2 (lg_sum hk hv.one), fun q hq => ?_⟩
  · have e : lastQ (lgL k ps (k * ps.length)) = lastQ ps := by
      obtain ⟨m, hm⟩ : ∃ m, ps.length = m + 1 := ⟨ps.length - 1, by omega⟩
      have e1 : lastQ ps = nth ps m := by unfold nth lastQ; rw [hm]; rfl
      have e2 : lastQ (lgL k ps (k * ps.length)) = nth (lgL k ps (k * ps.length)) (k * ps.length - 1) := by unfold nth lastQ; rw [lgL_length]
      rw [e1, e2, nth_lg hk, hm, Nat.mul_succ, show k * m + k - 1 = k * m + (k - 1) by omega, lgf_at hk]
    rw [e]
    exact h.2.2.1
  · rcases lg_mem hq with rfl | hq
    · exact ⟨by decide, by decide⟩
    · exact h.2.2.2.2 q hq

end Go.Proofs.Ytcaeonpjokkjnaa
