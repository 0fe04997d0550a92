/- Eb -/
import Derived.Test.YtcaeonpjokkjnaaKXf
import Derived.Test.YtcaeonpjokkjnaaKBkp
import Derived.Test.YtcaeonpjokkjnaaKXb
set_option linter.unusedVariables false
/- E2, E3, E4: Back of Renew; quotients that never fall; sums of Spares. Plain. -/
namespace Go.Proofs.Ytcaeonpjokkjnaa
open Go

theorem nth_map_range (f : Nat → Rat) {n i : Nat} (h : i < n) : nth ((List.range n).map f) i = f i := by
  unfold nth; rw [List.getElem?_map, List.getElem?_range h]; rfl
theorem nth_uL (ps : List Rat) {i k : Nat} (h : i ≤ k) : nth (uL ps k) i = uf ps i := by
  unfold nth; rw [uL_at ps i k h]; rfl
theorem nth_seg {us : List Rat} {k j : Nat} (h : k + 1 ≤ us.length) (hj : j < k) : nth (segL us k) j = nth us (k - j) := by
  unfold nth; rw [segL_at h hj]
theorem dot_seg {us : List Rat} {k : Nat} (h : k + 1 ≤ us.length) (fs : List Rat) : dotl fs (segL us k) = sumTo (fun j => nth fs j * nth us (k - j)) k := by
  rw [dotl_sumTo fs _ k (by rw [segL_length h]; exact Nat.le_refl _)]
  exact sumTo_congr k fun j hj => by rw [nth_seg h hj]

/-- E2. -/
theorem back_renew (ps : List Rat) (k : Nat) : ∀ m, m ≤ k → bkL (uL ps k) m = (List.range m).map (nth ps)
  | 0, _ => rfl
  | m + 1, h => by
    have ih := back_renew ps k m (by omega)
    have h1 : nth (uL ps k) (m + 1) - dotl ((List.range m).map (nth ps)) (segL (uL ps k) m) = nth ps m := by
      rw [nth_uL ps h, uf_succ, sumTo, dot_seg (by rw [uL_length]; omega), Nat.sub_self, uf_zero]
      rw [sumTo_congr (f := fun j => nth ((List.range m).map (nth ps)) j * nth (uL ps k) (m - j)) (g := fun j => nth ps j * uf ps (m - j)) m fun j hj => by
        show _ * _ = _
        rw [nth_map_range _ hj, nth_uL ps (by omega)]]
      grind
    rw [bkL, ih, h1, List.range_succ, List.map_append]; rfl

/-- E3. -/
theorem sumTo_le {f g : Nat → Rat} : ∀ n, (∀ j, j < n → f j ≤ g j) → sumTo f n ≤ sumTo g n
  | 0, _ => Rat.le_refl
  | n + 1, h => by
    have h1 := sumTo_le n fun j hj => h j (Nat.lt_succ_of_lt hj)
    have h2 := h n (Nat.lt_succ_self n)
    rw [sumTo, sumTo]
    grind
theorem sumTo_mul (f : Nat → Rat) (c : Rat) : ∀ n, sumTo (fun j => f j * c) n = sumTo f n * c
  | 0 => by simp [sumTo]
  | n + 1 => by rw [sumTo, sumTo_mul f c n, sumTo]; grind
theorem bk_at {us : List Rat} {m : Nat} : ∀ n j, j < m → m ≤ n → nth (bkL us n) j = nth (bkL us m) j
  | 0, j, h, h2 => by omega
  | n + 1, j, h, h2 => by
    by_cases e : m = n + 1
    · rw [e]
    · rw [← bk_at n j h (by omega)]
      unfold nth
      rw [bkL, List.getElem?_append_left (by rw [bkL_length]; omega)]
theorem bk_last {us : List Rat} {k : Nat} (h : k + 1 < us.length) : nth us (k + 1) = sumTo (fun j => nth (bkL us k) j * nth us (k - j)) k + nth (bkL us (k + 1)) k := by
  have h1 : nth (bkL us (k + 1)) k = nth us (k + 1) - dotl (bkL us k) (segL us k) := by
    unfold nth
    rw [bkL, List.getElem?_append_right (by rw [bkL_length]; exact Nat.le_refl _), bkL_length, Nat.sub_self]; rfl
  rw [h1, dot_seg (by omega)]
  grind
theorem kaluza {us : List Rat} {r : Nat → Rat} (h0 : nth us 0 = 1) (hp : ∀ j, j < us.length → 0 ≤ nth us j) (hr : ∀ j, j + 1 < us.length → nth us (j + 1) = nth us j * r j) (hm : ∀ i j, i ≤ j → r i ≤ r j) :
    ∀ n, n < us.length → ∀ k, k < n → 0 ≤ nth (bkL us n) k := by
  intro n hn k
  induction k using Nat.strongRecOn with
  | _ k ih =>
    intro hk
    rw [bk_at (m := k + 1) n k (by omega) (by omega)]
    have h1 := bk_last (us := us) (k := k) (by omega)
    cases k with
    | zero =>
      have := hp 1 (by omega)
      rw [sumTo] at h1
      simp only [Nat.zero_add] at h1 ⊢
      grind
    | succ k =>
      have h2 := bk_last (us := us) (k := k) (by omega)
      have e1 : nth (bkL us (k + 1)) k = nth (bkL us (k + 1)) k * nth us (k - k) := by rw [Nat.sub_self, h0, Rat.mul_one]
      have e2 : nth us (k + 1) = sumTo (fun j => nth (bkL us (k + 1)) j * nth us (k - j)) (k + 1) := by
        rw [h2, sumTo, ← e1]
        rw [sumTo_congr (f := fun j => nth (bkL us k) j * nth us (k - j)) (g := fun j => nth (bkL us (k + 1)) j * nth us (k - j)) k fun j hj => by
          show _ * _ = _ * _
          rw [bk_at (m := k) (k + 1) j hj (by omega)]]
      have h3 := hr (k + 1) (by omega)
      have h4 : sumTo (fun j => nth (bkL us (k + 1)) j * nth us (k + 1 - j)) (k + 1) ≤ sumTo (fun j => (nth (bkL us (k + 1)) j * nth us (k - j)) * r (k + 1)) (k + 1) := by
        refine sumTo_le _ fun j hj => ?_
        show _ * _ ≤ _ * _ * _
        have f1 : 0 ≤ nth (bkL us (k + 1)) j := by
          have := ih j hj (by omega)
          rw [bk_at (m := k + 1) n j hj (by omega)] at this
          exact this
        have f2 := hr (k - j) (by omega)
        rw [show k - j + 1 = k + 1 - j by omega] at f2
        rw [f2]
        have f3 := hp (k - j) (by omega)
        have f4 := hm (k - j) (k + 1) (by omega)
        have f5 := Rat.mul_le_mul_of_nonneg_left f4 (Rat.mul_nonneg f1 f3)
        grind
      rw [sumTo_mul, ← e2, ← h3] at h4
      grind

/-- E4. -/
def av (ps : List Rat) : Nat → Nat → Rat
  | 0, s => if s = 0 then 1 else 0
  | k + 1, s => sumTo (fun j => nth ps j * av ps k (s - 1 - j)) s
theorem nth_rev_take {l : List Rat} {i j : Nat} (hi : i ≤ l.length) (hj : j < i) : nth (l.take i).reverse j = nth l (i - 1 - j) := by
  have hl : (l.take i).length = i := by rw [List.length_take]; omega
  unfold nth
  rw [List.getElem?_reverse (by omega), hl, List.getElem?_take_of_lt (by omega)]
theorem spL_av (ps : List Rat) (n : Nat) : ∀ k, spL ps n k = (List.range (n + 1)).map (av ps k)
  | 0 => by
    rw [List.range_succ_eq_map, List.map_cons, List.map_map, spL]
    congr 1
    refine (List.eq_replicate_iff.2 ⟨by simp, fun q hq => ?_⟩).symm
    obtain ⟨i, _, rfl⟩ := List.mem_map.1 hq
    rfl
  | k + 1 => by
    rw [spL]
    refine List.map_congr_left fun i hi => ?_
    have hi2 := List.mem_range.1 hi
    rw [dotl_sumTo ps _ i (by rw [List.length_reverse, List.length_take]; omega), av]
    refine sumTo_congr i fun j hj => ?_
    rw [nth_rev_take (by rw [spL_length]; omega) hj, spL_av ps n k, nth_map_range _ (by omega)]
theorem sum_range (f : Nat → Rat) : ∀ n, ((List.range n).map f).sum = sumTo f n
  | 0 => rfl
  | n + 1 => by
    rw [List.range_succ, List.map_append, List.sum_append, sum_range f n, sumTo]
    simp [Rat.add_zero]
/-- The chance that k wheels last for at most n periods. -/
def Fv (ps : List Rat) (k n : Nat) : Rat := sumTo (av ps k) (n + 1)
theorem spL_sum (ps : List Rat) (n k : Nat) : (spL ps n k).sum = Fv ps k n := by rw [spL_av, sum_range]; rfl
theorem sumTo_add (f g : Nat → Rat) : ∀ n, sumTo (fun j => f j + g j) n = sumTo f n + sumTo g n
  | 0 => by simp [sumTo]; grind
  | n + 1 => by rw [sumTo, sumTo_add f g n, sumTo, sumTo]; grind
theorem av_zero (ps : List Rat) (k : Nat) : av ps (k + 1) 0 = 0 := rfl
theorem Fv_succ (ps : List Rat) (k : Nat) : ∀ n, Fv ps (k + 1) n = sumTo (fun j => nth ps j * Fv ps k (n - 1 - j)) n
  | 0 => by show sumTo (av ps (k + 1)) 1 = _; rw [sumTo, sumTo, av_zero]; simp [sumTo]; grind
  | n + 1 => by
    have h1 : Fv ps (k + 1) (n + 1) = Fv ps (k + 1) n + av ps (k + 1) (n + 1) := rfl
    have h2 : ∀ j, j < n → nth ps j * Fv ps k (n + 1 - 1 - j) = nth ps j * Fv ps k (n - 1 - j) + nth ps j * av ps k (n + 1 - 1 - j) := fun j hj => by
      obtain ⟨d, hd⟩ : ∃ d, n - 1 - j = d := ⟨_, rfl⟩
      have hd2 : n + 1 - 1 - j = d + 1 := by omega
      rw [hd, hd2, show Fv ps k (d + 1) = Fv ps k d + av ps k (d + 1) from rfl]
      grind
    rw [h1, Fv_succ ps k n, av, sumTo, sumTo, sumTo_congr (f := fun j => nth ps j * Fv ps k (n + 1 - 1 - j)) n h2, sumTo_add]
    have h3 : Fv ps k (n + 1 - 1 - n) = av ps k (n + 1 - 1 - n) := by
      rw [show n + 1 - 1 - n = 0 by omega]
      show sumTo _ 1 = _
      rw [sumTo, sumTo]; grind
    rw [h3]
    grind
theorem av_nonneg {ps : List Rat} (h : ∀ j, 0 ≤ nth ps j) : ∀ k s, 0 ≤ av ps k s
  | 0, s => by rw [av]; split <;> decide
  | k + 1, s => by
    rw [av]
    have h1 := sumTo_le (f := fun j => nth ps j * 0) (g := fun j => nth ps j * av ps k (s - 1 - j)) s fun j _ => Rat.mul_le_mul_of_nonneg_left (av_nonneg h k _) (h j)
    rw [sumTo_mul] at h1
    grind
theorem Fv_up {ps : List Rat} (h : ∀ j, 0 ≤ nth ps j) (k n : Nat) : Fv ps k n ≤ Fv ps k (n + 1) := by
  have h1 : Fv ps k (n + 1) = Fv ps k n + av ps k (n + 1) := rfl
  have := av_nonneg h k (n + 1)
  grind
theorem Fv_0 (ps : List Rat) : ∀ n, Fv ps 0 n = 1
  | 0 => by show sumTo _ 1 = _; rw [sumTo, sumTo, av]; simp; grind
  | n + 1 => by
    rw [show Fv ps 0 (n + 1) = Fv ps 0 n + av ps 0 (n + 1) from rfl, Fv_0 ps n, av, if_neg (by omega)]; grind
theorem Fv_down {ps : List Rat} (h : ∀ j, 0 ≤ nth ps j) (h1 : ∀ n, psum ps n ≤ 1) : ∀ k n, Fv ps (k + 1) n ≤ Fv ps k n
  | 0, n => by
    rw [Fv_succ, Fv_0, sumTo_congr (g := nth ps) n fun j _ => by rw [Fv_0, Rat.mul_one], ← psum_sumTo]
    exact h1 n
  | k + 1, n => by
    rw [Fv_succ, Fv_succ]
    exact sumTo_le n fun j _ => Rat.mul_le_mul_of_nonneg_left (Fv_down h h1 k _) (h j)
theorem av_small (ps : List Rat) : ∀ k s, s < k → av ps k s = 0
  | 0, s, h => by omega
  | k + 1, s, h => by
    rw [av, sumTo_congr (g := fun j => nth ps j * 0) s fun j hj => by rw [av_small ps k _ (by omega)], sumTo_mul]
    grind
theorem sumTo_zero (f : Nat → Rat) : ∀ n, (∀ j, j < n → f j = 0) → sumTo f n = 0
  | 0, _ => rfl
  | n + 1, h => by rw [sumTo, sumTo_zero f n fun j hj => h j (Nat.lt_succ_of_lt hj), h n (Nat.lt_succ_self n), Rat.add_zero]
theorem sumTo_swap (f : Nat → Nat → Rat) (m : Nat) : ∀ n, sumTo (fun i => sumTo (f i) m) n = sumTo (fun s => sumTo (fun i => f i s) n) m
  | 0 => (sumTo_zero (fun s => sumTo (fun i => f i s) 0) m fun j _ => rfl).symm
  | n + 1 => by
    rw [sumTo, sumTo_swap f m n, ← sumTo_add]
    exact sumTo_congr m fun j _ => rfl
theorem sumTo_ext (f : Nat → Rat) {m : Nat} : ∀ n, m ≤ n → (∀ j, m ≤ j → j < n → f j = 0) → sumTo f n = sumTo f m
  | 0, h, _ => by rw [show m = 0 by omega]
  | n + 1, h, hz => by
    by_cases e : m = n + 1
    · rw [e]
    · rw [sumTo, sumTo_ext f n (by omega) fun j h1 h2 => hz j h1 (by omega), hz n (by omega) (by omega)]; grind
theorem uf_av (ps : List Rat) : ∀ s, ∀ n, s < n → uf ps s = sumTo (fun i => av ps i s) n := by
  intro s
  induction s using Nat.strongRecOn with
  | _ s ih =>
    intro n hn
    obtain ⟨n, rfl⟩ : ∃ m, n = m + 1 := ⟨n - 1, by omega⟩
    rw [sumTo_shift]
    cases s with
    | zero =>
      rw [sumTo_zero _ _ fun j _ => av_zero ps j, uf_zero, av, if_pos rfl]; grind
    | succ s =>
      rw [uf_succ, av, if_neg (by omega)]
      have h1 : ∀ i, av ps (i + 1) (s + 1) = sumTo (fun j => nth ps j * av ps i (s - j)) (s + 1) := fun i => by
        rw [av]
        exact sumTo_congr _ fun j _ => by rw [show s + 1 - 1 - j = s - j by omega]
      rw [sumTo_congr (g := fun i => sumTo (fun j => nth ps j * av ps i (s - j)) (s + 1)) n fun i _ => h1 i, sumTo_swap]
      rw [Rat.zero_add]
      refine sumTo_congr _ fun j hj => ?_
      rw [ih (s - j) (by omega) n (by omega)]
      rw [sumTo_congr (f := fun i => nth ps j * av ps i (s - j)) (g := fun i => av ps i (s - j) * nth ps j) n fun i _ => Rat.mul_comm _ _, sumTo_mul, Rat.mul_comm]
theorem e4_sum (ps : List Rat) (k : Nat) : sumTo (fun i => Fv ps (i + 1) k) k = sumTo (fun i => uf ps (i + 1)) k := by
  have h1 := sumTo_swap (fun i s => av ps (i + 1) s) (k + 1) k
  have h2 : sumTo (fun i => Fv ps (i + 1) k) k = sumTo (fun i => sumTo (fun s => av ps (i + 1) s) (k + 1)) k := rfl
  rw [h2, h1, sumTo_shift, sumTo_zero _ _ fun j _ => av_zero ps j, Rat.zero_add]
  refine sumTo_congr k fun s hs => ?_
  rw [uf_av ps (s + 1) (k + 1) (by omega), sumTo_shift, av, if_neg (by omega), Rat.zero_add]

end Go.Proofs.Ytcaeonpjokkjnaa
