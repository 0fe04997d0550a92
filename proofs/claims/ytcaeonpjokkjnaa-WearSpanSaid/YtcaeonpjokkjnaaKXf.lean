/- Mp Ea -/
import Derived.Test.YtcaeonpjokkjnaaKXe
import Derived.Test.YtcaeonpjokkjnaaKXc
import Derived.Test.YtcaeonpjokkjnaaKYs
set_option linter.unusedVariables false
/- The lives that are made. Plain. -/
namespace Go.Proofs.Ytcaeonpjokkjnaa
open Go

theorem divInt_s (a s : Nat) (hs : 0 < s) : Rat.divInt (a : Int) (s : Int) * ((s : Int) : Rat) = ((a : Int) : Rat) := by
  have h : ((s : Int) : Rat) ≠ 0 := by
    intro e
    have : (s : Int) = 0 := by exact_mod_cast e
    omega
  rw [Rat.divInt_eq_div]
  exact Rat.div_mul_cancel h
theorem dw_sum : ∀ r : List Nat, (r.dropWhile (· == 0)).sum = r.sum
  | [] => rfl
  | b :: r => by
    rw [List.dropWhile_cons]
    by_cases hb : b = 0
    · rw [if_pos (by simpa using hb), dw_sum r, List.sum_cons, hb]; omega
    · rw [if_neg (by simpa using hb)]
theorem dw_head : ∀ (r : List Nat) (x : Nat), (r.dropWhile (· == 0)).head? = some x → x ≠ 0
  | [], x, h => by simp at h
  | b :: r, x, h => by
    rw [List.dropWhile_cons] at h
    by_cases hb : b = 0
    · rw [if_pos (by simpa using hb)] at h
      exact dw_head r x h
    · rw [if_neg (by simpa using hb)] at h
      simp at h
      omega
theorem dw_mem : ∀ (r : List Nat) (x : Nat), x ∈ r.dropWhile (· == 0) → x ∈ r
  | [], x, h => by simp at h
  | b :: r, x, h => by
    rw [List.dropWhile_cons] at h
    by_cases hb : b = 0
    · rw [if_pos (by simpa using hb)] at h
      exact List.mem_cons_of_mem _ (dw_mem r x h)
    · rw [if_neg (by simpa using hb)] at h
      exact h
theorem dw_len : ∀ r : List Nat, (r.dropWhile (· == 0)).length ≤ r.length
  | [] => by simp
  | b :: r => by
    rw [List.dropWhile_cons]
    by_cases hb : b = 0
    · rw [if_pos (by simpa using hb)]
      have := dw_len r
      rw [List.length_cons]; omega
    · rw [if_neg (by simpa using hb)]; exact Nat.le_refl _
theorem sum_rev : ∀ l : List Nat, l.reverse.sum = l.sum
  | [] => rfl
  | a :: l => by
    rw [List.reverse_cons, List.sum_append, sum_rev l, List.sum_cons]
    simp
    omega
theorem trim_sum (l : List Nat) : (trimZ l).sum = l.sum := by unfold trimZ; rw [sum_rev, dw_sum, sum_rev]
theorem trim_mem {l : List Nat} {x : Nat} (h : x ∈ trimZ l) : x ∈ l := by
  unfold trimZ at h
  exact List.mem_reverse.1 (dw_mem _ x (List.mem_reverse.1 h))
theorem trim_len (l : List Nat) : (trimZ l).length ≤ l.length := by
  unfold trimZ
  have := dw_len l.reverse
  rw [List.length_reverse] at this ⊢
  exact this
theorem trim_last {l : List Nat} {x : Nat} (h : (trimZ l).getLast? = some x) : x ≠ 0 := by
  unfold trimZ at h
  rw [List.getLast?_reverse] at h
  exact dw_head _ x h
theorem map_sum (s : Nat) (hs : 0 < s) : ∀ l : List Nat, (l.map fun a => Rat.divInt ((a : Nat) : Int) ((s : Nat) : Int)).sum * ((s : Int) : Rat) = ((l.sum : Nat) : Int)
  | [] => by simp
  | a :: l => by
    have h1 := map_sum s hs l
    have h2 := divInt_s a s hs
    rw [List.map_cons, List.sum_cons, List.sum_cons, Int.natCast_add, Rat.intCast_add, ← h1, ← h2]
    grind

theorem lt_p10 {n : Nat} (h : n ≤ 108) {j : Nat} (hj : 3 ≤ j) : n < p10 j := by
  have e : p10 3 = 1000 := by decide
  have := p10_mono hj
  omega
theorem fits_of {q : Rat} (h1 : (rn q).natAbs < p10 6) (h2 : (rd q).natAbs < p10 6) : fits q 6 = true := by
  have hd : ∀ n : Nat, n < p10 6 → (dec n).size ≤ 6 := fun n hn => by
    rw [dec_size]
    split
    · omega
    · exact L_of_p10 hn
  unfold fits
  rw [Bool.and_eq_true]
  exact ⟨decide_eq_true (hd _ h1), decide_eq_true (hd _ h2)⟩
theorem nt_small {q : Rat} (h1 : (rn q).natAbs < p10 6) (h2 : (rd q).natAbs < p10 6) : (nt q).size ≤ 40 := by
  have hd : ∀ n : Nat, n < p10 6 → (dec n).data.toList.length ≤ 6 := fun n hn => by
    rw [size_list, dec_size]
    split
    · omega
    · exact L_of_p10 hn
  have a := hd _ h1
  have b := hd _ h2
  rw [← size_list, nt_list]
  unfold sdec
  rw [List.length_append, List.length_append]
  have c : (if ng (rn q) then [(45 : UInt8)] else []).length ≤ 1 := by split <;> simp
  have d : (if !isInt q then 47 :: (dec (rd q).natAbs).data.toList else []).length ≤ 7 := by
    split
    · rw [List.length_cons]; omega
    · simp
  omega

/-- What each made number is. -/
theorem made_mem {xs : List Nat} {q : Rat} (h : q ∈ madeL xs) : 0 ≤ q ∧ (rn q).natAbs ≤ 108 ∧ (rd q).natAbs ≤ 108 := by
  unfold madeL at h
  split at h
  · rw [List.mem_singleton.1 h]; decide
  · rename_i hs
    obtain ⟨a, ha, rfl⟩ := List.mem_map.1 h
    have h9 := wts_lt xs a (trim_mem ha)
    have hS := wts_sum xs
    have hp : 0 < (wts xs).sum := by omega
    have hb : Bd (wts xs).sum 9 (Rat.divInt ((a : Nat) : Int) (((wts xs).sum : Nat) : Int)) := ⟨(a : Int), divInt_s a _ hp, by omega⟩
    obtain ⟨b1, b2⟩ := hb.parts hp
    have e : (rd (Rat.divInt ((a : Nat) : Int) (((wts xs).sum : Nat) : Int))).natAbs = (Rat.divInt ((a : Nat) : Int) (((wts xs).sum : Nat) : Int)).den := by unfold rd; exact Int.natAbs_natCast _
    exact ⟨Rat.divInt_nonneg (by omega) (by omega), by omega, by omega⟩
theorem made_short {xs : List Nat} : ∀ q ∈ madeL xs, Short4 q := fun q hq => by
  obtain ⟨_, h1, h2⟩ := made_mem hq
  exact ⟨lt_p10 h1 (by omega), lt_p10 h2 (by omega)⟩
theorem made_good (xs : List Nat) : livesGood (madeL xs) := by
  have hall : ∀ q ∈ madeL xs, 0 ≤ sg (rn q) ∧ fits q 6 = true := fun q hq => by
    obtain ⟨h0, h1, h2⟩ := made_mem hq
    have h3 : 0 ≤ rn q := Rat.num_nonneg.2 h0
    refine ⟨?_, fits_of (lt_p10 h1 (by omega)) (lt_p10 h2 (by omega))⟩
    unfold sg; split <;> (try split) <;> omega
  by_cases hs : (wts xs).sum = 0
  · have e : madeL xs = [1] := by unfold madeL; rw [if_pos hs]
    rw [e] at hall ⊢
    exact ⟨by decide, by decide, by decide, rsg_zero.2 (by show (1 : Rat) + 0 = 1; grind), hall⟩
  · have hp : 0 < (wts xs).sum := by omega
    have e : madeL xs = (trimZ (wts xs)).map fun a => Rat.divInt ((a : Nat) : Int) (((wts xs).sum : Nat) : Int) := by unfold madeL; rw [if_neg hs]
    have hl : (madeL xs).length = (trimZ (wts xs)).length := by rw [e, List.length_map]
    have hl1 : 1 ≤ (trimZ (wts xs)).length := by
      cases h : trimZ (wts xs) with
      | nil => have := trim_sum (wts xs); rw [h] at this; simp at this; omega
      | cons a l => simp
    have hl2 : (trimZ (wts xs)).length ≤ 12 := by
      have h1 := trim_len (wts xs)
      have h2 := wts_len xs
      omega
    refine ⟨by omega, by omega, ?_, ?_, hall⟩
    · obtain ⟨x, hx⟩ : ∃ x, (trimZ (wts xs))[(trimZ (wts xs)).length - 1]? = some x := ⟨_, List.getElem?_eq_getElem (by omega)⟩
      have hx0 : x ≠ 0 := trim_last (by rw [List.getLast?_eq_getElem?]; exact hx)
      have hq : lastQ (madeL xs) = Rat.divInt ((x : Nat) : Int) (((wts xs).sum : Nat) : Int) := by
        unfold lastQ
        rw [hl, e, List.getElem?_map, hx]; rfl
      intro h
      have h1 := sgz_rn h
      rw [hq] at h1
      have h2 := divInt_s x (wts xs).sum hp
      rw [h1, Rat.zero_mul] at h2
      have : (0 : Int) = (x : Int) := by exact_mod_cast h2
      omega
    · rw [rsg_zero]
      have h1 := map_sum (wts xs).sum hp (trimZ (wts xs))
      rw [← e, trim_sum] at h1
      have h2 : ((((wts xs).sum : Nat) : Int) : Rat) ≠ 0 := by
        intro e2
        have : (((wts xs).sum : Nat) : Int) = 0 := by exact_mod_cast e2
        omega
      have h3 : ((madeL xs).sum - 1) * ((((wts xs).sum : Nat) : Int) : Rat) = 0 := by grind
      rcases Rat.mul_eq_zero.1 h3 with h4 | h4
      · grind
      · exact absurd h4 h2
/-- The texts of short numbers. -/
theorem texts_ok {qs : List Rat} (h : ∀ q ∈ qs, Short4 q) : allOK (qs.map nt) ∧ (qs.map nt).map parseQ = qs := by
  refine ⟨fun s hs => ?_, ?_⟩
  · obtain ⟨q, hq, rfl⟩ := List.mem_map.1 hs
    exact (parse_nt (h q hq)).1
  · rw [List.map_map]
    have : ∀ q ∈ qs, (parseQ ∘ nt) q = id q := fun q hq => (parse_nt (h q hq)).2
    rw [List.map_congr_left this]
    exact List.map_id _
theorem made_texts (xs : List Nat) : ∀ s ∈ (madeL xs).map nt, s.size ≤ 40 := fun s hs => by
  obtain ⟨q, hq, rfl⟩ := List.mem_map.1 hs
  obtain ⟨_, h1, h2⟩ := made_mem hq
  exact nt_small (lt_p10 h1 (by omega)) (lt_p10 h2 (by omega))
theorem made_lv (xs : List Nat) : Lv (madeL xs) := Lv.of (made_good xs)

end Go.Proofs.Ytcaeonpjokkjnaa

/- E1: the chances to last longer, with the renewals, add up to 1; the ages add up to 1. Plain. -/
namespace Go.Proofs.Ytcaeonpjokkjnaa
open Go

/-- The sum of the first n. -/
def sumTo (f : Nat → Rat) : Nat → Rat | 0 => 0 | n + 1 => sumTo f n + f n
theorem sumTo_congr {f g : Nat → Rat} : ∀ n, (∀ j, j < n → f j = g j) → sumTo f n = sumTo g n
  | 0, _ => rfl
  | n + 1, h => by rw [sumTo, sumTo, sumTo_congr n fun j hj => h j (by omega), h n (by omega)]
theorem sumTo_shift (f : Nat → Rat) : ∀ n, sumTo f (n + 1) = f 0 + sumTo (fun j => f (j + 1)) n
  | 0 => by simp [sumTo]; grind
  | n + 1 => by rw [sumTo, sumTo_shift f n, sumTo]; grind
theorem sumTo_sub (f g : Nat → Rat) : ∀ n, sumTo (fun j => f j - g j) n = sumTo f n - sumTo g n
  | 0 => by simp [sumTo]; grind
  | n + 1 => by rw [sumTo, sumTo_sub f g n, sumTo, sumTo]; grind
theorem psum_nth (l : List Rat) (n : Nat) : psum l n + nth l n = psum l (n + 1) := by
  unfold nth
  cases h : l[n]? with
  | some q => exact psum_next l n q h
  | none =>
    have hn : l.length ≤ n := List.getElem?_eq_none_iff.1 h
    unfold psum
    rw [List.take_of_length_le hn, List.take_of_length_le (by omega)]
    simp
    grind
theorem psum_sumTo (l : List Rat) : ∀ n, psum l n = sumTo (nth l) n
  | 0 => by simp [psum, sumTo]
  | n + 1 => by rw [← psum_nth, psum_sumTo l n, sumTo]
theorem nth_zip (xs ys : List Rat) (j : Nat) : nth (List.zipWith (· * ·) xs ys) j = nth xs j * nth ys j := by
  unfold nth
  rw [List.getElem?_zipWith]
  cases xs[j]? with
  | none => simp
  | some x => cases ys[j]? with
    | none => simp
    | some y => rfl
theorem dotl_sumTo (xs ys : List Rat) (n : Nat) (h : ys.length ≤ n) : dotl xs ys = sumTo (fun j => nth xs j * nth ys j) n := by
  have h1 : dotl xs ys = psum (List.zipWith (· * ·) xs ys) n := by
    unfold dotl psum
    rw [List.take_of_length_le (by rw [List.length_zipWith]; omega)]
  rw [h1, psum_sumTo]
  exact sumTo_congr n fun j _ => nth_zip xs ys j

/-- The i-th renewal. -/
def uf (ps : List Rat) (i : Nat) : Rat := nth (uL ps i) i
theorem uL_at (ps : List Rat) (i : Nat) : ∀ k, i ≤ k → (uL ps k)[i]? = some (uf ps i)
  | 0, h => by
    have : i = 0 := by omega
    subst this
    rfl
  | k + 1, h => by
    by_cases e : i = k + 1
    · subst e
      have hl := uL_length ps (k + 1)
      unfold uf nth
      rw [List.getElem?_eq_getElem (by omega)]; rfl
    · rw [uL, List.getElem?_append_left (by rw [uL_length]; omega)]
      exact uL_at ps i k (by omega)
theorem uf_zero (ps : List Rat) : uf ps 0 = 1 := rfl
theorem uf_rev (ps : List Rat) {k j : Nat} (h : j ≤ k) : nth (uL ps k).reverse j = uf ps (k - j) := by
  unfold nth
  rw [List.getElem?_reverse (by rw [uL_length]; omega), uL_length, show k + 1 - 1 - j = k - j by omega, uL_at ps (k - j) k (by omega)]; rfl
theorem uf_succ (ps : List Rat) (k : Nat) : uf ps (k + 1) = sumTo (fun j => nth ps j * uf ps (k - j)) (k + 1) := by
  have h1 : uf ps (k + 1) = dotl ps (uL ps k).reverse := by
    unfold uf nth
    rw [uL, List.getElem?_append_right (by rw [uL_length]; exact Nat.le_refl _), uL_length, Nat.sub_self]; rfl
  rw [h1, dotl_sumTo ps _ (k + 1) (by rw [List.length_reverse, uL_length]; exact Nat.le_refl _)]
  exact sumTo_congr _ fun j hj => by rw [uf_rev ps (by omega)]
theorem left_nx (ps : List Rat) (j : Nat) : left ps (j + 1) = left ps j - nth ps j := by
  unfold left
  rw [← psum_nth]
  grind
theorem left_0 (ps : List Rat) : left ps 0 = 1 := by unfold left psum; simp; grind

/-- E1. -/
theorem ages_one (ps : List Rat) : ∀ i, sumTo (fun j => left ps j * uf ps (i - j)) (i + 1) = 1
  | 0 => by
    simp only [sumTo]
    rw [left_0, uf_zero]
    grind
  | i + 1 => by
    have ih := ages_one ps i
    rw [sumTo_shift]
    have h1 : sumTo (fun j => left ps (j + 1) * uf ps (i + 1 - (j + 1))) (i + 1) = sumTo (fun j => left ps j * uf ps (i - j) - nth ps j * uf ps (i - j)) (i + 1) :=
      sumTo_congr _ fun j _ => by
        rw [left_nx, show i + 1 - (j + 1) = i - j by omega]
        grind
    rw [h1, sumTo_sub, ih, ← uf_succ, left_0, Nat.sub_zero]
    grind

/-- The ages in the long run add up to 1. -/
theorem map_div (m : Rat) : ∀ l : List Rat, (l.map (· / m)).sum = l.sum / m
  | [] => by simp; grind
  | q :: l => by
    rw [List.map_cons, List.sum_cons, List.sum_cons, map_div m l, Rat.div_def, Rat.div_def, Rat.div_def]
    grind
theorem ages_sum {ps : List Rat} (h : meanQ ps ≠ 0) : (agesL ps).sum = 1 := by
  unfold agesL
  rw [map_div]
  show meanQ ps / meanQ ps = 1
  have := Rat.div_mul_cancel (a := meanQ ps) h
  rw [Rat.div_def]
  exact Rat.mul_inv_cancel _ h

end Go.Proofs.Ytcaeonpjokkjnaa
