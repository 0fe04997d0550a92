/- Bv -/
import Derived.Test.YtcaeonpjokkjnaaKEb
import Derived.Test.YtcaeonpjokkjnaaKXf
import Derived.Test.YtcaeonpjokkjnaaKRb
import Derived.Test.YtcaeonpjokkjnaaKRa
import Derived.Test.YtcaeonpjokkjnaaKXg
set_option linter.unusedVariables false
/- Back of short renewals: what the laws E2 and E3 want of it. -/
namespace Go.Proofs.Ytcaeonpjokkjnaa
open Go Go.RowKit Go.Proofs

theorem nt_sz {q : Rat} {e : Nat} (he : 1 ≤ e) (h1 : (rn q).natAbs < p10 e) (h2 : (rd q).natAbs < p10 e) : (nt q).size ≤ 2 * e + 2 := by
  have hd : ∀ n : Nat, n < p10 e → (dec n).data.toList.length ≤ e := fun n hn => by
    rw [size_list, dec_size]
    split
    · omega
    · exact L_of_p10 hn
  have a := hd _ h1
  have b := hd _ h2
  rw [← size_list, nt_list]
  unfold sdec
  rw [List.length_append, List.length_append]
  have c : (if ng (rn q) then [(45 : UInt8)] else []).length ≤ 1 := by split <;> simp
  have d : (if !isInt q then 47 :: (dec (rd q).natAbs).data.toList else []).length ≤ e + 1 := by
    split
    · rw [List.length_cons]; omega
    · simp
  omega
theorem made_iz (xs : List Nat) : ∃ s, 0 < s ∧ s ≤ 108 ∧ ∀ q ∈ madeL xs, Iz s q := by
  have hs := wts_sum xs
  by_cases h : (wts xs).sum = 0
  · refine ⟨1, by omega, by omega, fun q hq => ?_⟩
    unfold madeL at hq
    rw [if_pos h] at hq
    rw [List.mem_singleton.1 hq]
    exact Iz.one 1
  · refine ⟨(wts xs).sum, by omega, hs, fun q hq => ?_⟩
    unfold madeL at hq
    rw [if_neg h] at hq
    obtain ⟨a, _, rfl⟩ := List.mem_map.1 hq
    exact ⟨(a : Int), divInt_s a _ (by omega)⟩
theorem iz_nth {s : Nat} {ps : List Rat} (h : ∀ q ∈ ps, Iz s q) (j : Nat) : Iz s (nth ps j) := by
  unfold nth
  cases e : ps[j]? with
  | none => exact Iz.zero s
  | some q => exact h q (List.mem_of_getElem? e)
theorem iz_sumTo {d : Nat} {f : Nat → Rat} : ∀ n, (∀ j, j < n → Iz d (f j)) → Iz d (sumTo f n)
  | 0, _ => Iz.zero d
  | n + 1, h => (iz_sumTo n fun j hj => h j (Nat.lt_succ_of_lt hj)).add (h n (Nat.lt_succ_self n))
theorem uf_iz {s : Nat} {ps : List Rat} (h : ∀ q ∈ ps, Iz s q) : ∀ n, Iz (s ^ n) (uf ps n) := by
  intro n
  induction n using Nat.strongRecOn with
  | _ n ih =>
    cases n with
    | zero => exact Iz.one _
    | succ n =>
      rw [uf_succ]
      refine iz_sumTo _ fun j hj => ?_
      have h1 := ((iz_nth h j).mul (ih (n - j) (by omega))).up (s ^ j)
      have e : s * s ^ (n - j) * s ^ j = s ^ (n + 1) := by
        rw [Nat.mul_assoc, ← Nat.pow_add, show n - j + j = n by omega, Nat.pow_succ, Nat.mul_comm]
      rw [e] at h1
      exact h1
theorem uf_bound {ps : List Rat} (h : Lv ps) (k : Nat) : 0 ≤ uf ps k ∧ uf ps k ≤ 1 := by
  have h1 := h.us k (uf ps k) (List.mem_of_getElem? (uL_at ps k k (Nat.le_refl k)))
  exact ⟨h1.1, h1.2.1⟩
theorem uf_text {xs : List Nat} {k : Nat} (hk : k ≤ 8) : (nt (uf (madeL xs) k)).size ≤ 40 := by
  obtain ⟨s, h0, h1, h2⟩ := made_iz xs
  obtain ⟨a, b⟩ := uf_bound (made_lv xs) k
  obtain ⟨b1, b2⟩ := ((uf_iz h2 k).bd (k := 1) a (by exact b)).parts (Nat.pow_pos h0)
  have h8 : s ^ k ≤ 108 ^ 8 := Nat.le_trans (Nat.pow_le_pow_left h1 k) (Nat.pow_le_pow_right (by omega) hk)
  have h9 : (108 : Nat) ^ 8 < p10 18 := by decide
  exact Nat.le_trans (nt_sz (e := 18) (by omega) (by omega) (by omega)) (by omega)
theorem uL_texts {xs : List Nat} {k : Nat} (hk : k ≤ 8) : ∀ s ∈ (uL (madeL xs) k).map nt, s.size ≤ 40 := fun s hs => by
  obtain ⟨q, hq, rfl⟩ := List.mem_map.1 hs
  obtain ⟨i, hi⟩ := List.mem_iff_getElem?.1 hq
  have hl : i < k + 1 := by
    have := (List.getElem?_eq_some_iff.1 hi).1
    rw [uL_length] at this; exact this
  rw [uL_at _ i k (by omega)] at hi
  injection hi with hi
  rw [← hi]
  exact uf_text (by omega)
theorem nt_zero : nt 0 = ⟨#[48]⟩ := by decide

/-- Back of n renewals behind the first. -/
theorem back_two (us : List Rat) (n l : Nat) (hl : us.length = l) (hn : n + 1 = l) (hn8 : n ≤ 8) (h4 : ∀ q ∈ us, Short4 q) (h40 : ∀ s ∈ us.map nt, s.size ≤ 40) :
    (rensE (us.map nt) 1 ∧ ∀ (v : World) (a : Option Addr) (c : Nat), SL v a (us.map nt) → Calls Try.prog 23 #[.slice a l c] v (RetErr v 1)) ∨
    (rensE (us.map nt) 0 ∧ (∀ q ∈ bkL us n, Short4 q) ∧ ∀ (v : World) (a : Option Addr) (c : Nat), SL v a (us.map nt) → Calls Try.prog 23 #[.slice a l c] v (RetNums v ((bkL us n).map nt))) := by
  have hml : (us.map nt).length = l := by rw [List.length_map]; exact hl
  obtain ⟨hok, hpq⟩ := texts_ok h4
  have hlg : ∀ s ∈ us.map nt, s.size ≤ 4611686018427387904 := fun s hs => by have := h40 s hs; omega
  obtain ⟨k, hk⟩ := rensE.ex (us.map nt)
  have hk2 := hk
  rcases hk2 with ⟨h1, rfl⟩ | ⟨_, h2, rfl⟩ | ⟨_, _, _, rfl⟩ | ⟨_, _, hg, rfl⟩
  · rw [hml] at h1; omega
  · exact absurd hok h2
  · exact Or.inl ⟨hk, fun v a c hS => back_k 1 a c l _ v (Or.inl rfl) hk hml hS h40⟩
  · have hg2 := hg
    rw [hpq] at hg2
    have hB := bs_of (us := us) (n := n) (e := 6) (by omega) hg2.1 (by
      have : (6 + 6 * (n + 1)) * n ≤ 60 * 8 := Nat.mul_le_mul (by omega) hn8
      omega)
    have hsz : ∀ q ∈ us, Sz q := by
      have := own_sz hok h40
      rw [hpq] at this
      exact this
    refine Or.inr ⟨hk, fun q hq => hB.all4 (Nat.le_refl _) q hq, fun v a c hS => ?_⟩
    have h2 := back_good a c l (us.map nt) v hml hS (by omega) (by omega) hlg hok (by rw [hpq]; exact hsz) hg n hn (by rw [hpq]; exact hB.backSz hsz)
    rw [hpq] at h2
    exact h2

end Go.Proofs.Ytcaeonpjokkjnaa
