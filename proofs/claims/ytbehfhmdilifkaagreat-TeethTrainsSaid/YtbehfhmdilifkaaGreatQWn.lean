/- Dq -/
import Derived.Test.YtbehfhmdilifkaaGreatQWe
import Derived.Test.YtbehfhmdilifkaaGreatQWk
set_option linter.unusedVariables false
/- Decimal digits in blocks of four. Plain. -/
namespace Go.Proofs.YtbehfhmdilifkaaGreat

/-- The bytes from lo to hi are digits. -/
def DigR (s : ByteArray) (lo hi : Nat) : Prop := ∀ (i : Nat) (h : i < s.size), lo ≤ i → i < hi → 48 ≤ (s[i]'h).toNat ∧ (s[i]'h).toNat ≤ 57
theorem DigR.next {s : ByteArray} {lo k : Nat} (h : DigR s lo k) (hk : k < s.size) (h1 : 48 ≤ (s[k]'hk).toNat) (h2 : (s[k]'hk).toNat ≤ 57) : DigR s lo (k + 1) := fun i hi hl hik => by
  by_cases e : i = k
  · subst e; exact ⟨h1, h2⟩
  · exact h i hi hl (by omega)
theorem DigR.glue {s : ByteArray} {a b c : Nat} (h : DigR s a b) (h' : DigR s b c) : DigR s a c := fun i hi hl hic => by
  by_cases e : i < b
  · exact h i hi hl e
  · exact h' i hi (by omega) hic
theorem dg_le_r {s : ByteArray} {lo hi : Nat} (h : DigR s lo hi) {k : Nat} (h1 : lo ≤ k) (h2 : k < hi) : dg s k ≤ 9 := by
  unfold dg
  split
  · rename_i hk; have := h k hk h1 h2; omega
  · omega
theorem gv_lt_r {s : ByteArray} (k : Nat) : ∀ j, DigR s k (k + j) → gv s k j < p10 j
  | 0 => fun _ => by simp [gv, p10]
  | j + 1 => fun h => by
    have h1 := gv_lt_r k j (fun i hi hl hij => h i hi hl (by omega))
    have h2 := dg_le_r h (k := k + j) (by omega) (by omega)
    rw [← p10_next]; simp only [gv]; omega
theorem gv_split (s : ByteArray) (k i : Nat) : ∀ j, gv s k (i + j) = gv s k i * p10 j + gv s (k + i) j
  | 0 => by simp [gv, p10]
  | j + 1 => by
    have h1 := gv_split s k i j
    rw [← p10_next, ← Nat.add_assoc, gv, gv, h1, Nat.mul_add, Nat.mul_left_comm (gv s k i) 10 (p10 j), Nat.add_assoc k i j]
    omega
theorem gv_rv (s : ByteArray) : ∀ j, gv s 0 j = rv s j
  | 0 => rfl
  | j + 1 => by simp only [gv, rv]; rw [gv_rv s j, Nat.zero_add]
theorem p10_four (k : Nat) : p10 (4 * k) = B4 ^ k := by unfold p10 B4; rw [Nat.pow_mul]
theorem p10_mono {i j : Nat} (h : i ≤ j) : p10 i ≤ p10 j := Nat.pow_le_pow_right (by omega) h

/-- After k blocks of the text's end. -/
def BlkInv (s : ByteArray) (n k : Nat) (os : List Nat) : Prop :=
  os.length = k ∧ Lt B4 os ∧ val B4 os = gv s (n - 4 * k) (n - (n - 4 * k)) ∧ DigR s (n - 4 * k) n ∧ (k = 0 ∨ 4 * k < n + 4)
theorem BlkInv.start (s : ByteArray) (n : Nat) : BlkInv s n 0 [] := ⟨rfl, fun x hx => by simp at hx, by simp [gv, val], fun i hi hl hh => by omega, Or.inl rfl⟩
theorem BlkInv.step {s : ByteArray} {n k lo : Nat} {os : List Nat} (h : BlkInv s n k os) (hk : 4 * k < n) (hlo : lo = n - 4 * (k + 1)) (hD : DigR s lo (n - 4 * k)) : BlkInv s n (k + 1) (os ++ [gv s lo (n - 4 * k - lo)]) := by
  obtain ⟨h1, h2, h3, h4, h5⟩ := h
  have hlt : gv s lo (n - 4 * k - lo) < p10 (n - 4 * k - lo) := gv_lt_r lo _ (by rw [show lo + (n - 4 * k - lo) = n - 4 * k by omega]; exact hD)
  have h6 : p10 (n - 4 * k - lo) ≤ 10000 := Nat.le_trans (p10_mono (show _ ≤ 4 by omega)) (by decide)
  refine ⟨by simp [h1], ?_, ?_, ?_, Or.inr (by omega)⟩
  · intro x hx
    rw [List.mem_append] at hx
    rcases hx with hx | hx
    · exact h2 x hx
    · simp at hx; subst hx; unfold B4; omega
  · have e1 : n - lo = (n - 4 * k - lo) + (n - (n - 4 * k)) := by omega
    rw [← hlo, e1, gv_split, show lo + (n - 4 * k - lo) = n - 4 * k by omega, ← h3, val_append, h1, show n - (n - 4 * k) = 4 * k by omega, p10_four]
    simp [val, Nat.mul_comm, Nat.add_comm]
  · rw [← hlo]; exact hD.glue h4
theorem BlkInv.done {s : ByteArray} {n k : Nat} {os : List Nat} (h : BlkInv s n k os) (hk : ¬ 4 * k < n) : val B4 os = rv s n := by
  obtain ⟨h1, h2, h3, h4, h5⟩ := h
  rw [h3, show n - 4 * k = 0 by omega, gv_rv]; rfl

/-- Texts set beside each other. -/
theorem dg_left (s t : ByteArray) {k : Nat} (h : k < s.size) : dg (s ++ t) k = dg s k := by
  unfold dg
  rw [dif_pos (by rw [ByteArray.size_append]; omega), dif_pos h, ByteArray.getElem_append_left]
theorem dg_right (s t : ByteArray) (k : Nat) : dg (s ++ t) (s.size + k) = dg t k := by
  unfold dg
  by_cases h : k < t.size
  · rw [dif_pos (by rw [ByteArray.size_append]; omega), dif_pos h, ByteArray.getElem_append_right (by omega)]
    simp
  · rw [dif_neg (by rw [ByteArray.size_append]; omega), dif_neg h]
theorem rv_left (s t : ByteArray) : ∀ k, k ≤ s.size → rv (s ++ t) k = rv s k
  | 0, _ => rfl
  | k + 1, h => by simp only [rv]; rw [rv_left s t k (by omega), dg_left s t (by omega)]
theorem gv_right (s t : ByteArray) : ∀ k, gv (s ++ t) s.size k = gv t 0 k
  | 0 => rfl
  | k + 1 => by simp only [gv]; rw [gv_right s t k, dg_right, Nat.zero_add]
theorem rv_append (s t : ByteArray) : rv (s ++ t) (s ++ t).size = rv s s.size * p10 t.size + rv t t.size := by
  rw [ByteArray.size_append, ← rv_gv, rv_left s t _ (Nat.le_refl _), gv_right, gv_rv]
theorem Digs.append {s t : ByteArray} (h : Digs s s.size) (h' : Digs t t.size) : Digs (s ++ t) (s ++ t).size := fun i hi _ => by
  rw [ByteArray.size_append] at hi
  by_cases e : i < s.size
  · rw [ByteArray.getElem_append_left (h := by rw [ByteArray.size_append]; omega) e]; exact h i e e
  · rw [ByteArray.getElem_append_right (h := by rw [ByteArray.size_append]; omega) (by omega)]; exact h' _ (by omega) (by omega)

end Go.Proofs.YtbehfhmdilifkaaGreat
