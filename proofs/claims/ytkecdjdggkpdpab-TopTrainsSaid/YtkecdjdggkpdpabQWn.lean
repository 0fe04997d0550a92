/- Dq Dqb Rs -/
import Derived.Test.YtkecdjdggkpdpabQWe
import Derived.Test.YtkecdjdggkpdpabQWk
import Derived.Test.YtkecdjdggkpdpabQWi
set_option linter.unusedVariables false
/- Decimal digits in blocks of four. Plain. -/
namespace Go.Proofs.Ytkecdjdggkpdpab

/-- The bytes from lo to hi are digits. -/
def DigR (s : ByteArray) (lo hi : Nat) : Prop := ∀ (i : Nat) (h : i < s.size), lo ≤ i → i < hi → 48 ≤ (s[i]'h).toNat ∧ (s[i]'h).toNat ≤ 57
theorem DigR.next {s : ByteArray} {lo k : Nat} (h : DigR s lo k) (hk : k < s.size) (h1 : 48 ≤ (s[k]'hk).toNat) (h2 : (s[k]'hk).toNat ≤ 57) : DigR s lo (k + 1) := fun i hi hl hik => by
  by_cases e : i = k
  · subst e; exact ⟨h1, h2⟩
  · exact h i hi hl (by omega)
theorem DigR.glue {s : ByteArray} {a b c : Nat} (h : DigR s a b) (h' : DigR s b c) : DigR s a c := fun i hi hl hic => by
  by_cases e : i < b
  · exact h i hi hl e
  · exact h' i hi (by omega) hic
theorem dg_le_r {s : ByteArray} {lo hi : Nat} (h : DigR s lo hi) {k : Nat} (h1 : lo ≤ k) (h2 : k < hi) : dg s k ≤ 9 := by
  unfold dg
  split
  · rename_i hk; have := h k hk h1 h2; omega
  · omega
theorem gv_lt_r {s : ByteArray} (k : Nat) : ∀ j, DigR s k (k + j) → gv s k j < p10 j
  | 0 => fun _ => by simp [gv, p10]
  | j + 1 => fun h => by
    have h1 := gv_lt_r k j (fun i hi hl hij => h i hi hl (by omega))
    have h2 := dg_le_r h (k := k + j) (by omega) (by omega)
    rw [← p10_next]; simp only [gv]; omega
theorem gv_split (s : ByteArray) (k i : Nat) : ∀ j, gv s k (i + j) = gv s k i * p10 j + gv s (k + i) j
  | 0 => by simp [gv, p10]
  | j + 1 => by
    have h1 := gv_split s k i j
    rw [← p10_next, ← Nat.add_assoc, gv, gv, h1, Nat.mul_add, Nat.mul_left_comm (gv s k i) 10 (p10 j), Nat.add_assoc k i j]
    omega
theorem gv_rv (s : ByteArray) : ∀ j, gv s 0 j = rv s j
  | 0 => rfl
  | j + 1 => by simp only [gv, rv]; rw [gv_rv s j, Nat.zero_add]
theorem p10_four (k : Nat) : p10 (4 * k) = B4 ^ k := by unfold p10 B4; rw [Nat.pow_mul]
theorem p10_mono {i j : Nat} (h : i ≤ j) : p10 i ≤ p10 j := Nat.pow_le_pow_right (by omega) h

/-- After k blocks of the text's end. -/
def BlkInv (s : ByteArray) (n k : Nat) (os : List Nat) : Prop :=
  os.length = k ∧ Lt B4 os ∧ val B4 os = gv s (n - 4 * k) (n - (n - 4 * k)) ∧ DigR s (n - 4 * k) n ∧ (k = 0 ∨ 4 * k < n + 4)
theorem BlkInv.start (s : ByteArray) (n : Nat) : BlkInv s n 0 [] := ⟨rfl, fun x hx => by simp at hx, by simp [gv, val], fun i hi hl hh => by omega, Or.inl rfl⟩
theorem BlkInv.step {s : ByteArray} {n k lo : Nat} {os : List Nat} (h : BlkInv s n k os) (hk : 4 * k < n) (hlo : lo = n - 4 * (k + 1)) (hD : DigR s lo (n - 4 * k)) : BlkInv s n (k + 1) (os ++ [gv s lo (n - 4 * k - lo)]) := by
  obtain ⟨h1, h2, h3, h4, h5⟩ := h
  have hlt : gv s lo (n - 4 * k - lo) < p10 (n - 4 * k - lo) := gv_lt_r lo _ (by rw [show lo + (n - 4 * k - lo) = n - 4 * k by omega]; exact hD)
  have h6 : p10 (n - 4 * k - lo) ≤ 10000 := Nat.le_trans (p10_mono (show _ ≤ 4 by omega)) (by decide)
  refine ⟨by simp [h1], ?_, ?_, ?_, Or.inr (by omega)⟩
  · intro x hx
    rw [List.mem_append] at hx
    rcases hx with hx | hx
    · exact h2 x hx
    · simp at hx; subst hx; unfold B4; omega
  · have e1 : n - lo = (n - 4 * k - lo) + (n - (n - 4 * k)) := by omega
    rw [← hlo, e1, gv_split, show lo + (n - 4 * k - lo) = n - 4 * k by omega, ← h3, val_append, h1, show n - (n - 4 * k) = 4 * k by omega, p10_four]
    simp [val, Nat.mul_comm, Nat.add_comm]
  · rw [← hlo]; exact hD.glue h4
theorem BlkInv.done {s : ByteArray} {n k : Nat} {os : List Nat} (h : BlkInv s n k os) (hk : ¬ 4 * k < n) : val B4 os = rv s n := by
  obtain ⟨h1, h2, h3, h4, h5⟩ := h
  rw [h3, show n - 4 * k = 0 by omega, gv_rv]; rfl

/-- Texts set beside each other. -/
theorem dg_left (s t : ByteArray) {k : Nat} (h : k < s.size) : dg (s ++ t) k = dg s k := by
  unfold dg
  rw [dif_pos (by rw [ByteArray.size_append]; omega), dif_pos h, ByteArray.getElem_append_left]
theorem dg_right (s t : ByteArray) (k : Nat) : dg (s ++ t) (s.size + k) = dg t k := by
  unfold dg
  by_cases h : k < t.size
  · rw [dif_pos (by rw [ByteArray.size_append]; omega), dif_pos h, ByteArray.getElem_append_right (by omega)]
    simp
  · rw [dif_neg (by rw [ByteArray.size_append]; omega), dif_neg h]
theorem rv_left (s t : ByteArray) : ∀ k, k ≤ s.size → rv (s ++ t) k = rv s k
  | 0, _ => rfl
  | k + 1, h => by simp only [rv]; rw [rv_left s t k (by omega), dg_left s t (by omega)]
theorem gv_right (s t : ByteArray) : ∀ k, gv (s ++ t) s.size k = gv t 0 k
  | 0 => rfl
  | k + 1 => by simp only [gv]; rw [gv_right s t k, dg_right, Nat.zero_add]
theorem rv_append (s t : ByteArray) : rv (s ++ t) (s ++ t).size = rv s s.size * p10 t.size + rv t t.size := by
  rw [ByteArray.size_append, ← rv_gv, rv_left s t _ (Nat.le_refl _), gv_right, gv_rv]
theorem Digs.append {s t : ByteArray} (h : Digs s s.size) (h' : Digs t t.size) : Digs (s ++ t) (s ++ t).size := fun i hi _ => by
  rw [ByteArray.size_append] at hi
  by_cases e : i < s.size
  · rw [ByteArray.getElem_append_left (h := by rw [ByteArray.size_append]; omega) e]; exact h i e e
  · rw [ByteArray.getElem_append_right (h := by rw [ByteArray.size_append]; omega) (by omega)]; exact h' _ (by omega) (by omega)

end Go.Proofs.Ytkecdjdggkpdpab

/- The text of a number, out of blocks of four digits. Plain. -/
namespace Go.Proofs.Ytkecdjdggkpdpab

/-- Four digits. -/
def four (d : Nat) : ByteArray := ⟨#[UInt8.ofNat (48 + d / 1000), UInt8.ofNat (48 + d / 100 % 10), UInt8.ofNat (48 + d / 10 % 10), UInt8.ofNat (48 + d % 10)]⟩
theorem four_size (d : Nat) : (four d).size = 4 := rfl
theorem ofNat_dg {x : Nat} (h : x ≤ 9) : (UInt8.ofNat (48 + x)).toNat = 48 + x := by
  rw [UInt8.toNat_ofNat']; omega
theorem four_dg (d : Nat) (h : d < 10000) : dg (four d) 0 = d / 1000 ∧ dg (four d) 1 = d / 100 % 10 ∧ dg (four d) 2 = d / 10 % 10 ∧ dg (four d) 3 = d % 10 := by
  refine ⟨?_, ?_, ?_, ?_⟩
  · rw [dg, dif_pos (show 0 < (four d).size by rw [four_size]; omega)]
    show (UInt8.ofNat (48 + d / 1000)).toNat - 48 = _
    rw [ofNat_dg (by omega)]; omega
  · rw [dg, dif_pos (show 1 < (four d).size by rw [four_size]; omega)]
    show (UInt8.ofNat (48 + d / 100 % 10)).toNat - 48 = _
    rw [ofNat_dg (by omega)]; omega
  · rw [dg, dif_pos (show 2 < (four d).size by rw [four_size]; omega)]
    show (UInt8.ofNat (48 + d / 10 % 10)).toNat - 48 = _
    rw [ofNat_dg (by omega)]; omega
  · rw [dg, dif_pos (show 3 < (four d).size by rw [four_size]; omega)]
    show (UInt8.ofNat (48 + d % 10)).toNat - 48 = _
    rw [ofNat_dg (by omega)]; omega
theorem four_rv (d : Nat) (h : d < 10000) : rv (four d) (four d).size = d := by
  obtain ⟨h0, h1, h2, h3⟩ := four_dg d h
  rw [four_size]
  show 10 * (10 * (10 * (10 * 0 + dg (four d) 0) + dg (four d) 1) + dg (four d) 2) + dg (four d) 3 = d
  rw [h0, h1, h2, h3]; omega
theorem four_digs (d : Nat) (h : d < 10000) : Digs (four d) (four d).size := fun i hi _ => by
  have hi4 : i < 4 := hi
  rcases i with _ | _ | _ | _ | i
  · show 48 ≤ (UInt8.ofNat (48 + d / 1000)).toNat ∧ (UInt8.ofNat (48 + d / 1000)).toNat ≤ 57
    rw [ofNat_dg (by omega)]; omega
  · show 48 ≤ (UInt8.ofNat (48 + d / 100 % 10)).toNat ∧ (UInt8.ofNat (48 + d / 100 % 10)).toNat ≤ 57
    rw [ofNat_dg (by omega)]; omega
  · show 48 ≤ (UInt8.ofNat (48 + d / 10 % 10)).toNat ∧ (UInt8.ofNat (48 + d / 10 % 10)).toNat ≤ 57
    rw [ofNat_dg (by omega)]; omega
  · show 48 ≤ (UInt8.ofNat (48 + d % 10)).toNat ∧ (UInt8.ofNat (48 + d % 10)).toNat ≤ 57
    rw [ofNat_dg (by omega)]; omega
  · omega

/-- The text of the blocks from i on. -/
def FInv (N i : Nat) (s : ByteArray) : Prop := i ≤ L B4 N ∧ s.size = 4 * (L B4 N - i) ∧ Digs s s.size ∧ rv s s.size = N / B4 ^ i
theorem FInv.start (N : Nat) : FInv N (L B4 N) ⟨#[]⟩ := by
  refine ⟨Nat.le_refl _, by simp; rfl, fun i hi _ => absurd hi (Nat.not_lt_zero i), ?_⟩
  show 0 = _
  rw [Nat.div_eq_of_lt (lt_pow_L two_le_B4 N)]
theorem FInv.step {N i : Nat} {s : ByteArray} (h : FInv N (i + 1) s) : FInv N i (s ++ four (N / B4 ^ i % 10000)) := by
  obtain ⟨h1, h2, h3, h4⟩ := h
  have hlt : N / B4 ^ i % 10000 < 10000 := Nat.mod_lt _ (by omega)
  refine ⟨by omega, by rw [ByteArray.size_append, h2, four_size]; omega, h3.append (four_digs _ hlt), ?_⟩
  rw [rv_append, h4, four_rv _ hlt, four_size, Nat.pow_succ, ← Nat.div_div_eq_div_mul]
  show N / B4 ^ i / 10000 * 10000 + _ = _
  omega

/-- A text whose digits are a number's. -/
def FTxt (N : Nat) (s : ByteArray) : Prop := s.size ≤ 4000 ∧ Digs s s.size ∧ rv s s.size = N
theorem FInv.done {N : Nat} {s : ByteArray} (h : FInv N 0 s) (hN : L B4 N ≤ 1000) : FTxt N s := by
  obtain ⟨h1, h2, h3, h4⟩ := h
  exact ⟨by omega, h3, by rw [h4]; simp⟩
theorem dg_sub (s : ByteArray) (k : Nat) (hk : 1 ≤ s.size) : dg (sub s 1) k = dg s (1 + k) := by
  have hs := sub_size s hk
  unfold dg
  by_cases h : k < (sub s 1).size
  · rw [dif_pos h, dif_pos (by omega)]
    have h' : k < (s.extract 1 s.size).size := h
    show ((s.extract 1 s.size)[k]'h').toNat - 48 = _
    rw [ByteArray.getElem_extract]
  · rw [dif_neg h, dif_neg (by omega)]
theorem rv_sub (s : ByteArray) (hk : 1 ≤ s.size) : ∀ k, rv (sub s 1) k = gv s 1 k
  | 0 => rfl
  | k + 1 => by simp only [rv, gv]; rw [rv_sub s hk k, dg_sub s k hk]
theorem FTxt.pos {N : Nat} {s : ByteArray} (h : FTxt N s) (hN : 0 < N) : 0 < s.size := by
  refine Nat.pos_of_ne_zero fun e => ?_
  have := h.2.2
  rw [e] at this
  simp [rv] at this
  omega
theorem FTxt.strip {N : Nat} {s : ByteArray} (h : FTxt N s) (hp : 0 < s.size) (h0 : (s[0]'hp).toNat = 48) : FTxt N (sub s 1) := by
  obtain ⟨h1, h2, h3⟩ := h
  have hs := sub_size s (k := 1) hp
  refine ⟨by omega, ?_, ?_⟩
  · intro i hi _
    have h' : i < (s.extract 1 s.size).size := hi
    show 48 ≤ ((s.extract 1 s.size)[i]'h').toNat ∧ ((s.extract 1 s.size)[i]'h').toNat ≤ 57
    rw [ByteArray.getElem_extract]
    exact h2 _ _ (by omega)
  · rw [rv_sub s hp, hs, ← h3]
    have e := rv_gv s 1 (s.size - 1)
    rw [show 1 + (s.size - 1) = s.size by omega] at e
    have e1 : rv s 1 = 0 := by simp [rv]; unfold dg; rw [dif_pos hp, h0]
    rw [e1] at e
    omega
theorem FTxt.end {N : Nat} {s : ByteArray} (h : FTxt N s) (hp : 0 < s.size) (h0 : (s[0]'hp).toNat ≠ 48) : s = dec N := by
  obtain ⟨h1, h2, h3⟩ := h
  rw [← h3, dec_rv ⟨h2, by omega, fun hh => h0 hh.1.2, h1⟩]

end Go.Proofs.Ytkecdjdggkpdpab

/- Walks of the reference's rows of texts: SameRow. -/
namespace Go.Proofs.Ytkecdjdggkpdpab
open Go Go.RowKit Go.Proofs

theorem toList_ne_of {s t : ByteArray} (h : s ≠ t) : (s.toList == t.toList) = false := by
  rw [beq_eq_false_iff_ne]
  intro e
  apply h
  rw [ByteArray.toList_eq, ByteArray.toList_eq] at e
  apply ByteArray.ext
  exact Array.toList_inj.1 e

/-- The first k texts are the same. -/
def sameTo (xs ys : List ByteArray) (k : Nat) : Prop := ∀ i, i < k → xs[i]? = ys[i]?
theorem sameTo.next {xs ys : List ByteArray} {k : Nat} (h : sameTo xs ys k) (h1 : xs[k]? = ys[k]?) : sameTo xs ys (k + 1) := fun i hi => by
  by_cases e : i = k
  · subst e; exact h1
  · exact h i (by omega)
theorem sameTo.all {xs ys : List ByteArray} {n : Nat} (h : sameTo xs ys n) (h1 : xs.length = n) (h2 : ys.length = n) : xs = ys := by
  apply List.ext_getElem?
  intro i
  by_cases hi : i < n
  · exact h i hi
  · rw [List.getElem?_eq_none (by omega), List.getElem?_eq_none (by omega)]

end Go.Proofs.Ytkecdjdggkpdpab
