/- Dq Dqb Ps Rs Rsh Fs -/
import Derived.Test.YtbehfhmdilifkaaGreatQWe
import Derived.Test.YtbehfhmdilifkaaGreatQWk
import Derived.Test.YtbehfhmdilifkaaGreatQWf
import Derived.Test.YtbehfhmdilifkaaGreatQWi
set_option linter.unusedVariables false
/- Decimal digits in blocks of four. Plain. -/
namespace Go.Proofs.YtbehfhmdilifkaaGreat

/-- The bytes from lo to hi are digits. -/
def DigR (s : ByteArray) (lo hi : Nat) : Prop := ∀ (i : Nat) (h : i < s.size), lo ≤ i → i < hi → 48 ≤ (s[i]'h).toNat ∧ (s[i]'h).toNat ≤ 57
theorem DigR.next {s : ByteArray} {lo k : Nat} (h : DigR s lo k) (hk : k < s.size) (h1 : 48 ≤ (s[k]'hk).toNat) (h2 : (s[k]'hk).toNat ≤ 57) : DigR s lo (k + 1) := fun i hi hl hik => by
  by_cases e : i = k
  · subst e; exact ⟨h1, h2⟩
  · exact h i hi hl (by omega)
theorem DigR.glue {s : ByteArray} {a b c : Nat} (h : DigR s a b) (h' : DigR s b c) : DigR s a c := fun i hi hl hic => by
  by_cases e : i < b
  · exact h i hi hl e
  · exact h' i hi (by omega) hic
theorem dg_le_r {s : ByteArray} {lo hi : Nat} (h : DigR s lo hi) {k : Nat} (h1 : lo ≤ k) (h2 : k < hi) : dg s k ≤ 9 := by
  unfold dg
  split
  · rename_i hk; have := h k hk h1 h2; omega
  · omega
theorem gv_lt_r {s : ByteArray} (k : Nat) : ∀ j, DigR s k (k + j) → gv s k j < p10 j
  | 0 => fun _ => by simp [gv, p10]
  | j + 1 => fun h => by
    have h1 := gv_lt_r k j (fun i hi hl hij => h i hi hl (by omega))
    have h2 := dg_le_r h (k := k + j) (by omega) (by omega)
    rw [← p10_next]; simp only [gv]; omega
theorem gv_split (s : ByteArray) (k i : Nat) : ∀ j, gv s k (i + j) = gv s k i * p10 j + gv s (k + i) j
  | 0 => by simp [gv, p10]
  | j + 1 => by
    have h1 := gv_split s k i j
    rw [← p10_next, ← Nat.add_assoc, gv, gv, h1, Nat.mul_add, Nat.mul_left_comm (gv s k i) 10 (p10 j), Nat.add_assoc k i j]
    omega
theorem gv_rv (s : ByteArray) : ∀ j, gv s 0 j = rv s j
  | 0 => rfl
  | j + 1 => by simp only [gv, rv]; rw [gv_rv s j, Nat.zero_add]
theorem p10_four (k : Nat) : p10 (4 * k) = B4 ^ k := by unfold p10 B4; rw [Nat.pow_mul]
theorem p10_mono {i j : Nat} (h : i ≤ j) : p10 i ≤ p10 j := Nat.pow_le_pow_right (by omega) h

/-- After k blocks of the text's end. -/
def BlkInv (s : ByteArray) (n k : Nat) (os : List Nat) : Prop :=
  os.length = k ∧ Lt B4 os ∧ val B4 os = gv s (n - 4 * k) (n - (n - 4 * k)) ∧ DigR s (n - 4 * k) n ∧ (k = 0 ∨ 4 * k < n + 4)
theorem BlkInv.start (s : ByteArray) (n : Nat) : BlkInv s n 0 [] := ⟨rfl, fun x hx => by simp at hx, by simp [gv, val], fun i hi hl hh => by omega, Or.inl rfl⟩
theorem BlkInv.step {s : ByteArray} {n k lo : Nat} {os : List Nat} (h : BlkInv s n k os) (hk : 4 * k < n) (hlo : lo = n - 4 * (k + 1)) (hD : DigR s lo (n - 4 * k)) : BlkInv s n (k + 1) (os ++ [gv s lo (n - 4 * k - lo)]) := by
  obtain ⟨h1, h2, h3, h4, h5⟩ := h
  have hlt : gv s lo (n - 4 * k - lo) < p10 (n - 4 * k - lo) := gv_lt_r lo _ (by rw [show lo + (n - 4 * k - lo) = n - 4 * k by omega]; exact hD)
  have h6 : p10 (n - 4 * k - lo) ≤ 10000 := Nat.le_trans (p10_mono (show _ ≤ 4 by omega)) (by decide)
  refine ⟨by simp [h1], ?_, ?_, ?_, Or.inr (by omega)⟩
  · intro x hx
    rw [List.mem_append] at hx
    rcases hx with hx | hx
    · exact h2 x hx
    · simp at hx; subst hx; unfold B4; omega
  · have e1 : n - lo = (n - 4 * k - lo) + (n - (n - 4 * k)) := by omega
    rw [← hlo, e1, gv_split, show lo + (n - 4 * k - lo) = n - 4 * k by omega, ← h3, val_append, h1, show n - (n - 4 * k) = 4 * k by omega, p10_four]
    simp [val, Nat.mul_comm, Nat.add_comm]
  · rw [← hlo]; exact hD.glue h4
theorem BlkInv.done {s : ByteArray} {n k : Nat} {os : List Nat} (h : BlkInv s n k os) (hk : ¬ 4 * k < n) : val B4 os = rv s n := by
  obtain ⟨h1, h2, h3, h4, h5⟩ := h
  rw [h3, show n - 4 * k = 0 by omega, gv_rv]; rfl

/-- Texts set beside each other. -/
theorem dg_left (s t : ByteArray) {k : Nat} (h : k < s.size) : dg (s ++ t) k = dg s k := by
  unfold dg
  rw [dif_pos (by rw [ByteArray.size_append]; omega), dif_pos h, ByteArray.getElem_append_left]
theorem dg_right (s t : ByteArray) (k : Nat) : dg (s ++ t) (s.size + k) = dg t k := by
  unfold dg
  by_cases h : k < t.size
  · rw [dif_pos (by rw [ByteArray.size_append]; omega), dif_pos h, ByteArray.getElem_append_right (by omega)]
    simp
  · rw [dif_neg (by rw [ByteArray.size_append]; omega), dif_neg h]
theorem rv_left (s t : ByteArray) : ∀ k, k ≤ s.size → rv (s ++ t) k = rv s k
  | 0, _ => rfl
  | k + 1, h => by simp only [rv]; rw [rv_left s t k (by omega), dg_left s t (by omega)]
theorem gv_right (s t : ByteArray) : ∀ k, gv (s ++ t) s.size k = gv t 0 k
  | 0 => rfl
  | k + 1 => by simp only [gv]; rw [gv_right s t k, dg_right, Nat.zero_add]
theorem rv_append (s t : ByteArray) : rv (s ++ t) (s ++ t).size = rv s s.size * p10 t.size + rv t t.size := by
  rw [ByteArray.size_append, ← rv_gv, rv_left s t _ (Nat.le_refl _), gv_right, gv_rv]
theorem Digs.append {s t : ByteArray} (h : Digs s s.size) (h' : Digs t t.size) : Digs (s ++ t) (s ++ t).size := fun i hi _ => by
  rw [ByteArray.size_append] at hi
  by_cases e : i < s.size
  · rw [ByteArray.getElem_append_left (h := by rw [ByteArray.size_append]; omega) e]; exact h i e e
  · rw [ByteArray.getElem_append_right (h := by rw [ByteArray.size_append]; omega) (by omega)]; exact h' _ (by omega) (by omega)

end Go.Proofs.YtbehfhmdilifkaaGreat

/- The text of a number, out of blocks of four digits. Plain. -/
namespace Go.Proofs.YtbehfhmdilifkaaGreat

/-- Four digits. -/
def four (d : Nat) : ByteArray := ⟨#[UInt8.ofNat (48 + d / 1000), UInt8.ofNat (48 + d / 100 % 10), UInt8.ofNat (48 + d / 10 % 10), UInt8.ofNat (48 + d % 10)]⟩
theorem four_size (d : Nat) : (four d).size = 4 := rfl
theorem ofNat_dg {x : Nat} (h : x ≤ 9) : (UInt8.ofNat (48 + x)).toNat = 48 + x := by
  rw [UInt8.toNat_ofNat']; omega
theorem four_dg (d : Nat) (h : d < 10000) : dg (four d) 0 = d / 1000 ∧ dg (four d) 1 = d / 100 % 10 ∧ dg (four d) 2 = d / 10 % 10 ∧ dg (four d) 3 = d % 10 := by
  refine ⟨?_, ?_, ?_, ?_⟩
  · rw [dg, dif_pos (show 0 < (four d).size by rw [four_size]; omega)]
    show (UInt8.ofNat (48 + d / 1000)).toNat - 48 = _
    rw [ofNat_dg (by omega)]; omega
  · rw [dg, dif_pos (show 1 < (four d).size by rw [four_size]; omega)]
    show (UInt8.ofNat (48 + d / 100 % 10)).toNat - 48 = _
    rw [ofNat_dg (by omega)]; omega
  · rw [dg, dif_pos (show 2 < (four d).size by rw [four_size]; omega)]
    show (UInt8.ofNat (48 + d / 10 % 10)).toNat - 48 = _
    rw [ofNat_dg (by omega)]; omega
  · rw [dg, dif_pos (show 3 < (four d).size by rw [four_size]; omega)]
    show (UInt8.ofNat (48 + d % 10)).toNat - 48 = _
    rw [ofNat_dg (by omega)]; omega
theorem four_rv (d : Nat) (h : d < 10000) : rv (four d) (four d).size = d := by
  obtain ⟨h0, h1, h2, h3⟩ := four_dg d h
  rw [four_size]
  show 10 * (10 * (10 * (10 * 0 + dg (four d) 0) + dg (four d) 1) + dg (four d) 2) + dg (four d) 3 = d
  rw [h0, h1, h2, h3]; omega
theorem four_digs (d : Nat) (h : d < 10000) : Digs (four d) (four d).size := fun i hi _ => by
  have hi4 : i < 4 := hi
  rcases i with _ | _ | _ | _ | i
  · show 48 ≤ (UInt8.ofNat (48 + d / 1000)).toNat ∧ (UInt8.ofNat (48 + d / 1000)).toNat ≤ 57
    rw [ofNat_dg (by omega)]; omega
  · show 48 ≤ (UInt8.ofNat (48 + d / 100 % 10)).toNat ∧ (UInt8.ofNat (48 + d / 100 % 10)).toNat ≤ 57
    rw [ofNat_dg (by omega)]; omega
  · show 48 ≤ (UInt8.ofNat (48 + d / 10 % 10)).toNat ∧ (UInt8.ofNat (48 + d / 10 % 10)).toNat ≤ 57
    rw [ofNat_dg (by omega)]; omega
  · show 48 ≤ (UInt8.ofNat (48 + d % 10)).toNat ∧ (UInt8.ofNat (48 + d % 10)).toNat ≤ 57
    rw [ofNat_dg (by omega)]; omega
  · omega

/-- The text of the blocks from i on. -/
def FInv (N i : Nat) (s : ByteArray) : Prop := i ≤ L B4 N ∧ s.size = 4 * (L B4 N - i) ∧ Digs s s.size ∧ rv s s.size = N / B4 ^ i
theorem FInv.start (N : Nat) : FInv N (L B4 N) ⟨#[]⟩ := by
  refine ⟨Nat.le_refl _, by simp; rfl, fun i hi _ => absurd hi (Nat.not_lt_zero i), ?_⟩
  show 0 = _
  rw [Nat.div_eq_of_lt (lt_pow_L two_le_B4 N)]
theorem FInv.step {N i : Nat} {s : ByteArray} (h : FInv N (i + 1) s) : FInv N i (s ++ four (N / B4 ^ i % 10000)) := by
  obtain ⟨h1, h2, h3, h4⟩ := h
  have hlt : N / B4 ^ i % 10000 < 10000 := Nat.mod_lt _ (by omega)
  refine ⟨by omega, by rw [ByteArray.size_append, h2, four_size]; omega, h3.append (four_digs _ hlt), ?_⟩
  rw [rv_append, h4, four_rv _ hlt, four_size, Nat.pow_succ, ← Nat.div_div_eq_div_mul]
  show N / B4 ^ i / 10000 * 10000 + _ = _
  omega

/-- A text whose digits are a number's. -/
def FTxt (N : Nat) (s : ByteArray) : Prop := s.size ≤ 4000 ∧ Digs s s.size ∧ rv s s.size = N
theorem FInv.done {N : Nat} {s : ByteArray} (h : FInv N 0 s) (hN : L B4 N ≤ 1000) : FTxt N s := by
  obtain ⟨h1, h2, h3, h4⟩ := h
  exact ⟨by omega, h3, by rw [h4]; simp⟩
theorem dg_sub (s : ByteArray) (k : Nat) (hk : 1 ≤ s.size) : dg (sub s 1) k = dg s (1 + k) := by
  have hs := sub_size s hk
  unfold dg
  by_cases h : k < (sub s 1).size
  · rw [dif_pos h, dif_pos (by omega)]
    have h' : k < (s.extract 1 s.size).size := h
    show ((s.extract 1 s.size)[k]'h').toNat - 48 = _
    rw [ByteArray.getElem_extract]
  · rw [dif_neg h, dif_neg (by omega)]
theorem rv_sub (s : ByteArray) (hk : 1 ≤ s.size) : ∀ k, rv (sub s 1) k = gv s 1 k
  | 0 => rfl
  | k + 1 => by simp only [rv, gv]; rw [rv_sub s hk k, dg_sub s k hk]
theorem FTxt.pos {N : Nat} {s : ByteArray} (h : FTxt N s) (hN : 0 < N) : 0 < s.size := by
  refine Nat.pos_of_ne_zero fun e => ?_
  have := h.2.2
  rw [e] at this
  simp [rv] at this
  omega
theorem FTxt.strip {N : Nat} {s : ByteArray} (h : FTxt N s) (hp : 0 < s.size) (h0 : (s[0]'hp).toNat = 48) : FTxt N (sub s 1) := by
  obtain ⟨h1, h2, h3⟩ := h
  have hs := sub_size s (k := 1) hp
  refine ⟨by omega, ?_, ?_⟩
  · intro i hi _
    have h' : i < (s.extract 1 s.size).size := hi
    show 48 ≤ ((s.extract 1 s.size)[i]'h').toNat ∧ ((s.extract 1 s.size)[i]'h').toNat ≤ 57
    rw [ByteArray.getElem_extract]
    exact h2 _ _ (by omega)
  · rw [rv_sub s hp, hs, ← h3]
    have e := rv_gv s 1 (s.size - 1)
    rw [show 1 + (s.size - 1) = s.size by omega] at e
    have e1 : rv s 1 = 0 := by simp [rv]; unfold dg; rw [dif_pos hp, h0]
    rw [e1] at e
    omega
theorem FTxt.end {N : Nat} {s : ByteArray} (h : FTxt N s) (hp : 0 < s.size) (h0 : (s[0]'hp).toNat ≠ 48) : s = dec N := by
  obtain ⟨h1, h2, h3⟩ := h
  rw [← h3, dec_rv ⟨h2, by omega, fun hh => h0 hh.1.2, h1⟩]

end Go.Proofs.YtbehfhmdilifkaaGreat

/- The parts of a text, as the reference finds them. Plain. -/
namespace Go.Proofs.YtbehfhmdilifkaaGreat
open Go

/-- Does a sign stand in front; what stands behind it. -/
def mns (s : ByteArray) : Bool := decide (s.data.toList[0]? = some 45)
def tail (s : ByteArray) : ByteArray := if mns s then sub s 1 else s

/-- The first stroke from i on, or the text's end. -/
def IsFs (t : ByteArray) (i p : Nat) : Prop := i ≤ p ∧ p ≤ t.size ∧ (∀ k, i ≤ k → k < p → t.data.toList[k]? ≠ some 47) ∧ (p < t.size → t.data.toList[p]? = some 47)

theorem bget (t : ByteArray) {k : Nat} (h : k < t.size) : t.data.toList[k]? = some (t[k]'h) := by
  have h' : k < t.data.toList.length := by rw [Array.length_toList]; exact h
  rw [List.getElem?_eq_getElem h']
  rfl
theorem IsFs.hit {t : ByteArray} {i p : Nat} (_h : IsFs t (i + 1) p) (hi : i < t.size) (hc : (t[i]'hi).toNat = 47) : IsFs t i i := by
  refine ⟨Nat.le_refl _, by omega, fun k h1 h2 => by omega, fun hh => ?_⟩
  rw [bget t hi]
  congr 1
  exact UInt8.toNat_inj.1 hc
theorem IsFs.miss {t : ByteArray} {i p : Nat} (h : IsFs t (i + 1) p) (hi : i < t.size) (hc : (t[i]'hi).toNat ≠ 47) : IsFs t i p := by
  obtain ⟨h1, h2, h3, h4⟩ := h
  refine ⟨by omega, h2, fun k a b => ?_, h4⟩
  by_cases e : k = i
  · subst e
    rw [bget t hi]
    intro hh
    injection hh with hh
    rw [hh] at hc
    exact hc rfl
  · exact h3 k (by omega) b
theorem IsFs.start (t : ByteArray) : IsFs t t.size t.size := ⟨Nat.le_refl _, Nat.le_refl _, fun k h1 h2 => by omega, fun h => by omega⟩

theorem ib_some {c : UInt8} : ∀ (l : List UInt8) (p : Nat), l[p]? = some c → (∀ k, k < p → l[k]? ≠ some c) → Lib.indexByte l c = p
  | [], p, h, _ => by simp at h
  | b :: l, 0, h, _ => by simp at h; subst h; simp [Lib.indexByte]
  | b :: l, p + 1, h, hn => by
    have hb : (b == c) = false := by
      have := hn 0 (by omega)
      simp at this
      simpa using this
    have ih := ib_some l p (by simpa using h) (fun k hk => by have := hn (k + 1) (by omega); simpa using this)
    unfold Lib.indexByte
    rw [hb, ih]
    have : ((p : Int) == -1) = false := by simp
    simp [this]
theorem ib_none {c : UInt8} : ∀ (l : List UInt8), (∀ k : Nat, l[k]? ≠ some c) → Lib.indexByte l c = -1
  | [], _ => rfl
  | b :: l, hn => by
    have hb : (b == c) = false := by
      have := hn 0
      simp at this
      simpa using this
    have ih := ib_none l (fun k => by have := hn (k + 1); simpa using this)
    unfold Lib.indexByte
    rw [hb, ih]
    simp
theorem ext_list (s : ByteArray) (a b : Nat) : (s.extract a b).data.toList = (s.data.toList.take b).drop a := by
  rw [ByteArray.data_extract, Array.toList_extract, List.extract_eq_take_drop]
  rw [List.drop_take]
theorem ba_ext {s t : ByteArray} (h : s.data.toList = t.data.toList) : s = t := by
  apply ByteArray.ext
  exact Array.toList_inj.1 h
theorem pre_45 (l : List UInt8) : Lib.hasPrefix l [45] = decide (l[0]? = some 45) := by
  unfold Lib.hasPrefix
  cases l with
  | nil => rfl
  | cons a l => simp [List.isPrefixOf]; rw [Bool.eq_iff_iff]; simp; exact ⟨fun h => h.symm, fun h => h.symm⟩
theorem sub_list (s : ByteArray) : (sub s 1).data.toList = s.data.toList.drop 1 := by
  unfold sub
  rw [ext_list, List.take_of_length_le (by rw [Array.length_toList]; exact Nat.le_refl _)]

/-- The parts. -/
theorem parts {s : ByteArray} {p : Nat} (h : IsFs (tail s) 0 p) :
    minus s = mns s ∧ bare s = (tail s).extract 0 p ∧ stroke s = decide (p < (tail s).size) ∧ (p < (tail s).size → under s = (tail s).extract (p + 1) (tail s).size) := by
  obtain ⟨_, h2, h3, h4⟩ := h
  have hsz : ∀ t : ByteArray, t.data.toList.length = t.size := fun t => by rw [Array.length_toList]; rfl
  obtain ⟨d, hd⟩ : ∃ d : Nat, d = if mns s then 1 else 0 := ⟨_, rfl⟩
  have htl : (tail s).data.toList = s.data.toList.drop d := by
    unfold tail
    by_cases hm : mns s = true
    · rw [if_pos hm, hd, if_pos hm]; exact sub_list s
    · rw [if_neg hm, hd, if_neg hm]; rfl
  have hd0 : ∀ k, k < d → s.data.toList[k]? ≠ some 47 := fun k hk => by
    have hm : mns s = true := by
      rcases Bool.eq_false_or_eq_true (mns s) with e | e
      · exact e
      · rw [e] at hd; simp at hd; omega
    rw [hm] at hd
    simp at hd
    have hk0 : k = 0 := by omega
    subst hk0
    have := of_decide_eq_true hm
    rw [this]
    decide
  have hts : (tail s).size = s.size - d := by rw [← hsz, htl, List.length_drop, hsz]
  have hds : d ≤ s.size := by
    rw [hd]
    split
    · rename_i hm
      have := of_decide_eq_true hm
      refine Nat.pos_of_ne_zero fun e => ?_
      rw [List.getElem?_eq_none (by rw [hsz, e]; exact Nat.le_refl _)] at this
      cases this
    · exact Nat.zero_le _
  have hget : ∀ k, (tail s).data.toList[k]? = s.data.toList[d + k]? := fun k => by rw [htl, List.getElem?_drop]
  by_cases hp : p < (tail s).size
  · have hc : cutAt s = ((d + p : Nat) : Int) := by
      refine ib_some _ _ (by rw [← hget]; exact h4 hp) fun k hk => ?_
      by_cases hkd : k < d
      · exact hd0 k hkd
      · have := h3 (k - d) (Nat.zero_le _) (by omega)
        rw [hget, show d + (k - d) = k by omega] at this
        exact this
    have hpos : 0 ≤ cutAt s := by rw [hc]; omega
    have ho : (over s).data.toList = s.data.toList.take (d + p) := by
      unfold over
      rw [if_pos hpos, hc, ext_list, List.drop_zero, Int.toNat_natCast]
    have hmin : minus s = mns s := by
      unfold minus mns
      rw [pre_45, ho]
      congr 1
      by_cases hz : d + p = 0
      · have : d = 0 := by omega
        have hp0 : p = 0 := by omega
        have h5 := h4 hp
        rw [hget, this, hp0] at h5
        rw [hz]
        simp at h5 ⊢
        simp [h5]
      · rw [List.getElem?_take_of_lt (by omega)]
    refine ⟨hmin, ?_, ?_, fun _ => ?_⟩
    · apply ba_ext
      unfold bare Lib.trimPrefix
      show (if minus s = true then _ else _) = _
      rw [ho, ext_list, htl, hmin]
      by_cases hm : mns s = true
      · rw [if_pos hm] at hd ⊢
        rw [hd]
        simp [List.drop_take]
      · rw [if_neg hm] at hd ⊢
        rw [hd]
        simp
    · unfold stroke
      rw [decide_eq_true hpos, decide_eq_true hp]
    · apply ba_ext
      unfold under
      rw [if_pos hpos, hc, ext_list, ext_list, htl, List.take_of_length_le (by rw [hsz]; exact Nat.le_refl _), List.take_of_length_le (by rw [List.length_drop, hsz]; omega), List.drop_drop]
      congr 1
  · have hpe : p = (tail s).size := by omega
    have hc : cutAt s = -1 := ib_none _ fun k => by
      by_cases hkd : k < d
      · exact hd0 k hkd
      · by_cases hks : k < s.size
        · have := h3 (k - d) (Nat.zero_le _) (by omega)
          rw [hget, show d + (k - d) = k by omega] at this
          exact this
        · rw [List.getElem?_eq_none (by rw [hsz]; omega)]; intro h; cases h
    have hneg : ¬ 0 ≤ cutAt s := by rw [hc]; omega
    have ho : over s = s := by unfold over; rw [if_neg hneg]
    have hmin : minus s = mns s := by
      unfold minus mns
      rw [pre_45, ho]
    refine ⟨hmin, ?_, ?_, fun h => absurd h hp⟩
    · apply ba_ext
      unfold bare Lib.trimPrefix
      show (if minus s = true then _ else _) = _
      rw [ho, ext_list, htl, hmin, hpe, List.take_of_length_le (by rw [List.length_drop, hsz]; omega)]
      by_cases hm : mns s = true
      · rw [if_pos hm] at hd ⊢
        rw [hd]
        simp
      · rw [if_neg hm] at hd ⊢
        rw [hd]
        simp
    · unfold stroke
      rw [decide_eq_false hneg, decide_eq_false hp]

end Go.Proofs.YtbehfhmdilifkaaGreat

/- Walks of the reference's rows of texts: SameRow. -/
namespace Go.Proofs.YtbehfhmdilifkaaGreat
open Go Go.RowKit Go.Proofs

theorem toList_ne_of {s t : ByteArray} (h : s ≠ t) : (s.toList == t.toList) = false := by
  rw [beq_eq_false_iff_ne]
  intro e
  apply h
  rw [ByteArray.toList_eq, ByteArray.toList_eq] at e
  apply ByteArray.ext
  exact Array.toList_inj.1 e

/-- The first k texts are the same. -/
def sameTo (xs ys : List ByteArray) (k : Nat) : Prop := ∀ i, i < k → xs[i]? = ys[i]?
theorem sameTo.next {xs ys : List ByteArray} {k : Nat} (h : sameTo xs ys k) (h1 : xs[k]? = ys[k]?) : sameTo xs ys (k + 1) := fun i hi => by
  by_cases e : i = k
  · subst e; exact h1
  · exact h i (by omega)
theorem sameTo.all {xs ys : List ByteArray} {n : Nat} (h : sameTo xs ys n) (h1 : xs.length = n) (h2 : ys.length = n) : xs = ys := by
  apply List.ext_getElem?
  intro i
  by_cases hi : i < n
  · exact h i hi
  · rw [List.getElem?_eq_none (by omega), List.getElem?_eq_none (by omega)]

end Go.Proofs.YtbehfhmdilifkaaGreat

/- Walk of the reference's Short. -/
namespace Go.Proofs.YtbehfhmdilifkaaGreat
open Go Go.RowKit Go.Proofs

/-- How many digits stand behind the last stroke among the first i bytes. -/
def shc (s : ByteArray) : Nat → Nat
  | 0 => 0
  | i + 1 => if h : i < s.size then (if (s[i]'h).toNat = 47 then 0 else if (s[i]'h).toNat = 45 then shc s i else shc s i + 1) else shc s i
theorem shc_le (s : ByteArray) : ∀ i, shc s i ≤ i
  | 0 => Nat.le_refl _
  | i + 1 => by
    have := shc_le s i
    unfold shc
    split
    · split
      · omega
      · split <;> omega
    · omega
def shortOK (s : ByteArray) (n : Nat) : Bool := decide (∀ i, i < s.size → shc s (i + 1) ≤ n)

end Go.Proofs.YtbehfhmdilifkaaGreat

/- A valid text is short just when its number fits. Plain. -/
namespace Go.Proofs.YtbehfhmdilifkaaGreat
open Go

theorem fs_ex (t : ByteArray) : ∀ k, k ≤ t.size → ∃ p, IsFs t (t.size - k) p
  | 0, _ => ⟨t.size, IsFs.start t⟩
  | k + 1, h => by
    obtain ⟨p, hp⟩ := fs_ex t k (by omega)
    have e : t.size - k = (t.size - (k + 1)) + 1 := by omega
    rw [e] at hp
    have hi : t.size - (k + 1) < t.size := by omega
    by_cases hc : (t[t.size - (k + 1)]'hi).toNat = 47
    · exact ⟨_, hp.hit hi hc⟩
    · exact ⟨_, hp.miss hi hc⟩
theorem fs_ex0 (t : ByteArray) : ∃ p, IsFs t 0 p := by
  obtain ⟨p, hp⟩ := fs_ex t t.size (Nat.le_refl _)
  rw [Nat.sub_self] at hp
  exact ⟨p, hp⟩
theorem IsFs.byte {t : ByteArray} {i p : Nat} (h : IsFs t i p) (hp : p < t.size) : (t[p]'hp).toNat = 47 := by
  have := h.2.2.2 hp
  rw [bget t hp] at this
  injection this with this
  rw [this]; rfl

/-- How far the sign goes. -/
def sgl (s : ByteArray) : Nat := if mns s then 1 else 0
theorem sgl_le (s : ByteArray) : sgl s ≤ s.size := by
  unfold sgl
  split
  · rename_i hm
    have := of_decide_eq_true hm
    refine Nat.pos_of_ne_zero fun e => ?_
    rw [List.getElem?_eq_none (by rw [Array.length_toList]; show s.size ≤ 0; omega)] at this
    cases this
  · exact Nat.zero_le _
theorem tail_size (s : ByteArray) : (tail s).size = s.size - sgl s := by
  have := sgl_le s
  unfold tail sgl at *
  split
  · rename_i hm; rw [if_pos hm] at this; exact sub_size s this
  · rfl
theorem tail_get (s : ByteArray) {j : Nat} (h : j < (tail s).size) (h' : sgl s + j < s.size) : (tail s)[j]'h = s[sgl s + j]'h' := by
  have hs := sgl_le s
  by_cases hm : mns s = true
  · have e : sgl s = 1 := by unfold sgl; rw [if_pos hm]
    have et : tail s = s.extract 1 s.size := by unfold tail sub; rw [if_pos hm]
    have a : (tail s)[j]'h = (s.extract 1 s.size)[j]'(by rw [← et]; exact h) := by congr 1
    rw [a, ByteArray.getElem_extract]
    congr 1
    omega
  · have e : sgl s = 0 := by unfold sgl; rw [if_neg hm]
    have et : tail s = s := by unfold tail; rw [if_neg hm]
    have a : (tail s)[j]'h = s[j]'(by omega) := by congr 1
    rw [a]
    congr 1
    omega
theorem shc_dig {s : ByteArray} {i : Nat} (h : i < s.size) (h1 : 48 ≤ (s[i]'h).toNat) : shc s (i + 1) = shc s i + 1 := by
  rw [shc, dif_pos h, if_neg (by omega), if_neg (by omega)]
theorem shc_sgl (s : ByteArray) : shc s (sgl s) = 0 := by
  by_cases hm : mns s = true
  · have e : sgl s = 1 := by unfold sgl; rw [if_pos hm]
    have hl := sgl_le s
    rw [e] at hl ⊢
    have hp : 0 < s.size := hl
    have h45 : (s[0]'hp).toNat = 45 := by
      have := of_decide_eq_true hm
      rw [bget s hp] at this
      injection this with this
      rw [this]; rfl
    rw [shc, dif_pos hp, if_neg (by omega), if_pos h45, shc]
  · have e : sgl s = 0 := by unfold sgl; rw [if_neg hm]
    rw [e, shc]
theorem shc_run {s : ByteArray} {a m : Nat} (h0 : shc s a = 0) (ha : a + m ≤ s.size) (hd : ∀ j (hj : a + j < s.size), j < m → 48 ≤ (s[a + j]'hj).toNat) : ∀ j, j ≤ m → shc s (a + j) = j
  | 0, _ => h0
  | j + 1, hj => by
    rw [← Nat.add_assoc, shc_dig (h := by omega) (hd j (by omega) (by omega)), shc_run h0 ha hd j (by omega)]

theorem short_fits {s : ByteArray} (h : parseOK s) {n : Nat} (hn : 1 ≤ n) : shortOK s n = fits (parseQ s) n := by
  obtain ⟨p, hp⟩ := fs_ex0 (tail s)
  obtain ⟨q1, q2, q3, q4⟩ := parts hp
  have hts := tail_size s
  have hsl := sgl_le s
  have hpt := hp.2.1
  have hb : (bare s).size = p := by rw [q2, ByteArray.size_extract]; omega
  have hbD := h.1.1
  have hdig : ∀ j (hj : sgl s + j < s.size), j < p → 48 ≤ (s[sgl s + j]'hj).toNat := fun j hj hjp => by
    have h1 : j < (bare s).size := by omega
    have h2 := (hbD j h1 h1).1
    have h3 : (bare s)[j]'h1 = (tail s)[j]'(by omega) := by
      have a : (bare s)[j]'h1 = ((tail s).extract 0 p)[j]'(by rw [← q2]; exact h1) := by congr 1
      rw [a, ByteArray.getElem_extract]
      congr 1
      omega
    rw [h3, tail_get s (by omega) hj] at h2
    exact h2
  have run1 := shc_run (shc_sgl s) (m := p) (by omega) hdig
  have hbp : 1 ≤ p := by have := h.1.2.1; omega
  have e1 : (sdec (rn (parseQ s))).size = p := by
    rw [parse_rn h]
    unfold sdec
    rw [natAbs_pz]
    unfold pn
    rw [dec_rv h.1, hb]
  by_cases hst : p < (tail s).size
  · have hstr : stroke s = true := by rw [q3]; exact decide_eq_true hst
    have hu := q4 hst
    have hus : (under s).size = (tail s).size - (p + 1) := by rw [hu, ByteArray.size_extract]; omega
    have huD := (h.2.1 hstr).1.1
    have h47 : (s[sgl s + p]'(by omega)).toNat = 47 := by rw [← tail_get s hst]; exact hp.byte hst
    have h0 : shc s (sgl s + p + 1) = 0 := by rw [shc, dif_pos (by omega), if_pos h47]
    have hdig2 : ∀ j (hj : sgl s + p + 1 + j < s.size), j < (under s).size → 48 ≤ (s[sgl s + p + 1 + j]'hj).toNat := fun j hj hju => by
      have h2 := (huD j hju hju).1
      have h3 : (under s)[j]'hju = (tail s)[p + 1 + j]'(by omega) := by
        have a : (under s)[j]'hju = ((tail s).extract (p + 1) (tail s).size)[j]'(by rw [← hu]; exact hju) := by congr 1
        rw [a, ByteArray.getElem_extract]
      rw [h3, tail_get s (by omega) (by omega)] at h2
      have h4 : s[sgl s + (p + 1 + j)]'(by omega) = s[sgl s + p + 1 + j]'hj := by congr 1; omega
      rw [h4] at h2
      exact h2
    have run2 := shc_run h0 (m := (under s).size) (by omega) hdig2
    have e2 : (sdec (rd (parseQ s))).size = (under s).size := by
      rw [parse_rd h]
      unfold sdec pden
      rw [if_pos hstr, Int.natAbs_natCast]
      unfold pd
      rw [dec_rv (h.2.1 hstr).1]
    unfold shortOK fits
    rw [e1, e2, Bool.eq_iff_iff, Bool.and_eq_true, decide_eq_true_eq, decide_eq_true_eq, decide_eq_true_eq]
    have hup : 1 ≤ (under s).size := by have := (h.2.1 hstr).1.2.1; omega
    constructor
    · intro hall
      constructor
      · have := hall (sgl s + (p - 1)) (by omega)
        rw [show sgl s + (p - 1) + 1 = sgl s + p by omega, run1 p (Nat.le_refl _)] at this
        exact this
      · have := hall (sgl s + p + 1 + ((under s).size - 1)) (by omega)
        rw [show sgl s + p + 1 + ((under s).size - 1) + 1 = sgl s + p + 1 + (under s).size by omega, run2 _ (Nat.le_refl _)] at this
        exact this
    · rintro ⟨a, b⟩ i hi
      by_cases c1 : i < sgl s + p
      · by_cases c0 : i < sgl s
        · have : sgl s ≤ 1 := by unfold sgl; split <;> omega
          rw [show i + 1 = sgl s by omega, shc_sgl]; omega
        · rw [show i + 1 = sgl s + (i + 1 - sgl s) by omega, run1 _ (by omega)]; omega
      · by_cases c2 : i = sgl s + p
        · rw [c2, h0]; omega
        · rw [show i + 1 = sgl s + p + 1 + (i - (sgl s + p)) by omega, run2 _ (by omega)]; omega
  · have hstr : stroke s = false := by rw [q3]; exact decide_eq_false hst
    have e2 : (sdec (rd (parseQ s))).size = 1 := by
      rw [parse_rd h]
      unfold sdec pden
      rw [hstr]
      rw [dec_size]
      rfl
    unfold shortOK fits
    rw [e1, e2, Bool.eq_iff_iff, Bool.and_eq_true, decide_eq_true_eq, decide_eq_true_eq, decide_eq_true_eq]
    constructor
    · intro hall
      refine ⟨?_, hn⟩
      have := hall (sgl s + (p - 1)) (by omega)
      rw [show sgl s + (p - 1) + 1 = sgl s + p by omega, run1 p (Nat.le_refl _)] at this
      exact this
    · rintro ⟨a, b⟩ i hi
      by_cases c0 : i < sgl s
      · have : sgl s ≤ 1 := by unfold sgl; split <;> omega
        rw [show i + 1 = sgl s by omega, shc_sgl]; omega
      · rw [show i + 1 = sgl s + (i + 1 - sgl s) by omega, run1 _ (by omega)]; omega

end Go.Proofs.YtbehfhmdilifkaaGreat
