/- If -/
import Derived.Test.YtbehfhmdilifkaaQHf
import Derived.Test.YtbehfhmdilifkaaQHl
import Derived.Test.YtbehfhmdilifkaaQHp
set_option linter.unusedVariables false
/- Walk of the law TeethTriples. -/
namespace Go.Proofs.Ytbehfhmdilifkaa
open Go Go.RowKit Go.Proofs

def M31 : List Nat := [1, 2, 5, 13, 29, 34, 89, 169, 194, 233, 433, 610, 985, 1325, 1597, 2897, 4181, 5741, 6466, 7561, 9077, 10946, 14701, 28657, 33461, 37666, 43261, 51641, 62210, 75025, 96557]
theorem mkL_M : mkL 100000 = M31 := by kernel_rfl
def mm (i : Nat) : Nat := M31.getD i 0
def eqB (i j k : Nat) : Bool := decide (mm j * mm j + mm k * mm k + mm i * mm i = 3 * mm j * mm k * mm i)
def fndK (i j k : Nat) : Bool := (List.range k).any fun k' => eqB i j k'
def fndJ (i j : Nat) : Bool := (List.range j).any fun j' => fndK i j' (j' + 1)
def knw (w m : Nat) : Bool := (List.range m).any fun m' => mm m' == w
def triW (i j k : Nat) : Bool := !eqB i j k || (decide (mm i ≤ 3 * mm j * mm k) && knw (3 * mm j * mm k - mm i) (j + 1) && decide (mm j * mm j + mm k * mm k + (3 * mm j * mm k - mm i) * (3 * mm j * mm k - mm i) = 3 * mm j * mm k * (3 * mm j * mm k - mm i)))
def triI (i : Nat) : Bool := decide (i = 0) || (fndJ i i && (List.range i).all fun j => (List.range (j + 1)).all fun k => triW i j k)
theorem tri_all : (List.range 31).all triI = true := by kernel_rfl
theorem tri_ok {i : Nat} (h1 : 1 ≤ i) (h2 : i < 31) : fndJ i i = true ∧ ∀ j k, j < i → k ≤ j → triW i j k = true := by
  have h := List.all_eq_true.1 tri_all i (List.mem_range.2 h2)
  unfold triI at h
  rw [decide_eq_false (show ¬ i = 0 by omega), Bool.false_or, Bool.and_eq_true, List.all_eq_true] at h
  exact ⟨h.1, fun j k hj hk => List.all_eq_true.1 (h.2 j (List.mem_range.2 hj)) k (List.mem_range.2 (by omega))⟩
theorem triW_at {i j k z u v : Nat} (h : triW i j k = true) (he : eqB i j k = true) (hz : mm i = z) (hu : mm j = u) (hv : mm k = v) : ∃ w, 3 * u * v = w + z ∧ knw w (j + 1) = true ∧ u * u + v * v + w * w = 3 * u * v * w := by
  unfold triW at h
  rw [he] at h
  simp only [Bool.not_true, Bool.false_or, Bool.and_eq_true, decide_eq_true_eq] at h
  rw [hz, hu, hv] at h
  exact ⟨3 * u * v - z, by omega, h.1.2, h.2⟩
theorem knw_succ {w m : Nat} : knw w (m + 1) = (knw w m || (mm m == w)) := by
  unfold knw
  rw [List.range_succ, List.any_append]; simp
theorem fndK_succ {i j k : Nat} : fndK i j (k + 1) = (fndK i j k || eqB i j k) := by
  unfold fndK
  rw [List.range_succ, List.any_append]; simp
theorem fndJ_succ {i j : Nat} : fndJ i (j + 1) = (fndJ i j || fndK i j (j + 1)) := by
  unfold fndJ
  rw [List.range_succ, List.any_append]; simp
theorem m31_rise : M31.Pairwise (· < ·) := by rw [← mkL_M]; exact mkL_rise
theorem mkV_lo : ∀ {f m x y z v : Nat}, TOk f m x y z → v ∈ mkV f m x y z → z ≤ v
  | 0, _, _, _, _, _, _, h => by simp [mkV] at h
  | f + 1, m, x, y, z, v, hT, h => by
    simp only [mkV] at h
    split at h
    · simp at h
    · simp only [List.mem_cons, List.mem_append] at h
      have h1 := mk_ge hT.x1 hT.yz
      have h2 := mk_ge (x := y) (y := x) (z := z) (by have := hT.x1; have := hT.xy; omega) (by have := hT.xy; have := hT.yz; omega)
      have hx := hT.x1; have hxy := hT.xy; have hyz := hT.yz
      rcases h with h | h | h
      · omega
      · have := mkV_lo hT.l h; omega
      · have := mkV_lo hT.r h; omega
theorem mkV_cut : ∀ {f m N x y z v : Nat}, TOk f N x y z → m ≤ N → (v ∈ mkV f m x y z ↔ v ∈ mkV f N x y z ∧ v ≤ m)
  | 0, _, _, _, _, _, _, _, _ => by simp [mkV]
  | f + 1, m, N, x, y, z, v, hT, hm => by
    by_cases hz : m < z
    · have e1 : mkV (f + 1) m x y z = [] := by simp only [mkV]; rw [if_pos hz]
      rw [e1]
      constructor
      · intro h; cases h
      · rintro ⟨h1, h2⟩
        have := mkV_lo hT h1
        omega
    · have e1 : mkV (f + 1) m x y z = z :: (mkV f m x z (3 * x * z - y) ++ mkV f m y z (3 * y * z - x)) := by simp only [mkV]; rw [if_neg hz]
      have e2 : mkV (f + 1) N x y z = z :: (mkV f N x z (3 * x * z - y) ++ mkV f N y z (3 * y * z - x)) := by simp only [mkV]; rw [if_neg (by omega)]
      rw [e1, e2]
      simp only [List.mem_cons, List.mem_append]
      rw [mkV_cut hT.l hm, mkV_cut hT.r hm]
      constructor
      · rintro (h | h | h)
        · exact ⟨.inl h, by omega⟩
        · exact ⟨.inr (.inl h.1), h.2⟩
        · exact ⟨.inr (.inr h.1), h.2⟩
      · rintro ⟨h1, h2⟩
        rcases h1 with h | h | h
        · exact .inl h
        · exact .inr (.inl ⟨h, h2⟩)
        · exact .inr (.inr ⟨h, h2⟩)
theorem rise_filter {m : Nat} : ∀ {l : List Nat}, l.Pairwise (· < ·) → l.filter (fun v => decide (v ≤ m)) = l.take (l.filter (fun v => decide (v ≤ m))).length
  | [], _ => rfl
  | a :: l, h => by
    have h' := List.pairwise_cons.1 h
    by_cases ha : a ≤ m
    · rw [List.filter_cons_of_pos (by simpa using ha), List.length_cons, List.take_succ_cons, ← rise_filter h'.2]
    · have hn : (a :: l).filter (fun v => decide (v ≤ m)) = [] := by
        rw [List.filter_eq_nil_iff]
        intro v hv
        rw [List.mem_cons] at hv
        rcases hv with rfl | hv
        · simpa using ha
        · have := h'.1 v hv; simp; omega
      rw [hn]; rfl
theorem mkL_cut {m : Nat} (h1 : 1 ≤ m) (hm : m ≤ 100000) : mkL m = M31.take (mkL m).length := by
  have hT : TOk 40 100000 1 1 2 := ⟨by omega, by omega, by omega, by decide⟩
  have e : mkL m = M31.filter (fun v => decide (v ≤ m)) := by
    refine rise_ext mkL_rise (m31_rise.filter _) fun v => ?_
    rw [List.mem_filter, ← mkL_M, mkL_mem, mkL_mem, mkV_cut hT hm, decide_eq_true_eq]
    constructor
    · rintro (h | h)
      · exact ⟨.inl h, by omega⟩
      · exact ⟨.inr h.1, h.2⟩
    · rintro ⟨h | h, h2⟩
      · exact .inl h
      · exact .inr ⟨h, h2⟩
  have h2 := rise_filter (m := m) m31_rise
  rw [← e] at h2
  exact h2
/-- What holds of the list that Markov returns. -/
structure TrI (m n : Nat) (L : List Nat) : Prop where
  n1 : 1 ≤ n
  n31 : n ≤ 31
  len : L.length = n
  at_ : ∀ i, i < n → L.getD i 0 = mm i
  le : ∀ i, i < n → mm i ≤ m
  up : ∀ i, i + 1 < n → mm i < mm (i + 1)
theorem tr_all {m : Nat} (h1 : 1 ≤ m) (hm : m ≤ 100000) : TrI m (mkL m).length (mkL m) := by
  have hc := mkL_cut h1 hm
  have h31 : M31.length = 31 := rfl
  obtain ⟨n, hn⟩ : ∃ n, (mkL m).length = n := ⟨_, rfl⟩
  have hn31 : n ≤ 31 := by
    have := congrArg List.length hc
    rw [List.length_take, hn, h31] at this
    omega
  rw [hn] at hc ⊢
  have hat : ∀ i, i < n → (mkL m).getD i 0 = mm i := fun i hi => by
    rw [hc]
    unfold mm
    simp only [List.getD]
    rw [List.getElem?_take_of_lt hi]
  refine ⟨?_, hn31, hn, hat, fun i hi => ?_, fun i hi => ?_⟩
  · rcases Nat.eq_zero_or_pos n with h | h
    · rw [h] at hn
      have h5 := List.eq_nil_of_length_eq_zero hn
      have h6 : 1 ∈ mkL m := mkL_mem.2 (.inl rfl)
      rw [h5] at h6; cases h6
    · exact h
  · rw [← hat i hi]
    have h5 : (mkL m).getD i 0 ∈ mkL m := by
      rw [List.getD, List.getElem?_eq_getElem (by omega)]; simp
    rcases mkL_mem.1 h5 with h | h
    · omega
    · exact mkV_le _ _ _ _ _ _ h
  · have h5 := List.pairwise_iff_getElem.1 m31_rise i (i + 1) (by omega) (by omega) (by omega)
    unfold mm
    simp only [List.getD]
    rw [List.getElem?_eq_getElem (by omega), List.getElem?_eq_getElem (by omega)]
    exact h5
theorem mm_le {i : Nat} (h : i < 31) : 1 ≤ mm i ∧ mm i ≤ 96557 := by
  have h1 : (List.range 31).all (fun i => decide (1 ≤ mm i) && decide (mm i ≤ 96557)) = true := by kernel_rfl
  have := List.all_eq_true.1 h1 i (List.mem_range.2 h)
  simpa using this
end Go.Proofs.Ytbehfhmdilifkaa
