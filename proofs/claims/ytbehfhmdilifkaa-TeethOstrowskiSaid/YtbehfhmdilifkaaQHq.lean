/- Hq -/
import Derived.Test.YtbehfhmdilifkaaQTx
import Derived.WalkKit
set_option linter.unusedVariables false
/- Plain: the denominators of terms as numbers that come in; the digits while they are filled in. -/
namespace Go.Proofs.Ytbehfhmdilifkaa

/-- The denominators behind q, the terms still to be tested. -/
def qGoZ : Nat → Nat → List Int → Option (List Nat)
  | _, _, [] => some []
  | last, q, a :: l => if 1 ≤ a ∧ a ≤ 1000000 then (if a.toNat * q + last ≤ 1000000000 then (qGoZ q (a.toNat * q + last) l).map (fun r => (a.toNat * q + last) :: r) else none) else none
/-- The denominators of terms. -/
def den (X : List Int) : Option (List Nat) :=
  if 2 ≤ X.length ∧ X.length ≤ 20 ∧ 0 ≤ X.headD 0 ∧ X.headD 0 ≤ 1000000 then (qGoZ 0 1 X.tail).map fun r => 1 :: r else none
theorem qGoZ_bad : ∀ {l : List Int} {last q : Nat}, (∃ a ∈ l, ¬ (1 ≤ a ∧ a ≤ 1000000)) → qGoZ last q l = none
  | [], _, _, h => by obtain ⟨a, ha, _⟩ := h; cases ha
  | b :: l, last, q, h => by
    simp only [qGoZ]
    by_cases hb : 1 ≤ b ∧ b ≤ 1000000
    · rw [if_pos hb]
      split
      · rw [qGoZ_bad (l := l)]
        · rfl
        · obtain ⟨a, ha, hn⟩ := h
          rw [List.mem_cons] at ha
          rcases ha with rfl | ha
          · exact absurd hb hn
          · exact ⟨a, ha, hn⟩
      · rfl
    · rw [if_neg hb]
theorem qGoZ_chain : ∀ {l : List Int} {ts qs : List Nat} {q last : Nat} {R : List Nat}, Chain ts (q :: qs) → last = qs.headD 0 → qGoZ last q l = some R → ∃ T : List Nat, l = T.map (fun x => ((x : Nat) : Int)) ∧ Chain (T.reverse ++ ts) (R.reverse ++ q :: qs)
  | [], ts, qs, q, last, R, hc, hl, h => by
    simp only [qGoZ] at h
    injection h with h
    subst h
    exact ⟨[], rfl, hc⟩
  | a :: l, ts, qs, q, last, R, hc, hl, h => by
    simp only [qGoZ] at h
    by_cases ha : 1 ≤ a ∧ a ≤ 1000000
    · rw [if_pos ha] at h
      obtain ⟨b, rfl⟩ : ∃ b : Nat, a = (b : Int) := ⟨a.toNat, by omega⟩
      rw [Int.toNat_natCast] at h
      by_cases hr : b * q + last ≤ 1000000000
      · rw [if_pos hr] at h
        obtain ⟨R', hR', rfl⟩ := Option.map_eq_some_iff.1 h
        have hc2 : Chain (b :: ts) ((b * q + last) :: q :: qs) := by
          cases hc with
          | one => rw [hl]; simp only [List.headD_nil, Nat.mul_one, Nat.add_zero]; exact Chain.two b (by omega)
          | two a h => rw [hl]; exact Chain.more _ _ _ _ _ _ _ (by omega) (Chain.two _ h) rfl
          | more a b' p q' r ts qs h hc hr => rw [hl]; exact Chain.more _ _ _ _ _ _ _ (by omega) (Chain.more _ _ _ _ _ _ _ h hc hr) rfl
        obtain ⟨T, hT, hC⟩ := qGoZ_chain (l := l) hc2 rfl hR'
        refine ⟨b :: T, by rw [hT]; rfl, ?_⟩
        simp only [List.reverse_cons, List.append_assoc, List.singleton_append]
        exact hC
      · rw [if_neg hr] at h; cases h
    · rw [if_neg ha] at h; cases h
/-- What valid terms give. -/
theorem den_some {X : List Int} {Q : List Nat} (h : den X = some Q) : ∃ T : List Nat, X.tail = T.map (fun x => ((x : Nat) : Int)) ∧ Chain T.reverse Q.reverse ∧ 2 ≤ X.length ∧ X.length ≤ 20 ∧ Q.length = X.length := by
  unfold den at h
  by_cases hc : 2 ≤ X.length ∧ X.length ≤ 20 ∧ 0 ≤ X.headD 0 ∧ X.headD 0 ≤ 1000000
  · rw [if_pos hc] at h
    obtain ⟨R, hR, rfl⟩ := Option.map_eq_some_iff.1 h
    obtain ⟨T, hT, hC⟩ := qGoZ_chain (l := X.tail) Chain.one rfl hR
    rw [List.append_nil] at hC
    refine ⟨T, hT, by rw [List.reverse_cons]; exact hC, hc.1, hc.2.1, ?_⟩
    have h1 := hC.len
    have h2 := congrArg List.length hT
    simp at h1 h2
    simp
    omega
  · rw [if_neg hc] at h; cases h
theorem qGoZ_le : ∀ {l : List Int} {last q : Nat} {R : List Nat}, qGoZ last q l = some R → ∀ x ∈ R, x ≤ 1000000000
  | [], _, _, R, h => by simp only [qGoZ] at h; injection h with h; subst h; simp
  | a :: l, last, q, R, h => by
    simp only [qGoZ] at h
    split at h
    · split at h
      · rename_i h1 h2
        obtain ⟨R', hR', rfl⟩ := Option.map_eq_some_iff.1 h
        intro x hx
        rw [List.mem_cons] at hx
        rcases hx with rfl | hx
        · exact h2
        · exact qGoZ_le hR' x hx
      · cases h
    · cases h
theorem den_le {X : List Int} {Q : List Nat} (h : den X = some Q) : ∀ x ∈ Q, x ≤ 1000000000 := by
  unfold den at h
  split at h
  · obtain ⟨R, hR, rfl⟩ := Option.map_eq_some_iff.1 h
    intro x hx
    rw [List.mem_cons] at hx
    rcases hx with rfl | hx
    · omega
    · exact qGoZ_le hR x hx
  · cases h
/-- What is left of n behind j digits. -/
def nS : List Nat → Nat → Nat → Nat
  | _, n, 0 => n
  | [], n, _ => n
  | q :: l, n, j + 1 => nS l (n % q) j
theorem nS_succ : ∀ {l : List Nat} {n j : Nat} (h : j < l.length), nS l n (j + 1) = nS l n j % l[j]
  | q :: l, n, 0, _ => by simp [nS]
  | q :: l, n, j + 1, h => by
    have h' : j < l.length := by simpa using h
    have := nS_succ (l := l) (n := n % q) (j := j) h'
    rw [nS, this]
    rfl
theorem nS_le : ∀ (l : List Nat) (n j : Nat), nS l n j ≤ n
  | _, n, 0 => by simp [nS]
  | [], n, j + 1 => by simp [nS]
  | q :: l, n, j + 1 => by rw [nS]; exact Nat.le_trans (nS_le l _ j) (Nat.mod_le _ _)
theorem dgR_length : ∀ (l : List Nat) (n : Nat), (dgR l n).length = l.length
  | [], _ => rfl
  | q :: l, n => by simp [dgR, dgR_length l]
theorem dgR_get : ∀ {l : List Nat} {n j : Nat} (h : j < l.length), (dgR l n).getD j 0 = nS l n j / l[j]
  | q :: l, n, 0, _ => by simp [dgR, nS]
  | q :: l, n, j + 1, h => by
    have h' : j < l.length := by simpa using h
    have := dgR_get (l := l) (n := n % q) (j := j) h'
    simp only [dgR, nS, List.getElem_cons_succ]
    rw [← this]
    simp [List.getD]
/-- The digits, the first one first, while the last j are filled in. -/
def outL (D : List Nat) (K j : Nat) : List Nat := (List.range K).map fun i => if K ≤ i + j then D.getD (K - 1 - i) 0 else 0
theorem outL_length (D : List Nat) (K j : Nat) : (outL D K j).length = K := by simp [outL]
theorem outL_zero (D : List Nat) (K : Nat) : outL D K 0 = List.replicate K 0 := by
  apply List.ext_getElem
  · simp [outL]
  · intro i h1 h2
    have hi : i < K := by simpa [outL] using h1
    simp only [outL, List.getElem_map, List.getElem_range, List.getElem_replicate]
    rw [if_neg (by omega)]
theorem outL_succ {D : List Nat} {K j i v : Nat} (hi : i + j + 1 = K) (hv : D.getD j 0 = v) : (outL D K j).set i v = outL D K (j + 1) := by
  apply List.ext_getElem
  · simp [outL]
  · intro k h1 h2
    have hk : k < K := by simpa [outL] using h2
    rw [List.getElem_set]
    simp only [outL, List.getElem_map, List.getElem_range]
    by_cases he : i = k
    · rw [if_pos he, if_pos (by omega), show K - 1 - k = j by omega, hv]
    · rw [if_neg he]
      by_cases hc : K ≤ k + j
      · rw [if_pos hc, if_pos (by omega)]
      · rw [if_neg hc, if_neg (by omega)]
theorem outL_done {D : List Nat} {K : Nat} (h : D.length = K) : outL D K K = D.reverse := by
  apply List.ext_getElem
  · simp [outL, h]
  · intro i h1 h2
    have hi : i < K := by simpa [outL] using h1
    simp only [outL, List.getElem_map, List.getElem_range, List.getElem_reverse]
    rw [if_pos (by omega)]
    simp only [h]
    simp [List.getD, show K - 1 - i < D.length by omega]
/-- The digits of n, the first one first. -/
def dgF (Q : List Nat) (n : Nat) : List Nat := (dgR Q.reverse.tail n).reverse
theorem dgF_length (Q : List Nat) (n : Nat) : (dgF Q n).length = Q.length - 1 := by simp [dgF, dgR_length]
end Go.Proofs.Ytbehfhmdilifkaa
