/- Xf -/
import Derived.Test.YteiipfajoikfpaaQXa
set_option linter.unusedVariables false
/- Plain laws of PairPowers: the powers are drawn one by one. -/
namespace Go.Proofs.Yteiipfajoikfpaa
open Go Go.RowKit Go.Proofs

def P10 : List Int := [1, 2, 4, 8, 16, 32, 64, 128, 256, 512]
theorem p10_pow : ∀ x ∈ P10, (∃ k : Nat, x = 2 ^ k) ∧ 0 ≤ x ∧ x ≤ 1000 := by
  intro x hx
  simp only [P10, List.mem_cons, List.not_mem_nil, or_false] at hx
  rcases hx with rfl | rfl | rfl | rfl | rfl | rfl | rfl | rfl | rfl | rfl
  · exact ⟨⟨0, rfl⟩, by omega, by omega⟩
  · exact ⟨⟨1, rfl⟩, by omega, by omega⟩
  · exact ⟨⟨2, rfl⟩, by omega, by omega⟩
  · exact ⟨⟨3, rfl⟩, by omega, by omega⟩
  · exact ⟨⟨4, rfl⟩, by omega, by omega⟩
  · exact ⟨⟨5, rfl⟩, by omega, by omega⟩
  · exact ⟨⟨6, rfl⟩, by omega, by omega⟩
  · exact ⟨⟨7, rfl⟩, by omega, by omega⟩
  · exact ⟨⟨8, rfl⟩, by omega, by omega⟩
  · exact ⟨⟨9, rfl⟩, by omega, by omega⟩
theorem p10_nodup : P10.Nodup := by decide
/-- One power is drawn: it goes from the list behind the row. -/
theorem draw_perm {A row ps : List Int} {t : Nat} {x : Int} (h : (A ++ row ++ ps).Perm P10) (hx : ps[t]? = some x) : (A ++ (row ++ [x]) ++ (ps.take t ++ ps.drop (t + 1))).Perm P10 := by
  have ht := (List.getElem?_eq_some_iff.1 hx).1
  have e : ps = ps.take t ++ x :: ps.drop (t + 1) := by
    have h1 := List.take_append_drop t ps
    rw [List.drop_eq_getElem_cons ht] at h1
    rw [List.getElem?_eq_getElem ht] at hx
    injection hx with hx
    rw [hx] at h1
    exact h1.symm
  refine List.Perm.trans ?_ h
  have e2 : A ++ (row ++ [x]) ++ (ps.take t ++ ps.drop (t + 1)) = (A ++ row) ++ (x :: (ps.take t ++ ps.drop (t + 1))) := by simp
  rw [e2]
  refine List.Perm.append_left _ ?_
  conv => rhs; rw [e]
  exact (List.perm_middle (l₁ := ps.take t)).symm
/-- So far the rows, and the powers that are left. -/
structure Dr (k : Nat) (R : List (List Int)) (row ps : List Int) : Prop where
  perm : (R.flatten ++ row ++ ps).Perm P10
  rows : ∀ r ∈ R, r.length = k
theorem flat_length {k : Nat} {R : List (List Int)} (h : ∀ r ∈ R, r.length = k) : R.flatten.length = R.length * k := by
  induction R with
  | nil => simp
  | cons r R ih =>
    rw [List.flatten_cons, List.length_append, ih fun x hx => h x (List.mem_cons_of_mem _ hx), h r (List.mem_cons_self ..), List.length_cons, Nat.succ_mul]
    omega
theorem Dr.len {k : Nat} {R : List (List Int)} {row ps : List Int} (h : Dr k R row ps) : R.length * k + row.length + ps.length = 10 := by
  have := h.perm.length_eq
  rw [List.length_append, List.length_append, flat_length h.rows] at this
  exact this
theorem Dr.more {k i j : Nat} {R : List (List Int)} {row ps : List Int} (h : Dr k R row ps) (hi : R.length = i) (hj : row.length = j) (hk : k ≤ 3) (hik : i < k) (hjk : j < k) : 2 ≤ ps.length ∧ ps.length ≤ 10 := by
  have h1 := h.len
  rw [hi, hj] at h1
  have h2 : i * k ≤ 2 * 3 := Nat.mul_le_mul (by omega) hk
  omega
theorem Dr.nil (k : Nat) : Dr k [] [] P10 := ⟨List.Perm.refl _, by simp⟩
theorem Dr.draw {k t : Nat} {R : List (List Int)} {row ps : List Int} {x : Int} (h : Dr k R row ps) (hx : ps[t]? = some x) : Dr k R (row ++ [x]) (ps.take t ++ ps.drop (t + 1)) := ⟨draw_perm h.perm hx, h.rows⟩
theorem Dr.row {k : Nat} {R : List (List Int)} {row ps : List Int} (h : Dr k R row ps) (hr : row.length = k) : Dr k (R ++ [row]) [] ps := by
  refine ⟨?_, fun r hm => ?_⟩
  · have := h.perm
    simpa using this
  · rcases List.mem_append.1 hm with hm | hm
    · exact h.rows r hm
    · rw [List.mem_singleton] at hm; subst hm; exact hr
theorem Dr.nodup {k : Nat} {R : List (List Int)} {row ps : List Int} (h : Dr k R row ps) : R.flatten.Nodup := by
  have := h.perm.nodup_iff.2 p10_nodup
  rw [List.append_assoc] at this
  exact (List.nodup_append.1 this).1
theorem Dr.mem {k : Nat} {R : List (List Int)} {row ps : List Int} (h : Dr k R row ps) : ∀ r ∈ R, ∀ x ∈ r, x ∈ P10 := fun r hr x hx =>
  h.perm.mem_iff.1 (List.mem_append_left _ (List.mem_append_left _ (List.mem_flatten.2 ⟨r, hr, hx⟩)))
theorem Dr.good {k : Nat} {R : List (List Int)} {ps : List Int} (h : Dr k R [] ps) (hl : R.length = k) (h1 : 1 ≤ k) (h3 : k ≤ 3) : goodC R :=
  ⟨by omega, by omega, fun r hr => ⟨by rw [h.rows r hr, hl], fun x hx => (p10_pow x (h.mem r hr x hx)).2⟩⟩
theorem cst_at {C : List (List Int)} {i j : Nat} (hi : i < C.length) (hj : j < C[i].length) : cst C i j = C[i][j] := by
  unfold cst
  rw [List.getElem?_eq_getElem hi]
  exact at0_of (List.getElem?_eq_getElem hj)
theorem Dr.powC {k : Nat} {R : List (List Int)} {ps : List Int} (h : Dr k R [] ps) (hl : R.length = k) : PowC R k := by
  have hlen : ∀ i (hi : i < R.length), R[i].length = k := fun i hi => h.rows _ (List.getElem_mem _)
  have hnd := h.nodup
  rw [List.nodup_iff_pairwise_ne, List.pairwise_flatten] at hnd
  obtain ⟨n1, n2⟩ := hnd
  rw [List.pairwise_iff_getElem] at n2
  refine ⟨fun i j hi hj => ?_, fun i j a b hi hj ha hb e => ?_⟩
  · rw [cst_at (by omega) (by rw [hlen i (by omega)]; exact hj)]
    exact (p10_pow _ (h.mem _ (List.getElem_mem _) _ (List.getElem_mem _))).1
  · rw [cst_at (by omega) (by rw [hlen i (by omega)]; exact hj), cst_at (by omega) (by rw [hlen a (by omega)]; exact hb)] at e
    rcases Nat.lt_trichotomy i a with h1 | h1 | h1
    · exact absurd e (n2 i a (by omega) (by omega) h1 _ (List.getElem_mem _) _ (List.getElem_mem _))
    · subst h1
      refine ⟨rfl, ?_⟩
      have n3 := n1 R[i] (List.getElem_mem _)
      rw [List.pairwise_iff_getElem] at n3
      rcases Nat.lt_trichotomy j b with h2 | h2 | h2
      · exact absurd e (n3 j b (by rw [hlen]; exact hj) (by rw [hlen]; exact hb) h2)
      · exact h2
      · exact absurd e.symm (n3 b j (by rw [hlen]; exact hb) (by rw [hlen]; exact hj) h2)
    · exact absurd e.symm (n2 a i (by omega) (by omega) h1 _ (List.getElem_mem _) _ (List.getElem_mem _))
end Go.Proofs.Yteiipfajoikfpaa
