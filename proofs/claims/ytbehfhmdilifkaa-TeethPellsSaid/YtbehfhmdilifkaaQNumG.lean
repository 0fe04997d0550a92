/- NumG -/
import Derived.Test.YtbehfhmdilifkaaQWb
import Derived.Test.YtbehfhmdilifkaaQWa
import Derived.Test.YtbehfhmdilifkaaQShelf
set_option linter.unusedVariables false
/- Walk of the program's division: part. -/
namespace Go.Proofs.Ytbehfhmdilifkaa
open Go Go.RowKit Go.Proofs

theorem bitLen_bounds : ∀ (k x : Nat), x ≠ 0 → x < 2 ^ k → k ≤ 64 → 2 ^ (Lib.bitLen x - 1) ≤ x ∧ x < 2 ^ Lib.bitLen x ∧ 1 ≤ Lib.bitLen x ∧ Lib.bitLen x ≤ k := by
  intro k
  induction k with
  | zero => intro x h0 h _; omega
  | succ k ih =>
    intro x h0 h hk
    have hx : x < 2 ^ 64 := Nat.lt_of_lt_of_le h (Nat.pow_le_pow_right (by omega) hk)
    rw [Lib.bitLen_half x h0 hx]
    by_cases h1 : x / 2 = 0
    · have : x = 1 := by omega
      subst this
      simp [show Lib.bitLen 0 = 0 from rfl]
    · obtain ⟨e1, e2, e3, e4⟩ := ih (x / 2) h1 (by rw [Nat.pow_succ] at h; omega) (by omega)
      have e5 : 1 + Lib.bitLen (x / 2) - 1 = (Lib.bitLen (x / 2) - 1) + 1 := by omega
      refine ⟨?_, ?_, by omega, by omega⟩
      · rw [e5, Nat.pow_succ]; omega
      · rw [Nat.add_comm, Nat.pow_succ]; omega

/-- How far a limb is from the highest bit. -/
def lead (v : Nat) : Nat := 32 - Lib.bitLen v

theorem lead_spec (v : Nat) (h0 : v ≠ 0) (hv : v < 4294967296) : lead v < 32 ∧ v * 2 ^ lead v < B32 ∧ B32 ≤ 2 * (v * 2 ^ lead v) := by
  obtain ⟨e1, e2, e3, e4⟩ := bitLen_bounds 32 v h0 (by simpa using hv) (by omega)
  have hB : B32 = 2 ^ 32 := rfl
  have h1 : B32 = 2 ^ Lib.bitLen v * 2 ^ lead v := by rw [hB, ← Nat.pow_add]; congr 1; unfold lead; omega
  have h2 : B32 = 2 * (2 ^ (Lib.bitLen v - 1) * 2 ^ lead v) := by
    rw [h1, ← Nat.mul_assoc, ← Nat.pow_succ']
    congr 2
    omega
  refine ⟨by unfold lead; omega, ?_, ?_⟩
  · rw [h1]; exact Nat.mul_lt_mul_of_pos_right e2 (Nat.pow_pos (by omega))
  · conv => lhs; rw [h2]
    exact Nat.mul_le_mul_left _ (Nat.mul_le_mul_right _ e1)

def RetTwo (w : World) (p q : Nat) (e : Ending) (w' : World) : Prop :=
  ∃ a1 c1 a2 c2, e = .returned (.tuple #[.slice a1 (L B32 p) c1, .slice a2 (L B32 q) c2]) ∧ Mag w' a1 c1 p ∧ Mag w' a2 c2 q ∧ Below w.heap.size w w'

theorem takeA {A W C : List Nat} {j n : Nat} (hA : A.length = j) (hW : W.length = n) : ((A ++ (W ++ C)).drop j).take n = W := by
  rw [List.drop_append_of_le_length (by omega), List.drop_of_length_le (by omega), List.nil_append, List.take_append_of_le_length (by omega), List.take_of_length_le (by omega)]

/-- The divisor, shifted till its highest bit is set. -/
theorem part_shift (y m v1 : Nat) (hy : L B32 y = m + 2) (hv1 : (digs B32 y)[m + 1]? = some v1) :
    v1 < 4294967296 ∧ v1 ≠ 0 ∧ lead v1 < 32 ∧ y * 2 ^ lead v1 < B32 ^ (m + 2) ∧ B32 ^ (m + 2) ≤ 2 * (y * 2 ^ lead v1) ∧ L B32 (y * 2 ^ lead v1) = m + 2 := by
  have hdl : (digs B32 y).length = m + 2 := hy
  have hv1B : v1 < 4294967296 := (show Lt B32 (digs B32 y) from digs_lt two_le_B32 y).at hv1
  have hv10 : v1 ≠ 0 := by
    refine digs_last two_le_B32 y v1 ?_
    rw [List.getLast?_eq_getElem?, hdl]; exact hv1
  obtain ⟨s1, s2, s3⟩ := lead_spec v1 hv10 hv1B
  have hyv : y = val B32 ((digs B32 y).take (m + 1)) + B32 ^ (m + 1) * v1 := by
    conv => lhs; rw [← val_digs two_le_B32 y]
    have := val_take_succ B32 (digs B32 y) (m + 1) v1 hv1
    rwa [List.take_of_length_le (by omega)] at this
  have hyt : val B32 ((digs B32 y).take (m + 1)) < B32 ^ (m + 1) := by
    have := val_lt ((digs B32 y).take (m + 1)) (fun z hz => digs_lt two_le_B32 y z (List.mem_of_mem_take hz))
    rwa [List.length_take, Nat.min_eq_left (by omega)] at this
  have hp2 : 0 < 2 ^ lead v1 := Nat.pow_pos (by omega)
  have e0 : B32 ^ (m + 2) = B32 ^ (m + 1) * B32 := Nat.pow_succ B32 (m + 1)
  have hV1 : y * 2 ^ lead v1 < B32 ^ (m + 2) := by
    have e1 : y * 2 ^ lead v1 < B32 ^ (m + 1) * ((v1 + 1) * 2 ^ lead v1) := by
      rw [← Nat.mul_assoc]
      exact Nat.mul_lt_mul_of_pos_right (by rw [Nat.mul_add]; omega) hp2
    have e2 : (v1 + 1) * 2 ^ lead v1 ≤ B32 := by
      have e3 : B32 = 2 ^ (32 - lead v1) * 2 ^ lead v1 := B32_split _ s1
      rw [e3] at s2 ⊢
      exact Nat.mul_le_mul_right _ (Nat.lt_of_mul_lt_mul_right s2)
    have e4 : B32 ^ (m + 1) * ((v1 + 1) * 2 ^ lead v1) ≤ B32 ^ (m + 1) * B32 := Nat.mul_le_mul_left _ e2
    rw [e0]
    exact Nat.lt_of_lt_of_le e1 e4
  have hV2 : B32 ^ (m + 2) ≤ 2 * (y * 2 ^ lead v1) := by
    have e1 : B32 ^ (m + 1) * (v1 * 2 ^ lead v1) ≤ y * 2 ^ lead v1 := by
      rw [← Nat.mul_assoc]; exact Nat.mul_le_mul_right _ (by omega)
    have e2 : B32 ^ (m + 1) * B32 ≤ B32 ^ (m + 1) * (2 * (v1 * 2 ^ lead v1)) := Nat.mul_le_mul_left _ s3
    rw [Nat.mul_left_comm, ← e0] at e2
    omega
  refine ⟨hv1B, hv10, s1, hV1, hV2, ?_⟩
  have a1 := L_le_of_lt two_le_B32 _ _ hV1
  have a2 : L B32 y ≤ L B32 (y * 2 ^ lead v1) := L_mono two_le_B32 (Nat.le_mul_of_pos_right _ hp2)
  omega

theorem part_norm (V m v : Nat) (hl : L B32 V = m + 2) (hV : B32 ^ (m + 2) ≤ 2 * V) (hv : (digs B32 V)[m + 1]? = some v) : B32 ≤ 2 * v := by
  have hdl : (digs B32 V).length = m + 2 := hl
  have e1 : V = val B32 ((digs B32 V).take (m + 1)) + B32 ^ (m + 1) * v := by
    conv => lhs; rw [← val_digs two_le_B32 V]
    have := val_take_succ B32 (digs B32 V) (m + 1) v hv
    rwa [List.take_of_length_le (by omega)] at this
  have e2 : val B32 ((digs B32 V).take (m + 1)) < B32 ^ (m + 1) := by
    have := val_lt ((digs B32 V).take (m + 1)) (fun z hz => digs_lt two_le_B32 V z (List.mem_of_mem_take hz))
    rwa [List.length_take, Nat.min_eq_left (by omega)] at this
  have e0 : B32 ^ (m + 2) = B32 ^ (m + 1) * B32 := Nat.pow_succ B32 (m + 1)
  rcases Nat.lt_or_ge (2 * v) B32 with h | h
  · exfalso
    have e3 : B32 ^ (m + 1) * (2 * v + 2) ≤ B32 ^ (m + 1) * B32 := Nat.mul_le_mul_left _ (by unfold B32 at *; omega)
    rw [Nat.mul_add, Nat.mul_left_comm] at e3
    omega
  · exact h

theorem part_start (x V m D : Nat) (us : List Nat) (s y : Nat) (hV : V = y * 2 ^ s) (hx : L B32 x = D + m + 2) (hy : L B32 y = m + 2) (hul : us.length = D + m + 3) (huB : Lt B32 us) (hu : val B32 us = x * 2 ^ s) :
    PartInv (x * 2 ^ s) V m D us (List.replicate (D + 1) 0) (D + 1) := by
  refine ⟨hul, huB, by simp, Lt.replicate (by unfold B32; omega), ?_, ?_⟩
  · rw [List.drop_of_length_le (by simp)]; simp [val, hu]
  · rw [hu, hV, Nat.mul_right_comm]
    refine Nat.mul_lt_mul_of_pos_right ?_ (Nat.pow_pos (by omega))
    have a1 := lt_pow_L two_le_B32 x
    have a2 : B32 ^ (m + 1) ≤ y := pow_le_of_L two_le_B32 (by omega)
    have a3 : B32 ^ (m + 1) * B32 ^ (D + 1) ≤ y * B32 ^ (D + 1) := Nat.mul_le_mul_right _ a2
    rw [← Nat.pow_add, show m + 1 + (D + 1) = D + m + 2 by omega] at a3
    rw [hx] at a1
    omega

end Go.Proofs.Ytbehfhmdilifkaa
