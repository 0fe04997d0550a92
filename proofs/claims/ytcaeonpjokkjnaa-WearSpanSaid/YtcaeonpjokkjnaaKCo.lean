/- Co -/
import Derived.Test.YtcaeonpjokkjnaaKXh
set_option linter.unusedVariables false
/- E6: both costs multiplied by a number. Plain. -/
namespace Go.Proofs.Ytcaeonpjokkjnaa
open Go

theorem rateQ_mul (ps : List Rat) (c0 c1 K : Rat) (k : Nat) : rateQ ps (c0 * K) (c1 * K) k = rateQ ps c0 c1 k * K := by
  unfold rateQ costQ
  rw [Rat.div_def, Rat.div_def]
  grind
theorem rateL_mul (ps : List Rat) (c0 c1 K : Rat) : rateL ps (c0 * K) (c1 * K) = (rateL ps c0 c1).map (· * K) := by
  unfold rateL
  rw [List.map_map]
  exact List.map_congr_left fun i _ => rateQ_mul ps c0 c1 K i
theorem nth_mul (qs : List Rat) (K : Rat) (i : Nat) : nth (qs.map (· * K)) i = nth qs i * K := by
  unfold nth
  rw [List.getElem?_map]
  cases qs[i]? with
  | none => show (0 : Rat) = 0 * K; rw [Rat.zero_mul]
  | some q => rfl
theorem mul_lt_iff {a b K : Rat} (hK : 0 < K) : a * K < b * K ↔ a < b :=
  ⟨fun h => Rat.not_le.1 fun hc => Rat.not_lt.2 (Rat.mul_le_mul_of_nonneg_right hc (Rat.le_of_lt hK)) h, fun h => Rat.mul_lt_mul_of_pos_right h hK⟩
theorem bestK_mul (qs : List Rat) {K : Rat} (hK : 0 < K) : ∀ k, bestK (qs.map (· * K)) k = bestK qs k
  | 0 => rfl
  | k + 1 => by
    rw [bestK, bestK, bestK_mul qs hK k, nth_mul, nth_mul]
    by_cases hc : rsg (nth qs k) (nth qs (bestK qs k)) < 0
    · rw [if_pos hc, if_pos (rsg_neg.2 ((mul_lt_iff hK).2 (rsg_neg.1 hc)))]
    · rw [if_neg hc, if_neg fun h9 => hc (rsg_neg.2 ((mul_lt_iff hK).1 (rsg_neg.1 h9)))]
theorem pq_same {n d : Int} {q : Rat} {B : Nat} (h : PQ n d q B) : sg (n * rd q - rn q * d) = 0 := by
  obtain ⟨hd, hq, _, _⟩ := h
  have h1 := rat_eq q
  have h2 := rd_pos q
  have h3 : n * rd q = rn q * d := (Rat.divInt_eq_divInt_iff (n₁ := n) (d₁ := d) (n₂ := rn q) (d₂ := rd q) (by omega) (by omega)).1 (by rw [hq, h1])
  rw [h3, Int.sub_self]; rfl
theorem bd_small {d m : Nat} {q : Rat} (h : Bd d m q) (hd : 0 < d) (hm : m ≤ 999999) (hd2 : d ≤ 999999) : Short4 q ∧ fits q 6 = true ∧ (nt q).size ≤ 40 := by
  obtain ⟨b1, b2⟩ := h.parts hd
  have h6 : p10 6 = 1000000 := by decide
  have h4 : p10 6 ≤ p10 4000 := p10_mono (by omega)
  have e : (rd q).natAbs = q.den := by unfold rd; exact Int.natAbs_natCast _
  have c1 : (rn q).natAbs < p10 6 := by omega
  have c2 : (rd q).natAbs < p10 6 := by omega
  exact ⟨⟨by omega, by omega⟩, fits_of c1 c2, nt_small c1 c2⟩
theorem cost_of {d m : Nat} {q : Rat} (h : Bd d m q) (hd : 0 < d) (hm : m ≤ 999999) (hd2 : d ≤ 999999) (h0 : 0 < q) : costOK q := by
  refine ⟨?_, (bd_small h hd hm hd2).2.1⟩
  rw [sg_gt]
  exact rnum_pos.2 h0
theorem int_bd {n d : Nat} (hn : n ≤ 50) : Bd d (50 * d) (((n : Nat) : Int) : Rat) :=
  ⟨(n * d : Int), by rw [Rat.intCast_mul], by rw [Int.natAbs_mul, Int.natAbs_natCast, Int.natAbs_natCast]; exact Nat.mul_le_mul_right d hn⟩
theorem mul_bd {n a d : Nat} (hn : n ≤ 50) (ha : a ≤ 15) (hd : 0 < d) : Bd d 750 ((((n : Nat) : Int) : Rat) * Rat.divInt ((a : Nat) : Int) ((d : Nat) : Int)) :=
  ⟨(n * a : Int), by rw [Rat.mul_assoc, divInt_s a d hd, Rat.intCast_mul], by rw [Int.natAbs_mul, Int.natAbs_natCast, Int.natAbs_natCast]; exact Nat.le_trans (Nat.mul_le_mul hn ha) (by omega)⟩
theorem div_pos {a d : Nat} (ha : 0 < a) (hd : 0 < d) : 0 < Rat.divInt ((a : Nat) : Int) ((d : Nat) : Int) := by
  have h1 := divInt_s a d hd
  have h2 : ((1 : Int) : Rat) ≤ ((a : Int) : Rat) := Rat.intCast_le_intCast.2 (by omega)
  have h3 : ((1 : Int) : Rat) = 1 := rfl
  have h4 : ((1 : Int) : Rat) ≤ ((d : Int) : Rat) := Rat.intCast_le_intCast.2 (by omega)
  refine Rat.not_le.1 fun hc => ?_
  have := Rat.mul_le_mul_of_nonneg_right hc (show (0 : Rat) ≤ ((d : Int) : Rat) by grind)
  grind
theorem int_pos {n : Nat} (hn : 0 < n) : 0 < (((n : Nat) : Int) : Rat) := by
  have h2 : ((1 : Int) : Rat) ≤ ((n : Int) : Rat) := Rat.intCast_le_intCast.2 (by omega)
  have h3 : ((1 : Int) : Rat) = 1 := rfl
  grind

end Go.Proofs.Ytcaeonpjokkjnaa
