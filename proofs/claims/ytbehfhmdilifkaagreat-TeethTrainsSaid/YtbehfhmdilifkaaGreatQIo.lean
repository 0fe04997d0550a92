/- Io -/
import Derived.Test.YtbehfhmdilifkaaGreatQTb
import Derived.Test.YtbehfhmdilifkaaGreatQRat4
import Derived.Test.YtbehfhmdilifkaaGreatQWn
import Derived.Test.YtbehfhmdilifkaaGreatQZq
import Derived.Test.YtbehfhmdilifkaaGreatQWe
set_option linter.unusedVariables false
/- Plain: trains of wheels in lexicographic order, and the best one. -/
namespace Go.Proofs.YtbehfhmdilifkaaGreat
open Go Go.RowKit Go.Proofs

abbrev Tr := List (Nat × Nat)
/-- The best one so far, with its numerator and denominator. -/
abbrev Bt := Option (Tr × Nat × Nat)
def updT (o u : Nat) (s : Bt) (t : Tr) (p q : Nat) : Bt :=
  match s with
  | none => some (t, p, q)
  | some (t', p', q') => if closerB o u p q p' q' then some (t, p, q) else some (t', p', q')
def ixT (t : Tr) : List Nat := t.flatMap fun x => [x.1, x.2]
def lastOk (t : Tr) (i : Nat) : Bool :=
  match t.getLast? with
  | none => true
  | some x => decide (x.1 ≤ i)
def okT (t : Tr) (i k : Nat) : Bool := !(decide (i ∈ ixT t)) && lastOk t i && !(decide (k ∈ ixT t)) && !(decide (k = i))
/-- f at k, k + 1, .., k + m - 1. -/
def rowF (f : Nat → Bt → Bt) : Nat → Nat → Bt → Bt
  | 0, _, s => s
  | m + 1, k, s => rowF f m (k + 1) (f k s)
theorem rowF_next {f : Nat → Bt → Bt} {n k : Nat} {s : Bt} (h : k < n) : rowF f (n - k) k s = rowF f (n - (k + 1)) (k + 1) (f k s) := by
  obtain ⟨m, hm⟩ : ∃ m, n - k = m + 1 := ⟨n - k - 1, by omega⟩
  rw [hm, show n - (k + 1) = m by omega]
  rfl
theorem rowF_end {f : Nat → Bt → Bt} {n k : Nat} {s : Bt} (h : n ≤ k) : rowF f (n - k) k s = s := by
  rw [show n - k = 0 by omega]
  rfl
theorem rowF_id {f : Nat → Bt → Bt} (h : ∀ k s, f k s = s) (m k : Nat) (s : Bt) : rowF f m k s = s := by
  induction m generalizing k s with
  | zero => rfl
  | succ m ih => unfold rowF; rw [ih, h]
/-- All trains with l pairs more than t are tried. -/
def tryT (o u n : Nat) (w : Nat → Nat) : Nat → Tr → Nat → Nat → Bt → Bt
  | 0, t, p, q, s => updT o u s t p q
  | l + 1, t, p, q, s => rowF (fun i s => rowF (fun k s => if okT t i k then tryT o u n w l (t ++ [(i, k)]) (p * w i) (q * w k) s else s) n 0 s) n 0 s
def inF (o u n : Nat) (w : Nat → Nat) (l : Nat) (t : Tr) (p q i : Nat) (k : Nat) (s : Bt) : Bt := if okT t i k then tryT o u n w l (t ++ [(i, k)]) (p * w i) (q * w k) s else s
def outF (o u n : Nat) (w : Nat → Nat) (l : Nat) (t : Tr) (p q : Nat) (i : Nat) (s : Bt) : Bt := rowF (inF o u n w l t p q i) n 0 s
theorem tryT_succ (o u n : Nat) (w : Nat → Nat) (l : Nat) (t : Tr) (p q : Nat) (s : Bt) : tryT o u n w (l + 1) t p q s = rowF (outF o u n w l t p q) n 0 s := rfl
theorem tryT_zero (o u n : Nat) (w : Nat → Nat) (t : Tr) (p q : Nat) (s : Bt) : tryT o u n w 0 t p q s = updT o u s t p q := rfl
theorem inF_no {o u n : Nat} {w : Nat → Nat} {l : Nat} {t : Tr} {p q i k : Nat} {s : Bt} (h : okT t i k = false) : inF o u n w l t p q i k s = s := by unfold inF; rw [h]; rfl
theorem inF_yes {o u n : Nat} {w : Nat → Nat} {l : Nat} {t : Tr} {p q i k : Nat} {s : Bt} (h : okT t i k = true) : inF o u n w l t p q i k s = tryT o u n w l (t ++ [(i, k)]) (p * w i) (q * w k) s := by unfold inF; rw [h]; rfl
theorem okT_i {t : Tr} {i : Nat} (h : i ∈ ixT t ∨ lastOk t i = false) (k : Nat) : okT t i k = false := by
  unfold okT
  rcases h with h | h
  · simp [h]
  · simp [h]
theorem outF_no {o u n : Nat} {w : Nat → Nat} {l : Nat} {t : Tr} {p q i : Nat} {s : Bt} (h : i ∈ ixT t ∨ lastOk t i = false) : outF o u n w l t p q i s = s :=
  rowF_id (fun k s => inF_no (okT_i h k)) n 0 s
/-- What holds of the best one so far: L pairs, small numbers. -/
def StT (L n : Nat) (s : Bt) : Prop := ∀ t p q, s = some (t, p, q) → t.length = L ∧ 1 ≤ p ∧ p ≤ 1000000000 ∧ 1 ≤ q ∧ q ≤ 1000000000 ∧ ∀ x ∈ t, x.1 < n ∧ x.2 < n
theorem StT.upd {L n o u : Nat} {s : Bt} {t : Tr} {p q : Nat} (h : StT L n s) (ht : t.length = L ∧ 1 ≤ p ∧ p ≤ 1000000000 ∧ 1 ≤ q ∧ q ≤ 1000000000 ∧ ∀ x ∈ t, x.1 < n ∧ x.2 < n) : StT L n (updT o u s t p q) := by
  intro t' p' q' he
  unfold updT at he
  split at he
  · injection he with he
    injection he with e1 he
    injection he with e2 e3
    subst e1 e2 e3
    exact ht
  · split at he
    · injection he with he
      injection he with e1 he
      injection he with e2 e3
      subst e1 e2 e3
      exact ht
    · exact h _ _ _ he
theorem updT_some {o u : Nat} {s : Bt} {t : Tr} {p q : Nat} : ∃ x, updT o u s t p q = some x := by
  unfold updT
  split
  · exact ⟨_, rfl⟩
  · split <;> exact ⟨_, rfl⟩
/-- Bounds of a product of at most three wheels. -/
def Pw (j p : Nat) : Prop := 1 ≤ p ∧ p ≤ 1000 ^ j
theorem Pw.one : Pw 0 1 := ⟨by omega, by simp⟩
theorem Pw.mul {j p w : Nat} (h : Pw j p) (h1 : 1 ≤ w) (h2 : w ≤ 1000) : Pw (j + 1) (p * w) :=
  ⟨Nat.mul_pos h.1 h1, by rw [Nat.pow_succ]; exact Nat.mul_le_mul h.2 h2⟩
theorem Pw.le {j p : Nat} (h : Pw j p) (hj : j ≤ 3) : p ≤ 1000000000 := by
  have h1 : 1000 ^ j ≤ 1000 ^ 3 := Nat.pow_le_pow_right (by omega) hj
  have := h.2
  omega
theorem ixT_snoc (t : Tr) (i k : Nat) : ixT (t ++ [(i, k)]) = ixT t ++ [i] ++ [k] := by unfold ixT; simp
theorem okT_yes {t : Tr} {i k : Nat} (h : okT t i k = true) : i ∉ ixT t ∧ lastOk t i = true ∧ k ∉ ixT t ∧ k ≠ i := by
  unfold okT at h
  simp only [Bool.and_eq_true, Bool.not_eq_true', decide_eq_false_iff_not] at h
  exact ⟨h.1.1.1, h.1.1.2, h.1.2, h.2⟩
/-- How far a fraction is from o/u. -/
def dR (o u p q : Nat) : Rat := Rat.divInt ((offN o u p q : Nat) : Int) ((u * q : Nat) : Int)
theorem num_negI {q : Rat} : q.num < 0 ↔ q < 0 := by
  rw [← Int.not_le, Rat.num_nonneg, Rat.not_le]
theorem divI_lt {a c : Int} {b d : Int} (hb : 0 < b) (hd : 0 < d) : Rat.divInt a b < Rat.divInt c d ↔ a * d < c * b := by
  have hbR : (0 : Rat) < (b : Rat) := by
    have := Rat.intCast_lt_intCast (a := 0) (b := b)
    simpa using this.2 hb
  have hdR : (0 : Rat) < (d : Rat) := by
    have := Rat.intCast_lt_intCast (a := 0) (b := d)
    simpa using this.2 hd
  rw [Rat.divInt_eq_div, Rat.divInt_eq_div, Rat.div_lt_iff hbR]
  have e : (c : Rat) / (d : Rat) * (b : Rat) = ((c : Rat) * (b : Rat)) / (d : Rat) := by rw [Rat.div_def, Rat.div_def, Rat.mul_assoc, Rat.mul_assoc, Rat.mul_comm _ (b : Rat)]
  rw [e, Rat.lt_div_iff hdR, ← Rat.intCast_mul, ← Rat.intCast_mul, Rat.intCast_lt_intCast]
theorem dR_sub {o u p q : Nat} (hu : 0 < u) (hq : 0 < q) : ((p : Nat) : Rat) / ((q : Nat) : Rat) - ((o : Nat) : Rat) / ((u : Nat) : Rat) = Rat.divInt ((p : Int) * (u : Int) - (o : Int) * (q : Int)) ((u * q : Nat) : Int) := by
  have e1 : ((p : Nat) : Rat) / ((q : Nat) : Rat) = Rat.divInt (p : Int) (q : Int) := by rw [Rat.divInt_eq_div]; rfl
  have e2 : ((o : Nat) : Rat) / ((u : Nat) : Rat) = Rat.divInt (o : Int) (u : Int) := by rw [Rat.divInt_eq_div]; rfl
  rw [e1, e2, Rat.divInt_sub_divInt _ _ (by omega) (by omega), Int.natCast_mul, Int.mul_comm (q : Int) (u : Int)]
/-- The difference without its sign. -/
theorem dR_neg {o u p q : Nat} (hu : 0 < u) (hq : 0 < q) (h : p * u < o * q) : sg (rn (((p : Nat) : Rat) / ((q : Nat) : Rat) - ((o : Nat) : Rat) / ((u : Nat) : Rat))) = -1 ∧ -(((p : Nat) : Rat) / ((q : Nat) : Rat) - ((o : Nat) : Rat) / ((u : Nat) : Rat)) = dR o u p q := by
  have hpos : (0 : Int) < ((u * q : Nat) : Int) := by have := Nat.mul_pos hu hq; omega
  have hI : (p : Int) * (u : Int) < (o : Int) * (q : Int) := by rw [← Int.natCast_mul, ← Int.natCast_mul]; omega
  rw [dR_sub hu hq]
  constructor
  · have h1 : Rat.divInt ((p : Int) * (u : Int) - (o : Int) * (q : Int)) ((u * q : Nat) : Int) < 0 := by
      have := (divI_lt (a := (p : Int) * (u : Int) - (o : Int) * (q : Int)) (c := 0) (b := ((u * q : Nat) : Int)) (d := 1) hpos (by omega)).2 (by omega)
      simpa using this
    have h2 : rn (Rat.divInt ((p : Int) * (u : Int) - (o : Int) * (q : Int)) ((u * q : Nat) : Int)) < 0 := num_negI.2 h1
    unfold sg
    rw [if_pos h2]
  · rw [Rat.neg_divInt]
    unfold dR offN
    congr 1
    omega
theorem dR_nneg {o u p q : Nat} (hu : 0 < u) (hq : 0 < q) (h : ¬ p * u < o * q) : ¬ sg (rn (((p : Nat) : Rat) / ((q : Nat) : Rat) - ((o : Nat) : Rat) / ((u : Nat) : Rat))) < 0 ∧ ((p : Nat) : Rat) / ((q : Nat) : Rat) - ((o : Nat) : Rat) / ((u : Nat) : Rat) = dR o u p q := by
  have hpos : (0 : Int) < ((u * q : Nat) : Int) := by have := Nat.mul_pos hu hq; omega
  have hI : ¬ (p : Int) * (u : Int) < (o : Int) * (q : Int) := by rw [← Int.natCast_mul, ← Int.natCast_mul]; omega
  rw [dR_sub hu hq]
  constructor
  · have h1 : ¬ Rat.divInt ((p : Int) * (u : Int) - (o : Int) * (q : Int)) ((u * q : Nat) : Int) < 0 := fun hc => by
      have h3 : Rat.divInt ((p : Int) * (u : Int) - (o : Int) * (q : Int)) ((u * q : Nat) : Int) < Rat.divInt 0 1 := by simpa using hc
      have := (divI_lt hpos (by omega)).1 h3
      omega
    have h2 : ¬ rn (Rat.divInt ((p : Int) * (u : Int) - (o : Int) * (q : Int)) ((u * q : Nat) : Int)) < 0 := fun hc => h1 (num_negI.1 hc)
    unfold sg
    rw [if_neg h2]
    split <;> decide
  · unfold dR offN
    congr 1
    omega
theorem dR_lt {o u p q p' q' : Nat} (hu : 0 < u) (hq : 0 < q) (hq' : 0 < q') : dR o u p q < dR o u p' q' ↔ closerB o u p q p' q' = true := by
  have h1 : (0 : Int) < ((u * q : Nat) : Int) := by have := Nat.mul_pos hu hq; omega
  have h2 : (0 : Int) < ((u * q' : Nat) : Int) := by have := Nat.mul_pos hu hq'; omega
  unfold dR closerB
  rw [divI_lt h1 h2, decide_eq_true_eq, ← Int.natCast_mul, ← Int.natCast_mul, Int.ofNat_lt]
  have e1 : offN o u p q * (u * q') = u * (offN o u p q * q') := by rw [Nat.mul_left_comm]
  have e2 : offN o u p' q' * (u * q) = u * (offN o u p' q' * q) := by rw [Nat.mul_left_comm]
  rw [e1, e2]
  exact Nat.mul_lt_mul_left hu
theorem rsg_lt {p q : Rat} : rsg p q < 0 ↔ p < q := by
  rw [Rat.lt_iff]
  unfold rsg sg rn rd
  constructor
  · intro h
    split at h
    · omega
    · split at h <;> omega
  · intro h
    rw [if_pos (by omega)]
    decide
theorem divI_sz {a : Int} {b : Nat} (hb : 0 < b) (ha : a.natAbs < p10 10000) (hb2 : b < p10 10000) : Sz (Rat.divInt a (b : Int)) := by
  refine Bd.sz (d := b) (m := a.natAbs) ⟨a, ?_, Nat.le_refl _⟩ hb ha hb2
  have hbn : ((b : Int) : Rat) ≠ 0 := by
    intro h
    have : (b : Int) = 0 := by simpa using h
    omega
  rw [Rat.divInt_eq_div]
  exact Rat.div_mul_cancel hbn
theorem p10_18 : 1000000000000000000000 < p10 10000 := Nat.lt_of_lt_of_le (show 1000000000000000000000 < p10 22 by decide) (p10_mono (by omega))
theorem natR_sz {n : Nat} (h : n ≤ 1000000000) : Sz ((n : Nat) : Rat) := by
  have := divI_sz (a := (n : Int)) (b := 1) (by omega) (by have := p10_18; omega) (by have := p10_18; omega)
  have e : Rat.divInt (n : Int) ((1 : Nat) : Int) = ((n : Nat) : Rat) := by
    have h3 := rat_eq ((n : Nat) : Rat)
    exact h3
  rw [e] at this
  exact this
theorem natR_rn {n : Nat} (h : 0 < n) : 0 < rn ((n : Nat) : Rat) := by
  have : rn ((n : Nat) : Rat) = (n : Int) := rfl
  omega
theorem quo_sz {p q : Nat} (h : 0 < q) (hp : p ≤ 1000000000) (hq : q ≤ 1000000000) : Sz (((p : Nat) : Rat) / ((q : Nat) : Rat)) := by
  have := divI_sz (a := (p : Int)) (b := q) h (by have := p10_18; omega) (by have := p10_18; omega)
  have e : Rat.divInt (p : Int) (q : Int) = ((p : Nat) : Rat) / ((q : Nat) : Rat) := by rw [Rat.divInt_eq_div]; rfl
  rw [e] at this
  exact this
theorem offN_le {o u p q : Nat} (ho : o ≤ 1000000) (hu : u ≤ 1000000) (hp : p ≤ 1000000000) (hq : q ≤ 1000000000) : offN o u p q ≤ 1000000000000000 ∧ u * q ≤ 1000000000000000 ∧ o * q ≤ 1000000000000000 ∧ p * u ≤ 1000000000000000 := by
  have h1 : o * q ≤ 1000000 * 1000000000 := Nat.mul_le_mul ho hq
  have h2 : p * u ≤ 1000000000 * 1000000 := Nat.mul_le_mul hp hu
  have h3 : u * q ≤ 1000000 * 1000000000 := Nat.mul_le_mul hu hq
  unfold offN
  omega
theorem dR_sz {o u p q : Nat} (hu0 : 0 < u) (hq0 : 0 < q) (ho : o ≤ 1000000) (hu : u ≤ 1000000) (hp : p ≤ 1000000000) (hq : q ≤ 1000000000) : Sz (dR o u p q) := by
  obtain ⟨h1, h2, _, _⟩ := offN_le ho hu hp hq
  exact divI_sz (Nat.mul_pos hu0 hq0) (by have := p10_18; omega) (by have := p10_18; omega)
theorem dS_sz {o u p q : Nat} (hu0 : 0 < u) (hq0 : 0 < q) (ho : o ≤ 1000000) (hu : u ≤ 1000000) (hp : p ≤ 1000000000) (hq : q ≤ 1000000000) : Sz (((p : Nat) : Rat) / ((q : Nat) : Rat) - ((o : Nat) : Rat) / ((u : Nat) : Rat)) := by
  obtain ⟨h1, h2, h3, h4⟩ := offN_le ho hu hp hq
  rw [dR_sub hu0 hq0]
  refine divI_sz (Nat.mul_pos hu0 hq0) ?_ (by have := p10_18; omega)
  have := p10_18
  rw [← Int.natCast_mul, ← Int.natCast_mul]
  omega
end Go.Proofs.YtbehfhmdilifkaaGreat
