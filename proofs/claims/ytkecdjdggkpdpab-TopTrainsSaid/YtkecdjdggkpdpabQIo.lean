/- Io Ip Iq -/
import Derived.Test.YtkecdjdggkpdpabQTb
import Derived.Test.YtkecdjdggkpdpabQRat4
import Derived.Test.YtkecdjdggkpdpabQWn
import Derived.Test.YtkecdjdggkpdpabQZq
import Derived.Test.YtkecdjdggkpdpabQWe
import Derived.Test.YtkecdjdggkpdpabQTo
import Derived.Test.YtkecdjdggkpdpabQPd
import Derived.Test.YtkecdjdggkpdpabQPc
import Derived.Test.YtkecdjdggkpdpabQTd
import Derived.Deep.LoopGhost
import Derived.Deep.RegionLawGrows
import Derived.Laws.EntriesVeiled
import Derived.Test.YtkecdjdggkpdpabQTj
set_option linter.unusedVariables false
/- Plain: trains of wheels in lexicographic order, and the best one. -/
namespace Go.Proofs.Ytkecdjdggkpdpab
open Go Go.RowKit Go.Proofs

abbrev Tr := List (Nat × Nat)
/-- The best one so far, with its numerator and denominator. -/
abbrev Bt := Option (Tr × Nat × Nat)
def updT (o u : Nat) (s : Bt) (t : Tr) (p q : Nat) : Bt :=
  match s with
  | none => some (t, p, q)
  | some (t', p', q') => if closerB o u p q p' q' then some (t, p, q) else some (t', p', q')
def ixT (t : Tr) : List Nat := t.flatMap fun x => [x.1, x.2]
def lastOk (t : Tr) (i : Nat) : Bool :=
  match t.getLast? with
  | none => true
  | some x => decide (x.1 ≤ i)
def okT (t : Tr) (i k : Nat) : Bool := !(decide (i ∈ ixT t)) && lastOk t i && !(decide (k ∈ ixT t)) && !(decide (k = i))
/-- f at k, k + 1, .., k + m - 1. -/
def rowF (f : Nat → Bt → Bt) : Nat → Nat → Bt → Bt
  | 0, _, s => s
  | m + 1, k, s => rowF f m (k + 1) (f k s)
theorem rowF_next {f : Nat → Bt → Bt} {n k : Nat} {s : Bt} (h : k < n) : rowF f (n - k) k s = rowF f (n - (k + 1)) (k + 1) (f k s) := by
  obtain ⟨m, hm⟩ : ∃ m, n - k = m + 1 := ⟨n - k - 1, by omega⟩
  rw [hm, show n - (k + 1) = m by omega]
  rfl
theorem rowF_end {f : Nat → Bt → Bt} {n k : Nat} {s : Bt} (h : n ≤ k) : rowF f (n - k) k s = s := by
  rw [show n - k = 0 by omega]
  rfl
theorem rowF_id {f : Nat → Bt → Bt} (h : ∀ k s, f k s = s) (m k : Nat) (s : Bt) : rowF f m k s = s := by
  induction m generalizing k s with
  | zero => rfl
  | succ m ih => unfold rowF; rw [ih, h]
/-- All trains with l pairs more than t are tried. -/
def tryT (o u n : Nat) (w : Nat → Nat) : Nat → Tr → Nat → Nat → Bt → Bt
  | 0, t, p, q, s => updT o u s t p q
  | l + 1, t, p, q, s => rowF (fun i s => rowF (fun k s => if okT t i k then tryT o u n w l (t ++ [(i, k)]) (p * w i) (q * w k) s else s) n 0 s) n 0 s
def inF (o u n : Nat) (w : Nat → Nat) (l : Nat) (t : Tr) (p q i : Nat) (k : Nat) (s : Bt) : Bt := if okT t i k then tryT o u n w l (t ++ [(i, k)]) (p * w i) (q * w k) s else s
def outF (o u n : Nat) (w : Nat → Nat) (l : Nat) (t : Tr) (p q : Nat) (i : Nat) (s : Bt) : Bt := rowF (inF o u n w l t p q i) n 0 s
theorem tryT_succ (o u n : Nat) (w : Nat → Nat) (l : Nat) (t : Tr) (p q : Nat) (s : Bt) : tryT o u n w (l + 1) t p q s = rowF (outF o u n w l t p q) n 0 s := rfl
theorem tryT_zero (o u n : Nat) (w : Nat → Nat) (t : Tr) (p q : Nat) (s : Bt) : tryT o u n w 0 t p q s = updT o u s t p q := rfl
theorem inF_no {o u n : Nat} {w : Nat → Nat} {l : Nat} {t : Tr} {p q i k : Nat} {s : Bt} (h : okT t i k = false) : inF o u n w l t p q i k s = s := by unfold inF; rw [h]; rfl
theorem inF_yes {o u n : Nat} {w : Nat → Nat} {l : Nat} {t : Tr} {p q i k : Nat} {s : Bt} (h : okT t i k = true) : inF o u n w l t p q i k s = tryT o u n w l (t ++ [(i, k)]) (p * w i) (q * w k) s := by unfold inF; rw [h]; rfl
theorem okT_i {t : Tr} {i : Nat} (h : i ∈ ixT t ∨ lastOk t i = false) (k : Nat) : okT t i k = false := by
  unfold okT
  rcases h with h | h
  · simp [h]
  · simp [h]
theorem outF_no {o u n : Nat} {w : Nat → Nat} {l : Nat} {t : Tr} {p q i : Nat} {s : Bt} (h : i ∈ ixT t ∨ lastOk t i = false) : outF o u n w l t p q i s = s :=
  rowF_id (fun k s => inF_no (okT_i h k)) n 0 s
/-- What holds of the best one so far: L pairs, small numbers. -/
def StT (L n : Nat) (s : Bt) : Prop := ∀ t p q, s = some (t, p, q) → t.length = L ∧ 1 ≤ p ∧ p ≤ 1000000000 ∧ 1 ≤ q ∧ q ≤ 1000000000 ∧ ∀ x ∈ t, x.1 < n ∧ x.2 < n
theorem StT.upd {L n o u : Nat} {s : Bt} {t : Tr} {p q : Nat} (h : StT L n s) (ht : t.length = L ∧ 1 ≤ p ∧ p ≤ 1000000000 ∧ 1 ≤ q ∧ q ≤ 1000000000 ∧ ∀ x ∈ t, x.1 < n ∧ x.2 < n) : StT L n (updT o u s t p q) := by
  intro t' p' q' he
  unfold updT at he
  split at he
  · injection he with he
    injection he with e1 he
    injection he with e2 e3
    subst e1 e2 e3
    exact ht
  · split at he
    · injection he with he
      injection he with e1 he
      injection he with e2 e3
      subst e1 e2 e3
      exact ht
    · exact h _ _ _ he
theorem updT_some {o u : Nat} {s : Bt} {t : Tr} {p q : Nat} : ∃ x, updT o u s t p q = some x := by
  unfold updT
  split
  · exact ⟨_, rfl⟩
  · split <;> exact ⟨_, rfl⟩
/-- Bounds of a product of at most three wheels. -/
def Pw (j p : Nat) : Prop := 1 ≤ p ∧ p ≤ 1000 ^ j
theorem Pw.one : Pw 0 1 := ⟨by omega, by simp⟩
theorem Pw.mul {j p w : Nat} (h : Pw j p) (h1 : 1 ≤ w) (h2 : w ≤ 1000) : Pw (j + 1) (p * w) :=
  ⟨Nat.mul_pos h.1 h1, by rw [Nat.pow_succ]; exact Nat.mul_le_mul h.2 h2⟩
theorem Pw.le {j p : Nat} (h : Pw j p) (hj : j ≤ 3) : p ≤ 1000000000 := by
  have h1 : 1000 ^ j ≤ 1000 ^ 3 := Nat.pow_le_pow_right (by omega) hj
  have := h.2
  omega
theorem ixT_snoc (t : Tr) (i k : Nat) : ixT (t ++ [(i, k)]) = ixT t ++ [i] ++ [k] := by unfold ixT; simp
theorem okT_yes {t : Tr} {i k : Nat} (h : okT t i k = true) : i ∉ ixT t ∧ lastOk t i = true ∧ k ∉ ixT t ∧ k ≠ i := by
  unfold okT at h
  simp only [Bool.and_eq_true, Bool.not_eq_true', decide_eq_false_iff_not] at h
  exact ⟨h.1.1.1, h.1.1.2, h.1.2, h.2⟩
/-- How far a fraction is from o/u. -/
def dR (o u p q : Nat) : Rat := Rat.divInt ((offN o u p q : Nat) : Int) ((u * q : Nat) : Int)
theorem num_negI {q : Rat} : q.num < 0 ↔ q < 0 := by
  rw [← Int.not_le, Rat.num_nonneg, Rat.not_le]
theorem divI_lt {a c : Int} {b d : Int} (hb : 0 < b) (hd : 0 < d) : Rat.divInt a b < Rat.divInt c d ↔ a * d < c * b := by
  have hbR : (0 : Rat) < (b : Rat) := by
    have := Rat.intCast_lt_intCast (a := 0) (b := b)
    simpa using this.2 hb
  have hdR : (0 : Rat) < (d : Rat) := by
    have := Rat.intCast_lt_intCast (a := 0) (b := d)
    simpa using this.2 hd
  rw [Rat.divInt_eq_div, Rat.divInt_eq_div, Rat.div_lt_iff hbR]
  have e : (c : Rat) / (d : Rat) * (b : Rat) = ((c : Rat) * (b : Rat)) / (d : Rat) := by rw [Rat.div_def, Rat.div_def, Rat.mul_assoc, Rat.mul_assoc, Rat.mul_comm _ (b : Rat)]
  rw [e, Rat.lt_div_iff hdR, ← Rat.intCast_mul, ← Rat.intCast_mul, Rat.intCast_lt_intCast]
theorem dR_sub {o u p q : Nat} (hu : 0 < u) (hq : 0 < q) : ((p : Nat) : Rat) / ((q : Nat) : Rat) - ((o : Nat) : Rat) / ((u : Nat) : Rat) = Rat.divInt ((p : Int) * (u : Int) - (o : Int) * (q : Int)) ((u * q : Nat) : Int) := by
  have e1 : ((p : Nat) : Rat) / ((q : Nat) : Rat) = Rat.divInt (p : Int) (q : Int) := by rw [Rat.divInt_eq_div]; rfl
  have e2 : ((o : Nat) : Rat) / ((u : Nat) : Rat) = Rat.divInt (o : Int) (u : Int) := by rw [Rat.divInt_eq_div]; rfl
  rw [e1, e2, Rat.divInt_sub_divInt _ _ (by omega) (by omega), Int.natCast_mul, Int.mul_comm (q : Int) (u : Int)]
/-- The difference without its sign. -/
theorem dR_neg {o u p q : Nat} (hu : 0 < u) (hq : 0 < q) (h : p * u < o * q) : sg (rn (((p : Nat) : Rat) / ((q : Nat) : Rat) - ((o : Nat) : Rat) / ((u : Nat) : Rat))) = -1 ∧ -(((p : Nat) : Rat) / ((q : Nat) : Rat) - ((o : Nat) : Rat) / ((u : Nat) : Rat)) = dR o u p q := by
  have hpos : (0 : Int) < ((u * q : Nat) : Int) := by have := Nat.mul_pos hu hq; omega
  have hI : (p : Int) * (u : Int) < (o : Int) * (q : Int) := by rw [← Int.natCast_mul, ← Int.natCast_mul]; omega
  rw [dR_sub hu hq]
  constructor
  · have h1 : Rat.divInt ((p : Int) * (u : Int) - (o : Int) * (q : Int)) ((u * q : Nat) : Int) < 0 := by
      have := (divI_lt (a := (p : Int) * (u : Int) - (o : Int) * (q : Int)) (c := 0) (b := ((u * q : Nat) : Int)) (d := 1) hpos (by omega)).2 (by omega)
      simpa using this
    have h2 : rn (Rat.divInt ((p : Int) * (u : Int) - (o : Int) * (q : Int)) ((u * q : Nat) : Int)) < 0 := num_negI.2 h1
    unfold sg
    rw [if_pos h2]
  · rw [Rat.neg_divInt]
    unfold dR offN
    congr 1
    omega
theorem dR_nneg {o u p q : Nat} (hu : 0 < u) (hq : 0 < q) (h : ¬ p * u < o * q) : ¬ sg (rn (((p : Nat) : Rat) / ((q : Nat) : Rat) - ((o : Nat) : Rat) / ((u : Nat) : Rat))) < 0 ∧ ((p : Nat) : Rat) / ((q : Nat) : Rat) - ((o : Nat) : Rat) / ((u : Nat) : Rat) = dR o u p q := by
  have hpos : (0 : Int) < ((u * q : Nat) : Int) := by have := Nat.mul_pos hu hq; omega
  have hI : ¬ (p : Int) * (u : Int) < (o : Int) * (q : Int) := by rw [← Int.natCast_mul, ← Int.natCast_mul]; omega
  rw [dR_sub hu hq]
  constructor
  · have h1 : ¬ Rat.divInt ((p : Int) * (u : Int) - (o : Int) * (q : Int)) ((u * q : Nat) : Int) < 0 := fun hc => by
      have h3 : Rat.divInt ((p : Int) * (u : Int) - (o : Int) * (q : Int)) ((u * q : Nat) : Int) < Rat.divInt 0 1 := by simpa using hc
      have := (divI_lt hpos (by omega)).1 h3
      omega
    have h2 : ¬ rn (Rat.divInt ((p : Int) * (u : Int) - (o : Int) * (q : Int)) ((u * q : Nat) : Int)) < 0 := fun hc => h1 (num_negI.1 hc)
    unfold sg
    rw [if_neg h2]
    split <;> decide
  · unfold dR offN
    congr 1
    omega
theorem dR_lt {o u p q p' q' : Nat} (hu : 0 < u) (hq : 0 < q) (hq' : 0 < q') : dR o u p q < dR o u p' q' ↔ closerB o u p q p' q' = true := by
  have h1 : (0 : Int) < ((u * q : Nat) : Int) := by have := Nat.mul_pos hu hq; omega
  have h2 : (0 : Int) < ((u * q' : Nat) : Int) := by have := Nat.mul_pos hu hq'; omega
  unfold dR closerB
  rw [divI_lt h1 h2, decide_eq_true_eq, ← Int.natCast_mul, ← Int.natCast_mul, Int.ofNat_lt]
  have e1 : offN o u p q * (u * q') = u * (offN o u p q * q') := by rw [Nat.mul_left_comm]
  have e2 : offN o u p' q' * (u * q) = u * (offN o u p' q' * q) := by rw [Nat.mul_left_comm]
  rw [e1, e2]
  exact Nat.mul_lt_mul_left hu
theorem rsg_lt {p q : Rat} : rsg p q < 0 ↔ p < q := by
  rw [Rat.lt_iff]
  unfold rsg sg rn rd
  constructor
  · intro h
    split at h
    · omega
    · split at h <;> omega
  · intro h
    rw [if_pos (by omega)]
    decide
theorem divI_sz {a : Int} {b : Nat} (hb : 0 < b) (ha : a.natAbs < p10 10000) (hb2 : b < p10 10000) : Sz (Rat.divInt a (b : Int)) := by
  refine Bd.sz (d := b) (m := a.natAbs) ⟨a, ?_, Nat.le_refl _⟩ hb ha hb2
  have hbn : ((b : Int) : Rat) ≠ 0 := by
    intro h
    have : (b : Int) = 0 := by simpa using h
    omega
  rw [Rat.divInt_eq_div]
  exact Rat.div_mul_cancel hbn
theorem p10_18 : 1000000000000000000000 < p10 10000 := Nat.lt_of_lt_of_le (show 1000000000000000000000 < p10 22 by decide) (p10_mono (by omega))
theorem natR_sz {n : Nat} (h : n ≤ 1000000000) : Sz ((n : Nat) : Rat) := by
  have := divI_sz (a := (n : Int)) (b := 1) (by omega) (by have := p10_18; omega) (by have := p10_18; omega)
  have e : Rat.divInt (n : Int) ((1 : Nat) : Int) = ((n : Nat) : Rat) := by
    have h3 := rat_eq ((n : Nat) : Rat)
    exact h3
  rw [e] at this
  exact this
theorem natR_rn {n : Nat} (h : 0 < n) : 0 < rn ((n : Nat) : Rat) := by
  have : rn ((n : Nat) : Rat) = (n : Int) := rfl
  omega
theorem quo_sz {p q : Nat} (h : 0 < q) (hp : p ≤ 1000000000) (hq : q ≤ 1000000000) : Sz (((p : Nat) : Rat) / ((q : Nat) : Rat)) := by
  have := divI_sz (a := (p : Int)) (b := q) h (by have := p10_18; omega) (by have := p10_18; omega)
  have e : Rat.divInt (p : Int) (q : Int) = ((p : Nat) : Rat) / ((q : Nat) : Rat) := by rw [Rat.divInt_eq_div]; rfl
  rw [e] at this
  exact this
theorem offN_le {o u p q : Nat} (ho : o ≤ 1000000) (hu : u ≤ 1000000) (hp : p ≤ 1000000000) (hq : q ≤ 1000000000) : offN o u p q ≤ 1000000000000000 ∧ u * q ≤ 1000000000000000 ∧ o * q ≤ 1000000000000000 ∧ p * u ≤ 1000000000000000 := by
  have h1 : o * q ≤ 1000000 * 1000000000 := Nat.mul_le_mul ho hq
  have h2 : p * u ≤ 1000000000 * 1000000 := Nat.mul_le_mul hp hu
  have h3 : u * q ≤ 1000000 * 1000000000 := Nat.mul_le_mul hu hq
  unfold offN
  omega
theorem dR_sz {o u p q : Nat} (hu0 : 0 < u) (hq0 : 0 < q) (ho : o ≤ 1000000) (hu : u ≤ 1000000) (hp : p ≤ 1000000000) (hq : q ≤ 1000000000) : Sz (dR o u p q) := by
  obtain ⟨h1, h2, _, _⟩ := offN_le ho hu hp hq
  exact divI_sz (Nat.mul_pos hu0 hq0) (by have := p10_18; omega) (by have := p10_18; omega)
theorem dS_sz {o u p q : Nat} (hu0 : 0 < u) (hq0 : 0 < q) (ho : o ≤ 1000000) (hu : u ≤ 1000000) (hp : p ≤ 1000000000) (hq : q ≤ 1000000000) : Sz (((p : Nat) : Rat) / ((q : Nat) : Rat) - ((o : Nat) : Rat) / ((u : Nat) : Rat)) := by
  obtain ⟨h1, h2, h3, h4⟩ := offN_le ho hu hp hq
  rw [dR_sub hu0 hq0]
  refine divI_sz (Nat.mul_pos hu0 hq0) ?_ (by have := p10_18; omega)
  have := p10_18
  rw [← Int.natCast_mul, ← Int.natCast_mul]
  omega
end Go.Proofs.Ytkecdjdggkpdpab

/- Helpers for trains: bits, slices.Compare, slices.Clone of rows, append of a row in a region that draws, the frame of two boxes. -/
namespace Go.Proofs.Ytkecdjdggkpdpab
open Go Go.RowKit Go.Proofs

theorem bits_and_nat (a b : Nat) (ha : a < 9223372036854775808) (hb : b < 9223372036854775808) : bits .and .i64 (a : Int) (b : Int) = ((a &&& b : Nat) : Int) := by
  have hx : a &&& b < 2 ^ 63 := Nat.and_lt_two_pow _ (by omega)
  have h1 : (BitVec.ofInt 64 (a : Int)).toNat = a := by
    rw [BitVec.ofInt_natCast, BitVec.toNat_ofNat]; exact Nat.mod_eq_of_lt (by omega)
  have h2 : (BitVec.ofInt 64 (b : Int)).toNat = b := by
    rw [BitVec.ofInt_natCast, BitVec.toNat_ofNat]; exact Nat.mod_eq_of_lt (by omega)
  show IntKind.i64.wrap ((BitVec.ofInt 64 (a : Int) &&& BitVec.ofInt 64 (b : Int)).toNat : Int) = _
  rw [BitVec.toNat_and, h1, h2, IntKind.wrap_i64]
  omega
theorem bits_or_nat (a b : Nat) (ha : a < 9223372036854775808) (hb : b < 9223372036854775808) : bits .or .i64 (a : Int) (b : Int) = ((a ||| b : Nat) : Int) := by
  have hx : a ||| b < 2 ^ 63 := Nat.or_lt_two_pow (by omega) (by omega)
  have h1 : (BitVec.ofInt 64 (a : Int)).toNat = a := by
    rw [BitVec.ofInt_natCast, BitVec.toNat_ofNat]; exact Nat.mod_eq_of_lt (by omega)
  have h2 : (BitVec.ofInt 64 (b : Int)).toNat = b := by
    rw [BitVec.ofInt_natCast, BitVec.toNat_ofNat]; exact Nat.mod_eq_of_lt (by omega)
  show IntKind.i64.wrap ((BitVec.ofInt 64 (a : Int) ||| BitVec.ofInt 64 (b : Int)).toNat : Int) = _
  rw [BitVec.toNat_or, h1, h2, IntKind.wrap_i64]
  omega
theorem bit_at (u j : Nat) (hu : u < 9223372036854775808) : bits .and .i64 ((u : Int) / 2 ^ j) 1 = ((u.testBit j).toNat : Int) := by
  have e : ((u : Int) / 2 ^ j) = ((u / 2 ^ j : Nat) : Int) := by simp
  rw [e]
  have h1 : u / 2 ^ j ≤ u := Nat.div_le_self _ _
  have := bits_and_nat (u / 2 ^ j) 1 (by omega) (by omega)
  rw [show ((1 : Nat) : Int) = 1 from rfl] at this
  rw [this, Nat.testBit_eq_decide_div_mod_eq, Nat.and_one_is_mod]
  by_cases h : u / 2 ^ j % 2 = 1
  · rw [h]; rfl
  · rw [show u / 2 ^ j % 2 = 0 by omega]; rfl
theorem or_bit (u j : Nat) (hu : u < 9223372036854775808) (hj : j < 63) : bits .or .i64 (u : Int) ((2 : Int) ^ j) = ((u ||| 2 ^ j : Nat) : Int) := by
  have e : ((2 : Int) ^ j) = ((2 ^ j : Nat) : Int) := by simp
  rw [e]
  exact bits_or_nat u (2 ^ j) hu (by have := Nat.pow_lt_pow_right (a := 2) (by omega) hj; omega)
theorem pow_in (j : Nat) (hj : j < 63) : wrap64 ((2 : Int) ^ j) = (2 : Int) ^ j := by
  have e : ((2 : Int) ^ j) = ((2 ^ j : Nat) : Int) := by simp
  have := Nat.pow_lt_pow_right (a := 2) (by omega) hj
  rw [IntWalk.wrap64_in]
  rw [e]; generalize 2 ^ j = x at *; omega
def cmpE (x y : Int) : Int := if x < y then -1 else if y < x then 1 else 0
theorem isNaNE_any (x : Int) (w : World) : Calls Try.prog 61 #[.int .i64 x] w (fun e w' => e = .returned (.bool false) ∧ w = w') := by
  have e1 : (x != x) = false := by simp
  go_enter Try.func61, Try.ntmps61
  go_wp2_with (fail)
  go_ret
  exact ⟨ret_boolJ (by simp), rfl⟩
theorem cmpE_any (x y : Int) (w : World) : Calls Try.prog 41 #[.int .i64 x, .int .i64 y] w (fun e w' => e = .returned (.int .i64 (cmpE x y)) ∧ w = w') := by
  by_cases h1 : x < y
  · have h1B : decide (x < y) = true := by simpa using h1
    have hc : Hid (cmpE x y = -1) := by show _ = _; unfold cmpE; rw [if_pos h1]
    go_enter Try.func41, Try.ntmps41
    go_wp2_with (first
      | (go_at_call 61; (with_reducible refine (isNaNE_any x _).mono ?_); rintro e w1 ⟨rfl, rfl⟩)
      | (go_at_call 61; (with_reducible refine (isNaNE_any y _).mono ?_); rintro e w1 ⟨rfl, rfl⟩))
    go_ret
    exact ⟨ret_intJ hc.out.symm, rfl⟩
  · have h1B : decide (x < y) = false := by simpa using h1
    by_cases h2 : y < x
    · have h2B : decide (y < x) = true := by simpa using h2
      have hc : Hid (cmpE x y = 1) := by show _ = _; unfold cmpE; rw [if_neg h1, if_pos h2]
      go_enter Try.func41, Try.ntmps41
      go_wp2_with (first
        | (go_at_call 61; (with_reducible refine (isNaNE_any x _).mono ?_); rintro e w1 ⟨rfl, rfl⟩)
        | (go_at_call 61; (with_reducible refine (isNaNE_any y _).mono ?_); rintro e w1 ⟨rfl, rfl⟩))
      go_ret
      exact ⟨ret_intJ hc.out.symm, rfl⟩
    · have h2B : decide (y < x) = false := by simpa using h2
      have hc : Hid (cmpE x y = 0) := by show _ = _; unfold cmpE; rw [if_neg h1, if_neg h2]
      go_enter Try.func41, Try.ntmps41
      go_wp2_with (first
        | (go_at_call 61; (with_reducible refine (isNaNE_any x _).mono ?_); rintro e w1 ⟨rfl, rfl⟩)
        | (go_at_call 61; (with_reducible refine (isNaNE_any y _).mono ?_); rintro e w1 ⟨rfl, rfl⟩))
      go_ret
      exact ⟨ret_intJ hc.out.symm, rfl⟩
/-- The order of lists of one length. -/
theorem lt_atE {α : Type} [LT α] {l m : List α} {k : Nat} {a b : α} (ht : l.take k = m.take k) (ha : l[k]? = some a) (hb : m[k]? = some b) (h : a < b) : l < m := by
  induction k generalizing l m with
  | zero =>
    cases l with
    | nil => simp at ha
    | cons x l =>
      cases m with
      | nil => simp at hb
      | cons y m =>
        simp at ha hb
        subst ha hb
        exact List.Lex.rel h
  | succ k ih =>
    cases l with
    | nil => simp at ha
    | cons x l =>
      cases m with
      | nil => simp at hb
      | cons y m =>
        simp at ha hb ht
        obtain ⟨e, ht⟩ := ht
        subst e
        exact List.Lex.cons (ih ht ha hb)
/-- What Compare returns of lists of one length. -/
def CmpPostE (xs ys : List Int) (w : World) (e : Ending) (w' : World) : Prop := ∃ z : Int, e = .returned (.int .i64 z) ∧ ((z < 0 ∧ xs < ys) ∨ (0 < z ∧ ys < xs) ∨ (z = 0 ∧ xs = ys)) ∧ Below w.heap.size w w'
set_option maxRecDepth 100000 in
set_option maxHeartbeats 3200000 in
theorem compareE_any (ao bo : Option Addr) (c d n : Nat) (xs ys : List Int) (w : World) (h1 : IZ w ao xs) (h2 : IZ w bo ys) (hx : xs.length = n) (hy : ys.length = n) (hn : n ≤ 1000000) :
    Calls Try.prog 19 #[.slice ao n c, .slice bo n d] w (CmpPostE xs ys w) := by
  have h1H := Lib.hid h1
  have h2H := Lib.hid h2
  have hxH := Lib.hid hx
  have hyH := Lib.hid hy
  clear h1 h2 hx hy
  go_enter Try.func19, Try.ntmps19
  go_wp2_with (fail)
  go_loopg [11] n (fun gk iv wr => ∃ k : Nat, iv = .int .i64 (k : Nat) ∧ k + gk = n ∧ xs.take k = ys.take k ∧ Below w.heap.size w wr)
  case atStart => exact ⟨0, rfl, by omega, by simp, Below.refl _ _⟩
  case round =>
    obtain ⟨k, rfl, hk, heq, hbl⟩ := hrel
    have heqH := Lib.hid heq
    have hblH := Lib.hid hbl
    clear heq hbl
    by_cases hkn : k < n
    · obtain ⟨g1, rfl⟩ : ∃ g1, gk = g1 + 1 := ⟨gk - 1, by omega⟩
      obtain ⟨b1, o1, hao, e1⟩ := (h1H.out.below hblH.out).at (i := k) (by rw [hxH.out]; exact hkn)
      obtain ⟨b2, o2, hbo, e2⟩ := (h2H.out.below hblH.out).at (i := k) (by rw [hyH.out]; exact hkn)
      have haoH := Lib.hid hao
      have hboH := Lib.hid hbo
      subst hao
      subst hbo
      have hgx := Lib.hid (at0_get (l := xs) (j := k) (by rw [hxH.out]; exact hkn))
      have hgy := Lib.hid (at0_get (l := ys) (j := k) (by rw [hyH.out]; exact hkn))
      have t1 := Lib.hid (take_at0 xs (k := k) (by rw [hxH.out]; exact hkn))
      have t2 := Lib.hid (take_at0 ys (k := k) (by rw [hyH.out]; exact hkn))
      obtain ⟨x, hx⟩ : ∃ x, at0 xs k = x := ⟨_, rfl⟩
      obtain ⟨y, hy⟩ : ∃ y, at0 ys k = y := ⟨_, rfl⟩
      rw [hx] at e1
      rw [hy] at e2
      have hxv := Lib.hid hx
      have hyv := Lib.hid hy
      have hkI : (k : Int) < (n : Int) := by omega
      have hk0 : (0 : Int) ≤ (k : Int) := by omega
      have hkB : decide ((n : Int) ≤ (k : Int)) = false := by simp; omega
      clear hx hy
      obtain ⟨z, hz⟩ : ∃ z, cmpE x y = z := ⟨_, rfl⟩
      have hzH := Lib.hid hz
      by_cases hlt : x < y
      · have ez : z = -1 := by rw [← hz]; unfold cmpE; rw [if_pos hlt]
        subst ez
        clear hz
        go_wp2_with (go_at_call 41; (with_reducible refine (cmpE_any x y _).mono ?_); rintro e w1 ⟨rfl, rfl⟩; rw [hzH.out])
        go_ret
        exact ⟨-1, rfl, .inl ⟨by omega, lt_atE heqH.out (by rw [hgx.out, hxv.out]) (by rw [hgy.out, hyv.out]) hlt⟩, hblH.out⟩
      · by_cases hgt : y < x
        · have ez : z = 1 := by rw [← hz]; unfold cmpE; rw [if_neg hlt, if_pos hgt]
          subst ez
          clear hz
          go_wp2_with (go_at_call 41; (with_reducible refine (cmpE_any x y _).mono ?_); rintro e w1 ⟨rfl, rfl⟩; rw [hzH.out])
          go_ret
          exact ⟨1, rfl, .inr (.inl ⟨by omega, lt_atE heqH.out.symm (by rw [hgy.out, hyv.out]) (by rw [hgx.out, hxv.out]) hgt⟩), hblH.out⟩
        · have ez : z = 0 := by rw [← hz]; unfold cmpE; rw [if_neg hlt, if_neg hgt]
          have exy : x = y := by omega
          subst ez exy
          clear hz
          go_wp2_with (go_at_call 41; (with_reducible refine (cmpE_any x x _).mono ?_); rintro e w1 ⟨rfl, rfl⟩; rw [hzH.out])
          go_roundg g1
          case measure => omega
          case rel => exact ⟨k + 1, by go_num, by omega, by rw [t1.out, t2.out, hxv.out, hyv.out, heqH.out], hblH.out⟩
    · have hke : n = k := by omega
      subst hke
      have hkI : ¬ (n : Int) < (n : Int) := by omega
      have hkB : decide ((n : Int) < (n : Int)) = false := by simp
      go_wp2_with (fail)
      go_ret
      refine ⟨0, rfl, .inr (.inr ⟨rfl, ?_⟩), hblH.out⟩
      have h3 := heqH.out
      rw [List.take_of_length_le (by rw [hxH.out]; exact Nat.le_refl _), List.take_of_length_le (by rw [hyH.out]; exact Nat.le_refl _)] at h3
      exact h3
theorem step_append_rowM {ops : Array Oper} {o : Oper} {a : Act} {w : World} {K : Act → World → Prop} {Q : Exit → Act → World → Prop} {E : Prop} (hgd : o.guard = none) (s x : Operand) (t : TypeId)
    (ho : o.op = .call { callee := .builtin .append, args := #[s, x], argTypes := #[t, t] }) (ht : Try.prog.underlying t = some (.slice 25)) (base n : Nat) (v : Value) (C : List (List Int)) (xs : List Int) (hs : a.eval s = v) (hv : MI w base v C)
    (hn : C.length = n) (g0 : Nat) (hx : a.eval x = .slice (some ⟨g0, 0, none⟩) 1 1) (b : Option Addr) (k d : Nat) (hb : n ≤ 1000000000000) (hbs : base ≤ w.heap.size) (c0 : w.cell? ⟨g0, 0, none⟩ = some (.slice b k d)) (hk : xs.length = k) (hd : k ≤ d) (hz : IZ w b xs)
    (hK : ∀ v' w', MI w' base v' (C ++ [xs]) → w.grownBy w' v.ownBlock → (v'.ownBlock = v.ownBlock ∨ v'.ownBlock = some w.heap.size) → K (a.put o.dst v') w') :
    if Region.wanted o (yielded ops a.tmps) = true then Oper.wp Try.prog o a w K Q else E := by
  have hw : Region.wanted o (yielded ops a.tmps) = true := by simp [Region.wanted, hgd]
  rw [if_pos hw]
  subst hk hn
  obtain ⟨i, h2, h3, h4, h5⟩ := info_parts info_rowJ
  obtain ⟨vs, hown, hno, hr⟩ := hv
  have hnews : ∀ (j : Nat) (u : Value), [Value.slice b xs.length d][j]? = some u → w.cell? ((⟨g0, 0, none⟩ : Addr).add j) = some u := fun j u hu => by
    rcases j with _ | j
    · simp at hu; subst hu
      rw [Addr.add_lit]; exact c0
    · simp at hu
  have hone : ∀ u ∈ [Value.slice b xs.length d], u.oneCell' = true := fun u hu => by rw [List.mem_singleton] at hu; subst hu; rfl
  have hnew : ∀ u ∈ [Value.slice b xs.length d], ∀ k z, u ≠ .int k z := fun u hu k z => by rw [List.mem_singleton] at hu; subst hu; simp
  have hzn : ∀ u ∈ (Value.slice none 0 0).cells.toList, ∀ k z, u ≠ .int k z := fun u hm k z => by
    simp [Value.cells] at hm
    subst hm; simp
  obtain ⟨v', w', hrun, e2, e3, _, e5⟩ := run_append_own_at (P := Try.prog) w base t o.type 25 i _ 1 24 ht h2 h3 h4 h5 rfl (by omega) v C.length vs hown ⟨g0, 0, none⟩ 1 1 _ (by simp) hnews hone (by unfold maxLen; omega) (by omega) hbs
  obtain ⟨v2, w2, hrun2, e6⟩ := run_append_noint (P := Try.prog) w base t o.type 25 i _ 1 24 ht h2 h3 h4 h5 rfl (by omega) v C.length vs hown ⟨g0, 0, none⟩ 1 1 _ (by simp) hnews hone (by unfold maxLen; omega) (by omega) (by omega) hno hnew hzn
  rw [hrun] at hrun2
  injection hrun2 with q1 q2
  subst q1 q2
  unfold Oper.wp execOp
  simp only [ho, resolve, invoke, builtin, Sem.run_bind, Sem.run_pure, Result.andThen_ok, List.map_toArray, List.map_cons, List.map_nil, hs, hx, hrun]
  refine hK v' w' ⟨vs ++ [.slice b xs.length d], ?_, e6, ?_⟩ e3 e5
  · rw [List.length_append]; exact e2
  · refine (hr.append (us := [.slice b xs.length d]) (D := [xs]) ⟨rfl, fun j u ys hu hy => ?_⟩).grown e3 hno
    rcases j with _ | j
    · simp at hu hy
      subst hu hy
      exact ⟨b, d, rfl, hd, hz⟩
    · simp at hu
theorem eql_nilR0 (W : World) : (binOp .eql 26 (.slice none 0 0) (.slice none 0 0)).run Try.prog W = .ok (.bool true) W := Lib.run_eql_slice_nil W _ _ none 0 0 0 0 Try.underlying26
theorem eql_nilR1 (W : World) (a : Addr) (n c : Nat) : (binOp .eql 26 (.slice (some a) n c) (.slice none 0 0)).run Try.prog W = .ok (.bool false) W := Lib.run_eql_slice_nil W _ _ (some a) n c 0 0 Try.underlying26
/-- A copy of a list of rows. -/
theorem cloneR_nil (w : World) : Calls Try.prog 18 #[.slice none 0 0] w (fun e w' => e = .returned (.slice none 0 0) ∧ w = w') := by
  have e0 := eql_nilR0
  go_enter Try.func18, Try.ntmps18
  go_wp2_with (fail)
  go_ret
  exact ⟨rfl, rfl⟩
set_option maxRecDepth 100000 in
set_option maxHeartbeats 1600000 in
theorem cloneR_some (ad : Addr) (n c : Nat) (C : List (List Int)) (w : World) (h : IMx w (some ad) C) (hn : C.length = n) (h0 : 0 < n) (hb : n ≤ 1000000) :
    Calls Try.prog 18 #[.slice (some ad) n c] w (fun e w' => ∃ v', e = .returned v' ∧ MI w' w.heap.size v' C ∧ Below w.heap.size w w') := by
  have e1 := eql_nilR1
  have hH := Lib.hid h
  have hnH := Lib.hid hn
  clear h hn
  go_enter Try.func18, Try.ntmps18
  go_wp2_with (first
    | (at_builtin; go_loud (refine wpList_append_rows _ rfl (.tmp 5) (.tmp 6) _ rfl Try.underlying26 w.heap.size 0 _ [] (by rfl) (MI.lit0 w w.heap.size (Nat.le_refl _)) rfl (some ad) n c C (by rfl) (hH.out.below (below_al (Below.refl _ _) _)) hnH.out h0 (by omega) (by omega) (by simp) ?_); intro v' w' hM hg; have hMH := Lib.hid hM; have hgH := Lib.hid hg; clear hM hg))
  go_ret
  refine ⟨v', rfl, ?_, ?_⟩
  · have := hMH.out
    rw [List.nil_append] at this
    exact this
  · exact (below_al (Below.refl _ _) _).grown hgH.out (by simp) (fun g hg => by simp [Value.ownBlock] at hg; omega)
/-- Two boxes may have turned, nothing else that was there. -/
structure Fr (bb bc : Nat) (w w' : World) : Prop where
  os : w'.os = w.os
  tape : w'.tape = w.tape
  output : w'.output = w.output
  size : w.heap.size ≤ w'.heap.size
  block : ∀ k, k < w.heap.size → k ≠ bb → k ≠ bc → w'.heap[k]? = w.heap[k]?
theorem Fr.of {bb bc : Nat} {w w' : World} (h : Below w.heap.size w w') : Fr bb bc w w' := ⟨h.os, h.tape, h.output, h.size, fun k hk _ _ => h.block k hk⟩
theorem Fr.refl (bb bc : Nat) (w : World) : Fr bb bc w w := Fr.of (Below.refl _ _)
theorem Fr.trans {bb bc : Nat} {a b c : World} (h : Fr bb bc a b) (k : Fr bb bc b c) : Fr bb bc a c :=
  ⟨k.os.trans h.os, k.tape.trans h.tape, k.output.trans h.output, Nat.le_trans h.size k.size, fun i hi h1 h2 => (k.block i (Nat.lt_of_lt_of_le hi h.size) h1 h2).trans (h.block i hi h1 h2)⟩
theorem Fr.setb {bb bc : Nat} {a w : World} (h : Fr bb bc a w) (o : Nat) (u : Value) : Fr bb bc a (w.setCell ⟨bb, o, none⟩ u) :=
  h.trans ⟨rfl, rfl, rfl, by simp [World.setCell], fun k _ h1 _ => Below.heap_setCell _ _ _ _ h1⟩
theorem Fr.setc {bb bc : Nat} {a w : World} (h : Fr bb bc a w) (o : Nat) (u : Value) : Fr bb bc a (w.setCell ⟨bc, o, none⟩ u) :=
  h.trans ⟨rfl, rfl, rfl, by simp [World.setCell], fun k _ _ h2 => Below.heap_setCell _ _ _ _ h2⟩
theorem Fr.cell {bb bc : Nat} {w w' : World} (h : Fr bb bc w w') {b o : Nat} {v : Value} (hc : w.cell? ⟨b, o, none⟩ = some v) (h1 : b ≠ bb) (h2 : b ≠ bc) : w'.cell? ⟨b, o, none⟩ = some v := by
  rw [World.cell?_of_block (w := w) (a := ⟨b, o, none⟩) (h.block b (World.block_lt_of_cell? w ⟨b, o, none⟩ hc) h1 h2)]
  exact hc
theorem Fr.below {bb bc B : Nat} {w w' : World} (h : Fr bb bc w w') (h1 : B ≤ bb) (h2 : B ≤ bc) (h3 : B ≤ w.heap.size) : Below B w w' :=
  ⟨h.os, h.tape, h.output, h.size, fun k hk => h.block k (by omega) (by omega) (by omega)⟩
theorem Fr.icell {bb bc : Nat} {w w' : World} (h : Fr bb bc w w') (n1 : NoInt w bb) (n2 : NoInt w bc) {b o : Nat} {k : IntKind} {z : Int} (hc : w.cell? ⟨b, o, none⟩ = some (.int k z)) : w'.cell? ⟨b, o, none⟩ = some (.int k z) :=
  h.cell hc (fun e => by subst e; exact n1 o k z hc) (fun e => by subst e; exact n2 o k z hc)
theorem IZ.fr {bb bc : Nat} {w w' : World} {ao : Option Addr} {xs : List Int} (hI : IZ w ao xs) (h : Fr bb bc w w') (n1 : NoInt w bb) (n2 : NoInt w bc) : IZ w' ao xs := fun i x hx => by
  obtain ⟨b, o', ha, hc⟩ := hI i x hx
  exact ⟨b, o', ha, h.icell n1 n2 hc⟩
theorem Blk.fr {bb bc : Nat} {w w' : World} {g T : Nat} {cs : List Value} (hB : Blk w g T cs) (h : Fr bb bc w w') (h1 : g ≠ bb) (h2 : g ≠ bc) : Blk w' g T cs := (h.block g hB.lt h1 h2).trans hB
theorem IMx.fr {bb bc : Nat} {w w' : World} {ao : Option Addr} {C : List (List Int)} (hI : IMx w ao C) (h : Fr bb bc w w') (n1 : NoInt w bb) (n2 : NoInt w bc) (hne : ∀ a, ao = some a → a.block ≠ bb ∧ a.block ≠ bc) : IMx w' ao C := by
  obtain ⟨vs, hc, hl, hr⟩ := hI
  refine ⟨vs, fun i v hv => ?_, hl, fun i v xs hv hx => ?_⟩
  · obtain ⟨b, o, ha, hcell⟩ := hc i v hv
    have := hne _ ha
    exact ⟨b, o, ha, h.cell hcell this.1 this.2⟩
  · obtain ⟨a, c, e, hle, hz⟩ := hr i v xs hv hx
    exact ⟨a, c, e, hle, hz.fr h n1 n2⟩
end Go.Proofs.Ytkecdjdggkpdpab

/- The memory of Train's recursion: boxes of fractions, the best train in its two boxes. -/
namespace Go.Proofs.Ytkecdjdggkpdpab
open Go Go.RowKit Go.Proofs

def rowsT (t : Tr) : List (List Int) := t.map fun x => [(x.1 : Int), (x.2 : Int)]
theorem rowsT_length (t : Tr) : (rowsT t).length = t.length := by unfold rowsT; rw [List.length_map]
theorem rowsT_snoc (t : Tr) (i k : Nat) : rowsT (t ++ [(i, k)]) = rowsT t ++ [[(i : Int), (k : Int)]] := by unfold rowsT; rw [List.map_append]; rfl
theorem Dg.fr {bb bc : Nat} {w w' : World} {K : IntKind} {ao : Option Addr} {xs : List Nat} (hI : Dg K w ao xs) (h : Fr bb bc w w') (n1 : NoInt w bb) (n2 : NoInt w bc) : Dg K w' ao xs := fun i x hx => by
  obtain ⟨b, o', ha, hc⟩ := hI i x hx
  exact ⟨b, o', ha, h.icell n1 n2 hc⟩
theorem RM.fr {bb bc : Nat} {w w' : World} {a a' : Option Addr} {c c' : Nat} {q : Rat} (hI : RM w a c a' c' q) (h : Fr bb bc w w') (n1 : NoInt w bb) (n2 : NoInt w bc) : RM w' a c a' c' q :=
  ⟨⟨hI.1.1, hI.1.2.fr h n1 n2⟩, ⟨hI.2.1, hI.2.2.fr h n1 n2⟩⟩
/-- A box holds a fraction. -/
structure RB (W : World) (b : Nat) (q : Rat) (a : Option Addr) (c : Nat) (a' : Option Addr) (c' : Nat) : Prop where
  blk : Blk W b 51 [.bool (ng (rn q)), .slice a (LI (rn q)) c, .bool (ng (rd q)), .slice a' (LI (rd q)) c']
  rm : RM W a c a' c' q
theorem RB.up {W W' : World} {b : Nat} {q : Rat} {a : Option Addr} {c : Nat} {a' : Option Addr} {c' : Nat} (h : RB W b q a c a' c') (hb : Below W.heap.size W W') : RB W' b q a c a' c' := ⟨h.blk.later hb, h.rm.up hb⟩
theorem RB.new {w : World} {q : Rat} {a : Option Addr} {c : Nat} {a' : Option Addr} {c' : Nat} (h : RM w a c a' c' q) : RB (w.alloc (Obj.cells #[.bool (ng (rn q)), .slice a (LI (rn q)) c, .bool (ng (rd q)), .slice a' (LI (rd q)) c'] 51)) w.heap.size q a c a' c' := ⟨World.alloc_heap_new w _, h.up (below_al (Below.refl _ _) _)⟩
def R4 (b0 : Bool) (a : Option Addr) (n c : Nat) (b1 : Bool) (a' : Option Addr) (n' c' : Nat) : List Value := [.bool b0, .slice a n c, .bool b1, .slice a' n' c']
theorem noInt_R4 {W : World} {b T : Nat} {b0 b1 : Bool} {a a' : Option Addr} {n c n' c' : Nat} (h : Blk W b T [.bool b0, .slice a n c, .bool b1, .slice a' n' c']) : NoInt W b := fun o k z hc => by
  rw [h.cell] at hc
  rcases o with _ | _ | _ | _ | o
  · simp at hc
  · simp at hc
  · simp at hc
  · simp at hc
  · simp at hc
theorem noInt_S1 {W : World} {b T : Nat} {a : Option Addr} {n c : Nat} (h : Blk W b T [.slice a n c]) : NoInt W b := fun o k z hc => by
  rw [h.cell] at hc
  rcases o with _ | o
  · simp at hc
  · simp at hc
/-- What a box holds is written anew. -/
def putR (W : World) (b : Nat) (z : Rat) (a : Option Addr) (c : Nat) (a' : Option Addr) (c' : Nat) : World := (((W.setCell ⟨b, 0, none⟩ (.bool (ng (rn z)))).setCell ⟨b, 1, none⟩ (.slice a (LI (rn z)) c)).setCell ⟨b, 2, none⟩ (.bool (ng (rd z)))).setCell ⟨b, 3, none⟩ (.slice a' (LI (rd z)) c')
theorem RM.putR {W : World} {b : Nat} (hn : NoInt W b) {z y : Rat} {a a' e e' : Option Addr} {c c' f f' : Nat} (h : RM W e f e' f' y) : RM (putR W b z a c a' c') e f e' f' y := by
  have t1 := hn.set ⟨b, 0, none⟩ (.bool (ng (rn z))) (by intro _ _ h; cases h)
  have t2 := t1.set ⟨b, 1, none⟩ (.slice a (LI (rn z)) c) (by intro _ _ h; cases h)
  have t3 := t2.set ⟨b, 2, none⟩ (.bool (ng (rd z))) (by intro _ _ h; cases h)
  exact ⟨(((h.1.setN hn _ _).setN t1 _ _).setN t2 _ _).setN t3 _ _, (((h.2.setN hn _ _).setN t1 _ _).setN t2 _ _).setN t3 _ _⟩
theorem RB.put {W : World} {b : Nat} {b0 b1 : Bool} {e e' : Option Addr} {n f n' f' : Nat} (hB : Blk W b 51 [.bool b0, .slice e n f, .bool b1, .slice e' n' f']) {z : Rat} {a a' : Option Addr} {c c' : Nat} (h : RM W a c a' c' z) : RB (putR W b z a c a' c') b z a c a' c' :=
  ⟨Blk.set (Blk.set (Blk.set (Blk.set hB 0 _) 1 _) 2 _) 3 _, RM.putR (noInt_R4 hB) h⟩
theorem putR_below {B : Nat} {W0 W : World} {b : Nat} {z : Rat} {a : Option Addr} {c : Nat} {a' : Option Addr} {c' : Nat} (h : Below B W0 W) (hb : B ≤ b) : Below B W0 (putR W b z a c a' c') := (((h.setCell hb _).setCell hb _).setCell hb _).setCell hb _
theorem Fr.putc {bb bc : Nat} {a w : World} (h : Fr bb bc a w) (z : Rat) (x : Option Addr) (c : Nat) (x' : Option Addr) (c' : Nat) : Fr bb bc a (putR w bc z x c x' c') := (((h.setc _ _).setc _ _).setc _ _).setc _ _
theorem Blk.putR {W : World} {g b T : Nat} {cs : List Value} (h : Blk W g T cs) (hne : g ≠ b) (z : Rat) (a : Option Addr) (c : Nat) (a' : Option Addr) (c' : Nat) : Blk (putR W b z a c a' c') g T cs := Blk.far (Blk.far (Blk.far (Blk.far h (by exact hne) _) (by exact hne) _) (by exact hne) _) (by exact hne) _
/-- The boxes that the recursion only reads, and what they lead to. -/
structure TRd (W : World) (n L : Nat) (ws : List Nat) (Q : Rat) (aw : Option Addr) (cw : Nat) (a1 : Option Addr) (c1 : Nat) (a2 : Option Addr) (c2 : Nat) (bp bt bb bo bw bg : Nat) : Prop where
  cp : W.cell? ⟨bp, 0, none⟩ = some (.int .i64 (L : Nat))
  cw : W.cell? ⟨bw, 0, none⟩ = some (.slice aw n cw)
  cg : W.cell? ⟨bg, 0, none⟩ = some (.func (.func 13) #[] #[ptr bp, ptr bt, ptr bb, ptr bo, ptr bw, ptr bg])
  t0 : W.cell? ⟨bt, 0, none⟩ = some (.bool (ng (rn Q)))
  t1 : W.cell? ⟨bt, 1, none⟩ = some (.slice a1 (LI (rn Q)) c1)
  t2 : W.cell? ⟨bt, 2, none⟩ = some (.bool (ng (rd Q)))
  t3 : W.cell? ⟨bt, 3, none⟩ = some (.slice a2 (LI (rd Q)) c2)
  rm : RM W a1 c1 a2 c2 Q
  iz : IZ W aw (nzT ws)
structure NRd (bp bt bb bo bw bg : Nat) : Prop where
  pb : bp ≠ bb
  po : bp ≠ bo
  tb : bt ≠ bb
  tq : bt ≠ bo
  wb : bw ≠ bb
  wo : bw ≠ bo
  gb : bg ≠ bb
  gq : bg ≠ bo
  bq : bb ≠ bo
theorem TRd.fr {W W' : World} {n L : Nat} {ws : List Nat} {Q : Rat} {aw : Option Addr} {cw : Nat} {a1 : Option Addr} {c1 : Nat} {a2 : Option Addr} {c2 bp bt bb bo bw bg : Nat} (h : TRd W n L ws Q aw cw a1 c1 a2 c2 bp bt bb bo bw bg) (hn : NRd bp bt bb bo bw bg) (hf : Fr bb bo W W') (n1 : NoInt W bb) (n2 : NoInt W bo) : TRd W' n L ws Q aw cw a1 c1 a2 c2 bp bt bb bo bw bg :=
  ⟨hf.cell h.cp hn.pb hn.po, hf.cell h.cw hn.wb hn.wo, hf.cell h.cg hn.gb hn.gq, hf.cell h.t0 hn.tb hn.tq, hf.cell h.t1 hn.tb hn.tq, hf.cell h.t2 hn.tb hn.tq, hf.cell h.t3 hn.tb hn.tq, h.rm.fr hf n1 n2, h.iz.fr hf n1 n2⟩
/-- The best train so far, in its boxes. -/
def BOK (o u : Nat) : Bt → World → Nat → Nat → Prop
  | none, W, bb, bo => Blk W bb 26 [.slice none 0 0] ∧ Blk W bo 51 [.bool false, .slice none 0 0, .bool false, .slice none 0 0]
  | some (t, p, q), W, bb, bo => ∃ (g c : Nat) (a1 : Option Addr) (c1 : Nat) (a2 : Option Addr) (c2 : Nat), Blk W bb 26 [.slice (some ⟨g, 0, none⟩) t.length c] ∧ t.length ≤ c ∧ IMx W (some ⟨g, 0, none⟩) (rowsT t) ∧ g ≠ bb ∧ g ≠ bo ∧ RB W bo (dR o u p q) a1 c1 a2 c2
theorem BOK.below {o u : Nat} {s : Bt} {W W' : World} {bb bo : Nat} (h : BOK o u s W bb bo) (hb : Below W.heap.size W W') : BOK o u s W' bb bo := by
  rcases s with _ | ⟨t, p, q⟩
  · exact ⟨h.1.later hb, h.2.later hb⟩
  · obtain ⟨g, c, a1, c1, a2, c2, h1, h2, h3, h4, h5, h6⟩ := h
    exact ⟨g, c, a1, c1, a2, c2, h1.later hb, h2, h3.below hb, h4, h5, h6.up hb⟩
theorem BOK.no {o u : Nat} {s : Bt} {W : World} {bb bo : Nat} (h : BOK o u s W bb bo) : NoInt W bb ∧ NoInt W bo := by
  rcases s with _ | ⟨t, p, q⟩
  · exact ⟨noInt_S1 h.1, noInt_R4 h.2⟩
  · obtain ⟨g, c, a1, c1, a2, c2, h1, h2, h3, h4, h5, h6⟩ := h
    exact ⟨noInt_S1 h1, noInt_R4 h6.blk⟩
theorem BOK.lt {o u : Nat} {s : Bt} {W : World} {bb bo : Nat} (h : BOK o u s W bb bo) : bb < W.heap.size ∧ bo < W.heap.size := by
  rcases s with _ | ⟨t, p, q⟩
  · exact ⟨h.1.lt, h.2.lt⟩
  · obtain ⟨g, c, a1, c1, a2, c2, h1, h2, h3, h4, h5, h6⟩ := h
    exact ⟨h1.lt, h6.blk.lt⟩
/-- Both boxes are written. -/
theorem BOK.put {o u : Nat} {t : Tr} {p q : Nat} {W : World} {bb bo : Nat} {v0 : Value} {b0 b1 : Bool} {e e' : Option Addr} {m f m' f' : Nat} (hbb : Blk W bb 26 [v0]) (hbo : Blk W bo 51 [.bool b0, .slice e m f, .bool b1, .slice e' m' f']) (hv0 : ∀ k z, v0 ≠ .int k z) (hne : bb ≠ bo)
    {g c : Nat} {a1 : Option Addr} {c1 : Nat} {a2 : Option Addr} {c2 : Nat} (hc : t.length ≤ c) (hI : IMx W (some ⟨g, 0, none⟩) (rowsT t)) (hg1 : g ≠ bb) (hg2 : g ≠ bo) (hR : RM W a1 c1 a2 c2 (dR o u p q)) :
    BOK o u (some (t, p, q)) (putR (W.setCell ⟨bb, 0, none⟩ (.slice (some ⟨g, 0, none⟩) t.length c)) bo (dR o u p q) a1 c1 a2 c2) bb bo := by
  have n1 : NoInt W bb := fun o' k z hcell => by
    rw [hbb.cell] at hcell
    rcases o' with _ | o'
    · simp at hcell; exact hv0 k z hcell
    · simp at hcell
  have n2 : NoInt W bo := noInt_R4 hbo
  have hf : Fr bb bo W (putR (W.setCell ⟨bb, 0, none⟩ (.slice (some ⟨g, 0, none⟩) t.length c)) bo (dR o u p q) a1 c1 a2 c2) := ((Fr.refl bb bo W).setb 0 _).putc _ _ _ _ _
  have hbo1 : Blk (W.setCell ⟨bb, 0, none⟩ (.slice (some ⟨g, 0, none⟩) t.length c)) bo 51 [.bool b0, .slice e m f, .bool b1, .slice e' m' f'] := Blk.far hbo (by exact fun e => hne e.symm) _
  have hR1 : RM (W.setCell ⟨bb, 0, none⟩ (.slice (some ⟨g, 0, none⟩) t.length c)) a1 c1 a2 c2 (dR o u p q) := ⟨hR.1.setN n1 _ _, hR.2.setN n1 _ _⟩
  exact ⟨g, c, a1, c1, a2, c2, Blk.putR (Blk.set hbb 0 _) hne _ _ _ _ _, hc, hI.fr hf n1 n2 (fun a ha => by injection ha with ha; subst ha; exact ⟨hg1, hg2⟩), hg1, hg2, RB.put hbo1 hR1⟩
def GrowT (o u : Nat) (s : Bt) (bb bo : Nat) (W : World) (e : Ending) (w' : World) : Prop := e = .returned (.tuple #[]) ∧ Fr bb bo W w' ∧ BOK o u s w' bb bo
theorem rdivE (a : Option Addr) (c : Nat) (a' : Option Addr) (c' : Nat) (b : Option Addr) (d : Nat) (b' : Option Addr) (d' : Nat) (p q z : Rat) (w : World) (h1 : RM w a c a' c' p) (h2 : RM w b d b' d' q) (hp : Sz p) (hq : Sz q) (h0 : 0 < rn q) (hz : p / q = z) :
    Calls Try.prog 12 #[.agg #[.bool (ng (rn p)), .slice a (LI (rn p)) c, .bool (ng (rd p)), .slice a' (LI (rd p)) c'], .agg #[.bool (ng (rn q)), .slice b (LI (rn q)) d, .bool (ng (rd q)), .slice b' (LI (rd q)) d']] w (RetRat w z) := by
  rw [← hz]; exact rdiv_any a c a' c' b d b' d' p q w h1 h2 hp hq h0
theorem rsubE (a : Option Addr) (c : Nat) (a' : Option Addr) (c' : Nat) (b : Option Addr) (d : Nat) (b' : Option Addr) (d' : Nat) (p q z : Rat) (w : World) (h1 : RM w a c a' c' p) (h2 : RM w b d b' d' q) (hp : Sz p) (hq : Sz q) (hz : p - q = z) :
    Calls Try.prog 14 #[.agg #[.bool (ng (rn p)), .slice a (LI (rn p)) c, .bool (ng (rd p)), .slice a' (LI (rd p)) c'], .agg #[.bool (ng (rn q)), .slice b (LI (rn q)) d, .bool (ng (rd q)), .slice b' (LI (rd q)) d']] w (RetRat w z) := by
  rw [← hz]; exact rsub_any a c a' c' b d b' d' p q w h1 h2 hp hq
theorem rnegE (a : Option Addr) (c : Nat) (a' : Option Addr) (c' : Nat) (p z : Rat) (w : World) (h1 : RM w a c a' c' p) (hp : Sz p) (hz : -p = z) :
    Calls Try.prog 16 #[.agg #[.bool (ng (rn p)), .slice a (LI (rn p)) c, .bool (ng (rd p)), .slice a' (LI (rd p)) c']] w (RetRat w z) := by
  rw [← hz]; exact rneg_any a c a' c' p w h1 hp
theorem rsignE (a : Option Addr) (c : Nat) (a' : Option Addr) (c' : Nat) (p : Rat) (z : Int) (w : World) (hz : sg (rn p) = z) :
    Calls Try.prog 15 #[.agg #[.bool (ng (rn p)), .slice a (LI (rn p)) c, .bool (ng (rd p)), .slice a' (LI (rd p)) c']] w (RetNum w z) := by
  rw [← hz]; exact rsign_any a c a' c' p w
theorem rcmpE (a : Option Addr) (c : Nat) (a' : Option Addr) (c' : Nat) (b : Option Addr) (d : Nat) (b' : Option Addr) (d' : Nat) (p q : Rat) (z : Int) (w : World) (h1 : RM w a c a' c' p) (h2 : RM w b d b' d' q) (hp : Sz p) (hq : Sz q) (hz : rsg p q = z) :
    Calls Try.prog 17 #[.agg #[.bool (ng (rn p)), .slice a (LI (rn p)) c, .bool (ng (rd p)), .slice a' (LI (rd p)) c'], .agg #[.bool (ng (rn q)), .slice b (LI (rn q)) d, .bool (ng (rd q)), .slice b' (LI (rd q)) d']] w (RetNum w z) := by
  rw [← hz]; exact rcmp_any a c a' c' b d b' d' p q w h1 h2 hp hq
theorem wholeE (n : Nat) (z : Rat) (w : World) (hn : n ≤ 4611686018427387904) (hz : ((n : Nat) : Rat) = z) : Calls Try.prog 11 #[.int .i64 (n : Nat)] w (RetRat w z) := by
  rw [← hz]; exact whole_any n w hn
theorem MI.headE {w : World} {base : Nat} {v : Value} {S : List (List Int)} (h : MI w base v S) (h0 : 0 < S.length) : ∃ g c, v = .slice (some ⟨g, 0, none⟩) S.length c ∧ base ≤ g ∧ g < w.heap.size ∧ S.length ≤ c ∧ IMx w (some ⟨g, 0, none⟩) S := by
  obtain ⟨vs, h1, h2, h3⟩ := h
  rcases h1.2 with ⟨_, h5⟩ | ⟨g, cap, cur, hv, _⟩
  · have : S.length = 0 := h5
    omega
  · have hv' : v = .slice (some ⟨g, 0, none⟩) S.length cap := hv
    subst hv'
    have hM : MI w base (.slice (some ⟨g, 0, none⟩) S.length cap) S := ⟨vs, h1, h2, h3⟩
    have h5 := hM.lt g rfl
    exact ⟨g, cap, rfl, h5.1, h5.2, hM.imx.2, hM.imx.1⟩
end Go.Proofs.Ytkecdjdggkpdpab
