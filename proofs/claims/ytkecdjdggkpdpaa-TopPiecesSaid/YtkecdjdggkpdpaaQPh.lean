/- Gl Gn Gp -/
import Derived.Test.YtkecdjdggkpdpaaQPg
import Derived.Test.YtkecdjdggkpdpaaQPa
set_option linter.unusedVariables false
/- Walk of counts. -/
namespace Go.Proofs.Ytkecdjdggkpdpaa
open Go Go.RowKit Go.Proofs

theorem ZBlk.dn {w : World} {g : Nat} {xs : List Int} (h : ZBlk w g xs) (q : Nat) : ZBlk (w.drewN q) g xs := h
theorem nblk_zblk {w : World} {g N : Nat} (h : Nblk .i64 w g 3 (List.replicate N 0)) : ZBlk w g (List.replicate N 0) := by
  unfold Nblk at h
  unfold ZBlk
  simpa using h
theorem nblk_cell {w : World} {g N i : Nat} (h : Nblk .i64 w g 3 (List.replicate N 0)) (hi : i < N) : w.cell? ⟨g, i, none⟩ = some (.int .i64 0) := by
  have := (nblk_zblk h).at (i := i) (by simpa using hi)
  rw [at0_of (x := 0) (by rw [List.getElem?_replicate, if_pos hi])] at this
  exact this
theorem bits_and_nat (a b : Nat) (ha : a < 9223372036854775808) (hb : b < 9223372036854775808) : bits .and .i64 (a : Int) (b : Int) = ((a &&& b : Nat) : Int) := by
  have hx : a &&& b < 2 ^ 63 := Nat.and_lt_two_pow _ (by omega)
  have h1 : (BitVec.ofInt 64 (a : Int)).toNat = a := by
    rw [BitVec.ofInt_natCast, BitVec.toNat_ofNat]; exact Nat.mod_eq_of_lt (by omega)
  have h2 : (BitVec.ofInt 64 (b : Int)).toNat = b := by
    rw [BitVec.ofInt_natCast, BitVec.toNat_ofNat]; exact Nat.mod_eq_of_lt (by omega)
  show IntKind.i64.wrap ((BitVec.ofInt 64 (a : Int) &&& BitVec.ofInt 64 (b : Int)).toNat : Int) = _
  rw [BitVec.toNat_and, h1, h2, IntKind.wrap_i64]
  omega
theorem bits_or_nat (a b : Nat) (ha : a < 9223372036854775808) (hb : b < 9223372036854775808) : bits .or .i64 (a : Int) (b : Int) = ((a ||| b : Nat) : Int) := by
  have hx : a ||| b < 2 ^ 63 := Nat.or_lt_two_pow (by omega) (by omega)
  have h1 : (BitVec.ofInt 64 (a : Int)).toNat = a := by
    rw [BitVec.ofInt_natCast, BitVec.toNat_ofNat]; exact Nat.mod_eq_of_lt (by omega)
  have h2 : (BitVec.ofInt 64 (b : Int)).toNat = b := by
    rw [BitVec.ofInt_natCast, BitVec.toNat_ofNat]; exact Nat.mod_eq_of_lt (by omega)
  show IntKind.i64.wrap ((BitVec.ofInt 64 (a : Int) ||| BitVec.ofInt 64 (b : Int)).toNat : Int) = _
  rw [BitVec.toNat_or, h1, h2, IntKind.wrap_i64]
  omega
theorem bit_at (u j : Nat) (hu : u < 9223372036854775808) : bits .and .i64 ((u : Int) / 2 ^ j) 1 = ((u.testBit j).toNat : Int) := by
  have e : ((u : Int) / 2 ^ j) = ((u / 2 ^ j : Nat) : Int) := by simp
  rw [e]
  have h1 : u / 2 ^ j ≤ u := Nat.div_le_self _ _
  have := bits_and_nat (u / 2 ^ j) 1 (by omega) (by omega)
  rw [show ((1 : Nat) : Int) = 1 from rfl] at this
  rw [this, Nat.testBit_eq_decide_div_mod_eq, Nat.and_one_is_mod]
  by_cases h : u / 2 ^ j % 2 = 1
  · rw [h]; rfl
  · rw [show u / 2 ^ j % 2 = 0 by omega]; rfl
theorem or_bit (u j : Nat) (hu : u < 9223372036854775808) (hj : j < 63) : bits .or .i64 (u : Int) ((2 : Int) ^ j) = ((u ||| 2 ^ j : Nat) : Int) := by
  have e : ((2 : Int) ^ j) = ((2 ^ j : Nat) : Int) := by simp
  rw [e]
  exact bits_or_nat u (2 ^ j) hu (by have := Nat.pow_lt_pow_right (a := 2) (by omega) hj; omega)
theorem pow_in (j : Nat) (hj : j < 63) : wrap64 ((2 : Int) ^ j) = (2 : Int) ^ j := by
  have e : ((2 : Int) ^ j) = ((2 ^ j : Nat) : Int) := by simp
  have := Nat.pow_lt_pow_right (a := 2) (by omega) hj
  rw [IntWalk.wrap64_in]
  rw [e]; generalize 2 ^ j = x at *; omega
def TabPost (A : Nat → Nat → Bool) (n : Nat) (w : World) (e : Ending) (w' : World) : Prop := ∃ g, e = .returned (.slice (some ⟨g, 0, none⟩) (2 ^ n) (2 ^ n)) ∧ ZBlk w' g (tabW A n) ∧ Below w.heap.size w w' ∧ w.heap.size ≤ g ∧ g < w'.heap.size
end Go.Proofs.Ytkecdjdggkpdpaa

/- Walk of Count. -/
namespace Go.Proofs.Ytkecdjdggkpdpaa
open Go Go.RowKit Go.Proofs

def CountPost (A : Nat → Nat → Bool) (n : Nat) (w : World) (e : Ending) (w' : World) : Prop := e = .returned (.tuple #[.int .i64 ((alwN A n).length : Nat), .int .i64 0]) ∧ Below w.heap.size w w'
end Go.Proofs.Ytkecdjdggkpdpaa

/- Walk of At. -/
namespace Go.Proofs.Ytkecdjdggkpdpaa
open Go Go.RowKit Go.Proofs

def AtPost (A : Nat → Nat → Bool) (n R : Nat) (w : World) (e : Ending) (w' : World) : Prop :=
  ∃ (l : List Nat) (g o c : Nat), (alwN A n)[R]? = some l ∧ l.length = n ∧ e = .returned (.tuple #[.slice (some ⟨g, o, none⟩) n c, .int .i64 0]) ∧ n ≤ c ∧ IZ w' (some ⟨g, o, none⟩) (nz l) ∧ Below w.heap.size w w'
theorem AtI.tab {A : Nat → Nat → Bool} {n R m u k j : Nat} {f : List Nat} (h : AtI A n R (m + 1) u f k) (hj : j < n) (hjf : j ∉ f) : wayT A n (u ||| 2 ^ j) = (alw A n m (f ++ [j])).length :=
  wayT_bits (h.bits.snoc hj) (snoc_nodup h.nodup hjf) (snoc_lt h.lt hj) (by have := h.len; simp; omega)
end Go.Proofs.Ytkecdjdggkpdpaa
