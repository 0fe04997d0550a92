/- Bq Br -/
import Derived.Test.YtcaeonpjokkjnaaKXa
import Derived.Test.YtcaeonpjokkjnaaKBkp
import Derived.Test.YtcaeonpjokkjnaaQYj
import Derived.Test.YtcaeonpjokkjnaaQWt
import Derived.Test.YtcaeonpjokkjnaaKXm
set_option linter.unusedVariables false
/- Walk of the reference: Back. -/
namespace Go.Proofs.Ytcaeonpjokkjnaa
open Go Go.RowKit Go.Proofs

/-- The next number, as far as j of its terms are taken off. -/
def vB (us : List Rat) (k j : Nat) : Rat := nth us (k + 1) - pdot (bkL us k) (segL us k) j
theorem vB_zero {us : List Rat} {k : Nat} {r : Rat} (h : us[k + 1]? = some r) : vB us k 0 = r := by
  unfold vB nth pdot Go.Proofs.Ytcaeonpjokkjnaa.psum
  rw [h]
  simp
  grind
theorem vB_next {us : List Rat} {k j : Nat} {p q : Rat} (hp : (bkL us k)[j]? = some p) (hq : (segL us k)[j]? = some q) : vB us k j - p * q = vB us k (j + 1) := by
  unfold vB
  rw [← pdot_next (bkL us k) (segL us k) j p q hp hq]
  grind
theorem vB_full {us : List Rat} {k : Nat} (h : k + 1 ≤ us.length) : vB us k k = nth us (k + 1) - dotl (bkL us k) (segL us k) := by
  unfold vB pdot dotl Go.Proofs.Ytcaeonpjokkjnaa.psum
  rw [List.take_of_length_le (by rw [List.length_zipWith, bkL_length, segL_length h]; omega)]
theorem PQ.zz1 {n d : Int} {q : Rat} {B : Nat} (h : PQ n d q B) (hB : B ≤ 1000000 := by omega) : LZ n ≤ 1000000 := by
  have := h.2.2.1; omega
theorem PQ.zz2 {n d : Int} {q : Rat} {B : Nat} (h : PQ n d q B) (hB : B ≤ 1000000 := by omega) : LZ d ≤ 1000000 := by
  have := h.2.2.2; omega
theorem sg_rn {q : Rat} (h : sg (rn q) = 0) : q = 0 := by
  have h1 : rn q = 0 := by
    unfold sg at h
    split at h
    · omega
    · split at h <;> omega
  exact Rat.num_eq_zero.1 h1

end Go.Proofs.Ytcaeonpjokkjnaa

/- Walk of the reference: Renewals. -/
namespace Go.Proofs.Ytcaeonpjokkjnaa
open Go Go.RowKit Go.Proofs

theorem t1_nt : nt 1 = ⟨#[49]⟩ := by rw [← t1_q, nt_parse t1_ok]
/-- What Renewals answers. -/
def rensE (ss : List ByteArray) (k : Int) : Prop :=
  ((ss.length < 1 ∨ 41 < ss.length) ∧ k = 1) ∨ ((1 ≤ ss.length ∧ ss.length ≤ 41) ∧ ¬ allOK ss ∧ k = 2) ∨
  ((1 ≤ ss.length ∧ ss.length ≤ 41) ∧ allOK ss ∧ ¬ rensGood (ss.map parseQ) ∧ k = 1) ∨ ((1 ≤ ss.length ∧ ss.length ≤ 41) ∧ allOK ss ∧ rensGood (ss.map parseQ) ∧ k = 0)
theorem rensE.ex (ss : List ByteArray) : ∃ k, rensE ss k := by
  by_cases h1 : ss.length < 1 ∨ 41 < ss.length
  · exact ⟨1, Or.inl ⟨h1, rfl⟩⟩
  · have h2 : 1 ≤ ss.length ∧ ss.length ≤ 41 := by omega
    by_cases h3 : allOK ss
    · by_cases h4 : rensGood (ss.map parseQ)
      · exact ⟨0, Or.inr (Or.inr (Or.inr ⟨h2, h3, h4, rfl⟩))⟩
      · exact ⟨1, Or.inr (Or.inr (Or.inl ⟨h2, h3, h4, rfl⟩))⟩
    · exact ⟨2, Or.inr (Or.inl ⟨h2, h3, rfl⟩)⟩

set_option maxRecDepth 100000 in
set_option maxHeartbeats 800000 in
theorem renewalsR_len (ao : Option Addr) (c l : Nat) (w : World) (hl : l < 1 ∨ 41 < l) :
    Calls Try.prog 24 #[.slice ao l c] w (RetNum w 1) := by
  by_cases h1 : l < 1
  · have h2 : (l : Int) < 1 := by omega
    clear hl h1
    go_enter Try.func24, Try.ntmps24
    go_wp2_with (fail)
    go_ret
    exact ⟨rfl, Below.refl _ _⟩
  · have h2 : ¬ (l : Int) < 1 := by omega
    have h3 : 41 < (l : Int) := by omega
    clear hl h1
    go_enter Try.func24, Try.ntmps24
    go_wp2_with (fail)
    go_ret
    exact ⟨rfl, Below.refl _ _⟩
set_option maxRecDepth 100000 in
set_option maxHeartbeats 800000 in
theorem renewalsR_form (ao : Option Addr) (c l : Nat) (ss : List ByteArray) (w : World) (hl : ss.length = l) (h : SL w ao ss) (h1 : 1 ≤ l) (h2 : l ≤ 41) (hs : ∀ s ∈ ss, s.size ≤ 40) (hok : ¬ allOK ss) :
    Calls Try.prog 24 #[.slice ao l c] w (RetNum w 2) := by
  have hH := Lib.hid h
  have hlH := Lib.hid hl
  have hokH := Lib.hid hok
  have hs2 : Hid (∀ s ∈ ss, s.size ≤ 4611686018427387904) := fun s hh => by have := hs s hh; omega
  have k1 : ¬ (l : Int) < 1 := by omega
  have k2 : ¬ (41 : Int) < l := by omega
  clear h hl hs hok
  go_enter Try.func24, Try.ntmps24
  go_wp2_with (first
    | (go_at_call 48; go_loud (with_reducible refine (nums_any 2 ao c l ss _ (Or.inr ⟨hokH.out, rfl⟩) hlH.out hH.out (by omega) hs2.out).mono ?_); rintro e w1 ⟨rfl, hb1⟩))
  go_ret
  exact ⟨rfl, hb1⟩
set_option maxRecDepth 100000 in
set_option maxHeartbeats 1600000 in
theorem renewalsR_ok (k0 : Int) (ao : Option Addr) (c l : Nat) (ss : List ByteArray) (w : World) (hl : ss.length = l) (h : SL w ao ss) (h1 : 1 ≤ l) (h2 : l ≤ 41) (hs : ∀ s ∈ ss, s.size ≤ 40) (hok : allOK ss) (hk : (¬ rensGood (ss.map parseQ) ∧ k0 = 1) ∨ (rensGood (ss.map parseQ) ∧ k0 = 0)) :
    Calls Try.prog 24 #[.slice ao l c] w (RetNum w k0) := by
  have hH := Lib.hid h
  have hlH := Lib.hid hl
  have hokH := Lib.hid hok
  have hkH := Lib.hid hk
  have hs2 : Hid (∀ s ∈ ss, s.size ≤ 4611686018427387904) := fun s hh => by have := hs s hh; omega
  have k1 : ¬ (l : Int) < 1 := by omega
  have k2 : ¬ (41 : Int) < l := by omega
  have k3 : (0 : Int) < l := by omega
  obtain ⟨s0, hs0⟩ : ∃ s0, ss[0]? = some s0 := ⟨_, List.getElem?_eq_getElem (by omega)⟩
  have hs0H := Lib.hid hs0
  have hq0 : Hid (nth (ss.map parseQ) 0 = parseQ s0) := by show _ = _; unfold nth; rw [List.getElem?_map, hs0]; rfl
  clear h hl hs hok hk hs0
  go_enter Try.func24, Try.ntmps24
  go_wp2_with (first
    | (go_at_call 48; go_loud (with_reducible refine (nums_any 0 ao c l ss _ (Or.inl ⟨hokH.out, rfl⟩) hlH.out hH.out (by omega) hs2.out).mono ?_); rintro e w1 ⟨rfl, hb1⟩; have hb1H := Lib.hid hb1; clear hb1))
  go_loopw [4] (fun i wr => ∃ k, i = .int .i64 (k : Nat) ∧ k ≤ l ∧ (∀ i s, i < k → ss[i]? = some s → shortOK s 6 = true) ∧ Below w.heap.size w wr) (fun i _ => l - (intOf i).toNat)
  case atStart => exact ⟨0, rfl, by omega, fun i _ hi => absurd hi (by omega), hb1H.out⟩
  case round =>
    obtain ⟨k, rfl, hk, hO, hbl⟩ := hrel
    have hblH := Lib.hid hbl
    have hOH := Lib.hid hO
    clear hO hbl
    by_cases hkn : k < l
    · obtain ⟨s, hs⟩ : ∃ s, ss[k]? = some s := ⟨_, List.getElem?_eq_getElem (by rw [hlH.out]; exact hkn)⟩
      obtain ⟨b1, o1, rfl, e0⟩ := (hH.out.below hblH.out) k s hs
      have hsz := Lib.hid (hs2.out s (List.mem_of_getElem? hs))
      have hsH := Lib.hid hs
      have hkm : (k : Int) < (l : Int) := by omega
      clear hs
      by_cases hf : shortOK s 6 = true
      · have hfH := Lib.hid hf
        clear hf
        go_wp2_with (first
          | (go_at_call 53; go_loud (with_reducible refine (short_6 s true _ hsz.out hfH.out).mono ?_); rintro e w2 ⟨rfl, hb2⟩; have hb2H := Lib.hid (bseq hblH.out hb2); clear hb2))
        go_roundw
        case rel =>
          refine ⟨k + 1, by go_num, by omega, fun i t hi ht => ?_, hb2H.out⟩
          by_cases e : i = k
          · subst e; have h9 := hsH.out; rw [ht] at h9; injection h9 with h9; rw [h9]; exact hfH.out
          · exact hOH.out i t (by omega) ht
        case measure => simp [intOf]; omega
      · have hfH : Hid (shortOK s 6 = false) := by show _ = _; simpa using hf
        clear hf
        go_wp2_with (first
          | (go_at_call 53; go_loud (with_reducible refine (short_6 s false _ hsz.out hfH.out).mono ?_); rintro e w2 ⟨rfl, hb2⟩; have hb2H := Lib.hid (bseq hblH.out hb2); clear hb2))
        go_ret
        refine ⟨?_, hb2H.out⟩
        rcases hkH.out with ⟨_, h⟩ | ⟨h, _⟩
        · rw [h]; rfl
        · exfalso
          have hm := List.mem_of_getElem? hsH.out
          have h5 := h.1 _ (List.mem_map_of_mem hm)
          have h6 := hfH.out
          rw [short_fits (hokH.out s hm) (by omega), h5] at h6
          cases h6
    · have hkm : ¬ (k : Int) < (l : Int) := by omega
      have hfit : Hid (∀ q ∈ ss.map parseQ, fits q 6 = true) := fun q hq => by
        obtain ⟨s, hm, rfl⟩ := List.mem_map.1 hq
        obtain ⟨i, hi, he⟩ := List.getElem_of_mem hm
        rw [← short_fits (hokH.out s hm) (by omega)]
        exact hOH.out i s (by rw [hlH.out] at hi; omega) (by rw [List.getElem?_eq_getElem hi, he])
      obtain ⟨b1, o1, rfl, e0⟩ := (hH.out.below hblH.out) 0 s0 hs0H.out
      rw [Nat.add_zero] at e0
      by_cases h1 : s0 = ⟨#[49]⟩
      · have hk0 : Hid (k0 = 0) := by
          show _ = _
          rcases hkH.out with ⟨h, _⟩ | ⟨_, h⟩
          · exact absurd ⟨hfit.out, by rw [hq0.out, h1, t1_q]⟩ h
          · exact h
        subst h1
        go_wp2_with (fail)
        go_ret
        exact ⟨by rw [hk0.out]; rfl, hblH.out⟩
      · have hk0 : Hid (k0 = 1) := by
          show _ = _
          rcases hkH.out with ⟨_, h⟩ | ⟨h, _⟩
          · exact h
          · have h5 := h.2
            rw [hq0.out] at h5
            exact absurd (by rw [← nt_parse (hokH.out s0 (List.mem_of_getElem? hs0H.out)), h5, t1_nt]) h1
        have h1b : (s0.toList == [49]) = false := by
          have h := toList_ne_of h1
          have e : (⟨#[49]⟩ : ByteArray).toList = [49] := by rw [ByteArray.toList_eq]
          rw [e] at h
          exact h
        go_wp2_with (fail)
        go_ret
        exact ⟨by rw [hk0.out]; rfl, hblH.out⟩
theorem renewalsR_any (k : Int) (ao : Option Addr) (c n : Nat) (ss : List ByteArray) (w : World) (hk : rensE ss k) (hl : ss.length = n) (h : SL w ao ss) (hs : ∀ s ∈ ss, s.size ≤ 40) :
    Calls Try.prog 24 #[.slice ao n c] w (RetNum w k) := by
  subst hl
  rcases hk with ⟨h1, rfl⟩ | ⟨h1, h2, rfl⟩ | ⟨h1, h2, h3, rfl⟩ | ⟨h1, h2, h3, rfl⟩
  · exact renewalsR_len ao c ss.length w h1
  · exact renewalsR_form ao c ss.length ss w rfl h h1.1 h1.2 hs h2
  · exact renewalsR_ok 1 ao c ss.length ss w rfl h h1.1 h1.2 hs h2 (Or.inl ⟨h3, rfl⟩)
  · exact renewalsR_ok 0 ao c ss.length ss w rfl h h1.1 h1.2 hs h2 (Or.inr ⟨h3, rfl⟩)

end Go.Proofs.Ytcaeonpjokkjnaa
