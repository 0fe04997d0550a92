/- Rb -/
import Derived.Test.YtcaeonpjokkjnaaKXm
import Derived.Test.YtcaeonpjokkjnaaKXj
import Derived.Test.YtcaeonpjokkjnaaKXg
set_option linter.unusedVariables false
/- Walk of the law WearBacks. -/
namespace Go.Proofs.Ytcaeonpjokkjnaa
open Go Go.RowKit Go.Proofs

theorem bs_of {us : List Rat} {n e : Nat} (hl : us.length = n + 1) (hf : ∀ q ∈ us, fits q e = true) (hbig : (e + e * (n + 1)) * n ≤ 3000) : Bs us n (dens us) (p10 e - 1) where
  len := hl
  d0 := dens_pos us
  iz := dens_mem us
  ab q hq := by
    obtain ⟨h1, h2⟩ := fits_den (hf q hq)
    have hd := q.den_pos
    have hn : q.num.natAbs ≤ p10 e - 1 := by
      have : q.num.natAbs < p10 e := h2
      omega
    have hmul : (p10 e - 1) * 1 ≤ (p10 e - 1) * q.den := Nat.mul_le_mul_left _ hd
    generalize p10 e - 1 = U at *
    have hmul2 : (U : Int) ≤ (U : Int) * (q.den : Int) := by rw [← Int.natCast_mul]; omega
    refine le_ab ?_ ?_
    · have h3 : -q ≤ cN U := by
        rw [Rat.le_iff]
        show (-q.num) * ((1 : Nat) : Int) ≤ (U : Int) * (q.den : Int)
        omega
      grind
    · rw [Rat.le_iff]
      show q.num * ((1 : Nat) : Int) ≤ (U : Int) * (q.den : Int)
      omega
  big := by
    have h0 : 0 < p10 e := p10_pos e
    rw [show p10 e - 1 + 1 = p10 e by omega]
    have h1 : dens us ≤ p10 (e * (n + 1)) := by
      have := dens_le (B := p10 e) us fun q hq => Nat.le_of_lt (fits_den (hf q hq)).1
      rw [hl, p10_pow] at this
      exact this
    have h2 : p10 e * dens us ≤ p10 (e + e * (n + 1)) := by rw [p10_add]; exact Nat.mul_le_mul_left _ h1
    have h3 := Nat.pow_le_pow_left h2 n
    rw [p10_pow] at h3
    exact Nat.le_trans h3 (p10_mono hbig)

theorem SL.take {w : World} {ao : Option Addr} {ss : List ByteArray} (h : SL w ao ss) (k : Nat) : SL w ao (ss.take k) := fun i s hs => by
  rw [List.getElem?_take] at hs
  split at hs
  · exact h i s hs
  · cases hs
theorem back_k (k : Int) (ao : Option Addr) (c l : Nat) (ss : List ByteArray) (w : World) (hk0 : k = 1 ∨ k = 2) (hk : rensE ss k) (hl : ss.length = l) (h : SL w ao ss) (hs : ∀ s ∈ ss, s.size ≤ 40) :
    Calls Try.prog 23 #[.slice ao l c] w (RetErr w k) := by
  subst hl
  have hs2 : ∀ s ∈ ss, s.size ≤ 4611686018427387904 := fun s hh => by have := hs s hh; omega
  rcases hk with ⟨h1, rfl⟩ | ⟨h1, h2, rfl⟩ | ⟨h1, h2, h3, rfl⟩ | ⟨h1, h2, h3, rfl⟩
  · exact back_len ao c ss.length w h1
  · exact back_form ao c ss.length ss w rfl h h1.1 h1.2 hs2 h2
  · exact back_arg ao c ss.length ss w rfl h h1.1 h1.2 hs2 h2 (own_sz h2 hs) h3
  · omega

theorem rens_take {ss : List ByteArray} (h : rensE ss 0) (hm : 9 ≤ ss.length) : rensE (ss.take 9) 0 := by
  rcases h with ⟨_, h2⟩ | ⟨_, _, h2⟩ | ⟨_, _, _, h2⟩ | ⟨h1, h2, h3, _⟩
  · exact absurd h2 (by decide)
  · exact absurd h2 (by decide)
  · exact absurd h2 (by decide)
  · refine Or.inr (Or.inr (Or.inr ⟨?_, fun s hs => h2 s (List.mem_of_mem_take hs), ⟨fun q hq => ?_, ?_⟩, rfl⟩))
    · rw [List.length_take]; omega
    · rw [List.map_take] at hq
      exact h3.1 q (List.mem_of_mem_take hq)
    · have h4 := h3.2
      unfold nth at h4 ⊢
      rw [List.map_take, List.getElem?_take_of_lt (by omega)]
      exact h4
theorem short_all {ss : List ByteArray} (hok : allOK ss) {e : Nat} (he : 1 ≤ e) (h : ∀ s ∈ ss, shortOK s e = true) : ∀ q ∈ ss.map parseQ, fits q e = true := fun q hq => by
  obtain ⟨s, h1, rfl⟩ := List.mem_map.1 hq
  rw [← short_fits (hok s h1) he]
  exact h s h1

end Go.Proofs.Ytcaeonpjokkjnaa
