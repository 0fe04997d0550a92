/- Rn Yl Rt -/
import Derived.Test.YtcaeonpjokkjnaaQYj
import Derived.Test.YtcaeonpjokkjnaaQWt
import Derived.Test.YtcaeonpjokkjnaaQWu
import Derived.Test.YtcaeonpjokkjnaaQWs
import Derived.Test.YtcaeonpjokkjnaaKXa
set_option linter.unusedVariables false
/- Walk of the law WearRenews. -/
namespace Go.Proofs.Ytcaeonpjokkjnaa
open Go Go.RowKit Go.Proofs

theorem SV.cap {w : World} {base n c : Nat} {ao : Option Addr} {ss : List ByteArray} (h : SV w base (.slice ao n c) ss) (hn : ss.length = n) : n ≤ c := by
  rcases h.1.2 with ⟨h1, h2⟩ | ⟨g', cap', cur, hv, _, _, hc, _⟩
  · injection h1 with _ h3 _; omega
  · injection hv with _ h3 h4; omega
theorem fewL_small (xs : List ByteArray) (n : Nat) : ∀ s ∈ fewL xs n, s.size ≤ 40 := fun s hs => by
  obtain ⟨t, _, rfl⟩ := List.mem_map.1 hs
  exact cut40_size t
theorem fewL_le (xs : List ByteArray) (n : Nat) : (fewL xs n).length ≤ n := by
  unfold fewL
  rw [List.length_map, List.length_take]
  exact Nat.min_le_left _ _
theorem Lv.u4 {ps : List Rat} (h : Lv ps) {k : Nat} (hk : k ≤ 40) : ∀ q ∈ uL ps k, Short4 q := fun q hq => by
  obtain ⟨a, b, c⟩ := h.us k q hq
  have hd := Nat.pow_pos (n := k) (dens_pos ps)
  obtain ⟨p1, p2⟩ := (c.bd (k := 1) a (by exact b)).parts hd
  have h1 := small (k := 1) (h.pow (k := k) (by omega)) (by omega) (by omega)
  exact ⟨by omega, by omega⟩

/-- What Lives answers of texts. -/
def livesE (ss : List ByteArray) (k : Int) : Prop := (¬ allOK ss ∧ k = 2) ∨ (allOK ss ∧ ¬ livesGood (ss.map parseQ) ∧ k = 1) ∨ (allOK ss ∧ livesGood (ss.map parseQ) ∧ k = 0)
theorem livesE.ex (ss : List ByteArray) : ∃ k, livesE ss k := by
  by_cases h : allOK ss
  · by_cases h2 : livesGood (ss.map parseQ)
    · exact ⟨0, Or.inr (Or.inr ⟨h, h2, rfl⟩)⟩
    · exact ⟨1, Or.inr (Or.inl ⟨h, h2, rfl⟩)⟩
  · exact ⟨2, Or.inl ⟨h, rfl⟩⟩
theorem renew_k (k n : Int) (ao : Option Addr) (c l : Nat) (ss : List ByteArray) (w : World) (hk0 : k = 1 ∨ k = 2) (hk : livesE ss k) (hl : ss.length = l) (h : SL w ao ss) (hn : l ≤ 1000) (hs : ∀ s ∈ ss, s.size ≤ 40) :
    Calls Try.prog 10 #[.slice ao l c, .int .i64 n] w (RetErr w k) := by
  subst hl
  rcases hk with ⟨h1, rfl⟩ | ⟨h1, h2, rfl⟩ | ⟨h1, h2, rfl⟩
  · exact renew_bad 2 n rfl ao c ss w (read_2 ao c ss w h (by omega) hs h1)
  · exact renew_bad 1 n rfl ao c ss w (read_1 ao c ss w h (by omega) hs h1 h2)
  · omega

end Go.Proofs.Ytcaeonpjokkjnaa

/- Walk of the reference: Costs. (Printed by wip/tools/gen_costs.py.) -/
namespace Go.Proofs.Ytcaeonpjokkjnaa
open Go Go.RowKit Go.Proofs

/-- What Costs answers. -/
def costE (ss : List ByteArray) (pl fl : ByteArray) (k : Int) : Prop :=
  (¬ (allOK ss ∧ parseOK pl ∧ parseOK fl) ∧ k = 2) ∨ ((allOK ss ∧ parseOK pl ∧ parseOK fl) ∧ ¬ (livesGood (ss.map parseQ) ∧ costOK (parseQ pl) ∧ costOK (parseQ fl)) ∧ k = 1) ∨
  ((allOK ss ∧ parseOK pl ∧ parseOK fl) ∧ (livesGood (ss.map parseQ) ∧ costOK (parseQ pl) ∧ costOK (parseQ fl)) ∧ k = 0)

end Go.Proofs.Ytcaeonpjokkjnaa

/- Walk of the law WearRates. -/
namespace Go.Proofs.Ytcaeonpjokkjnaa
open Go Go.RowKit Go.Proofs

theorem bestK_one (rs : List Rat) : bestK rs 1 = 0 := by
  unfold bestK
  split <;> rfl
theorem costE.ex (ss : List ByteArray) (pl fl : ByteArray) : ∃ k, costE ss pl fl k := by
  by_cases h : allOK ss ∧ parseOK pl ∧ parseOK fl
  · by_cases h2 : livesGood (ss.map parseQ) ∧ costOK (parseQ pl) ∧ costOK (parseQ fl)
    · exact ⟨0, Or.inr (Or.inr ⟨h, h2, rfl⟩)⟩
    · exact ⟨1, Or.inr (Or.inl ⟨h, h2, rfl⟩)⟩
  · exact ⟨2, Or.inl ⟨h, rfl⟩⟩
theorem all_two {pl fl : ByteArray} : allOK [pl, fl] ↔ parseOK pl ∧ parseOK fl := by
  unfold allOK; simp
theorem rates_k (k : Int) (ao : Option Addr) (c l : Nat) (ss : List ByteArray) (pl fl : ByteArray) (w : World) (hk0 : k = 1 ∨ k = 2) (hk : costE ss pl fl k) (hl : ss.length = l) (h : SL w ao ss) (hn : l ≤ 1000) (hs : ∀ s ∈ ss, s.size ≤ 40) (hpl : pl.size ≤ 40) (hfl : fl.size ≤ 40) :
    Calls Try.prog 46 #[.slice ao l c, .string pl, .string fl] w (RetErr w k) := by
  subst hl
  have hss : ∀ s ∈ [pl, fl], s.size ≤ 4611686018427387904 := fun s hh => by
    simp at hh
    rcases hh with rfl | rfl <;> omega
  rcases hk with ⟨h1, rfl⟩ | ⟨⟨h1, h3⟩, h2, rfl⟩ | ⟨_, _, rfl⟩
  · by_cases h4 : allOK ss
    · have h5 : ¬ allOK [pl, fl] := fun h6 => h1 ⟨h4, all_two.1 h6⟩
      by_cases h7 : livesGood (ss.map parseQ)
      · exact rates_form 0 ao c ss.length pl fl w ((read_0 ao c ss w h hs h4 h7).mono fun _ _ => RE.lives) hss (Or.inr h5)
      · exact rates_form 1 ao c ss.length pl fl w ((read_1 ao c ss w h (by omega) hs h4 h7).mono fun _ _ => RE.err) hss (Or.inr h5)
    · exact rates_form 2 ao c ss.length pl fl w ((read_2 ao c ss w h (by omega) hs h4).mono fun _ _ => RE.err) hss (Or.inl rfl)
  · by_cases h7 : livesGood (ss.map parseQ)
    · exact rates_cost ao c ss.length pl fl w ((read_0 ao c ss w h hs h1 h7).mono fun _ _ => RE.lives) hss (all_two.2 h3) ⟨own_sz (ss := [pl]) (by unfold allOK; simpa using h3.1) (by simpa using hpl) _ (by simp), own_sz (ss := [fl]) (by unfold allOK; simpa using h3.2) (by simpa using hfl) _ (by simp)⟩ (fun h8 => h2 ⟨h7, h8⟩)
    · exact rates_arg ao c ss.length pl fl w ((read_1 ao c ss w h (by omega) hs h1 h7).mono fun _ _ => RE.err) hss (all_two.2 h3)
  · omega
theorem rates_0 (ao : Option Addr) (c l : Nat) (ss : List ByteArray) (pl fl : ByteArray) (ps : List Rat) (w : World) (hps : ss.map parseQ = ps) (hl : ss.length = l) (h : SL w ao ss) (hs : ∀ s ∈ ss, s.size ≤ 40) (hpl : pl.size ≤ 40) (hfl : fl.size ≤ 40)
    (hok : allOK ss ∧ parseOK pl ∧ parseOK fl) (hg : livesGood ps ∧ costOK (parseQ pl) ∧ costOK (parseQ fl)) :
    Calls Try.prog 46 #[.slice ao l c, .string pl, .string fl] w (RetLives w (rateL ps (parseQ pl) (parseQ fl))) := by
  subst hl hps
  have hv := Lv.of hg.1
  exact rates_good ao c ss pl fl (ss.map parseQ) w (read_0 ao c ss w h hs hok.1 hg.1) hv.len hok.2.1 hok.2.2 (by omega) (by omega) hg.2.1.1 hg.2.2.1 hg.2.1.2 hg.2.2.2 (hv.rates (Cs.of hg.2.1) (Cs.of hg.2.2))

end Go.Proofs.Ytcaeonpjokkjnaa
