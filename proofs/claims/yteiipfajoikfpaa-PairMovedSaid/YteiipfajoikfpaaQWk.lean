/- Wk -/
import Derived.Test.YteiipfajoikfpaaQUj
set_option linter.unusedVariables false
/- Opener of [3]uint8. -/
namespace Go.Proofs.Yteiipfajoikfpaa
open Go Go.ChangeShapes Go.WideShapes Go.ChangeAt Go.RowKit Go.Deep

theorem list3J {α : Type} (l : List α) (h : l.length = 3) : ∃ a b c, l = [a, b, c] := by
  rcases l with _ | ⟨a, _ | ⟨b, _ | ⟨c, _ | ⟨d, l⟩⟩⟩⟩ <;> simp at h
  exact ⟨a, b, c, rfl⟩
set_option maxRecDepth 100000 in
theorem open_b3 {H : Type} {enc : TypeId × Value → H} {W : World} {base fuel : Nat} {v : Value} {x : DataW H × List MemPlace} (hv : Value.okWide Try.prog W .any base 68 v)
    (hf : DataW.trod enc Try.prog W 0 (fun _ => true) true fuel 68 v.cells.toList = some x) :
    ∃ a b c : Nat, v = .agg #[.int .u8 (a : Nat), .int .u8 (b : Nat), .int .u8 (c : Nat)] ∧ a < 256 ∧ b < 256 ∧ c < 256 := by
  obtain ⟨cs, rfl, hsz, _⟩ : ∃ cs, v = .agg cs ∧ cs.size = Try.prog.cellsOf 68 ∧ Row.okWide Try.prog W .any base 68 cs := by
    simpa [Value.okWide, Try.underlying68] using hv
  rw [show Try.prog.cellsOf 68 = 3 by kernel_rfl] at hsz
  obtain ⟨L⟩ := cs
  obtain ⟨c0, c1, c2, rfl⟩ := list3J L hsz
  obtain ⟨xs, m, _, _, _, hl, hel⟩ := DataW.trod_array Try.underlying68 hf
  have c5 : Try.prog.cellsOf 5 = 1 := by kernel_rfl
  have h0 := hel 0 (by omega)
  have h1 := hel 1 (by omega)
  have h2 := hel 2 (by omega)
  rw [c5, List.getElem?_eq_getElem (by omega)] at h0 h1 h2
  obtain ⟨y0, e0, _, w0⟩ := DataW.trod_int Try.underlying5 h0
  obtain ⟨y1, e1, _, w1⟩ := DataW.trod_int Try.underlying5 h1
  obtain ⟨y2, e2, _, w2⟩ := DataW.trod_int Try.underlying5 h2
  simp [Value.cells] at e0 e1 e2
  subst e0 e1 e2
  have h3 := wfu8 w0
  have h4 := wfu8 w1
  have h5 := wfu8 w2
  exact ⟨y0.toNat, y1.toNat, y2.toNat, by rw [Int.toNat_of_nonneg h3.1, Int.toNat_of_nonneg h4.1, Int.toNat_of_nonneg h5.1], by omega, by omega, by omega⟩
end Go.Proofs.Yteiipfajoikfpaa
