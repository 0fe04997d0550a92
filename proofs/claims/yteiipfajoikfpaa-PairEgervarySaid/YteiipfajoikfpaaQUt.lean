/- Ut -/
import Derived.Test.YteiipfajoikfpaaQUd
import Derived.Test.YteiipfajoikfpaaQUs
set_option linter.unusedVariables false
/- Small numbers of the laws, opened. -/
namespace Go.Proofs.Yteiipfajoikfpaa
open Go Go.ChangeShapes Go.WideShapes Go.ChangeAt Go.RowKit Go.Deep

theorem wfi8 {n : Int} (h : (Lit.int .i8 n).wf = true) : -128 ≤ n ∧ n ≤ 127 := bounds_i8 h
theorem open_i8s {H : Type} {enc : TypeId × Value → H} {W : World} {a0 : Option Addr} {len cap fuel : Nat} {x : DataW H × List MemPlace}
    (hf : DataW.trod enc Try.prog W 0 (fun _ => true) true fuel 56 [.slice a0 len cap] = some x) :
    ∃ xs : List Int, xs.length = len ∧ I8 W a0 xs ∧ len ≤ maxLen ∧ ∀ x ∈ xs, -128 ≤ x ∧ x ≤ 127 := by
  rcases open_ints Try.underlying56 Try.underlying58 (show Try.prog.cellsOf 58 = 1 by kernel_rfl) hf with ⟨hcs, hx⟩ | ⟨a, len', cap', zs, hcs, _, hl, hm, hz, hx, hcell, hws⟩
  · simp at hcs
    obtain ⟨rfl, rfl, rfl⟩ := hcs
    exact ⟨[], rfl, fun i s hs => by simp at hs, Nat.zero_le _, fun s hs => by simp at hs⟩
  · simp at hcs
    obtain ⟨rfl, rfl, rfl⟩ := hcs
    simp only [if_true] at hz
    refine ⟨zs.take len, by simp; omega, fun i y hy => ?_, by omega, fun y hy => wfi8 (hws y (List.mem_of_mem_take hy))⟩
    have hi : i < len := by
      have := (List.getElem?_eq_some_iff.1 hy).1
      rw [List.length_take] at this; omega
    rw [List.getElem?_take_of_lt hi] at hy
    obtain ⟨b, off, spot⟩ := a
    have h0 := hcell 0 (by omega)
    have hspot : spot = none := by simpa [Addr.add] using World.cell?_spot h0
    subst hspot
    have h1 := hcell i (by omega)
    rw [Addr.add_lit] at h1
    refine ⟨b, off, rfl, ?_⟩
    rw [h1]
    simp [List.getD, hy]
end Go.Proofs.Yteiipfajoikfpaa
