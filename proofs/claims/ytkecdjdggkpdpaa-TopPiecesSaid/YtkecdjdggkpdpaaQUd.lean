/- Ud -/
import Derived.Test.YtkecdjdggkpdpaaQPc
import Derived.Test.YtkecdjdggkpdpaaRows
import Derived.WalkKit
import Derived.ProofKit
import Derived.OpenShut
import Derived.ChangeSlices
import Derived.Carry
import Derived.Deep.Matrix
set_option linter.unusedVariables false
/- Arguments of the laws, opened: rows of ints, ints, small numbers. -/
namespace Go.Proofs.Ytkecdjdggkpdpaa
open Go Go.ChangeShapes Go.WideShapes Go.ChangeAt Go.RowKit Go.Deep

theorem knobJ : ownKnob Try.prog.godebug = none := by kernel_rfl
theorem laidJ : laidOutB Try.prog = true := by kernel_rfl
theorem open_mat {H : Type} {enc : TypeId × Value → H} {W : World} {a0 : Option Addr} {len cap fuel : Nat} {x : DataW H × List MemPlace}
    (hf : DataW.trod enc Try.prog W 0 (fun _ => true) true fuel 25 [.slice a0 len cap] = some x) :
    ∃ C : List (List Int), C.length = len ∧ IMx W a0 C ∧ len ≤ maxLen ∧ ∀ r ∈ C, r.length ≤ maxLen := by
  rcases open_int_rows Try.underlying25 Try.underlying24 Try.underlying3 (show Try.prog.cellsOf 24 = 1 by kernel_rfl) (show Try.prog.cellsOf 3 = 1 by kernel_rfl) hf with ⟨hcs, hx⟩ | ⟨a, len', cap', A, L, Cc, Z, hcs, _, hl, hm, hx, hrow⟩
  · simp at hcs
    obtain ⟨rfl, rfl, rfl⟩ := hcs
    exact ⟨[], rfl, ⟨[], fun i v h => by simp at h, rfl, fun i v xs h => by simp at h⟩, Nat.zero_le _, fun r hr => by cases hr⟩
  · simp at hcs
    obtain ⟨rfl, rfl, rfl⟩ := hcs
    have hlen : ∀ r, r < cap → ((Z r).take (L r)).length = L r := fun r hr => by
      obtain ⟨_, h1, _, h2, _⟩ := hrow r hr
      rw [List.length_take, h2]; omega
    refine ⟨(List.range len).map fun r => (Z r).take (L r), by simp, ⟨(List.range len).map fun r => .slice (A r) (L r) (Cc r), fun i v hv => ?_, by simp, fun i v xs hv hx => ?_⟩, by omega, fun r hr => ?_⟩
    · rw [List.getElem?_map] at hv
      obtain ⟨r, hr, rfl⟩ := Option.map_eq_some_iff.1 hv
      obtain ⟨hi, he⟩ := List.getElem?_eq_some_iff.1 hr
      rw [List.length_range] at hi
      rw [List.getElem_range] at he
      subst he
      obtain ⟨hc, _⟩ := hrow i (by omega)
      obtain ⟨b, off, spot⟩ := a
      have hspot : spot = none := by
        have h0 := (hrow 0 (by omega)).1
        simpa [Addr.add] using World.cell?_spot h0
      subst hspot
      rw [Addr.add_lit] at hc
      exact ⟨b, off, rfl, hc⟩
    · rw [List.getElem?_map] at hv hx
      obtain ⟨r, hr, rfl⟩ := Option.map_eq_some_iff.1 hv
      rw [hr] at hx
      obtain ⟨hi, he⟩ := List.getElem?_eq_some_iff.1 hr
      rw [List.length_range] at hi
      rw [List.getElem_range] at he
      subst he
      simp at hx
      subst hx
      obtain ⟨_, h1, _, h2, _, h3, h4⟩ := hrow i (by omega)
      refine ⟨A i, Cc i, by rw [hlen i (by omega)], by rw [hlen i (by omega)]; exact h1, fun j y hy => ?_⟩
      have hj : j < L i := by
        have := (List.getElem?_eq_some_iff.1 hy).1
        rw [hlen i (by omega)] at this; exact this
      rw [List.getElem?_take_of_lt hj] at hy
      rcases ha : A i with _ | a'
      · have := h3 ha
        omega
      · obtain ⟨_, h5⟩ := h4 a' ha
        obtain ⟨b, off, spot⟩ := a'
        have hspot : spot = none := by
          have h0 := h5 0 (by omega)
          simpa [Addr.add] using World.cell?_spot h0
        subst hspot
        have h6 := h5 j (by omega)
        rw [Addr.add_lit] at h6
        refine ⟨b, off, rfl, ?_⟩
        rw [h6]
        simp [List.getD, hy]
    · obtain ⟨i, hi, rfl⟩ := List.mem_map.1 hr
      rw [List.mem_range] at hi
      rw [hlen i (by omega)]
      obtain ⟨_, h1, h2, _⟩ := hrow i (by omega)
      omega
theorem open_list {H : Type} {enc : TypeId × Value → H} {W : World} {a0 : Option Addr} {len cap fuel : Nat} {x : DataW H × List MemPlace}
    (hf : DataW.trod enc Try.prog W 0 (fun _ => true) true fuel 24 [.slice a0 len cap] = some x) :
    ∃ xs : List Int, xs.length = len ∧ IZ W a0 xs ∧ len ≤ maxLen ∧ len ≤ cap := by
  rcases open_ints Try.underlying24 Try.underlying3 (show Try.prog.cellsOf 3 = 1 by kernel_rfl) hf with ⟨hcs, hx⟩ | ⟨a, len', cap', zs, hcs, _, hl, hm, hz, hx, hcell, hws⟩
  · simp at hcs
    obtain ⟨rfl, rfl, rfl⟩ := hcs
    exact ⟨[], rfl, IZ.nil _ _, Nat.zero_le _, Nat.le_refl _⟩
  · simp at hcs
    obtain ⟨rfl, rfl, rfl⟩ := hcs
    simp only [if_true] at hz
    refine ⟨zs.take len, by simp; omega, fun i y hy => ?_, by omega, hl⟩
    have hi : i < len := by
      have := (List.getElem?_eq_some_iff.1 hy).1
      rw [List.length_take] at this; omega
    rw [List.getElem?_take_of_lt hi] at hy
    obtain ⟨b, off, spot⟩ := a
    have h0 := hcell 0 (by omega)
    have hspot : spot = none := by simpa [Addr.add] using World.cell?_spot h0
    subst hspot
    have h1 := hcell i (by omega)
    rw [Addr.add_lit] at h1
    refine ⟨b, off, rfl, ?_⟩
    rw [h1]
    simp [List.getD, hy]
theorem wf64 {n : Int} (h : (Lit.int .i64 n).wf = true) : -9223372036854775808 ≤ n ∧ n ≤ 9223372036854775807 := by
  simp [Lit.wf] at h
  have e1 : IntKind.i64.min = -9223372036854775808 := rfl
  have e2 : IntKind.i64.max = 9223372036854775807 := rfl
  omega
end Go.Proofs.Ytkecdjdggkpdpaa
