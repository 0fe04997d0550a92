/- Lg -/
import Derived.Test.YtkecdjdggkpdpabQJm
import Derived.Test.YtkecdjdggkpdpabRows
import Derived.WalkKit
import Derived.ProofKit
import Derived.OpenShut
import Derived.ChangeSlices
import Derived.Carry
import Derived.Deep.Matrix
set_option linter.unusedVariables false
/- Openers of TopTrains' arguments. -/
namespace Go.Proofs.Ytkecdjdggkpdpab
open Go Go.ChangeShapes Go.WideShapes Go.ChangeAt Go.RowKit Go.Deep

theorem knobJ : ownKnob Try.prog.godebug = none := by kernel_rfl
theorem laidJ : laidOutB Try.prog = true := by kernel_rfl
theorem rowedJ : mapsRowed Try.prog = true := by kernel_rfl
theorem list2J {α : Type} (l : List α) (h : l.length = 2) : ∃ a b, l = [a, b] := by
  rcases l with _ | ⟨a, _ | ⟨b, _ | ⟨c, l⟩⟩⟩ <;> simp at h
  exact ⟨a, b, rfl⟩
theorem wfu8 {n : Int} (h : (Lit.int .u8 n).wf = true) : 0 ≤ n ∧ n < 256 := by
  simp [Lit.wf] at h
  have e1 : IntKind.u8.min = 0 := rfl
  have e2 : IntKind.u8.max = 255 := rfl
  omega
theorem wfu16 {n : Int} (h : (Lit.int .u16 n).wf = true) : 0 ≤ n ∧ n < 65536 := by
  simp [Lit.wf] at h
  have e1 : IntKind.u16.min = 0 := rfl
  have e2 : IntKind.u16.max = 65535 := rfl
  omega
theorem dg8_of {W : World} {a : Addr} {zs : List Int} {len : Nat} (hl : len ≤ zs.length) (hc : ∀ i, i < zs.length → W.cell? (a.add i) = some (.int .u8 (zs.getD i 0))) (hw : ∀ n ∈ zs, (Lit.int .u8 n).wf = true) : Dg .u8 W (some a) ((zs.take len).map Int.toNat) := fun i x hx => by
  rw [List.getElem?_map] at hx
  obtain ⟨z, hz, rfl⟩ := Option.map_eq_some_iff.1 hx
  have hi : i < len := by
    have := (List.getElem?_eq_some_iff.1 hz).1
    rw [List.length_take] at this
    omega
  obtain ⟨b, off, spot⟩ := a
  have h0 := hc 0 (by omega)
  have hspot : spot = none := by simpa [Addr.add] using World.cell?_spot h0
  subst hspot
  refine ⟨b, off, rfl, ?_⟩
  have h1 := hc i (by omega)
  rw [List.getElem?_take_of_lt hi] at hz
  have h2 : zs.getD i 0 = z := by simp [List.getD, hz]
  have h3 := wfu8 (hw z (List.mem_of_getElem? hz))
  rw [h2, Addr.add_lit] at h1
  rw [h1]
  congr 2
  omega
theorem open_bytes {H : Type} {enc : TypeId × Value → H} {W : World} {a0 : Option Addr} {len cap fuel : Nat} {x : DataW H × List MemPlace}
    (hf : DataW.trod enc Try.prog W 0 (fun _ => true) true fuel 24 [.slice a0 len cap] = some x) :
    ∃ xs : List Nat, xs.length = len ∧ Dg .u8 W a0 xs ∧ len ≤ maxLen ∧ ∀ x ∈ xs, x < 256 := by
  rcases open_ints Try.underlying24 Try.underlying5 (show Try.prog.cellsOf 5 = 1 by kernel_rfl) hf with ⟨hcs, hx⟩ | ⟨a, len', cap', zs, hcs, _, hl, hm, hz, hx, hcell, hws⟩
  · simp at hcs
    obtain ⟨rfl, rfl, rfl⟩ := hcs
    exact ⟨[], rfl, fun i s hs => by simp at hs, Nat.zero_le _, fun s hs => by simp at hs⟩
  · simp at hcs
    obtain ⟨rfl, rfl, rfl⟩ := hcs
    simp only [if_true] at hz
    refine ⟨(zs.take len).map Int.toNat, by simp; omega, dg8_of (by omega) hcell hws, by omega, fun y hy => ?_⟩
    obtain ⟨z, hz2, rfl⟩ := List.mem_map.1 hy
    have := wfu8 (hws z (List.mem_of_mem_take hz2))
    omega
set_option maxRecDepth 100000 in
theorem open_u2 {H : Type} {enc : TypeId × Value → H} {W : World} {base fuel : Nat} {v : Value} {x : DataW H × List MemPlace} (hv : Value.okWide Try.prog W .any base 23 v)
    (hf : DataW.trod enc Try.prog W 0 (fun _ => true) true fuel 23 v.cells.toList = some x) :
    ∃ a b : Nat, v = .agg #[.int .u16 (a : Nat), .int .u16 (b : Nat)] ∧ a < 65536 ∧ b < 65536 := by
  obtain ⟨cs, rfl, hsz, _⟩ : ∃ cs, v = .agg cs ∧ cs.size = Try.prog.cellsOf 23 ∧ Row.okWide Try.prog W .any base 23 cs := by
    simpa [Value.okWide, Try.underlying23] using hv
  rw [show Try.prog.cellsOf 23 = 2 by kernel_rfl] at hsz
  obtain ⟨L⟩ := cs
  obtain ⟨c0, c1, rfl⟩ := list2J L hsz
  obtain ⟨xs, m, _, _, _, hl, hel⟩ := DataW.trod_array Try.underlying23 hf
  have c5 : Try.prog.cellsOf 22 = 1 := by kernel_rfl
  have h0 := hel 0 (by omega)
  have h1 := hel 1 (by omega)
  rw [c5, List.getElem?_eq_getElem (by omega)] at h0 h1
  obtain ⟨y0, e0, _, w0⟩ := DataW.trod_int Try.underlying22 h0
  obtain ⟨y1, e1, _, w1⟩ := DataW.trod_int Try.underlying22 h1
  simp [Value.cells] at e0 e1
  subst e0 e1
  have k0 := wfu16 w0
  have k1 := wfu16 w1
  exact ⟨y0.toNat, y1.toNat, by rw [Int.toNat_of_nonneg k0.1, Int.toNat_of_nonneg k1.1], by omega, by omega⟩
end Go.Proofs.Ytkecdjdggkpdpab
