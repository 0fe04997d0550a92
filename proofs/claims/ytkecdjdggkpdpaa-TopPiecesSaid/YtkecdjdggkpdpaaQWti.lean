/- Wti -/
import Derived.Test.YtkecdjdggkpdpaaQUd
import Derived.OpenShut
import Derived.Test.YtkecdjdggkpdpaaQWtg
set_option linter.unusedVariables false
/- Arguments of the law TopPieces, opened: bytes, rows of small numbers. -/
namespace Go.Proofs.Ytkecdjdggkpdpaa
open Go Go.ChangeShapes Go.WideShapes Go.ChangeAt Go.RowKit Go.Deep

theorem wfu16 {n : Int} (h : (Lit.int .u16 n).wf = true) : 0 ≤ n ∧ n < 65536 := by
  simp [Lit.wf] at h
  have e1 : IntKind.u16.min = 0 := rfl
  have e2 : IntKind.u16.max = 65535 := rfl
  omega
theorem wfu8 {n : Int} (h : (Lit.int .u8 n).wf = true) : 0 ≤ n ∧ n < 256 := by
  simp [Lit.wf] at h
  have e1 : IntKind.u8.min = 0 := rfl
  have e2 : IntKind.u8.max = 255 := rfl
  omega
theorem dg16_of {W : World} {a : Addr} {zs : List Int} {len : Nat} (hl : len ≤ zs.length) (hc : ∀ i, i < zs.length → W.cell? (a.add i) = some (.int .u16 (zs.getD i 0))) (hw : ∀ n ∈ zs, (Lit.int .u16 n).wf = true) : Dg .u16 W (some a) ((zs.take len).map Int.toNat) := fun i x hx => by
  rw [List.getElem?_map] at hx
  obtain ⟨z, hz, rfl⟩ := Option.map_eq_some_iff.1 hx
  have hi : i < len := by
    have := (List.getElem?_eq_some_iff.1 hz).1
    rw [List.length_take] at this
    omega
  obtain ⟨b, off, spot⟩ := a
  have h0 := hc 0 (by omega)
  have hspot : spot = none := by simpa [Addr.add] using World.cell?_spot h0
  subst hspot
  refine ⟨b, off, rfl, ?_⟩
  have h1 := hc i (by omega)
  rw [List.getElem?_take_of_lt hi] at hz
  have h2 : zs.getD i 0 = z := by simp [List.getD, hz]
  have h3 := wfu16 (hw z (List.mem_of_getElem? hz))
  rw [h2, Addr.add_lit] at h1
  rw [h1]
  congr 2
  omega
theorem dg8_of {W : World} {a : Addr} {zs : List Int} {len : Nat} (hl : len ≤ zs.length) (hc : ∀ i, i < zs.length → W.cell? (a.add i) = some (.int .u8 (zs.getD i 0))) (hw : ∀ n ∈ zs, (Lit.int .u8 n).wf = true) : Dg .u8 W (some a) ((zs.take len).map Int.toNat) := fun i x hx => by
  rw [List.getElem?_map] at hx
  obtain ⟨z, hz, rfl⟩ := Option.map_eq_some_iff.1 hx
  have hi : i < len := by
    have := (List.getElem?_eq_some_iff.1 hz).1
    rw [List.length_take] at this
    omega
  obtain ⟨b, off, spot⟩ := a
  have h0 := hc 0 (by omega)
  have hspot : spot = none := by simpa [Addr.add] using World.cell?_spot h0
  subst hspot
  refine ⟨b, off, rfl, ?_⟩
  have h1 := hc i (by omega)
  rw [List.getElem?_take_of_lt hi] at hz
  have h2 : zs.getD i 0 = z := by simp [List.getD, hz]
  have h3 := wfu8 (hw z (List.mem_of_getElem? hz))
  rw [h2, Addr.add_lit] at h1
  rw [h1]
  congr 2
  omega
theorem open_u8s {H : Type} {enc : TypeId × Value → H} {W : World} {a0 : Option Addr} {len cap fuel : Nat} {x : DataW H × List MemPlace}
    (hf : DataW.trod enc Try.prog W 0 (fun _ => true) true fuel 22 [.slice a0 len cap] = some x) :
    ∃ xs : List Nat, xs.length = len ∧ Dg .u8 W a0 xs ∧ len ≤ maxLen ∧ ∀ x ∈ xs, x < 256 := by
  rcases open_ints Try.underlying22 Try.underlying5 (show Try.prog.cellsOf 5 = 1 by kernel_rfl) hf with ⟨hcs, hx⟩ | ⟨a, len', cap', zs, hcs, _, hl, hm, hz, hx, hcell, hws⟩
  · simp at hcs
    obtain ⟨rfl, rfl, rfl⟩ := hcs
    exact ⟨[], rfl, fun i s hs => by simp at hs, Nat.zero_le _, fun s hs => by simp at hs⟩
  · simp at hcs
    obtain ⟨rfl, rfl, rfl⟩ := hcs
    simp only [if_true] at hz
    refine ⟨(zs.take len).map Int.toNat, by simp; omega, dg8_of (by omega) hcell hws, by omega, fun y hy => ?_⟩
    obtain ⟨z, hz2, rfl⟩ := List.mem_map.1 hy
    have := wfu8 (hws z (List.mem_of_mem_take hz2))
    omega
theorem open_mu16 {H : Type} {enc : TypeId × Value → H} {W : World} {a0 : Option Addr} {len cap fuel : Nat} {x : DataW H × List MemPlace}
    (hf : DataW.trod enc Try.prog W 0 (fun _ => true) true fuel 23 [.slice a0 len cap] = some x) :
    ∃ G : List (List Nat), G.length = len ∧ UMx W a0 G ∧ len ≤ maxLen ∧ (∀ r ∈ G, r.length ≤ maxLen) ∧ ∀ r ∈ G, ∀ x ∈ r, x < 65536 := by
  rcases open_int_rows Try.underlying23 Try.underlying27 Try.underlying28 (show Try.prog.cellsOf 27 = 1 by kernel_rfl) (show Try.prog.cellsOf 28 = 1 by kernel_rfl) hf with ⟨hcs, hx⟩ | ⟨a, len', cap', A, L, Cc, Z, hcs, _, hl, hm, hx, hrow⟩
  · simp at hcs
    obtain ⟨rfl, rfl, rfl⟩ := hcs
    exact ⟨[], rfl, ⟨[], fun i v h => by simp at h, rfl, fun i v xs h => by simp at h⟩, Nat.zero_le _, (fun r hr => by cases hr), fun r hr => by cases hr⟩
  · simp at hcs
    obtain ⟨rfl, rfl, rfl⟩ := hcs
    have hlen : ∀ r, r < cap → (((Z r).take (L r)).map Int.toNat).length = L r := fun r hr => by
      obtain ⟨_, h1, _, h2, _⟩ := hrow r hr
      rw [List.length_map, List.length_take, h2]; omega
    refine ⟨(List.range len).map fun r => ((Z r).take (L r)).map Int.toNat, by simp, ⟨(List.range len).map fun r => .slice (A r) (L r) (Cc r), fun i v hv => ?_, by simp, fun i v xs hv hx => ?_⟩, by omega, fun r hr => ?_, fun r hr y hy => ?_⟩
    · rw [List.getElem?_map] at hv
      obtain ⟨r, hr, rfl⟩ := Option.map_eq_some_iff.1 hv
      obtain ⟨hi, he⟩ := List.getElem?_eq_some_iff.1 hr
      rw [List.length_range] at hi
      rw [List.getElem_range] at he
      subst he
      obtain ⟨hc, _⟩ := hrow i (by omega)
      obtain ⟨b, off, spot⟩ := a
      have hspot : spot = none := by
        have h0 := (hrow 0 (by omega)).1
        simpa [Addr.add] using World.cell?_spot h0
      subst hspot
      rw [Addr.add_lit] at hc
      exact ⟨b, off, rfl, hc⟩
    · rw [List.getElem?_map] at hv hx
      obtain ⟨r, hr, rfl⟩ := Option.map_eq_some_iff.1 hv
      rw [hr] at hx
      obtain ⟨hi, he⟩ := List.getElem?_eq_some_iff.1 hr
      rw [List.length_range] at hi
      rw [List.getElem_range] at he
      subst he
      simp only [Option.map_some, Option.some.injEq] at hx
      subst hx
      obtain ⟨_, h1, _, h2, hw, h3, h4⟩ := hrow i (by omega)
      refine ⟨A i, Cc i, by rw [hlen i (by omega)], by rw [hlen i (by omega)]; exact h1, ?_⟩
      rcases ha : A i with _ | a'
      · have h5 := h3 ha
        have h6 : (Z i).take (L i) = [] := List.length_eq_zero_iff.1 (by rw [List.length_take]; omega)
        rw [h6]
        exact Dg.nil _ _ _
      · obtain ⟨_, h5⟩ := h4 a' ha
        exact dg16_of (by omega) (fun j hj => h5 j (by omega)) hw
    · obtain ⟨i, hi, rfl⟩ := List.mem_map.1 hr
      rw [List.mem_range] at hi
      rw [hlen i (by omega)]
      obtain ⟨_, h1, h2, _⟩ := hrow i (by omega)
      omega
    · obtain ⟨i, hi, rfl⟩ := List.mem_map.1 hr
      rw [List.mem_range] at hi
      obtain ⟨_, _, _, _, hw, _⟩ := hrow i (by omega)
      obtain ⟨z, hz2, rfl⟩ := List.mem_map.1 hy
      have := wfu16 (hw z (List.mem_of_mem_take hz2))
      omega
end Go.Proofs.Ytkecdjdggkpdpaa
