/- Uj -/
import Derived.Test.YteiipfajoikfpaaQUd
import Derived.Test.YteiipfajoikfpaaQPb
import Derived.OpenShut
set_option linter.unusedVariables false
/- Arrays of the laws, opened: two lists of ints, two or three small numbers. -/
namespace Go.Proofs.Yteiipfajoikfpaa
open Go Go.ChangeShapes Go.WideShapes Go.ChangeAt Go.RowKit Go.Deep

theorem list2J {α : Type} (l : List α) (h : l.length = 2) : ∃ a b, l = [a, b] := by
  rcases l with _ | ⟨a, _ | ⟨b, _ | ⟨c, l⟩⟩⟩ <;> simp at h
  exact ⟨a, b, rfl⟩
theorem open_list1 {H : Type} {enc : TypeId × Value → H} {W : World} {c : Value} {fuel : Nat} {x : DataW H × List MemPlace}
    (hf : DataW.trod enc Try.prog W 0 (fun _ => true) true fuel 24 [c] = some x) :
    ∃ (ao : Option Addr) (len cap : Nat) (xs : List Int), c = .slice ao len cap ∧ xs.length = len ∧ IZ W ao xs ∧ len ≤ maxLen ∧ len ≤ cap := by
  have h0 := hf
  rcases open_ints Try.underlying24 Try.underlying3 (show Try.prog.cellsOf 3 = 1 by kernel_rfl) hf with ⟨hcs, _⟩ | ⟨a, len, cap, zs, hcs, _⟩
  · simp at hcs
    subst hcs
    obtain ⟨xs, h1, h2, h3, h4⟩ := open_list h0
    exact ⟨_, _, _, xs, rfl, h1, h2, h3, h4⟩
  · simp at hcs
    subst hcs
    obtain ⟨xs, h1, h2, h3, h4⟩ := open_list h0
    exact ⟨_, _, _, xs, rfl, h1, h2, h3, h4⟩
set_option maxRecDepth 100000 in
theorem open_i2 {H : Type} {enc : TypeId × Value → H} {W : World} {base fuel : Nat} {v : Value} {x : DataW H × List MemPlace} (hv : Value.okWide Try.prog W .any base 51 v)
    (hf : DataW.trod enc Try.prog W 0 (fun _ => true) true fuel 51 v.cells.toList = some x) :
    ∃ (a b : Option Addr) (l c m d : Nat) (xs ys : List Int), v = .agg #[.slice a l c, .slice b m d] ∧ xs.length = l ∧ ys.length = m ∧ IZ W a xs ∧ IZ W b ys ∧ l ≤ maxLen ∧ m ≤ maxLen ∧ l ≤ c ∧ m ≤ d := by
  obtain ⟨cs, rfl, hsz, _⟩ : ∃ cs, v = .agg cs ∧ cs.size = Try.prog.cellsOf 51 ∧ Row.okWide Try.prog W .any base 51 cs := by
    simpa [Value.okWide, Try.underlying51] using hv
  rw [show Try.prog.cellsOf 51 = 2 by kernel_rfl] at hsz
  obtain ⟨L⟩ := cs
  obtain ⟨c0, c1, rfl⟩ := list2J L hsz
  obtain ⟨xs, m, _, _, _, hl, hel⟩ := DataW.trod_array Try.underlying51 hf
  have c5 : Try.prog.cellsOf 24 = 1 := by kernel_rfl
  have h0 := hel 0 (by omega)
  have h1 := hel 1 (by omega)
  rw [c5, List.getElem?_eq_getElem (by omega)] at h0 h1
  obtain ⟨a, l, c, us, rfl, e1, e2, e3, e4⟩ := open_list1 (by simpa [Value.cells] using h0)
  obtain ⟨b, k, d, vs, rfl, f1, f2, f3, f4⟩ := open_list1 (by simpa [Value.cells] using h1)
  exact ⟨a, b, l, c, k, d, us, vs, rfl, e1, f1, e2, f2, e3, f3, e4, f4⟩
theorem wfu16 {n : Int} (h : (Lit.int .u16 n).wf = true) : 0 ≤ n ∧ n < 65536 := by
  simp [Lit.wf] at h
  have e1 : IntKind.u16.min = 0 := rfl
  have e2 : IntKind.u16.max = 65535 := rfl
  omega
theorem wfu8 {n : Int} (h : (Lit.int .u8 n).wf = true) : 0 ≤ n ∧ n < 256 := by
  simp [Lit.wf] at h
  have e1 : IntKind.u8.min = 0 := rfl
  have e2 : IntKind.u8.max = 255 := rfl
  omega
set_option maxRecDepth 100000 in
theorem open_u2 {H : Type} {enc : TypeId × Value → H} {W : World} {base fuel : Nat} {v : Value} {x : DataW H × List MemPlace} (hv : Value.okWide Try.prog W .any base 66 v)
    (hf : DataW.trod enc Try.prog W 0 (fun _ => true) true fuel 66 v.cells.toList = some x) :
    ∃ a b : Nat, v = .agg #[.int .u16 (a : Nat), .int .u16 (b : Nat)] ∧ a < 65536 ∧ b < 65536 := by
  obtain ⟨cs, rfl, hsz, _⟩ : ∃ cs, v = .agg cs ∧ cs.size = Try.prog.cellsOf 66 ∧ Row.okWide Try.prog W .any base 66 cs := by
    simpa [Value.okWide, Try.underlying66] using hv
  rw [show Try.prog.cellsOf 66 = 2 by kernel_rfl] at hsz
  obtain ⟨L⟩ := cs
  obtain ⟨c0, c1, rfl⟩ := list2J L hsz
  obtain ⟨xs, m, _, _, _, hl, hel⟩ := DataW.trod_array Try.underlying66 hf
  have c5 : Try.prog.cellsOf 43 = 1 := by kernel_rfl
  have h0 := hel 0 (by omega)
  have h1 := hel 1 (by omega)
  rw [c5, List.getElem?_eq_getElem (by omega)] at h0 h1
  obtain ⟨y0, e0, _, w0⟩ := DataW.trod_int Try.underlying43 h0
  obtain ⟨y1, e1, _, w1⟩ := DataW.trod_int Try.underlying43 h1
  simp [Value.cells] at e0 e1
  subst e0 e1
  have h2 := wfu16 w0
  have h3 := wfu16 w1
  exact ⟨y0.toNat, y1.toNat, by rw [Int.toNat_of_nonneg h2.1, Int.toNat_of_nonneg h3.1], by omega, by omega⟩
theorem dg16_of {W : World} {a : Addr} {zs : List Int} {len : Nat} (hl : len ≤ zs.length) (hc : ∀ i, i < zs.length → W.cell? (a.add i) = some (.int .u16 (zs.getD i 0))) (hw : ∀ n ∈ zs, (Lit.int .u16 n).wf = true) : Dg .u16 W (some a) ((zs.take len).map Int.toNat) := fun i x hx => by
  rw [List.getElem?_map] at hx
  obtain ⟨z, hz, rfl⟩ := Option.map_eq_some_iff.1 hx
  have hi : i < len := by
    have := (List.getElem?_eq_some_iff.1 hz).1
    rw [List.length_take] at this
    omega
  obtain ⟨b, off, spot⟩ := a
  have h0 := hc 0 (by omega)
  have hspot : spot = none := by simpa [Addr.add] using World.cell?_spot h0
  subst hspot
  refine ⟨b, off, rfl, ?_⟩
  have h1 := hc i (by omega)
  rw [List.getElem?_take_of_lt hi] at hz
  have h2 : zs.getD i 0 = z := by simp [List.getD, hz]
  have h3 := wfu16 (hw z (List.mem_of_getElem? hz))
  rw [h2, Addr.add_lit] at h1
  rw [h1]
  congr 2
  omega
theorem open_u16s {H : Type} {enc : TypeId × Value → H} {W : World} {a0 : Option Addr} {len cap fuel : Nat} {x : DataW H × List MemPlace}
    (hf : DataW.trod enc Try.prog W 0 (fun _ => true) true fuel 42 [.slice a0 len cap] = some x) :
    ∃ xs : List Nat, xs.length = len ∧ Dg .u16 W a0 xs ∧ len ≤ maxLen ∧ ∀ x ∈ xs, x < 65536 := by
  rcases open_ints Try.underlying42 Try.underlying43 (show Try.prog.cellsOf 43 = 1 by kernel_rfl) hf with ⟨hcs, hx⟩ | ⟨a, len', cap', zs, hcs, _, hl, hm, hz, hx, hcell, hws⟩
  · simp at hcs
    obtain ⟨rfl, rfl, rfl⟩ := hcs
    exact ⟨[], rfl, fun i s hs => by simp at hs, Nat.zero_le _, fun s hs => by simp at hs⟩
  · simp at hcs
    obtain ⟨rfl, rfl, rfl⟩ := hcs
    simp only [if_true] at hz
    refine ⟨(zs.take len).map Int.toNat, by simp; omega, dg16_of (by omega) hcell hws, by omega, fun y hy => ?_⟩
    obtain ⟨z, hz2, rfl⟩ := List.mem_map.1 hy
    have := wfu16 (hws z (List.mem_of_mem_take hz2))
    omega
end Go.Proofs.Yteiipfajoikfpaa
