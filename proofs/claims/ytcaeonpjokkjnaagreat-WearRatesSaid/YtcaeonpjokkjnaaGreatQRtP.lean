/- RtP -/
import Derived.Test.YtcaeonpjokkjnaaGreatRows
import Derived.Test.YtcaeonpjokkjnaaGreatQRt
import Derived.WalkKit
import Derived.ProofKit
import Derived.OpenShut
import Derived.SliceStrings
import Derived.Carry
set_option linter.unusedVariables false
/- The law WearRates: the statement. -/
namespace Go.Proofs.YtcaeonpjokkjnaaGreat.wearRates
open Go Go.ChangeShapes Go.WideShapes Go.ChangeAt Go.RowKit
set_option linter.unusedVariables false

theorem own : ownKnob Tryz.prog.godebug = none := by kernel_rfl
theorem laid : laidOutB Tryz.prog = true := by kernel_rfl

theorem sl_of {W : World} {a : Addr} {ss : List ByteArray} {len : Nat} (hl : len ≤ ss.length) (hc : ∀ i, i < ss.length → W.cell? (a.add i) = some (.string (ss.getD i ByteArray.empty))) : SL W (some a) (ss.take len) := fun i s hs => by
  have hi : i < len := by
    have := (List.getElem?_eq_some_iff.1 hs).1
    rw [List.length_take] at this
    omega
  obtain ⟨b, off, spot⟩ := a
  have h0 := hc 0 (by omega)
  have hspot : spot = none := by simpa [Addr.add] using World.cell?_spot h0
  subst hspot
  refine ⟨b, off, rfl, ?_⟩
  have h1 := hc i (by omega)
  have h2 : ss.getD i ByteArray.empty = s := by
    rw [List.getElem?_take_of_lt hi] at hs
    simp [List.getD, hs]
  rw [h2, Addr.add_lit] at h1
  exact h1

theorem open_texts {H : Type} {enc : TypeId × Value → H} {W : World} {a0 : Option Addr} {len cap fuel : Nat} {x : DataW H × List MemPlace}
    (hf : DataW.trod enc Tryz.prog W 0 (fun _ => true) true fuel 22 [.slice a0 len cap] = some x) :
    ∃ xs : List ByteArray, xs.length = len ∧ SL W a0 xs ∧ len ≤ maxLen ∧ ∀ s ∈ xs, s.size ≤ maxLen := by
  rcases open_strings Tryz.underlying22 Tryz.underlying34 (show Tryz.prog.cellsOf 34 = 1 by kernel_rfl) hf with ⟨hcs, hx⟩ | ⟨a, len', cap', ss, hcs, _, hl, hm, hz, hx, hcell, hws⟩
  · simp at hcs
    obtain ⟨rfl, rfl, rfl⟩ := hcs
    exact ⟨[], rfl, fun i s hs => by simp at hs, Nat.zero_le _, fun s hs => by simp at hs⟩
  · simp at hcs
    obtain ⟨rfl, rfl, rfl⟩ := hcs
    simp only [if_true] at hz
    exact ⟨ss.take len, by simp; omega, sl_of (by omega) hcell, by omega, fun s hs => hws s (List.mem_of_mem_take hs)⟩

set_option maxRecDepth 100000 in
theorem open_pair {W : World} {base : Nat} {v : Value} (h : Value.okWide Tryz.prog W .any base 35 v) :
    ∃ y0 y1 : ByteArray, v = .agg #[.string y0, .string y1] ∧ y0.size ≤ maxLen ∧ y1.size ≤ maxLen := by
  simp only [Value.okWide, Tryz.underlying35] at h
  obtain ⟨cs, rfl, h2, ts, h3, _, h4⟩ := h
  have e1 : Tryz.prog.cellsOf 35 = 2 := by kernel_rfl
  have e2 : Tryz.prog.cellTypes Tryz.prog.depth 35 = some [34, 34] := by kernel_rfl
  rw [e1] at h2
  rw [e2] at h3
  injection h3 with h3
  subst h3
  obtain ⟨c0, c1, hc⟩ : ∃ c0 c1, cs = #[c0, c1] := by
    obtain ⟨l⟩ := cs
    match l, h2 with
    | [c0, c1], _ => exact ⟨c0, c1, rfl⟩
  subst hc
  obtain ⟨u0, hu0, k0⟩ := h4 0 c0 rfl
  obtain ⟨u1, hu1, k1⟩ := h4 1 c1 rfl
  simp at hu0 hu1
  subst hu0 hu1
  have hm : IntKind.i64.max = 9223372036854775807 := rfl
  simp only [Cell.okWide, Tryz.underlying34] at k0 k1
  unfold maxLen
  cases c0 <;> simp [Cell.ok, Tryz.underlying34] at k0
  cases c1 <;> simp [Cell.ok, Tryz.underlying34] at k1
  exact ⟨_, _, rfl, by omega, by omega⟩

set_option maxRecDepth 100000 in
theorem lifted (os : Os) (started : os.Started) (H : Type) (enc : TypeId × Value → H) :
    ReturnsInHanded {} Tryz.checked os 4 .any (Rows.wearRatesSpec.pre6 enc Tryz.prog Tryz.f4 Rows.wearRatesRow.domain false) (Rows.wearRatesSpec.post enc Tryz.prog Tryz.f4 false true false false) := by
  refine returnsInHanded_of_change (C := Tryz.checked) own started (by kernel_rfl) Tryz.func4
    (ChangeSpec.witness6 (enc := enc) (C := Tryz.checked) false ⟨#[], #[.slice none 0 0, .agg #[.string ⟨#[]⟩, .string ⟨#[]⟩]], []⟩ 8 (by kernel_rfl) (by kernel_rfl) (by kernel_rfl) (by kernel_rfl)) ?_
  intro W base args ds gs before hval0 hW hcnd _
  have hval : ∀ (j : Nat) t v, Tryz.f4.params[j]? = some t → args[j]? = some v → Value.okWide Tryz.prog W .any base t v := hval0
  have hW' := hW
  obtain ⟨p, q, hA0, hV, rfl, hfz, hnd⟩ := hW
  have hA : DataW.TrodAll enc Tryz.prog W 0 (fun _ => true) true Tryz.f4.params.toList args.toList ds p := hA0
  rw [Tryz.params4] at hA hval
  obtain ⟨v0, v1, d0, d1, p0, p1, rfl, rfl, rfl, h0, h1⟩ := trodAll_two hA
  obtain ⟨rfl, rfl⟩ := trodVars_none hV
  obtain ⟨y0, y1, rfl, hy0, hy1⟩ := open_pair (hval 1 35 v1 rfl rfl)
  obtain ⟨a0, len, cap, rfl⟩ := okWide_slice Tryz.underlying22 (hval 0 22 v0 rfl rfl)
  clear hA0 hval0
  simp only [List.append_nil] at hW'
  have hlt : ∀ x ∈ p0, x.block < W.heap.size := fun x hx => hW'.lt x (by simp [hx])
  have hlt1 : ∀ x ∈ p1, x.block < W.heap.size := fun x hx => hW'.lt x (by simp [hx])
  have h0k := h0
  obtain ⟨fuel, hf⟩ := h0
  obtain ⟨xs, hl, hS, hm, hs⟩ := open_texts (by simpa [Value.cells] using hf)
  refine (ratesLaw_any a0 cap len xs y0 y1 W hl hS (by unfold maxLen at hm; omega) (fun s h => by have := hs s h; unfold maxLen at this; omega) (by unfold maxLen at hy0; omega) (by unfold maxLen at hy1; omega)).mono fun e W' ⟨he, hb⟩ => ?_
  subst he
  refine ⟨_, rfl, _, _, _, [], p0 ++ p1, [], hW', ?_, ?_, rfl, hb.frame _, fun h => by cases h⟩
  · exact trodAll_mk1 (shut_bool Tryz.underlying4 _)
  · exact trodAll_mk2 (Below.trod laid (by kernel_rfl) (of_decide_eq_true (by kernel_rfl)) h0k hb hlt) (Below.trod laid (by kernel_rfl) (of_decide_eq_true (by kernel_rfl)) h1 hb hlt1)

theorem over : Rows.wearRatesRow.holds Tryz.pinned (OpenSpec.ofChange Rows.wearRatesSpec) :=
  OpenClaim.holds_of_wide 4 Tryz.f4 rfl rfl rfl rfl rfl rfl rfl ⟨rfl, rfl, rfl, rfl, rfl⟩ rfl rfl rfl rfl rfl (by kernel_rfl) Tryz.func4 (by kernel_rfl)
    (of_decide_eq_true (by kernel_rfl)) (by unfold Func.isWrapper; rw [if_neg (of_decide_eq_false (by kernel_rfl))]; exact ⟨rfl, rfl⟩)
    (fun os started H enc _ => lifted os started H enc)

/-- The statement. -/
theorem proved : Rows.WearRatesSaid := over

end Go.Proofs.YtcaeonpjokkjnaaGreat.wearRates
