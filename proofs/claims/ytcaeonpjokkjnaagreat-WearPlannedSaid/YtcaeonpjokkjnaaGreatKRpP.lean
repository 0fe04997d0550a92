/- RpP -/
import Derived.Test.YtcaeonpjokkjnaaGreatRows
import Derived.Test.YtcaeonpjokkjnaaGreatKRp
import Derived.WalkKit
import Derived.ProofKit
import Derived.OpenShut
import Derived.ChangeSlices
import Derived.Carry
set_option linter.unusedVariables false
/- The law WearPlanned: the statement. -/
namespace Go.Proofs.YtcaeonpjokkjnaaGreat.wearPlanned
open Go Go.ChangeShapes Go.WideShapes Go.ChangeAt Go.RowKit
set_option linter.unusedVariables false

theorem own : ownKnob Tryz.prog.godebug = none := by kernel_rfl
theorem laid : laidOutB Tryz.prog = true := by kernel_rfl

theorem u8_wf {n : Int} (h : (Lit.int .u8 n).wf = true) : 0 ≤ n ∧ n < 256 := by
  simp [Lit.wf] at h
  have e1 : IntKind.u8.min = 0 := rfl
  have e2 : IntKind.u8.max = 255 := rfl
  omega
theorem dg_of {W : World} {a : Addr} {zs : List Int} {len : Nat} (hl : len ≤ zs.length) (hc : ∀ i, i < zs.length → W.cell? (a.add i) = some (.int .u8 (zs.getD i 0))) (hw : ∀ n ∈ zs, (Lit.int .u8 n).wf = true) : Dg .u8 W (some a) ((zs.take len).map Int.toNat) := fun i x hx => by
  rw [List.getElem?_map] at hx
  obtain ⟨z, hz, rfl⟩ := Option.map_eq_some_iff.1 hx
  have hi : i < len := by
    have := (List.getElem?_eq_some_iff.1 hz).1
    rw [List.length_take] at this
    omega
  obtain ⟨b, off, spot⟩ := a
  have h0 := hc 0 (by omega)
  have hspot : spot = none := by simpa [Addr.add] using World.cell?_spot h0
  subst hspot
  refine ⟨b, off, rfl, ?_⟩
  have h1 := hc i (by omega)
  rw [List.getElem?_take_of_lt hi] at hz
  have h2 : zs.getD i 0 = z := by simp [List.getD, hz]
  have h3 := u8_wf (hw z (List.mem_of_getElem? hz))
  rw [h2, Addr.add_lit] at h1
  rw [h1]
  congr 2
  omega

theorem open_bytes {H : Type} {enc : TypeId × Value → H} {W : World} {a0 : Option Addr} {len cap fuel : Nat} {x : DataW H × List MemPlace}
    (hf : DataW.trod enc Tryz.prog W 0 (fun _ => true) true fuel 51 [.slice a0 len cap] = some x) :
    ∃ xs : List Nat, xs.length = len ∧ Dg .u8 W a0 xs ∧ len ≤ maxLen ∧ ∀ x ∈ xs, x < 256 := by
  rcases open_ints Tryz.underlying51 Tryz.underlying5 (show Tryz.prog.cellsOf 5 = 1 by kernel_rfl) hf with ⟨hcs, hx⟩ | ⟨a, len', cap', zs, hcs, _, hl, hm, hz, hx, hcell, hws⟩
  · simp at hcs
    obtain ⟨rfl, rfl, rfl⟩ := hcs
    exact ⟨[], rfl, fun i s hs => by simp at hs, Nat.zero_le _, fun s hs => by simp at hs⟩
  · simp at hcs
    obtain ⟨rfl, rfl, rfl⟩ := hcs
    simp only [if_true] at hz
    refine ⟨(zs.take len).map Int.toNat, by simp; omega, dg_of (by omega) hcell hws, by omega, fun y hy => ?_⟩
    obtain ⟨z, hz2, rfl⟩ := List.mem_map.1 hy
    have := u8_wf (hws z (List.mem_of_mem_take hz2))
    omega

set_option maxRecDepth 100000 in
theorem open_pair {W : World} {base : Nat} {v : Value} (h : Value.okWide Tryz.prog W .any base 60 v) :
    ∃ y0 y1 : Nat, v = .agg #[.int .u8 y0, .int .u8 y1] ∧ y0 < 256 ∧ y1 < 256 := by
  simp only [Value.okWide, Tryz.underlying60] at h
  obtain ⟨cs, rfl, h2, ts, h3, _, h4⟩ := h
  have e1 : Tryz.prog.cellsOf 60 = 2 := by kernel_rfl
  have e2 : Tryz.prog.cellTypes Tryz.prog.depth 60 = some [5, 5] := by kernel_rfl
  rw [e1] at h2
  rw [e2] at h3
  injection h3 with h3
  subst h3
  obtain ⟨c0, c1, hc⟩ : ∃ c0 c1, cs = #[c0, c1] := by
    obtain ⟨l⟩ := cs
    match l, h2 with
    | [c0, c1], _ => exact ⟨c0, c1, rfl⟩
  subst hc
  obtain ⟨u0, hu0, k0⟩ := h4 0 c0 rfl
  obtain ⟨u1, hu1, k1⟩ := h4 1 c1 rfl
  simp at hu0 hu1
  subst hu0 hu1
  have m0 : IntKind.u8.min = 0 := rfl
  have m1 : IntKind.u8.max = 255 := rfl
  simp only [Cell.okWide, Tryz.underlying5] at k0 k1
  cases c0 <;> simp [Cell.ok, Tryz.underlying5] at k0
  cases c1 <;> simp [Cell.ok, Tryz.underlying5] at k1
  obtain ⟨rfl, r0⟩ := k0
  obtain ⟨rfl, r1⟩ := k1
  rename_i n0 n1 _hx
  unfold IntKind.has at r0 r1
  refine ⟨n0.toNat, n1.toNat, ?_, by omega, by omega⟩
  rw [show ((n0.toNat : Nat) : Int) = n0 by omega, show ((n1.toNat : Nat) : Int) = n1 by omega]

set_option maxRecDepth 100000 in
theorem lifted (os : Os) (started : os.Started) (H : Type) (enc : TypeId × Value → H) :
    ReturnsInHanded {} Tryz.checked os 6 .any (Rows.wearPlannedSpec.pre6 enc Tryz.prog Tryz.f6 Rows.wearPlannedRow.domain false) (Rows.wearPlannedSpec.post enc Tryz.prog Tryz.f6 false true false false) := by
  refine returnsInHanded_of_change (C := Tryz.checked) own started (by kernel_rfl) Tryz.func6
    (ChangeSpec.witness6 (enc := enc) (C := Tryz.checked) false ⟨#[], #[.slice none 0 0, .agg #[.int .u8 0, .int .u8 0]], []⟩ 8 (by kernel_rfl) (by kernel_rfl) (by kernel_rfl) (by kernel_rfl)) ?_
  intro W base args ds gs before hval0 hW hcnd _
  have hval : ∀ (j : Nat) t v, Tryz.f6.params[j]? = some t → args[j]? = some v → Value.okWide Tryz.prog W .any base t v := hval0
  have hW' := hW
  obtain ⟨p, q, hA0, hV, rfl, hfz, hnd⟩ := hW
  have hA : DataW.TrodAll enc Tryz.prog W 0 (fun _ => true) true Tryz.f6.params.toList args.toList ds p := hA0
  rw [Tryz.params6] at hA hval
  obtain ⟨v0, v1, d0, d1, p0, p1, rfl, rfl, rfl, h0, h1⟩ := trodAll_two hA
  obtain ⟨rfl, rfl⟩ := trodVars_none hV
  obtain ⟨y0, y1, rfl, hy0, hy1⟩ := open_pair (hval 1 60 v1 rfl rfl)
  obtain ⟨a0, len, cap, rfl⟩ := okWide_slice Tryz.underlying51 (hval 0 51 v0 rfl rfl)
  clear hA0 hval0
  simp only [List.append_nil] at hW'
  have hlt : ∀ x ∈ p0, x.block < W.heap.size := fun x hx => hW'.lt x (by simp [hx])
  have hlt1 : ∀ x ∈ p1, x.block < W.heap.size := fun x hx => hW'.lt x (by simp [hx])
  have h0k := h0
  obtain ⟨fuel, hf⟩ := h0
  obtain ⟨xs, hl, hS, hm, hs⟩ := open_bytes (by simpa [Value.cells] using hf)
  refine (planned_any a0 cap len y0 y1 xs W hl hS (by unfold maxLen at hm; omega) hs hy0 hy1).mono fun e W' ⟨he, hb⟩ => ?_
  subst he
  refine ⟨_, rfl, _, _, _, [], p0 ++ p1, [], hW', ?_, ?_, rfl, hb.frame _, fun h => by cases h⟩
  · exact trodAll_mk1 (shut_bool Tryz.underlying4 _)
  · exact trodAll_mk2 (Below.trod laid (by kernel_rfl) (of_decide_eq_true (by kernel_rfl)) h0k hb hlt) (Below.trod laid (by kernel_rfl) (of_decide_eq_true (by kernel_rfl)) h1 hb hlt1)

theorem over : Rows.wearPlannedRow.holds Tryz.pinned (OpenSpec.ofChange Rows.wearPlannedSpec) :=
  OpenClaim.holds_of_wide 6 Tryz.f6 rfl rfl rfl rfl rfl rfl rfl ⟨rfl, rfl, rfl, rfl, rfl⟩ rfl rfl rfl rfl rfl (by kernel_rfl) Tryz.func6 (by kernel_rfl)
    (of_decide_eq_true (by kernel_rfl)) (by unfold Func.isWrapper; rw [if_neg (of_decide_eq_false (by kernel_rfl))]; exact ⟨rfl, rfl⟩)
    (fun os started H enc _ => lifted os started H enc)

/-- The statement. -/
theorem proved : Rows.WearPlannedSaid := over

end Go.Proofs.YtcaeonpjokkjnaaGreat.wearPlanned
