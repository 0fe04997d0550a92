/- LdP -/
import Derived.Test.YtkecdjdggkpdpabQLg
import Derived.Test.YtkecdjdggkpdpabQLd
set_option linter.unusedVariables false
/- The law TopTrains: the statement. -/
namespace Go.Proofs.Ytkecdjdggkpdpab.topTrains
open Go Go.ChangeShapes Go.WideShapes Go.ChangeAt Go.RowKit
set_option linter.unusedVariables false

set_option maxRecDepth 100000 in
theorem lifted (os : Os) (started : os.Started) (H : Type) (enc : TypeId × Value → H) :
    ReturnsInHanded {} Try.checked os 3 .any (Rows.topTrainsSpec.pre6 enc Try.prog Try.f3 Rows.topTrainsRow.domain false) (Rows.topTrainsSpec.post enc Try.prog Try.f3 false true false false) := by
  refine returnsInHanded_of_change (C := Try.checked) knobJ started (by kernel_rfl) Try.func3
    (ChangeSpec.witness6 (enc := enc) (C := Try.checked) false ⟨#[], #[.agg #[.int .u16 0, .int .u16 0], .slice none 0 0, .int .u8 0], []⟩ 8 (by kernel_rfl) (by kernel_rfl) (by kernel_rfl) (by kernel_rfl)) ?_
  intro W base args ds gs before hval0 hW hcnd _
  have hval : ∀ (j : Nat) t v, Try.f3.params[j]? = some t → args[j]? = some v → Value.okWide Try.prog W .any base t v := hval0
  have hW' := hW
  obtain ⟨p, q, hA0, hV, rfl, hfz, hnd⟩ := hW
  have hA : DataW.TrodAll enc Try.prog W 0 (fun _ => true) true Try.f3.params.toList args.toList ds p := hA0
  rw [Try.params3] at hA hval
  obtain ⟨v0, v1, v2, d0, d1, d2, p0, p1, p2, rfl, rfl, rfl, h0, h1, h2⟩ := trodAll_three hA
  obtain ⟨rfl, rfl⟩ := trodVars_none hV
  obtain ⟨z2, rfl, rfl, rfl, w2⟩ := open_int Try.underlying5 (hval 2 5 v2 rfl rfl) h2
  have hn2 := wfu8 w2
  obtain ⟨n2, rfl⟩ : ∃ nn : Nat, z2 = (nn : Int) := ⟨z2.toNat, by omega⟩
  obtain ⟨a1, len1, cap1, rfl⟩ := okWide_slice Try.underlying24 (hval 1 24 v1 rfl rfl)
  clear hA0 hval0
  simp only [List.append_nil] at hW'
  have hlt0 : ∀ x ∈ p0, x.block < W.heap.size := fun x hx => by simpa using hW'.lt x (by simp [hx])
  have hk0 := h0
  obtain ⟨fuel0, hf0⟩ := h0
  obtain ⟨x0, y0, rfl, hx0, hy0⟩ := open_u2 (hval 0 23 v0 rfl rfl) hf0
  have hlt1 : ∀ x ∈ p1, x.block < W.heap.size := fun x hx => by simpa using hW'.lt x (by simp [hx])
  have hk1 := h1
  obtain ⟨fuel1, hf1⟩ := h1
  obtain ⟨xs1, hl1, hI1, hm1, hc1⟩ := open_bytes (by simpa [Value.cells] using hf1)
  unfold maxLen at *
  refine (trainsLaw_any x0 y0 len1 cap1 n2 a1 xs1 W hI1 hl1 (by omega) hc1 hx0 hy0 (by omega)).mono fun e W' ⟨he, hb⟩ => ?_
  subst he
  refine ⟨_, rfl, _, _, _, [], p0 ++ (p1 ++ ([])), [], hW', ?_, ?_, rfl, hb.frame _, fun h => by cases h⟩
  · exact trodAll_mk1 (shut_bool Try.underlying4 _)
  · exact trodAll_mk3 (Below.trod laidJ (by kernel_rfl) (of_decide_eq_true (by kernel_rfl)) hk0 hb hlt0) (Below.trod laidJ (by kernel_rfl) (of_decide_eq_true (by kernel_rfl)) hk1 hb hlt1) (shut_int Try.underlying5 w2)

theorem k_in : (Rows.topTrainsRow.inPlace == Try.prog.inPlace 3) = true := by kernel_rfl
theorem k_un : (Rows.topTrainsRow.unfollowed == Try.prog.unfollowed 3) = true := by kernel_rfl
theorem k_re : (Rows.topTrainsRow.recurses == Try.prog.recurses 3) = true := by kernel_rfl
theorem k_na : (Rows.topTrainsRow.named == Try.prog.varsNamed 3) = true := by kernel_rfl
theorem closed : joinedFacts Try.prog 3 Try.f3 Rows.topTrainsSpec Rows.topTrainsRow = true := by
  simp only [joinedFacts, k_in, k_un, k_re, k_na, laidJ, rowedJ, Bool.and_true]
  kernel_rfl

theorem over : Rows.topTrainsRow.holds Try.pinned (OpenSpec.ofChange Rows.topTrainsSpec) :=
  OpenClaim.holds_of_wide 3 Try.f3 rfl rfl rfl rfl rfl rfl rfl ⟨rfl, rfl, rfl, rfl, rfl⟩ rfl rfl rfl rfl rfl (by kernel_rfl) Try.func3 closed
    (of_decide_eq_true (by kernel_rfl)) (by unfold Func.isWrapper; rw [if_neg (of_decide_eq_false (by kernel_rfl))]; exact ⟨rfl, rfl⟩)
    (fun os started H enc _ => lifted os started H enc)

/-- The statement. -/
theorem proved : Rows.TopTrainsSaid := over

end Go.Proofs.Ytkecdjdggkpdpab.topTrains
