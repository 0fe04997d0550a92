/- HpP -/
import Derived.Test.YtbehfhmdilifkaaQHz
import Derived.Test.YtbehfhmdilifkaaQHp
set_option linter.unusedVariables false
/- The law TeethMiddle: the statement. -/
namespace Go.Proofs.Ytbehfhmdilifkaa.teethMiddle
open Go Go.ChangeShapes Go.WideShapes Go.ChangeAt Go.RowKit
set_option linter.unusedVariables false

set_option maxRecDepth 100000 in
theorem lifted (os : Os) (started : os.Started) (H : Type) (enc : TypeId × Value → H) :
    ReturnsInHanded {} Try.checked os 17 .any (Rows.teethMiddleSpec.pre6 enc Try.prog Try.f17 Rows.teethMiddleRow.domain false) (Rows.teethMiddleSpec.post enc Try.prog Try.f17 false true false false) := by
  refine returnsInHanded_of_change (C := Try.checked) knobJ started (by kernel_rfl) Try.func17
    (ChangeSpec.witness6 (enc := enc) (C := Try.checked) false ⟨#[], #[.agg #[.int .u16 0, .int .u16 0], .agg #[.int .u16 0, .int .u16 0]], []⟩ 8 (by kernel_rfl) (by kernel_rfl) (by kernel_rfl) (by kernel_rfl)) ?_
  intro W base args ds gs before hval0 hW hcnd _
  have hval : ∀ (j : Nat) t v, Try.f17.params[j]? = some t → args[j]? = some v → Value.okWide Try.prog W .any base t v := hval0
  have hW' := hW
  obtain ⟨p, q, hA0, hV, rfl, hfz, hnd⟩ := hW
  have hA : DataW.TrodAll enc Try.prog W 0 (fun _ => true) true Try.f17.params.toList args.toList ds p := hA0
  rw [Try.params17] at hA hval
  obtain ⟨v0, v1, d0, d1, p0, p1, rfl, rfl, rfl, h0, h1⟩ := trodAll_two hA
  obtain ⟨rfl, rfl⟩ := trodVars_none hV
  clear hA0 hval0
  simp only [List.append_nil] at hW'
  have hlt0 : ∀ x ∈ p0, x.block < W.heap.size := fun x hx => by simpa using hW'.lt x (by simp [hx])
  have hk0 := h0
  obtain ⟨fuel0, hf0⟩ := h0
  obtain ⟨x0, y0, rfl, hx0, hy0⟩ := open_u2 (hval 0 70 v0 rfl rfl) hf0
  have hlt1 : ∀ x ∈ p1, x.block < W.heap.size := fun x hx => by simpa using hW'.lt x (by simp [hx])
  have hk1 := h1
  obtain ⟨fuel1, hf1⟩ := h1
  obtain ⟨x1, y1, rfl, hx1, hy1⟩ := open_u2 (hval 1 70 v1 rfl rfl) hf1
  skip
  refine (midLaw_any x0 y0 x1 y1 W hx0 hy0 hx1 hy1).mono fun e W' ⟨he, hb⟩ => ?_
  subst he
  refine ⟨_, rfl, _, _, _, [], p0 ++ (p1), [], hW', ?_, ?_, rfl, hb.frame _, fun h => by cases h⟩
  · exact trodAll_mk1 (shut_bool Try.underlying4 _)
  · exact trodAll_mk2 (Below.trod laidJ (by kernel_rfl) (of_decide_eq_true (by kernel_rfl)) hk0 hb hlt0) (Below.trod laidJ (by kernel_rfl) (of_decide_eq_true (by kernel_rfl)) hk1 hb hlt1)

theorem k_in : (Rows.teethMiddleRow.inPlace == Try.prog.inPlace 17) = true := by kernel_rfl
theorem k_un : (Rows.teethMiddleRow.unfollowed == Try.prog.unfollowed 17) = true := by kernel_rfl
theorem k_re : (Rows.teethMiddleRow.recurses == Try.prog.recurses 17) = true := by kernel_rfl
theorem k_na : (Rows.teethMiddleRow.named == Try.prog.varsNamed 17) = true := by kernel_rfl
theorem closed : joinedFacts Try.prog 17 Try.f17 Rows.teethMiddleSpec Rows.teethMiddleRow = true := by
  simp only [joinedFacts, k_in, k_un, k_re, k_na, laidJ, rowedJ, Bool.and_true]
  kernel_rfl

theorem over : Rows.teethMiddleRow.holds Try.pinned (OpenSpec.ofChange Rows.teethMiddleSpec) :=
  OpenClaim.holds_of_wide 17 Try.f17 rfl rfl rfl rfl rfl rfl rfl ⟨rfl, rfl, rfl, rfl, rfl⟩ rfl rfl rfl rfl rfl (by kernel_rfl) Try.func17 closed
    (of_decide_eq_true (by kernel_rfl)) (by unfold Func.isWrapper; rw [if_neg (of_decide_eq_false (by kernel_rfl))]; exact ⟨rfl, rfl⟩)
    (fun os started H enc _ => lifted os started H enc)

/-- The statement. -/
theorem proved : Rows.TeethMiddleSaid := over

end Go.Proofs.Ytbehfhmdilifkaa.teethMiddle
