/- ImP -/
import Derived.Test.YtbehfhmdilifkaaQHz
import Derived.Test.YtbehfhmdilifkaaQIm
set_option linter.unusedVariables false
/- The law TeethPells: the statement. -/
namespace Go.Proofs.Ytbehfhmdilifkaa.teethPells
open Go Go.ChangeShapes Go.WideShapes Go.ChangeAt Go.RowKit
set_option linter.unusedVariables false

set_option maxRecDepth 100000 in
theorem lifted (os : Os) (started : os.Started) (H : Type) (enc : TypeId × Value → H) :
    ReturnsInHanded {} Try.checked os 6 .any (Rows.teethPellsSpec.pre6 enc Try.prog Try.f6 Rows.teethPellsRow.domain false) (Rows.teethPellsSpec.post enc Try.prog Try.f6 false true false false) := by
  refine returnsInHanded_of_change (C := Try.checked) knobJ started (by kernel_rfl) Try.func6
    (ChangeSpec.witness6 (enc := enc) (C := Try.checked) false ⟨#[], #[.int .i64 0, .int .i64 0], []⟩ 8 (by kernel_rfl) (by kernel_rfl) (by kernel_rfl) (by kernel_rfl)) ?_
  intro W base args ds gs before hval0 hW hcnd _
  have hval : ∀ (j : Nat) t v, Try.f6.params[j]? = some t → args[j]? = some v → Value.okWide Try.prog W .any base t v := hval0
  have hW' := hW
  obtain ⟨p, q, hA0, hV, rfl, hfz, hnd⟩ := hW
  have hA : DataW.TrodAll enc Try.prog W 0 (fun _ => true) true Try.f6.params.toList args.toList ds p := hA0
  rw [Try.params6] at hA hval
  obtain ⟨v0, v1, d0, d1, p0, p1, rfl, rfl, rfl, h0, h1⟩ := trodAll_two hA
  obtain ⟨rfl, rfl⟩ := trodVars_none hV
  obtain ⟨z0, rfl, rfl, rfl, w0⟩ := open_int Try.underlying3 (hval 0 3 v0 rfl rfl) h0
  obtain ⟨z1, rfl, rfl, rfl, w1⟩ := open_int Try.underlying3 (hval 1 3 v1 rfl rfl) h1
  have hn0 := wf64 w0
  have hn1 := wf64 w1
  clear hA0 hval0
  simp only [List.append_nil] at hW'
  skip
  refine (pellsLaw_any z0 z1 W).mono fun e W' ⟨he, hb⟩ => ?_
  subst he
  refine ⟨_, rfl, _, _, _, [], [] ++ ([]), [], hW', ?_, ?_, rfl, hb.frame _, fun h => by cases h⟩
  · exact trodAll_mk1 (shut_bool Try.underlying4 _)
  · exact trodAll_mk2 (shut_int Try.underlying3 w0) (shut_int Try.underlying3 w1)

theorem k_in : (Rows.teethPellsRow.inPlace == Try.prog.inPlace 6) = true := by kernel_rfl
theorem k_un : (Rows.teethPellsRow.unfollowed == Try.prog.unfollowed 6) = true := by kernel_rfl
theorem k_re : (Rows.teethPellsRow.recurses == Try.prog.recurses 6) = true := by kernel_rfl
theorem k_na : (Rows.teethPellsRow.named == Try.prog.varsNamed 6) = true := by kernel_rfl
theorem closed : joinedFacts Try.prog 6 Try.f6 Rows.teethPellsSpec Rows.teethPellsRow = true := by
  simp only [joinedFacts, k_in, k_un, k_re, k_na, laidJ, rowedJ, Bool.and_true]
  kernel_rfl

theorem over : Rows.teethPellsRow.holds Try.pinned (OpenSpec.ofChange Rows.teethPellsSpec) :=
  OpenClaim.holds_of_wide 6 Try.f6 rfl rfl rfl rfl rfl rfl rfl ⟨rfl, rfl, rfl, rfl, rfl⟩ rfl rfl rfl rfl rfl (by kernel_rfl) Try.func6 closed
    (of_decide_eq_true (by kernel_rfl)) (by unfold Func.isWrapper; rw [if_neg (of_decide_eq_false (by kernel_rfl))]; exact ⟨rfl, rfl⟩)
    (fun os started H enc _ => lifted os started H enc)

/-- The statement. -/
theorem proved : Rows.TeethPellsSaid := over

end Go.Proofs.Ytbehfhmdilifkaa.teethPells
