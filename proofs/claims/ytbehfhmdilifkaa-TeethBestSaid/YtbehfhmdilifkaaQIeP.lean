/- IeP -/
import Derived.Test.YtbehfhmdilifkaaQHz
import Derived.Test.YtbehfhmdilifkaaQIe
set_option linter.unusedVariables false
/- The law TeethBest: the statement. -/
namespace Go.Proofs.Ytbehfhmdilifkaa.teethBest
open Go Go.ChangeShapes Go.WideShapes Go.ChangeAt Go.RowKit
set_option linter.unusedVariables false

set_option maxRecDepth 100000 in
theorem lifted (os : Os) (started : os.Started) (H : Type) (enc : TypeId × Value → H) :
    ReturnsInHanded {} Try.checked os 9 .any (Rows.teethBestSpec.pre6 enc Try.prog Try.f9 Rows.teethBestRow.domain false) (Rows.teethBestSpec.post enc Try.prog Try.f9 false true false false) := by
  refine returnsInHanded_of_change (C := Try.checked) knobJ started (by kernel_rfl) Try.func9
    (ChangeSpec.witness6 (enc := enc) (C := Try.checked) false ⟨#[], #[.int .u32 0, .int .u32 0], []⟩ 8 (by kernel_rfl) (by kernel_rfl) (by kernel_rfl) (by kernel_rfl)) ?_
  intro W base args ds gs before hval0 hW hcnd _
  have hval : ∀ (j : Nat) t v, Try.f9.params[j]? = some t → args[j]? = some v → Value.okWide Try.prog W .any base t v := hval0
  have hW' := hW
  obtain ⟨p, q, hA0, hV, rfl, hfz, hnd⟩ := hW
  have hA : DataW.TrodAll enc Try.prog W 0 (fun _ => true) true Try.f9.params.toList args.toList ds p := hA0
  rw [Try.params9] at hA hval
  obtain ⟨v0, v1, d0, d1, p0, p1, rfl, rfl, rfl, h0, h1⟩ := trodAll_two hA
  obtain ⟨rfl, rfl⟩ := trodVars_none hV
  obtain ⟨z0, rfl, rfl, rfl, w0⟩ := open_int Try.underlying56 (hval 0 56 v0 rfl rfl) h0
  obtain ⟨z1, rfl, rfl, rfl, w1⟩ := open_int Try.underlying56 (hval 1 56 v1 rfl rfl) h1
  have hn0 := wfu32 w0
  obtain ⟨n0, rfl⟩ : ∃ nn : Nat, z0 = (nn : Int) := ⟨z0.toNat, by omega⟩
  have hn1 := wfu32 w1
  obtain ⟨n1, rfl⟩ : ∃ nn : Nat, z1 = (nn : Int) := ⟨z1.toNat, by omega⟩
  clear hA0 hval0
  simp only [List.append_nil] at hW'
  skip
  refine (bestLaw_any n0 n1 W (by omega) (by omega)).mono fun e W' ⟨he, hb⟩ => ?_
  subst he
  refine ⟨_, rfl, _, _, _, [], [] ++ ([]), [], hW', ?_, ?_, rfl, hb.frame _, fun h => by cases h⟩
  · exact trodAll_mk1 (shut_bool Try.underlying4 _)
  · exact trodAll_mk2 (shut_int Try.underlying56 w0) (shut_int Try.underlying56 w1)

theorem k_in : (Rows.teethBestRow.inPlace == Try.prog.inPlace 9) = true := by kernel_rfl
theorem k_un : (Rows.teethBestRow.unfollowed == Try.prog.unfollowed 9) = true := by kernel_rfl
theorem k_re : (Rows.teethBestRow.recurses == Try.prog.recurses 9) = true := by kernel_rfl
theorem k_na : (Rows.teethBestRow.named == Try.prog.varsNamed 9) = true := by kernel_rfl
theorem closed : joinedFacts Try.prog 9 Try.f9 Rows.teethBestSpec Rows.teethBestRow = true := by
  simp only [joinedFacts, k_in, k_un, k_re, k_na, laidJ, rowedJ, Bool.and_true]
  kernel_rfl

theorem over : Rows.teethBestRow.holds Try.pinned (OpenSpec.ofChange Rows.teethBestSpec) :=
  OpenClaim.holds_of_wide 9 Try.f9 rfl rfl rfl rfl rfl rfl rfl ⟨rfl, rfl, rfl, rfl, rfl⟩ rfl rfl rfl rfl rfl (by kernel_rfl) Try.func9 closed
    (of_decide_eq_true (by kernel_rfl)) (by unfold Func.isWrapper; rw [if_neg (of_decide_eq_false (by kernel_rfl))]; exact ⟨rfl, rfl⟩)
    (fun os started H enc _ => lifted os started H enc)

/-- The statement. -/
theorem proved : Rows.TeethBestSaid := over

end Go.Proofs.Ytbehfhmdilifkaa.teethBest
