/- IdP -/
import Derived.Test.YtbehfhmdilifkaaQHz
import Derived.Test.YtbehfhmdilifkaaQId
set_option linter.unusedVariables false
/- The law TeethScaled: the statement. -/
namespace Go.Proofs.Ytbehfhmdilifkaa.teethScaled
open Go Go.ChangeShapes Go.WideShapes Go.ChangeAt Go.RowKit
set_option linter.unusedVariables false

set_option maxRecDepth 100000 in
theorem lifted (os : Os) (started : os.Started) (H : Type) (enc : TypeId × Value → H) :
    ReturnsInHanded {} Try.checked os 14 .any (Rows.teethScaledSpec.pre6 enc Try.prog Try.f14 Rows.teethScaledRow.domain false) (Rows.teethScaledSpec.post enc Try.prog Try.f14 false true false false) := by
  refine returnsInHanded_of_change (C := Try.checked) knobJ started (by kernel_rfl) Try.func14
    (ChangeSpec.witness6 (enc := enc) (C := Try.checked) false ⟨#[], #[.agg #[.int .u16 0, .int .u16 0], .int .u8 0, .int .u16 0], []⟩ 8 (by kernel_rfl) (by kernel_rfl) (by kernel_rfl) (by kernel_rfl)) ?_
  intro W base args ds gs before hval0 hW hcnd _
  have hval : ∀ (j : Nat) t v, Try.f14.params[j]? = some t → args[j]? = some v → Value.okWide Try.prog W .any base t v := hval0
  have hW' := hW
  obtain ⟨p, q, hA0, hV, rfl, hfz, hnd⟩ := hW
  have hA : DataW.TrodAll enc Try.prog W 0 (fun _ => true) true Try.f14.params.toList args.toList ds p := hA0
  rw [Try.params14] at hA hval
  obtain ⟨v0, v1, v2, d0, d1, d2, p0, p1, p2, rfl, rfl, rfl, h0, h1, h2⟩ := trodAll_three hA
  obtain ⟨rfl, rfl⟩ := trodVars_none hV
  obtain ⟨z1, rfl, rfl, rfl, w1⟩ := open_int Try.underlying5 (hval 1 5 v1 rfl rfl) h1
  obtain ⟨z2, rfl, rfl, rfl, w2⟩ := open_int Try.underlying63 (hval 2 63 v2 rfl rfl) h2
  have hn1 := wfu8 w1
  obtain ⟨n1, rfl⟩ : ∃ nn : Nat, z1 = (nn : Int) := ⟨z1.toNat, by omega⟩
  have hn2 := wfu16 w2
  obtain ⟨n2, rfl⟩ : ∃ nn : Nat, z2 = (nn : Int) := ⟨z2.toNat, by omega⟩
  clear hA0 hval0
  simp only [List.append_nil] at hW'
  have hlt0 : ∀ x ∈ p0, x.block < W.heap.size := fun x hx => by simpa using hW'.lt x (by simp [hx])
  have hk0 := h0
  obtain ⟨fuel0, hf0⟩ := h0
  obtain ⟨x0, y0, rfl, hx0, hy0⟩ := open_u2 (hval 0 70 v0 rfl rfl) hf0
  skip
  refine (scaLaw_any x0 y0 n1 n2 W hx0 hy0 (by omega) (by omega)).mono fun e W' ⟨he, hb⟩ => ?_
  subst he
  refine ⟨_, rfl, _, _, _, [], p0 ++ ([] ++ ([])), [], hW', ?_, ?_, rfl, hb.frame _, fun h => by cases h⟩
  · exact trodAll_mk1 (shut_bool Try.underlying4 _)
  · exact trodAll_mk3 (Below.trod laidJ (by kernel_rfl) (of_decide_eq_true (by kernel_rfl)) hk0 hb hlt0) (shut_int Try.underlying5 w1) (shut_int Try.underlying63 w2)

theorem k_in : (Rows.teethScaledRow.inPlace == Try.prog.inPlace 14) = true := by kernel_rfl
theorem k_un : (Rows.teethScaledRow.unfollowed == Try.prog.unfollowed 14) = true := by kernel_rfl
theorem k_re : (Rows.teethScaledRow.recurses == Try.prog.recurses 14) = true := by kernel_rfl
theorem k_na : (Rows.teethScaledRow.named == Try.prog.varsNamed 14) = true := by kernel_rfl
theorem closed : joinedFacts Try.prog 14 Try.f14 Rows.teethScaledSpec Rows.teethScaledRow = true := by
  simp only [joinedFacts, k_in, k_un, k_re, k_na, laidJ, rowedJ, Bool.and_true]
  kernel_rfl

theorem over : Rows.teethScaledRow.holds Try.pinned (OpenSpec.ofChange Rows.teethScaledSpec) :=
  OpenClaim.holds_of_wide 14 Try.f14 rfl rfl rfl rfl rfl rfl rfl ⟨rfl, rfl, rfl, rfl, rfl⟩ rfl rfl rfl rfl rfl (by kernel_rfl) Try.func14 closed
    (of_decide_eq_true (by kernel_rfl)) (by unfold Func.isWrapper; rw [if_neg (of_decide_eq_false (by kernel_rfl))]; exact ⟨rfl, rfl⟩)
    (fun os started H enc _ => lifted os started H enc)

/-- The statement. -/
theorem proved : Rows.TeethScaledSaid := over

end Go.Proofs.Ytbehfhmdilifkaa.teethScaled
