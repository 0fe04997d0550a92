/- IiP -/
import Derived.Test.YtbehfhmdilifkaaQHz
import Derived.Test.YtbehfhmdilifkaaQIi
set_option linter.unusedVariables false
/- The law TeethRayleigh: the statement. -/
namespace Go.Proofs.Ytbehfhmdilifkaa.teethRayleigh
open Go Go.ChangeShapes Go.WideShapes Go.ChangeAt Go.RowKit
set_option linter.unusedVariables false

set_option maxRecDepth 100000 in
theorem lifted (os : Os) (started : os.Started) (H : Type) (enc : TypeId × Value → H) :
    ReturnsInHanded {} Try.checked os 12 .any (Rows.teethRayleighSpec.pre6 enc Try.prog Try.f12 Rows.teethRayleighRow.domain false) (Rows.teethRayleighSpec.post enc Try.prog Try.f12 false true false false) := by
  refine returnsInHanded_of_change (C := Try.checked) knobJ started (by kernel_rfl) Try.func12
    (ChangeSpec.witness6 (enc := enc) (C := Try.checked) false ⟨#[], #[.int .u16 0, .int .u8 0, .agg #[.int .u8 0, .int .u8 0, .int .u8 0]], []⟩ 8 (by kernel_rfl) (by kernel_rfl) (by kernel_rfl) (by kernel_rfl)) ?_
  intro W base args ds gs before hval0 hW hcnd _
  have hval : ∀ (j : Nat) t v, Try.f12.params[j]? = some t → args[j]? = some v → Value.okWide Try.prog W .any base t v := hval0
  have hW' := hW
  obtain ⟨p, q, hA0, hV, rfl, hfz, hnd⟩ := hW
  have hA : DataW.TrodAll enc Try.prog W 0 (fun _ => true) true Try.f12.params.toList args.toList ds p := hA0
  rw [Try.params12] at hA hval
  obtain ⟨v0, v1, v2, d0, d1, d2, p0, p1, p2, rfl, rfl, rfl, h0, h1, h2⟩ := trodAll_three hA
  obtain ⟨rfl, rfl⟩ := trodVars_none hV
  obtain ⟨z0, rfl, rfl, rfl, w0⟩ := open_int Try.underlying63 (hval 0 63 v0 rfl rfl) h0
  obtain ⟨z1, rfl, rfl, rfl, w1⟩ := open_int Try.underlying5 (hval 1 5 v1 rfl rfl) h1
  have hn0 := wfu16 w0
  obtain ⟨n0, rfl⟩ : ∃ nn : Nat, z0 = (nn : Int) := ⟨z0.toNat, by omega⟩
  have hn1 := wfu8 w1
  obtain ⟨n1, rfl⟩ : ∃ nn : Nat, z1 = (nn : Int) := ⟨z1.toNat, by omega⟩
  clear hA0 hval0
  simp only [List.append_nil] at hW'
  have hlt2 : ∀ x ∈ p2, x.block < W.heap.size := fun x hx => by simpa using hW'.lt x (by simp [hx])
  have hk2 := h2
  obtain ⟨fuel2, hf2⟩ := h2
  obtain ⟨x2, y2, z2, rfl, hx2, hy2, hz2⟩ := open_b3 (hval 2 65 v2 rfl rfl) hf2
  skip
  refine (rayLaw_any n0 n1 x2 y2 z2 W (by omega) (by omega) hx2 hy2 hz2).mono fun e W' ⟨he, hb⟩ => ?_
  subst he
  refine ⟨_, rfl, _, _, _, [], [] ++ ([] ++ (p2)), [], hW', ?_, ?_, rfl, hb.frame _, fun h => by cases h⟩
  · exact trodAll_mk1 (shut_bool Try.underlying4 _)
  · exact trodAll_mk3 (shut_int Try.underlying63 w0) (shut_int Try.underlying5 w1) (Below.trod laidJ (by kernel_rfl) (of_decide_eq_true (by kernel_rfl)) hk2 hb hlt2)

theorem k_in : (Rows.teethRayleighRow.inPlace == Try.prog.inPlace 12) = true := by kernel_rfl
theorem k_un : (Rows.teethRayleighRow.unfollowed == Try.prog.unfollowed 12) = true := by kernel_rfl
theorem k_re : (Rows.teethRayleighRow.recurses == Try.prog.recurses 12) = true := by kernel_rfl
theorem k_na : (Rows.teethRayleighRow.named == Try.prog.varsNamed 12) = true := by kernel_rfl
theorem closed : joinedFacts Try.prog 12 Try.f12 Rows.teethRayleighSpec Rows.teethRayleighRow = true := by
  simp only [joinedFacts, k_in, k_un, k_re, k_na, laidJ, rowedJ, Bool.and_true]
  kernel_rfl

theorem over : Rows.teethRayleighRow.holds Try.pinned (OpenSpec.ofChange Rows.teethRayleighSpec) :=
  OpenClaim.holds_of_wide 12 Try.f12 rfl rfl rfl rfl rfl rfl rfl ⟨rfl, rfl, rfl, rfl, rfl⟩ rfl rfl rfl rfl rfl (by kernel_rfl) Try.func12 closed
    (of_decide_eq_true (by kernel_rfl)) (by unfold Func.isWrapper; rw [if_neg (of_decide_eq_false (by kernel_rfl))]; exact ⟨rfl, rfl⟩)
    (fun os started H enc _ => lifted os started H enc)

/-- The statement. -/
theorem proved : Rows.TeethRayleighSaid := over

end Go.Proofs.Ytbehfhmdilifkaa.teethRayleigh
