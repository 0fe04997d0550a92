/- XgP -/
import Derived.Test.YteiipfajoikfpaaQUd
import Derived.Test.YteiipfajoikfpaaQXg
import Derived.Test.YteiipfajoikfpaaQUj
set_option linter.unusedVariables false
/- The law PairPowers: the statement. -/
namespace Go.Proofs.Yteiipfajoikfpaa.pairPowers
open Go Go.ChangeShapes Go.WideShapes Go.ChangeAt Go.RowKit
set_option linter.unusedVariables false

set_option maxRecDepth 100000 in
theorem lifted (os : Os) (started : os.Started) (H : Type) (enc : TypeId × Value → H) :
    ReturnsInHanded {} Try.checked os 17 .any (Rows.pairPowersSpec.pre6 enc Try.prog Try.f17 Rows.pairPowersRow.domain false) (Rows.pairPowersSpec.post enc Try.prog Try.f17 false true false false) := by
  refine returnsInHanded_of_change (C := Try.checked) knobJ started (by kernel_rfl) Try.func17
    (ChangeSpec.witness6 (enc := enc) (C := Try.checked) false ⟨#[], #[.int .u8 0, .slice none 0 0, .int .u16 0], []⟩ 8 (by kernel_rfl) (by kernel_rfl) (by kernel_rfl) (by kernel_rfl)) ?_
  intro W base args ds gs before hval0 hW hcnd _
  have hval : ∀ (j : Nat) t v, Try.f17.params[j]? = some t → args[j]? = some v → Value.okWide Try.prog W .any base t v := hval0
  have hW' := hW
  obtain ⟨p, q, hA0, hV, rfl, hfz, hnd⟩ := hW
  have hA : DataW.TrodAll enc Try.prog W 0 (fun _ => true) true Try.f17.params.toList args.toList ds p := hA0
  rw [Try.params17] at hA hval
  obtain ⟨v0, v1, v2, d0, d1, d2, p0, p1, p2, rfl, rfl, rfl, h0, h1, h2⟩ := trodAll_three hA
  obtain ⟨rfl, rfl⟩ := trodVars_none hV
  obtain ⟨z0, rfl, rfl, rfl, w0⟩ := open_int Try.underlying5 (hval 0 5 v0 rfl rfl) h0
  obtain ⟨z2, rfl, rfl, rfl, w2⟩ := open_int Try.underlying43 (hval 2 43 v2 rfl rfl) h2
  have hn0 := wfu8 w0
  obtain ⟨n0, rfl⟩ : ∃ nn : Nat, z0 = (nn : Int) := ⟨z0.toNat, by omega⟩
  have hn2 := wfu16 w2
  obtain ⟨n2, rfl⟩ : ∃ nn : Nat, z2 = (nn : Int) := ⟨z2.toNat, by omega⟩
  obtain ⟨a1, len1, cap1, rfl⟩ := okWide_slice Try.underlying42 (hval 1 42 v1 rfl rfl)
  clear hA0 hval0
  simp only [List.append_nil] at hW'
  have hlt1 : ∀ x ∈ p1, x.block < W.heap.size := fun x hx => by simpa using hW'.lt x (by simp [hx])
  have hk1 := h1
  obtain ⟨fuel1, hf1⟩ := h1
  obtain ⟨xs1, hl1, hI1, hm1, hr1⟩ := open_u16s (by simpa [Value.cells] using hf1)
  unfold maxLen at *
  refine (powersLaw_any n0 len1 cap1 n2 a1 xs1 W hI1 hl1 (by omega) hr1 (by omega) (by omega)).mono fun e W' ⟨he, hb⟩ => ?_
  subst he
  refine ⟨_, rfl, _, _, _, [], [] ++ (p1 ++ ([])), [], hW', ?_, ?_, rfl, hb.frame _, fun h => by cases h⟩
  · exact trodAll_mk1 (shut_bool Try.underlying4 _)
  · exact trodAll_mk3 (shut_int Try.underlying5 w0) (Below.trod laidJ (by kernel_rfl) (of_decide_eq_true (by kernel_rfl)) hk1 hb hlt1) (shut_int Try.underlying43 w2)

theorem over : Rows.pairPowersRow.holds Try.pinned (OpenSpec.ofChange Rows.pairPowersSpec) :=
  OpenClaim.holds_of_wide 17 Try.f17 rfl rfl rfl rfl rfl rfl rfl ⟨rfl, rfl, rfl, rfl, rfl⟩ rfl rfl rfl rfl rfl (by kernel_rfl) Try.func17 (by kernel_rfl)
    (of_decide_eq_true (by kernel_rfl)) (by unfold Func.isWrapper; rw [if_neg (of_decide_eq_false (by kernel_rfl))]; exact ⟨rfl, rfl⟩)
    (fun os started H enc _ => lifted os started H enc)

/-- The statement. -/
theorem proved : Rows.PairPowersSaid := over

end Go.Proofs.Yteiipfajoikfpaa.pairPowers
