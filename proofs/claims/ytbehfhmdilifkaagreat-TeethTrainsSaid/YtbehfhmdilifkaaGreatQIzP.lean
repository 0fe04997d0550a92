/- IzP -/
import Derived.Test.YtbehfhmdilifkaaGreatQHz
import Derived.Test.YtbehfhmdilifkaaGreatQIz
set_option linter.unusedVariables false
/- The law TeethTrains: the statement. -/
namespace Go.Proofs.YtbehfhmdilifkaaGreat.teethTrains
open Go Go.ChangeShapes Go.WideShapes Go.ChangeAt Go.RowKit
set_option linter.unusedVariables false

set_option maxRecDepth 100000 in
theorem lifted (os : Os) (started : os.Started) (H : Type) (enc : TypeId × Value → H) :
    ReturnsInHanded {} Tryz.checked os 4 .any (Rows.teethTrainsSpec.pre6 enc Tryz.prog Tryz.f4 Rows.teethTrainsRow.domain false) (Rows.teethTrainsSpec.post enc Tryz.prog Tryz.f4 false true false false) := by
  refine returnsInHanded_of_change (C := Tryz.checked) knobJ started (by kernel_rfl) Tryz.func4
    (ChangeSpec.witness6 (enc := enc) (C := Tryz.checked) false ⟨#[], #[.agg #[.int .i64 0, .int .i64 0], .slice none 0 0, .int .i64 0], []⟩ 8 (by kernel_rfl) (by kernel_rfl) (by kernel_rfl) (by kernel_rfl)) ?_
  intro W base args ds gs before hval0 hW hcnd _
  have hval : ∀ (j : Nat) t v, Tryz.f4.params[j]? = some t → args[j]? = some v → Value.okWide Tryz.prog W .any base t v := hval0
  have hW' := hW
  obtain ⟨p, q, hA0, hV, rfl, hfz, hnd⟩ := hW
  have hA : DataW.TrodAll enc Tryz.prog W 0 (fun _ => true) true Tryz.f4.params.toList args.toList ds p := hA0
  rw [Tryz.params4] at hA hval
  obtain ⟨v0, v1, v2, d0, d1, d2, p0, p1, p2, rfl, rfl, rfl, h0, h1, h2⟩ := trodAll_three hA
  obtain ⟨rfl, rfl⟩ := trodVars_none hV
  obtain ⟨z2, rfl, rfl, rfl, w2⟩ := open_int Tryz.underlying3 (hval 2 3 v2 rfl rfl) h2
  have hn2 := wf64 w2
  obtain ⟨a1, len1, cap1, rfl⟩ := okWide_slice Tryz.underlying23 (hval 1 23 v1 rfl rfl)
  clear hA0 hval0
  simp only [List.append_nil] at hW'
  have hlt0 : ∀ x ∈ p0, x.block < W.heap.size := fun x hx => by simpa using hW'.lt x (by simp [hx])
  have hk0 := h0
  obtain ⟨fuel0, hf0⟩ := h0
  obtain ⟨x0, y0, rfl, hx0, hy0⟩ := open_z2 (hval 0 43 v0 rfl rfl) hf0
  have hlt1 : ∀ x ∈ p1, x.block < W.heap.size := fun x hx => by simpa using hW'.lt x (by simp [hx])
  have hk1 := h1
  obtain ⟨fuel1, hf1⟩ := h1
  obtain ⟨xs1, hl1, hI1, hm1, hc1⟩ := open_list (by simpa [Value.cells] using hf1)
  unfold maxLen at *
  refine (trnLaw_any x0 y0 z2 a1 len1 cap1 xs1 W hI1 hl1 hc1 (by omega)).mono fun e W' ⟨he, hb⟩ => ?_
  subst he
  refine ⟨_, rfl, _, _, _, [], p0 ++ (p1 ++ ([])), [], hW', ?_, ?_, rfl, hb.frame _, fun h => by cases h⟩
  · exact trodAll_mk1 (shut_bool Tryz.underlying4 _)
  · exact trodAll_mk3 (Below.trod laidJ (by kernel_rfl) (of_decide_eq_true (by kernel_rfl)) hk0 hb hlt0) (Below.trod laidJ (by kernel_rfl) (of_decide_eq_true (by kernel_rfl)) hk1 hb hlt1) (shut_int Tryz.underlying3 w2)

theorem k_in : (Rows.teethTrainsRow.inPlace == Tryz.prog.inPlace 4) = true := by kernel_rfl
theorem k_un : (Rows.teethTrainsRow.unfollowed == Tryz.prog.unfollowed 4) = true := by kernel_rfl
theorem k_re : (Rows.teethTrainsRow.recurses == Tryz.prog.recurses 4) = true := by kernel_rfl
theorem k_na : (Rows.teethTrainsRow.named == Tryz.prog.varsNamed 4) = true := by kernel_rfl
theorem closed : joinedFacts Tryz.prog 4 Tryz.f4 Rows.teethTrainsSpec Rows.teethTrainsRow = true := by
  simp only [joinedFacts, k_in, k_un, k_re, k_na, laidJ, rowedJ, Bool.and_true]
  kernel_rfl

theorem over : Rows.teethTrainsRow.holds Tryz.pinned (OpenSpec.ofChange Rows.teethTrainsSpec) :=
  OpenClaim.holds_of_wide 4 Tryz.f4 rfl rfl rfl rfl rfl rfl rfl ⟨rfl, rfl, rfl, rfl, rfl⟩ rfl rfl rfl rfl rfl (by kernel_rfl) Tryz.func4 closed
    (of_decide_eq_true (by kernel_rfl)) (by unfold Func.isWrapper; rw [if_neg (of_decide_eq_false (by kernel_rfl))]; exact ⟨rfl, rfl⟩)
    (fun os started H enc _ => lifted os started H enc)

/-- The statement. -/
theorem proved : Rows.TeethTrainsSaid := over

end Go.Proofs.YtbehfhmdilifkaaGreat.teethTrains
