/- Hf -/
import Derived.Test.YtkecdjdggkpdpabQHb
import Derived.Test.YtkecdjdggkpdpabQHa
import Derived.Test.YtkecdjdggkpdpabQTg
import Derived.Test.YtkecdjdggkpdpabQHe
import Derived.Test.YtkecdjdggkpdpabQTp
import Derived.Test.YtkecdjdggkpdpabQPd
set_option linter.unusedVariables false
/- Walk of the laws' lives: the document's examples. -/
namespace Go.Proofs.Ytkecdjdggkpdpab
open Go Go.RowKit Go.Proofs

theorem izlit (w : World) (l : List Int) : IZ (w.alloc (Obj.cells (l.map fun x => Value.int .i64 x).toArray 3)) (some ⟨w.heap.size, 0, none⟩) l := fun i x hx => by
  refine ⟨_, 0, rfl, ?_⟩
  rw [al_newT rfl]
  simp [hx]
theorem ex_trm : trm 43 30 = [1, 2, 3, 4] := by
  rw [trm_pos (by decide), show 43 / 30 = 1 from rfl, show 43 % 30 = 13 from rfl, trm_pos (by decide), show 30 / 13 = 2 from rfl, show 30 % 13 = 4 from rfl, trm_pos (by decide), show 13 / 4 = 3 from rfl, show 13 % 4 = 1 from rfl, trm_pos (by decide), show 4 / 1 = 4 from rfl, show 4 % 1 = 0 from rfl, trm_zero]
theorem ex_nearI : NearI 43 30 7 10 7 := by
  have h0 : CI 43 30 1 1 1 0 30 13 := CI.start (o := 43) (u := 30) (by decide)
  have h1 : CI 43 30 3 2 1 1 13 4 := h0.step (by decide)
  have h2 : CI 43 30 10 7 3 2 4 1 := h1.step (by decide)
  exact h2.near (by decide)
theorem ex_near (w : World) : Calls Try.prog 6 #[.int .i64 43, .int .i64 30, .int .i64 7] w (fun e w' => e = .returned (.tuple #[.int .i64 10, .int .i64 7, .int .i64 0]) ∧ Below w.heap.size w w') :=
  nearP_good 43 30 7 10 7 w (by decide) (by decide) (by decide) (by decide) (by decide) (by decide) ex_nearI
theorem ex_nt8 : nt ((((pellV 7 false).1 : Nat) : Int) : Rat) = ⟨#[56]⟩ := by kernel_rfl
theorem ex_nt3 : nt ((((pellV 7 false).2 : Nat) : Int) : Rat) = ⟨#[51]⟩ := by kernel_rfl
theorem ex_sq {d : Nat} (h2 : 2 ≤ d) (h3 : d ≤ 1000) (h : ¬ sq32 d * sq32 d = d) : sqB d = false := by
  unfold sqB
  rw [fl_small h2 h3]
  exact decide_eq_false h
theorem ex_bt : btS 2 7 = ⟨#[98, 97, 98, 97, 98, 98, 97]⟩ := by kernel_rfl
theorem ex_mk : nzT (mkL 100) = [1, 2, 5, 13, 29, 34, 89] := by kernel_rfl
theorem ex_lit4 (w : World) : IZ (w.alloc (Obj.cells #[.int .i64 1, .int .i64 2, .int .i64 3, .int .i64 4] 3)) (some ⟨w.heap.size, 0, none⟩) [1, 2, 3, 4] := izlit w [1, 2, 3, 4]
theorem ex_lit7 (w : World) : IZ (w.alloc (Obj.cells #[.int .i64 1, .int .i64 2, .int .i64 5, .int .i64 13, .int .i64 29, .int .i64 34, .int .i64 89] 3)) (some ⟨w.heap.size, 0, none⟩) [1, 2, 5, 13, 29, 34, 89] := izlit w [1, 2, 5, 13, 29, 34, 89]
end Go.Proofs.Ytkecdjdggkpdpab
