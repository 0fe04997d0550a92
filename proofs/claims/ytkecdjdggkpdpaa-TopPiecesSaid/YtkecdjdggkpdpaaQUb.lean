/- Ub -/
import Derived.Test.YtkecdjdggkpdpaaQUa
import Derived.Test.YtkecdjdggkpdpaaQGw
set_option linter.unusedVariables false
/- Walk of the laws' lives: the document's examples. -/
namespace Go.Proofs.Ytkecdjdggkpdpaa
open Go Go.RowKit Go.Proofs

def exA : List (List Int) := [[1, 2], [3, 5]]
def exB : List (List Int) := [[1, 9], [1, 9]]
def exC : List (List Int) := [[0, 0], [0, 0]]
theorem exA_good : goodC exA := by unfold goodC exA; decide
theorem exB_good : goodC exB := by unfold goodC exB; decide
theorem exC_good : goodC exC := by unfold goodC exC; decide
theorem exA_worst : Best (byI (mxP exA)) (allN 2) [1, 0] := ⟨by decide, by unfold byI; decide, by unfold byI; decide⟩
theorem exA_cheap : Best (byI (sumC exA)) (allN 2) [1, 0] := ⟨by decide, by unfold byI; decide, by unfold byI; decide⟩
theorem exA_worst3 : mxP exA [1, 0] = 3 := by decide
theorem exA_cheap5 : sumC exA [1, 0] = 5 := by decide
theorem exC_at : (alwN (upA exC 0) 2)[1]? = some [1, 0] := by decide
theorem exB_lack : lackB (upA exB 5) 2 [0, 1] = true := by decide
theorem exB_asc : Asc 2 0 [0, 1] := ⟨by decide, by decide, by decide⟩
theorem exB_least : LeastL (upA exB 5) 2 [0, 1] := by
  refine ⟨exB_asc, exB_lack, fun q hq hl => ?_⟩
  have hr := hq.rise
  have hlt := hq.lt
  rcases q with _ | ⟨a, q⟩
  · exact absurd hl (by decide)
  · rcases q with _ | ⟨b, q⟩
    · have ha := hlt a (by simp)
      have : a = 0 ∨ a = 1 := by omega
      rcases this with rfl | rfl
      · exact absurd hl (by decide)
      · exact absurd hl (by decide)
    · have ha := hlt a (by simp)
      have hb := hlt b (by simp)
      rw [List.pairwise_cons] at hr
      have hab := hr.1 b (by simp)
      rcases q with _ | ⟨c, q⟩
      · have h1 : a = 0 := by omega
        have h2 : b = 1 := by omega
        subst h1 h2
        exact .inr ⟨rfl, List.le_refl _⟩
      · have hc := hlt c (by simp)
        have h3 := hr.2
        rw [List.pairwise_cons] at h3
        have := h3.1 c (by simp)
        omega
/-- What calls return at the examples. -/
def Ex3 (w : World) (v : Int) (xs : List Int) (e : Ending) (w' : World) : Prop := ∃ g o c, e = .returned (.tuple #[.slice (some ⟨g, o, none⟩) 2 c, .int .i64 v, .int .i64 0]) ∧ IZ w' (some ⟨g, o, none⟩) xs ∧ Below w.heap.size w w'
def Ex2 (w : World) (xs : List Int) (e : Ending) (w' : World) : Prop := ∃ g o c, e = .returned (.tuple #[.slice (some ⟨g, o, none⟩) 2 c, .int .i64 0]) ∧ IZ w' (some ⟨g, o, none⟩) xs ∧ Below w.heap.size w w'
theorem ex_cheap (ao : Option Addr) (c : Nat) (w : World) (h : IMx w ao exA) : Calls Try.prog 6 #[.slice ao 2 c] w (Ex3 w 5 [1, 0]) :=
  (cheap_good ao c 2 exA w h exA_good rfl (fun W hW => prices_any ao c 2 exA W hW exA_good rfl)).mono fun e w' ⟨l, g, o, c, v, hB, hv, he, hc, hI, hb⟩ => by
    have e1 := hB.unique exA_cheap
    subst e1
    rw [exA_cheap5] at hv
    subst hv
    exact ⟨g, o, c, he, hI, hb⟩
theorem iz_two {w : World} {g : Nat} {a b : Int} (c0 : w.cell? ⟨g, 0, none⟩ = some (.int .i64 a)) (c1 : w.cell? ⟨g, 1, none⟩ = some (.int .i64 b)) : IZ w (some ⟨g, 0, none⟩) [a, b] := fun i x hx => by
  rcases i with _ | _ | i
  · simp at hx; subst hx; exact ⟨g, 0, rfl, c0⟩
  · simp at hx; subst hx; exact ⟨g, 0, rfl, c1⟩
  · simp at hx
theorem iz_lit (w : World) (a b : Int) : IZ (w.alloc (Obj.cells #[.int .i64 a, .int .i64 b] 3)) (some ⟨w.heap.size, 0, none⟩) [a, b] := iz_two (by rw [al_new rfl]; rfl) (by rw [al_new rfl]; rfl)
theorem imx_lit (w : World) (a b c d : Int) : IMx (((w.alloc (Obj.cells #[.int .i64 a, .int .i64 b] 3)).alloc (Obj.cells #[.int .i64 c, .int .i64 d] 3)).alloc (Obj.cells #[.slice (some ⟨w.heap.size, 0, none⟩) 2 2, .slice (some ⟨w.heap.size + 1, 0, none⟩) 2 2] 24))
    (some ⟨w.heap.size + 1 + 1, 0, none⟩) [[a, b], [c, d]] := by
  refine ⟨[.slice (some ⟨w.heap.size, 0, none⟩) 2 2, .slice (some ⟨w.heap.size + 1, 0, none⟩) 2 2], fun i v hv => ?_, rfl, fun i v xs hv hx => ?_⟩
  · rcases i with _ | _ | i
    · simp at hv; subst hv; exact ⟨_, 0, rfl, by rw [al_new (by simp)]; rfl⟩
    · simp at hv; subst hv; exact ⟨_, 0, rfl, by rw [al_new (by simp)]; rfl⟩
    · simp at hv
  · have b1 : Below (w.alloc (Obj.cells #[.int .i64 a, .int .i64 b] 3)).heap.size (w.alloc (Obj.cells #[.int .i64 a, .int .i64 b] 3)) _ := below_al (below_al (Below.refl _ _) (Obj.cells #[.int .i64 c, .int .i64 d] 3)) (Obj.cells #[.slice (some ⟨w.heap.size, 0, none⟩) 2 2, .slice (some ⟨w.heap.size + 1, 0, none⟩) 2 2] 24)
    rcases i with _ | _ | i
    · simp at hv hx
      subst hv hx
      exact ⟨_, _, rfl, Nat.le_refl _, (iz_lit w a b).below b1⟩
    · simp at hv hx
      subst hv hx
      have h2 := (iz_lit (w.alloc (Obj.cells #[.int .i64 a, .int .i64 b] 3)) c d).below (below_al (Below.refl _ _) (Obj.cells #[.slice (some ⟨w.heap.size, 0, none⟩) 2 2, .slice (some ⟨w.heap.size + 1, 0, none⟩) 2 2] 24))
      simp only [World.size_alloc] at h2
      exact ⟨_, _, rfl, Nat.le_refl _, h2⟩
    · simp at hv
theorem below_al3 (w : World) (o1 o2 o3 : Obj) : Below w.heap.size w (((w.alloc o1).alloc o2).alloc o3) := below_al (below_al (below_al (Below.refl _ _) o1) o2) o3
theorem imx_exB (w : World) : IMx (((w.alloc (Obj.cells #[.int .i64 1, .int .i64 9] 3)).alloc (Obj.cells #[.int .i64 1, .int .i64 9] 3)).alloc (Obj.cells #[.slice (some ⟨w.heap.size, 0, none⟩) 2 2, .slice (some ⟨w.heap.size + 1, 0, none⟩) 2 2] 24)) (some ⟨w.heap.size + 1 + 1, 0, none⟩) exB := imx_lit w 1 9 1 9
theorem imx_exC (w : World) : IMx (((w.alloc (Obj.cells #[.int .i64 0, .int .i64 0] 3)).alloc (Obj.cells #[.int .i64 0, .int .i64 0] 3)).alloc (Obj.cells #[.slice (some ⟨w.heap.size, 0, none⟩) 2 2, .slice (some ⟨w.heap.size + 1, 0, none⟩) 2 2] 24)) (some ⟨w.heap.size + 1 + 1, 0, none⟩) exC := imx_lit w 0 0 0 0
end Go.Proofs.Ytkecdjdggkpdpaa
