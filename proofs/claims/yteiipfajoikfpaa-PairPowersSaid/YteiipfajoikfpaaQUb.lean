/- Ub -/
import Derived.Test.YteiipfajoikfpaaQUa
import Derived.Test.YteiipfajoikfpaaQGw
set_option linter.unusedVariables false
/- Walk of the laws' lives: the document's examples. -/
namespace Go.Proofs.Yteiipfajoikfpaa
open Go Go.RowKit Go.Proofs

def exA : List (List Int) := [[1, 2], [3, 5]]
def exB : List (List Int) := [[1, 9], [1, 9]]
def exC : List (List Int) := [[0, 0], [0, 0]]
theorem exA_good : goodC exA := by unfold goodC exA; decide
theorem exB_good : goodC exB := by unfold goodC exB; decide
theorem exC_good : goodC exC := by unfold goodC exC; decide
theorem exA_worst : Best (byI (mxP exA)) (allN 2) [1, 0] := ⟨by decide, by unfold byI; decide, by unfold byI; decide⟩
theorem exA_cheap : Best (byI (sumC exA)) (allN 2) [1, 0] := ⟨by decide, by unfold byI; decide, by unfold byI; decide⟩
theorem exA_worst3 : mxP exA [1, 0] = 3 := by decide
theorem exA_cheap5 : sumC exA [1, 0] = 5 := by decide
theorem exC_at : (alwN (upA exC 0) 2)[1]? = some [1, 0] := by decide
theorem exB_lack : lackB (upA exB 5) 2 [0, 1] = true := by decide
theorem exB_asc : Asc 2 0 [0, 1] := ⟨by decide, by decide, by decide⟩
theorem exB_least : LeastL (upA exB 5) 2 [0, 1] := by
  refine ⟨exB_asc, exB_lack, fun q hq hl => ?_⟩
  have hr := hq.rise
  have hlt := hq.lt
  rcases q with _ | ⟨a, q⟩
  · exact absurd hl (by decide)
  · rcases q with _ | ⟨b, q⟩
    · have ha := hlt a (by simp)
      have : a = 0 ∨ a = 1 := by omega
      rcases this with rfl | rfl
      · exact absurd hl (by decide)
      · exact absurd hl (by decide)
    · have ha := hlt a (by simp)
      have hb := hlt b (by simp)
      rw [List.pairwise_cons] at hr
      have hab := hr.1 b (by simp)
      rcases q with _ | ⟨c, q⟩
      · have h1 : a = 0 := by omega
        have h2 : b = 1 := by omega
        subst h1 h2
        exact .inr ⟨rfl, List.le_refl _⟩
      · have hc := hlt c (by simp)
        have h3 := hr.2
        rw [List.pairwise_cons] at h3
        have := h3.1 c (by simp)
        omega
/-- What calls return at the examples. -/
def Ex3 (w : World) (v : Int) (xs : List Int) (e : Ending) (w' : World) : Prop := ∃ g o c, e = .returned (.tuple #[.slice (some ⟨g, o, none⟩) 2 c, .int .i64 v, .int .i64 0]) ∧ IZ w' (some ⟨g, o, none⟩) xs ∧ Below w.heap.size w w'
def Ex2 (w : World) (xs : List Int) (e : Ending) (w' : World) : Prop := ∃ g o c, e = .returned (.tuple #[.slice (some ⟨g, o, none⟩) 2 c, .int .i64 0]) ∧ IZ w' (some ⟨g, o, none⟩) xs ∧ Below w.heap.size w w'
theorem ex_worst (ao : Option Addr) (c : Nat) (w : World) (h : IMx w ao exA) : Calls Try.prog 30 #[.slice ao 2 c] w (Ex3 w 3 [1, 0]) :=
  (worst_good ao c 2 exA w h exA_good rfl).mono fun e w' ⟨l, g, o, c, v, hB, hv, he, hc, hI, hb⟩ => by
    have e1 := hB.unique exA_worst
    subst e1
    rw [exA_worst3] at hv
    subst hv
    exact ⟨g, o, c, he, hI, hb⟩
theorem ex_cheap (ao : Option Addr) (c : Nat) (w : World) (h : IMx w ao exA) : Calls Try.prog 19 #[.slice ao 2 c] w (Ex3 w 5 [1, 0]) :=
  (cheap_good ao c 2 exA w h exA_good rfl (fun W hW => prices_any ao c 2 exA W hW exA_good rfl)).mono fun e w' ⟨l, g, o, c, v, hB, hv, he, hc, hI, hb⟩ => by
    have e1 := hB.unique exA_cheap
    subst e1
    rw [exA_cheap5] at hv
    subst hv
    exact ⟨g, o, c, he, hI, hb⟩
theorem ex_lacks (ao : Option Addr) (c : Nat) (w : World) (h : IMx w ao exB) : Calls Try.prog 24 #[.slice ao 2 c, .int .i64 5] w (Ex2 w [0, 1]) :=
  (lacks_good ao c 2 exB 5 w h exB_good rfl).mono fun e w' hp => by
    rcases hp with ⟨h1, _⟩ | ⟨p, m, g, o, c, hl, hm, he, hc, hI, hb⟩
    · have := h1 _ exB_asc
      rw [exB_lack] at this; cases this
    · have e1 := hl.unique exB_least
      subst e1
      subst hm
      exact ⟨g, o, c, he, hI, hb⟩
theorem ex_at (ao : Option Addr) (c : Nat) (w : World) (h : IMx w ao exC) : Calls Try.prog 27 #[.slice ao 2 c, .int .i64 0, .int .i64 1] w (Ex2 w [1, 0]) :=
  (at_good ao c 2 1 exC 0 w h exC_good rfl (by decide)).mono fun e w' ⟨l, g, o, c, h1, h2, he, hc, hI, hb⟩ => by
    rw [exC_at] at h1
    injection h1 with h1
    subst h1
    exact ⟨g, o, c, he, hI, hb⟩
theorem iz_two {w : World} {g : Nat} {a b : Int} (c0 : w.cell? ⟨g, 0, none⟩ = some (.int .i64 a)) (c1 : w.cell? ⟨g, 1, none⟩ = some (.int .i64 b)) : IZ w (some ⟨g, 0, none⟩) [a, b] := fun i x hx => by
  rcases i with _ | _ | i
  · simp at hx; subst hx; exact ⟨g, 0, rfl, c0⟩
  · simp at hx; subst hx; exact ⟨g, 0, rfl, c1⟩
  · simp at hx
theorem iz_lit (w : World) (a b : Int) : IZ (w.alloc (Obj.cells #[.int .i64 a, .int .i64 b] 3)) (some ⟨w.heap.size, 0, none⟩) [a, b] := iz_two (by rw [al_new rfl]; rfl) (by rw [al_new rfl]; rfl)
theorem imx_lit (w : World) (a b c d : Int) : IMx (((w.alloc (Obj.cells #[.int .i64 a, .int .i64 b] 3)).alloc (Obj.cells #[.int .i64 c, .int .i64 d] 3)).alloc (Obj.cells #[.slice (some ⟨w.heap.size, 0, none⟩) 2 2, .slice (some ⟨w.heap.size + 1, 0, none⟩) 2 2] 24))
    (some ⟨w.heap.size + 1 + 1, 0, none⟩) [[a, b], [c, d]] := by
  refine ⟨[.slice (some ⟨w.heap.size, 0, none⟩) 2 2, .slice (some ⟨w.heap.size + 1, 0, none⟩) 2 2], fun i v hv => ?_, rfl, fun i v xs hv hx => ?_⟩
  · rcases i with _ | _ | i
    · simp at hv; subst hv; exact ⟨_, 0, rfl, by rw [al_new (by simp)]; rfl⟩
    · simp at hv; subst hv; exact ⟨_, 0, rfl, by rw [al_new (by simp)]; rfl⟩
    · simp at hv
  · have b1 : Below (w.alloc (Obj.cells #[.int .i64 a, .int .i64 b] 3)).heap.size (w.alloc (Obj.cells #[.int .i64 a, .int .i64 b] 3)) _ := below_al (below_al (Below.refl _ _) (Obj.cells #[.int .i64 c, .int .i64 d] 3)) (Obj.cells #[.slice (some ⟨w.heap.size, 0, none⟩) 2 2, .slice (some ⟨w.heap.size + 1, 0, none⟩) 2 2] 24)
    rcases i with _ | _ | i
    · simp at hv hx
      subst hv hx
      exact ⟨_, _, rfl, Nat.le_refl _, (iz_lit w a b).below b1⟩
    · simp at hv hx
      subst hv hx
      have h2 := (iz_lit (w.alloc (Obj.cells #[.int .i64 a, .int .i64 b] 3)) c d).below (below_al (Below.refl _ _) (Obj.cells #[.slice (some ⟨w.heap.size, 0, none⟩) 2 2, .slice (some ⟨w.heap.size + 1, 0, none⟩) 2 2] 24))
      simp only [World.size_alloc] at h2
      exact ⟨_, _, rfl, Nat.le_refl _, h2⟩
    · simp at hv
theorem below_al3 (w : World) (o1 o2 o3 : Obj) : Below w.heap.size w (((w.alloc o1).alloc o2).alloc o3) := below_al (below_al (below_al (Below.refl _ _) o1) o2) o3
theorem imx_exB (w : World) : IMx (((w.alloc (Obj.cells #[.int .i64 1, .int .i64 9] 3)).alloc (Obj.cells #[.int .i64 1, .int .i64 9] 3)).alloc (Obj.cells #[.slice (some ⟨w.heap.size, 0, none⟩) 2 2, .slice (some ⟨w.heap.size + 1, 0, none⟩) 2 2] 24)) (some ⟨w.heap.size + 1 + 1, 0, none⟩) exB := imx_lit w 1 9 1 9
theorem imx_exC (w : World) : IMx (((w.alloc (Obj.cells #[.int .i64 0, .int .i64 0] 3)).alloc (Obj.cells #[.int .i64 0, .int .i64 0] 3)).alloc (Obj.cells #[.slice (some ⟨w.heap.size, 0, none⟩) 2 2, .slice (some ⟨w.heap.size + 1, 0, none⟩) 2 2] 24)) (some ⟨w.heap.size + 1 + 1, 0, none⟩) exC := imx_lit w 0 0 0 0
theorem same_two (g o g2 : Nat) (c d : Nat) (a b : Int) (w : World) (h1 : IZ w (some ⟨g, o, none⟩) [a, b]) (h2 : IZ w (some ⟨g2, 0, none⟩) [a, b]) : Calls Try.prog 23 #[.slice (some ⟨g, o, none⟩) 2 c, .slice (some ⟨g2, 0, none⟩) 2 d] w (RetB w true) :=
  same_any _ _ c d 2 2 [a, b] [a, b] true w h1 h2 rfl rfl (by omega) (by omega) (by unfold sameB; simp)
set_option maxRecDepth 100000 in
set_option maxHeartbeats 6400000 in
theorem lives_any (w : World) : Calls Try.prog 21 #[] w (RetB w true) := by
  go_enter Try.func21, Try.ntmps21
  go_upto_region 2 with (fail)
  obtain ⟨V1, hV1⟩ : ∃ V1, V1 = (((w.alloc (Obj.cells #[.int .i64 1, .int .i64 2] 3)).alloc (Obj.cells #[.int .i64 3, .int .i64 5] 3)).alloc (Obj.cells #[.slice (some ⟨w.heap.size, 0, none⟩) 2 2, .slice (some ⟨w.heap.size + 1, 0, none⟩) 2 2] 24)) := ⟨_, rfl⟩
  rw [← hV1]
  have hM1 : Hid (IMx V1 (some ⟨w.heap.size + 1 + 1, 0, none⟩) exA) := by show IMx _ _ _; rw [hV1]; exact imx_lit w 1 2 3 5
  have hb1 : Hid (Below w.heap.size w V1) := by show Below _ _ _; rw [hV1]; exact below_al3 _ _ _ _
  clear hV1
  go_upto_region 4 with (first
    | (go_at_call 30; go_loud (with_reducible refine (ex_worst _ _ _ hM1.out).mono ?_); rintro e w2 ⟨g2, o2, c2, rfl, hI, hb⟩; have hI2 := Lib.hid hI; have hb2 := Lib.hid hb; have hM2 := Lib.hid (hM1.out.below hb); clear hI hb)
    | (go_at_call 19; go_loud (with_reducible refine (ex_cheap _ _ _ hM2.out).mono ?_); rintro e w3 ⟨g3, o3, c3, rfl, hI, hb⟩; have hI3 := Lib.hid hI; have hb3 := Lib.hid hb; clear hI hb))
  go_upto_region 6 with (first
    | (go_at_call 24; go_loud (with_reducible refine (ex_lacks _ _ _ (imx_exB w3)).mono ?_); rintro e w4 ⟨g4, o4, c4, rfl, hI, hb⟩; have hI4 := Lib.hid hI; have hb4 := Lib.hid (bseqJ (below_al3 _ _ _ _) hb); clear hI hb)
    | (go_at_call 27; go_loud (with_reducible refine (ex_at _ _ _ (imx_exC w4)).mono ?_); rintro e w5 ⟨g5, o5, c5, rfl, hI, hb⟩; have hI5 := Lib.hid hI; have hb5 := Lib.hid (bseqJ (below_al3 _ _ _ _) hb); clear hI hb))
  have hw5 := Lib.hid (bseqJ hb1.out (bseqJ hb2.out (bseqJ hb3.out (bseqJ hb4.out hb5.out))))
  have hJ2 := Lib.hid (hI2.out.below (bseqJ hb3.out (bseqJ hb4.out hb5.out)))
  have hJ3 := Lib.hid (hI3.out.below (bseqJ hb4.out hb5.out))
  have hJ4 := Lib.hid (hI4.out.below hb5.out)
  clear hI2 hI3 hI4 hb1 hb2 hb3 hb4 hb5 hM1 hM2
  go_wp2_with (first
    | (go_at_call 23; go_loud (with_reducible refine (same_two _ _ _ _ _ 1 0 (w5.alloc _) (hJ2.out.below (below_al (Below.refl _ _) _)) (iz_lit _ _ _)).mono ?_); rintro e w6 ⟨rfl, hb⟩; have hb6 := Lib.hid (bseqJ (below_al (Below.refl _ _) _) hb); clear hb)
    | (go_at_call 23; go_loud (with_reducible refine (same_two _ _ _ _ _ 1 0 (w6.alloc _) (hJ3.out.below (bseqJ hb6.out (below_al (Below.refl _ _) _))) (iz_lit _ _ _)).mono ?_); rintro e w7 ⟨rfl, hb⟩; have hb7 := Lib.hid (bseqJ (below_al (Below.refl _ _) _) hb); clear hb)
    | (go_at_call 23; go_loud (with_reducible refine (same_two _ _ _ _ _ 0 1 (w7.alloc _) (hJ4.out.below (bseqJ hb6.out (bseqJ hb7.out (below_al (Below.refl _ _) _)))) (iz_lit _ _ _)).mono ?_); rintro e w8 ⟨rfl, hb⟩; have hb8 := Lib.hid (bseqJ (below_al (Below.refl _ _) _) hb); clear hb)
    | (go_at_call 23; go_loud (with_reducible refine (same_two _ _ _ _ _ 1 0 (w8.alloc _) (hI5.out.below (bseqJ hb6.out (bseqJ hb7.out (bseqJ hb8.out (below_al (Below.refl _ _) _))))) (iz_lit _ _ _)).mono ?_); rintro e w9 ⟨rfl, hb⟩; have hb9 := Lib.hid (bseqJ (below_al (Below.refl _ _) _) hb); clear hb))
  go_ret
  exact ⟨rfl, bseqJ hw5.out (bseqJ hb6.out (bseqJ hb7.out (bseqJ hb8.out hb9.out)))⟩
end Go.Proofs.Yteiipfajoikfpaa
