/- Hf -/
import Derived.Test.YtbehfhmdilifkaaGreatQHb
import Derived.Test.YtbehfhmdilifkaaGreatQHa
import Derived.Test.YtbehfhmdilifkaaGreatQTg
import Derived.Test.YtbehfhmdilifkaaGreatQHe
import Derived.Test.YtbehfhmdilifkaaGreatQTp
import Derived.Test.YtbehfhmdilifkaaGreatQPd
set_option linter.unusedVariables false
/- Walk of the laws' lives: the document's examples. -/
namespace Go.Proofs.YtbehfhmdilifkaaGreat
open Go Go.RowKit Go.Proofs

theorem izlit (w : World) (l : List Int) : IZ (w.alloc (Obj.cells (l.map fun x => Value.int .i64 x).toArray 3)) (some ⟨w.heap.size, 0, none⟩) l := fun i x hx => by
  refine ⟨_, 0, rfl, ?_⟩
  rw [al_newT rfl]
  simp [hx]
theorem ex_trm : trm 43 30 = [1, 2, 3, 4] := by
  rw [trm_pos (by decide), show 43 / 30 = 1 from rfl, show 43 % 30 = 13 from rfl, trm_pos (by decide), show 30 / 13 = 2 from rfl, show 30 % 13 = 4 from rfl, trm_pos (by decide), show 13 / 4 = 3 from rfl, show 13 % 4 = 1 from rfl, trm_pos (by decide), show 4 / 1 = 4 from rfl, show 4 % 1 = 0 from rfl, trm_zero]
theorem ex_nearI : NearI 43 30 7 10 7 := by
  have h0 : CI 43 30 1 1 1 0 30 13 := CI.start (o := 43) (u := 30) (by decide)
  have h1 : CI 43 30 3 2 1 1 13 4 := h0.step (by decide)
  have h2 : CI 43 30 10 7 3 2 4 1 := h1.step (by decide)
  exact h2.near (by decide)
theorem ex_terms (w : World) : Calls Tryz.prog 23 #[.int .i64 43, .int .i64 30] w (fun e w' => ∃ g c, e = .returned (.tuple #[.slice (some ⟨g, 0, none⟩) 4 c, .int .i64 0]) ∧ IZ w' (some ⟨g, 0, none⟩) [1, 2, 3, 4] ∧ Below w.heap.size w w') :=
  (termsP_good 43 30 w (by decide) (by decide) (by decide) (by decide)).mono fun e w' ⟨g, c, he, hc, hI, hb⟩ => by
    rw [ex_trm] at he hI
    exact ⟨g, c, he, hI, hb⟩
theorem ex_near (w : World) : Calls Tryz.prog 24 #[.int .i64 43, .int .i64 30, .int .i64 7] w (fun e w' => e = .returned (.tuple #[.int .i64 10, .int .i64 7, .int .i64 0]) ∧ Below w.heap.size w w') :=
  nearP_good 43 30 7 10 7 w (by decide) (by decide) (by decide) (by decide) (by decide) (by decide) ex_nearI
theorem ex_nt8 : nt ((((pellV 7 false).1 : Nat) : Int) : Rat) = ⟨#[56]⟩ := by kernel_rfl
theorem ex_nt3 : nt ((((pellV 7 false).2 : Nat) : Int) : Rat) = ⟨#[51]⟩ := by kernel_rfl
theorem ex_sq {d : Nat} (h2 : 2 ≤ d) (h3 : d ≤ 1000) (h : ¬ sq32 d * sq32 d = d) : sqB d = false := by
  unfold sqB
  rw [fl_small h2 h3]
  exact decide_eq_false h
theorem ex_pell (w : World) : Calls Tryz.prog 8 #[.int .i64 7, .int .i64 1] w (fun e w' => e = .returned (.tuple #[.string ⟨#[56]⟩, .string ⟨#[51]⟩, .int .i64 0]) ∧ Below w.heap.size w w') :=
  (pellP_good 7 false w (by decide) (by decide) (ex_sq (by decide) (by decide) (by decide)) (by decide)).mono fun e w' ⟨he, hb⟩ => by
    rw [ex_nt8, ex_nt3] at he
    exact ⟨he, hb⟩
theorem ex_bt : btS 2 7 = ⟨#[98, 97, 98, 97, 98, 98, 97]⟩ := by kernel_rfl
theorem ex_beats (w : World) : Calls Tryz.prog 25 #[.int .i64 2, .int .i64 7] w (fun e w' => e = .returned (.tuple #[.string ⟨#[98, 97, 98, 97, 98, 98, 97]⟩, .int .i64 0]) ∧ Below w.heap.size w w') :=
  (beatsP_good 2 7 w (by decide) (by decide) (by decide) (ex_sq (by decide) (by decide) (by decide))).mono fun e w' ⟨he, hb⟩ => by
    rw [ex_bt] at he
    exact ⟨he, hb⟩
theorem ex_mk : nzT (mkL 100) = [1, 2, 5, 13, 29, 34, 89] := by kernel_rfl
theorem ex_markov (w : World) : Calls Tryz.prog 26 #[.int .i64 100] w (fun e w' => ∃ g c, e = .returned (.tuple #[.slice (some ⟨g, 0, none⟩) 7 c, .int .i64 0]) ∧ IZ w' (some ⟨g, 0, none⟩) [1, 2, 5, 13, 29, 34, 89] ∧ Below w.heap.size w w') :=
  (markP_good 100 w (by decide) (by decide)).mono fun e w' ⟨g, c, he, hc, hI, hb⟩ => by
    rw [ex_mk] at he hI
    exact ⟨g, c, he, hI, hb⟩
theorem ex_same4 (g c g2 d : Nat) (w : World) (h : IZ w (some ⟨g, 0, none⟩) [1, 2, 3, 4]) (h2 : IZ w (some ⟨g2, 0, none⟩) [1, 2, 3, 4]) : Calls Tryz.prog 20 #[.slice (some ⟨g, 0, none⟩) 4 c, .slice (some ⟨g2, 0, none⟩) 4 d] w (RetB w true) :=
  same_any _ _ c d 4 4 _ _ true w h h2 rfl rfl (by omega) (by omega) (by unfold sameB; simp)
theorem ex_same7 (g c g2 d : Nat) (w : World) (h : IZ w (some ⟨g, 0, none⟩) [1, 2, 5, 13, 29, 34, 89]) (h2 : IZ w (some ⟨g2, 0, none⟩) [1, 2, 5, 13, 29, 34, 89]) : Calls Tryz.prog 20 #[.slice (some ⟨g, 0, none⟩) 7 c, .slice (some ⟨g2, 0, none⟩) 7 d] w (RetB w true) :=
  same_any _ _ c d 7 7 _ _ true w h h2 rfl rfl (by omega) (by omega) (by unfold sameB; simp)
theorem ex_lit4 (w : World) : IZ (w.alloc (Obj.cells #[.int .i64 1, .int .i64 2, .int .i64 3, .int .i64 4] 3)) (some ⟨w.heap.size, 0, none⟩) [1, 2, 3, 4] := izlit w [1, 2, 3, 4]
theorem ex_lit7 (w : World) : IZ (w.alloc (Obj.cells #[.int .i64 1, .int .i64 2, .int .i64 5, .int .i64 13, .int .i64 29, .int .i64 34, .int .i64 89] 3)) (some ⟨w.heap.size, 0, none⟩) [1, 2, 5, 13, 29, 34, 89] := izlit w [1, 2, 5, 13, 29, 34, 89]
set_option maxRecDepth 100000 in
set_option maxHeartbeats 6400000 in
theorem lives_any (w : World) : Calls Tryz.prog 7 #[] w (RetB w true) := by
  go_enter Tryz.func7, Tryz.ntmps7
  go_upto_region 6 with (first
    | (go_at_call 23; go_loud (with_reducible refine (ex_terms _).mono ?_); rintro e w1 ⟨g1, c1, rfl, hI, hb⟩; have hI1 := Lib.hid hI; have hb1 := Lib.hid hb; clear hI hb)
    | (go_at_call 24; go_loud (with_reducible refine (ex_near _).mono ?_); rintro e w2 ⟨rfl, hb⟩; have hb2 := Lib.hid hb; clear hb)
    | (go_at_call 8; go_loud (with_reducible refine (ex_pell _).mono ?_); rintro e w3 ⟨rfl, hb⟩; have hb3 := Lib.hid hb; clear hb)
    | (go_at_call 25; go_loud (with_reducible refine (ex_beats _).mono ?_); rintro e w4 ⟨rfl, hb⟩; have hb4 := Lib.hid hb; clear hb)
    | (go_at_call 26; go_loud (with_reducible refine (ex_markov _).mono ?_); rintro e w5 ⟨g5, c5, rfl, hI, hb⟩; have hI5 := Lib.hid hI; have hb5 := Lib.hid hb; clear hI hb))
  have hb25 := Lib.hid (bseqT hb2.out (bseqT hb3.out (bseqT hb4.out hb5.out)))
  have hI1' := Lib.hid (hI1.out.below hb25.out)
  have hb15 := Lib.hid (bseqT hb1.out hb25.out)
  clear hb1 hb2 hb3 hb4 hb5 hb25 hI1
  go_wp2_with (first
    | (go_at_call 20; go_loud (with_reducible refine (ex_same4 _ _ _ _ (w5.alloc _) (hI1'.out.below (below_al (Below.refl _ _) _)) (ex_lit4 _)).mono ?_); rintro e w6 ⟨rfl, hb⟩; have hb6 := Lib.hid (bseqT (below_al (Below.refl _ _) _) hb); clear hb)
    | (go_at_call 20; go_loud (with_reducible refine (ex_same7 _ _ _ _ (w6.alloc _) (hI5.out.below (bseqT hb6.out (below_al (Below.refl _ _) _))) (ex_lit7 _)).mono ?_); rintro e w7 ⟨rfl, hb⟩; have hb7 := Lib.hid (bseqT (below_al (Below.refl _ _) _) hb); clear hb))
  go_ret
  exact ⟨rfl, bseqT hb15.out (bseqT hb6.out hb7.out)⟩
end Go.Proofs.YtbehfhmdilifkaaGreat
