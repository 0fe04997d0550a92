/- ParseF ParseG ParseI -/
import Derived.Test.YtcaeonpjokkjnaaQWe
set_option linter.unusedVariables false
/- Walk of num.Parse: cases. (Printed by wip/tools/gen_parse.py.) -/
namespace Go.Proofs.Ytcaeonpjokkjnaa
open Go Go.RowKit Go.Proofs

set_option maxRecDepth 100000 in
set_option maxHeartbeats 16000000 in
theorem parse_b7 (s : ByteArray) (w : World) (hs : s.size ≤ 4611686018427387904) (hst : stroke s = true) (hb0 : readOK (bare s)) (hu0 : readOK (under s)) (h1 : 1 < pd s) (hmi : minus s = true) (hz : pn s ≠ 0) (hq : sq s = 0) :
    Calls Try.prog 73 #[.string s] w (ParsePost w s) := by
  have hR : Hid (Rg w.heap.size 4 (w.alloc (Obj.cells #[.bool false, .slice none 0 0, .bool false, .slice none 0 0] 70)) (w.alloc (Obj.cells #[.bool false, .slice none 0 0, .bool false, .slice none 0 0] 70))) := Rg.new4 _ _ _ rfl
  have hbl : Below w.heap.size w (w.alloc (Obj.cells #[.bool false, .slice none 0 0, .bool false, .slice none 0 0] 70)) := by go_grown
  have hblH := Lib.hid hbl
  clear hbl
  have hsb := Lib.hid (Nat.le_trans (bare_size s) hs)
  have hsu := Lib.hid (Nat.le_trans (under_size s) hs)
  have hcell := Lib.hid (show ∀ v : World, (v.alloc (Obj.cells #[Value.int IntKind.u32 1] 111)).cell? ⟨v.heap.size, 0, none⟩ = some (.int .u32 1) by intro v; simp [go_sem])
  have hstH := Lib.hid hst
  have hmiH := Lib.hid hmi
  have hLn := Lib.hid (L_pn hb0)
  have hLd := Lib.hid (L_pd hu0)
  have hLz := Lib.hid (LI_pz hb0)
  have hLg := Lib.hid (LI_gq hu0 h1)
  have hok : Hid (parseOK s) := ⟨hb0, fun _ => ⟨hu0, h1, (sq_eq s).1 hq⟩, (fun h => hz h.2)⟩
  have hpd : Hid (pden s = ((pd s : Nat) : Int)) := by show _ = _; unfold pden; rw [hst]; rfl
  have hc0 : cmpN (pd s) 1 = 1 := by unfold cmpN; rw [if_neg (by omega), if_neg (by omega)]
  have hbH := Lib.hid hb0
  have huH := Lib.hid hu0
  clear hb0 hu0 h1
  have hL0 := Lib.hid hz
  have hL : ¬ L B32 (pn s) = 0 := by rw [L_eq_zero two_le_B32]; exact hz
  have hL2 : ((L B32 (pn s) : Int) == 0) = false := by simp; exact hL
  clear hz hL
  clear hst hmi
  go_enter Try.func73, Try.ntmps73
  go_wp2_with (first
    | (go_at_call 85; (with_reducible refine (cut_b s _ _ hs hstH.out).mono ?_); rintro e w1 ⟨rfl, hb1⟩; have k1 := Lib.hid (Rg.step hR.out (by omega) hb1); have hl1 := Lib.hid (bseq hblH.out hb1))
    | (go_at_call 86; (with_reducible refine (prefix_b s _ _ hmiH.out).mono ?_); rintro e w2 ⟨rfl, rfl⟩)
    | (go_at_call 87; (with_reducible refine (read_bare s _ hbH.out).mono ?_); rintro e w3 ⟨a3, c3, rfl, hm3, hb3⟩; have k3 := Lib.hid (Rg.step k1.out (by omega) hb3); have hl3 := Lib.hid (bseq hl1.out hb3))
    | (go_at_call 87; (with_reducible refine (read_under s _ huH.out).mono ?_); rintro e w5 ⟨a5, c5, rfl, hm5, hb5⟩; have k5 := Lib.hid (Rg.via k3.out (by omega) hb5); have hl5 := Lib.hid (bvia hl3.out hb5))
    | (go_at_call 88; (with_reducible refine (compare_one a5 c5 (pd s) _ _ (hm5.up ((Below.refl _ _).alloc (Nat.le_refl _) _)) (by have := hLd.out; omega) (hcell.out _)).mono ?_); rintro e w7 ⟨rfl, hb7⟩; have k7 := Lib.hid (Rg.via k5.out (by omega) hb7); have hl7 := Lib.hid (bvia hl5.out hb7))
    | (go_at_call 78; (with_reducible refine (made_pz s _ hmiH.out a3 c3 _ (hm3.up (bvia (bvia (Below.refl _ _) hb5) hb7)) hLn.out).mono ?_); rintro e w8 ⟨a8, c8, rfl, hm8, hb8⟩; have k8 := Lib.hid (Rg.step k7.out (by omega) hb8); have hl8 := Lib.hid (bseq hl7.out hb8))
    | (go_at_call 78; (with_reducible refine (made_pd s a5 c5 _ ((hm5.up (bvia (Below.refl _ _) hb7)).up hb8) hLd.out).mono ?_); rintro e w9 ⟨a9, c9, rfl, hm9, hb9⟩; have k9 := Lib.hid (Rg.step k8.out (by omega) hb9); have hl9 := Lib.hid (bseq hl8.out hb9)))
  have hz9 : w.heap.size < w9.heap.size := World.block_lt_of_cell? w9 ⟨w.heap.size, 0, none⟩ (k9.out.2.1 0 (by omega))
  have hC : Hid (Cells4 (w9.alloc (Obj.cells #[.bool (ng (pz s)), .slice a8 (LI (pz s)) c8, .bool (ng ((pd s : Nat) : Int)), .slice a9 (LI ((pd s : Nat) : Int)) c9] 70)) w9.heap.size (.bool (ng (pz s))) (.slice a8 (LI (pz s)) c8) (.bool (ng ((pd s : Nat) : Int))) (.slice a9 (LI ((pd s : Nat) : Int)) c9)) := by show Cells4 _ _ _ _ _ _; refine ⟨?_, ?_, ?_, ?_⟩ <;> simp [go_sem]
  have hR9 : Hid (Rg w.heap.size 4 (w9.alloc (Obj.cells #[.bool (ng (pz s)), .slice a8 (LI (pz s)) c8, .bool (ng ((pd s : Nat) : Int)), .slice a9 (LI ((pd s : Nat) : Int)) c9] 70)) (w9.alloc (Obj.cells #[.bool (ng (pz s)), .slice a8 (LI (pz s)) c8, .bool (ng ((pd s : Nat) : Int)), .slice a9 (LI ((pd s : Nat) : Int)) c9] 70))) := Rg.re (k9.out.alloc (by omega) _)
  have hI1 : Hid (IM (w9.alloc (Obj.cells #[.bool (ng (pz s)), .slice a8 (LI (pz s)) c8, .bool (ng ((pd s : Nat) : Int)), .slice a9 (LI ((pd s : Nat) : Int)) c9] 70)) a8 c8 (pz s)) := (hm8.up hb9).up ((Below.refl _ _).alloc (Nat.le_refl _) _)
  have hI2 : Hid (IM (w9.alloc (Obj.cells #[.bool (ng (pz s)), .slice a8 (LI (pz s)) c8, .bool (ng ((pd s : Nat) : Int)), .slice a9 (LI ((pd s : Nat) : Int)) c9] 70)) a9 c9 ((pd s : Nat) : Int)) := hm9.up ((Below.refl _ _).alloc (Nat.le_refl _) _)
  have hlW : Hid (Below w.heap.size w (w9.alloc (Obj.cells #[.bool (ng (pz s)), .slice a8 (LI (pz s)) c8, .bool (ng ((pd s : Nat) : Int)), .slice a9 (LI ((pd s : Nat) : Int)) c9] 70))) := hl9.out.alloc hl9.out.size _
  obtain ⟨W, hW⟩ : ∃ W, W = w9.alloc (Obj.cells #[.bool (ng (pz s)), .slice a8 (LI (pz s)) c8, .bool (ng ((pd s : Nat) : Int)), .slice a9 (LI ((pd s : Nat) : Int)) c9] 70) := ⟨_, rfl⟩
  rw [← hW]
  rw [← hW] at hC hR9 hI1 hI2 hlW
  have hWH := Lib.hid hW
  obtain ⟨B, hB⟩ : ∃ B, B = w9.heap.size := ⟨_, rfl⟩
  rw [← hB] at hz9 hC
  rw [← hB]
  clear hW hB hWH hm8 hm9 hb9 hm3 hb3 hb8 k8 k3 k1 hl8 hl3 hl1 k9 hl9 hb1 hR hblH hsb hsu hcell hbH hm5 hb5 hb7 k5 k7 hl5 hl7 huH
  have hNB : w.heap.size ≠ B := Nat.ne_of_lt hz9
  obtain ⟨_, r2, r3, _, _⟩ := hR9.out
  have hRd := Lib.hid hR9.out.drew
  have h04 := Lib.hid (show (0 : Nat) < 4 by omega)
  go_region_held3 (fun w' => Rx w.heap.size B (.bool (ng (pz s))) (.slice a8 (LI (pz s)) c8) (.bool (ng ((pd s : Nat) : Int))) (.slice a9 (LI ((pd s : Nat) : Int)) c9) W w')
    (first | (with_reducible exact Rx.drew hC.out hR9.out) | (with_reducible exact Rx.step (by assumption) (by assumption)) | (with_reducible exact Rx.set4 (by assumption) hNB _ _ _ _ _ _ _ _))
    (first
      | (go_at_call 89; (with_reducible refine (gcd_parse s a8 a9 c8 c9 _ (by assumption) hI1.out hI2.out hLz.out hLd.out).mono ?_); rintro e w10 ⟨a10, c10, rfl, hm10, hb10⟩; (try obtain ⟨_, p2, p3, _, _⟩ := (show Rg w.heap.size 4 W w10 by ((repeat (first | (with_reducible exact hRd.out) | (with_reducible refine Rg.step ?_ h04.out (by assumption)))) <;> fail))))
      | (go_at_call 60; (with_reducible refine (of_one _).mono ?_); rintro e w11 ⟨a11, c11, rfl, hm11, hb11⟩; (try obtain ⟨_, q2, q3, _, _⟩ := (show Rg w.heap.size 4 W w11 by ((repeat (first | (with_reducible exact hRd.out) | (with_reducible refine Rg.step ?_ h04.out (by assumption)))) <;> fail))))
      | (go_at_call 72; (with_reducible refine (cmp_parse s a10 a11 c10 c11 _ (by (repeat (first | (with_reducible exact hm10) | (with_reducible refine IM.set4 ?_ (Rg.noInt (W := W) (n := 4) ?_) _ _ _ _ _ _ _ _) | (with_reducible refine IM.upb ?_ (by assumption)) | (with_reducible exact hRd.out) | (with_reducible refine Rg.step ?_ h04.out (by assumption))))) (by (repeat (first | (with_reducible exact hm11) | (with_reducible refine IM.set4 ?_ (Rg.noInt (W := W) (n := 4) ?_) _ _ _ _ _ _ _ _) | (with_reducible refine IM.upb ?_ (by assumption)) | (with_reducible exact hRd.out) | (with_reducible refine Rg.step ?_ h04.out (by assumption))))) hLg.out).mono ?_); rintro e w12 ⟨rfl, hb12⟩; (try obtain ⟨_, s2, s3, _, _⟩ := (show Rg w.heap.size 4 W w12 by ((repeat (first | (with_reducible exact hRd.out) | (with_reducible refine Rg.step ?_ h04.out (by assumption)))) <;> fail))); (try (refine (show Hid (Cells4 w12 w.heap.size (.bool (ng (pz s))) (.slice a8 (LI (pz s)) c8) (.bool (ng ((pd s : Nat) : Int))) (.slice a9 (LI ((pd s : Nat) : Int)) c9)) → _ from fun hst4 => ?_) (Cells4.up ?_ hb12); rotate_left; focus ((repeat (first | (with_reducible refine Cells4.set (W := W) ?_ _ _ _ _) | (with_reducible refine Cells4.up ?_ (by assumption)) | (with_reducible exact hRd.out) | (with_reducible refine Rg.step ?_ h04.out (by assumption)))) <;> fail)))))
  all_goals go_wp2_with (fail)
  all_goals (have hX := (by assumption : Rx w.heap.size B (.bool (ng (pz s))) (.slice a8 (LI (pz s)) c8) (.bool (ng ((pd s : Nat) : Int))) (.slice a9 (LI ((pd s : Nat) : Int)) c9) W _))
  all_goals (obtain ⟨_, hKM, g1, g2, g3, g5, g4⟩ := hX)
  all_goals first
    | (revert hst4; intro hst4; refine bodyPost_ret (v := .tuple #[.agg #[.bool (ng (pz s)), .slice a8 (LI (pz s)) c8, .bool (ng ((pd s : Nat) : Int)), .slice a9 (LI ((pd s : Nat) : Int)) c9], .bool true]) (by simp [results, Try.results73, go_sem, hst4.out.1, hst4.out.2.1, hst4.out.2.2.1, hst4.out.2.2.2]) rfl ?_)
    | refine bodyPost_ret (v := .tuple #[.agg #[.bool (ng (pz s)), .slice a8 (LI (pz s)) c8, .bool (ng ((pd s : Nat) : Int)), .slice a9 (LI ((pd s : Nat) : Int)) c9], .bool true]) (by simp [results, Try.results73, go_sem, s2]) rfl ?_
  all_goals exact ParsePost.good hok.out hpd.out (hKM _ _ _ hI1.out) (hKM _ _ _ hI2.out) (hlW.out.trans g4)

end Go.Proofs.Ytcaeonpjokkjnaa

/- Walk of num.Parse: cases. (Printed by wip/tools/gen_parse.py.) -/
namespace Go.Proofs.Ytcaeonpjokkjnaa
open Go Go.RowKit Go.Proofs

set_option maxRecDepth 100000 in
set_option maxHeartbeats 16000000 in
theorem parse_b8 (s : ByteArray) (w : World) (hs : s.size ≤ 4611686018427387904) (hst : stroke s = true) (hb0 : readOK (bare s)) (hu0 : readOK (under s)) (h1 : 1 < pd s) (hmi : minus s = false) (hq : sq s ≠ 0) :
    Calls Try.prog 73 #[.string s] w (ParsePost w s) := by
  have hR : Hid (Rg w.heap.size 4 (w.alloc (Obj.cells #[.bool false, .slice none 0 0, .bool false, .slice none 0 0] 70)) (w.alloc (Obj.cells #[.bool false, .slice none 0 0, .bool false, .slice none 0 0] 70))) := Rg.new4 _ _ _ rfl
  have hbl : Below w.heap.size w (w.alloc (Obj.cells #[.bool false, .slice none 0 0, .bool false, .slice none 0 0] 70)) := by go_grown
  have hblH := Lib.hid hbl
  clear hbl
  have hsb := Lib.hid (Nat.le_trans (bare_size s) hs)
  have hsu := Lib.hid (Nat.le_trans (under_size s) hs)
  have hcell := Lib.hid (show ∀ v : World, (v.alloc (Obj.cells #[Value.int IntKind.u32 1] 111)).cell? ⟨v.heap.size, 0, none⟩ = some (.int .u32 1) by intro v; simp [go_sem])
  have hstH := Lib.hid hst
  have hmiH := Lib.hid hmi
  have hLn := Lib.hid (L_pn hb0)
  have hLd := Lib.hid (L_pd hu0)
  have hLz := Lib.hid (LI_pz hb0)
  have hLg := Lib.hid (LI_gq hu0 h1)
  have hno : Hid (¬ parseOK s) := fun h => hq ((sq_eq s).2 (h.2.1 hst).2.2)
  have hq2 : (sq s == 0) = false := by simp; exact hq
  have hc0 : cmpN (pd s) 1 = 1 := by unfold cmpN; rw [if_neg (by omega), if_neg (by omega)]
  have hbH := Lib.hid hb0
  have huH := Lib.hid hu0
  clear hb0 hu0 h1
  clear hq
  clear hst hmi
  go_enter Try.func73, Try.ntmps73
  go_wp2_with (first
    | (go_at_call 85; (with_reducible refine (cut_b s _ _ hs hstH.out).mono ?_); rintro e w1 ⟨rfl, hb1⟩; have k1 := Lib.hid (Rg.step hR.out (by omega) hb1); have hl1 := Lib.hid (bseq hblH.out hb1))
    | (go_at_call 86; (with_reducible refine (prefix_b s _ _ hmiH.out).mono ?_); rintro e w2 ⟨rfl, rfl⟩)
    | (go_at_call 87; (with_reducible refine (read_bare s _ hbH.out).mono ?_); rintro e w3 ⟨a3, c3, rfl, hm3, hb3⟩; have k3 := Lib.hid (Rg.step k1.out (by omega) hb3); have hl3 := Lib.hid (bseq hl1.out hb3))
    | (go_at_call 87; (with_reducible refine (read_under s _ huH.out).mono ?_); rintro e w5 ⟨a5, c5, rfl, hm5, hb5⟩; have k5 := Lib.hid (Rg.via k3.out (by omega) hb5); have hl5 := Lib.hid (bvia hl3.out hb5))
    | (go_at_call 88; (with_reducible refine (compare_one a5 c5 (pd s) _ _ (hm5.up ((Below.refl _ _).alloc (Nat.le_refl _) _)) (by have := hLd.out; omega) (hcell.out _)).mono ?_); rintro e w7 ⟨rfl, hb7⟩; have k7 := Lib.hid (Rg.via k5.out (by omega) hb7); have hl7 := Lib.hid (bvia hl5.out hb7))
    | (go_at_call 78; (with_reducible refine (made_pz s _ hmiH.out a3 c3 _ (hm3.up (bvia (bvia (Below.refl _ _) hb5) hb7)) hLn.out).mono ?_); rintro e w8 ⟨a8, c8, rfl, hm8, hb8⟩; have k8 := Lib.hid (Rg.step k7.out (by omega) hb8); have hl8 := Lib.hid (bseq hl7.out hb8))
    | (go_at_call 78; (with_reducible refine (made_pd s a5 c5 _ ((hm5.up (bvia (Below.refl _ _) hb7)).up hb8) hLd.out).mono ?_); rintro e w9 ⟨a9, c9, rfl, hm9, hb9⟩; have k9 := Lib.hid (Rg.step k8.out (by omega) hb9); have hl9 := Lib.hid (bseq hl8.out hb9)))
  have hz9 : w.heap.size < w9.heap.size := World.block_lt_of_cell? w9 ⟨w.heap.size, 0, none⟩ (k9.out.2.1 0 (by omega))
  have hC : Hid (Cells4 (w9.alloc (Obj.cells #[.bool (ng (pz s)), .slice a8 (LI (pz s)) c8, .bool (ng ((pd s : Nat) : Int)), .slice a9 (LI ((pd s : Nat) : Int)) c9] 70)) w9.heap.size (.bool (ng (pz s))) (.slice a8 (LI (pz s)) c8) (.bool (ng ((pd s : Nat) : Int))) (.slice a9 (LI ((pd s : Nat) : Int)) c9)) := by show Cells4 _ _ _ _ _ _; refine ⟨?_, ?_, ?_, ?_⟩ <;> simp [go_sem]
  have hR9 : Hid (Rg w.heap.size 4 (w9.alloc (Obj.cells #[.bool (ng (pz s)), .slice a8 (LI (pz s)) c8, .bool (ng ((pd s : Nat) : Int)), .slice a9 (LI ((pd s : Nat) : Int)) c9] 70)) (w9.alloc (Obj.cells #[.bool (ng (pz s)), .slice a8 (LI (pz s)) c8, .bool (ng ((pd s : Nat) : Int)), .slice a9 (LI ((pd s : Nat) : Int)) c9] 70))) := Rg.re (k9.out.alloc (by omega) _)
  have hI1 : Hid (IM (w9.alloc (Obj.cells #[.bool (ng (pz s)), .slice a8 (LI (pz s)) c8, .bool (ng ((pd s : Nat) : Int)), .slice a9 (LI ((pd s : Nat) : Int)) c9] 70)) a8 c8 (pz s)) := (hm8.up hb9).up ((Below.refl _ _).alloc (Nat.le_refl _) _)
  have hI2 : Hid (IM (w9.alloc (Obj.cells #[.bool (ng (pz s)), .slice a8 (LI (pz s)) c8, .bool (ng ((pd s : Nat) : Int)), .slice a9 (LI ((pd s : Nat) : Int)) c9] 70)) a9 c9 ((pd s : Nat) : Int)) := hm9.up ((Below.refl _ _).alloc (Nat.le_refl _) _)
  have hlW : Hid (Below w.heap.size w (w9.alloc (Obj.cells #[.bool (ng (pz s)), .slice a8 (LI (pz s)) c8, .bool (ng ((pd s : Nat) : Int)), .slice a9 (LI ((pd s : Nat) : Int)) c9] 70))) := hl9.out.alloc hl9.out.size _
  obtain ⟨W, hW⟩ : ∃ W, W = w9.alloc (Obj.cells #[.bool (ng (pz s)), .slice a8 (LI (pz s)) c8, .bool (ng ((pd s : Nat) : Int)), .slice a9 (LI ((pd s : Nat) : Int)) c9] 70) := ⟨_, rfl⟩
  rw [← hW]
  rw [← hW] at hC hR9 hI1 hI2 hlW
  have hWH := Lib.hid hW
  obtain ⟨B, hB⟩ : ∃ B, B = w9.heap.size := ⟨_, rfl⟩
  rw [← hB] at hz9 hC
  rw [← hB]
  clear hW hB hWH hm8 hm9 hb9 hm3 hb3 hb8 k8 k3 k1 hl8 hl3 hl1 k9 hl9 hb1 hR hblH hsb hsu hcell hbH hm5 hb5 hb7 k5 k7 hl5 hl7 huH
  have hNB : w.heap.size ≠ B := Nat.ne_of_lt hz9
  obtain ⟨_, r2, r3, _, _⟩ := hR9.out
  have hRd := Lib.hid hR9.out.drew
  have h04 := Lib.hid (show (0 : Nat) < 4 by omega)
  go_region_held3 (fun w' => Rx w.heap.size B (.bool (ng (pz s))) (.slice a8 (LI (pz s)) c8) (.bool (ng ((pd s : Nat) : Int))) (.slice a9 (LI ((pd s : Nat) : Int)) c9) W w')
    (first | (with_reducible exact Rx.drew hC.out hR9.out) | (with_reducible exact Rx.step (by assumption) (by assumption)) | (with_reducible exact Rx.set4 (by assumption) hNB _ _ _ _ _ _ _ _))
    (first
      | (go_at_call 89; (with_reducible refine (gcd_parse s a8 a9 c8 c9 _ (by assumption) hI1.out hI2.out hLz.out hLd.out).mono ?_); rintro e w10 ⟨a10, c10, rfl, hm10, hb10⟩; (try obtain ⟨_, p2, p3, _, _⟩ := (show Rg w.heap.size 4 W w10 by ((repeat (first | (with_reducible exact hRd.out) | (with_reducible refine Rg.step ?_ h04.out (by assumption)))) <;> fail))))
      | (go_at_call 60; (with_reducible refine (of_one _).mono ?_); rintro e w11 ⟨a11, c11, rfl, hm11, hb11⟩; (try obtain ⟨_, q2, q3, _, _⟩ := (show Rg w.heap.size 4 W w11 by ((repeat (first | (with_reducible exact hRd.out) | (with_reducible refine Rg.step ?_ h04.out (by assumption)))) <;> fail))))
      | (go_at_call 72; (with_reducible refine (cmp_parse s a10 a11 c10 c11 _ (by (repeat (first | (with_reducible exact hm10) | (with_reducible refine IM.set4 ?_ (Rg.noInt (W := W) (n := 4) ?_) _ _ _ _ _ _ _ _) | (with_reducible refine IM.upb ?_ (by assumption)) | (with_reducible exact hRd.out) | (with_reducible refine Rg.step ?_ h04.out (by assumption))))) (by (repeat (first | (with_reducible exact hm11) | (with_reducible refine IM.set4 ?_ (Rg.noInt (W := W) (n := 4) ?_) _ _ _ _ _ _ _ _) | (with_reducible refine IM.upb ?_ (by assumption)) | (with_reducible exact hRd.out) | (with_reducible refine Rg.step ?_ h04.out (by assumption))))) hLg.out).mono ?_); rintro e w12 ⟨rfl, hb12⟩; (try obtain ⟨_, s2, s3, _, _⟩ := (show Rg w.heap.size 4 W w12 by ((repeat (first | (with_reducible exact hRd.out) | (with_reducible refine Rg.step ?_ h04.out (by assumption)))) <;> fail))); (try (refine (show Hid (Cells4 w12 w.heap.size (.bool (ng (pz s))) (.slice a8 (LI (pz s)) c8) (.bool (ng ((pd s : Nat) : Int))) (.slice a9 (LI ((pd s : Nat) : Int)) c9)) → _ from fun hst4 => ?_) (Cells4.up ?_ hb12); rotate_left; focus ((repeat (first | (with_reducible refine Cells4.set (W := W) ?_ _ _ _ _) | (with_reducible refine Cells4.up ?_ (by assumption)) | (with_reducible exact hRd.out) | (with_reducible refine Rg.step ?_ h04.out (by assumption)))) <;> fail)))))
  all_goals go_wp2_with (fail)
  all_goals (have hX := (by assumption : Rx w.heap.size B (.bool (ng (pz s))) (.slice a8 (LI (pz s)) c8) (.bool (ng ((pd s : Nat) : Int))) (.slice a9 (LI ((pd s : Nat) : Int)) c9) W _))
  all_goals (obtain ⟨_, hKM, g1, g2, g3, g5, g4⟩ := hX)
  all_goals first
    | (revert hst4; intro hst4; refine bodyPost_ret (v := .tuple #[.agg #[.bool (ng (pz s)), .slice a8 (LI (pz s)) c8, .bool (ng ((pd s : Nat) : Int)), .slice a9 (LI ((pd s : Nat) : Int)) c9], .bool false]) (by simp [results, Try.results73, go_sem, hst4.out.1, hst4.out.2.1, hst4.out.2.2.1, hst4.out.2.2.2]) rfl ?_)
    | refine bodyPost_ret (v := .tuple #[.agg #[.bool (ng (pz s)), .slice a8 (LI (pz s)) c8, .bool (ng ((pd s : Nat) : Int)), .slice a9 (LI ((pd s : Nat) : Int)) c9], .bool false]) (by simp [results, Try.results73, go_sem, s2]) rfl ?_
  all_goals exact ParsePost.bad hno.out (hlW.out.trans g4)

end Go.Proofs.Ytcaeonpjokkjnaa

/- Walk of num.Parse: cases. (Printed by wip/tools/gen_parse.py.) -/
namespace Go.Proofs.Ytcaeonpjokkjnaa
open Go Go.RowKit Go.Proofs

set_option maxRecDepth 100000 in
set_option maxHeartbeats 16000000 in
theorem parse_b9 (s : ByteArray) (w : World) (hs : s.size ≤ 4611686018427387904) (hst : stroke s = true) (hb0 : readOK (bare s)) (hu0 : readOK (under s)) (h1 : 1 < pd s) (hmi : minus s = false) (hq : sq s = 0) :
    Calls Try.prog 73 #[.string s] w (ParsePost w s) := by
  have hR : Hid (Rg w.heap.size 4 (w.alloc (Obj.cells #[.bool false, .slice none 0 0, .bool false, .slice none 0 0] 70)) (w.alloc (Obj.cells #[.bool false, .slice none 0 0, .bool false, .slice none 0 0] 70))) := Rg.new4 _ _ _ rfl
  have hbl : Below w.heap.size w (w.alloc (Obj.cells #[.bool false, .slice none 0 0, .bool false, .slice none 0 0] 70)) := by go_grown
  have hblH := Lib.hid hbl
  clear hbl
  have hsb := Lib.hid (Nat.le_trans (bare_size s) hs)
  have hsu := Lib.hid (Nat.le_trans (under_size s) hs)
  have hcell := Lib.hid (show ∀ v : World, (v.alloc (Obj.cells #[Value.int IntKind.u32 1] 111)).cell? ⟨v.heap.size, 0, none⟩ = some (.int .u32 1) by intro v; simp [go_sem])
  have hstH := Lib.hid hst
  have hmiH := Lib.hid hmi
  have hLn := Lib.hid (L_pn hb0)
  have hLd := Lib.hid (L_pd hu0)
  have hLz := Lib.hid (LI_pz hb0)
  have hLg := Lib.hid (LI_gq hu0 h1)
  have hok : Hid (parseOK s) := ⟨hb0, fun _ => ⟨hu0, h1, (sq_eq s).1 hq⟩, (fun h => by rw [hmi] at h; cases h.1)⟩
  have hpd : Hid (pden s = ((pd s : Nat) : Int)) := by show _ = _; unfold pden; rw [hst]; rfl
  have hc0 : cmpN (pd s) 1 = 1 := by unfold cmpN; rw [if_neg (by omega), if_neg (by omega)]
  have hbH := Lib.hid hb0
  have huH := Lib.hid hu0
  clear hb0 hu0 h1
  clear hst hmi
  go_enter Try.func73, Try.ntmps73
  go_wp2_with (first
    | (go_at_call 85; (with_reducible refine (cut_b s _ _ hs hstH.out).mono ?_); rintro e w1 ⟨rfl, hb1⟩; have k1 := Lib.hid (Rg.step hR.out (by omega) hb1); have hl1 := Lib.hid (bseq hblH.out hb1))
    | (go_at_call 86; (with_reducible refine (prefix_b s _ _ hmiH.out).mono ?_); rintro e w2 ⟨rfl, rfl⟩)
    | (go_at_call 87; (with_reducible refine (read_bare s _ hbH.out).mono ?_); rintro e w3 ⟨a3, c3, rfl, hm3, hb3⟩; have k3 := Lib.hid (Rg.step k1.out (by omega) hb3); have hl3 := Lib.hid (bseq hl1.out hb3))
    | (go_at_call 87; (with_reducible refine (read_under s _ huH.out).mono ?_); rintro e w5 ⟨a5, c5, rfl, hm5, hb5⟩; have k5 := Lib.hid (Rg.via k3.out (by omega) hb5); have hl5 := Lib.hid (bvia hl3.out hb5))
    | (go_at_call 88; (with_reducible refine (compare_one a5 c5 (pd s) _ _ (hm5.up ((Below.refl _ _).alloc (Nat.le_refl _) _)) (by have := hLd.out; omega) (hcell.out _)).mono ?_); rintro e w7 ⟨rfl, hb7⟩; have k7 := Lib.hid (Rg.via k5.out (by omega) hb7); have hl7 := Lib.hid (bvia hl5.out hb7))
    | (go_at_call 78; (with_reducible refine (made_pz s _ hmiH.out a3 c3 _ (hm3.up (bvia (bvia (Below.refl _ _) hb5) hb7)) hLn.out).mono ?_); rintro e w8 ⟨a8, c8, rfl, hm8, hb8⟩; have k8 := Lib.hid (Rg.step k7.out (by omega) hb8); have hl8 := Lib.hid (bseq hl7.out hb8))
    | (go_at_call 78; (with_reducible refine (made_pd s a5 c5 _ ((hm5.up (bvia (Below.refl _ _) hb7)).up hb8) hLd.out).mono ?_); rintro e w9 ⟨a9, c9, rfl, hm9, hb9⟩; have k9 := Lib.hid (Rg.step k8.out (by omega) hb9); have hl9 := Lib.hid (bseq hl8.out hb9)))
  have hz9 : w.heap.size < w9.heap.size := World.block_lt_of_cell? w9 ⟨w.heap.size, 0, none⟩ (k9.out.2.1 0 (by omega))
  have hC : Hid (Cells4 (w9.alloc (Obj.cells #[.bool (ng (pz s)), .slice a8 (LI (pz s)) c8, .bool (ng ((pd s : Nat) : Int)), .slice a9 (LI ((pd s : Nat) : Int)) c9] 70)) w9.heap.size (.bool (ng (pz s))) (.slice a8 (LI (pz s)) c8) (.bool (ng ((pd s : Nat) : Int))) (.slice a9 (LI ((pd s : Nat) : Int)) c9)) := by show Cells4 _ _ _ _ _ _; refine ⟨?_, ?_, ?_, ?_⟩ <;> simp [go_sem]
  have hR9 : Hid (Rg w.heap.size 4 (w9.alloc (Obj.cells #[.bool (ng (pz s)), .slice a8 (LI (pz s)) c8, .bool (ng ((pd s : Nat) : Int)), .slice a9 (LI ((pd s : Nat) : Int)) c9] 70)) (w9.alloc (Obj.cells #[.bool (ng (pz s)), .slice a8 (LI (pz s)) c8, .bool (ng ((pd s : Nat) : Int)), .slice a9 (LI ((pd s : Nat) : Int)) c9] 70))) := Rg.re (k9.out.alloc (by omega) _)
  have hI1 : Hid (IM (w9.alloc (Obj.cells #[.bool (ng (pz s)), .slice a8 (LI (pz s)) c8, .bool (ng ((pd s : Nat) : Int)), .slice a9 (LI ((pd s : Nat) : Int)) c9] 70)) a8 c8 (pz s)) := (hm8.up hb9).up ((Below.refl _ _).alloc (Nat.le_refl _) _)
  have hI2 : Hid (IM (w9.alloc (Obj.cells #[.bool (ng (pz s)), .slice a8 (LI (pz s)) c8, .bool (ng ((pd s : Nat) : Int)), .slice a9 (LI ((pd s : Nat) : Int)) c9] 70)) a9 c9 ((pd s : Nat) : Int)) := hm9.up ((Below.refl _ _).alloc (Nat.le_refl _) _)
  have hlW : Hid (Below w.heap.size w (w9.alloc (Obj.cells #[.bool (ng (pz s)), .slice a8 (LI (pz s)) c8, .bool (ng ((pd s : Nat) : Int)), .slice a9 (LI ((pd s : Nat) : Int)) c9] 70))) := hl9.out.alloc hl9.out.size _
  obtain ⟨W, hW⟩ : ∃ W, W = w9.alloc (Obj.cells #[.bool (ng (pz s)), .slice a8 (LI (pz s)) c8, .bool (ng ((pd s : Nat) : Int)), .slice a9 (LI ((pd s : Nat) : Int)) c9] 70) := ⟨_, rfl⟩
  rw [← hW]
  rw [← hW] at hC hR9 hI1 hI2 hlW
  have hWH := Lib.hid hW
  obtain ⟨B, hB⟩ : ∃ B, B = w9.heap.size := ⟨_, rfl⟩
  rw [← hB] at hz9 hC
  rw [← hB]
  clear hW hB hWH hm8 hm9 hb9 hm3 hb3 hb8 k8 k3 k1 hl8 hl3 hl1 k9 hl9 hb1 hR hblH hsb hsu hcell hbH hm5 hb5 hb7 k5 k7 hl5 hl7 huH
  have hNB : w.heap.size ≠ B := Nat.ne_of_lt hz9
  obtain ⟨_, r2, r3, _, _⟩ := hR9.out
  have hRd := Lib.hid hR9.out.drew
  have h04 := Lib.hid (show (0 : Nat) < 4 by omega)
  go_region_held3 (fun w' => Rx w.heap.size B (.bool (ng (pz s))) (.slice a8 (LI (pz s)) c8) (.bool (ng ((pd s : Nat) : Int))) (.slice a9 (LI ((pd s : Nat) : Int)) c9) W w')
    (first | (with_reducible exact Rx.drew hC.out hR9.out) | (with_reducible exact Rx.step (by assumption) (by assumption)) | (with_reducible exact Rx.set4 (by assumption) hNB _ _ _ _ _ _ _ _))
    (first
      | (go_at_call 89; (with_reducible refine (gcd_parse s a8 a9 c8 c9 _ (by assumption) hI1.out hI2.out hLz.out hLd.out).mono ?_); rintro e w10 ⟨a10, c10, rfl, hm10, hb10⟩; (try obtain ⟨_, p2, p3, _, _⟩ := (show Rg w.heap.size 4 W w10 by ((repeat (first | (with_reducible exact hRd.out) | (with_reducible refine Rg.step ?_ h04.out (by assumption)))) <;> fail))))
      | (go_at_call 60; (with_reducible refine (of_one _).mono ?_); rintro e w11 ⟨a11, c11, rfl, hm11, hb11⟩; (try obtain ⟨_, q2, q3, _, _⟩ := (show Rg w.heap.size 4 W w11 by ((repeat (first | (with_reducible exact hRd.out) | (with_reducible refine Rg.step ?_ h04.out (by assumption)))) <;> fail))))
      | (go_at_call 72; (with_reducible refine (cmp_parse s a10 a11 c10 c11 _ (by (repeat (first | (with_reducible exact hm10) | (with_reducible refine IM.set4 ?_ (Rg.noInt (W := W) (n := 4) ?_) _ _ _ _ _ _ _ _) | (with_reducible refine IM.upb ?_ (by assumption)) | (with_reducible exact hRd.out) | (with_reducible refine Rg.step ?_ h04.out (by assumption))))) (by (repeat (first | (with_reducible exact hm11) | (with_reducible refine IM.set4 ?_ (Rg.noInt (W := W) (n := 4) ?_) _ _ _ _ _ _ _ _) | (with_reducible refine IM.upb ?_ (by assumption)) | (with_reducible exact hRd.out) | (with_reducible refine Rg.step ?_ h04.out (by assumption))))) hLg.out).mono ?_); rintro e w12 ⟨rfl, hb12⟩; (try obtain ⟨_, s2, s3, _, _⟩ := (show Rg w.heap.size 4 W w12 by ((repeat (first | (with_reducible exact hRd.out) | (with_reducible refine Rg.step ?_ h04.out (by assumption)))) <;> fail))); (try (refine (show Hid (Cells4 w12 w.heap.size (.bool (ng (pz s))) (.slice a8 (LI (pz s)) c8) (.bool (ng ((pd s : Nat) : Int))) (.slice a9 (LI ((pd s : Nat) : Int)) c9)) → _ from fun hst4 => ?_) (Cells4.up ?_ hb12); rotate_left; focus ((repeat (first | (with_reducible refine Cells4.set (W := W) ?_ _ _ _ _) | (with_reducible refine Cells4.up ?_ (by assumption)) | (with_reducible exact hRd.out) | (with_reducible refine Rg.step ?_ h04.out (by assumption)))) <;> fail)))))
  all_goals go_wp2_with (fail)
  all_goals (have hX := (by assumption : Rx w.heap.size B (.bool (ng (pz s))) (.slice a8 (LI (pz s)) c8) (.bool (ng ((pd s : Nat) : Int))) (.slice a9 (LI ((pd s : Nat) : Int)) c9) W _))
  all_goals (obtain ⟨_, hKM, g1, g2, g3, g5, g4⟩ := hX)
  all_goals first
    | (revert hst4; intro hst4; refine bodyPost_ret (v := .tuple #[.agg #[.bool (ng (pz s)), .slice a8 (LI (pz s)) c8, .bool (ng ((pd s : Nat) : Int)), .slice a9 (LI ((pd s : Nat) : Int)) c9], .bool true]) (by simp [results, Try.results73, go_sem, hst4.out.1, hst4.out.2.1, hst4.out.2.2.1, hst4.out.2.2.2]) rfl ?_)
    | refine bodyPost_ret (v := .tuple #[.agg #[.bool (ng (pz s)), .slice a8 (LI (pz s)) c8, .bool (ng ((pd s : Nat) : Int)), .slice a9 (LI ((pd s : Nat) : Int)) c9], .bool true]) (by simp [results, Try.results73, go_sem, s2]) rfl ?_
  all_goals exact ParsePost.good hok.out hpd.out (hKM _ _ _ hI1.out) (hKM _ _ _ hI2.out) (hlW.out.trans g4)

end Go.Proofs.Ytcaeonpjokkjnaa
