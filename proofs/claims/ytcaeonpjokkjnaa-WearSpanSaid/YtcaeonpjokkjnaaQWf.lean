/- ParseA ParseB -/
import Derived.Test.YtcaeonpjokkjnaaQWe
set_option linter.unusedVariables false
/- Walk of num.Parse: cases. (Printed by wip/tools/gen_parse.py.) -/
namespace Go.Proofs.Ytcaeonpjokkjnaa
open Go Go.RowKit Go.Proofs

set_option maxRecDepth 100000 in
set_option maxHeartbeats 1600000 in
theorem parse_a1 (s : ByteArray) (w : World) (hs : s.size ≤ 4611686018427387904) (hst : stroke s = false) (hb0 : ¬ readOK (bare s)) :
    Calls Try.prog 73 #[.string s] w (ParsePost w s) := by
  have hR : Hid (Rg w.heap.size 4 (w.alloc (Obj.cells #[.bool false, .slice none 0 0, .bool false, .slice none 0 0] 70)) (w.alloc (Obj.cells #[.bool false, .slice none 0 0, .bool false, .slice none 0 0] 70))) := Rg.new4 _ _ _ rfl
  have hbl : Below w.heap.size w (w.alloc (Obj.cells #[.bool false, .slice none 0 0, .bool false, .slice none 0 0] 70)) := by go_grown
  have hblH := Lib.hid hbl
  clear hbl
  have hsb := Lib.hid (Nat.le_trans (bare_size s) hs)
  have hsu := Lib.hid (Nat.le_trans (under_size s) hs)
  have hcell := Lib.hid (show ∀ v : World, (v.alloc (Obj.cells #[Value.int IntKind.u32 1] 111)).cell? ⟨v.heap.size, 0, none⟩ = some (.int .u32 1) by intro v; simp [go_sem])
  have hstH := Lib.hid hst
  have hbH := Lib.hid hb0
  clear hb0
  have hno : Hid (¬ parseOK s) := fun h => hbH.out h.1
  clear hst
  go_enter Try.func73, Try.ntmps73
  go_wp2_with (first
    | (go_at_call 85; (with_reducible refine (cut_b s _ _ hs hstH.out).mono ?_); rintro e w1 ⟨rfl, hb1⟩; have k1 := Lib.hid (Rg.step hR.out (by omega) hb1); have hl1 := Lib.hid (bseq hblH.out hb1))
    | (go_at_call 86; (with_reducible refine (prefix_b s (minus s) _ rfl).mono ?_); rintro e w2 ⟨rfl, rfl⟩)
    | (go_at_call 87; (with_reducible refine (read_bad (bare s) _ hbH.out hsb.out).mono ?_); rintro e w3 ⟨rfl, hb3⟩; have k3 := Lib.hid (Rg.step k1.out (by omega) hb3); have hl3 := Lib.hid (bseq hl1.out hb3); obtain ⟨_, g2, g3, _, _⟩ := k3.out; obtain ⟨_, g2b, g3b, g5, g4⟩ := Rg.alloc k3.out (by omega) (Obj.cells #[Value.int IntKind.u32 1] 111)))
  have hfl := Lib.hid (hl3.out.alloc hl3.out.size (Obj.cells #[Value.int IntKind.u32 1] 111))
  refine bodyPost_ret (v := .tuple #[.agg #[.bool false, .slice none 0 0, .bool false, .slice none 0 0], .bool false]) (by simp [results, Try.results73, go_sem, g2b]) rfl ?_
  exact ParsePost.bad hno.out (below_set4 hfl.out (Nat.le_refl _) _ _ _ _)

set_option maxRecDepth 100000 in
set_option maxHeartbeats 1600000 in
theorem parse_a2 (s : ByteArray) (w : World) (hs : s.size ≤ 4611686018427387904) (hst : stroke s = false) (hb0 : readOK (bare s)) (hmi : minus s = true) (hz : pn s = 0) :
    Calls Try.prog 73 #[.string s] w (ParsePost w s) := by
  have hR : Hid (Rg w.heap.size 4 (w.alloc (Obj.cells #[.bool false, .slice none 0 0, .bool false, .slice none 0 0] 70)) (w.alloc (Obj.cells #[.bool false, .slice none 0 0, .bool false, .slice none 0 0] 70))) := Rg.new4 _ _ _ rfl
  have hbl : Below w.heap.size w (w.alloc (Obj.cells #[.bool false, .slice none 0 0, .bool false, .slice none 0 0] 70)) := by go_grown
  have hblH := Lib.hid hbl
  clear hbl
  have hsb := Lib.hid (Nat.le_trans (bare_size s) hs)
  have hsu := Lib.hid (Nat.le_trans (under_size s) hs)
  have hcell := Lib.hid (show ∀ v : World, (v.alloc (Obj.cells #[Value.int IntKind.u32 1] 111)).cell? ⟨v.heap.size, 0, none⟩ = some (.int .u32 1) by intro v; simp [go_sem])
  have hstH := Lib.hid hst
  have hmiH := Lib.hid hmi
  have hbH := Lib.hid hb0
  clear hb0
  have hno : Hid (¬ parseOK s) := fun h => h.2.2 ⟨hmi, hz⟩
  have hL : L B32 (pn s) = 0 := by rw [hz, L_zero]
  clear hz
  clear hst hmi
  go_enter Try.func73, Try.ntmps73
  go_wp2_with (first
    | (go_at_call 85; (with_reducible refine (cut_b s _ _ hs hstH.out).mono ?_); rintro e w1 ⟨rfl, hb1⟩; have k1 := Lib.hid (Rg.step hR.out (by omega) hb1); have hl1 := Lib.hid (bseq hblH.out hb1))
    | (go_at_call 86; (with_reducible refine (prefix_b s _ _ hmiH.out).mono ?_); rintro e w2 ⟨rfl, rfl⟩)
    | (go_at_call 87; (with_reducible refine (read_bare s _ hbH.out).mono ?_); rintro e w3 ⟨a3, c3, rfl, hm3, hb3⟩; have k3 := Lib.hid (Rg.step k1.out (by omega) hb3); have hl3 := Lib.hid (bseq hl1.out hb3); obtain ⟨_, g2, g3, _, _⟩ := k3.out; obtain ⟨_, g2b, g3b, g5, g4⟩ := Rg.alloc k3.out (by omega) (Obj.cells #[Value.int IntKind.u32 1] 111)))
  have hfl := Lib.hid (hl3.out.alloc hl3.out.size (Obj.cells #[Value.int IntKind.u32 1] 111))
  refine bodyPost_ret (v := .tuple #[.agg #[.bool false, .slice none 0 0, .bool false, .slice none 0 0], .bool false]) (by simp [results, Try.results73, go_sem, g2b]) rfl ?_
  exact ParsePost.bad hno.out (below_set4 hfl.out (Nat.le_refl _) _ _ _ _)

end Go.Proofs.Ytcaeonpjokkjnaa

/- Walk of num.Parse: cases. (Printed by wip/tools/gen_parse.py.) -/
namespace Go.Proofs.Ytcaeonpjokkjnaa
open Go Go.RowKit Go.Proofs

set_option maxRecDepth 100000 in
set_option maxHeartbeats 1600000 in
theorem parse_a3 (s : ByteArray) (w : World) (hs : s.size ≤ 4611686018427387904) (hst : stroke s = false) (hb0 : readOK (bare s)) (hmi : minus s = true) (hz : pn s ≠ 0) :
    Calls Try.prog 73 #[.string s] w (ParsePost w s) := by
  have hR : Hid (Rg w.heap.size 4 (w.alloc (Obj.cells #[.bool false, .slice none 0 0, .bool false, .slice none 0 0] 70)) (w.alloc (Obj.cells #[.bool false, .slice none 0 0, .bool false, .slice none 0 0] 70))) := Rg.new4 _ _ _ rfl
  have hbl : Below w.heap.size w (w.alloc (Obj.cells #[.bool false, .slice none 0 0, .bool false, .slice none 0 0] 70)) := by go_grown
  have hblH := Lib.hid hbl
  clear hbl
  have hsb := Lib.hid (Nat.le_trans (bare_size s) hs)
  have hsu := Lib.hid (Nat.le_trans (under_size s) hs)
  have hcell := Lib.hid (show ∀ v : World, (v.alloc (Obj.cells #[Value.int IntKind.u32 1] 111)).cell? ⟨v.heap.size, 0, none⟩ = some (.int .u32 1) by intro v; simp [go_sem])
  have hstH := Lib.hid hst
  have hmiH := Lib.hid hmi
  have hok : Hid (parseOK s) := ⟨hb0, (fun h => by rw [hst] at h; cases h), (fun h => hz h.2)⟩
  have hpd : Hid (pden s = 1) := by show _ = _; unfold pden; rw [hst]; rfl
  have hLn := Lib.hid (L_pn hb0)
  have hbH := Lib.hid hb0
  clear hb0
  have hL0 := Lib.hid hz
  have hL : ¬ L B32 (pn s) = 0 := by rw [L_eq_zero two_le_B32]; exact hz
  have hL2 : ((L B32 (pn s) : Int) == 0) = false := by simp; exact hL
  clear hz hL
  clear hst hmi
  go_enter Try.func73, Try.ntmps73
  go_wp2_with (first
    | (go_at_call 85; (with_reducible refine (cut_b s _ _ hs hstH.out).mono ?_); rintro e w1 ⟨rfl, hb1⟩; have k1 := Lib.hid (Rg.step hR.out (by omega) hb1); have hl1 := Lib.hid (bseq hblH.out hb1))
    | (go_at_call 86; (with_reducible refine (prefix_b s _ _ hmiH.out).mono ?_); rintro e w2 ⟨rfl, rfl⟩)
    | (go_at_call 87; (with_reducible refine (read_bare s _ hbH.out).mono ?_); rintro e w3 ⟨a3, c3, rfl, hm3, hb3⟩; have k3 := Lib.hid (Rg.step k1.out (by omega) hb3); have hl3 := Lib.hid (bseq hl1.out hb3))
    | (go_at_call 78; (with_reducible refine (made_pz s _ hmiH.out a3 c3 _ (hm3.up ((Below.refl _ _).alloc (Nat.le_refl _) _)) hLn.out).mono ?_); rintro e w8 ⟨a8, c8, rfl, hm8, hb8⟩; have k8 := Lib.hid (Rg.via k3.out (by omega) hb8); have hl8 := Lib.hid (bvia hl3.out hb8); have hcc := Lib.hid (Below.cellAt hb8 (Nat.le_refl _) (hcell.out _)))
    | (go_at_call 78; (with_reducible refine (made_one _ _ hcc.out).mono ?_); rintro e w9 ⟨a9, c9, rfl, hm9, hb9⟩; have k9 := Lib.hid (Rg.step k8.out (by omega) hb9); have hl9 := Lib.hid (bseq hl8.out hb9)))
  have hz9 : w.heap.size < w9.heap.size := World.block_lt_of_cell? w9 ⟨w.heap.size, 0, none⟩ (k9.out.2.1 0 (by omega))
  have hC : Hid (Cells4 (w9.alloc (Obj.cells #[.bool (ng (pz s)), .slice a8 (LI (pz s)) c8, .bool (ng 1), .slice a9 (LI 1) c9] 70)) w9.heap.size (.bool (ng (pz s))) (.slice a8 (LI (pz s)) c8) (.bool (ng 1)) (.slice a9 (LI 1) c9)) := by show Cells4 _ _ _ _ _ _; refine ⟨?_, ?_, ?_, ?_⟩ <;> simp [go_sem]
  have hR9 : Hid (Rg w.heap.size 4 (w9.alloc (Obj.cells #[.bool (ng (pz s)), .slice a8 (LI (pz s)) c8, .bool (ng 1), .slice a9 (LI 1) c9] 70)) (w9.alloc (Obj.cells #[.bool (ng (pz s)), .slice a8 (LI (pz s)) c8, .bool (ng 1), .slice a9 (LI 1) c9] 70))) := Rg.re (k9.out.alloc (by omega) _)
  have hI1 : Hid (IM (w9.alloc (Obj.cells #[.bool (ng (pz s)), .slice a8 (LI (pz s)) c8, .bool (ng 1), .slice a9 (LI 1) c9] 70)) a8 c8 (pz s)) := (hm8.up hb9).up ((Below.refl _ _).alloc (Nat.le_refl _) _)
  have hI2 : Hid (IM (w9.alloc (Obj.cells #[.bool (ng (pz s)), .slice a8 (LI (pz s)) c8, .bool (ng 1), .slice a9 (LI 1) c9] 70)) a9 c9 1) := hm9.up ((Below.refl _ _).alloc (Nat.le_refl _) _)
  have hlW : Hid (Below w.heap.size w (w9.alloc (Obj.cells #[.bool (ng (pz s)), .slice a8 (LI (pz s)) c8, .bool (ng 1), .slice a9 (LI 1) c9] 70))) := hl9.out.alloc hl9.out.size _
  obtain ⟨W, hW⟩ : ∃ W, W = w9.alloc (Obj.cells #[.bool (ng (pz s)), .slice a8 (LI (pz s)) c8, .bool (ng 1), .slice a9 (LI 1) c9] 70) := ⟨_, rfl⟩
  rw [← hW]
  rw [← hW] at hC hR9 hI1 hI2 hlW
  have hWH := Lib.hid hW
  obtain ⟨B, hB⟩ : ∃ B, B = w9.heap.size := ⟨_, rfl⟩
  rw [← hB] at hz9 hC
  rw [← hB]
  clear hW hB hWH hm8 hm9 hb9 hm3 hb3 hb8 k8 k3 k1 hl8 hl3 hl1 k9 hl9 hb1 hR hblH hsb hsu hcell hbH hcc
  have hNB : w.heap.size ≠ B := Nat.ne_of_lt hz9
  obtain ⟨_, r2, r3, _, _⟩ := hR9.out
  have hRd := Lib.hid hR9.out.drew
  have h04 := Lib.hid (show (0 : Nat) < 4 by omega)
  obtain ⟨x0, x1, x2, x3⟩ := hC.out
  go_region
  go_wp2_with (fail)
  refine bodyPost_ret (v := .tuple #[.agg #[.bool (ng (pz s)), .slice a8 (LI (pz s)) c8, .bool (ng 1), .slice a9 (LI 1) c9], .bool true]) (by simp [results, Try.results73, go_sem, r2]) rfl ?_
  exact ParsePost.good hok.out hpd.out (IM.upb (IM.set4 hI1.out hR9.out.noInt _ _ _ _ _ _ _ _) (Below.refl _ _).drew) (IM.upb (IM.set4 hI2.out hR9.out.noInt _ _ _ _ _ _ _ _) (Below.refl _ _).drew) (hlW.out.trans (below_set4 (Below.refl _ _) (Nat.le_refl _) _ _ _ _).drew)

set_option maxRecDepth 100000 in
set_option maxHeartbeats 1600000 in
theorem parse_a4 (s : ByteArray) (w : World) (hs : s.size ≤ 4611686018427387904) (hst : stroke s = false) (hb0 : readOK (bare s)) (hmi : minus s = false) :
    Calls Try.prog 73 #[.string s] w (ParsePost w s) := by
  have hR : Hid (Rg w.heap.size 4 (w.alloc (Obj.cells #[.bool false, .slice none 0 0, .bool false, .slice none 0 0] 70)) (w.alloc (Obj.cells #[.bool false, .slice none 0 0, .bool false, .slice none 0 0] 70))) := Rg.new4 _ _ _ rfl
  have hbl : Below w.heap.size w (w.alloc (Obj.cells #[.bool false, .slice none 0 0, .bool false, .slice none 0 0] 70)) := by go_grown
  have hblH := Lib.hid hbl
  clear hbl
  have hsb := Lib.hid (Nat.le_trans (bare_size s) hs)
  have hsu := Lib.hid (Nat.le_trans (under_size s) hs)
  have hcell := Lib.hid (show ∀ v : World, (v.alloc (Obj.cells #[Value.int IntKind.u32 1] 111)).cell? ⟨v.heap.size, 0, none⟩ = some (.int .u32 1) by intro v; simp [go_sem])
  have hstH := Lib.hid hst
  have hmiH := Lib.hid hmi
  have hok : Hid (parseOK s) := ⟨hb0, (fun h => by rw [hst] at h; cases h), (fun h => by rw [hmi] at h; cases h.1)⟩
  have hpd : Hid (pden s = 1) := by show _ = _; unfold pden; rw [hst]; rfl
  have hLn := Lib.hid (L_pn hb0)
  have hbH := Lib.hid hb0
  clear hb0
  clear hst hmi
  go_enter Try.func73, Try.ntmps73
  go_wp2_with (first
    | (go_at_call 85; (with_reducible refine (cut_b s _ _ hs hstH.out).mono ?_); rintro e w1 ⟨rfl, hb1⟩; have k1 := Lib.hid (Rg.step hR.out (by omega) hb1); have hl1 := Lib.hid (bseq hblH.out hb1))
    | (go_at_call 86; (with_reducible refine (prefix_b s _ _ hmiH.out).mono ?_); rintro e w2 ⟨rfl, rfl⟩)
    | (go_at_call 87; (with_reducible refine (read_bare s _ hbH.out).mono ?_); rintro e w3 ⟨a3, c3, rfl, hm3, hb3⟩; have k3 := Lib.hid (Rg.step k1.out (by omega) hb3); have hl3 := Lib.hid (bseq hl1.out hb3))
    | (go_at_call 78; (with_reducible refine (made_pz s _ hmiH.out a3 c3 _ (hm3.up ((Below.refl _ _).alloc (Nat.le_refl _) _)) hLn.out).mono ?_); rintro e w8 ⟨a8, c8, rfl, hm8, hb8⟩; have k8 := Lib.hid (Rg.via k3.out (by omega) hb8); have hl8 := Lib.hid (bvia hl3.out hb8); have hcc := Lib.hid (Below.cellAt hb8 (Nat.le_refl _) (hcell.out _)))
    | (go_at_call 78; (with_reducible refine (made_one _ _ hcc.out).mono ?_); rintro e w9 ⟨a9, c9, rfl, hm9, hb9⟩; have k9 := Lib.hid (Rg.step k8.out (by omega) hb9); have hl9 := Lib.hid (bseq hl8.out hb9)))
  have hz9 : w.heap.size < w9.heap.size := World.block_lt_of_cell? w9 ⟨w.heap.size, 0, none⟩ (k9.out.2.1 0 (by omega))
  have hC : Hid (Cells4 (w9.alloc (Obj.cells #[.bool (ng (pz s)), .slice a8 (LI (pz s)) c8, .bool (ng 1), .slice a9 (LI 1) c9] 70)) w9.heap.size (.bool (ng (pz s))) (.slice a8 (LI (pz s)) c8) (.bool (ng 1)) (.slice a9 (LI 1) c9)) := by show Cells4 _ _ _ _ _ _; refine ⟨?_, ?_, ?_, ?_⟩ <;> simp [go_sem]
  have hR9 : Hid (Rg w.heap.size 4 (w9.alloc (Obj.cells #[.bool (ng (pz s)), .slice a8 (LI (pz s)) c8, .bool (ng 1), .slice a9 (LI 1) c9] 70)) (w9.alloc (Obj.cells #[.bool (ng (pz s)), .slice a8 (LI (pz s)) c8, .bool (ng 1), .slice a9 (LI 1) c9] 70))) := Rg.re (k9.out.alloc (by omega) _)
  have hI1 : Hid (IM (w9.alloc (Obj.cells #[.bool (ng (pz s)), .slice a8 (LI (pz s)) c8, .bool (ng 1), .slice a9 (LI 1) c9] 70)) a8 c8 (pz s)) := (hm8.up hb9).up ((Below.refl _ _).alloc (Nat.le_refl _) _)
  have hI2 : Hid (IM (w9.alloc (Obj.cells #[.bool (ng (pz s)), .slice a8 (LI (pz s)) c8, .bool (ng 1), .slice a9 (LI 1) c9] 70)) a9 c9 1) := hm9.up ((Below.refl _ _).alloc (Nat.le_refl _) _)
  have hlW : Hid (Below w.heap.size w (w9.alloc (Obj.cells #[.bool (ng (pz s)), .slice a8 (LI (pz s)) c8, .bool (ng 1), .slice a9 (LI 1) c9] 70))) := hl9.out.alloc hl9.out.size _
  obtain ⟨W, hW⟩ : ∃ W, W = w9.alloc (Obj.cells #[.bool (ng (pz s)), .slice a8 (LI (pz s)) c8, .bool (ng 1), .slice a9 (LI 1) c9] 70) := ⟨_, rfl⟩
  rw [← hW]
  rw [← hW] at hC hR9 hI1 hI2 hlW
  have hWH := Lib.hid hW
  obtain ⟨B, hB⟩ : ∃ B, B = w9.heap.size := ⟨_, rfl⟩
  rw [← hB] at hz9 hC
  rw [← hB]
  clear hW hB hWH hm8 hm9 hb9 hm3 hb3 hb8 k8 k3 k1 hl8 hl3 hl1 k9 hl9 hb1 hR hblH hsb hsu hcell hbH hcc
  have hNB : w.heap.size ≠ B := Nat.ne_of_lt hz9
  obtain ⟨_, r2, r3, _, _⟩ := hR9.out
  have hRd := Lib.hid hR9.out.drew
  have h04 := Lib.hid (show (0 : Nat) < 4 by omega)
  obtain ⟨x0, x1, x2, x3⟩ := hC.out
  go_region
  go_wp2_with (fail)
  refine bodyPost_ret (v := .tuple #[.agg #[.bool (ng (pz s)), .slice a8 (LI (pz s)) c8, .bool (ng 1), .slice a9 (LI 1) c9], .bool true]) (by simp [results, Try.results73, go_sem, r2]) rfl ?_
  exact ParsePost.good hok.out hpd.out (IM.upb (IM.set4 hI1.out hR9.out.noInt _ _ _ _ _ _ _ _) (Below.refl _ _).drew) (IM.upb (IM.set4 hI2.out hR9.out.noInt _ _ _ _ _ _ _ _) (Below.refl _ _).drew) (hlW.out.trans (below_set4 (Below.refl _ _) (Nat.le_refl _) _ _ _ _).drew)

end Go.Proofs.Ytcaeonpjokkjnaa
