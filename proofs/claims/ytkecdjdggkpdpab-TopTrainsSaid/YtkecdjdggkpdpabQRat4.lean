/- Rat4 -/
import Derived.Test.YtkecdjdggkpdpabQRat3
set_option linter.unusedVariables false
/- Walks of the program's fractions: Neg, Sub, Div, Cmp, Sign. (Printed by wip/tools/gen_rat4.py.) -/
namespace Go.Proofs.Ytkecdjdggkpdpab
open Go Go.RowKit Go.Proofs

theorem RM.kp {w W w' : World} {a a' : Option Addr} {c c' N k : Nat} {q : Rat} (h : RM w a c a' c' q) (hb : Below w.heap.size w W) (hk : Rg N k W w') (hN : w.heap.size ≤ N) : RM w' a c a' c' q := ⟨h.1.kp hb hk hN, h.2.kp hb hk hN⟩
theorem RM.kq {W w' : World} {a a' : Option Addr} {c c' : Nat} {q : Rat} (h : RM W a c a' c' q) (hk : Kq W w') : RM w' a c a' c' q := ⟨h.1.kq hk, h.2.kq hk⟩
theorem Kq.below {W w' : World} (h : Kq W w') : Below W.heap.size W w' := h.2

theorem rn_neg (q : Rat) : rn (-q) = -rn q := rfl
theorem rd_neg (q : Rat) : rd (-q) = rd q := rfl
theorem Sz.neg {q : Rat} (h : Sz q) : Sz (-q) := ⟨by rw [rn_neg, LI_neg]; exact h.1, by rw [rd_neg]; exact h.2⟩
theorem rn_div_pos (p q : Rat) (h : 0 < rn q) : 0 < rd p * rn q := Int.mul_pos (rd_pos p) h

set_option maxHeartbeats 1600000 in
theorem rneg_any (a : Option Addr) (c : Nat) (a' : Option Addr) (c' : Nat) (p : Rat) (w : World) (h1 : RM w a c a' c' p) (hp : Sz p) :
    Calls Try.prog 16 #[.agg #[.bool (ng (rn p)), .slice a (LI (rn p)) c, .bool (ng (rd p)), .slice a' (LI (rd p)) c']] w (RetRat w (-p)) := by
  have h1n : IM w a c (rn p) := h1.1
  have h1d : IM w a' c' (rd p) := h1.2
  obtain ⟨s1, s2⟩ := hp
  obtain ⟨W, hW⟩ : ∃ W, W = ((w.alloc (Obj.cells #[Value.bool (ng (rn p)), Value.slice a (LI (rn p)) c, Value.bool (ng (rd p)), Value.slice a' (LI (rd p)) c'] 51)).alloc (Obj.cells #[Value.bool false, Value.slice none 0 0, Value.bool false, Value.slice none 0 0] 51)) := ⟨_, rfl⟩
  have HR : Hid (Rg (w.heap.size + 1) 4 W W) := by rw [hW]; exact Rg.new4 _ _ _ (by simp)
  have e0 : W.cell? ⟨w.heap.size, 0, none⟩ = some (.bool (ng (rn p))) := by rw [hW]; simp [go_sem]
  have e1 : W.cell? ⟨w.heap.size, 1, none⟩ = some (.slice a (LI (rn p)) c) := by rw [hW]; simp [go_sem]
  have e2 : W.cell? ⟨w.heap.size, 2, none⟩ = some (.bool (ng (rd p))) := by rw [hW]; simp [go_sem]
  have e3 : W.cell? ⟨w.heap.size, 3, none⟩ = some (.slice a' (LI (rd p)) c') := by rw [hW]; simp [go_sem]
  have hbl : Below w.heap.size w W := by rw [hW]; go_grown
  have hWH := Lib.hid hW
  have hblH := Lib.hid hbl
  clear hW
  go_enter Try.func16, Try.ntmps16
  go_wp2_with (fail)
  rw [← hWH.out]
  go_region_held3 (fun w' => Rg (w.heap.size + 1) 4 W w')
    (first | exact HR.out.drew | exact Rg.step (by assumption) (by omega) (by assumption) | exact Rg.set (Rg.set (Rg.set (Rg.set (by assumption) _) _) _) _)
    (first
      | (go_at_call 39; (with_reducible refine (neg_any _ _ (rn p) _ (h1n.kp hbl (by assumption) (by omega)) (by omega)).mono ?_); rintro e w2 ⟨x2, y2, rfl, hm2, hb2⟩; have k2 : Rg (w.heap.size + 1) 4 W w2 := Rg.step (by assumption) (by omega) hb2; obtain ⟨g1, g2, g3, g5, g4⟩ := k2))
  go_wp2_with (fail)
  refine bodyPost_ret (v := .agg #[.bool (ng (-rn p)), .slice x2 (LI (-rn p)) y2, .bool (ng (rd p)), .slice a' (LI (rd p)) c']) (by simp [results, Try.results16, go_sem, g2]) rfl ?_
  exact RetRat.fin (N := w.heap.size + 1) (rn_neg p) (rd_neg p) (hm2.set4 g5 _ _ _ _ _ _ _ _) ((h1d.up (hbl.trans (g4.mono (by omega)))).set4 g5 _ _ _ _ _ _ _ _) hblH.out (below_set4 g4 (Nat.le_refl _) _ _ _ _) (by omega)

set_option maxHeartbeats 1600000 in
theorem rsub_any (a : Option Addr) (c : Nat) (a' : Option Addr) (c' : Nat) (b : Option Addr) (d : Nat) (b' : Option Addr) (d' : Nat) (p q : Rat) (w : World) (h1 : RM w a c a' c' p) (h2 : RM w b d b' d' q) (hp : Sz p) (hq : Sz q) :
    Calls Try.prog 14 #[.agg #[.bool (ng (rn p)), .slice a (LI (rn p)) c, .bool (ng (rd p)), .slice a' (LI (rd p)) c'], .agg #[.bool (ng (rn q)), .slice b (LI (rn q)) d, .bool (ng (rd q)), .slice b' (LI (rd q)) d']] w (RetRat w (p - q)) := by
  have hz := Lib.hid (Rat.sub_eq_add_neg p q).symm
  have hnq := hq.neg
  obtain ⟨W, hW⟩ : ∃ W, W = ((w.alloc (Obj.cells #[Value.bool (ng (rn p)), Value.slice a (LI (rn p)) c, Value.bool (ng (rd p)), Value.slice a' (LI (rd p)) c'] 51)).alloc (Obj.cells #[Value.bool (ng (rn q)), Value.slice b (LI (rn q)) d, Value.bool (ng (rd q)), Value.slice b' (LI (rd q)) d'] 51)).alloc (Obj.cells #[Value.bool false, Value.slice none 0 0, Value.bool false, Value.slice none 0 0] 51) := ⟨_, rfl⟩
  have HR : Hid (Rg (w.heap.size + 1 + 1) 4 W W) := by rw [hW]; exact Rg.new4 _ _ _ (by simp)
  have e0 : W.cell? ⟨w.heap.size, 0, none⟩ = some (.bool (ng (rn p))) := by rw [hW]; simp [go_sem]
  have e1 : W.cell? ⟨w.heap.size, 1, none⟩ = some (.slice a (LI (rn p)) c) := by rw [hW]; simp [go_sem]
  have e2 : W.cell? ⟨w.heap.size, 2, none⟩ = some (.bool (ng (rd p))) := by rw [hW]; simp [go_sem]
  have e3 : W.cell? ⟨w.heap.size, 3, none⟩ = some (.slice a' (LI (rd p)) c') := by rw [hW]; simp [go_sem]
  have f0 : W.cell? ⟨w.heap.size + 1, 0, none⟩ = some (.bool (ng (rn q))) := by rw [hW]; simp [go_sem]
  have f1 : W.cell? ⟨w.heap.size + 1, 1, none⟩ = some (.slice b (LI (rn q)) d) := by rw [hW]; simp [go_sem]
  have f2 : W.cell? ⟨w.heap.size + 1, 2, none⟩ = some (.bool (ng (rd q))) := by rw [hW]; simp [go_sem]
  have f3 : W.cell? ⟨w.heap.size + 1, 3, none⟩ = some (.slice b' (LI (rd q)) d') := by rw [hW]; simp [go_sem]
  have hbl : Below w.heap.size w W := by rw [hW]; go_grown
  have hWH := Lib.hid hW
  have hblH := Lib.hid hbl
  clear hW
  go_enter Try.func14, Try.ntmps14
  go_wp2_with (fail)
  rw [← hWH.out]
  go_region_held3 (fun w' => Rg (w.heap.size + 1 + 1) 4 W w')
    (first | exact HR.out.drew | exact Rg.step (by assumption) (by omega) (by assumption) | exact Rg.set (Rg.set (Rg.set (Rg.set (by assumption) _) _) _) _)
    (first
      | (go_at_call 16; (with_reducible refine (rneg_any _ _ _ _ q _ (h2.kp hbl (by assumption) (by omega)) hq).mono ?_); rintro e w2 ⟨x2, y2, z2, t2, rfl, hm2, hb2⟩)
      | (go_at_call 37; (with_reducible refine (radd_any _ _ _ _ _ _ _ _ p (-q) _ (h1.kp hbl (by assumption) (by omega)) hm2 hp hnq).mono ?_); rintro e w5 ⟨x5, y5, z5, t5, rfl, hm5, hb5⟩; have k5 : Rg (w.heap.size + 1 + 1) 4 W w5 := Rg.step (by assumption) (by omega) hb5; obtain ⟨g1, g2, g3, g5, g4⟩ := k5))
  go_wp2_with (fail)
  rw [hz.out]
  rw [hz.out] at hm5
  refine bodyPost_ret (v := .agg #[.bool (ng (rn (p - q))), .slice x5 (LI (rn (p - q))) y5, .bool (ng (rd (p - q))), .slice z5 (LI (rd (p - q))) t5]) (by simp [results, Try.results14, go_sem, g2]) rfl ?_
  exact RetRat.fin (N := w.heap.size + 1 + 1) rfl rfl (hm5.1.set4 g5 _ _ _ _ _ _ _ _) (hm5.2.set4 g5 _ _ _ _ _ _ _ _) hblH.out (below_set4 g4 (Nat.le_refl _) _ _ _ _) (by omega)

set_option maxHeartbeats 3200000 in
theorem rdiv_any (a : Option Addr) (c : Nat) (a' : Option Addr) (c' : Nat) (b : Option Addr) (d : Nat) (b' : Option Addr) (d' : Nat) (p q : Rat) (w : World) (h1 : RM w a c a' c' p) (h2 : RM w b d b' d' q) (hp : Sz p) (hq : Sz q) (hpos0 : 0 < rn q) :
    Calls Try.prog 12 #[.agg #[.bool (ng (rn p)), .slice a (LI (rn p)) c, .bool (ng (rd p)), .slice a' (LI (rd p)) c'], .agg #[.bool (ng (rn q)), .slice b (LI (rn q)) d, .bool (ng (rd q)), .slice b' (LI (rd q)) d']] w (RetRat w (p / q)) := by
  have h1n : IM w a c (rn p) := h1.1
  have h1d : IM w a' c' (rd p) := h1.2
  have h2n : IM w b d (rn q) := h2.1
  have h2d : IM w b' d' (rd q) := h2.2
  obtain ⟨s1, s2⟩ := hp
  obtain ⟨s3, s4⟩ := hq
  have hz := Lib.hid (rat_div p q)
  have hpos : 0 < rd p * rn q := Int.mul_pos (rd_pos p) hpos0
  have l1 := LI_mul (rn p) (rd q)
  have l3 := LI_mul (rd p) (rn q)
  obtain ⟨W, hW⟩ : ∃ W, W = ((w.alloc (Obj.cells #[Value.bool (ng (rn p)), Value.slice a (LI (rn p)) c, Value.bool (ng (rd p)), Value.slice a' (LI (rd p)) c'] 51)).alloc (Obj.cells #[Value.bool (ng (rn q)), Value.slice b (LI (rn q)) d, Value.bool (ng (rd q)), Value.slice b' (LI (rd q)) d'] 51)).alloc (Obj.cells #[Value.bool false, Value.slice none 0 0, Value.bool false, Value.slice none 0 0] 51) := ⟨_, rfl⟩
  have HR : Hid (Rg (w.heap.size + 1 + 1) 4 W W) := by rw [hW]; exact Rg.new4 _ _ _ (by simp)
  have e0 : W.cell? ⟨w.heap.size, 0, none⟩ = some (.bool (ng (rn p))) := by rw [hW]; simp [go_sem]
  have e1 : W.cell? ⟨w.heap.size, 1, none⟩ = some (.slice a (LI (rn p)) c) := by rw [hW]; simp [go_sem]
  have e2 : W.cell? ⟨w.heap.size, 2, none⟩ = some (.bool (ng (rd p))) := by rw [hW]; simp [go_sem]
  have e3 : W.cell? ⟨w.heap.size, 3, none⟩ = some (.slice a' (LI (rd p)) c') := by rw [hW]; simp [go_sem]
  have f0 : W.cell? ⟨w.heap.size + 1, 0, none⟩ = some (.bool (ng (rn q))) := by rw [hW]; simp [go_sem]
  have f1 : W.cell? ⟨w.heap.size + 1, 1, none⟩ = some (.slice b (LI (rn q)) d) := by rw [hW]; simp [go_sem]
  have f2 : W.cell? ⟨w.heap.size + 1, 2, none⟩ = some (.bool (ng (rd q))) := by rw [hW]; simp [go_sem]
  have f3 : W.cell? ⟨w.heap.size + 1, 3, none⟩ = some (.slice b' (LI (rd q)) d') := by rw [hW]; simp [go_sem]
  have hbl : Below w.heap.size w W := by rw [hW]; go_grown
  have hWH := Lib.hid hW
  have hblH := Lib.hid hbl
  clear hW
  go_enter Try.func12, Try.ntmps12
  go_wp2_with (fail)
  rw [← hWH.out]
  go_region_held3 (fun w' => Rg (w.heap.size + 1 + 1) 4 W w')
    (first | exact HR.out.drew | exact Rg.step (by assumption) (by omega) (by assumption) | exact Rg.set (Rg.set (Rg.set (Rg.set (by assumption) _) _) _) _)
    (first
      | (go_at_call 36; (with_reducible refine (mul_any _ _ _ _ (rn p) (rd q) _ (h1n.kp hbl (by assumption) (by omega)) (h2d.kp hbl (by assumption) (by omega)) (by omega) (by omega)).mono ?_); rintro e w1 ⟨x1, y1, rfl, hm1, hb1⟩)
      | (go_at_call 36; (with_reducible refine (mul_any _ _ _ _ (rd p) (rn q) _ (h1d.kp hbl (by assumption) (by omega)) (h2n.kp hbl (by assumption) (by omega)) (by omega) (by omega)).mono ?_); rintro e w2 ⟨x2, y2, rfl, hm2, hb2⟩; have hm1' := hm1.up hb2)
      | (go_at_call 35; (with_reducible refine (ratio_any _ _ _ _ _ _ _ hm1' hm2 (by omega) (by omega) hpos).mono ?_); rintro e w5 ⟨x5, y5, z5, t5, rfl, hm5, hb5⟩; have k5 : Rg (w.heap.size + 1 + 1) 4 W w5 := Rg.step (by assumption) (by omega) hb5; obtain ⟨g1, g2, g3, g5, g4⟩ := k5))
  go_wp2_with (fail)
  rw [hz.out]
  rw [hz.out] at hm5
  refine bodyPost_ret (v := .agg #[.bool (ng (rn (p / q))), .slice x5 (LI (rn (p / q))) y5, .bool (ng (rd (p / q))), .slice z5 (LI (rd (p / q))) t5]) (by simp [results, Try.results12, go_sem, g2]) rfl ?_
  exact RetRat.fin (N := w.heap.size + 1 + 1) rfl rfl (hm5.1.set4 g5 _ _ _ _ _ _ _ _) (hm5.2.set4 g5 _ _ _ _ _ _ _ _) hblH.out (below_set4 g4 (Nat.le_refl _) _ _ _ _) (by omega)

/-- The sign of a difference, by the cross products. -/
def rsg (p q : Rat) : Int := sg (rn p * rd q - rn q * rd p)

set_option maxHeartbeats 3200000 in
theorem rcmp_any (a : Option Addr) (c : Nat) (a' : Option Addr) (c' : Nat) (b : Option Addr) (d : Nat) (b' : Option Addr) (d' : Nat) (p q : Rat) (w : World) (h1 : RM w a c a' c' p) (h2 : RM w b d b' d' q) (hp : Sz p) (hq : Sz q) :
    Calls Try.prog 17 #[.agg #[.bool (ng (rn p)), .slice a (LI (rn p)) c, .bool (ng (rd p)), .slice a' (LI (rd p)) c'], .agg #[.bool (ng (rn q)), .slice b (LI (rn q)) d, .bool (ng (rd q)), .slice b' (LI (rd q)) d']] w (RetNum w (rsg p q)) := by
  have h1n : IM w a c (rn p) := h1.1
  have h1d : IM w a' c' (rd p) := h1.2
  have h2n : IM w b d (rn q) := h2.1
  have h2d : IM w b' d' (rd q) := h2.2
  obtain ⟨s1, s2⟩ := hp
  obtain ⟨s3, s4⟩ := hq
  have l1 := LI_mul (rn p) (rd q)
  have l3 := LI_mul (rn q) (rd p)
  obtain ⟨W, hW⟩ : ∃ W, W = ((w.alloc (Obj.cells #[Value.bool (ng (rn p)), Value.slice a (LI (rn p)) c, Value.bool (ng (rd p)), Value.slice a' (LI (rd p)) c'] 51)).alloc (Obj.cells #[Value.bool (ng (rn q)), Value.slice b (LI (rn q)) d, Value.bool (ng (rd q)), Value.slice b' (LI (rd q)) d'] 51)) := ⟨_, rfl⟩
  have e0 : W.cell? ⟨w.heap.size, 0, none⟩ = some (.bool (ng (rn p))) := by rw [hW]; simp [go_sem]
  have e1 : W.cell? ⟨w.heap.size, 1, none⟩ = some (.slice a (LI (rn p)) c) := by rw [hW]; simp [go_sem]
  have e2 : W.cell? ⟨w.heap.size, 2, none⟩ = some (.bool (ng (rd p))) := by rw [hW]; simp [go_sem]
  have e3 : W.cell? ⟨w.heap.size, 3, none⟩ = some (.slice a' (LI (rd p)) c') := by rw [hW]; simp [go_sem]
  have f0 : W.cell? ⟨w.heap.size + 1, 0, none⟩ = some (.bool (ng (rn q))) := by rw [hW]; simp [go_sem]
  have f1 : W.cell? ⟨w.heap.size + 1, 1, none⟩ = some (.slice b (LI (rn q)) d) := by rw [hW]; simp [go_sem]
  have f2 : W.cell? ⟨w.heap.size + 1, 2, none⟩ = some (.bool (ng (rd q))) := by rw [hW]; simp [go_sem]
  have f3 : W.cell? ⟨w.heap.size + 1, 3, none⟩ = some (.slice b' (LI (rd q)) d') := by rw [hW]; simp [go_sem]
  have hbl : Below w.heap.size w W := by rw [hW]; go_grown
  have hz1 : w.heap.size + 1 < W.heap.size := by rw [hW]; simp
  have hz0 : w.heap.size < W.heap.size := by omega
  have hWH := Lib.hid hW
  have hblH := Lib.hid hbl
  clear hW
  go_enter Try.func17, Try.ntmps17
  go_wp2_with (fail)
  rw [← hWH.out]
  go_region_held3 (fun w' => Kq W w')
    (first | exact Kq.drew _ | exact k3 | exact Kq.step (by assumption) (by assumption))
    (first
      | (go_at_call 36; (with_reducible refine (mul_any _ _ _ _ (rn p) (rd q) _ ((h1n.up hbl).kq (by assumption)) ((h2d.up hbl).kq (by assumption)) (by omega) (by omega)).mono ?_); rintro e w1 ⟨x1, y1, rfl, hm1, hb1⟩)
      | (go_at_call 36; (with_reducible refine (mul_any _ _ _ _ (rn q) (rd p) _ ((h2n.up hbl).kq (by assumption)) ((h1d.up hbl).kq (by assumption)) (by omega) (by omega)).mono ?_); rintro e w2 ⟨x2, y2, rfl, hm2, hb2⟩; have hm1' := hm1.up hb2)
      | (go_at_call 40; (with_reducible refine (cmp_any _ _ _ _ _ _ _ hm1' hm2 (by omega) (by omega)).mono ?_); rintro e w3 ⟨rfl, hb3⟩; have k3 : Kq W w3 := Kq.step (by assumption) hb3))
  go_wp2_with (fail)
  go_ret
  exact ⟨rfl, hblH.out.trans ((Kq.below k3).mono (by omega))⟩

set_option maxHeartbeats 400000 in
theorem rsign_any (a : Option Addr) (c : Nat) (a' : Option Addr) (c' : Nat) (p : Rat) (w : World) :
    Calls Try.prog 15 #[.agg #[.bool (ng (rn p)), .slice a (LI (rn p)) c, .bool (ng (rd p)), .slice a' (LI (rd p)) c']] w (RetNum w (sg (rn p))) := by
  go_enter Try.func15, Try.ntmps15
  go_wp2_with (fail)
  refine (sign_any _ _ (rn p) _).mono ?_
  rintro e w1 ⟨rfl, hb1⟩
  go_wp2_with (fail)
  go_ret
  exact ⟨rfl, Below.trans (by go_grown) (hb1.mono (by simp))⟩

end Go.Proofs.Ytkecdjdggkpdpab
