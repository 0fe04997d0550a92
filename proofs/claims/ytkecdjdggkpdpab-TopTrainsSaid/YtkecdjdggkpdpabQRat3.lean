/- Rat3 -/
import Derived.Test.YtkecdjdggkpdpabQWd
set_option linter.unusedVariables false
/- Walks of the program's fractions: Add, Sub, Mul, Div, Cmp, Neg, Sign. (Printed by wip/tools/gen_rat3.py.) -/
namespace Go.Proofs.Ytkecdjdggkpdpab
open Go Go.RowKit Go.Proofs

/-- A fraction whose two parts have few limbs. -/
def Sz (q : Rat) : Prop := LI (rn q) ≤ 10000000 ∧ LI (rd q) ≤ 10000000

theorem isInt_spec {q : Rat} (h : isInt q = true) : ((rn q : Int) : Rat) = q := by
  have hd : rd q = 1 := by simpa [isInt] using h
  unfold rd at hd
  refine Rat.ext rfl ?_
  have : q.den = 1 := by omega
  rw [this]; rfl

theorem rat_add (p q : Rat) : Rat.divInt (rn p * rd q + rn q * rd p) (rd p * rd q) = p + q := by
  rw [← Rat.divInt_add_divInt _ _ (by have := rd_pos p; omega) (by have := rd_pos q; omega), rat_eq, rat_eq]

theorem rat_mul (p q : Rat) : Rat.divInt (rn p * rn q) (rd p * rd q) = p * q := by
  rw [← Rat.divInt_mul_divInt, rat_eq, rat_eq]

theorem rat_div (p q : Rat) : Rat.divInt (rn p * rd q) (rd p * rn q) = p / q := by
  rw [← Rat.divInt_mul_divInt, rat_eq, Rat.div_def]
  congr 1
  have := Rat.inv_divInt (rn q) (rd q)
  rw [rat_eq] at this
  rw [this]

theorem rat_add_int {p q : Rat} (hp : isInt p = true) (hq : isInt q = true) : ((rn p + rn q : Int) : Rat) = p + q := by
  rw [Rat.intCast_add, isInt_spec hp, isInt_spec hq]

theorem rat_mul_int {p q : Rat} (hp : isInt p = true) (hq : isInt q = true) : ((rn p * rn q : Int) : Rat) = p * q := by
  rw [Rat.intCast_mul, isInt_spec hp, isInt_spec hq]

set_option maxHeartbeats 1600000 in
theorem radd_int (a : Option Addr) (c : Nat) (a' : Option Addr) (c' : Nat) (b : Option Addr) (d : Nat) (b' : Option Addr) (d' : Nat) (p q : Rat) (w : World) (h1 : RM w a c a' c' p) (h2 : RM w b d b' d' q) (hp : Sz p) (hq : Sz q) (hi : isInt p = true) (hj : isInt q = true) :
    Calls Try.prog 37 #[.agg #[.bool (ng (rn p)), .slice a (LI (rn p)) c, .bool (ng (rd p)), .slice a' (LI (rd p)) c'], .agg #[.bool (ng (rn q)), .slice b (LI (rn q)) d, .bool (ng (rd q)), .slice b' (LI (rd q)) d']] w (RetRat w (p + q)) := by
  have h1n : IM w a c (rn p) := h1.1
  have h1d : IM w a' c' (rd p) := h1.2
  have h2n : IM w b d (rn q) := h2.1
  have h2d : IM w b' d' (rd q) := h2.2
  obtain ⟨s1, s2⟩ := hp
  obtain ⟨s3, s4⟩ := hq
  have hz := Lib.hid (rat_add_int hi hj)
  obtain ⟨W, hW⟩ : ∃ W, W = ((w.alloc (Obj.cells #[Value.bool (ng (rn p)), Value.slice a (LI (rn p)) c, Value.bool (ng (rd p)), Value.slice a' (LI (rd p)) c'] 51)).alloc (Obj.cells #[Value.bool (ng (rn q)), Value.slice b (LI (rn q)) d, Value.bool (ng (rd q)), Value.slice b' (LI (rd q)) d'] 51)).alloc (Obj.cells #[Value.bool false, Value.slice none 0 0, Value.bool false, Value.slice none 0 0] 51) := ⟨_, rfl⟩
  have HR : Hid (Rg (w.heap.size + 1 + 1) 4 W W) := by rw [hW]; exact Rg.new4 _ _ _ (by simp)
  have e0 : W.cell? ⟨w.heap.size, 0, none⟩ = some (.bool (ng (rn p))) := by rw [hW]; simp [go_sem]
  have e1 : W.cell? ⟨w.heap.size, 1, none⟩ = some (.slice a (LI (rn p)) c) := by rw [hW]; simp [go_sem]
  have e2 : W.cell? ⟨w.heap.size, 2, none⟩ = some (.bool (ng (rd p))) := by rw [hW]; simp [go_sem]
  have e3 : W.cell? ⟨w.heap.size, 3, none⟩ = some (.slice a' (LI (rd p)) c') := by rw [hW]; simp [go_sem]
  have f0 : W.cell? ⟨w.heap.size + 1, 0, none⟩ = some (.bool (ng (rn q))) := by rw [hW]; simp [go_sem]
  have f1 : W.cell? ⟨w.heap.size + 1, 1, none⟩ = some (.slice b (LI (rn q)) d) := by rw [hW]; simp [go_sem]
  have f2 : W.cell? ⟨w.heap.size + 1, 2, none⟩ = some (.bool (ng (rd q))) := by rw [hW]; simp [go_sem]
  have f3 : W.cell? ⟨w.heap.size + 1, 3, none⟩ = some (.slice b' (LI (rd q)) d') := by rw [hW]; simp [go_sem]
  have hbl : Below w.heap.size w W := by rw [hW]; go_grown
  have hWH := Lib.hid hW
  have hblH := Lib.hid hbl
  clear hW
  go_enter Try.func37, Try.ntmps37
  go_wp2_with (first
    | (go_at_call 46; rw [← hWH.out]; (with_reducible refine (integer_any a c a' c' p _ (h1.up hbl)).mono ?_); rintro e wa ⟨rfl, hba⟩; have ka : Rg (w.heap.size + 1 + 1) 4 W wa := Rg.step HR.out (by omega) hba; have kaH := Lib.hid ka; obtain ⟨j1, j2, j3, j5, j4⟩ := ka)
    | (go_at_call 46; (with_reducible refine (integer_any b d b' d' q _ (h2.up (hbl.trans (j4.mono (by omega))))).mono ?_); rintro e wb ⟨rfl, hbb⟩; have kb : Rg (w.heap.size + 1 + 1) 4 W wb := Rg.step kaH.out (by omega) hbb; have kbH := Lib.hid kb; clear j1 j2 j3 j5; obtain ⟨i1, i2, i3, i5, i4⟩ := kb))
  refine (add_any _ _ _ _ (rn p) (rn q) _ (h1.1.up (hbl.trans (i4.mono (by omega)))) (h2.1.up (hbl.trans (i4.mono (by omega)))) (by omega) (by omega)).mono ?_
  rintro e w3 ⟨x3, y3, rfl, hm3, hb3⟩
  have k3 := Lib.hid (Rg.step kbH.out (by omega) hb3)
  go_wp2_with (fail)
  have tf := fromInt_any _ _ _ _ hm3
  rw [hz.out] at tf
  refine tf.mono ?_
  rintro e w4 ⟨x4, y4, z4, t4, rfl, hm4, hb4⟩
  obtain ⟨g1, g2, g3, g5, g4⟩ := Rg.step k3.out (by omega) hb4
  clear i1 i2 i3 i5
  go_wp2_with (fail)
  refine bodyPost_ret (v := .agg #[.bool (ng (rn (p + q))), .slice x4 (LI (rn (p + q))) y4, .bool (ng (rd (p + q))), .slice z4 (LI (rd (p + q))) t4]) (by simp [results, Try.results37, go_sem, g2]) rfl ?_
  exact RetRat.fin (N := w.heap.size + 1 + 1) rfl rfl (hm4.1.set4 g5 _ _ _ _ _ _ _ _) (hm4.2.set4 g5 _ _ _ _ _ _ _ _) hblH.out (below_set4 g4 (Nat.le_refl _) _ _ _ _) (by omega)

set_option maxHeartbeats 3200000 in
theorem radd_a (a : Option Addr) (c : Nat) (a' : Option Addr) (c' : Nat) (b : Option Addr) (d : Nat) (b' : Option Addr) (d' : Nat) (p q : Rat) (w : World) (h1 : RM w a c a' c' p) (h2 : RM w b d b' d' q) (hp : Sz p) (hq : Sz q) (hi : isInt p = false) :
    Calls Try.prog 37 #[.agg #[.bool (ng (rn p)), .slice a (LI (rn p)) c, .bool (ng (rd p)), .slice a' (LI (rd p)) c'], .agg #[.bool (ng (rn q)), .slice b (LI (rn q)) d, .bool (ng (rd q)), .slice b' (LI (rd q)) d']] w (RetRat w (p + q)) := by
  have h1n : IM w a c (rn p) := h1.1
  have h1d : IM w a' c' (rd p) := h1.2
  have h2n : IM w b d (rn q) := h2.1
  have h2d : IM w b' d' (rd q) := h2.2
  obtain ⟨s1, s2⟩ := hp
  obtain ⟨s3, s4⟩ := hq
  have hz := Lib.hid (rat_add p q)
  have hpos : 0 < rd p * rd q := Int.mul_pos (rd_pos p) (rd_pos q)
  have l1 := LI_mul (rn p) (rd q)
  have l2 := LI_mul (rn q) (rd p)
  have l3 := LI_mul (rd p) (rd q)
  have l4 := LI_add (rn p * rd q) (rn q * rd p)
  have l5 := LI_mul (rn p) (rn q)
  obtain ⟨W, hW⟩ : ∃ W, W = ((w.alloc (Obj.cells #[Value.bool (ng (rn p)), Value.slice a (LI (rn p)) c, Value.bool (ng (rd p)), Value.slice a' (LI (rd p)) c'] 51)).alloc (Obj.cells #[Value.bool (ng (rn q)), Value.slice b (LI (rn q)) d, Value.bool (ng (rd q)), Value.slice b' (LI (rd q)) d'] 51)).alloc (Obj.cells #[Value.bool false, Value.slice none 0 0, Value.bool false, Value.slice none 0 0] 51) := ⟨_, rfl⟩
  have HR : Hid (Rg (w.heap.size + 1 + 1) 4 W W) := by rw [hW]; exact Rg.new4 _ _ _ (by simp)
  have e0 : W.cell? ⟨w.heap.size, 0, none⟩ = some (.bool (ng (rn p))) := by rw [hW]; simp [go_sem]
  have e1 : W.cell? ⟨w.heap.size, 1, none⟩ = some (.slice a (LI (rn p)) c) := by rw [hW]; simp [go_sem]
  have e2 : W.cell? ⟨w.heap.size, 2, none⟩ = some (.bool (ng (rd p))) := by rw [hW]; simp [go_sem]
  have e3 : W.cell? ⟨w.heap.size, 3, none⟩ = some (.slice a' (LI (rd p)) c') := by rw [hW]; simp [go_sem]
  have f0 : W.cell? ⟨w.heap.size + 1, 0, none⟩ = some (.bool (ng (rn q))) := by rw [hW]; simp [go_sem]
  have f1 : W.cell? ⟨w.heap.size + 1, 1, none⟩ = some (.slice b (LI (rn q)) d) := by rw [hW]; simp [go_sem]
  have f2 : W.cell? ⟨w.heap.size + 1, 2, none⟩ = some (.bool (ng (rd q))) := by rw [hW]; simp [go_sem]
  have f3 : W.cell? ⟨w.heap.size + 1, 3, none⟩ = some (.slice b' (LI (rd q)) d') := by rw [hW]; simp [go_sem]
  have hbl : Below w.heap.size w W := by rw [hW]; go_grown
  have hWH := Lib.hid hW
  have hblH := Lib.hid hbl
  clear hW
  go_enter Try.func37, Try.ntmps37
  go_wp2_with (first
    | (go_at_call 46; rw [← hWH.out]; (with_reducible refine (integer_any a c a' c' p _ (h1.up hbl)).mono ?_); rintro e wa ⟨rfl, hba⟩; have ka : Rg (w.heap.size + 1 + 1) 4 W wa := Rg.step HR.out (by omega) hba; have kaH := Lib.hid ka; obtain ⟨j1, j2, j3, j5, j4⟩ := ka)
    | (go_at_call 46; (with_reducible refine (integer_any b d b' d' q _ (h2.up (hbl.trans (j4.mono (by omega))))).mono ?_); rintro e wb ⟨rfl, hbb⟩; have kb : Rg (w.heap.size + 1 + 1) 4 W wb := Rg.step kaH.out (by omega) hbb; have kbH := Lib.hid kb; clear j1 j2 j3 j5; obtain ⟨i1, i2, i3, i5, i4⟩ := kb))
  go_region_held3 (fun w' => Rg (w.heap.size + 1 + 1) 4 W w')
    (first | exact kaH.out.drew | exact Rg.step (by assumption) (by omega) (by assumption) | exact Rg.set (Rg.set (Rg.set (Rg.set (by assumption) _) _) _) _)
    (first
      | (go_at_call 36; (with_reducible refine (mul_any _ _ _ _ (rn p) (rd q) _ (h1n.kp hbl (by assumption) (by omega)) (h2d.kp hbl (by assumption) (by omega)) (by omega) (by omega)).mono ?_); rintro e w1 ⟨x1, y1, rfl, hm1, hb1⟩)
      | (go_at_call 36; (with_reducible refine (mul_any _ _ _ _ (rn q) (rd p) _ (h2n.kp hbl (by assumption) (by omega)) (h1d.kp hbl (by assumption) (by omega)) (by omega) (by omega)).mono ?_); rintro e w2 ⟨x2, y2, rfl, hm2, hb2⟩; have hm1' := hm1.up hb2)
      | (go_at_call 59; (with_reducible refine (add_any _ _ _ _ _ _ _ hm1' hm2 (by omega) (by omega)).mono ?_); rintro e w3 ⟨x3, y3, rfl, hm3, hb3⟩)
      | (go_at_call 36; (with_reducible refine (mul_any _ _ _ _ (rd p) (rd q) _ (h1d.kp hbl (by assumption) (by omega)) (h2d.kp hbl (by assumption) (by omega)) (by omega) (by omega)).mono ?_); rintro e w4 ⟨x4, y4, rfl, hm4, hb4⟩; have hm3' := hm3.up hb4)
      | (go_at_call 35; (with_reducible refine (ratio_any _ _ _ _ _ _ _ hm3' hm4 (by omega) (by omega) hpos).mono ?_); rintro e w5 ⟨x5, y5, z5, t5, rfl, hm5, hb5⟩; have k5 : Rg (w.heap.size + 1 + 1) 4 W w5 := Rg.step (by assumption) (by omega) hb5; obtain ⟨g1, g2, g3, g5, g4⟩ := k5))
  go_wp2_with (fail)
  rw [hz.out]
  rw [hz.out] at hm5
  refine bodyPost_ret (v := .agg #[.bool (ng (rn (p + q))), .slice x5 (LI (rn (p + q))) y5, .bool (ng (rd (p + q))), .slice z5 (LI (rd (p + q))) t5]) (by simp [results, Try.results37, go_sem, g2]) rfl ?_
  exact RetRat.fin (N := w.heap.size + 1 + 1) rfl rfl (hm5.1.set4 g5 _ _ _ _ _ _ _ _) (hm5.2.set4 g5 _ _ _ _ _ _ _ _) hblH.out (below_set4 g4 (Nat.le_refl _) _ _ _ _) (by omega)

set_option maxHeartbeats 3200000 in
theorem radd_b (a : Option Addr) (c : Nat) (a' : Option Addr) (c' : Nat) (b : Option Addr) (d : Nat) (b' : Option Addr) (d' : Nat) (p q : Rat) (w : World) (h1 : RM w a c a' c' p) (h2 : RM w b d b' d' q) (hp : Sz p) (hq : Sz q) (hi : isInt p = true) (hj : isInt q = false) :
    Calls Try.prog 37 #[.agg #[.bool (ng (rn p)), .slice a (LI (rn p)) c, .bool (ng (rd p)), .slice a' (LI (rd p)) c'], .agg #[.bool (ng (rn q)), .slice b (LI (rn q)) d, .bool (ng (rd q)), .slice b' (LI (rd q)) d']] w (RetRat w (p + q)) := by
  have h1n : IM w a c (rn p) := h1.1
  have h1d : IM w a' c' (rd p) := h1.2
  have h2n : IM w b d (rn q) := h2.1
  have h2d : IM w b' d' (rd q) := h2.2
  obtain ⟨s1, s2⟩ := hp
  obtain ⟨s3, s4⟩ := hq
  have hz := Lib.hid (rat_add p q)
  have hpos : 0 < rd p * rd q := Int.mul_pos (rd_pos p) (rd_pos q)
  have l1 := LI_mul (rn p) (rd q)
  have l2 := LI_mul (rn q) (rd p)
  have l3 := LI_mul (rd p) (rd q)
  have l4 := LI_add (rn p * rd q) (rn q * rd p)
  have l5 := LI_mul (rn p) (rn q)
  obtain ⟨W, hW⟩ : ∃ W, W = ((w.alloc (Obj.cells #[Value.bool (ng (rn p)), Value.slice a (LI (rn p)) c, Value.bool (ng (rd p)), Value.slice a' (LI (rd p)) c'] 51)).alloc (Obj.cells #[Value.bool (ng (rn q)), Value.slice b (LI (rn q)) d, Value.bool (ng (rd q)), Value.slice b' (LI (rd q)) d'] 51)).alloc (Obj.cells #[Value.bool false, Value.slice none 0 0, Value.bool false, Value.slice none 0 0] 51) := ⟨_, rfl⟩
  have HR : Hid (Rg (w.heap.size + 1 + 1) 4 W W) := by rw [hW]; exact Rg.new4 _ _ _ (by simp)
  have e0 : W.cell? ⟨w.heap.size, 0, none⟩ = some (.bool (ng (rn p))) := by rw [hW]; simp [go_sem]
  have e1 : W.cell? ⟨w.heap.size, 1, none⟩ = some (.slice a (LI (rn p)) c) := by rw [hW]; simp [go_sem]
  have e2 : W.cell? ⟨w.heap.size, 2, none⟩ = some (.bool (ng (rd p))) := by rw [hW]; simp [go_sem]
  have e3 : W.cell? ⟨w.heap.size, 3, none⟩ = some (.slice a' (LI (rd p)) c') := by rw [hW]; simp [go_sem]
  have f0 : W.cell? ⟨w.heap.size + 1, 0, none⟩ = some (.bool (ng (rn q))) := by rw [hW]; simp [go_sem]
  have f1 : W.cell? ⟨w.heap.size + 1, 1, none⟩ = some (.slice b (LI (rn q)) d) := by rw [hW]; simp [go_sem]
  have f2 : W.cell? ⟨w.heap.size + 1, 2, none⟩ = some (.bool (ng (rd q))) := by rw [hW]; simp [go_sem]
  have f3 : W.cell? ⟨w.heap.size + 1, 3, none⟩ = some (.slice b' (LI (rd q)) d') := by rw [hW]; simp [go_sem]
  have hbl : Below w.heap.size w W := by rw [hW]; go_grown
  have hWH := Lib.hid hW
  have hblH := Lib.hid hbl
  clear hW
  go_enter Try.func37, Try.ntmps37
  go_wp2_with (first
    | (go_at_call 46; rw [← hWH.out]; (with_reducible refine (integer_any a c a' c' p _ (h1.up hbl)).mono ?_); rintro e wa ⟨rfl, hba⟩; have ka : Rg (w.heap.size + 1 + 1) 4 W wa := Rg.step HR.out (by omega) hba; have kaH := Lib.hid ka; obtain ⟨j1, j2, j3, j5, j4⟩ := ka)
    | (go_at_call 46; (with_reducible refine (integer_any b d b' d' q _ (h2.up (hbl.trans (j4.mono (by omega))))).mono ?_); rintro e wb ⟨rfl, hbb⟩; have kb : Rg (w.heap.size + 1 + 1) 4 W wb := Rg.step kaH.out (by omega) hbb; have kbH := Lib.hid kb; clear j1 j2 j3 j5; obtain ⟨i1, i2, i3, i5, i4⟩ := kb))
  go_region_held3 (fun w' => Rg (w.heap.size + 1 + 1) 4 W w')
    (first | exact kbH.out.drew | exact Rg.step (by assumption) (by omega) (by assumption) | exact Rg.set (Rg.set (Rg.set (Rg.set (by assumption) _) _) _) _)
    (first
      | (go_at_call 36; (with_reducible refine (mul_any _ _ _ _ (rn p) (rd q) _ (h1n.kp hbl (by assumption) (by omega)) (h2d.kp hbl (by assumption) (by omega)) (by omega) (by omega)).mono ?_); rintro e w1 ⟨x1, y1, rfl, hm1, hb1⟩)
      | (go_at_call 36; (with_reducible refine (mul_any _ _ _ _ (rn q) (rd p) _ (h2n.kp hbl (by assumption) (by omega)) (h1d.kp hbl (by assumption) (by omega)) (by omega) (by omega)).mono ?_); rintro e w2 ⟨x2, y2, rfl, hm2, hb2⟩; have hm1' := hm1.up hb2)
      | (go_at_call 59; (with_reducible refine (add_any _ _ _ _ _ _ _ hm1' hm2 (by omega) (by omega)).mono ?_); rintro e w3 ⟨x3, y3, rfl, hm3, hb3⟩)
      | (go_at_call 36; (with_reducible refine (mul_any _ _ _ _ (rd p) (rd q) _ (h1d.kp hbl (by assumption) (by omega)) (h2d.kp hbl (by assumption) (by omega)) (by omega) (by omega)).mono ?_); rintro e w4 ⟨x4, y4, rfl, hm4, hb4⟩; have hm3' := hm3.up hb4)
      | (go_at_call 35; (with_reducible refine (ratio_any _ _ _ _ _ _ _ hm3' hm4 (by omega) (by omega) hpos).mono ?_); rintro e w5 ⟨x5, y5, z5, t5, rfl, hm5, hb5⟩; have k5 : Rg (w.heap.size + 1 + 1) 4 W w5 := Rg.step (by assumption) (by omega) hb5; obtain ⟨g1, g2, g3, g5, g4⟩ := k5))
  go_wp2_with (fail)
  rw [hz.out]
  rw [hz.out] at hm5
  refine bodyPost_ret (v := .agg #[.bool (ng (rn (p + q))), .slice x5 (LI (rn (p + q))) y5, .bool (ng (rd (p + q))), .slice z5 (LI (rd (p + q))) t5]) (by simp [results, Try.results37, go_sem, g2]) rfl ?_
  exact RetRat.fin (N := w.heap.size + 1 + 1) rfl rfl (hm5.1.set4 g5 _ _ _ _ _ _ _ _) (hm5.2.set4 g5 _ _ _ _ _ _ _ _) hblH.out (below_set4 g4 (Nat.le_refl _) _ _ _ _) (by omega)

theorem radd_any (a : Option Addr) (c : Nat) (a' : Option Addr) (c' : Nat) (b : Option Addr) (d : Nat) (b' : Option Addr) (d' : Nat) (p q : Rat) (w : World) (h1 : RM w a c a' c' p) (h2 : RM w b d b' d' q) (hp : Sz p) (hq : Sz q) :
    Calls Try.prog 37 #[.agg #[.bool (ng (rn p)), .slice a (LI (rn p)) c, .bool (ng (rd p)), .slice a' (LI (rd p)) c'], .agg #[.bool (ng (rn q)), .slice b (LI (rn q)) d, .bool (ng (rd q)), .slice b' (LI (rd q)) d']] w (RetRat w (p + q)) := by
  cases hi : isInt p
  · exact radd_a a c a' c' b d b' d' p q w h1 h2 hp hq hi
  · cases hj : isInt q
    · exact radd_b a c a' c' b d b' d' p q w h1 h2 hp hq hi hj
    · exact radd_int a c a' c' b d b' d' p q w h1 h2 hp hq hi hj

set_option maxHeartbeats 1600000 in
theorem rmul_int (a : Option Addr) (c : Nat) (a' : Option Addr) (c' : Nat) (b : Option Addr) (d : Nat) (b' : Option Addr) (d' : Nat) (p q : Rat) (w : World) (h1 : RM w a c a' c' p) (h2 : RM w b d b' d' q) (hp : Sz p) (hq : Sz q) (hi : isInt p = true) (hj : isInt q = true) :
    Calls Try.prog 43 #[.agg #[.bool (ng (rn p)), .slice a (LI (rn p)) c, .bool (ng (rd p)), .slice a' (LI (rd p)) c'], .agg #[.bool (ng (rn q)), .slice b (LI (rn q)) d, .bool (ng (rd q)), .slice b' (LI (rd q)) d']] w (RetRat w (p * q)) := by
  have h1n : IM w a c (rn p) := h1.1
  have h1d : IM w a' c' (rd p) := h1.2
  have h2n : IM w b d (rn q) := h2.1
  have h2d : IM w b' d' (rd q) := h2.2
  obtain ⟨s1, s2⟩ := hp
  obtain ⟨s3, s4⟩ := hq
  have hz := Lib.hid (rat_mul_int hi hj)
  obtain ⟨W, hW⟩ : ∃ W, W = ((w.alloc (Obj.cells #[Value.bool (ng (rn p)), Value.slice a (LI (rn p)) c, Value.bool (ng (rd p)), Value.slice a' (LI (rd p)) c'] 51)).alloc (Obj.cells #[Value.bool (ng (rn q)), Value.slice b (LI (rn q)) d, Value.bool (ng (rd q)), Value.slice b' (LI (rd q)) d'] 51)).alloc (Obj.cells #[Value.bool false, Value.slice none 0 0, Value.bool false, Value.slice none 0 0] 51) := ⟨_, rfl⟩
  have HR : Hid (Rg (w.heap.size + 1 + 1) 4 W W) := by rw [hW]; exact Rg.new4 _ _ _ (by simp)
  have e0 : W.cell? ⟨w.heap.size, 0, none⟩ = some (.bool (ng (rn p))) := by rw [hW]; simp [go_sem]
  have e1 : W.cell? ⟨w.heap.size, 1, none⟩ = some (.slice a (LI (rn p)) c) := by rw [hW]; simp [go_sem]
  have e2 : W.cell? ⟨w.heap.size, 2, none⟩ = some (.bool (ng (rd p))) := by rw [hW]; simp [go_sem]
  have e3 : W.cell? ⟨w.heap.size, 3, none⟩ = some (.slice a' (LI (rd p)) c') := by rw [hW]; simp [go_sem]
  have f0 : W.cell? ⟨w.heap.size + 1, 0, none⟩ = some (.bool (ng (rn q))) := by rw [hW]; simp [go_sem]
  have f1 : W.cell? ⟨w.heap.size + 1, 1, none⟩ = some (.slice b (LI (rn q)) d) := by rw [hW]; simp [go_sem]
  have f2 : W.cell? ⟨w.heap.size + 1, 2, none⟩ = some (.bool (ng (rd q))) := by rw [hW]; simp [go_sem]
  have f3 : W.cell? ⟨w.heap.size + 1, 3, none⟩ = some (.slice b' (LI (rd q)) d') := by rw [hW]; simp [go_sem]
  have hbl : Below w.heap.size w W := by rw [hW]; go_grown
  have hWH := Lib.hid hW
  have hblH := Lib.hid hbl
  clear hW
  go_enter Try.func43, Try.ntmps43
  go_wp2_with (first
    | (go_at_call 46; rw [← hWH.out]; (with_reducible refine (integer_any a c a' c' p _ (h1.up hbl)).mono ?_); rintro e wa ⟨rfl, hba⟩; have ka : Rg (w.heap.size + 1 + 1) 4 W wa := Rg.step HR.out (by omega) hba; have kaH := Lib.hid ka; obtain ⟨j1, j2, j3, j5, j4⟩ := ka)
    | (go_at_call 46; (with_reducible refine (integer_any b d b' d' q _ (h2.up (hbl.trans (j4.mono (by omega))))).mono ?_); rintro e wb ⟨rfl, hbb⟩; have kb : Rg (w.heap.size + 1 + 1) 4 W wb := Rg.step kaH.out (by omega) hbb; have kbH := Lib.hid kb; clear j1 j2 j3 j5; obtain ⟨i1, i2, i3, i5, i4⟩ := kb))
  refine (mul_any _ _ _ _ (rn p) (rn q) _ (h1.1.up (hbl.trans (i4.mono (by omega)))) (h2.1.up (hbl.trans (i4.mono (by omega)))) (by omega) (by omega)).mono ?_
  rintro e w3 ⟨x3, y3, rfl, hm3, hb3⟩
  have k3 := Lib.hid (Rg.step kbH.out (by omega) hb3)
  go_wp2_with (fail)
  have tf := fromInt_any _ _ _ _ hm3
  rw [hz.out] at tf
  refine tf.mono ?_
  rintro e w4 ⟨x4, y4, z4, t4, rfl, hm4, hb4⟩
  obtain ⟨g1, g2, g3, g5, g4⟩ := Rg.step k3.out (by omega) hb4
  clear i1 i2 i3 i5
  go_wp2_with (fail)
  refine bodyPost_ret (v := .agg #[.bool (ng (rn (p * q))), .slice x4 (LI (rn (p * q))) y4, .bool (ng (rd (p * q))), .slice z4 (LI (rd (p * q))) t4]) (by simp [results, Try.results43, go_sem, g2]) rfl ?_
  exact RetRat.fin (N := w.heap.size + 1 + 1) rfl rfl (hm4.1.set4 g5 _ _ _ _ _ _ _ _) (hm4.2.set4 g5 _ _ _ _ _ _ _ _) hblH.out (below_set4 g4 (Nat.le_refl _) _ _ _ _) (by omega)

set_option maxHeartbeats 3200000 in
theorem rmul_a (a : Option Addr) (c : Nat) (a' : Option Addr) (c' : Nat) (b : Option Addr) (d : Nat) (b' : Option Addr) (d' : Nat) (p q : Rat) (w : World) (h1 : RM w a c a' c' p) (h2 : RM w b d b' d' q) (hp : Sz p) (hq : Sz q) (hi : isInt p = false) :
    Calls Try.prog 43 #[.agg #[.bool (ng (rn p)), .slice a (LI (rn p)) c, .bool (ng (rd p)), .slice a' (LI (rd p)) c'], .agg #[.bool (ng (rn q)), .slice b (LI (rn q)) d, .bool (ng (rd q)), .slice b' (LI (rd q)) d']] w (RetRat w (p * q)) := by
  have h1n : IM w a c (rn p) := h1.1
  have h1d : IM w a' c' (rd p) := h1.2
  have h2n : IM w b d (rn q) := h2.1
  have h2d : IM w b' d' (rd q) := h2.2
  obtain ⟨s1, s2⟩ := hp
  obtain ⟨s3, s4⟩ := hq
  have hz := Lib.hid (rat_mul p q)
  have hpos : 0 < rd p * rd q := Int.mul_pos (rd_pos p) (rd_pos q)
  have l1 := LI_mul (rn p) (rd q)
  have l2 := LI_mul (rn q) (rd p)
  have l3 := LI_mul (rd p) (rd q)
  have l4 := LI_add (rn p * rd q) (rn q * rd p)
  have l5 := LI_mul (rn p) (rn q)
  obtain ⟨W, hW⟩ : ∃ W, W = ((w.alloc (Obj.cells #[Value.bool (ng (rn p)), Value.slice a (LI (rn p)) c, Value.bool (ng (rd p)), Value.slice a' (LI (rd p)) c'] 51)).alloc (Obj.cells #[Value.bool (ng (rn q)), Value.slice b (LI (rn q)) d, Value.bool (ng (rd q)), Value.slice b' (LI (rd q)) d'] 51)).alloc (Obj.cells #[Value.bool false, Value.slice none 0 0, Value.bool false, Value.slice none 0 0] 51) := ⟨_, rfl⟩
  have HR : Hid (Rg (w.heap.size + 1 + 1) 4 W W) := by rw [hW]; exact Rg.new4 _ _ _ (by simp)
  have e0 : W.cell? ⟨w.heap.size, 0, none⟩ = some (.bool (ng (rn p))) := by rw [hW]; simp [go_sem]
  have e1 : W.cell? ⟨w.heap.size, 1, none⟩ = some (.slice a (LI (rn p)) c) := by rw [hW]; simp [go_sem]
  have e2 : W.cell? ⟨w.heap.size, 2, none⟩ = some (.bool (ng (rd p))) := by rw [hW]; simp [go_sem]
  have e3 : W.cell? ⟨w.heap.size, 3, none⟩ = some (.slice a' (LI (rd p)) c') := by rw [hW]; simp [go_sem]
  have f0 : W.cell? ⟨w.heap.size + 1, 0, none⟩ = some (.bool (ng (rn q))) := by rw [hW]; simp [go_sem]
  have f1 : W.cell? ⟨w.heap.size + 1, 1, none⟩ = some (.slice b (LI (rn q)) d) := by rw [hW]; simp [go_sem]
  have f2 : W.cell? ⟨w.heap.size + 1, 2, none⟩ = some (.bool (ng (rd q))) := by rw [hW]; simp [go_sem]
  have f3 : W.cell? ⟨w.heap.size + 1, 3, none⟩ = some (.slice b' (LI (rd q)) d') := by rw [hW]; simp [go_sem]
  have hbl : Below w.heap.size w W := by rw [hW]; go_grown
  have hWH := Lib.hid hW
  have hblH := Lib.hid hbl
  clear hW
  go_enter Try.func43, Try.ntmps43
  go_wp2_with (first
    | (go_at_call 46; rw [← hWH.out]; (with_reducible refine (integer_any a c a' c' p _ (h1.up hbl)).mono ?_); rintro e wa ⟨rfl, hba⟩; have ka : Rg (w.heap.size + 1 + 1) 4 W wa := Rg.step HR.out (by omega) hba; have kaH := Lib.hid ka; obtain ⟨j1, j2, j3, j5, j4⟩ := ka)
    | (go_at_call 46; (with_reducible refine (integer_any b d b' d' q _ (h2.up (hbl.trans (j4.mono (by omega))))).mono ?_); rintro e wb ⟨rfl, hbb⟩; have kb : Rg (w.heap.size + 1 + 1) 4 W wb := Rg.step kaH.out (by omega) hbb; have kbH := Lib.hid kb; clear j1 j2 j3 j5; obtain ⟨i1, i2, i3, i5, i4⟩ := kb))
  go_region_held3 (fun w' => Rg (w.heap.size + 1 + 1) 4 W w')
    (first | exact kaH.out.drew | exact Rg.step (by assumption) (by omega) (by assumption) | exact Rg.set (Rg.set (Rg.set (Rg.set (by assumption) _) _) _) _)
    (first
      | (go_at_call 36; (with_reducible refine (mul_any _ _ _ _ (rn p) (rn q) _ (h1n.kp hbl (by assumption) (by omega)) (h2n.kp hbl (by assumption) (by omega)) (by omega) (by omega)).mono ?_); rintro e w1 ⟨x1, y1, rfl, hm1, hb1⟩)
      | (go_at_call 36; (with_reducible refine (mul_any _ _ _ _ (rd p) (rd q) _ (h1d.kp hbl (by assumption) (by omega)) (h2d.kp hbl (by assumption) (by omega)) (by omega) (by omega)).mono ?_); rintro e w2 ⟨x2, y2, rfl, hm2, hb2⟩; have hm1' := hm1.up hb2)
      | (go_at_call 35; (with_reducible refine (ratio_any _ _ _ _ _ _ _ hm1' hm2 (by omega) (by omega) hpos).mono ?_); rintro e w5 ⟨x5, y5, z5, t5, rfl, hm5, hb5⟩; have k5 : Rg (w.heap.size + 1 + 1) 4 W w5 := Rg.step (by assumption) (by omega) hb5; obtain ⟨g1, g2, g3, g5, g4⟩ := k5))
  go_wp2_with (fail)
  rw [hz.out]
  rw [hz.out] at hm5
  refine bodyPost_ret (v := .agg #[.bool (ng (rn (p * q))), .slice x5 (LI (rn (p * q))) y5, .bool (ng (rd (p * q))), .slice z5 (LI (rd (p * q))) t5]) (by simp [results, Try.results43, go_sem, g2]) rfl ?_
  exact RetRat.fin (N := w.heap.size + 1 + 1) rfl rfl (hm5.1.set4 g5 _ _ _ _ _ _ _ _) (hm5.2.set4 g5 _ _ _ _ _ _ _ _) hblH.out (below_set4 g4 (Nat.le_refl _) _ _ _ _) (by omega)

set_option maxHeartbeats 3200000 in
theorem rmul_b (a : Option Addr) (c : Nat) (a' : Option Addr) (c' : Nat) (b : Option Addr) (d : Nat) (b' : Option Addr) (d' : Nat) (p q : Rat) (w : World) (h1 : RM w a c a' c' p) (h2 : RM w b d b' d' q) (hp : Sz p) (hq : Sz q) (hi : isInt p = true) (hj : isInt q = false) :
    Calls Try.prog 43 #[.agg #[.bool (ng (rn p)), .slice a (LI (rn p)) c, .bool (ng (rd p)), .slice a' (LI (rd p)) c'], .agg #[.bool (ng (rn q)), .slice b (LI (rn q)) d, .bool (ng (rd q)), .slice b' (LI (rd q)) d']] w (RetRat w (p * q)) := by
  have h1n : IM w a c (rn p) := h1.1
  have h1d : IM w a' c' (rd p) := h1.2
  have h2n : IM w b d (rn q) := h2.1
  have h2d : IM w b' d' (rd q) := h2.2
  obtain ⟨s1, s2⟩ := hp
  obtain ⟨s3, s4⟩ := hq
  have hz := Lib.hid (rat_mul p q)
  have hpos : 0 < rd p * rd q := Int.mul_pos (rd_pos p) (rd_pos q)
  have l1 := LI_mul (rn p) (rd q)
  have l2 := LI_mul (rn q) (rd p)
  have l3 := LI_mul (rd p) (rd q)
  have l4 := LI_add (rn p * rd q) (rn q * rd p)
  have l5 := LI_mul (rn p) (rn q)
  obtain ⟨W, hW⟩ : ∃ W, W = ((w.alloc (Obj.cells #[Value.bool (ng (rn p)), Value.slice a (LI (rn p)) c, Value.bool (ng (rd p)), Value.slice a' (LI (rd p)) c'] 51)).alloc (Obj.cells #[Value.bool (ng (rn q)), Value.slice b (LI (rn q)) d, Value.bool (ng (rd q)), Value.slice b' (LI (rd q)) d'] 51)).alloc (Obj.cells #[Value.bool false, Value.slice none 0 0, Value.bool false, Value.slice none 0 0] 51) := ⟨_, rfl⟩
  have HR : Hid (Rg (w.heap.size + 1 + 1) 4 W W) := by rw [hW]; exact Rg.new4 _ _ _ (by simp)
  have e0 : W.cell? ⟨w.heap.size, 0, none⟩ = some (.bool (ng (rn p))) := by rw [hW]; simp [go_sem]
  have e1 : W.cell? ⟨w.heap.size, 1, none⟩ = some (.slice a (LI (rn p)) c) := by rw [hW]; simp [go_sem]
  have e2 : W.cell? ⟨w.heap.size, 2, none⟩ = some (.bool (ng (rd p))) := by rw [hW]; simp [go_sem]
  have e3 : W.cell? ⟨w.heap.size, 3, none⟩ = some (.slice a' (LI (rd p)) c') := by rw [hW]; simp [go_sem]
  have f0 : W.cell? ⟨w.heap.size + 1, 0, none⟩ = some (.bool (ng (rn q))) := by rw [hW]; simp [go_sem]
  have f1 : W.cell? ⟨w.heap.size + 1, 1, none⟩ = some (.slice b (LI (rn q)) d) := by rw [hW]; simp [go_sem]
  have f2 : W.cell? ⟨w.heap.size + 1, 2, none⟩ = some (.bool (ng (rd q))) := by rw [hW]; simp [go_sem]
  have f3 : W.cell? ⟨w.heap.size + 1, 3, none⟩ = some (.slice b' (LI (rd q)) d') := by rw [hW]; simp [go_sem]
  have hbl : Below w.heap.size w W := by rw [hW]; go_grown
  have hWH := Lib.hid hW
  have hblH := Lib.hid hbl
  clear hW
  go_enter Try.func43, Try.ntmps43
  go_wp2_with (first
    | (go_at_call 46; rw [← hWH.out]; (with_reducible refine (integer_any a c a' c' p _ (h1.up hbl)).mono ?_); rintro e wa ⟨rfl, hba⟩; have ka : Rg (w.heap.size + 1 + 1) 4 W wa := Rg.step HR.out (by omega) hba; have kaH := Lib.hid ka; obtain ⟨j1, j2, j3, j5, j4⟩ := ka)
    | (go_at_call 46; (with_reducible refine (integer_any b d b' d' q _ (h2.up (hbl.trans (j4.mono (by omega))))).mono ?_); rintro e wb ⟨rfl, hbb⟩; have kb : Rg (w.heap.size + 1 + 1) 4 W wb := Rg.step kaH.out (by omega) hbb; have kbH := Lib.hid kb; clear j1 j2 j3 j5; obtain ⟨i1, i2, i3, i5, i4⟩ := kb))
  go_region_held3 (fun w' => Rg (w.heap.size + 1 + 1) 4 W w')
    (first | exact kbH.out.drew | exact Rg.step (by assumption) (by omega) (by assumption) | exact Rg.set (Rg.set (Rg.set (Rg.set (by assumption) _) _) _) _)
    (first
      | (go_at_call 36; (with_reducible refine (mul_any _ _ _ _ (rn p) (rn q) _ (h1n.kp hbl (by assumption) (by omega)) (h2n.kp hbl (by assumption) (by omega)) (by omega) (by omega)).mono ?_); rintro e w1 ⟨x1, y1, rfl, hm1, hb1⟩)
      | (go_at_call 36; (with_reducible refine (mul_any _ _ _ _ (rd p) (rd q) _ (h1d.kp hbl (by assumption) (by omega)) (h2d.kp hbl (by assumption) (by omega)) (by omega) (by omega)).mono ?_); rintro e w2 ⟨x2, y2, rfl, hm2, hb2⟩; have hm1' := hm1.up hb2)
      | (go_at_call 35; (with_reducible refine (ratio_any _ _ _ _ _ _ _ hm1' hm2 (by omega) (by omega) hpos).mono ?_); rintro e w5 ⟨x5, y5, z5, t5, rfl, hm5, hb5⟩; have k5 : Rg (w.heap.size + 1 + 1) 4 W w5 := Rg.step (by assumption) (by omega) hb5; obtain ⟨g1, g2, g3, g5, g4⟩ := k5))
  go_wp2_with (fail)
  rw [hz.out]
  rw [hz.out] at hm5
  refine bodyPost_ret (v := .agg #[.bool (ng (rn (p * q))), .slice x5 (LI (rn (p * q))) y5, .bool (ng (rd (p * q))), .slice z5 (LI (rd (p * q))) t5]) (by simp [results, Try.results43, go_sem, g2]) rfl ?_
  exact RetRat.fin (N := w.heap.size + 1 + 1) rfl rfl (hm5.1.set4 g5 _ _ _ _ _ _ _ _) (hm5.2.set4 g5 _ _ _ _ _ _ _ _) hblH.out (below_set4 g4 (Nat.le_refl _) _ _ _ _) (by omega)

theorem rmul_any (a : Option Addr) (c : Nat) (a' : Option Addr) (c' : Nat) (b : Option Addr) (d : Nat) (b' : Option Addr) (d' : Nat) (p q : Rat) (w : World) (h1 : RM w a c a' c' p) (h2 : RM w b d b' d' q) (hp : Sz p) (hq : Sz q) :
    Calls Try.prog 43 #[.agg #[.bool (ng (rn p)), .slice a (LI (rn p)) c, .bool (ng (rd p)), .slice a' (LI (rd p)) c'], .agg #[.bool (ng (rn q)), .slice b (LI (rn q)) d, .bool (ng (rd q)), .slice b' (LI (rd q)) d']] w (RetRat w (p * q)) := by
  cases hi : isInt p
  · exact rmul_a a c a' c' b d b' d' p q w h1 h2 hp hq hi
  · cases hj : isInt q
    · exact rmul_b a c a' c' b d b' d' p q w h1 h2 hp hq hi hj
    · exact rmul_int a c a' c' b d b' d' p q w h1 h2 hp hq hi hj

end Go.Proofs.Ytkecdjdggkpdpab
