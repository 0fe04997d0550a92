/- Zq -/
import Derived.Test.YtbehfhmdilifkaaGreatQWl
set_option linter.unusedVariables false
/- Walks of the reference's fractions: Whole, AddQ, SubQ, MulQ, CmpQ. (Printed by wip/tools/gen_zq.py.) -/
namespace Go.Proofs.YtbehfhmdilifkaaGreat
open Go Go.RowKit Go.Proofs

/-- A pair of integers in memory. -/
def QM (w : World) (a : Option Addr) (c : Nat) (a' : Option Addr) (c' : Nat) (n d : Int) : Prop := ZM w a c n ∧ ZM w a' c' d
theorem QM.up {w w' : World} {a a' : Option Addr} {c c' : Nat} {n d : Int} (h : QM w a c a' c' n d) (hb : Below w.heap.size w w') : QM w' a c a' c' n d := ⟨h.1.up hb, h.2.up hb⟩
def RetQ (w : World) (n d : Int) (e : Ending) (w' : World) : Prop :=
  ∃ a c a' c', e = .returned (.agg #[.bool (ng n), .slice a (LZ n) c, .bool (ng d), .slice a' (LZ d) c']) ∧ QM w' a c a' c' n d ∧ Below w.heap.size w w'
/-- Sizes that the walks bear. -/
def SzQ (n d : Int) : Prop := LZ n ≤ 10000000 ∧ LZ d ≤ 10000000

theorem ZM.set4 {w : World} {a : Option Addr} {c N : Nat} {z : Int} (h : ZM w a c z) (hN : NoInt w N) (b0 b1 : Bool) (x0 x1 : Option Addr) (n0 n1 k0 k1 : Nat) :
    ZM ((((w.setCell ⟨N, 0, none⟩ (.bool b0)).setCell ⟨N, 1, none⟩ (.slice x0 n0 k0)).setCell ⟨N, 2, none⟩ (.bool b1)).setCell ⟨N, 3, none⟩ (.slice x1 n1 k1)) a c z := by
  have t1 := hN.set ⟨N, 0, none⟩ (.bool b0) (by intro _ _ h; cases h)
  have t2 := t1.set ⟨N, 1, none⟩ (.slice x0 n0 k0) (by intro _ _ h; cases h)
  have t3 := t2.set ⟨N, 2, none⟩ (.bool b1) (by intro _ _ h; cases h)
  exact (((h.setN hN _ _).setN t1 _ _).setN t2 _ _).setN t3 _ _
theorem RetQ.fin {w W w1 : World} {a a' : Option Addr} {c c' N : Nat} {n d : Int} (h1 : ZM w1 a c n) (h2 : ZM w1 a' c' d) (hb : Below w.heap.size w W) (hk : Below N W w1) (hN : w.heap.size ≤ N) :
    RetQ w n d (.returned (.agg #[.bool (ng n), .slice a (LZ n) c, .bool (ng d), .slice a' (LZ d) c'])) w1 := ⟨a, c, a', c', rfl, ⟨h1, h2⟩, hb.trans (hk.mono hN)⟩

set_option maxHeartbeats 3200000 in
theorem addq_any (a : Option Addr) (c : Nat) (a' : Option Addr) (c' : Nat) (b : Option Addr) (d : Nat) (b' : Option Addr) (d' : Nat) (n1 d1 n2 d2 : Int) (w : World) (h1 : QM w a c a' c' n1 d1) (h2 : QM w b d b' d' n2 d2) (hp : SzQ n1 d1) (hq : SzQ n2 d2) :
    Calls Tryz.prog 16 #[.agg #[Value.bool (ng n1), Value.slice a (LZ n1) c, Value.bool (ng d1), Value.slice a' (LZ d1) c'], .agg #[Value.bool (ng n2), Value.slice b (LZ n2) d, Value.bool (ng d2), Value.slice b' (LZ d2) d']] w (RetQ w (n1 * d2 + n2 * d1) (d1 * d2)) := by
  have h1n : ZM w a c n1 := h1.1
  have h1d : ZM w a' c' d1 := h1.2
  have h2n : ZM w b d n2 := h2.1
  have h2d : ZM w b' d' d2 := h2.2
  obtain ⟨s1, s2⟩ := hp
  obtain ⟨s3, s4⟩ := hq
  have l1 := LZ_mul n1 d2
  have l2 := LZ_mul n2 d1
  have l3 := LZ_mul d1 d2
  have l4 := LZ_mul n1 n2
  obtain ⟨W, hW⟩ : ∃ W, W = ((w.alloc (Obj.cells #[Value.bool (ng n1), Value.slice a (LZ n1) c, Value.bool (ng d1), Value.slice a' (LZ d1) c'] 36)).alloc (Obj.cells #[Value.bool (ng n2), Value.slice b (LZ n2) d, Value.bool (ng d2), Value.slice b' (LZ d2) d'] 36)).alloc (Obj.cells #[Value.bool false, Value.slice none 0 0, Value.bool false, Value.slice none 0 0] 36) := ⟨_, rfl⟩
  have HR : Hid (Rg (w.heap.size + 1 + 1) 4 W W) := by rw [hW]; exact Rg.new4 _ _ _ (by simp)
  have e0 : W.cell? ⟨w.heap.size, 0, none⟩ = some (Value.bool (ng n1)) := by rw [hW]; simp [go_sem]
  have e1 : W.cell? ⟨w.heap.size, 1, none⟩ = some (Value.slice a (LZ n1) c) := by rw [hW]; simp [go_sem]
  have e2 : W.cell? ⟨w.heap.size, 2, none⟩ = some (Value.bool (ng d1)) := by rw [hW]; simp [go_sem]
  have e3 : W.cell? ⟨w.heap.size, 3, none⟩ = some (Value.slice a' (LZ d1) c') := by rw [hW]; simp [go_sem]
  have f0 : W.cell? ⟨w.heap.size + 1, 0, none⟩ = some (Value.bool (ng n2)) := by rw [hW]; simp [go_sem]
  have f1 : W.cell? ⟨w.heap.size + 1, 1, none⟩ = some (Value.slice b (LZ n2) d) := by rw [hW]; simp [go_sem]
  have f2 : W.cell? ⟨w.heap.size + 1, 2, none⟩ = some (Value.bool (ng d2)) := by rw [hW]; simp [go_sem]
  have f3 : W.cell? ⟨w.heap.size + 1, 3, none⟩ = some (Value.slice b' (LZ d2) d') := by rw [hW]; simp [go_sem]
  have hbl : Below w.heap.size w W := by rw [hW]; go_grown
  have hWH := Lib.hid hW
  have hblH := Lib.hid hbl
  clear hW
  go_enter Tryz.func16, Tryz.ntmps16
  go_wp2_with (fail)
  rw [← hWH.out]
  go_region_held3 (fun w' => Rg (w.heap.size + 1 + 1) 4 W w')
    (first | exact HR.out.drew | exact Rg.step (by assumption) (by omega) (by assumption) | exact Rg.set (Rg.set (Rg.set (Rg.set (by assumption) _) _) _) _)
    (first
      | (go_at_call 36; (with_reducible refine (zmul_any _ _ _ _ n1 d2 _ (h1n.kp hbl (by assumption) (by omega)) (h2d.kp hbl (by assumption) (by omega)) (by omega) (by omega)).mono ?_); rintro e w1 ⟨x1, y1, rfl, hm1, hb1⟩)
      | (go_at_call 36; (with_reducible refine (zmul_any _ _ _ _ n2 d1 _ (h2n.kp hbl (by assumption) (by omega)) (h1d.kp hbl (by assumption) (by omega)) (by omega) (by omega)).mono ?_); rintro e w2 ⟨x2, y2, rfl, hm2, hb2⟩; have hm1' := hm1.up hb2)
      | (go_at_call 38; (with_reducible refine (zadd_any _ _ _ _ (n1 * d2) (n2 * d1) _ hm1' hm2 (by omega) (by omega)).mono ?_); rintro e w5 ⟨x5, y5, rfl, hm5, hb5⟩)
      | (go_at_call 36; (with_reducible refine (zmul_any _ _ _ _ d1 d2 _ (h1d.kp hbl (by assumption) (by omega)) (h2d.kp hbl (by assumption) (by omega)) (by omega) (by omega)).mono ?_); rintro e w6 ⟨x6, y6, rfl, hm6, hb6⟩; have hm5' := hm5.up hb6; obtain ⟨g1, g2, g3, g5, g4⟩ := Rg.step (by assumption) (by omega) hb6))
  go_wp2_with (fail)
  refine bodyPost_ret (v := .agg #[.bool (ng (n1 * d2 + n2 * d1)), .slice x5 (LZ (n1 * d2 + n2 * d1)) y5, .bool (ng (d1 * d2)), .slice x6 (LZ (d1 * d2)) y6]) (by simp [results, Tryz.results16, go_sem, g2]) rfl ?_
  exact RetQ.fin (N := w.heap.size + 1 + 1) (hm5'.set4 g5 _ _ _ _ _ _ _ _) (hm6.set4 g5 _ _ _ _ _ _ _ _) hblH.out (below_set4 g4 (Nat.le_refl _) _ _ _ _) (by omega)

set_option maxHeartbeats 3200000 in
theorem subq_any (a : Option Addr) (c : Nat) (a' : Option Addr) (c' : Nat) (b : Option Addr) (d : Nat) (b' : Option Addr) (d' : Nat) (n1 d1 n2 d2 : Int) (w : World) (h1 : QM w a c a' c' n1 d1) (h2 : QM w b d b' d' n2 d2) (hp : SzQ n1 d1) (hq : SzQ n2 d2) :
    Calls Tryz.prog 14 #[.agg #[Value.bool (ng n1), Value.slice a (LZ n1) c, Value.bool (ng d1), Value.slice a' (LZ d1) c'], .agg #[Value.bool (ng n2), Value.slice b (LZ n2) d, Value.bool (ng d2), Value.slice b' (LZ d2) d']] w (RetQ w (n1 * d2 - n2 * d1) (d1 * d2)) := by
  have h1n : ZM w a c n1 := h1.1
  have h1d : ZM w a' c' d1 := h1.2
  have h2n : ZM w b d n2 := h2.1
  have h2d : ZM w b' d' d2 := h2.2
  obtain ⟨s1, s2⟩ := hp
  obtain ⟨s3, s4⟩ := hq
  have l1 := LZ_mul n1 d2
  have l2 := LZ_mul n2 d1
  have l3 := LZ_mul d1 d2
  have l4 := LZ_mul n1 n2
  obtain ⟨W, hW⟩ : ∃ W, W = ((w.alloc (Obj.cells #[Value.bool (ng n1), Value.slice a (LZ n1) c, Value.bool (ng d1), Value.slice a' (LZ d1) c'] 36)).alloc (Obj.cells #[Value.bool (ng n2), Value.slice b (LZ n2) d, Value.bool (ng d2), Value.slice b' (LZ d2) d'] 36)).alloc (Obj.cells #[Value.bool false, Value.slice none 0 0, Value.bool false, Value.slice none 0 0] 36) := ⟨_, rfl⟩
  have HR : Hid (Rg (w.heap.size + 1 + 1) 4 W W) := by rw [hW]; exact Rg.new4 _ _ _ (by simp)
  have e0 : W.cell? ⟨w.heap.size, 0, none⟩ = some (Value.bool (ng n1)) := by rw [hW]; simp [go_sem]
  have e1 : W.cell? ⟨w.heap.size, 1, none⟩ = some (Value.slice a (LZ n1) c) := by rw [hW]; simp [go_sem]
  have e2 : W.cell? ⟨w.heap.size, 2, none⟩ = some (Value.bool (ng d1)) := by rw [hW]; simp [go_sem]
  have e3 : W.cell? ⟨w.heap.size, 3, none⟩ = some (Value.slice a' (LZ d1) c') := by rw [hW]; simp [go_sem]
  have f0 : W.cell? ⟨w.heap.size + 1, 0, none⟩ = some (Value.bool (ng n2)) := by rw [hW]; simp [go_sem]
  have f1 : W.cell? ⟨w.heap.size + 1, 1, none⟩ = some (Value.slice b (LZ n2) d) := by rw [hW]; simp [go_sem]
  have f2 : W.cell? ⟨w.heap.size + 1, 2, none⟩ = some (Value.bool (ng d2)) := by rw [hW]; simp [go_sem]
  have f3 : W.cell? ⟨w.heap.size + 1, 3, none⟩ = some (Value.slice b' (LZ d2) d') := by rw [hW]; simp [go_sem]
  have hbl : Below w.heap.size w W := by rw [hW]; go_grown
  have hWH := Lib.hid hW
  have hblH := Lib.hid hbl
  clear hW
  go_enter Tryz.func14, Tryz.ntmps14
  go_wp2_with (fail)
  rw [← hWH.out]
  go_region_held3 (fun w' => Rg (w.heap.size + 1 + 1) 4 W w')
    (first | exact HR.out.drew | exact Rg.step (by assumption) (by omega) (by assumption) | exact Rg.set (Rg.set (Rg.set (Rg.set (by assumption) _) _) _) _)
    (first
      | (go_at_call 36; (with_reducible refine (zmul_any _ _ _ _ n1 d2 _ (h1n.kp hbl (by assumption) (by omega)) (h2d.kp hbl (by assumption) (by omega)) (by omega) (by omega)).mono ?_); rintro e w1 ⟨x1, y1, rfl, hm1, hb1⟩)
      | (go_at_call 36; (with_reducible refine (zmul_any _ _ _ _ n2 d1 _ (h2n.kp hbl (by assumption) (by omega)) (h1d.kp hbl (by assumption) (by omega)) (by omega) (by omega)).mono ?_); rintro e w2 ⟨x2, y2, rfl, hm2, hb2⟩; have hm1' := hm1.up hb2)
      | (go_at_call 37; (with_reducible refine (zsub_any _ _ _ _ (n1 * d2) (n2 * d1) _ hm1' hm2 (by omega) (by omega)).mono ?_); rintro e w5 ⟨x5, y5, rfl, hm5, hb5⟩)
      | (go_at_call 36; (with_reducible refine (zmul_any _ _ _ _ d1 d2 _ (h1d.kp hbl (by assumption) (by omega)) (h2d.kp hbl (by assumption) (by omega)) (by omega) (by omega)).mono ?_); rintro e w6 ⟨x6, y6, rfl, hm6, hb6⟩; have hm5' := hm5.up hb6; obtain ⟨g1, g2, g3, g5, g4⟩ := Rg.step (by assumption) (by omega) hb6))
  go_wp2_with (fail)
  refine bodyPost_ret (v := .agg #[.bool (ng (n1 * d2 - n2 * d1)), .slice x5 (LZ (n1 * d2 - n2 * d1)) y5, .bool (ng (d1 * d2)), .slice x6 (LZ (d1 * d2)) y6]) (by simp [results, Tryz.results14, go_sem, g2]) rfl ?_
  exact RetQ.fin (N := w.heap.size + 1 + 1) (hm5'.set4 g5 _ _ _ _ _ _ _ _) (hm6.set4 g5 _ _ _ _ _ _ _ _) hblH.out (below_set4 g4 (Nat.le_refl _) _ _ _ _) (by omega)

set_option maxHeartbeats 3200000 in
theorem mulq_any (a : Option Addr) (c : Nat) (a' : Option Addr) (c' : Nat) (b : Option Addr) (d : Nat) (b' : Option Addr) (d' : Nat) (n1 d1 n2 d2 : Int) (w : World) (h1 : QM w a c a' c' n1 d1) (h2 : QM w b d b' d' n2 d2) (hp : SzQ n1 d1) (hq : SzQ n2 d2) :
    Calls Tryz.prog 15 #[.agg #[Value.bool (ng n1), Value.slice a (LZ n1) c, Value.bool (ng d1), Value.slice a' (LZ d1) c'], .agg #[Value.bool (ng n2), Value.slice b (LZ n2) d, Value.bool (ng d2), Value.slice b' (LZ d2) d']] w (RetQ w (n1 * n2) (d1 * d2)) := by
  have h1n : ZM w a c n1 := h1.1
  have h1d : ZM w a' c' d1 := h1.2
  have h2n : ZM w b d n2 := h2.1
  have h2d : ZM w b' d' d2 := h2.2
  obtain ⟨s1, s2⟩ := hp
  obtain ⟨s3, s4⟩ := hq
  have l1 := LZ_mul n1 d2
  have l2 := LZ_mul n2 d1
  have l3 := LZ_mul d1 d2
  have l4 := LZ_mul n1 n2
  obtain ⟨W, hW⟩ : ∃ W, W = ((w.alloc (Obj.cells #[Value.bool (ng n1), Value.slice a (LZ n1) c, Value.bool (ng d1), Value.slice a' (LZ d1) c'] 36)).alloc (Obj.cells #[Value.bool (ng n2), Value.slice b (LZ n2) d, Value.bool (ng d2), Value.slice b' (LZ d2) d'] 36)).alloc (Obj.cells #[Value.bool false, Value.slice none 0 0, Value.bool false, Value.slice none 0 0] 36) := ⟨_, rfl⟩
  have HR : Hid (Rg (w.heap.size + 1 + 1) 4 W W) := by rw [hW]; exact Rg.new4 _ _ _ (by simp)
  have e0 : W.cell? ⟨w.heap.size, 0, none⟩ = some (Value.bool (ng n1)) := by rw [hW]; simp [go_sem]
  have e1 : W.cell? ⟨w.heap.size, 1, none⟩ = some (Value.slice a (LZ n1) c) := by rw [hW]; simp [go_sem]
  have e2 : W.cell? ⟨w.heap.size, 2, none⟩ = some (Value.bool (ng d1)) := by rw [hW]; simp [go_sem]
  have e3 : W.cell? ⟨w.heap.size, 3, none⟩ = some (Value.slice a' (LZ d1) c') := by rw [hW]; simp [go_sem]
  have f0 : W.cell? ⟨w.heap.size + 1, 0, none⟩ = some (Value.bool (ng n2)) := by rw [hW]; simp [go_sem]
  have f1 : W.cell? ⟨w.heap.size + 1, 1, none⟩ = some (Value.slice b (LZ n2) d) := by rw [hW]; simp [go_sem]
  have f2 : W.cell? ⟨w.heap.size + 1, 2, none⟩ = some (Value.bool (ng d2)) := by rw [hW]; simp [go_sem]
  have f3 : W.cell? ⟨w.heap.size + 1, 3, none⟩ = some (Value.slice b' (LZ d2) d') := by rw [hW]; simp [go_sem]
  have hbl : Below w.heap.size w W := by rw [hW]; go_grown
  have hWH := Lib.hid hW
  have hblH := Lib.hid hbl
  clear hW
  go_enter Tryz.func15, Tryz.ntmps15
  go_wp2_with (fail)
  rw [← hWH.out]
  go_region_held3 (fun w' => Rg (w.heap.size + 1 + 1) 4 W w')
    (first | exact HR.out.drew | exact Rg.step (by assumption) (by omega) (by assumption) | exact Rg.set (Rg.set (Rg.set (Rg.set (by assumption) _) _) _) _)
    (first
      | (go_at_call 36; (with_reducible refine (zmul_any _ _ _ _ n1 n2 _ (h1n.kp hbl (by assumption) (by omega)) (h2n.kp hbl (by assumption) (by omega)) (by omega) (by omega)).mono ?_); rintro e w1 ⟨x1, y1, rfl, hm1, hb1⟩)
      | (go_at_call 36; (with_reducible refine (zmul_any _ _ _ _ d1 d2 _ (h1d.kp hbl (by assumption) (by omega)) (h2d.kp hbl (by assumption) (by omega)) (by omega) (by omega)).mono ?_); rintro e w6 ⟨x6, y6, rfl, hm6, hb6⟩; have hm1' := hm1.up hb6; obtain ⟨g1, g2, g3, g5, g4⟩ := Rg.step (by assumption) (by omega) hb6))
  go_wp2_with (fail)
  refine bodyPost_ret (v := .agg #[.bool (ng (n1 * n2)), .slice x1 (LZ (n1 * n2)) y1, .bool (ng (d1 * d2)), .slice x6 (LZ (d1 * d2)) y6]) (by simp [results, Tryz.results15, go_sem, g2]) rfl ?_
  exact RetQ.fin (N := w.heap.size + 1 + 1) (hm1'.set4 g5 _ _ _ _ _ _ _ _) (hm6.set4 g5 _ _ _ _ _ _ _ _) hblH.out (below_set4 g4 (Nat.le_refl _) _ _ _ _) (by omega)

theorem ZM.kqZ {W w' : World} {a : Option Addr} {c : Nat} {z : Int} (h : ZM W a c z) (hk : Kq W w') : ZM w' a c z := h.up hk.2

set_option maxHeartbeats 3200000 in
theorem cmpq_any (a : Option Addr) (c : Nat) (a' : Option Addr) (c' : Nat) (b : Option Addr) (d : Nat) (b' : Option Addr) (d' : Nat) (n1 d1 n2 d2 : Int) (w : World) (h1 : QM w a c a' c' n1 d1) (h2 : QM w b d b' d' n2 d2) (hp : SzQ n1 d1) (hq : SzQ n2 d2) :
    Calls Tryz.prog 13 #[.agg #[Value.bool (ng n1), Value.slice a (LZ n1) c, Value.bool (ng d1), Value.slice a' (LZ d1) c'], .agg #[Value.bool (ng n2), Value.slice b (LZ n2) d, Value.bool (ng d2), Value.slice b' (LZ d2) d']] w (RetNum w (sg (n1 * d2 - n2 * d1))) := by
  have h1n : ZM w a c n1 := h1.1
  have h1d : ZM w a' c' d1 := h1.2
  have h2n : ZM w b d n2 := h2.1
  have h2d : ZM w b' d' d2 := h2.2
  obtain ⟨s1, s2⟩ := hp
  obtain ⟨s3, s4⟩ := hq
  have l1 := LZ_mul n1 d2
  have l2 := LZ_mul n2 d1
  have l3 := LZ_mul d1 d2
  have l4 := LZ_mul n1 n2
  obtain ⟨W, hW⟩ : ∃ W, W = ((w.alloc (Obj.cells #[Value.bool (ng n1), Value.slice a (LZ n1) c, Value.bool (ng d1), Value.slice a' (LZ d1) c'] 36)).alloc (Obj.cells #[Value.bool (ng n2), Value.slice b (LZ n2) d, Value.bool (ng d2), Value.slice b' (LZ d2) d'] 36)) := ⟨_, rfl⟩
  have e0 : W.cell? ⟨w.heap.size, 0, none⟩ = some (Value.bool (ng n1)) := by rw [hW]; simp [go_sem]
  have e1 : W.cell? ⟨w.heap.size, 1, none⟩ = some (Value.slice a (LZ n1) c) := by rw [hW]; simp [go_sem]
  have e2 : W.cell? ⟨w.heap.size, 2, none⟩ = some (Value.bool (ng d1)) := by rw [hW]; simp [go_sem]
  have e3 : W.cell? ⟨w.heap.size, 3, none⟩ = some (Value.slice a' (LZ d1) c') := by rw [hW]; simp [go_sem]
  have f0 : W.cell? ⟨w.heap.size + 1, 0, none⟩ = some (Value.bool (ng n2)) := by rw [hW]; simp [go_sem]
  have f1 : W.cell? ⟨w.heap.size + 1, 1, none⟩ = some (Value.slice b (LZ n2) d) := by rw [hW]; simp [go_sem]
  have f2 : W.cell? ⟨w.heap.size + 1, 2, none⟩ = some (Value.bool (ng d2)) := by rw [hW]; simp [go_sem]
  have f3 : W.cell? ⟨w.heap.size + 1, 3, none⟩ = some (Value.slice b' (LZ d2) d') := by rw [hW]; simp [go_sem]
  have hbl : Below w.heap.size w W := by rw [hW]; go_grown
  have hz1 : w.heap.size + 1 < W.heap.size := by rw [hW]; simp
  have hz0 : w.heap.size < W.heap.size := by omega
  have hWH := Lib.hid hW
  have hblH := Lib.hid hbl
  clear hW
  go_enter Tryz.func13, Tryz.ntmps13
  go_wp2_with (fail)
  rw [← hWH.out]
  go_region_held3 (fun w' => Kq W w')
    (first | (with_reducible exact Kq.drew _) | (with_reducible exact k5.out) | (with_reducible exact Kq.step (by assumption) (by assumption)))
    (first
      | (go_at_call 36; (with_reducible refine (zmul_any _ _ _ _ n1 d2 _ ((h1n.up hbl).kqZ (by assumption)) ((h2d.up hbl).kqZ (by assumption)) (by omega) (by omega)).mono ?_); rintro e w1 ⟨x1, y1, rfl, hm1, hb1⟩)
      | (go_at_call 36; (with_reducible refine (zmul_any _ _ _ _ n2 d1 _ ((h2n.up hbl).kqZ (by assumption)) ((h1d.up hbl).kqZ (by assumption)) (by omega) (by omega)).mono ?_); rintro e w2 ⟨x2, y2, rfl, hm2, hb2⟩; have hm1' := hm1.up hb2)
      | (go_at_call 35; (with_reducible refine (zcmp_any _ _ _ _ (n1 * d2) (n2 * d1) _ hm1' hm2 (by omega) (by omega)).mono ?_); rintro e w5 ⟨rfl, hb5⟩; have k5 : Hid (Kq W w5) := Kq.step (by assumption) hb5))
  go_wp2_with (fail)
  go_ret
  exact ⟨rfl, hblH.out.trans (k5.out.2.mono hblH.out.size)⟩

set_option maxHeartbeats 1600000 in
theorem wholeq_any (n : Nat) (w : World) (hn : n ≤ 4611686018427387904) : Calls Tryz.prog 11 #[.int .i64 (n : Nat)] w (RetQ w (n : Nat) ((1 : Nat) : Int)) := by
  have HR : Hid (Rg w.heap.size 4 (w.alloc (Obj.cells #[.bool false, .slice none 0 0, .bool false, .slice none 0 0] 36)) (w.alloc (Obj.cells #[.bool false, .slice none 0 0, .bool false, .slice none 0 0] 36))) := Rg.new4 _ _ _ rfl
  have hbl : Below w.heap.size w (w.alloc (Obj.cells #[.bool false, .slice none 0 0, .bool false, .slice none 0 0] 36)) := by go_grown
  have hblH := Lib.hid hbl
  have hone := Lib.hid (fun v : World => zint_any 1 v (by omega))
  clear hbl
  go_enter Tryz.func11, Tryz.ntmps11
  go_wp2_with (first
    | (go_at_call 34; (with_reducible refine (zint_any n _ hn).mono ?_); rintro e w1 ⟨a1, c1, rfl, hm1, hb1⟩; have k1 := Lib.hid (Rg.step HR.out (by omega) hb1))
    | (go_at_call 34; (refine (hone.out _).mono ?_); rintro e w2 ⟨a2, c2, rfl, hm2, hb2⟩; have hm1' := hm1.up hb2; obtain ⟨g1, g2, g3, g5, g4⟩ := Rg.step k1.out (by omega) hb2))
  refine bodyPost_ret (v := .agg #[.bool (ng (n : Nat)), .slice a1 (LZ (n : Nat)) c1, .bool (ng ((1 : Nat) : Int)), .slice a2 (LZ ((1 : Nat) : Int)) c2]) (by simp [results, Tryz.results11, go_sem, g2]) rfl ?_
  exact RetQ.fin (N := w.heap.size) (hm1'.set4 g5 _ _ _ _ _ _ _ _) (hm2.set4 g5 _ _ _ _ _ _ _ _) hblH.out (below_set4 g4 (Nat.le_refl _) _ _ _ _) (by omega)

end Go.Proofs.YtbehfhmdilifkaaGreat
