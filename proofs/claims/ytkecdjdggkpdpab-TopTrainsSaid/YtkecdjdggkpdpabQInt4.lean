/- Int4 -/
import Derived.Test.YtkecdjdggkpdpabQWc
import Derived.Deep.CutBlock
import Derived.Deep.CutRange
set_option linter.unusedVariables false
/- Walk of the program's integers: Quo, where it leaves no rest. -/
namespace Go.Proofs.Ytkecdjdggkpdpab
open Go Go.RowKit Go.Proofs

/-- Two structs of two cells for parameters, and two for the results. -/
theorem boxed4 (w : World) (x0 x1 y0 y1 : Value) (T U V : TypeId) :
    ∃ W, W = ((((w.alloc (Obj.cells #[x0, x1] T)).alloc (Obj.cells #[y0, y1] U)).alloc (Obj.cells #[.bool false, .slice none 0 0] V)).alloc (Obj.cells #[.bool false, .slice none 0 0] V)) ∧ Below w.heap.size w W ∧
      W.cell? ⟨w.heap.size, 0, none⟩ = some x0 ∧ W.cell? ⟨w.heap.size, 1, none⟩ = some x1 ∧ W.cell? ⟨w.heap.size + 1, 0, none⟩ = some y0 ∧ W.cell? ⟨w.heap.size + 1, 1, none⟩ = some y1 ∧
      W.heap.size = w.heap.size + 4 := by
  refine ⟨_, rfl, ?_, ?_, ?_, ?_, ?_, ?_⟩
  · go_grown
  · simp [go_sem]
  · simp [go_sem]
  · simp [go_sem]
  · simp [go_sem]
  · simp

def madeB (s : Bool) (n : Nat) : Bool := s && decide (0 < L B32 n)

set_option maxHeartbeats 400000 in
/-- What 'made' leaves, to the cell. -/
theorem made_eq (s : Bool) (a : Option Addr) (c n : Nat) (w : World) :
    Calls Try.prog 53 #[.bool s, .slice a (L B32 n) c] w fun e w' => e = .returned (.agg #[.bool (madeB s n), .slice a (L B32 n) c]) ∧ w' = w.alloc (.cells #[.bool (madeB s n), .slice a (L B32 n) c] 49) := by
  cases s
  · have hb : madeB false n = false := rfl
    rw [hb]
    go_enter Try.func53, Try.ntmps53
    go_wp2
    go_returns
    exact ⟨rfl, rfl⟩
  · by_cases hL : 0 < L B32 n
    · have hb : madeB true n = true := by simp [madeB, hL]
      rw [hb]
      go_enter Try.func53, Try.ntmps53
      go_wp2
      go_returns
      exact ⟨rfl, rfl⟩
    · have hb : madeB true n = false := by simp [madeB]; omega
      rw [hb]
      go_enter Try.func53, Try.ntmps53
      go_wp2
      go_returns
      exact ⟨rfl, rfl⟩

def QuoPost (w : World) (z : Int) (e : Ending) (w' : World) : Prop :=
  ∃ a c a' c', e = .returned (.tuple #[.agg #[.bool (ng z), .slice a (LI z) c], .agg #[.bool false, .slice a' 0 c']]) ∧ IM w' a c z ∧ Below w.heap.size w w'

theorem madeB_ng (s : Bool) (n : Nat) (z : Int) (h : sgn s n = z) : madeB s n = ng z ∧ L B32 n = LI z ∧ ∀ w a c, Mag w a c n → IM w a c z := by
  subst h
  refine ⟨?_, ?_, fun w a c hm => ?_⟩
  · rw [ng_sgn, madeB]
    congr 1
    rw [decide_eq_decide]
    have := L_eq_zero two_le_B32 (n := n)
    omega
  · unfold LI; rw [natAbs_sgn]
  · unfold IM; rw [natAbs_sgn]; exact hm

set_option maxHeartbeats 16000000 in
theorem quo_exact (a1 a2 : Option Addr) (c1 c2 : Nat) (x y : Int) (w : World) (h1 : IM w a1 c1 x) (h2 : IM w a2 c2 y) (hb1 : LI x ≤ 1000000000) (hb2 : LI y ≤ 1000000000) (hy : 0 < y) (hxy : x % y = 0) :
    Calls Try.prog 56 #[.agg #[.bool (ng x), .slice a1 (LI x) c1], .agg #[.bool (ng y), .slice a2 (LI y) c2]] w (QuoPost w (x / y)) := by
  have hny : ng y = false := by simp [ng]; omega
  have hr0 : x.natAbs % y.natAbs = 0 := by
    have : y ∣ x := Int.dvd_of_emod_eq_zero hxy
    exact Nat.mod_eq_zero_of_dvd (Int.natAbs_dvd_natAbs.2 this)
  have hq : Hid (sgn (ng x) (x.natAbs / y.natAbs) = x / y) := by
    obtain ⟨k, hk⟩ := Int.dvd_of_emod_eq_zero hxy
    show sgn (ng x) (x.natAbs / y.natAbs) = x / y
    have hyn : 0 < y.natAbs := by omega
    have e1 : x.natAbs / y.natAbs = k.natAbs := by rw [hk, Int.natAbs_mul, Nat.mul_div_cancel_left _ hyn]
    have e2 : x / y = k := by rw [hk, Int.mul_ediv_cancel_left _ (by omega)]
    have e3 : ng x = ng k := by
      unfold ng
      rw [decide_eq_decide, hk]
      constructor
      · intro h
        by_cases h1 : k < 0
        · exact h1
        · have := Int.mul_nonneg (Int.le_of_lt hy) (by omega : 0 ≤ k); omega
      · intro h; exact Int.mul_neg_of_pos_of_neg hy h
    rw [e1, e2, e3, sgn_ng]
  have hr0H := Lib.hid hr0
  obtain ⟨W, hW, hbl, e0, e1, e2, e3, hsz⟩ := boxed4 w (Value.bool (ng x)) (Value.slice a1 (LI x) c1) (Value.bool (ng y)) (Value.slice a2 (LI y) c2) 49 49 49
  rw [hny] at hW e2 ⊢
  have hWH := Lib.hid hW
  have hblH := Lib.hid hbl
  have hszH := Lib.hid hsz
  clear hW hr0 hsz
  have hL1 : L B32 (x.natAbs / y.natAbs) ≤ 4000000000 := Nat.le_trans (L_mono two_le_B32 (Nat.div_le_self _ _)) (Nat.le_trans hb1 (by omega))
  go_enter Try.func56, Try.ntmps56
  go_wp2_with (first | (go_at_call 70; rw [← hWH.out]; (with_reducible refine (part_int _ _ _ _ _ _ _ (h1.up hbl) (h2.up hbl) hb1 hb2 (by omega)).mono ?_); rintro e w3 ⟨aq, cq, ar, cr, rfl, hm1, hm2, hb3⟩))
  rw [hr0H.out]
  rw [hr0H.out] at hm2
  obtain ⟨hc3, _⟩ := bcell hb3
  rw [hszH.out] at hc3
  have f0 : w3.cell? ⟨w.heap.size, 0, none⟩ = some (.bool (ng x)) := by rw [hc3 _ _ (by omega)]; exact e0
  have f1 : w3.cell? ⟨w.heap.size + 1, 0, none⟩ = some (.bool false) := by rw [hc3 _ _ (by omega)]; exact e2
  have z3 := hb3.size
  rw [hszH.out] at z3
  have l0 : w.heap.size < w3.heap.size := by omega
  have l1 : w.heap.size + 1 < w3.heap.size := by omega
  clear hc3 e0 e1 e2 e3
  have hm1H := Lib.hid hm1
  have hnyH := Lib.hid hny
  have hr0' := Lib.hid hr0H.out
  generalize hQ : x.natAbs / y.natAbs = Q at *
  have hQH := Lib.hid hQ
  have hb3H := Lib.hid hb3
  clear hQ hm1 hm2 hb3 hny hr0H
  go_cut [8, 9] from 18 to 28 (fun s8 s9 wc => ∃ (p8 p9 : Nat), s8 = .pointer (some ⟨p8, 0, none⟩) ∧ s9 = .pointer (some ⟨p9, 0, none⟩) ∧
    wc.cell? ⟨p8, 0, none⟩ = some (.bool (madeB (ng x) Q)) ∧ wc.cell? ⟨p8, 1, none⟩ = some (.slice aq (L B32 Q) cq) ∧ wc.cell? ⟨p9, 0, none⟩ = some (.bool (madeB (ng x) 0)) ∧ wc.cell? ⟨p9, 1, none⟩ = some (.slice ar (L B32 0) cr) ∧
    Below w3.heap.size w3 wc ∧ w.heap.size + 3 < p8 ∧ w.heap.size + 3 < p9)
  case first =>
    clear hb3H h1 h2 hbl hm1H hr0' hWH hblH hszH hq hL1
    go_region_held3 (fun w' => Kq w3 w')
      (first | exact Kq.drew _ | (refine Kq.mk ?_; repeat' (first | exact Below.refl _ _ | (with_reducible refine Below.drew ?_) | (with_reducible refine Below.alloc ?_ ?_ _) | exact Nat.le_refl _ | omega | (simp; done) | (simp; omega))))
      (first
        | (go_at_call 53; (with_reducible refine (made_eq _ aq _ _ _).mono ?_); rintro e w4 ⟨rfl, rfl⟩)
        | (go_at_call 53; (with_reducible refine (made_eq _ ar _ 0 _).mono ?_); rintro e w5 ⟨rfl, rfl⟩))
    all_goals
      go_wp2_with (fail)
      go_meet
      refine ⟨_, _, rfl, rfl, by simp [go_sem], by simp [go_sem], by simp [go_sem], by simp [go_sem], ?_, by omega, by omega⟩
      repeat' (first | exact Below.refl _ _ | (with_reducible refine Below.drew ?_) | (with_reducible refine Below.alloc ?_ ?_ _) | exact Nat.le_refl _ | omega | (simp; done) | (simp; omega))
  case rest =>
    obtain ⟨p8, p9, rfl, rfl, k0, k1, k2, k3, hbw, q8, q9⟩ := hcut
    have hl0 : L B32 0 = 0 := L_zero _
    have hmk0 : madeB (ng x) 0 = false := by simp [madeB, L_zero]
    rw [hl0] at k3
    rw [hmk0] at k2
    have hl : ¬ (0 < L B32 0) := by rw [L_zero]; omega
    clear hmk0 f0 f1
    rw [hl0]
    clear hl0 hl
    -- the results' blocks
    have hW3 : Below W.heap.size W wc := hb3H.out.trans (hbw.mono hb3H.out.size)
    obtain ⟨hcW, hfW⟩ := bcell hW3
    rw [hszH.out] at hcW hfW
    have n0 : wc.cell? ⟨w.heap.size + 1 + 1, 0, none⟩ = some (.bool false) := by rw [hcW _ _ (by omega), hWH.out]; simp [go_sem]
    have n1 : wc.cell? ⟨w.heap.size + 1 + 1, 1, none⟩ = some (.slice none 0 0) := by rw [hcW _ _ (by omega), hWH.out]; simp [go_sem]
    have n2 : wc.cell? ⟨w.heap.size + 1 + 1 + 1, 0, none⟩ = some (.bool false) := by rw [hcW _ _ (by omega), hWH.out]; simp [go_sem]
    have n3 : wc.cell? ⟨w.heap.size + 1 + 1 + 1, 1, none⟩ = some (.slice none 0 0) := by rw [hcW _ _ (by omega), hWH.out]; simp [go_sem]
    have m0 : wc.frozen? ⟨w.heap.size + 1 + 1, 0, none⟩ = false := by rw [hfW _ _ (by omega), hWH.out]; simp [go_sem]
    have m1 : wc.frozen? ⟨w.heap.size + 1 + 1, 1, none⟩ = false := by rw [hfW _ _ (by omega), hWH.out]; simp [go_sem]
    have m2 : wc.frozen? ⟨w.heap.size + 1 + 1 + 1, 0, none⟩ = false := by rw [hfW _ _ (by omega), hWH.out]; simp [go_sem]
    have m3 : wc.frozen? ⟨w.heap.size + 1 + 1 + 1, 1, none⟩ = false := by rw [hfW _ _ (by omega), hWH.out]; simp [go_sem]
    have u0 : NoInt W (w.heap.size + 1 + 1) := by
      refine noInt_zero (T := 49) (f := (0, 0)) ?_
      rw [hWH.out, Below.heap_alloc _ _ _ (by simp)]
      exact heap_at_new _ _ _ (by simp)
    have u1 : NoInt W (w.heap.size + 1 + 1 + 1) := by
      refine noInt_zero (T := 49) (f := (0, 0)) ?_
      rw [hWH.out]
      exact heap_at_new _ _ _ (by simp)
    have u2 : NoInt wc (w.heap.size + 1 + 1) := fun o k z hc => by
      rw [hcW _ _ (by omega)] at hc; exact u0 o k z hc
    have u3 : NoInt wc (w.heap.size + 1 + 1 + 1) := fun o k z hc => by
      rw [hcW _ _ (by omega)] at hc; exact u1 o k z hc
    have v1 : w.heap.size + 1 + 1 ≠ p8 := by omega
    have v2 : w.heap.size + 1 + 1 ≠ p9 := by omega
    have v3 : w.heap.size + 1 + 1 + 1 ≠ p8 := by omega
    have v4 : w.heap.size + 1 + 1 + 1 ≠ p9 := by omega
    clear hcW hfW
    go_wp2_with (fail)
    go_region
    all_goals
      go_wp2_with (fail)
      refine bodyPost_ret (v := .tuple #[.agg #[.bool (madeB (ng x) Q), .slice aq (L B32 Q) cq], .agg #[.bool false, .slice ar 0 cr]]) (by simp [results, Try.results56, go_sem, n0, n1, n2, n3]) rfl ?_
      obtain ⟨x1, x2, x3⟩ := madeB_ng (ng x) Q (x / y) hq.out
      refine ⟨aq, cq, ar, cr, by rw [x1, x2], ?_, ?_⟩
      · have y0 := hm1H.out.up hbw
        have y1 := (y0.setN u2 0 (.bool (madeB (ng x) Q))).setN (u2.set _ _ (by intro _ _ h; cases h)) 1 (.slice aq (L B32 Q) cq)
        have y2 := (y1.setN ((u3.set _ _ (by intro _ _ h; cases h)).set _ _ (by intro _ _ h; cases h)) 0 (.bool false)).setN (((u3.set _ _ (by intro _ _ h; cases h)).set _ _ (by intro _ _ h; cases h)).set _ _ (by intro _ _ h; cases h)) 1 (.slice ar 0 cr)
        exact x3 _ _ _ y2
      · have y0 : Below w.heap.size w wc := hblH.out.trans (hW3.mono hblH.out.size)
        exact ((((y0.setCell (by simp; omega) _).setCell (by simp; omega) _).setCell (by simp; omega) _).setCell (by simp; omega) _).drew

end Go.Proofs.Ytkecdjdggkpdpab
