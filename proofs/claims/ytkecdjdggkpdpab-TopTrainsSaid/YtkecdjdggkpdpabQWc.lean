/- Int Int2 Int3 -/
import Derived.Test.YtkecdjdggkpdpabQNumG
import Derived.StillTailTactics
import Derived.Deep.LoopGhost
set_option linter.unusedVariables false
/- Walks of the program's integers: made, Neg, Sign, Add, Sub, Mul, Cmp. -/
namespace Go.Proofs.Ytkecdjdggkpdpab
open Go Go.RowKit Go.Proofs

/-- Below 0? Kept from the walk. -/
def ng (z : Int) : Bool := decide (z < 0)
/-- How many limbs an integer has. -/
def LI (z : Int) : Nat := L B32 z.natAbs
/-- The slice holds an integer's size. -/
def IM (w : World) (a : Option Addr) (c : Nat) (z : Int) : Prop := Mag w a c z.natAbs
/-- The integer of a sign and a size. -/
def sgn (s : Bool) (n : Nat) : Int := if s then -(n : Int) else n

theorem sgn_ng (z : Int) : sgn (ng z) z.natAbs = z := by
  unfold sgn ng
  by_cases h : z < 0 <;> simp [h] <;> omega

theorem natAbs_sgn (s : Bool) (n : Nat) : (sgn s n).natAbs = n := by
  unfold sgn; split <;> omega

theorem ng_sgn (s : Bool) (n : Nat) : ng (sgn s n) = (s && decide (0 < n)) := by
  unfold sgn ng
  cases s
  · simp
  · simp

def RetInt (w : World) (z : Int) (e : Ending) (w' : World) : Prop :=
  ∃ a c, e = .returned (.agg #[.bool (ng z), .slice a (LI z) c]) ∧ IM w' a c z ∧ Below w.heap.size w w'

theorem IM.below {w w' : World} {a : Option Addr} {c B : Nat} {z : Int} (h : IM w a c z) (hb : Below B w w') (hB : w.heap.size ≤ B := by exact Nat.le_refl _) : IM w' a c z := Mag.below h hb hB

theorem IM.kp {w W w' : World} {a : Option Addr} {c N k : Nat} {z : Int} (h : IM w a c z) (hb : Below w.heap.size w W) (hk : Rg N k W w') (hN : w.heap.size ≤ N) : IM w' a c z := Mag.kp h hb hk hN


theorem IM.setN {w : World} {a : Option Addr} {c N : Nat} {z : Int} (h : IM w a c z) (hN : NoInt w N) (k : Nat) (v : Value) : IM (w.setCell ⟨N, k, none⟩ v) a c z := Mag.setN h hN k v

theorem noInt2 {w : World} {N : Nat} {x y : Value} {T : TypeId} {f : Nat × Nat} (h : w.heap[N]? = some (.cells #[x, y] T f)) (hx : ∀ k z, x ≠ .int k z) (hy : ∀ k z, y ≠ .int k z) : NoInt w N := fun o k z hc => by
  rw [cell_of_row w N o _ _ _ h] at hc
  rcases o with _ | _ | o
  · injection hc with hc; exact hx k z hc
  · injection hc with hc; exact hy k z hc
  · simp at hc

theorem heap_at_new (W : World) (o : Obj) (n : Nat) (hn : W.heap.size = n) : (W.alloc o).heap[n]? = some o := by subst hn; exact heap_alloc_new W o

theorem noInt_zero {w : World} {N : Nat} {T : TypeId} {f : Nat × Nat} (h : w.heap[N]? = some (.cells #[.bool false, .slice none 0 0] T f)) : NoInt w N :=
  noInt2 h (fun _ _ h => by cases h) (fun _ _ h => by cases h)

/-- Two structs of two cells that are laid for parameters, and the result's. -/
theorem boxed3 (w : World) (x0 x1 y0 y1 : Value) (T U V : TypeId) :
    ∃ W, W = (((w.alloc (Obj.cells #[x0, x1] T)).alloc (Obj.cells #[y0, y1] U)).alloc (Obj.cells #[.bool false, .slice none 0 0] V)) ∧ Below w.heap.size w W ∧
      W.cell? ⟨w.heap.size, 0, none⟩ = some x0 ∧ W.cell? ⟨w.heap.size, 1, none⟩ = some x1 ∧ W.cell? ⟨w.heap.size + 1, 0, none⟩ = some y0 ∧ W.cell? ⟨w.heap.size + 1, 1, none⟩ = some y1 ∧
      Rg (w.heap.size + 1 + 1) 2 W W := by
  refine ⟨_, rfl, ?_, ?_, ?_, ?_, ?_, ?_⟩
  · go_grown
  · simp [go_sem]
  · simp [go_sem]
  · simp [go_sem]
  · simp [go_sem]
  · refine Rg.mk (Below.refl _ _) (fun o ho => ?_) (fun o => ?_) (noInt_zero (heap_at_new _ _ _ (by simp)))
    · rcases o with _ | _ | o
      · simp [go_sem]
      · simp [go_sem]
      · omega
    · simp [go_sem]

/-- One struct of two cells that is laid for a parameter, and the result's. -/
theorem boxed2 (w : World) (x0 x1 : Value) (T V : TypeId) :
    ∃ W, W = ((w.alloc (Obj.cells #[x0, x1] T)).alloc (Obj.cells #[.bool false, .slice none 0 0] V)) ∧ Below w.heap.size w W ∧
      W.cell? ⟨w.heap.size, 0, none⟩ = some x0 ∧ W.cell? ⟨w.heap.size, 1, none⟩ = some x1 ∧ Rg (w.heap.size + 1) 2 W W := by
  refine ⟨_, rfl, ?_, ?_, ?_, ?_⟩
  · go_grown
  · simp [go_sem]
  · simp [go_sem]
  · refine Rg.mk (Below.refl _ _) (fun o ho => ?_) (fun o => ?_) (noInt_zero (heap_at_new _ _ _ (by simp)))
    · rcases o with _ | _ | o
      · simp [go_sem]
      · simp [go_sem]
      · omega
    · simp [go_sem]

theorem RetInt.fin {w W w1 : World} {z : Int} {a : Option Addr} {c N : Nat} {v : Value} (hv : v = .bool (ng z)) (hm : IM w1 a c z) (h1 : Below w.heap.size w W) (h2 : Below N W w1) (hN : w.heap.size ≤ N) :
    RetInt w z (.returned (.agg #[v, .slice a (LI z) c])) w1 := ⟨a, c, by rw [hv], hm, h1.trans (h2.mono hN)⟩

set_option maxHeartbeats 400000 in
theorem made_any (s : Bool) (a : Option Addr) (c n : Nat) (w : World) (h : Mag w a c n) (hb : L B32 n ≤ 4000000000) :
    Calls Try.prog 53 #[.bool s, .slice a (L B32 n) c] w (RetInt w (sgn s n)) := by
  have hfin : ∀ w', Below w.heap.size w w' → ∀ v, v = Value.bool (s && decide (0 < n)) → RetInt w (sgn s n) (.returned (.agg #[v, .slice a (L B32 n) c])) w' := fun w' hw v hv =>
    ⟨a, c, by rw [hv, ng_sgn]; unfold LI; rw [natAbs_sgn], by unfold IM; rw [natAbs_sgn]; exact h.below hw, hw⟩
  have hfinH := Lib.hid hfin
  clear hfin
  cases s
  · go_enter Try.func53, Try.ntmps53
    go_wp2
    go_returns
    refine hfinH.out _ ?_ _ (by simp)
    go_grown
  · by_cases hn : 0 < n
    · have hL : 0 < L B32 n := L_pos two_le_B32 (by omega)
      go_enter Try.func53, Try.ntmps53
      go_wp2
      go_returns
      refine hfinH.out _ ?_ _ (by simp [hn])
      go_grown
    · have hn0 : n = 0 := by omega
      subst hn0
      have hL : ¬ 0 < L B32 0 := by rw [L_zero]; omega
      go_enter Try.func53, Try.ntmps53
      go_wp2
      go_returns
      refine hfinH.out _ ?_ _ (by simp)
      go_grown

theorem made_int (s : Bool) (a : Option Addr) (c : Nat) (x : Int) (w : World) (h : IM w a c x) (hb : LI x ≤ 4000000000) :
    Calls Try.prog 53 #[.bool s, .slice a (LI x) c] w (RetInt w (sgn s x.natAbs)) := made_any s a c x.natAbs w h hb

set_option maxHeartbeats 400000 in
theorem neg_any (a1 : Option Addr) (c1 : Nat) (x : Int) (w : World) (h1 : IM w a1 c1 x) (hb : LI x ≤ 100000000) :
    Calls Try.prog 39 #[.agg #[.bool (ng x), .slice a1 (LI x) c1]] w (RetInt w (-x)) := by
  have hz : sgn (!ng x) x.natAbs = -x := by
    have e := sgn_ng x
    unfold sgn at *
    cases hn : ng x <;> simp [hn] at e ⊢ <;> omega
  obtain ⟨W, hW, hbl, e0, e1, hR⟩ := boxed2 w (Value.bool (ng x)) (Value.slice a1 (LI x) c1) 49 49
  have hm := Lib.hid (made_int (!ng x) a1 c1 x W (h1.below hbl) (by omega))
  rw [hz, hW] at hm
  have HR := Lib.hid hR
  have hblH := Lib.hid hbl
  rw [hW] at HR hblH
  clear hz hR e0 e1 hbl hW
  go_enter Try.func39, Try.ntmps39
  go_wp2_with (first | (go_at_call 53; (with_reducible refine hm.out.mono ?_); rintro e w1 ⟨ao, cap, rfl, hm, hb1⟩; obtain ⟨g1, g2, g3, g5, g4⟩ := Rg.step HR.out (by omega) hb1))
  refine bodyPost_ret (v := .agg #[.bool (ng (-x)), .slice ao (LI (-x)) cap]) (by simp [results, Try.results39, go_sem, g2]) rfl ?_
  refine RetInt.fin (N := w.heap.size + 1) rfl ((hm.setN g5 _ _).setN (g5.set _ _ (by intro _ _ h; cases h)) _ _) hblH.out ?_ (by omega)
  exact (g4.setCell (Nat.le_refl _) _).setCell (Nat.le_refl _) _

end Go.Proofs.Ytkecdjdggkpdpab

/- Walks of the program's integers: Sign, Add, Sub, Mul, Cmp. -/
namespace Go.Proofs.Ytkecdjdggkpdpab
open Go Go.RowKit Go.Proofs

theorem IM.up {w w' : World} {a : Option Addr} {c : Nat} {z : Int} (h : IM w a c z) (hb : Below w.heap.size w w') : IM w' a c z := Mag.below h hb
theorem Mag.up {w w' : World} {a : Option Addr} {c n : Nat} (h : Mag w a c n) (hb : Below w.heap.size w w') : Mag w' a c n := Mag.below h hb

/-- The sign of an integer. -/
def sg (z : Int) : Int := if z < 0 then -1 else if z = 0 then 0 else 1

def RetNum (w : World) (z : Int) (e : Ending) (w' : World) : Prop := e = .returned (.int .i64 z) ∧ Below w.heap.size w w'

theorem LI_zero {z : Int} : LI z = 0 ↔ z = 0 := by unfold LI; rw [L_eq_zero two_le_B32]; omega

theorem plus_int (a1 a2 : Option Addr) (c1 c2 : Nat) (x y : Int) (w : World) (h1 : IM w a1 c1 x) (h2 : IM w a2 c2 y) (hb1 : LI x ≤ 1000000000) (hb2 : LI y ≤ 1000000000) :
    Calls Try.prog 71 #[.slice a1 (LI x) c1, .slice a2 (LI y) c2] w (RetMag w (x.natAbs + y.natAbs)) := plus_any a1 a2 c1 c2 _ _ w h1 h2 hb1 hb2

theorem minus_int (a1 a2 : Option Addr) (c1 c2 : Nat) (x y : Int) (w : World) (h1 : IM w a1 c1 x) (h2 : IM w a2 c2 y) (hb1 : LI x ≤ 1000000000) (hxy : y.natAbs ≤ x.natAbs) :
    Calls Try.prog 73 #[.slice a1 (LI x) c1, .slice a2 (LI y) c2] w (RetMag w (x.natAbs - y.natAbs)) := minus_any a1 a2 c1 c2 _ _ w h1 h2 hb1 hxy

theorem times_int (a1 a2 : Option Addr) (c1 c2 : Nat) (x y : Int) (w : World) (h1 : IM w a1 c1 x) (h2 : IM w a2 c2 y) (hb1 : LI x ≤ 1000000000) (hb2 : LI y ≤ 1000000000) :
    Calls Try.prog 57 #[.slice a1 (LI x) c1, .slice a2 (LI y) c2] w (RetMag w (x.natAbs * y.natAbs)) := times_any a1 a2 c1 c2 _ _ w h1 h2 hb1 hb2

theorem compare_int (a1 a2 : Option Addr) (c1 c2 : Nat) (x y : Int) (w : World) (h1 : IM w a1 c1 x) (h2 : IM w a2 c2 y) (hb1 : LI x ≤ 1000000000) (hb2 : LI y ≤ 1000000000) :
    Calls Try.prog 72 #[.slice a1 (LI x) c1, .slice a2 (LI y) c2] w (CmpPost w x.natAbs y.natAbs) := compare_any a1 a2 c1 c2 _ _ w h1 h2 hb1 hb2

theorem part_int (a1 a2 : Option Addr) (c1 c2 : Nat) (x y : Int) (w : World) (h1 : IM w a1 c1 x) (h2 : IM w a2 c2 y) (hb1 : LI x ≤ 1000000000) (hb2 : LI y ≤ 1000000000) (hy : y ≠ 0) :
    Calls Try.prog 70 #[.slice a1 (LI x) c1, .slice a2 (LI y) c2] w (RetTwo w (x.natAbs / y.natAbs) (x.natAbs % y.natAbs)) := part_any a1 a2 c1 c2 _ _ w h1 h2 hb1 hb2 (by omega)

set_option maxHeartbeats 400000 in
theorem sign_any (a1 : Option Addr) (c1 : Nat) (x : Int) (w : World) :
    Calls Try.prog 38 #[.agg #[.bool (ng x), .slice a1 (LI x) c1]] w (RetNum w (sg x)) := by
  by_cases h0 : x = 0
  · have hl : ((LI x : Int) == 0) = true := by rw [LI_zero.2 h0]; rfl
    have hs : Hid (sg x = 0) := by show sg x = 0; rw [h0]; rfl
    clear h0
    go_enter Try.func38, Try.ntmps38
    go_wp2
    go_ret
    exact ⟨by rw [hs.out]; rfl, by go_grown⟩
  · have hl : ((LI x : Int) == 0) = false := by
      have : LI x ≠ 0 := fun h => h0 (LI_zero.1 h)
      simpa using this
    by_cases h1 : x < 0
    · have hn : ng x = true := by simp [ng, h1]
      have hs : Hid (sg x = -1) := by show sg x = -1; simp [sg, h1]
      clear h0 h1
      go_enter Try.func38, Try.ntmps38
      go_wp2
      go_ret
      exact ⟨by rw [hs.out]; rfl, by go_grown⟩
    · have hn : ng x = false := by simp [ng, h1]
      have hs : Hid (sg x = 1) := by show sg x = 1; simp [sg, h1, h0]
      clear h0 h1
      go_enter Try.func38, Try.ntmps38
      go_wp2
      go_ret
      exact ⟨by rw [hs.out]; rfl, by go_grown⟩

theorem LI_nat (n : Nat) : LI (n : Int) = L B32 n := rfl

theorem LI_mul (x y : Int) : LI (x * y) ≤ LI x + LI y := by unfold LI; rw [Int.natAbs_mul]; exact L_mul two_le_B32 _ _
theorem LI_add (x y : Int) : LI (x + y) ≤ max (LI x) (LI y) + 1 := by
  unfold LI
  have h1 := Int.natAbs_add_le x y
  exact Nat.le_trans (L_mono two_le_B32 h1) (L_add two_le_B32 _ _)
theorem LI_neg (x : Int) : LI (-x) = LI x := by unfold LI; rw [Int.natAbs_neg]

theorem sgn_add_same {x y : Int} {s : Bool} (hx : ng x = s) (hy : ng y = s) : sgn s (x.natAbs + y.natAbs) = x + y := by
  unfold ng at hx hy
  unfold sgn
  cases s <;> simp at hx hy ⊢ <;> omega

theorem sgn_add_ge {x y : Int} {s t : Bool} (hx : ng x = s) (hy : ng y = t) (hne : s ≠ t) (h : y.natAbs ≤ x.natAbs) : sgn s (x.natAbs - y.natAbs) = x + y := by
  unfold ng at hx hy
  unfold sgn
  cases s <;> cases t <;> simp at hx hy hne ⊢ <;> omega

theorem sgn_add_lt {x y : Int} {s t : Bool} (hx : ng x = s) (hy : ng y = t) (hne : s ≠ t) (h : ¬ y.natAbs ≤ x.natAbs) : sgn t (y.natAbs - x.natAbs) = x + y := by
  unfold ng at hx hy
  unfold sgn
  cases s <;> cases t <;> simp at hx hy hne ⊢ <;> omega

theorem cmp_ge {x y : Nat} (h : y ≤ x) : 0 ≤ cmpN x y := by unfold cmpN; split <;> (try split) <;> omega
theorem cmp_lt {x y : Nat} (h : ¬ y ≤ x) : cmpN x y < 0 := by unfold cmpN; split <;> (try split) <;> omega

set_option maxHeartbeats 800000 in
theorem add_same (s : Bool) (a1 a2 : Option Addr) (c1 c2 : Nat) (x y : Int) (w : World) (h1 : IM w a1 c1 x) (h2 : IM w a2 c2 y) (hb1 : LI x ≤ 100000000) (hb2 : LI y ≤ 100000000) (hx : ng x = s) (hy : ng y = s) :
    Calls Try.prog 59 #[.agg #[.bool s, .slice a1 (LI x) c1], .agg #[.bool s, .slice a2 (LI y) c2]] w (RetInt w (x + y)) := by
  have hz := Lib.hid (sgn_add_same hx hy)
  have hLs : L B32 (x.natAbs + y.natAbs) ≤ 4000000000 := Nat.le_trans (L_add two_le_B32 _ _) (by unfold LI at hb1 hb2; omega)
  have hss : (s == s) = true := by simp
  clear hx hy
  obtain ⟨W, hW, hbl, e0, e1, e2, e3, hR⟩ := boxed3 w (Value.bool s) (Value.slice a1 (LI x) c1) (Value.bool s) (Value.slice a2 (LI y) c2) 49 49 49
  have hWH := Lib.hid hW
  have HR := Lib.hid hR
  have hblH := Lib.hid hbl
  clear hW hR
  go_enter Try.func59, Try.ntmps59
  go_wp2_with (fail)
  rw [← hWH.out]
  go_region_held3 (fun w' => Rg (w.heap.size + 1 + 1) 2 W w')
    (first | exact HR.out.drew | exact Rg.step (by assumption) (by omega) (by assumption) | exact Rg.set (Rg.set (by assumption) _) _)
    (first
      | (go_at_call 71; (with_reducible refine (plus_int _ _ _ _ _ _ _ (h1.kp hbl (by assumption) (by omega)) (h2.kp hbl (by assumption) (by omega)) (by omega) (by omega)).mono ?_); rintro e w1 ⟨ao, cap, rfl, hm, hb1'⟩)
      | (go_at_call 53; (with_reducible refine (made_any _ _ _ _ _ hm hLs).mono ?_); rintro e w2 ⟨ao2, cap2, rfl, hm2, hb2'⟩; obtain ⟨g1, g2, g3, g5, g4⟩ := Rg.step (by assumption) (by omega) hb2'))
  go_wp2_with (fail)
  rw [hz.out]
  rw [hz.out] at hm2
  refine bodyPost_ret (v := .agg #[.bool (ng (x + y)), .slice ao2 (LI (x + y)) cap2]) (by simp [results, Try.results59, go_sem, g2]) rfl ?_
  refine RetInt.fin (N := w.heap.size + 1 + 1) rfl ((hm2.setN g5 _ _).setN (g5.set _ _ (by intro _ _ h; cases h)) _ _) hblH.out ?_ (by omega)
  exact (g4.setCell (Nat.le_refl _) _).setCell (Nat.le_refl _) _

set_option maxHeartbeats 800000 in
theorem add_ge (s t : Bool) (a1 a2 : Option Addr) (c1 c2 : Nat) (x y : Int) (w : World) (h1 : IM w a1 c1 x) (h2 : IM w a2 c2 y) (hb1 : LI x ≤ 100000000) (hb2 : LI y ≤ 100000000) (hx : ng x = s) (hy : ng y = t) (hst : (s == t) = false) (hc : y.natAbs ≤ x.natAbs) :
    Calls Try.prog 59 #[.agg #[.bool s, .slice a1 (LI x) c1], .agg #[.bool t, .slice a2 (LI y) c2]] w (RetInt w (x + y)) := by
  have hz := Lib.hid (sgn_add_ge hx hy (by simpa using hst) hc)
  have hle : y.natAbs ≤ x.natAbs := hc
  have hcmp : 0 ≤ cmpN x.natAbs y.natAbs := cmp_ge hc
  have hLs : L B32 (x.natAbs - y.natAbs) ≤ 4000000000 := Nat.le_trans (L_mono two_le_B32 (Nat.sub_le _ _)) (by unfold LI at hb1 hb2; omega)
  clear hx hy hc
  obtain ⟨W, hW, hbl, e0, e1, e2, e3, hR⟩ := boxed3 w (Value.bool s) (Value.slice a1 (LI x) c1) (Value.bool t) (Value.slice a2 (LI y) c2) 49 49 49
  have hWH := Lib.hid hW
  have HR := Lib.hid hR
  have hblH := Lib.hid hbl
  clear hW hR
  go_enter Try.func59, Try.ntmps59
  go_wp2_with (first | (go_at_call 72; rw [← hWH.out]; (with_reducible refine (compare_int _ _ _ _ x y _ (h1.below hbl) (h2.below hbl) (by omega) (by omega)).mono ?_); rintro e wc ⟨rfl, hbc⟩; have HRc := Rg.step HR.out (by omega) hbc; obtain ⟨k1, k2, k3, k5, k4⟩ := HRc))
  go_region_held3 (fun w' => Rg (w.heap.size + 1 + 1) 2 W w')
    (first | exact (Rg.step HR.out (by omega) hbc).drew | exact Rg.step (by assumption) (by omega) (by assumption) | exact Rg.set (Rg.set (by assumption) _) _)
    (first
      | (go_at_call 73; (with_reducible refine (minus_int _ _ _ _ _ _ _ (h1.kp hbl (by assumption) (by omega)) (h2.kp hbl (by assumption) (by omega)) (by omega) hle).mono ?_); rintro e w1 ⟨ao, cap, rfl, hm, hb1'⟩)
      | (go_at_call 53; (with_reducible refine (made_any _ _ _ _ _ hm hLs).mono ?_); rintro e w2 ⟨ao2, cap2, rfl, hm2, hb2'⟩; obtain ⟨g1, g2, g3, g5, g4⟩ := Rg.step (by assumption) (by omega) hb2'))
  go_wp2_with (fail)
  rw [hz.out]
  rw [hz.out] at hm2
  refine bodyPost_ret (v := .agg #[.bool (ng (x + y)), .slice ao2 (LI (x + y)) cap2]) (by simp [results, Try.results59, go_sem, g2]) rfl ?_
  refine RetInt.fin (N := w.heap.size + 1 + 1) rfl ((hm2.setN g5 _ _).setN (g5.set _ _ (by intro _ _ h; cases h)) _ _) hblH.out ?_ (by omega)
  exact (g4.setCell (Nat.le_refl _) _).setCell (Nat.le_refl _) _

set_option maxHeartbeats 800000 in
theorem add_lt (s t : Bool) (a1 a2 : Option Addr) (c1 c2 : Nat) (x y : Int) (w : World) (h1 : IM w a1 c1 x) (h2 : IM w a2 c2 y) (hb1 : LI x ≤ 100000000) (hb2 : LI y ≤ 100000000) (hx : ng x = s) (hy : ng y = t) (hst : (s == t) = false) (hc : ¬ y.natAbs ≤ x.natAbs) :
    Calls Try.prog 59 #[.agg #[.bool s, .slice a1 (LI x) c1], .agg #[.bool t, .slice a2 (LI y) c2]] w (RetInt w (x + y)) := by
  have hz := Lib.hid (sgn_add_lt hx hy (by simpa using hst) hc)
  have hle : x.natAbs ≤ y.natAbs := (by omega)
  have hcmp : ¬ 0 ≤ cmpN x.natAbs y.natAbs := by have := cmp_lt hc; omega
  have hLs : L B32 (y.natAbs - x.natAbs) ≤ 4000000000 := Nat.le_trans (L_mono two_le_B32 (Nat.sub_le _ _)) (by unfold LI at hb1 hb2; omega)
  clear hx hy hc
  obtain ⟨W, hW, hbl, e0, e1, e2, e3, hR⟩ := boxed3 w (Value.bool s) (Value.slice a1 (LI x) c1) (Value.bool t) (Value.slice a2 (LI y) c2) 49 49 49
  have hWH := Lib.hid hW
  have HR := Lib.hid hR
  have hblH := Lib.hid hbl
  clear hW hR
  go_enter Try.func59, Try.ntmps59
  go_wp2_with (first | (go_at_call 72; rw [← hWH.out]; (with_reducible refine (compare_int _ _ _ _ x y _ (h1.below hbl) (h2.below hbl) (by omega) (by omega)).mono ?_); rintro e wc ⟨rfl, hbc⟩; have HRc := Rg.step HR.out (by omega) hbc; obtain ⟨k1, k2, k3, k5, k4⟩ := HRc))
  go_region_held3 (fun w' => Rg (w.heap.size + 1 + 1) 2 W w')
    (first | exact (Rg.step HR.out (by omega) hbc).drew | exact Rg.step (by assumption) (by omega) (by assumption) | exact Rg.set (Rg.set (by assumption) _) _)
    (first
      | (go_at_call 73; (with_reducible refine (minus_int _ _ _ _ _ _ _ (h2.kp hbl (by assumption) (by omega)) (h1.kp hbl (by assumption) (by omega)) (by omega) hle).mono ?_); rintro e w1 ⟨ao, cap, rfl, hm, hb1'⟩)
      | (go_at_call 53; (with_reducible refine (made_any _ _ _ _ _ hm hLs).mono ?_); rintro e w2 ⟨ao2, cap2, rfl, hm2, hb2'⟩; obtain ⟨g1, g2, g3, g5, g4⟩ := Rg.step (by assumption) (by omega) hb2'))
  go_wp2_with (fail)
  rw [hz.out]
  rw [hz.out] at hm2
  refine bodyPost_ret (v := .agg #[.bool (ng (x + y)), .slice ao2 (LI (x + y)) cap2]) (by simp [results, Try.results59, go_sem, g2]) rfl ?_
  refine RetInt.fin (N := w.heap.size + 1 + 1) rfl ((hm2.setN g5 _ _).setN (g5.set _ _ (by intro _ _ h; cases h)) _ _) hblH.out ?_ (by omega)
  exact (g4.setCell (Nat.le_refl _) _).setCell (Nat.le_refl _) _

theorem add_any (a1 a2 : Option Addr) (c1 c2 : Nat) (x y : Int) (w : World) (h1 : IM w a1 c1 x) (h2 : IM w a2 c2 y) (hb1 : LI x ≤ 100000000) (hb2 : LI y ≤ 100000000) :
    Calls Try.prog 59 #[.agg #[.bool (ng x), .slice a1 (LI x) c1], .agg #[.bool (ng y), .slice a2 (LI y) c2]] w (RetInt w (x + y)) := by
  by_cases hs : ng x = ng y
  · have := add_same (ng x) a1 a2 c1 c2 x y w h1 h2 hb1 hb2 rfl hs.symm
    rw [← hs]
    exact this
  · have hst : (ng x == ng y) = false := by simpa using hs
    by_cases hc : y.natAbs ≤ x.natAbs
    · exact add_ge _ _ a1 a2 c1 c2 x y w h1 h2 hb1 hb2 rfl rfl hst hc
    · exact add_lt _ _ a1 a2 c1 c2 x y w h1 h2 hb1 hb2 rfl rfl hst hc

set_option maxHeartbeats 800000 in
theorem sub_any (a1 a2 : Option Addr) (c1 c2 : Nat) (x y : Int) (w : World) (h1 : IM w a1 c1 x) (h2 : IM w a2 c2 y) (hb1 : LI x ≤ 100000000) (hb2 : LI y ≤ 100000000) :
    Calls Try.prog 60 #[.agg #[.bool (ng x), .slice a1 (LI x) c1], .agg #[.bool (ng y), .slice a2 (LI y) c2]] w (RetInt w (x - y)) := by
  have hz : Hid (x + -y = x - y) := by show x + -y = x - y; omega
  have hbn : LI (-y) ≤ 100000000 := by rw [LI_neg]; exact hb2
  obtain ⟨W, hW, hbl, e0, e1, e2, e3, hR⟩ := boxed3 w (Value.bool (ng x)) (Value.slice a1 (LI x) c1) (Value.bool (ng y)) (Value.slice a2 (LI y) c2) 49 49 49
  have hWH := Lib.hid hW
  have HR := Lib.hid hR
  have hblH := Lib.hid hbl
  clear hW hR
  go_enter Try.func60, Try.ntmps60
  go_wp2_with (fail)
  rw [← hWH.out]
  go_region_held3 (fun w' => Rg (w.heap.size + 1 + 1) 2 W w')
    (first | exact HR.out.drew | exact Rg.step (by assumption) (by omega) (by assumption) | exact Rg.set (Rg.set (by assumption) _) _)
    (first
      | (go_at_call 39; (with_reducible refine (neg_any _ _ _ _ (h2.kp hbl (by assumption) (by omega)) hb2).mono ?_); rintro e w1 ⟨ao, cap, rfl, hm, hb1'⟩)
      | (go_at_call 59; (with_reducible refine (add_any _ _ _ _ _ _ _ (h1.kp hbl (by assumption) (by omega)) hm hb1 hbn).mono ?_); rintro e w2 ⟨ao2, cap2, rfl, hm2, hb2'⟩; obtain ⟨g1, g2, g3, g5, g4⟩ := Rg.step (by assumption) (by omega) hb2'))
  go_wp2_with (fail)
  rw [hz.out]
  rw [hz.out] at hm2
  refine bodyPost_ret (v := .agg #[.bool (ng (x - y)), .slice ao2 (LI (x - y)) cap2]) (by simp [results, Try.results60, go_sem, g2]) rfl ?_
  refine RetInt.fin (N := w.heap.size + 1 + 1) rfl ((hm2.setN g5 _ _).setN (g5.set _ _ (by intro _ _ h; cases h)) _ _) hblH.out ?_ (by omega)
  exact (g4.setCell (Nat.le_refl _) _).setCell (Nat.le_refl _) _

theorem sgn_mul (x y : Int) : sgn (!(ng x == ng y)) (x.natAbs * y.natAbs) = x * y := by
  have e : x * y = sgn (ng x) x.natAbs * sgn (ng y) y.natAbs := by rw [sgn_ng, sgn_ng]
  rw [e]
  unfold sgn
  cases ng x <;> cases ng y <;> simp [Int.neg_mul, Int.mul_neg]

set_option maxHeartbeats 800000 in
theorem mul_any (a1 a2 : Option Addr) (c1 c2 : Nat) (x y : Int) (w : World) (h1 : IM w a1 c1 x) (h2 : IM w a2 c2 y) (hb1 : LI x ≤ 100000000) (hb2 : LI y ≤ 100000000) :
    Calls Try.prog 36 #[.agg #[.bool (ng x), .slice a1 (LI x) c1], .agg #[.bool (ng y), .slice a2 (LI y) c2]] w (RetInt w (x * y)) := by
  have hz := Lib.hid (sgn_mul x y)
  have hLs : L B32 (x.natAbs * y.natAbs) ≤ 4000000000 := Nat.le_trans (L_mul two_le_B32 _ _) (by unfold LI at hb1 hb2; omega)
  obtain ⟨W, hW, hbl, e0, e1, e2, e3, hR⟩ := boxed3 w (Value.bool (ng x)) (Value.slice a1 (LI x) c1) (Value.bool (ng y)) (Value.slice a2 (LI y) c2) 49 49 49
  have hWH := Lib.hid hW
  have HR := Lib.hid hR
  have hblH := Lib.hid hbl
  clear hW hR
  go_enter Try.func36, Try.ntmps36
  go_wp2_with (fail)
  rw [← hWH.out]
  go_region_held3 (fun w' => Rg (w.heap.size + 1 + 1) 2 W w')
    (first | exact HR.out.drew | exact Rg.step (by assumption) (by omega) (by assumption) | exact Rg.set (Rg.set (by assumption) _) _)
    (first
      | (go_at_call 57; (with_reducible refine (times_int _ _ _ _ _ _ _ (h1.kp hbl (by assumption) (by omega)) (h2.kp hbl (by assumption) (by omega)) (by omega) (by omega)).mono ?_); rintro e w1 ⟨ao, cap, rfl, hm, hb1'⟩)
      | (go_at_call 53; (with_reducible refine (made_any _ _ _ _ _ hm hLs).mono ?_); rintro e w2 ⟨ao2, cap2, rfl, hm2, hb2'⟩; obtain ⟨g1, g2, g3, g5, g4⟩ := Rg.step (by assumption) (by omega) hb2'))
  go_wp2_with (fail)
  rw [hz.out]
  rw [hz.out] at hm2
  refine bodyPost_ret (v := .agg #[.bool (ng (x * y)), .slice ao2 (LI (x * y)) cap2]) (by simp [results, Try.results36, go_sem, g2]) rfl ?_
  refine RetInt.fin (N := w.heap.size + 1 + 1) rfl ((hm2.setN g5 _ _).setN (g5.set _ _ (by intro _ _ h; cases h)) _ _) hblH.out ?_ (by omega)
  exact (g4.setCell (Nat.le_refl _) _).setCell (Nat.le_refl _) _

theorem LI_sub (x y : Int) : LI (x - y) ≤ max (LI x) (LI y) + 1 := by
  rw [Int.sub_eq_add_neg]
  have := LI_add x (-y)
  rwa [LI_neg] at this

set_option maxHeartbeats 800000 in
theorem cmp_any (a1 a2 : Option Addr) (c1 c2 : Nat) (x y : Int) (w : World) (h1 : IM w a1 c1 x) (h2 : IM w a2 c2 y) (hb1 : LI x ≤ 100000000) (hb2 : LI y ≤ 100000000) :
    Calls Try.prog 40 #[.agg #[.bool (ng x), .slice a1 (LI x) c1], .agg #[.bool (ng y), .slice a2 (LI y) c2]] w (RetNum w (sg (x - y))) := by
  have hbs : Hid (LI (x - y) ≤ 100000001) := by have := LI_sub x y; show _ ≤ _; omega
  go_enter Try.func40, Try.ntmps40
  go_wp2_with (first
    | (go_at_call 60; (with_reducible refine (sub_any _ _ _ _ _ _ _ (h1.up (by go_grown)) (h2.up (by go_grown)) hb1 hb2).mono ?_); rintro e w1 ⟨ao, cap, rfl, hm, hb1'⟩)
    | (go_at_call 38; (with_reducible refine (sign_any _ _ _ _).mono ?_); rintro e w2 ⟨rfl, hb2'⟩))
  go_ret
  refine ⟨rfl, Below.trans (Below.trans ?_ (hb1'.mono ?_)) (hb2'.mono ?_)⟩
  · exact ((Below.refl _ _).alloc (Nat.le_refl _) _).alloc (by simp) _
  · simp; omega
  · have := hb1'.size; simp at this; omega

end Go.Proofs.Ytkecdjdggkpdpab

/- Walks of the program's integers: Of, Gcd, Quo. -/
namespace Go.Proofs.Ytkecdjdggkpdpab
open Go Go.RowKit Go.Proofs

theorem Rg.dn {N n k : Nat} {W w' : World} (h : Rg N n W w') : Rg N n W (w'.drewN k) :=
  Rg.mk (bdn h.kept) (fun o ho => by have := h.2.1 o ho; simp [this]) (fun o => by have := h.2.2.1 o; simpa using this) (fun o k z hc => h.noInt o k z hc)

theorem boxed1 (w : World) (V : TypeId) : Rg w.heap.size 2 (w.alloc (Obj.cells #[.bool false, .slice none 0 0] V)) (w.alloc (Obj.cells #[.bool false, .slice none 0 0] V)) := by
  refine Rg.mk (Below.refl _ _) (fun o ho => ?_) (fun o => ?_) (noInt_zero (heap_alloc_new _ _))
  · rcases o with _ | _ | o
    · simp [go_sem]
    · simp [go_sem]
    · omega
  · simp [go_sem]

set_option maxHeartbeats 800000 in
theorem of_nat (n : Nat) (w : World) (hn : n ≤ 4611686018427387904) : Calls Try.prog 34 #[.int .i64 (n : Nat)] w (RetInt w (n : Int)) := by
  have hz : Hid (sgn false n = (n : Int)) := rfl
  have hR := Lib.hid (boxed1 w 49)
  have hv : val B32 [n % B32, n / B32] = n := by simp [val]; exact Nat.mod_add_div n B32
  have hvB : Lt B32 [n % B32, n / B32] := fun x hx => by
    simp at hx
    unfold B32 at *
    omega
  have hc1 : ((n : Int) % 4294967296) = ((n % B32 : Nat) : Int) := by unfold B32; simp
  have hc2 : ((n : Int) / 4294967296) = ((n / B32 : Nat) : Int) := by unfold B32; simp
  have hL : L B32 n ≤ 4000000000 := by
    have : L B32 n ≤ 2 := L_le_of_lt two_le_B32 _ _ (by unfold B32; omega)
    omega
  have hd : decide ((n : Int) < 0) = false := by simp
  have hvH := Lib.hid hv
  have hcH1 := Lib.hid hc1
  have hcH2 := Lib.hid hc2
  clear hv hc1 hc2
  go_enter Try.func34, Try.ntmps34
  go_wp2_with (fail)
  rw [hcH1.out, hcH2.out]
  generalize hW : (w.alloc (Obj.cells #[.bool false, .slice none 0 0] 49)) = W at hR
  have hsz : W.heap.size = w.heap.size + 1 := by rw [← hW]; simp
  have hbw : Below w.heap.size w W := by rw [← hW]; go_grown
  have hN : Nblk .u32 (W.alloc (Obj.cells #[.int .u32 ((n % B32 : Nat) : Int), .int .u32 ((n / B32 : Nat) : Int)] 100)) (w.heap.size + 1) 100 [n % B32, n / B32] := heap_at_new W _ _ hsz
  have ht := trim_any (some ⟨w.heap.size + 1, 0, none⟩) 2 [n % B32, n / B32] _ hN.dg hvB (by simp) (by simp)
  rw [hvH.out] at ht
  have hb2 : Below W.heap.size W (W.alloc (Obj.cells #[.int .u32 ((n % B32 : Nat) : Int), .int .u32 ((n / B32 : Nat) : Int)] 100)) := (Below.refl _ _).alloc (Nat.le_refl _) _
  generalize W.alloc (Obj.cells #[.int .u32 ((n % B32 : Nat) : Int), .int .u32 ((n / B32 : Nat) : Int)] 100) = W2 at *
  refine ht.mono ?_
  rintro e w3 ⟨rfl, hm, rfl⟩
  have hR2 := Lib.hid (Rg.step hR.out (by omega) hb2)
  have hs2 := hb2.size
  clear hN ht
  go_wp2_with (first | (go_at_call 53; (with_reducible refine (made_any false _ _ _ _ hm hL).mono ?_); rintro e w3 ⟨ao2, cap2, rfl, hm2, hb2'⟩; obtain ⟨g1, g2, g3, g5, g4⟩ := Rg.step hR2.out (by omega) hb2'))
  rw [hz.out]
  rw [hz.out] at hm2
  refine bodyPost_ret (v := .agg #[.bool (ng (n : Int)), .slice ao2 (LI (n : Int)) cap2]) (by simp [results, Try.results34, go_sem, g2]) rfl ?_
  refine RetInt.fin (N := w.heap.size) rfl ((hm2.setN g5 _ _).setN (g5.set _ _ (by intro _ _ h; cases h)) _ _) hbw ?_ (by omega)
  exact (g4.setCell (Nat.le_refl _) _).setCell (Nat.le_refl _) _

set_option maxHeartbeats 1600000 in
theorem gcd_any (a1 a2 : Option Addr) (c1 c2 : Nat) (x y : Int) (w : World) (h1 : IM w a1 c1 x) (h2 : IM w a2 c2 y) (hb1 : LI x ≤ 1000000000) (hb2 : LI y ≤ 1000000000) :
    Calls Try.prog 55 #[.agg #[.bool (ng x), .slice a1 (LI x) c1], .agg #[.bool (ng y), .slice a2 (LI y) c2]] w (RetInt w (Nat.gcd x.natAbs y.natAbs : Nat)) := by
  obtain ⟨W, hW, hbl, e0, e1, e2, e3, hR⟩ := boxed3 w (Value.bool (ng x)) (Value.slice a1 (LI x) c1) (Value.bool (ng y)) (Value.slice a2 (LI y) c2) 49 49 49
  have hWH := Lib.hid hW
  have HR := Lib.hid hR
  have hblH := Lib.hid hbl
  have hszH : Hid (W.heap.size = w.heap.size + 3) := by show _ = _; rw [hW]; simp
  have g1 := h1.up hbl
  have g2 := h2.up hbl
  clear hW hR
  go_enter Try.func55, Try.ntmps55
  go_wp2_with (fail)
  rw [← hWH.out]
  go_quiet (fail)
  go_wp2_with (fail)
  go_loopg [5, 6] y.natAbs (fun k sx sy wr => ∃ (ax ay : Option Addr) (cx cy p q : Nat), k = q ∧ sx = .slice ax (L B32 p) cx ∧ sy = .slice ay (L B32 q) cy ∧ Mag wr ax cx p ∧ Mag wr ay cy q ∧ Nat.gcd p q = Nat.gcd x.natAbs y.natAbs ∧ L B32 p ≤ 1000000000 ∧ L B32 q ≤ 1000000000 ∧ Rg (w.heap.size + 1 + 1) 2 W wr)
  case atStart => exact ⟨a1, a2, c1, c2, x.natAbs, y.natAbs, rfl, rfl, rfl, g1.up (bdn (Below.refl _ _)), g2.up (bdn (Below.refl _ _)), rfl, hb1, hb2, HR.out.dn⟩
  case round =>
    obtain ⟨ax, ay, cx, cy, p, q, hkq, rfl, rfl, hp, hq, hg, lp, lq, hRr⟩ := hrel
    have hgH := Lib.hid hg
    have hkH := Lib.hid hkq
    have hRH := Lib.hid hRr
    obtain ⟨r1, r2, r3, r4, r5⟩ := hRr
    clear hg hkq r1
    obtain ⟨wo, rfl⟩ : ∃ wo : World, wo = wr := ⟨_, rfl⟩
    by_cases hq0 : q = 0
    · have hl : ¬ 0 < L B32 q := by rw [hq0, L_zero]; omega
      have hpg : Hid (p = Nat.gcd x.natAbs y.natAbs) := by
        have := hgH.out
        rw [hq0, Nat.gcd_zero_right] at this
        exact this
      have hz : Hid (sgn false p = ((Nat.gcd x.natAbs y.natAbs : Nat) : Int)) := by
        show sgn false p = _
        rw [← hpg.out]; rfl
      have hq0H := Lib.hid hq0
      clear hq0
      go_wp2_with (first | (go_at_call 53; (with_reducible refine (made_any false _ _ _ _ hp (by omega)).mono ?_); rintro e w3 ⟨ao2, cap2, rfl, hm2, hb2'⟩; obtain ⟨g1, g2, g3, g5, g4⟩ := Rg.step hRH.out (by omega) hb2'))
      rw [hz.out]
      rw [hz.out] at hm2
      refine bodyPost_ret (v := .agg #[.bool (ng (Nat.gcd x.natAbs y.natAbs : Nat)), .slice ao2 (LI (Nat.gcd x.natAbs y.natAbs : Nat)) cap2]) (by simp [results, Try.results55, go_sem, g2]) rfl ?_
      refine RetInt.fin (N := w.heap.size + 1 + 1) rfl ((hm2.setN g5 _ _).setN (g5.set _ _ (by intro _ _ h; cases h)) _ _) hblH.out ?_ (by omega)
      exact (g4.setCell (Nat.le_refl _) _).setCell (Nat.le_refl _) _
    · have hl : 0 < L B32 q := L_pos two_le_B32 hq0
      go_wp2_with (first | (go_at_call 70; (with_reducible refine (part_any _ _ _ _ _ _ _ hp hq lp lq (by omega)).mono ?_); rintro e w3 ⟨ao, co, ao2, co2, rfl, hm1, hm2, hb2'⟩))
      go_roundg (p % q)
      case measure => rw [hkH.out]; exact Nat.mod_lt _ (by omega)
      case rel =>
        refine ⟨ay, ao2, cy, co2, q, p % q, rfl, rfl, rfl, hq.up hb2', hm2, ?_, lq, ?_, Rg.step hRH.out (by omega) hb2'⟩
        · rw [← hgH.out, Nat.gcd_comm p q, Nat.gcd_rec q p, Nat.gcd_comm]
        · exact Nat.le_trans (L_mono two_le_B32 (Nat.mod_le p q)) lp

theorem bcell {W w1 : World} (hb : Below W.heap.size W w1) : (∀ b o, b < W.heap.size → w1.cell? ⟨b, o, none⟩ = W.cell? ⟨b, o, none⟩) ∧ (∀ b o, b < W.heap.size → w1.frozen? ⟨b, o, none⟩ = W.frozen? ⟨b, o, none⟩) :=
  ⟨fun b o h => hb.cell (p := ⟨b, o, none⟩) h, fun b o h => hb.frozen (p := ⟨b, o, none⟩) h⟩

/-- From W on no block that was there has turned. -/
abbrev Kq (W w' : World) : Prop := (∀ b o, b < W.heap.size → w'.cell? ⟨b, o, none⟩ = W.cell? ⟨b, o, none⟩) ∧ Below W.heap.size W w'
theorem Kq.mk {W w' : World} (h : Below W.heap.size W w') : Kq W w' := ⟨fun b o hb => h.cell (p := ⟨b, o, none⟩) hb, h⟩
theorem Kq.drew (W : World) : Kq W W.drew := Kq.mk (Below.refl _ _).drew
theorem Kq.step {W w1 w2 : World} (h : Kq W w1) (hb : Below w1.heap.size w1 w2) : Kq W w2 := Kq.mk (h.2.trans (hb.mono h.2.size))
theorem Kq.alloc {W w1 : World} (h : Kq W w1) (o : Obj) : Kq W (w1.alloc o) := Kq.mk (h.2.alloc h.2.size o)
theorem Kq.set {W w1 : World} {p : Addr} (h : Kq W w1) (hp : W.heap.size ≤ p.block) (v : Value) : Kq W (w1.setCell p v) := Kq.mk (h.2.setCell hp v)
theorem Mag.kq {W w' : World} {a : Option Addr} {c n : Nat} (h : Mag W a c n) (hk : Kq W w') : Mag w' a c n := h.up hk.2
theorem IM.kq {W w' : World} {a : Option Addr} {c : Nat} {z : Int} (h : IM W a c z) (hk : Kq W w') : IM w' a c z := Mag.up h hk.2

end Go.Proofs.Ytkecdjdggkpdpab
