/- Ze -/
import Derived.Test.YtkecdjdggkpdpabQWk
import Derived.Test.YtkecdjdggkpdpabQWc
set_option linter.unusedVariables false
/- Walks of the reference's integers: Neg, Abs, Sign, Add, Sub, Cmp. (Printed by wip/tools/gen_ze.py.) -/
namespace Go.Proofs.Ytkecdjdggkpdpab
open Go Go.RowKit Go.Proofs

theorem lean_n (s : Bool) (a : Option Addr) (c k n : Nat) (xs : List Nat) (w : World) (hk : xs.length = k) (h : Dg .i64 w a xs) (hx : Lt B4 xs) (hc : k ≤ c) (hb : k ≤ 4000000000) (hv : val B4 xs = n) :
    Calls Try.prog 65 #[.agg #[.bool s, .slice a k c]] w (RetZ w (sgn s n)) := by
  subst hk hv; exact lean_any s a c xs w h hx hc hb

theorem LZ_mul (x y : Int) : LZ (x * y) ≤ LZ x + LZ y := by unfold LZ; rw [Int.natAbs_mul]; exact L_mul two_le_B4 _ _
theorem LZ_add (x y : Int) : LZ (x + y) ≤ max (LZ x) (LZ y) + 1 := by
  unfold LZ
  have h1 := Int.natAbs_add_le x y
  exact Nat.le_trans (L_mono two_le_B4 h1) (L_add two_le_B4 _ _)
theorem LZ_neg (x : Int) : LZ (-x) = LZ x := by unfold LZ; rw [Int.natAbs_neg]
theorem LZ_sub (x y : Int) : LZ (x - y) ≤ max (LZ x) (LZ y) + 1 := by
  rw [Int.sub_eq_add_neg]
  have := LZ_add x (-y)
  rwa [LZ_neg] at this
theorem LZ_zero {z : Int} : LZ z = 0 ↔ z = 0 := by unfold LZ; rw [L_eq_zero two_le_B4]; omega

theorem ZM.below {w w' : World} {a : Option Addr} {c B : Nat} {z : Int} (h : ZM w a c z) (hb : Below B w w') (hB : w.heap.size ≤ B := by exact Nat.le_refl _) : ZM w' a c z := MagZ.below h hb hB
theorem ZM.kp {w W w' : World} {a : Option Addr} {c N k : Nat} {z : Int} (h : ZM w a c z) (hb : Below w.heap.size w W) (hk : Rg N k W w') (hN : w.heap.size ≤ N) : ZM w' a c z :=
  MagZ.below h (hb.trans (hk.kept.mono hN))
theorem RetZ.fin3 {w W w1 : World} {z : Int} {a : Option Addr} {c N : Nat} {v : Value} (hv : v = .bool (ng z)) (hm : ZM w1 a c z) (h1 : Below w.heap.size w W) (h2 : Below N W w1) (hN : w.heap.size ≤ N) :
    RetZ w z (.returned (.agg #[v, .slice a (LZ z) c])) w1 := ⟨a, c, by rw [hv], hm, h1.trans (h2.mono hN)⟩

theorem plus_z (a1 a2 : Option Addr) (c1 c2 : Nat) (x y : Int) (w : World) (h1 : ZM w a1 c1 x) (h2 : ZM w a2 c2 y) (hb1 : LZ x ≤ 1000000000) (hb2 : LZ y ≤ 1000000000) :
    Calls Try.prog 83 #[.slice a1 (LZ x) c1, .slice a2 (LZ y) c2] w (RetD w (x.natAbs + y.natAbs) (max (LZ x) (LZ y) + 1)) := zplus_any a1 a2 c1 c2 _ _ w h1 h2 hb1 hb2
theorem less_z (a1 a2 : Option Addr) (c1 c2 : Nat) (x y : Int) (w : World) (h1 : ZM w a1 c1 x) (h2 : ZM w a2 c2 y) (hb1 : LZ x ≤ 1000000000) (hxy : y.natAbs ≤ x.natAbs) :
    Calls Try.prog 68 #[.slice a1 (LZ x) c1, .slice a2 (LZ y) c2] w (RetD w (x.natAbs - y.natAbs) (LZ x)) := zless_any a1 a2 c1 c2 _ _ w h1 h2 hb1 hxy
theorem sizes_z (a1 a2 : Option Addr) (c1 c2 : Nat) (x y : Int) (w : World) (h1 : ZM w a1 c1 x) (h2 : ZM w a2 c2 y) (hb1 : LZ x ≤ 1000000000) (hb2 : LZ y ≤ 1000000000) :
    Calls Try.prog 66 #[.slice a1 (LZ x) c1, .slice a2 (LZ y) c2] w (CmpPost w x.natAbs y.natAbs) := sizes_any a1 a2 c1 c2 _ _ w h1 h2 hb1 hb2

set_option maxHeartbeats 400000 in
theorem zneg_a (a1 : Option Addr) (c1 : Nat) (x : Int) (w : World) (h1 : ZM w a1 c1 x) (hx : x < 0) :
    Calls Try.prog 51 #[.agg #[.bool (ng x), .slice a1 (LZ x) c1]] w (RetZ w (-x)) := by
  have hng : ng x = true := by simp [ng]; omega
  have hbz : Hid (Value.bool false = Value.bool (ng (-x))) := by show _ = _; simp [ng] <;> omega
  have hLz : Hid (LZ (-x) = LZ x) := by show _ = _; unfold LZ; congr 1 <;> omega
  have hNz : (-x).natAbs = x.natAbs := by omega

  rw [hng]
  have hM : Hid (ZM w a1 c1 (-x)) := by show ZM w a1 c1 (-x); unfold ZM; rw [hNz]; exact h1
  have hxH := Lib.hid hx
  clear h1 hNz hng hx
  go_enter Try.func51, Try.ntmps51
  go_wp2_with (fail)
  refine bodyPost_ret (v := .agg #[.bool false, .slice a1 (LZ x) c1]) (by simp [results, Try.results51, go_sem] <;> omega) rfl ?_
  rw [← hLz.out]
  exact RetZ.fin3 (N := w.heap.size) (z := -x) hbz.out (hM.out.up (by go_grown)) (Below.refl _ _) (by go_grown) (Nat.le_refl _)

set_option maxHeartbeats 400000 in
theorem zneg_b (a1 : Option Addr) (c1 : Nat) (x : Int) (w : World) (h1 : ZM w a1 c1 x) (hx : 0 < x) :
    Calls Try.prog 51 #[.agg #[.bool (ng x), .slice a1 (LZ x) c1]] w (RetZ w (-x)) := by
  have hng : ng x = false := by simp [ng]; omega
  have hbz : Hid (Value.bool true = Value.bool (ng (-x))) := by show _ = _; simp [ng] <;> omega
  have hLz : Hid (LZ (-x) = LZ x) := by show _ = _; unfold LZ; congr 1 <;> omega
  have hNz : (-x).natAbs = x.natAbs := by omega
  have hl : (0 : Int) < (LZ x : Int) := by have h9 : LZ x ≠ 0 := fun h => (by have := LZ_zero.1 h; omega); omega
  rw [hng]
  have hM : Hid (ZM w a1 c1 (-x)) := by show ZM w a1 c1 (-x); unfold ZM; rw [hNz]; exact h1
  have hxH := Lib.hid hx
  clear h1 hNz hng hx
  go_enter Try.func51, Try.ntmps51
  go_wp2_with (fail)
  refine bodyPost_ret (v := .agg #[.bool true, .slice a1 (LZ x) c1]) (by simp [results, Try.results51, go_sem] <;> omega) rfl ?_
  rw [← hLz.out]
  exact RetZ.fin3 (N := w.heap.size) (z := -x) hbz.out (hM.out.up (by go_grown)) (Below.refl _ _) (by go_grown) (Nat.le_refl _)

set_option maxHeartbeats 400000 in
theorem zneg_c (a1 : Option Addr) (c1 : Nat) (x : Int) (w : World) (h1 : ZM w a1 c1 x) (hx : x = 0) :
    Calls Try.prog 51 #[.agg #[.bool (ng x), .slice a1 (LZ x) c1]] w (RetZ w (-x)) := by
  have hng : ng x = false := by simp [ng]; omega
  have hbz : Hid (Value.bool false = Value.bool (ng (-x))) := by show _ = _; simp [ng] <;> omega
  have hLz : Hid (LZ (-x) = LZ x) := by show _ = _; unfold LZ; congr 1 <;> omega
  have hNz : (-x).natAbs = x.natAbs := by omega
  have hl : ¬ (0 : Int) < (LZ x : Int) := by have : LZ x = 0 := LZ_zero.2 (by omega); omega
  rw [hng]
  have hM : Hid (ZM w a1 c1 (-x)) := by show ZM w a1 c1 (-x); unfold ZM; rw [hNz]; exact h1
  have hxH := Lib.hid hx
  clear h1 hNz hng hx
  go_enter Try.func51, Try.ntmps51
  go_wp2_with (fail)
  refine bodyPost_ret (v := .agg #[.bool false, .slice a1 (LZ x) c1]) (by simp [results, Try.results51, go_sem] <;> omega) rfl ?_
  rw [← hLz.out]
  exact RetZ.fin3 (N := w.heap.size) (z := -x) hbz.out (hM.out.up (by go_grown)) (Below.refl _ _) (by go_grown) (Nat.le_refl _)

theorem zneg_any (a1 : Option Addr) (c1 : Nat) (x : Int) (w : World) (h1 : ZM w a1 c1 x) :
    Calls Try.prog 51 #[.agg #[.bool (ng x), .slice a1 (LZ x) c1]] w (RetZ w (-x)) := by
  by_cases h : x < 0
  · exact zneg_a a1 c1 x w h1 h
  · by_cases h' : x = 0
    · exact zneg_c a1 c1 x w h1 h'
    · exact zneg_b a1 c1 x w h1 (by omega)

set_option maxHeartbeats 400000 in
theorem zabs_a (a1 : Option Addr) (c1 : Nat) (x : Int) (w : World) (h1 : ZM w a1 c1 x) (hx : x < 0) :
    Calls Try.prog 48 #[.agg #[.bool (ng x), .slice a1 (LZ x) c1]] w (RetZ w ((x.natAbs : Int))) := by
  have hng : ng x = true := by simp [ng]; omega
  have hbz : Hid (Value.bool false = Value.bool (ng ((x.natAbs : Int)))) := by show _ = _; simp [ng] <;> omega
  have hLz : Hid (LZ ((x.natAbs : Int)) = LZ x) := by show _ = _; unfold LZ; congr 1 <;> omega
  have hNz : ((x.natAbs : Int)).natAbs = x.natAbs := by omega

  rw [hng]
  have hM : Hid (ZM w a1 c1 ((x.natAbs : Int))) := by show ZM w a1 c1 ((x.natAbs : Int)); unfold ZM; rw [hNz]; exact h1
  have hxH := Lib.hid hx
  clear h1 hNz hng hx
  go_enter Try.func48, Try.ntmps48
  go_wp2_with (fail)
  refine bodyPost_ret (v := .agg #[.bool false, .slice a1 (LZ x) c1]) (by simp [results, Try.results48, go_sem] <;> omega) rfl ?_
  rw [← hLz.out]
  exact RetZ.fin3 (N := w.heap.size) (z := (x.natAbs : Int)) hbz.out (hM.out.up (by go_grown)) (Below.refl _ _) (by go_grown) (Nat.le_refl _)

set_option maxHeartbeats 400000 in
theorem zabs_b (a1 : Option Addr) (c1 : Nat) (x : Int) (w : World) (h1 : ZM w a1 c1 x) (hx : 0 ≤ x) :
    Calls Try.prog 48 #[.agg #[.bool (ng x), .slice a1 (LZ x) c1]] w (RetZ w ((x.natAbs : Int))) := by
  have hng : ng x = false := by simp [ng]; omega
  have hbz : Hid (Value.bool false = Value.bool (ng ((x.natAbs : Int)))) := by show _ = _; simp [ng] <;> omega
  have hLz : Hid (LZ ((x.natAbs : Int)) = LZ x) := by show _ = _; unfold LZ; congr 1 <;> omega
  have hNz : ((x.natAbs : Int)).natAbs = x.natAbs := by omega

  rw [hng]
  have hM : Hid (ZM w a1 c1 ((x.natAbs : Int))) := by show ZM w a1 c1 ((x.natAbs : Int)); unfold ZM; rw [hNz]; exact h1
  have hxH := Lib.hid hx
  clear h1 hNz hng hx
  go_enter Try.func48, Try.ntmps48
  go_wp2_with (fail)
  refine bodyPost_ret (v := .agg #[.bool false, .slice a1 (LZ x) c1]) (by simp [results, Try.results48, go_sem] <;> omega) rfl ?_
  rw [← hLz.out]
  exact RetZ.fin3 (N := w.heap.size) (z := (x.natAbs : Int)) hbz.out (hM.out.up (by go_grown)) (Below.refl _ _) (by go_grown) (Nat.le_refl _)

theorem zabs_any (a1 : Option Addr) (c1 : Nat) (x : Int) (w : World) (h1 : ZM w a1 c1 x) :
    Calls Try.prog 48 #[.agg #[.bool (ng x), .slice a1 (LZ x) c1]] w (RetZ w (x.natAbs : Int)) := by
  by_cases h : x < 0
  · exact zabs_a a1 c1 x w h1 h
  · exact zabs_b a1 c1 x w h1 (by omega)



set_option maxHeartbeats 800000 in
theorem zadd_same (s : Bool) (a1 a2 : Option Addr) (c1 c2 : Nat) (x y : Int) (w : World) (h1 : ZM w a1 c1 x) (h2 : ZM w a2 c2 y) (hb1 : LZ x ≤ 100000000) (hb2 : LZ y ≤ 100000000) (hx : ng x = s) (hy : ng y = s) :
    Calls Try.prog 76 #[.agg #[.bool s, .slice a1 (LZ x) c1], .agg #[.bool s, .slice a2 (LZ y) c2]] w (RetZ w (x + y)) := by
  have hz := Lib.hid (sgn_add_same hx hy)
  have hss : (s == s) = true := by simp
  clear hx hy
  obtain ⟨W, hW, hbl, e0, e1, e2, e3, hR⟩ := boxed3 w (Value.bool s) (Value.slice a1 (LZ x) c1) (Value.bool s) (Value.slice a2 (LZ y) c2) 40 40 40
  have hWH := Lib.hid hW
  have HR := Lib.hid hR
  have hblH := Lib.hid hbl
  clear hW hR
  go_enter Try.func76, Try.ntmps76
  go_wp2_with (fail)
  rw [← hWH.out]
  go_region_held3 (fun w' => Rg (w.heap.size + 1 + 1) 2 W w')
    (first | exact HR.out.drew | exact Rg.step (by assumption) (by omega) (by assumption) | exact Rg.set (Rg.set (by assumption) _) _)
    (first
      | (go_at_call 83; (with_reducible refine (plus_z _ _ _ _ _ _ _ (h1.kp hbl (by assumption) (by omega)) (h2.kp hbl (by assumption) (by omega)) (by omega) (by omega)).mono ?_); rintro e w1 ⟨ao, cap, kk, zs, rfl, hzl, hm, hkc, hlt, hval, hkm, hb1'⟩; have hkb : kk ≤ 4000000000 := by omega)
      | (go_at_call 65; (with_reducible refine (lean_n _ _ _ kk _ zs _ hzl hm hlt hkc hkb hval).mono ?_); rintro e w2 ⟨ao2, cap2, rfl, hm2, hb2'⟩; obtain ⟨g1, g2, g3, g5, g4⟩ := Rg.step (by assumption) (by omega) hb2'))
  go_wp2_with (fail)
  rw [hz.out]
  rw [hz.out] at hm2
  refine bodyPost_ret (v := .agg #[.bool (ng (x + y)), .slice ao2 (LZ (x + y)) cap2]) (by simp [results, Try.results76, go_sem, g2]) rfl ?_
  refine RetZ.fin3 (N := w.heap.size + 1 + 1) rfl ((hm2.setN g5 _ _).setN (g5.set _ _ (by intro _ _ h; cases h)) _ _) hblH.out ?_ (by omega)
  exact (g4.setCell (Nat.le_refl _) _).setCell (Nat.le_refl _) _

set_option maxHeartbeats 800000 in
theorem zadd_ge (s t : Bool) (a1 a2 : Option Addr) (c1 c2 : Nat) (x y : Int) (w : World) (h1 : ZM w a1 c1 x) (h2 : ZM w a2 c2 y) (hb1 : LZ x ≤ 100000000) (hb2 : LZ y ≤ 100000000) (hx : ng x = s) (hy : ng y = t) (hst : (s == t) = false) (hc : y.natAbs ≤ x.natAbs) :
    Calls Try.prog 76 #[.agg #[.bool s, .slice a1 (LZ x) c1], .agg #[.bool t, .slice a2 (LZ y) c2]] w (RetZ w (x + y)) := by
  have hz := Lib.hid (sgn_add_ge hx hy (by simpa using hst) hc)
  have hle : y.natAbs ≤ x.natAbs := hc
  have hcmp : 0 ≤ cmpN x.natAbs y.natAbs := cmp_ge hc
  clear hx hy hc
  obtain ⟨W, hW, hbl, e0, e1, e2, e3, hR⟩ := boxed3 w (Value.bool s) (Value.slice a1 (LZ x) c1) (Value.bool t) (Value.slice a2 (LZ y) c2) 40 40 40
  have hWH := Lib.hid hW
  have HR := Lib.hid hR
  have hblH := Lib.hid hbl
  clear hW hR
  go_enter Try.func76, Try.ntmps76
  go_wp2_with (first | (go_at_call 66; rw [← hWH.out]; (with_reducible refine (sizes_z _ _ _ _ x y _ (h1.below hbl) (h2.below hbl) (by omega) (by omega)).mono ?_); rintro e wc ⟨rfl, hbc⟩; have HRc := Rg.step HR.out (by omega) hbc; obtain ⟨k1, k2, k3, k5, k4⟩ := HRc))
  go_region_held3 (fun w' => Rg (w.heap.size + 1 + 1) 2 W w')
    (first | exact (Rg.step HR.out (by omega) hbc).drew | exact Rg.step (by assumption) (by omega) (by assumption) | exact Rg.set (Rg.set (by assumption) _) _)
    (first
      | (go_at_call 68; (with_reducible refine (less_z _ _ _ _ _ _ _ (h1.kp hbl (by assumption) (by omega)) (h2.kp hbl (by assumption) (by omega)) (by omega) hle).mono ?_); rintro e w1 ⟨ao, cap, kk, zs, rfl, hzl, hm, hkc, hlt, hval, hkm, hb1'⟩; have hkb : kk ≤ 4000000000 := by omega)
      | (go_at_call 65; (with_reducible refine (lean_n _ _ _ kk _ zs _ hzl hm hlt hkc hkb hval).mono ?_); rintro e w2 ⟨ao2, cap2, rfl, hm2, hb2'⟩; obtain ⟨g1, g2, g3, g5, g4⟩ := Rg.step (by assumption) (by omega) hb2'))
  go_wp2_with (fail)
  rw [hz.out]
  rw [hz.out] at hm2
  refine bodyPost_ret (v := .agg #[.bool (ng (x + y)), .slice ao2 (LZ (x + y)) cap2]) (by simp [results, Try.results76, go_sem, g2]) rfl ?_
  refine RetZ.fin3 (N := w.heap.size + 1 + 1) rfl ((hm2.setN g5 _ _).setN (g5.set _ _ (by intro _ _ h; cases h)) _ _) hblH.out ?_ (by omega)
  exact (g4.setCell (Nat.le_refl _) _).setCell (Nat.le_refl _) _

set_option maxHeartbeats 800000 in
theorem zadd_lt (s t : Bool) (a1 a2 : Option Addr) (c1 c2 : Nat) (x y : Int) (w : World) (h1 : ZM w a1 c1 x) (h2 : ZM w a2 c2 y) (hb1 : LZ x ≤ 100000000) (hb2 : LZ y ≤ 100000000) (hx : ng x = s) (hy : ng y = t) (hst : (s == t) = false) (hc : ¬ y.natAbs ≤ x.natAbs) :
    Calls Try.prog 76 #[.agg #[.bool s, .slice a1 (LZ x) c1], .agg #[.bool t, .slice a2 (LZ y) c2]] w (RetZ w (x + y)) := by
  have hz := Lib.hid (sgn_add_lt hx hy (by simpa using hst) hc)
  have hle : x.natAbs ≤ y.natAbs := (by omega)
  have hcmp : ¬ 0 ≤ cmpN x.natAbs y.natAbs := by have := cmp_lt hc; omega
  clear hx hy hc
  obtain ⟨W, hW, hbl, e0, e1, e2, e3, hR⟩ := boxed3 w (Value.bool s) (Value.slice a1 (LZ x) c1) (Value.bool t) (Value.slice a2 (LZ y) c2) 40 40 40
  have hWH := Lib.hid hW
  have HR := Lib.hid hR
  have hblH := Lib.hid hbl
  clear hW hR
  go_enter Try.func76, Try.ntmps76
  go_wp2_with (first | (go_at_call 66; rw [← hWH.out]; (with_reducible refine (sizes_z _ _ _ _ x y _ (h1.below hbl) (h2.below hbl) (by omega) (by omega)).mono ?_); rintro e wc ⟨rfl, hbc⟩; have HRc := Rg.step HR.out (by omega) hbc; obtain ⟨k1, k2, k3, k5, k4⟩ := HRc))
  go_region_held3 (fun w' => Rg (w.heap.size + 1 + 1) 2 W w')
    (first | exact (Rg.step HR.out (by omega) hbc).drew | exact Rg.step (by assumption) (by omega) (by assumption) | exact Rg.set (Rg.set (by assumption) _) _)
    (first
      | (go_at_call 68; (with_reducible refine (less_z _ _ _ _ _ _ _ (h2.kp hbl (by assumption) (by omega)) (h1.kp hbl (by assumption) (by omega)) (by omega) hle).mono ?_); rintro e w1 ⟨ao, cap, kk, zs, rfl, hzl, hm, hkc, hlt, hval, hkm, hb1'⟩; have hkb : kk ≤ 4000000000 := by omega)
      | (go_at_call 65; (with_reducible refine (lean_n _ _ _ kk _ zs _ hzl hm hlt hkc hkb hval).mono ?_); rintro e w2 ⟨ao2, cap2, rfl, hm2, hb2'⟩; obtain ⟨g1, g2, g3, g5, g4⟩ := Rg.step (by assumption) (by omega) hb2'))
  go_wp2_with (fail)
  rw [hz.out]
  rw [hz.out] at hm2
  refine bodyPost_ret (v := .agg #[.bool (ng (x + y)), .slice ao2 (LZ (x + y)) cap2]) (by simp [results, Try.results76, go_sem, g2]) rfl ?_
  refine RetZ.fin3 (N := w.heap.size + 1 + 1) rfl ((hm2.setN g5 _ _).setN (g5.set _ _ (by intro _ _ h; cases h)) _ _) hblH.out ?_ (by omega)
  exact (g4.setCell (Nat.le_refl _) _).setCell (Nat.le_refl _) _

theorem zadd_any (a1 a2 : Option Addr) (c1 c2 : Nat) (x y : Int) (w : World) (h1 : ZM w a1 c1 x) (h2 : ZM w a2 c2 y) (hb1 : LZ x ≤ 100000000) (hb2 : LZ y ≤ 100000000) :
    Calls Try.prog 76 #[.agg #[.bool (ng x), .slice a1 (LZ x) c1], .agg #[.bool (ng y), .slice a2 (LZ y) c2]] w (RetZ w (x + y)) := by
  by_cases hs : ng x = ng y
  · have := zadd_same (ng x) a1 a2 c1 c2 x y w h1 h2 hb1 hb2 rfl hs.symm
    rw [← hs]
    exact this
  · have hst : (ng x == ng y) = false := by simpa using hs
    by_cases hc : y.natAbs ≤ x.natAbs
    · exact zadd_ge _ _ a1 a2 c1 c2 x y w h1 h2 hb1 hb2 rfl rfl hst hc
    · exact zadd_lt _ _ a1 a2 c1 c2 x y w h1 h2 hb1 hb2 rfl rfl hst hc

set_option maxHeartbeats 800000 in
theorem zsub_any (a1 a2 : Option Addr) (c1 c2 : Nat) (x y : Int) (w : World) (h1 : ZM w a1 c1 x) (h2 : ZM w a2 c2 y) (hb1 : LZ x ≤ 100000000) (hb2 : LZ y ≤ 100000000) :
    Calls Try.prog 69 #[.agg #[.bool (ng x), .slice a1 (LZ x) c1], .agg #[.bool (ng y), .slice a2 (LZ y) c2]] w (RetZ w (x - y)) := by
  have hz : Hid (x + -y = x - y) := by show x + -y = x - y; omega
  have hbn : LZ (-y) ≤ 100000000 := by rw [LZ_neg]; exact hb2
  obtain ⟨W, hW, hbl, e0, e1, e2, e3, hR⟩ := boxed3 w (Value.bool (ng x)) (Value.slice a1 (LZ x) c1) (Value.bool (ng y)) (Value.slice a2 (LZ y) c2) 40 40 40
  have hWH := Lib.hid hW
  have HR := Lib.hid hR
  have hblH := Lib.hid hbl
  clear hW hR
  go_enter Try.func69, Try.ntmps69
  go_wp2_with (fail)
  rw [← hWH.out]
  go_region_held3 (fun w' => Rg (w.heap.size + 1 + 1) 2 W w')
    (first | exact HR.out.drew | exact Rg.step (by assumption) (by omega) (by assumption) | exact Rg.set (Rg.set (by assumption) _) _)
    (first
      | (go_at_call 51; (with_reducible refine (zneg_any _ _ _ _ (h2.kp hbl (by assumption) (by omega))).mono ?_); rintro e w1 ⟨ao, cap, rfl, hm, hb1'⟩)
      | (go_at_call 76; (with_reducible refine (zadd_any _ _ _ _ _ _ _ (h1.kp hbl (by assumption) (by omega)) hm hb1 hbn).mono ?_); rintro e w2 ⟨ao2, cap2, rfl, hm2, hb2'⟩; obtain ⟨g1, g2, g3, g5, g4⟩ := Rg.step (by assumption) (by omega) hb2'))
  go_wp2_with (fail)
  rw [hz.out]
  rw [hz.out] at hm2
  refine bodyPost_ret (v := .agg #[.bool (ng (x - y)), .slice ao2 (LZ (x - y)) cap2]) (by simp [results, Try.results69, go_sem, g2]) rfl ?_
  refine RetZ.fin3 (N := w.heap.size + 1 + 1) rfl ((hm2.setN g5 _ _).setN (g5.set _ _ (by intro _ _ h; cases h)) _ _) hblH.out ?_ (by omega)
  exact (g4.setCell (Nat.le_refl _) _).setCell (Nat.le_refl _) _

end Go.Proofs.Ytkecdjdggkpdpab
