/- Kb Kc Kd Ke Kf Kg -/
import Derived.Test.YtkecdjdggkpdpabQRat4
import Derived.Deep.CutRange
import Derived.Test.YtkecdjdggkpdpabQTo
import Derived.Test.YtkecdjdggkpdpabQWe
import Derived.Test.YtkecdjdggkpdpabQJm
import Derived.Test.YtkecdjdggkpdpabQPc
set_option linter.unusedVariables false
/- The program's integers and fractions, of any sign: Of, Whole, Ratio, Div. -/
namespace Go.Proofs.Ytkecdjdggkpdpab
open Go Go.RowKit Go.Proofs

set_option maxHeartbeats 800000 in
theorem of_neg (n : Nat) (w : World) (hn : n ≤ 4611686018427387904) (h0 : 0 < n) : Calls Try.prog 34 #[.int .i64 (-(n : Int))] w (RetInt w (-(n : Int))) := by
  have hz : Hid (sgn true n = -(n : Int)) := rfl
  have hR := Lib.hid (boxed1 w 49)
  have hv : val B32 [n % B32, n / B32] = n := by simp [val]; exact Nat.mod_add_div n B32
  have hvB : Lt B32 [n % B32, n / B32] := fun x hx => by
    simp at hx
    unfold B32 at *
    omega
  have hc1 : ((n : Int) % 4294967296) = ((n % B32 : Nat) : Int) := by unfold B32; simp
  have hc2 : ((n : Int) / 4294967296) = ((n / B32 : Nat) : Int) := by unfold B32; simp
  have hL : L B32 n ≤ 4000000000 := by
    have : L B32 n ≤ 2 := L_le_of_lt two_le_B32 _ _ (by unfold B32; omega)
    omega
  have hd : (-(n : Int) < 0) := by omega
  have hvH := Lib.hid hv
  have hcH1 := Lib.hid hc1
  have hcH2 := Lib.hid hc2
  clear hv hc1 hc2
  go_enter Try.func34, Try.ntmps34
  go_upto_region 4 with (fail)
  rw [show IntKind.u64.wrap (-IntKind.u64.wrap (-(n : Int))) = (n : Int) by simp only [IntKind.wrap_u64]; omega]
  have hdB : decide (-(n : Int) < 0) = true := decide_eq_true hd
  go_wp2_with (fail)
  rw [hcH1.out, hcH2.out]
  generalize hW : (w.alloc (Obj.cells #[.bool false, .slice none 0 0] 49)) = W at hR
  have hsz : W.heap.size = w.heap.size + 1 := by rw [← hW]; simp
  have hbw : Below w.heap.size w W := by rw [← hW]; go_grown
  have hN : Nblk .u32 (W.alloc (Obj.cells #[.int .u32 ((n % B32 : Nat) : Int), .int .u32 ((n / B32 : Nat) : Int)] 100)) (w.heap.size + 1) 100 [n % B32, n / B32] := heap_at_new W _ _ hsz
  have ht := trim_any (some ⟨w.heap.size + 1, 0, none⟩) 2 [n % B32, n / B32] _ hN.dg hvB (by simp) (by simp)
  rw [hvH.out] at ht
  have hb2 : Below W.heap.size W (W.alloc (Obj.cells #[.int .u32 ((n % B32 : Nat) : Int), .int .u32 ((n / B32 : Nat) : Int)] 100)) := (Below.refl _ _).alloc (Nat.le_refl _) _
  generalize W.alloc (Obj.cells #[.int .u32 ((n % B32 : Nat) : Int), .int .u32 ((n / B32 : Nat) : Int)] 100) = W2 at *
  refine ht.mono ?_
  rintro e w3 ⟨rfl, hm, rfl⟩
  have hR2 := Lib.hid (Rg.step hR.out (by omega) hb2)
  have hs2 := hb2.size
  clear hN ht
  go_wp2_with (first | (go_at_call 53; (with_reducible refine (made_any true _ _ _ _ hm hL).mono ?_); rintro e w3 ⟨ao2, cap2, rfl, hm2, hb2'⟩; obtain ⟨g1, g2, g3, g5, g4⟩ := Rg.step hR2.out (by omega) hb2'))
  rw [hz.out]
  rw [hz.out] at hm2
  refine bodyPost_ret (v := .agg #[.bool (ng (-(n : Int))), .slice ao2 (LI (-(n : Int))) cap2]) (by simp [results, Try.results34, go_sem, g2]) rfl ?_
  refine RetInt.fin (N := w.heap.size) rfl ((hm2.setN g5 _ _).setN (g5.set _ _ (by intro _ _ h; cases h)) _ _) hbw ?_ (by omega)
  exact (g4.setCell (Nat.le_refl _) _).setCell (Nat.le_refl _) _
/-- Of, for each number that is small enough. -/
theorem of_int (z : Int) (w : World) (h1 : -4611686018427387904 ≤ z) (h2 : z ≤ 4611686018427387904) : Calls Try.prog 34 #[.int .i64 z] w (RetInt w z) := by
  by_cases h0 : 0 ≤ z
  · obtain ⟨n, rfl⟩ : ∃ n : Nat, z = (n : Int) := ⟨z.toNat, by omega⟩
    exact of_nat n w (by omega)
  · obtain ⟨n, rfl⟩ : ∃ n : Nat, z = -(n : Int) := ⟨(-z).toNat, by omega⟩
    exact of_neg n w (by omega) (by omega)
set_option maxHeartbeats 400000 in
theorem whole_int (n : Int) (w : World) (hn1 : -4611686018427387904 ≤ n) (hn : n ≤ 4611686018427387904) :
    Calls Try.prog 11 #[.int .i64 n] w (RetRat w (n : Rat)) := by
  have hR : Hid (Rg w.heap.size 4 (w.alloc (Obj.cells #[.bool false, .slice none 0 0, .bool false, .slice none 0 0] 51)) (w.alloc (Obj.cells #[.bool false, .slice none 0 0, .bool false, .slice none 0 0] 51))) := Rg.new4 _ _ _ rfl
  have hbl : Below w.heap.size w (w.alloc (Obj.cells #[.bool false, .slice none 0 0, .bool false, .slice none 0 0] 51)) := by go_grown
  have hblH := Lib.hid hbl
  clear hbl
  go_enter Try.func11, Try.ntmps11
  go_wp2_with (fail)
  refine (of_int n _ hn1 hn).mono ?_
  rintro e w1 ⟨a1, c1, rfl, hm1, hb1⟩
  have k1 := Lib.hid (Rg.step hR.out (by omega) hb1)
  go_wp2_with (fail)
  refine (of_one _).mono ?_
  rintro e w2 ⟨a2, c2, rfl, hm2, hb2⟩
  obtain ⟨g1, g2, g3, g5, g4⟩ := Rg.step k1.out (by omega) hb2
  have hm1' := hm1.up hb2
  go_wp2_with (fail)
  refine bodyPost_ret (v := .agg #[.bool (ng n), .slice a1 (LI n) c1, .bool (ng 1), .slice a2 (LI 1) c2]) (by simp [results, Try.results11, go_sem, g2]) rfl ?_
  exact RetRat.fin (N := w.heap.size) rfl rfl (hm1'.set4 g5 _ _ _ _ _ _ _ _) (hm2.set4 g5 _ _ _ _ _ _ _ _) hblH.out (below_set4 g4 (Nat.le_refl _) _ _ _ _) (by omega)
end Go.Proofs.Ytkecdjdggkpdpab

/- The program's fractions, of any sign: Ratio, Div. -/
namespace Go.Proofs.Ytkecdjdggkpdpab
open Go Go.RowKit Go.Proofs

theorem Blk.farK {w : World} {g T : Nat} {cs : List Value} (h : Blk w g T cs) {p : Addr} (hp : g ≠ p.block) (u : Value) : Blk (w.setCell p u) g T cs := (Below.heap_setCell w p u g hp).trans h
/-- Both parts behind their change of sign. -/
theorem ratio_swap {w W w3 : World} {N0 : Nat} {x y : Int} {b0 b1 c0 c1 : Bool} {p0 p1 o2 o3 : Option Addr} {n0 n1 k0 k1 k2 k3 : Nat} (h0 : Blk w3 N0 49 [Value.bool b0, Value.slice p0 n0 k0]) (h1 : Blk w3 (N0 + 1) 49 [Value.bool b1, Value.slice p1 n1 k1])
    (hR : Rg (N0 + 1 + 1) 4 W w3) (hx : IM w3 o2 k2 x) (hy : IM w3 o3 k3 y) (hb : Below N0 w w3) (W' : World) (hW' : W' = ((((w3.setCell ⟨N0, 0, none⟩ (.bool c0)).setCell ⟨N0, 1, none⟩ (.slice o2 (LI x) k2)).setCell ⟨N0 + 1, 0, none⟩ (.bool c1)).setCell ⟨N0 + 1, 1, none⟩ (.slice o3 (LI y) k3))) :
    IM W' o2 k2 x ∧ IM W' o3 k3 y ∧ W'.cell? ⟨N0, 0, none⟩ = some (.bool c0) ∧ W'.cell? ⟨N0, 1, none⟩ = some (.slice o2 (LI x) k2) ∧ W'.cell? ⟨N0 + 1, 0, none⟩ = some (.bool c1) ∧ W'.cell? ⟨N0 + 1, 1, none⟩ = some (.slice o3 (LI y) k3) ∧ Below N0 w W' ∧ Rg (N0 + 1 + 1) 4 W' W' := by
  have i0 : NoInt w3 N0 := noInt2 h0 (by intro _ _ h; cases h) (by intro _ _ h; cases h)
  have i1 : NoInt w3 (N0 + 1) := noInt2 h1 (by intro _ _ h; cases h) (by intro _ _ h; cases h)
  have j1 := i0.set ⟨N0, 0, none⟩ (.bool c0) (by intro _ _ h; cases h)
  have l1 := i1.set ⟨N0, 0, none⟩ (.bool c0) (by intro _ _ h; cases h)
  have l2 := l1.set ⟨N0, 1, none⟩ (.slice o2 (LI x) k2) (by intro _ _ h; cases h)
  have l3 := l2.set ⟨N0 + 1, 0, none⟩ (.bool c1) (by intro _ _ h; cases h)
  have g0 : Blk W' N0 49 [Value.bool c0, Value.slice o2 (LI x) k2] := by
    rw [hW']
    exact Blk.farK (Blk.farK (Blk.set (Blk.set h0 0 (.bool c0)) 1 (.slice o2 (LI x) k2)) (show N0 ≠ N0 + 1 by omega) _) (show N0 ≠ N0 + 1 by omega) _
  have g1 : Blk W' (N0 + 1) 49 [Value.bool c1, Value.slice o3 (LI y) k3] := by
    rw [hW']
    exact Blk.set (Blk.set (Blk.farK (Blk.farK h1 (show N0 + 1 ≠ N0 by omega) _) (show N0 + 1 ≠ N0 by omega) _) 0 (.bool c1)) 1 (.slice o3 (LI y) k3)
  have f0 : ∀ o, W'.cell? ⟨N0 + 1 + 1, o, none⟩ = w3.cell? ⟨N0 + 1 + 1, o, none⟩ := fun o => by
    rw [hW', World.cell?_setCell_other _ _ _ _ (by simp), World.cell?_setCell_other _ _ _ _ (by simp), World.cell?_setCell_other _ _ _ _ (by simp), World.cell?_setCell_other _ _ _ _ (by simp)]
  refine ⟨?_, ?_, by rw [Blk.cell g0]; rfl, by rw [Blk.cell g0]; rfl, by rw [Blk.cell g1]; rfl, by rw [Blk.cell g1]; rfl, ?_, Rg.mk (Below.refl _ _) (fun o ho => by rw [f0, hR.2.1 o ho]; rfl) (fun o => ?_) fun o k z hc => ?_⟩
  · rw [hW']; exact (((hx.setN i0 _ _).setN j1 _ _).setN l2 _ _).setN l3 _ _
  · rw [hW']; exact (((hy.setN i0 _ _).setN j1 _ _).setN l2 _ _).setN l3 _ _
  · rw [hW']; exact (((hb.setCell (Nat.le_refl _) _).setCell (Nat.le_refl _) _).setCell (Nat.le_succ _) _).setCell (Nat.le_succ _) _
  · rw [hW', World.frozen?_setCell, World.frozen?_setCell, World.frozen?_setCell, World.frozen?_setCell]; exact hR.2.2.1 o
  · rw [f0] at hc; exact hR.noInt o k z hc
theorem LI_negJ (x : Int) : LI (-x) = LI x := by unfold LI; rw [Int.natAbs_neg]
set_option maxHeartbeats 3200000 in
theorem ratio_all (a1 a2 : Option Addr) (c1 c2 : Nat) (x y : Int) (w : World) (h1 : IM w a1 c1 x) (h2 : IM w a2 c2 y) (hb1 : LI x ≤ 100000000) (hb2 : LI y ≤ 100000000) (hy : y ≠ 0) :
    Calls Try.prog 35 #[.agg #[.bool (ng x), .slice a1 (LI x) c1], .agg #[.bool (ng y), .slice a2 (LI y) c2]] w (RetRat w (Rat.divInt x y)) := by
  obtain ⟨nb, hnb⟩ : ∃ b, ng y = b := ⟨_, rfl⟩
  rw [hnb]
  obtain ⟨W, hW⟩ : ∃ W, W = ((w.alloc (Obj.cells #[Value.bool (ng x), Value.slice a1 (LI x) c1] 49)).alloc (Obj.cells #[Value.bool nb, Value.slice a2 (LI y) c2] 49)).alloc (Obj.cells #[Value.bool false, Value.slice none 0 0, Value.bool false, Value.slice none 0 0] 51) := ⟨_, rfl⟩
  have HR : Hid (Rg (w.heap.size + 1 + 1) 4 W W) := by rw [hW]; exact Rg.new4 _ _ _ (by simp)
  have e0 : W.cell? ⟨w.heap.size, 0, none⟩ = some (.bool (ng x)) := by rw [hW]; simp [go_sem]
  have e1 : W.cell? ⟨w.heap.size, 1, none⟩ = some (.slice a1 (LI x) c1) := by rw [hW]; simp [go_sem]
  have e2 : W.cell? ⟨w.heap.size + 1, 0, none⟩ = some (.bool nb) := by rw [hW]; simp [go_sem]
  have e3 : W.cell? ⟨w.heap.size + 1, 1, none⟩ = some (.slice a2 (LI y) c2) := by rw [hW]; simp [go_sem]
  have hsz : W.heap.size = w.heap.size + 3 := by rw [hW]; simp
  have hB0 : Hid (Blk W w.heap.size 49 [Value.bool (ng x), Value.slice a1 (LI x) c1]) := by
    show _ = _
    rw [hW, Below.heap_alloc _ _ _ (by simp; omega), Below.heap_alloc _ _ _ (by simp)]
    exact heap_alloc_new _ _
  have hB1 : Hid (Blk W (w.heap.size + 1) 49 [Value.bool nb, Value.slice a2 (LI y) c2]) := by
    show _ = _
    rw [hW, Below.heap_alloc _ _ _ (by simp)]
    exact heap_at_new _ _ _ (by simp)
  have hbl : Below w.heap.size w W := by rw [hW]; go_grown
  have hWH := Lib.hid hW
  have hblH := Lib.hid hbl
  have hi1 := Lib.hid (h1.up hbl)
  have hi2 := Lib.hid (h2.up hbl)
  have hszH := Lib.hid hsz
  have hnbH := Lib.hid hnb
  clear hW h1 h2 hbl hsz hnb
  go_enter Try.func35, Try.ntmps35
  go_upto_if 11 with (fail)
  rw [← hWH.out]
  go_cut [] from 10 to 15 (fun wc => ∃ (X Y : Int) (b1 : Option Addr) (d1 : Nat) (b2 : Option Addr) (d2 : Nat), 0 < Y ∧ Rat.divInt X Y = Rat.divInt x y ∧ LI X ≤ 100000000 ∧ LI Y ≤ 100000000 ∧ IM wc b1 d1 X ∧ IM wc b2 d2 Y ∧ wc.cell? ⟨w.heap.size, 0, none⟩ = some (.bool (ng X)) ∧ wc.cell? ⟨w.heap.size, 1, none⟩ = some (.slice b1 (LI X) d1) ∧ wc.cell? ⟨w.heap.size + 1, 0, none⟩ = some (.bool false) ∧ wc.cell? ⟨w.heap.size + 1, 1, none⟩ = some (.slice b2 (LI Y) d2) ∧ Below w.heap.size w wc ∧ Rg (w.heap.size + 1 + 1) 4 wc wc)
  case first =>
    cases nb
    rotate_left
    · go_upto_region 2 with (fail)
      have hneg : y < 0 := by have := hnbH.out; unfold ng at this; exact of_decide_eq_true this
      have hnyH := hnbH
      have hB00 : Below W.heap.size W W.drew := Below.drew (Below.refl _ _)
      have hup : Hid (∀ w', Below W.heap.size W w' → w'.cell? ⟨w.heap.size, 0, none⟩ = some (.bool (ng x)) ∧ w'.cell? ⟨w.heap.size, 1, none⟩ = some (.slice a1 (LI x) c1) ∧ w'.cell? ⟨w.heap.size + 1, 0, none⟩ = some (.bool true) ∧ w'.cell? ⟨w.heap.size + 1, 1, none⟩ = some (.slice a2 (LI y) c2)) := fun w' hb => ⟨Below.cellAt hb (Nat.le_refl _) e0, Below.cellAt hb (Nat.le_refl _) e1, Below.cellAt hb (Nat.le_refl _) e2, Below.cellAt hb (Nat.le_refl _) e3⟩
      go_region_with (first
        | (go_at_call 39; (with_reducible refine (neg_any a1 c1 x _ (hi1.out.up hB00) hb1).mono ?_); rintro e w2 ⟨o2, k2, rfl, hm2, hb2'⟩; have hq2 : Below W.heap.size W w2 := hB00.trans (hb2'.mono hB00.size); obtain ⟨p0, p1, p2, p3⟩ := hup.out _ hq2; have hm2H := Lib.hid hm2; have hq2H := Lib.hid hq2; clear hb2' hm2 hq2)
        | (go_at_call 39; have hng := neg_any a2 c2 y _ (hi2.out.up hq2H.out) hb2; rw [hnyH.out] at hng; (with_reducible refine hng.mono ?_); clear hng; rintro e w3 ⟨o3, k3, rfl, hm3, hb3'⟩; have hq3 : Below W.heap.size W w3 := hq2H.out.trans (hb3'.mono hq2H.out.size); obtain ⟨q0, q1, q2, q3⟩ := hup.out _ hq3; have hm3H := Lib.hid hm3; have hn2H := Lib.hid (hm2H.out.up hb3'); have fz0 := Blk.frozen (Blk.later hB0.out hq3); have fz1 := Blk.frozen (Blk.later hB1.out hq3); have hq3H := Lib.hid hq3; clear hb3' hm3 hq3))
      all_goals (
        go_wp2_with (fail)
        go_meet
        case rel =>
          obtain ⟨r1, r2, r3, r4, r5, r6, r7, r8⟩ := ratio_swap (Blk.later hB0.out hq3H.out) (Blk.later hB1.out hq3H.out) (Rg.step HR.out (by omega) hq3H.out) hn2H.out hm3H.out (hblH.out.trans (hq3H.out.mono hblH.out.size)) (c0 := ng (-x)) (c1 := ng (-y)) _ rfl
          refine ⟨-x, -y, o2, k2, o3, k3, by omega, Rat.neg_divInt_neg _ _, by rw [LI_negJ]; exact hb1, by rw [LI_negJ]; exact hb2, r1, r2, r3, r4, ?_, r6, r7, r8⟩
          rw [r5]
          have : ng (-y) = false := by unfold ng; exact decide_eq_false (by omega)
          rw [this])
    · have hneg : ¬ y < 0 := by have := hnbH.out; unfold ng at this; exact of_decide_eq_false this
      go_wp2_with (fail)
      go_meet
      case rel => exact ⟨x, y, a1, c1, a2, c2, by omega, rfl, hb1, hb2, hi1.out, hi2.out, e0, e1, e2, e3, hblH.out, HR.out⟩
  case rest =>
    obtain ⟨X, Y, b1, d1, b2, d2, hY, hXY, hB1', hB2, i1, i2, e0, e1, e2, e3, hbl, HR⟩ := hcut
    replace HR := Lib.hid HR
    have hblH := Lib.hid hbl
    clear hblH
    have hblH := Lib.hid hbl
    have hnY : ng Y = false := by simp [ng]; omega
    have hnYH := Lib.hid hnY
    generalize wc = W at *
    have hgcd := Lib.hid (gcd_any b1 b2 d1 d2 X Y W i1 i2 (by omega) (by omega))
    rw [hnY] at hgcd
    clear hnY
    generalize hg : Nat.gcd X.natAbs Y.natAbs = g at hgcd
    have hgH := Lib.hid hg
    have hg0 : 0 < g := by rw [← hg]; exact Nat.gcd_pos_of_pos_right _ (by omega)
    have hgL : LI (g : Int) ≤ 100000000 := by
      have : g ≤ Y.natAbs := by rw [← hg]; exact Nat.gcd_le_right _ (by omega)
      exact Nat.le_trans (L_mono two_le_B32 this) hB2
    have hnum : Hid (rn (Rat.divInt x y) = X / (g : Int)) := by show _ = _; rw [← hXY, rn_divInt hY, hg]
    have hden : Hid (rd (Rat.divInt x y) = Y / (g : Int)) := by show _ = _; rw [← hXY, rd_divInt hY, hg]
    have hdx : Hid (X % (g : Int) = 0) := by
      show _ = _
      refine Int.emod_eq_zero_of_dvd (Int.ofNat_dvd_left.2 ?_)
      rw [← hg]; exact Nat.gcd_dvd_left _ _
    have hdy : Hid (Y % (g : Int) = 0) := by
      show _ = _
      refine Int.emod_eq_zero_of_dvd (Int.ofNat_dvd_left.2 ?_)
      rw [← hg]; exact Nat.gcd_dvd_right _ _
    clear hg
    go_wp2_with (fail)
    refine hgcd.out.mono ?_
    rintro e w1 ⟨ag, cg, rfl, hmg, hbg⟩
    have k1 := Lib.hid (Rg.step HR.out (by omega) hbg)
    go_wp2_with (fail)
    generalize hW5 : w1.alloc (Obj.cells #[Value.bool (ng (g : Int)), Value.slice ag (LI (g : Int)) cg] 49) = W5
    have k5 : Hid (Rg (w.heap.size + 1 + 1) 4 W W5) := by rw [← hW5]; exact k1.out.alloc (by omega) _
    have q0 : W5.cell? ⟨w1.heap.size, 0, none⟩ = some (.bool (ng (g : Int))) := by rw [← hW5]; simp [go_sem]
    have q1 : W5.cell? ⟨w1.heap.size, 1, none⟩ = some (.slice ag (LI (g : Int)) cg) := by rw [← hW5]; simp [go_sem]
    have z5 : w1.heap.size < W5.heap.size := by rw [← hW5]; simp
    have hb5 : Below w1.heap.size w1 W5 := by rw [← hW5]; exact (Below.refl _ _).alloc (Nat.le_refl _) _
    have z1 : w.heap.size + 1 + 1 < w1.heap.size := k1.out.lt (by omega)
    have hmg5 := hmg.up hb5
    clear hW5
    go_region_held3 (fun w' => Rg (w.heap.size + 1 + 1) 4 W w' ∧ Kq W5 w')
      (first | exact ⟨k5.out.drew, Kq.drew _⟩ | exact k3 | exact ⟨Rg.step (And.left (by assumption)) (by omega) (by assumption), Kq.step (And.right (by assumption)) (by assumption)⟩)
      (first
        | (go_at_call 34; (with_reducible refine (of_one _).mono ?_); rintro e w2 ⟨ao2, cap2, rfl, hm2, hb2'⟩)
        | (go_at_call 40; (with_reducible refine (cmp_any _ _ _ _ _ _ _ (hmg5.kq (And.right (by assumption))) hm2 hgL (by rw [LI_one]; omega)).mono ?_); rintro e w3 ⟨rfl, hb3'⟩; have k3 : Rg (w.heap.size + 1 + 1) 4 W w3 ∧ Kq W5 w3 := ⟨Rg.step (And.left (b := Kq W5 w2) (by assumption)) (by omega) hb3', Kq.step (And.right (a := Rg (w.heap.size + 1 + 1) 4 W w2) (by assumption)) hb3'⟩))
    have k3H := Lib.hid k3
    obtain ⟨⟨r1, r2, r3, r4, r5⟩, ⟨r6, r7⟩⟩ := k3
    clear hb2' hm2
    by_cases hg1 : g = 1
    · have hsg : (sg ((g : Int) - 1) == 0) = true := by rw [hg1]; rfl
      have hg1H := Lib.hid hg1
      clear hg1
      go_wp2_with (fail)
      refine bodyPost_ret (v := .agg #[.bool (ng X), .slice b1 (LI X) d1, .bool false, .slice b2 (LI Y) d2]) (by simp [results, Try.results35, go_sem, r2]) rfl ?_
      rw [← hnYH.out]
      have u := hblH.out.trans (r5.mono (by omega))
      refine RetRat.fin (N := w.heap.size + 1 + 1) ?_ ?_ ((((i1.up hbg).up hb5).kq k3H.out.2).set4 r4 _ _ _ _ _ _ _ _) ((((i2.up hbg).up hb5).kq k3H.out.2).set4 r4 _ _ _ _ _ _ _ _) hblH.out (below_set4 r5 (Nat.le_refl _) _ _ _ _) (by omega)
      · rw [hnum.out, hg1H.out]; simp
      · rw [hden.out, hg1H.out]; simp
    · have hsg : (sg ((g : Int) - 1) == 0) = false := by
        have : sg ((g : Int) - 1) ≠ 0 := by unfold sg; split <;> (try split) <;> omega
        simpa using this
      have u := hblH.out.trans (r5.mono (by omega))
      have hq1 := Lib.hid (quo_exact b1 ag d1 cg X (g : Int) w3 (((i1.up hbg).up hb5).kq k3H.out.2) (hmg5.kq k3H.out.2) (by omega) (by omega) (by omega) hdx.out)
      have z3 := r7.size
      have z4 : w1.heap.size < w3.heap.size := by omega
      clear hg1
      go_wp2_with (fail)
      refine hq1.out.mono ?_
      rintro e w4 ⟨a3, c3, a4, c4, rfl, hm3, hb4⟩
      have k4 := Lib.hid (Rg.step k3H.out.1 (by omega) hb4)
      have y4 := Lib.hid (Kq.step k3H.out.2 hb4)
      obtain ⟨s1, s2, s3, s4, s5⟩ := k4.out
      obtain ⟨s6, s7⟩ := y4.out
      have l4 := hb4.size
      have l4a : w.heap.size < w4.heap.size := by omega
      have l4b : w.heap.size + 1 < w4.heap.size := by omega
      have l4c : w.heap.size + 1 + 1 < w4.heap.size := by omega
      have l4d : w1.heap.size < w4.heap.size := by omega
      clear r1 r2 r3 r4 r6 r7
      go_wp2_with (fail)
      generalize hW6 : ((w4.alloc (Obj.cells #[Value.bool (ng (X / (g : Int))), Value.slice a3 (LI (X / (g : Int))) c3] 49)).alloc (Obj.cells #[Value.bool false, Value.slice a4 0 c4] 49)) = W6
      have hb6 : Below w4.heap.size w4 W6 := by rw [← hW6]; exact ((Below.refl _ _).alloc (Nat.le_refl _) _).alloc (by simp) _
      have p0 : W6.cell? ⟨w4.heap.size, 0, none⟩ = some (.bool (ng (X / (g : Int)))) := by rw [← hW6]; simp [go_sem]
      have p1 : W6.cell? ⟨w4.heap.size, 1, none⟩ = some (.slice a3 (LI (X / (g : Int))) c3) := by rw [← hW6]; simp [go_sem]
      have z6 : w4.heap.size < W6.heap.size := by rw [← hW6]; simp; omega
      have k6 := Lib.hid (Rg.step k4.out (by omega) hb6)
      have y6 := Lib.hid (Kq.step y4.out hb6)
      have hm36 := hm3.up hb6
      have u6 := hblH.out.trans (k6.out.kept.mono (by omega : w.heap.size ≤ w.heap.size + 1 + 1))
      have hq2 := Lib.hid (quo_exact b2 ag d2 cg Y (g : Int) W6 (((i2.up hbg).up hb5).kq y6.out) (hmg5.kq y6.out) (by omega) (by omega) (by omega) hdy.out)
      rw [hnYH.out] at hq2
      clear hW6 s1 s2 s3 s4 s5 s6 s7
      refine hq2.out.mono ?_
      rintro e w7 ⟨a5, c5, a6, c6, rfl, hm5, hb7⟩
      have k7 := Lib.hid (Rg.step k6.out (by omega) hb7)
      have l7 := hb7.size
      have p0' : w7.cell? ⟨w4.heap.size, 0, none⟩ = some (.bool (ng (X / (g : Int)))) := Below.cellAt hb7 (Nat.le_refl _) p0
      have p1' : w7.cell? ⟨w4.heap.size, 1, none⟩ = some (.slice a3 (LI (X / (g : Int))) c3) := Below.cellAt hb7 (Nat.le_refl _) p1
      have l7a : w4.heap.size < w7.heap.size := by omega
      have l7b : w.heap.size + 1 + 1 < w7.heap.size := by omega
      have l7c : w.heap.size + 1 < w7.heap.size := by omega
      have l7d : w.heap.size < w7.heap.size := by omega
      have hm37 := hm36.up hb7
      obtain ⟨s1, s2, s3, s4, s5⟩ := k7.out
      go_wp2_with (fail)
      refine bodyPost_ret (v := .agg #[.bool (ng (X / (g : Int))), .slice a3 (LI (X / (g : Int))) c3, .bool (ng (Y / (g : Int))), .slice a5 (LI (Y / (g : Int))) c5]) (by simp [results, Try.results35, go_sem, s2, l7b, l7c]) rfl ?_
      have g1 := hm37.set4 s4 (ng (X / (g : Int))) (ng (Y / (g : Int))) a3 a5 (LI (X / (g : Int))) (LI (Y / (g : Int))) c3 c5
      have g2 := hm5.set4 s4 (ng (X / (g : Int))) (ng (Y / (g : Int))) a3 a5 (LI (X / (g : Int))) (LI (Y / (g : Int))) c3 c5
      have g3 := below_set4 s5 (Nat.le_refl _) (.bool (ng (X / (g : Int)))) (.slice a3 (LI (X / (g : Int))) c3) (.bool (ng (Y / (g : Int)))) (.slice a5 (LI (Y / (g : Int))) c5)
      have g4 : w7.heap.size = ((((w7.setCell ⟨w.heap.size + 1 + 1, 0, none⟩ (.bool (ng (X / (g : Int))))).setCell ⟨w.heap.size + 1 + 1, 1, none⟩ (.slice a3 (LI (X / (g : Int))) c3)).setCell ⟨w.heap.size + 1 + 1, 2, none⟩ (.bool (ng (Y / (g : Int))))).setCell ⟨w.heap.size + 1 + 1, 3, none⟩ (.slice a5 (LI (Y / (g : Int))) c5)).heap.size := by simp
      generalize ((((w7.setCell ⟨w.heap.size + 1 + 1, 0, none⟩ (.bool (ng (X / (g : Int))))).setCell ⟨w.heap.size + 1 + 1, 1, none⟩ (.slice a3 (LI (X / (g : Int))) c3)).setCell ⟨w.heap.size + 1 + 1, 2, none⟩ (.bool (ng (Y / (g : Int))))).setCell ⟨w.heap.size + 1 + 1, 3, none⟩ (.slice a5 (LI (Y / (g : Int))) c5)) = w8 at g1 g2 g3 g4 ⊢
      have g5 : Below w8.heap.size w8 ((w8.alloc (Obj.cells #[Value.bool (ng (Y / (g : Int))), Value.slice a5 (LI (Y / (g : Int))) c5] 49)).alloc (Obj.cells #[Value.bool false, Value.slice a6 0 c6] 49)) := ((Below.refl _ _).alloc (Nat.le_refl _) _).alloc (by simp) _
      exact RetRat.fin (N := w.heap.size + 1 + 1) hnum.out hden.out (g1.up g5) (g2.up g5) hblH.out (g3.trans (g5.mono (by omega))) (by omega)
end Go.Proofs.Ytkecdjdggkpdpab

/- The program's fractions, of any sign: Div. -/
namespace Go.Proofs.Ytkecdjdggkpdpab
open Go Go.RowKit Go.Proofs

set_option maxHeartbeats 3200000 in
theorem rdiv_all (a : Option Addr) (c : Nat) (a' : Option Addr) (c' : Nat) (b : Option Addr) (d : Nat) (b' : Option Addr) (d' : Nat) (p q : Rat) (w : World) (h1 : RM w a c a' c' p) (h2 : RM w b d b' d' q) (hp : Sz p) (hq : Sz q) (hpos0 : rn q ≠ 0) :
    Calls Try.prog 12 #[.agg #[.bool (ng (rn p)), .slice a (LI (rn p)) c, .bool (ng (rd p)), .slice a' (LI (rd p)) c'], .agg #[.bool (ng (rn q)), .slice b (LI (rn q)) d, .bool (ng (rd q)), .slice b' (LI (rd q)) d']] w (RetRat w (p / q)) := by
  have h1n : IM w a c (rn p) := h1.1
  have h1d : IM w a' c' (rd p) := h1.2
  have h2n : IM w b d (rn q) := h2.1
  have h2d : IM w b' d' (rd q) := h2.2
  obtain ⟨s1, s2⟩ := hp
  obtain ⟨s3, s4⟩ := hq
  have hz := Lib.hid (rat_div p q)
  have hpos : rd p * rn q ≠ 0 := Int.mul_ne_zero (Int.ne_of_gt (rd_pos p)) hpos0
  have l1 := LI_mul (rn p) (rd q)
  have l3 := LI_mul (rd p) (rn q)
  obtain ⟨W, hW⟩ : ∃ W, W = ((w.alloc (Obj.cells #[Value.bool (ng (rn p)), Value.slice a (LI (rn p)) c, Value.bool (ng (rd p)), Value.slice a' (LI (rd p)) c'] 51)).alloc (Obj.cells #[Value.bool (ng (rn q)), Value.slice b (LI (rn q)) d, Value.bool (ng (rd q)), Value.slice b' (LI (rd q)) d'] 51)).alloc (Obj.cells #[Value.bool false, Value.slice none 0 0, Value.bool false, Value.slice none 0 0] 51) := ⟨_, rfl⟩
  have HR : Hid (Rg (w.heap.size + 1 + 1) 4 W W) := by rw [hW]; exact Rg.new4 _ _ _ (by simp)
  have e0 : W.cell? ⟨w.heap.size, 0, none⟩ = some (.bool (ng (rn p))) := by rw [hW]; simp [go_sem]
  have e1 : W.cell? ⟨w.heap.size, 1, none⟩ = some (.slice a (LI (rn p)) c) := by rw [hW]; simp [go_sem]
  have e2 : W.cell? ⟨w.heap.size, 2, none⟩ = some (.bool (ng (rd p))) := by rw [hW]; simp [go_sem]
  have e3 : W.cell? ⟨w.heap.size, 3, none⟩ = some (.slice a' (LI (rd p)) c') := by rw [hW]; simp [go_sem]
  have f0 : W.cell? ⟨w.heap.size + 1, 0, none⟩ = some (.bool (ng (rn q))) := by rw [hW]; simp [go_sem]
  have f1 : W.cell? ⟨w.heap.size + 1, 1, none⟩ = some (.slice b (LI (rn q)) d) := by rw [hW]; simp [go_sem]
  have f2 : W.cell? ⟨w.heap.size + 1, 2, none⟩ = some (.bool (ng (rd q))) := by rw [hW]; simp [go_sem]
  have f3 : W.cell? ⟨w.heap.size + 1, 3, none⟩ = some (.slice b' (LI (rd q)) d') := by rw [hW]; simp [go_sem]
  have hbl : Below w.heap.size w W := by rw [hW]; go_grown
  have hWH := Lib.hid hW
  have hblH := Lib.hid hbl
  clear hW
  go_enter Try.func12, Try.ntmps12
  go_wp2_with (fail)
  rw [← hWH.out]
  go_region_held3 (fun w' => Rg (w.heap.size + 1 + 1) 4 W w')
    (first | exact HR.out.drew | exact Rg.step (by assumption) (by omega) (by assumption) | exact Rg.set (Rg.set (Rg.set (Rg.set (by assumption) _) _) _) _)
    (first
      | (go_at_call 36; (with_reducible refine (mul_any _ _ _ _ (rn p) (rd q) _ (h1n.kp hbl (by assumption) (by omega)) (h2d.kp hbl (by assumption) (by omega)) (by omega) (by omega)).mono ?_); rintro e w1 ⟨x1, y1, rfl, hm1, hb1⟩)
      | (go_at_call 36; (with_reducible refine (mul_any _ _ _ _ (rd p) (rn q) _ (h1d.kp hbl (by assumption) (by omega)) (h2n.kp hbl (by assumption) (by omega)) (by omega) (by omega)).mono ?_); rintro e w2 ⟨x2, y2, rfl, hm2, hb2⟩; have hm1' := hm1.up hb2)
      | (go_at_call 35; (with_reducible refine (ratio_all _ _ _ _ _ _ _ hm1' hm2 (by omega) (by omega) hpos).mono ?_); rintro e w5 ⟨x5, y5, z5, t5, rfl, hm5, hb5⟩; have k5 : Rg (w.heap.size + 1 + 1) 4 W w5 := Rg.step (by assumption) (by omega) hb5; obtain ⟨g1, g2, g3, g5, g4⟩ := k5))
  go_wp2_with (fail)
  rw [hz.out]
  rw [hz.out] at hm5
  refine bodyPost_ret (v := .agg #[.bool (ng (rn (p / q))), .slice x5 (LI (rn (p / q))) y5, .bool (ng (rd (p / q))), .slice z5 (LI (rd (p / q))) t5]) (by simp [results, Try.results12, go_sem, g2]) rfl ?_
  exact RetRat.fin (N := w.heap.size + 1 + 1) rfl rfl (hm5.1.set4 g5 _ _ _ _ _ _ _ _) (hm5.2.set4 g5 _ _ _ _ _ _ _ _) hblH.out (below_set4 g4 (Nat.le_refl _) _ _ _ _) (by omega)

end Go.Proofs.Ytkecdjdggkpdpab

/- Plain: belts, speeds, passes over the belts. -/
namespace Go.Proofs.Ytkecdjdggkpdpab

/-- A valid belt. -/
structure BtK where
  A : Nat
  B : Nat
  o : Int
  u : Nat
/-- Its ratio. -/
def rt (b : BtK) : Rat := Rat.divInt b.o (b.u : Int)
def okBt (n : Nat) (b : BtK) : Prop := b.A < n ∧ b.B < n ∧ b.A ≠ b.B ∧ b.o ≠ 0 ∧ -1000 ≤ b.o ∧ b.o ≤ 1000 ∧ 1 ≤ b.u ∧ b.u ≤ 1000
instance (n : Nat) (b : BtK) : Decidable (okBt n b) := by unfold okBt; infer_instance
/-- Of each wheel: the number of its part, and its speed, if it has one. -/
abbrev St := List (Option (Nat × Rat))
def stG (s : St) (j : Nat) : Option (Nat × Rat) := (s[j]?).getD none
theorem stG_set (s : St) (i : Nat) (v : Option (Nat × Rat)) (j : Nat) (hi : i < s.length) : stG (s.set i v) j = if i = j then v else stG s j := by
  unfold stG
  rw [List.getElem?_set]
  by_cases h : i = j
  · subst h; simp [hi]
  · simp [h]
theorem stG_get {s : St} {j : Nat} (h : j < s.length) : s[j]? = some (stG s j) := by unfold stG; rw [List.getElem?_eq_getElem h]; rfl
def stepG (f : Nat) (b : BtK) (s : St) : St :=
  match stG s b.A, stG s b.B with
  | some (g, q), none => if g = f then s.set b.B (some (f, q * rt b)) else s
  | none, some (g, q) => if g = f then s.set b.A (some (f, q / rt b)) else s
  | _, _ => s
def passG (wo : Nat → Bool) (f : Nat) : Nat → List BtK → St → St
  | _, [], s => s
  | i, b :: l, s => passG wo f (i + 1) l (if wo i then s else stepG f b s)
theorem passG_snoc (wo : Nat → Bool) (f : Nat) (b : BtK) : ∀ (i : Nat) (l : List BtK) (s : St), passG wo f i (l ++ [b]) s = if wo (i + l.length) then passG wo f i l s else stepG f b (passG wo f i l s)
  | i, [], s => rfl
  | i, a :: l, s => by
    show passG wo f (i + 1) (l ++ [b]) _ = _
    rw [passG_snoc wo f b (i + 1) l, List.length_cons, show i + 1 + l.length = i + (l.length + 1) by omega]
    rfl
def iterN {α : Type} (g : α → α) : Nat → α → α
  | 0, s => s
  | k + 1, s => g (iterN g k s)
theorem iterN_fix {α : Type} {g : α → α} {s : α} (h : g s = s) : ∀ k, iterN g k s = s
  | 0 => rfl
  | k + 1 => by show g (iterN g k s) = s; rw [iterN_fix h k, h]
theorem iterN_add {α : Type} (g : α → α) (s : α) (j : Nat) : ∀ k, iterN g (k + j) s = iterN g k (iterN g j s)
  | 0 => by rw [Nat.zero_add]; rfl
  | k + 1 => by rw [Nat.succ_add]; show g (iterN g (k + j) s) = g _; rw [iterN_add g s j k]
theorem iterN_end {α : Type} {g : α → α} {s t : α} {k n : Nat} (h : iterN g k s = t) (hf : g t = t) (hk : k ≤ n) : iterN g n s = t := by
  obtain ⟨d, rfl⟩ : ∃ d, n = d + k := ⟨n - k, by omega⟩
  rw [iterN_add, h, iterN_fix hf]
/-- The speeds, from the first wheel of each part on. -/
def speedsG (wo : Nat → Bool) (l : List BtK) (n : Nat) : Nat → St
  | 0 => List.replicate n none
  | f + 1 => match stG (speedsG wo l n f) f with
    | some _ => speedsG wo l n f
    | none => iterN (passG wo f 0 l) n ((speedsG wo l n f).set f (some (f, 1)))
/-- How many wheels have a speed. -/
def cntS (s : St) : Nat := s.countP fun x => x.isSome
theorem cntS_le (s : St) : cntS s ≤ s.length := List.countP_le_length
theorem cntS_set {s : St} {i : Nat} {v : Nat × Rat} (hi : i < s.length) (hn : stG s i = none) : cntS (s.set i (some v)) = cntS s + 1 := by
  unfold cntS
  have h1 : s[i] = none := by
    have := stG_get hi
    rw [hn, List.getElem?_eq_getElem hi] at this
    exact Option.some.inj this
  rw [List.countP_set hi, h1]
  simp
theorem stepG_len (f : Nat) (b : BtK) (s : St) : (stepG f b s).length = s.length := by
  unfold stepG
  split
  · split <;> simp
  · split <;> simp
  · rfl
theorem passG_len (wo : Nat → Bool) (f : Nat) : ∀ (l : List BtK) (i : Nat) (s : St), (passG wo f i l s).length = s.length
  | [], _, _ => rfl
  | b :: l, i, s => by
    show (passG wo f (i + 1) l _).length = _
    rw [passG_len wo f l]
    split
    · rfl
    · exact stepG_len f b s
/-- A step sets one wheel, or nothing. -/
theorem stepG_cases {n f : Nat} {b : BtK} {s : St} (hb : okBt n b) (hn : s.length = n) : stepG f b s = s ∨ cntS (stepG f b s) = cntS s + 1 := by
  unfold stepG
  split
  · rename_i g q h1 h2
    split
    · exact .inr (cntS_set (by rw [hn]; exact hb.2.1) h2)
    · exact .inl rfl
  · rename_i g q h1 h2
    split
    · exact .inr (cntS_set (by rw [hn]; exact hb.1) h1)
    · exact .inl rfl
  · exact .inl rfl
theorem passG_cases {n f : Nat} (wo : Nat → Bool) : ∀ (l : List BtK) (i : Nat) (s : St), (∀ b ∈ l, okBt n b) → s.length = n → passG wo f i l s = s ∨ cntS s < cntS (passG wo f i l s)
  | [], i, s, _, _ => .inl rfl
  | b :: l, i, s, hl, hn => by
    show passG wo f (i + 1) l _ = s ∨ cntS s < cntS (passG wo f (i + 1) l _)
    have hb := hl b (List.mem_cons_self ..)
    have hl' : ∀ b ∈ l, okBt n b := fun c hc => hl c (List.mem_cons_of_mem _ hc)
    split
    · exact passG_cases wo l (i + 1) s hl' hn
    · have h3 : (stepG f b s).length = n := by rw [stepG_len]; exact hn
      rcases stepG_cases (f := f) hb hn with h | h
      · rw [h]
        exact passG_cases wo l (i + 1) s hl' hn
      · right
        rcases passG_cases wo l (i + 1) (stepG f b s) hl' h3 with h4 | h4
        · rw [h4]; omega
        · omega
/-- Numbers of bounded size. -/
def Wd (k : Nat) (q : Rat) : Prop := (rn q).natAbs ≤ 1000 ^ k ∧ (rd q).natAbs ≤ 1000 ^ k
theorem Wd.mono {j k : Nat} {q : Rat} (h : Wd j q) (hjk : j ≤ k) : Wd k q := ⟨Nat.le_trans h.1 (Nat.pow_le_pow_right (by omega) hjk), Nat.le_trans h.2 (Nat.pow_le_pow_right (by omega) hjk)⟩
theorem divInt_size {x y : Int} (hy : y ≠ 0) : (rn (Rat.divInt x y)).natAbs ≤ x.natAbs ∧ (rd (Rat.divInt x y)).natAbs ≤ y.natAbs := by
  have key : ∀ x y : Int, 0 < y → (rn (Rat.divInt x y)).natAbs ≤ x.natAbs ∧ (rd (Rat.divInt x y)).natAbs ≤ y.natAbs := fun x y hy => by
    rw [rn_divInt hy, rd_divInt hy, Int.natAbs_ediv_of_dvd (Int.ofNat_dvd_left.2 (Nat.gcd_dvd_left _ _)), Int.natAbs_ediv_of_dvd (Int.ofNat_dvd_left.2 (Nat.gcd_dvd_right _ _))]
    exact ⟨Nat.div_le_self _ _, Nat.div_le_self _ _⟩
  by_cases h : 0 < y
  · exact key x y h
  · have h2 := key (-x) (-y) (by omega)
    rw [Rat.neg_divInt_neg, Int.natAbs_neg, Int.natAbs_neg] at h2
    exact h2
theorem Wd.mul {j k : Nat} {p q : Rat} (hp : Wd j p) (hq : Wd k q) : Wd (j + k) (p * q) := by
  have e : p * q = Rat.divInt (rn p * rn q) (rd p * rd q) := (rat_mul p q).symm
  have h := divInt_size (x := rn p * rn q) (y := rd p * rd q) (Int.mul_ne_zero (Int.ne_of_gt (rd_pos p)) (Int.ne_of_gt (rd_pos q)))
  rw [← e, Int.natAbs_mul, Int.natAbs_mul] at h
  refine ⟨Nat.le_trans h.1 ?_, Nat.le_trans h.2 ?_⟩
  · rw [Nat.pow_add]; exact Nat.mul_le_mul hp.1 hq.1
  · rw [Nat.pow_add]; exact Nat.mul_le_mul hp.2 hq.2
theorem rn_ne {q : Rat} (h : q ≠ 0) : rn q ≠ 0 := fun e => h (Rat.num_eq_zero.1 e)
theorem Wd.div {j k : Nat} {p q : Rat} (hp : Wd j p) (hq : Wd k q) (h0 : q ≠ 0) : Wd (j + k) (p / q) := by
  have e : p / q = Rat.divInt (rn p * rd q) (rd p * rn q) := (rat_div p q).symm
  have h := divInt_size (x := rn p * rd q) (y := rd p * rn q) (Int.mul_ne_zero (Int.ne_of_gt (rd_pos p)) (rn_ne h0))
  rw [← e, Int.natAbs_mul, Int.natAbs_mul] at h
  refine ⟨Nat.le_trans h.1 ?_, Nat.le_trans h.2 ?_⟩
  · rw [Nat.pow_add]; exact Nat.mul_le_mul hp.1 hq.2
  · rw [Nat.pow_add]; exact Nat.mul_le_mul hp.2 hq.1
theorem rt_wd {n : Nat} {b : BtK} (h : okBt n b) : Wd 1 (rt b) := by
  have h1 := divInt_size (x := b.o) (y := (b.u : Int)) (by have := h.2.2.2.2.2.2.1; omega)
  obtain ⟨_, _, _, _, h2, h3, h4, h5⟩ := h
  refine ⟨Nat.le_trans h1.1 (by omega), Nat.le_trans h1.2 (by omega)⟩
theorem rt_ne {n : Nat} {b : BtK} (h : okBt n b) : rt b ≠ 0 := by
  unfold rt
  obtain ⟨_, _, _, h1, _, _, h4, _⟩ := h
  intro e
  rw [Rat.divInt_ofNat] at e
  exact h1 ((Rat.mkRat_eq_zero (by omega)).1 e)
theorem rmul_ne {p q : Rat} (hp : p ≠ 0) (hq : q ≠ 0) : p * q ≠ 0 := fun e => by
  have h : p * q * q⁻¹ = p := by rw [Rat.mul_assoc, Rat.mul_inv_cancel q hq, Rat.mul_one]
  rw [e, Rat.zero_mul] at h
  exact hp h.symm
theorem rinv_ne {q : Rat} (hq : q ≠ 0) : q⁻¹ ≠ 0 := fun e => by
  have h := Rat.mul_inv_cancel q hq
  rw [e, Rat.mul_zero] at h
  exact absurd h (by decide)
/-- What holds of the speeds. -/
def okSt (n : Nat) (s : St) : Prop := s.length = n ∧ ∀ j f q, stG s j = some (f, q) → f < n ∧ q ≠ 0 ∧ Wd (cntS s) q
theorem okSt.set {n i f : Nat} {s : St} {q : Rat} (h : okSt n s) (hi : i < n) (hn : stG s i = none) (hf : f < n) (hq : q ≠ 0) (hw : Wd (cntS s + 1) q) : okSt n (s.set i (some (f, q))) := by
  have hi' : i < s.length := by rw [h.1]; exact hi
  refine ⟨by rw [List.length_set]; exact h.1, fun j g p hj => ?_⟩
  rw [stG_set s i _ j hi'] at hj
  rw [cntS_set hi' hn]
  split at hj
  · cases hj
    exact ⟨hf, hq, hw⟩
  · obtain ⟨h1, h2, h3⟩ := h.2 j g p hj
    exact ⟨h1, h2, h3.mono (Nat.le_succ _)⟩
theorem okSt.step {n f : Nat} {b : BtK} {s : St} (h : okSt n s) (hb : okBt n b) : okSt n (stepG f b s) := by
  unfold stepG
  split
  · rename_i g q h1 h2
    split
    · obtain ⟨e1, e2, e3⟩ := h.2 _ _ _ h1
      subst_vars
      exact h.set hb.2.1 h2 e1 (rmul_ne e2 (rt_ne hb)) (e3.mul (rt_wd hb))
    · exact h
  · rename_i g q h1 h2
    split
    · obtain ⟨e1, e2, e3⟩ := h.2 _ _ _ h2
      subst_vars
      exact h.set hb.1 h1 e1 (by rw [Rat.div_def]; exact rmul_ne e2 (rinv_ne (rt_ne hb))) (e3.div (rt_wd hb) (rt_ne hb))
    · exact h
  · exact h
theorem okSt.pass {n f : Nat} (wo : Nat → Bool) : ∀ (l : List BtK) (i : Nat) (s : St), okSt n s → (∀ b ∈ l, okBt n b) → okSt n (passG wo f i l s)
  | [], _, _, h, _ => h
  | b :: l, i, s, h, hl => by
    refine okSt.pass wo l (i + 1) _ ?_ fun c hc => hl c (List.mem_cons_of_mem _ hc)
    split
    · exact h
    · exact h.step (hl b (List.mem_cons_self ..))
theorem okSt.iter {n : Nat} {g : St → St} (hg : ∀ s, okSt n s → okSt n (g s)) {s : St} (h : okSt n s) : ∀ k, okSt n (iterN g k s)
  | 0 => h
  | k + 1 => hg _ (okSt.iter hg h k)
theorem Wd.one : Wd 1 (1 : Rat) := by constructor <;> decide
theorem okSt.start (n : Nat) : okSt n (List.replicate n none) := ⟨List.length_replicate, fun j f q h => by
  unfold stG at h
  rw [List.getElem?_replicate] at h
  split at h <;> cases h⟩
theorem okSt.speeds {n : Nat} {wo : Nat → Bool} {l : List BtK} (hl : ∀ b ∈ l, okBt n b) : ∀ f, f ≤ n → okSt n (speedsG wo l n f)
  | 0, _ => okSt.start n
  | f + 1, hf => by
    have ih := okSt.speeds (wo := wo) hl f (by omega)
    unfold speedsG
    split
    · exact ih
    · rename_i h
      exact okSt.iter (fun s hs => hs.pass wo l 0 s hl) (ih.set (by omega) h (by omega) (by decide) (Wd.one.mono (by omega))) n
theorem Wd.sz {k : Nat} {q : Rat} (h : Wd k q) (hk : k ≤ 1000) : Sz q := by
  have key : ∀ z : Int, z.natAbs ≤ 1000 ^ k → LI z ≤ 10000000 := fun z hz => by
    unfold LI
    refine Nat.le_trans (L_le_of_lt two_le_B32 k.succ _ (Nat.lt_of_le_of_lt hz ?_)) (by omega)
    refine Nat.lt_of_le_of_lt (Nat.pow_le_pow_left (show 1000 ≤ B32 by unfold B32; omega) k) ?_
    exact Nat.pow_lt_pow_right (by unfold B32; omega) (Nat.lt_succ_self k)
  exact ⟨key _ h.1, key _ h.2⟩
end Go.Proofs.Ytkecdjdggkpdpab

/- Belts in memory; the ratio of a belt. -/
namespace Go.Proofs.Ytkecdjdggkpdpab
open Go Go.RowKit Go.Proofs

/-- The slice holds these belts. -/
def BV (w : World) (ao : Option Addr) (l : List BtK) : Prop := ∀ (i : Nat) (b : BtK), l[i]? = some b → ∃ k o, ao = some ⟨k, o, none⟩ ∧ w.cell? ⟨k, o + i * 4, none⟩ = some (.int .i64 (b.A : Nat)) ∧ w.cell? ⟨k, o + i * 4 + 1, none⟩ = some (.int .i64 (b.B : Nat)) ∧ w.cell? ⟨k, o + i * 4 + 2, none⟩ = some (.int .i64 b.o) ∧ w.cell? ⟨k, o + i * 4 + 3, none⟩ = some (.int .i64 (b.u : Nat))
theorem BV.below {w w' : World} {ao : Option Addr} {l : List BtK} (h : BV w ao l) (hb : Below w.heap.size w w') : BV w' ao l := fun i b hi => by
  obtain ⟨k, o, h0, h1, h2, h3, h4⟩ := h i b hi
  exact ⟨k, o, h0, Below.cellAt hb (Nat.le_refl _) h1, Below.cellAt hb (Nat.le_refl _) h2, Below.cellAt hb (Nat.le_refl _) h3, Below.cellAt hb (Nat.le_refl _) h4⟩
theorem rn_int (z : Int) : rn (z : Rat) = z := rfl
theorem rd_int (z : Int) : rd (z : Rat) = 1 := rfl
theorem wd_int {z : Int} (h1 : -1000 ≤ z) (h2 : z ≤ 1000) : Wd 1 (z : Rat) := by
  unfold Wd
  rw [rn_int, rd_int]
  constructor <;> omega
theorem rt_div (b : BtK) : ((b.o : Int) : Rat) / (((b.u : Nat) : Int) : Rat) = rt b := by
  unfold rt
  rw [Rat.divInt_eq_div]
set_option maxHeartbeats 3200000 in
theorem ratio_bt {n : Nat} (b : BtK) (hb : okBt n b) (w : World) :
    Calls Try.prog 44 #[.agg #[.int .i64 (b.A : Nat), .int .i64 (b.B : Nat), .int .i64 b.o, .int .i64 (b.u : Nat)]] w (RetRat w (rt b)) := by
  obtain ⟨_, _, _, _, ho1, ho2, hu1, hu2⟩ := hb
  have hz := Lib.hid (rt_div b)
  have hso := Lib.hid ((wd_int ho1 ho2).sz (by omega))
  have hsu := Lib.hid ((wd_int (z := (b.u : Int)) (by omega) (by omega)).sz (by omega))
  have hne : Hid (rn (((b.u : Nat) : Int) : Rat) ≠ 0) := by show _ ≠ _; rw [rn_int]; omega
  obtain ⟨A, hA⟩ : ∃ A, b.A = A := ⟨_, rfl⟩
  obtain ⟨B, hB⟩ : ∃ B, b.B = B := ⟨_, rfl⟩
  obtain ⟨p, hp⟩ : ∃ p, b.o = p := ⟨_, rfl⟩
  obtain ⟨q, hq⟩ : ∃ q, b.u = q := ⟨_, rfl⟩
  rw [hp] at hz hso ho1 ho2
  rw [hq] at hz hsu hne hu1 hu2
  obtain ⟨W, hW⟩ : ∃ W, W = (w.alloc (Obj.cells #[Value.int .i64 (A : Nat), Value.int .i64 (B : Nat), Value.int .i64 p, Value.int .i64 (q : Nat)] 32)).alloc (Obj.cells #[Value.bool false, Value.slice none 0 0, Value.bool false, Value.slice none 0 0] 51) := ⟨_, rfl⟩
  have HR : Hid (Rg (w.heap.size + 1) 4 W W) := by rw [hW]; exact Rg.new4 _ _ _ (by simp)
  have e2 : W.cell? ⟨w.heap.size, 2, none⟩ = some (.int .i64 p) := by rw [hW]; simp [go_sem]
  have e3 : W.cell? ⟨w.heap.size, 3, none⟩ = some (.int .i64 (q : Nat)) := by rw [hW]; simp [go_sem]
  have hbl : Below w.heap.size w W := by rw [hW]; go_grown
  have hWH := Lib.hid hW
  have hblH := Lib.hid hbl
  rw [hA, hB, hp, hq]
  clear hW hA hB hp hq
  go_enter Try.func44, Try.ntmps44
  go_wp2_with (fail)
  rw [← hWH.out]
  go_region_held3 (fun w' => Rg (w.heap.size + 1) 4 W w')
    (first | exact HR.out.drew | exact Rg.step (by assumption) (by omega) (by assumption) | exact Rg.set (Rg.set (Rg.set (Rg.set (by assumption) _) _) _) _)
    (first
      | (go_at_call 11; (with_reducible refine (whole_int p _ (by omega) (by omega)).mono ?_); rintro e w1 ⟨x1, y1, z1, t1, rfl, hm1, hb1⟩)
      | (go_at_call 11; (with_reducible refine (whole_int (q : Int) _ (by omega) (by omega)).mono ?_); rintro e w2 ⟨x2, y2, z2, t2, rfl, hm2, hb2⟩; have hm1' := hm1.up hb2)
      | (go_at_call 12; (with_reducible refine (rdiv_all _ _ _ _ _ _ _ _ (p : Rat) ((q : Int) : Rat) _ hm1' hm2 hso.out hsu.out hne.out).mono ?_); rintro e w5 ⟨x5, y5, z5, t5, rfl, hm5, hb5⟩; have k5 : Rg (w.heap.size + 1) 4 W w5 := Rg.step (by assumption) (by omega) hb5; obtain ⟨g1, g2, g3, g5, g4⟩ := k5))
  go_wp2_with (fail)
  rw [hz.out]
  rw [hz.out] at hm5
  refine bodyPost_ret (v := .agg #[.bool (ng (rn (rt b))), .slice x5 (LI (rn (rt b))) y5, .bool (ng (rd (rt b))), .slice z5 (LI (rd (rt b))) t5]) (by simp [results, Try.results44, go_sem, g2]) rfl ?_
  exact RetRat.fin (N := w.heap.size + 1) rfl rfl (hm5.1.set4 g5 _ _ _ _ _ _ _ _) (hm5.2.set4 g5 _ _ _ _ _ _ _ _) hblH.out (below_set4 g4 (Nat.le_refl _) _ _ _ _) (by omega)
end Go.Proofs.Ytkecdjdggkpdpab

/- The memory of gear.speeds. -/
namespace Go.Proofs.Ytkecdjdggkpdpab
open Go Go.RowKit Go.Proofs

theorem blk_of_own4 {w : World} {base e n : Nat} {g : Nat} {xs : List Value} (h : w.ownsRow base e 4 (.slice (some ⟨g, 0, none⟩) n n) n xs) : Blk w g e xs := by
  rcases h.2 with ⟨h1, _⟩ | ⟨g', cap, cur, hv, _, hh, hn, _, hsz, htake⟩
  · cases h1
  · injection hv with h1 h2 h3
    injection h1 with h1
    injection h1 with h1 _
    subst h1 h3
    rw [List.take_of_length_le (by simp [hsz])] at htake
    unfold Blk
    rw [← htake]
    simpa using hh
/-- 'make' of n fractions. -/
theorem make_funR (n : Nat) (hn : n ≤ 1000) : ∃ mk : World → World, ∀ W, (Instr.makeSlice 63 (.int .i64 (n : Nat)) (.int .i64 (n : Nat))).run Try.prog W = .ok (.slice (some ⟨W.heap.size, 0, none⟩) n n) (mk W) ∧ (∃ cs, Blk (mk W) W.heap.size 51 cs ∧ cs.length = n * 4) ∧ NoInt (mk W) W.heap.size ∧ Below W.heap.size W (mk W) := by
  suffices h : ∀ W, ∃ w' : World, (Instr.makeSlice 63 (.int .i64 (n : Nat)) (.int .i64 (n : Nat))).run Try.prog W = .ok (.slice (some ⟨W.heap.size, 0, none⟩) n n) w' ∧ (∃ cs, Blk w' W.heap.size 51 cs ∧ cs.length = n * 4) ∧ NoInt w' W.heap.size ∧ Below W.heap.size W w' from ⟨fun W => Classical.choose (h W), fun W => Classical.choose_spec (h W)⟩
  intro W
  obtain ⟨i, h2, h3, h4, h5⟩ := info_parts info_rat
  obtain ⟨w', hrun, hown, hgr⟩ := run_make_full (P := Try.prog) W W.heap.size 63 51 i (.agg #[.bool false, .slice none 0 0, .bool false, .slice none 0 0]) 4 Try.underlying63 h2 h3 h4 .i64 .i64 n (by rw [h5]; omega) (by unfold maxLen; omega) (Nat.le_refl _)
  have hB := blk_of_own4 hown
  refine ⟨w', hrun, ⟨_, hB, by simp [size_madeCells]⟩, fun o k z hc => ?_, (Below.refl _ _).grown hgr (Nat.le_refl _) (fun k hk => by cases hk)⟩
  rw [Blk.cell hB] at hc
  have hm := List.mem_of_getElem? hc
  rw [Array.mem_toList_iff] at hm
  unfold madeCells at hm
  rw [Array.mem_map] at hm
  obtain ⟨j, _, hj⟩ := hm
  have h4' : j % 4 < 4 := Nat.mod_lt _ (by omega)
  have e : (Value.agg #[.bool false, .slice none 0 0, .bool false, .slice none 0 0]).cells = #[Value.bool false, .slice none 0 0, .bool false, .slice none 0 0] := rfl
  rw [e] at hj
  have e2 : (#[Value.bool false, .slice none 0 0, .bool false, .slice none 0 0] : Array Value).size = 4 := rfl
  rw [e2] at hj
  generalize j % 4 = r at hj h4'
  rcases r with _ | _ | _ | _ | r
  · cases hj
  · cases hj
  · cases hj
  · cases hj
  · omega
def ptI : Option (Nat × Rat) → Int
  | none => -1
  | some (f, _) => (f : Int)
/-- Digits never lie in a block of ints. -/
theorem IM.setZ {w : World} {a : Option Addr} {c g : Nat} {z : Int} {xs : List Int} (h : IM w a c z) (hz : ZBlk w g xs) (k : Nat) (v : Value) : IM (w.setCell ⟨g, k, none⟩ v) a c z := by
  refine ⟨h.1, fun i x hx => ?_⟩
  obtain ⟨b, o, ha, hc⟩ := h.2 i x hx
  refine ⟨b, o, ha, ?_⟩
  rw [World.cell?_setCell_other _ _ _ _ ?_]
  · exact hc
  · intro e
    injection e with e1 e2
    subst e1
    rw [Blk.cell hz, List.getElem?_map] at hc
    cases hx2 : xs[o + i]? with
    | none => rw [hx2] at hc; cases hc
    | some y => rw [hx2] at hc; cases hc
/-- A fraction lies in four cells. -/
def C4R (w : World) (g o : Nat) (q : Rat) : Prop := ∃ a c a' c', w.cell? ⟨g, o, none⟩ = some (.bool (ng (rn q))) ∧ w.cell? ⟨g, o + 1, none⟩ = some (.slice a (LI (rn q)) c) ∧ w.cell? ⟨g, o + 2, none⟩ = some (.bool (ng (rd q))) ∧ w.cell? ⟨g, o + 3, none⟩ = some (.slice a' (LI (rd q)) c') ∧ RM w a c a' c' q
theorem C4R.below {w w' : World} {g o : Nat} {q : Rat} (h : C4R w g o q) (hb : Below w.heap.size w w') : C4R w' g o q := by
  obtain ⟨a, c, a', c', h0, h1, h2, h3, h4⟩ := h
  exact ⟨a, c, a', c', Below.cellAt hb (Nat.le_refl _) h0, Below.cellAt hb (Nat.le_refl _) h1, Below.cellAt hb (Nat.le_refl _) h2, Below.cellAt hb (Nat.le_refl _) h3, h4.up hb⟩
/-- What gear.speeds has in memory. -/
structure SPm (w0 w : World) (gs gp n : Nat) (s : St) : Prop where
  len : s.length = n
  bl : Below w0.heap.size w0 w
  gs0 : w0.heap.size ≤ gs
  gp0 : w0.heap.size ≤ gp
  ne : gs ≠ gp
  hp : ZBlk w gp (s.map ptI)
  hs : ∃ cs, Blk w gs 51 cs ∧ cs.length = n * 4
  no : NoInt w gs
  rat : ∀ j f q, stG s j = some (f, q) → C4R w gs (j * 4) q
theorem NoInt.below {w w' : World} {g : Nat} (h : NoInt w g) (hg : g < w.heap.size) (hb : Below w.heap.size w w') : NoInt w' g := fun o k z hc => by
  rw [World.cell?_of_block (w := w) (a := ⟨g, o, none⟩) (hb.block g hg)] at hc
  exact h o k z hc
theorem SPm.below {w0 w w' : World} {gs gp n : Nat} {s : St} (h : SPm w0 w gs gp n s) (hb : Below w.heap.size w w') : SPm w0 w' gs gp n s := by
  obtain ⟨cs, h1, h2⟩ := h.hs
  exact ⟨h.len, h.bl.trans (hb.mono h.bl.size), h.gs0, h.gp0, h.ne, Blk.later h.hp hb, ⟨cs, Blk.later h1 hb, h2⟩, h.no.below h1.lt hb, fun j f q hj => (h.rat j f q hj).below hb⟩
/-- The part's number is read. -/
theorem SPm.part {w0 w : World} {gs gp n : Nat} {s : St} (h : SPm w0 w gs gp n s) {j : Nat} (hj : j < n) : w.cell? ⟨gp, j, none⟩ = some (.int .i64 (ptI (stG s j))) := by
  rw [Blk.cell h.hp, List.getElem?_map, List.getElem?_map, stG_get (by rw [h.len]; exact hj)]; rfl
/-- The stores of a wheel's speed and part. -/
def putSP (w : World) (gs gp i : Nat) (f : Nat) (q : Rat) (a : Option Addr) (c : Nat) (a' : Option Addr) (c' : Nat) : World :=
  ((((w.setCell ⟨gs, i * 4, none⟩ (.bool (ng (rn q)))).setCell ⟨gs, i * 4 + 1, none⟩ (.slice a (LI (rn q)) c)).setCell ⟨gs, i * 4 + 2, none⟩ (.bool (ng (rd q)))).setCell ⟨gs, i * 4 + 3, none⟩ (.slice a' (LI (rd q)) c')).setCell ⟨gp, i, none⟩ (.int .i64 (f : Nat))
theorem SPm.put {w0 w : World} {gs gp n i f : Nat} {s : St} {q : Rat} {a a' : Option Addr} {c c' : Nat} (h : SPm w0 w gs gp n s) (hi : i < n) (hq : RM w a c a' c' q) : SPm w0 (putSP w gs gp i f q a c a' c') gs gp n (s.set i (some (f, q))) := by
  obtain ⟨cs, hB, hl⟩ := h.hs
  have hil : i < s.length := by rw [h.len]; exact hi
  have t1 := h.no.set ⟨gs, i * 4, none⟩ (.bool (ng (rn q))) (by intro _ _ h; cases h)
  have t2 := t1.set ⟨gs, i * 4 + 1, none⟩ (.slice a (LI (rn q)) c) (by intro _ _ h; cases h)
  have t3 := t2.set ⟨gs, i * 4 + 2, none⟩ (.bool (ng (rd q))) (by intro _ _ h; cases h)
  have t4 := t3.set ⟨gs, i * 4 + 3, none⟩ (.slice a' (LI (rd q)) c') (by intro _ _ h; cases h)
  have b4 := Blk.set (Blk.set (Blk.set (Blk.set hB (i * 4) (.bool (ng (rn q)))) (i * 4 + 1) (.slice a (LI (rn q)) c)) (i * 4 + 2) (.bool (ng (rd q)))) (i * 4 + 3) (.slice a' (LI (rd q)) c')
  have p4 := Blk.farK (Blk.farK (Blk.farK (Blk.farK h.hp (p := ⟨gs, i * 4, none⟩) (Ne.symm h.ne) (.bool (ng (rn q)))) (p := ⟨gs, i * 4 + 1, none⟩) (Ne.symm h.ne) (.slice a (LI (rn q)) c)) (p := ⟨gs, i * 4 + 2, none⟩) (Ne.symm h.ne) (.bool (ng (rd q)))) (p := ⟨gs, i * 4 + 3, none⟩) (Ne.symm h.ne) (.slice a' (LI (rd q)) c')
  have b5 := Blk.farK b4 (p := ⟨gp, i, none⟩) h.ne (.int .i64 (f : Nat))
  have keepI : ∀ {x : Option Addr} {d : Nat} {z : Int}, IM w x d z → IM (putSP w gs gp i f q a c a' c') x d z := fun hz =>
    IM.setZ ((((hz.setN h.no _ _).setN t1 _ _).setN t2 _ _).setN t3 _ _) p4 _ _
  refine ⟨by rw [List.length_set]; exact h.len, ((((h.bl.setCell h.gs0 _).setCell h.gs0 _).setCell h.gs0 _).setCell h.gs0 _).setCell h.gp0 _, h.gs0, h.gp0, h.ne, ?_, ⟨_, b5, by simp [hl]⟩, fun o k z hc => ?_, fun j g p hj => ?_⟩
  · have := ZBlk.set p4 i (f : Nat)
    rw [List.map_set]
    exact this
  · have hc' : (((((w.setCell ⟨gs, i * 4, none⟩ (.bool (ng (rn q)))).setCell ⟨gs, i * 4 + 1, none⟩ (.slice a (LI (rn q)) c)).setCell ⟨gs, i * 4 + 2, none⟩ (.bool (ng (rd q)))).setCell ⟨gs, i * 4 + 3, none⟩ (.slice a' (LI (rd q)) c')).setCell ⟨gp, i, none⟩ (.int .i64 (f : Nat))).cell? ⟨gs, o, none⟩ = some (.int k z) := hc
    rw [World.cell?_setCell_other _ _ _ _ (by intro e; injection e with e1 _; exact h.ne e1.symm)] at hc'
    exact t4 o k z hc'
  · rw [stG_set s i _ j hil] at hj
    have hcell : ∀ o, (putSP w gs gp i f q a c a' c').cell? ⟨gs, o, none⟩ = ((((cs.set (i * 4) (.bool (ng (rn q)))).set (i * 4 + 1) (.slice a (LI (rn q)) c)).set (i * 4 + 2) (.bool (ng (rd q)))).set (i * 4 + 3) (.slice a' (LI (rd q)) c'))[o]? := fun o => Blk.cell b5 o
    by_cases hij : i = j
    · subst hij
      rw [if_pos rfl] at hj
      cases hj
      refine ⟨a, c, a', c', ?_, ?_, ?_, ?_, keepI hq.1, keepI hq.2⟩
      · rw [hcell, List.getElem?_set_ne (by omega), List.getElem?_set_ne (by omega), List.getElem?_set_ne (by omega), List.getElem?_set_self (by omega)]
      · rw [hcell, List.getElem?_set_ne (by omega), List.getElem?_set_ne (by omega), List.getElem?_set_self (by simp; omega)]
      · rw [hcell, List.getElem?_set_ne (by omega), List.getElem?_set_self (by simp; omega)]
      · rw [hcell, List.getElem?_set_self (by simp; omega)]
    · rw [if_neg hij] at hj
      obtain ⟨x, d, x', d', h0, h1, h2, h3, h4⟩ := h.rat j g p hj
      have hoth : ∀ r, r < 4 → (putSP w gs gp i f q a c a' c').cell? ⟨gs, j * 4 + r, none⟩ = w.cell? ⟨gs, j * 4 + r, none⟩ := fun r hr => by
        rw [hcell, List.getElem?_set_ne (by omega), List.getElem?_set_ne (by omega), List.getElem?_set_ne (by omega), List.getElem?_set_ne (by omega), Blk.cell hB]
      exact ⟨x, d, x', d', (hoth 0 (by omega)).trans h0, (hoth 1 (by omega)).trans h1, (hoth 2 (by omega)).trans h2, (hoth 3 (by omega)).trans h3, keepI h4.1, keepI h4.2⟩
/-- A wheel's cells may be stored into. -/
theorem SPm.soft {w0 w : World} {gs gp n : Nat} {s : St} (h : SPm w0 w gs gp n s) {i : Nat} (hi : i < n) : w.frozen? ⟨gs, i * 4, none⟩ = false ∧ w.frozen? ⟨gs, i * 4 + 1, none⟩ = false ∧ w.frozen? ⟨gs, i * 4 + 2, none⟩ = false ∧ w.frozen? ⟨gs, i * 4 + 3, none⟩ = false ∧ w.frozen? ⟨gp, i, none⟩ = false ∧
    (∃ v, w.cell? ⟨gs, i * 4, none⟩ = some v) ∧ (∃ v, w.cell? ⟨gs, i * 4 + 1, none⟩ = some v) ∧ (∃ v, w.cell? ⟨gs, i * 4 + 2, none⟩ = some v) ∧ (∃ v, w.cell? ⟨gs, i * 4 + 3, none⟩ = some v) ∧ (∃ v, w.cell? ⟨gp, i, none⟩ = some v) := by
  obtain ⟨cs, h1, h2⟩ := h.hs
  have key : ∀ o, o < n * 4 → ∃ v, w.cell? ⟨gs, o, none⟩ = some v := fun o ho => ⟨_, by rw [Blk.cell h1, List.getElem?_eq_getElem (by omega)]⟩
  exact ⟨Blk.frozen h1 _, Blk.frozen h1 _, Blk.frozen h1 _, Blk.frozen h1 _, Blk.frozen h.hp _, key _ (by omega), key _ (by omega), key _ (by omega), key _ (by omega), ⟨_, h.part hi⟩⟩
theorem ptI_neg {x : Option (Nat × Rat)} (h : ptI x < 0) : x = none := by
  rcases x with _ | ⟨g, q⟩
  · rfl
  · have : ((g : Nat) : Int) < 0 := h
    omega
theorem ptI_eq {x : Option (Nat × Rat)} {f : Nat} (h : ptI x = (f : Int)) : ∃ q, x = some (f, q) := by
  rcases x with _ | ⟨g, q⟩
  · have : (-1 : Int) = (f : Int) := h
    omega
  · have : ((g : Nat) : Int) = (f : Int) := h
    have e : g = f := by omega
    subst e
    exact ⟨q, rfl⟩
theorem step_same {f : Nat} {b : BtK} {t : St} (h1 : ¬ (ptI (stG t b.A) = (f : Int) ∧ ptI (stG t b.B) < 0)) (h2 : ¬ (ptI (stG t b.B) = (f : Int) ∧ ptI (stG t b.A) < 0)) : stepG f b t = t := by
  unfold stepG
  split
  · rename_i g q e1 e2
    rw [e1, e2] at h1
    rw [if_neg fun e => h1 ⟨by rw [e]; rfl, by decide⟩]
  · rename_i g q e1 e2
    rw [e1, e2] at h2
    rw [if_neg fun e => h2 ⟨by rw [e]; rfl, by decide⟩]
  · rfl
theorem step_B {f : Nat} {b : BtK} {t : St} (h1 : ptI (stG t b.A) = (f : Int)) (h2 : ptI (stG t b.B) < 0) : ∃ q, stG t b.A = some (f, q) ∧ stG t b.B = none ∧ stepG f b t = t.set b.B (some (f, q * rt b)) := by
  obtain ⟨q, e⟩ := ptI_eq h1
  have e2 := ptI_neg h2
  refine ⟨q, e, e2, ?_⟩
  unfold stepG
  rw [e, e2]
  exact if_pos rfl
theorem step_A {f : Nat} {b : BtK} {t : St} (h1 : ptI (stG t b.B) = (f : Int)) (h2 : ptI (stG t b.A) < 0) : ∃ q, stG t b.B = some (f, q) ∧ stG t b.A = none ∧ stepG f b t = t.set b.A (some (f, q / rt b)) := by
  obtain ⟨q, e⟩ := ptI_eq h1
  have e2 := ptI_neg h2
  refine ⟨q, e, e2, ?_⟩
  unfold stepG
  rw [e, e2]
  exact if_pos rfl
end Go.Proofs.Ytkecdjdggkpdpab
