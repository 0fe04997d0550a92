/- Zj -/
import Derived.Test.YtkecdjdggkpdpabQZi
set_option linter.unusedVariables false
/- Walks of the reference's integers: Gcd. -/
namespace Go.Proofs.Ytkecdjdggkpdpab
open Go Go.RowKit Go.Proofs

def RetTwoN (w : World) (n m : Nat) (e : Ending) (w' : World) : Prop :=
  ∃ a c a' c', e = .returned (.tuple #[.agg #[.bool false, .slice a (L B4 n) c], .agg #[.bool false, .slice a' (L B4 m) c']]) ∧ MagZ w' a c n ∧ MagZ w' a' c' m ∧ Below w.heap.size w w'
theorem divmod_nat (a1 a2 : Option Addr) (c1 c2 x b : Nat) (w : World) (h1 : MagZ w a1 c1 x) (h2 : MagZ w a2 c2 b) (hb1 : L B4 x ≤ 1000000) (hb2 : L B4 b ≤ 1000000) (hb0 : 0 < b) :
    Calls Try.prog 50 #[.agg #[.bool false, .slice a1 (L B4 x) c1], .agg #[.bool false, .slice a2 (L B4 b) c2]] w (RetTwoN w (x / b) (x % b)) := by
  refine (divmod_s false a1 a2 c1 c2 x b w h1 h2 hb1 hb2 hb0 (fun h => by cases h)).mono fun e w' h => ?_
  obtain ⟨a, c, a', c', h1, h2, h3, h4⟩ := h
  rw [show sgn false (x / b) = ((x / b : Nat) : Int) from rfl, ng_nat, ng_rZ] at h1
  exact ⟨a, c, a', c', h1, h2, h3, h4⟩

/-- An integer's size. -/
def RetAbs (w : World) (n : Nat) (e : Ending) (w' : World) : Prop := ∃ a c, e = .returned (.agg #[.bool false, .slice a (L B4 n) c]) ∧ MagZ w' a c n ∧ Below w.heap.size w w'
theorem abs_nat (a1 : Option Addr) (c1 : Nat) (x : Int) (w : World) (h1 : ZM w a1 c1 x) :
    Calls Try.prog 48 #[.agg #[.bool (ng x), .slice a1 (LZ x) c1]] w (RetAbs w x.natAbs) := by
  refine (zabs_any a1 c1 x w h1).mono fun e w' h => ?_
  obtain ⟨a, c, h1, h2, h3⟩ := h
  rw [ng_nat] at h1
  exact ⟨a, c, h1, h2, h3⟩

/-- Two boxes, and a result's block. -/
def GInv (w wr : World) (ap aq : Option Addr) (cp cq p q : Nat) : Prop :=
  MagZ wr ap cp p ∧ MagZ wr aq cq q ∧ Rg w.heap.size 2 wr wr ∧ Rg (w.heap.size + 1) 2 wr wr ∧ Rg (w.heap.size + 1 + 1) 2 wr wr ∧ Below w.heap.size w wr
def GCells (w wr : World) (ap aq : Option Addr) (cp cq p q : Nat) : Prop :=
  wr.cell? ⟨w.heap.size, 0, none⟩ = some (.bool false) ∧ wr.cell? ⟨w.heap.size, 1, none⟩ = some (.slice ap (L B4 p) cp) ∧
  wr.cell? ⟨w.heap.size + 1, 0, none⟩ = some (.bool false) ∧ wr.cell? ⟨w.heap.size + 1, 1, none⟩ = some (.slice aq (L B4 q) cq)
theorem GInv.step {w wr w' : World} {ap aq : Option Addr} {cp cq p q : Nat} (h : GInv w wr ap aq cp cq p q) (hb : Below wr.heap.size wr w') : GInv w w' ap aq cp cq p q :=
  ⟨h.1.up hb, h.2.1.up hb, Rg.slf (Rg.step h.2.2.1 (by omega) hb), Rg.slf (Rg.step h.2.2.2.1 (by omega) hb), Rg.slf (Rg.step h.2.2.2.2.1 (by omega) hb), bseqZ h.2.2.2.2.2 hb⟩

theorem GCells.up {w wr w' : World} {ap aq : Option Addr} {cp cq p q : Nat} (h : GCells w wr ap aq cp cq p q) (hb : Below wr.heap.size wr w') : GCells w w' ap aq cp cq p q :=
  ⟨Below.cellAt hb (Nat.le_refl _) h.1, Below.cellAt hb (Nat.le_refl _) h.2.1, Below.cellAt hb (Nat.le_refl _) h.2.2.1, Below.cellAt hb (Nat.le_refl _) h.2.2.2⟩

/-- Both boxes written. -/
theorem gput {w wr : World} {a3 a4 : Option Addr} {c3 c4 p q : Nat} (m3 : MagZ wr a3 c3 p) (m4 : MagZ wr a4 c4 q) (R0 : Rg w.heap.size 2 wr wr) (R1 : Rg (w.heap.size + 1) 2 wr wr) (R2 : Rg (w.heap.size + 1 + 1) 2 wr wr) (hb : Below w.heap.size w wr) :
    GCells w ((((wr.setCell ⟨w.heap.size, 0, none⟩ (.bool false)).setCell ⟨w.heap.size, 1, none⟩ (.slice a3 (L B4 p) c3)).setCell ⟨w.heap.size + 1, 0, none⟩ (.bool false)).setCell ⟨w.heap.size + 1, 1, none⟩ (.slice a4 (L B4 q) c4)) a3 a4 c3 c4 p q ∧
    GInv w ((((wr.setCell ⟨w.heap.size, 0, none⟩ (.bool false)).setCell ⟨w.heap.size, 1, none⟩ (.slice a3 (L B4 p) c3)).setCell ⟨w.heap.size + 1, 0, none⟩ (.bool false)).setCell ⟨w.heap.size + 1, 1, none⟩ (.slice a4 (L B4 q) c4)) a3 a4 c3 c4 p q := by
  have hN : w.heap.size ≠ w.heap.size + 1 := by omega
  have hN2 : w.heap.size ≠ w.heap.size + 1 + 1 := by omega
  have hN3 : w.heap.size + 1 ≠ w.heap.size + 1 + 1 := by omega
  have hN4 : w.heap.size + 1 ≠ w.heap.size := by omega
  have n0 := R0.noInt
  have n0' := n0.set ⟨w.heap.size, 0, none⟩ (.bool false) (by intro _ _ h; cases h)
  have n1 := (R1.noInt.set ⟨w.heap.size, 0, none⟩ (.bool false) (by intro _ _ h; cases h)).set ⟨w.heap.size, 1, none⟩ (.slice a3 (L B4 p) c3) (by intro _ _ h; cases h)
  have n1' := n1.set ⟨w.heap.size + 1, 0, none⟩ (.bool false) (by intro _ _ h; cases h)
  refine ⟨⟨?_, ?_, ?_, ?_⟩, ?_, ?_, ?_, ?_, ?_, ?_⟩
  · simp [go_sem, R0.2.1]
  · simp [go_sem, R0.2.1]
  · simp [go_sem, R1.2.1]
  · simp [go_sem, R1.2.1]
  · exact (((m3.setN n0 _ _).setN n0' _ _).setN n1 _ _).setN n1' _ _
  · exact (((m4.setN n0 _ _).setN n0' _ _).setN n1 _ _).setN n1' _ _
  · exact ((Rg.slf (Rg.set (Rg.set R0 _) _)).farS hN4 _).farS hN4 _
  · exact Rg.slf (Rg.set (Rg.set ((R1.farS hN _).farS hN _) _) _)
  · exact (((R2.farS hN2 _).farS hN2 _).farS hN3 _).farS hN3 _
  · exact (((hb.setCell (Nat.le_refl _) _).setCell (Nat.le_refl _) _).setCell (Nat.le_succ _) _).setCell (Nat.le_succ _) _

set_option maxRecDepth 100000 in
set_option maxHeartbeats 1600000 in
theorem zgcd_any (a1 a2 : Option Addr) (c1 c2 : Nat) (x y : Int) (w : World) (h1 : ZM w a1 c1 x) (h2 : ZM w a2 c2 y) (hb1 : LZ x ≤ 1000000) (hb2 : LZ y ≤ 1000000) :
    Calls Try.prog 49 #[.agg #[.bool (ng x), .slice a1 (LZ x) c1], .agg #[.bool (ng y), .slice a2 (LZ y) c2]] w (RetN w (Nat.gcd x.natAbs y.natAbs)) := by
  obtain ⟨W, hW⟩ : ∃ W, W = ((w.alloc (Obj.cells #[.bool (ng x), .slice a1 (LZ x) c1] 40)).alloc (Obj.cells #[.bool (ng y), .slice a2 (LZ y) c2] 40)).alloc (Obj.cells #[.bool false, .slice none 0 0] 40) := ⟨_, rfl⟩
  have e0 : W.cell? ⟨w.heap.size, 0, none⟩ = some (.bool (ng x)) := by rw [hW]; simp [go_sem]
  have e1 : W.cell? ⟨w.heap.size, 1, none⟩ = some (.slice a1 (LZ x) c1) := by rw [hW]; simp [go_sem]
  have e2 : W.cell? ⟨w.heap.size + 1, 0, none⟩ = some (.bool (ng y)) := by rw [hW]; simp [go_sem]
  have e3 : W.cell? ⟨w.heap.size + 1, 1, none⟩ = some (.slice a2 (LZ y) c2) := by rw [hW]; simp [go_sem]
  have hbl : Below w.heap.size w W := by rw [hW]; go_grown
  have R2 : Hid (Rg (w.heap.size + 1 + 1) 2 W W) := by rw [hW]; exact Rg.new2 _ _ _ (by simp)
  have R0 : Hid (Rg w.heap.size 2 W W) := by
    have hb : Below (w.heap.size + 1 + 1) ((w.alloc (Obj.cells #[.bool (ng x), .slice a1 (LZ x) c1] 40)).alloc (Obj.cells #[.bool (ng y), .slice a2 (LZ y) c2] 40)) W := by rw [hW]; exact (Below.refl _ _).alloc (by simp) _
    exact Rg.slf (Rg.over (Rg.old2 w _ _ _ _ (by intro _ _ h; cases h) (by intro _ _ h; cases h)) hb (by omega))
  have R1 : Hid (Rg (w.heap.size + 1) 2 W W) := by
    have h := Rg.old2 (w.alloc (Obj.cells #[.bool (ng x), .slice a1 (LZ x) c1] 40)) (.bool (ng y)) (.slice a2 (LZ y) c2) 40 (Obj.cells #[.bool false, .slice none 0 0] 40) (by intro _ _ h; cases h) (by intro _ _ h; cases h)
    rw [← hW, show (w.alloc (Obj.cells #[.bool (ng x), .slice a1 (LZ x) c1] 40)).heap.size = w.heap.size + 1 by simp] at h
    exact h
  have hZ1 := Lib.hid (h1.up hbl)
  have hZ2 := Lib.hid (h2.up hbl)
  have hsz : W.heap.size = w.heap.size + 3 := by rw [hW]; simp
  have hlt0 : w.heap.size < W.heap.size := by omega
  have hlt1 : w.heap.size + 1 < W.heap.size := by omega
  have hWH := Lib.hid hW
  have hblH := Lib.hid hbl
  clear hW hbl h1 h2 hsz
  go_enter Try.func49, Try.ntmps49
  go_wp2_with (fail)
  rw [← hWH.out]
  go_upto_region 1 with (fail)
  go_cut [4] from 7 to 10 (fun s4 wx => s4 = .pointer (some ⟨w.heap.size + 1 + 1, 0, none⟩) ∧ ∃ a3 a4 c3 c4, GCells w wx a3 a4 c3 c4 x.natAbs y.natAbs ∧ GInv w wx a3 a4 c3 c4 x.natAbs y.natAbs)
  case first =>
    go_region_with (first
      | (go_at_call 48; (with_reducible refine (abs_nat a1 c1 x _ (hZ1.out.up (Below.refl _ _).drew)).mono ?_); rintro e w3 ⟨a3, c3, rfl, hm3, hb3⟩; have q0 := Below.cellAt ((Below.refl W.heap.size W).drew.trans hb3) (Nat.le_refl _) e2; have q1 := Below.cellAt ((Below.refl W.heap.size W).drew.trans hb3) (Nat.le_refl _) e3; have hb3H := Lib.hid ((Below.refl W.heap.size W).drew.trans hb3); have hm3H := Lib.hid hm3; clear hm3 hb3)
      | (go_at_call 48; go_loud (with_reducible refine (abs_nat a2 c2 y _ (hZ2.out.up hb3H.out)).mono ?_); rintro e w4 ⟨a4, c4, rfl, hm4, hb4⟩; have hb4H := Lib.hid (hb3H.out.trans (hb4.mono hb3H.out.size)); have hm4H := Lib.hid hm4; have hm34 := Lib.hid (hm3H.out.up hb4); have r0 := Rg.step R0.out (by omega) hb4H.out; have r1 := Rg.step R1.out (by omega) hb4H.out; obtain ⟨_, t2, t3, t5, _⟩ := r0; obtain ⟨_, u2, u3, u5, _⟩ := r1; clear hm4 hb4))
    all_goals go_wp2_with (fail)
    all_goals (
      go_meet
      exact ⟨rfl, a3, a4, c3, c4, gput hm34.out hm4H.out (Rg.slf (Rg.step R0.out (by omega) hb4H.out)) (Rg.slf (Rg.step R1.out (by omega) hb4H.out)) (Rg.slf (Rg.step R2.out (by omega) hb4H.out)) (hblH.out.trans (hb4H.out.mono (by omega)))⟩)
  case rest =>
    obtain ⟨rfl, a3, a4, c3, c4, hC, hI⟩ := hcut
    have hC0 := Lib.hid hC
    have hI0 := Lib.hid hI
    clear hC hI e0 e1 e2 e3 R0 R1 R2 hZ1 hZ2 hlt0 hlt1 hWH hblH
    go_wp2_with (fail)
    go_loopg [6] y.natAbs (fun k _ wr => ∃ (ap aq : Option Addr) (cp cq p q : Nat), k = q ∧ GCells w wr ap aq cp cq p q ∧ GInv w wr ap aq cp cq p q ∧ Nat.gcd p q = Nat.gcd x.natAbs y.natAbs ∧ L B4 p ≤ 1000000 ∧ L B4 q ≤ 1000000)
    case atStart => exact ⟨a3, a4, c3, c4, x.natAbs, y.natAbs, rfl, hC0.out, hI0.out, rfl, hb1, hb2⟩
    case round =>
      obtain ⟨ap, aq, cp, cq, p, q, hkq, hC, hI, hg, lp, lq⟩ := hrel
      have hCH := Lib.hid hC
      have hIH := Lib.hid hI
      have hgH := Lib.hid hg
      have hkH := Lib.hid hkq
      have hMp := Lib.hid (show MagZ wr ap cp p from hI.1)
      have hMq := Lib.hid (show MagZ wr aq cq q from hI.2.1)
      obtain ⟨f0, f1, f2, f3⟩ := hC
      clear hI hg hkq
      by_cases hq0 : q = 0
      · have hl : ¬ (0 : Int) < (L B4 q : Nat) := by rw [hq0, L_zero]; omega
        have hpg : Hid (p = Nat.gcd x.natAbs y.natAbs) := by have := hgH.out; rw [hq0, Nat.gcd_zero_right] at this; exact this
        obtain ⟨_, v2, v3, v5, _⟩ := hIH.out.2.2.2.2.1
        have hq0H := Lib.hid hq0
        clear hq0
        go_wp2_with (fail)
        have m1 := hIH.out.1.setN v5 0 (.bool false)
        have n1 := v5.set ⟨w.heap.size + 1 + 1, 0, none⟩ (.bool false) (by intro _ _ h; cases h)
        have m2 := m1.setN n1 1 (.slice ap (L B4 p) cp)
        refine bodyPost_ret (v := .agg #[.bool false, .slice ap (L B4 p) cp]) (by simp [results, Try.results49, go_sem, v2]) rfl ?_
        refine ⟨ap, cp, by rw [← hpg.out], by rw [← hpg.out]; exact m2, ?_⟩
        exact (hIH.out.2.2.2.2.2.setCell (show w.heap.size ≤ w.heap.size + 1 + 1 by omega) _).setCell (show w.heap.size ≤ w.heap.size + 1 + 1 by omega) _
      · have hl : (0 : Int) < (L B4 q : Nat) := by have := L_pos two_le_B4 hq0; omega
        have hq1 : 0 < q := by omega
        have hlr : Hid (L B4 (p % q) ≤ 1000000) := Nat.le_trans (L_mono two_le_B4 (Nat.le_of_lt (Nat.mod_lt p hq1))) lq
        clear hq0
        go_wp2_with (first
          | (go_at_call 50; go_loud (with_reducible refine (divmod_nat ap aq cp cq p q _ hMp.out hMq.out lp lq hq1).mono ?_); rintro e w5 ⟨a5, c5, a6, c6, rfl, hm5, hm6, hb5⟩))
        obtain ⟨V, hV⟩ : ∃ V, V = (w5.alloc (Obj.cells #[.bool false, .slice a5 (L B4 (p / q)) c5] 40)).alloc (Obj.cells #[.bool false, .slice a6 (L B4 (p % q)) c6] 40) := ⟨_, rfl⟩
        have hb5V : Below w5.heap.size w5 V := by rw [hV]; go_grown
        have x0 : V.cell? ⟨w5.heap.size + 1, 0, none⟩ = some (.bool false) := by rw [hV]; simp [go_sem]
        have x1 : V.cell? ⟨w5.heap.size + 1, 1, none⟩ = some (.slice a6 (L B4 (p % q)) c6) := by rw [hV]; simp [go_sem]
        have hIV := Lib.hid ((hIH.out.step hb5).step hb5V)
        have hm6V := Lib.hid (hm6.up hb5V)
        obtain ⟨y0, y1, y2, y3⟩ := (hCH.out.up hb5).up hb5V
        obtain ⟨_, _, z0, _, _⟩ := hIV.out.2.2.1
        obtain ⟨_, _, z1, _, _⟩ := hIV.out.2.2.2.1
        have hs5 : w.heap.size + 1 + 1 < w5.heap.size := World.block_lt_of_cell? w5 ⟨w.heap.size + 1 + 1, 0, none⟩ ((hIH.out.step hb5).2.2.2.2.1.2.1 0 (by omega))
        have ne1 : w.heap.size ≠ w5.heap.size + 1 := by omega
        have ne2 : w.heap.size ≠ w5.heap.size := by omega
        rw [← hV]
        clear hV hb5V f0 f1 f2 f3 hm5 hm6 hb5
        go_region
        all_goals go_wp2_with (fail)
        all_goals (
          go_roundg (p % q)
          case measure => rw [hkH.out]; exact Nat.mod_lt _ hq1
          case rel =>
            obtain ⟨g1, g2⟩ := gput hIV.out.2.1 hm6V.out hIV.out.2.2.1 hIV.out.2.2.2.1 hIV.out.2.2.2.2.1 hIV.out.2.2.2.2.2
            refine ⟨aq, a6, cq, c6, q, p % q, rfl, ?_, ?_, ?_, lq, hlr.out⟩
            · first | exact g1 | exact g1.up (Below.refl _ _).drew
            · first | exact g2 | exact g2.step (Below.refl _ _).drew
            · rw [← hgH.out, Nat.gcd_comm p q, Nat.gcd_rec q p, Nat.gcd_comm])

end Go.Proofs.Ytkecdjdggkpdpab
