/- Zk Zl -/
import Derived.Test.YtkecdjdggkpdpabQZj
import Derived.Test.YtkecdjdggkpdpabQZq
import Derived.Test.YtkecdjdggkpdpabQWd
set_option linter.unusedVariables false
/- Walks of the reference's fractions: Lowest. -/
namespace Go.Proofs.Ytkecdjdggkpdpab
open Go Go.RowKit Go.Proofs

theorem Rg.viaZ {N n : Nat} {W w1 w2 : World} {o : Obj} (h : Rg N n W w1) (hn : 0 < n) (hb : Below (w1.alloc o).heap.size (w1.alloc o) w2) : Rg N n W w2 := Rg.step (Rg.step h hn ((Below.refl _ _).alloc (Nat.le_refl _) o)) hn hb

theorem sgn_div {n : Int} {g : Nat} (hg : 0 < g) (hd : g ∣ n.natAbs) : sgn (ng n) (n.natAbs / g) = n / (g : Int) := by
  obtain ⟨k, hk⟩ := hd
  rw [hk, Nat.mul_div_cancel_left _ hg]
  have hg' : (g : Int) ≠ 0 := by omega
  have hc : ((g * k : Nat) : Int) = (g : Int) * k := by simp
  by_cases hn : n < 0
  · have e : n = (g : Int) * (-(k : Int)) := by rw [Int.mul_neg, ← hc]; omega
    rw [show ng n = true by simp [ng, hn]]
    rw [e, Int.mul_ediv_cancel_left _ hg']; rfl
  · have e : n = (g : Int) * (k : Int) := by rw [← hc]; omega
    rw [show ng n = false by simp [ng, hn]]
    rw [e, Int.mul_ediv_cancel_left _ hg']; rfl

theorem divmod_ex (a1 a2 : Option Addr) (c1 c2 : Nat) (n : Int) (g : Nat) (w : World) (h1 : ZM w a1 c1 n) (h2 : MagZ w a2 c2 g) (hb1 : LZ n ≤ 1000000) (hb2 : L B4 g ≤ 1000000) (hg : 0 < g) (hd : g ∣ n.natAbs) :
    Calls Try.prog 50 #[.agg #[.bool (ng n), .slice a1 (LZ n) c1], .agg #[.bool false, .slice a2 (L B4 g) c2]] w (RetTwoZ w (n / (g : Int)) (rZ n.natAbs g)) := by
  have := divmod_s (ng n) a1 a2 c1 c2 n.natAbs g w h1 h2 hb1 hb2 hg (fun _ => Nat.mod_eq_zero_of_dvd hd)
  rw [sgn_div hg hd] at this
  exact this

/-- The common divisor, kept from the walk. -/
def gnd (n d : Int) : Nat := Nat.gcd n.natAbs d.natAbs
def nlow (n d : Int) : Int := n / (gnd n d : Int)
def dlow (n d : Int) : Int := d / (gnd n d : Int)
theorem gnd_pos (n : Int) {d : Int} (hd : 0 < d) : 0 < gnd n d := Nat.gcd_pos_of_pos_right _ (by omega)
theorem nlow_eq (n : Int) {d : Int} (hd : 0 < d) : nlow n d = rn (Rat.divInt n d) := (rn_divInt hd).symm
theorem dlow_eq (n : Int) {d : Int} (hd : 0 < d) : dlow n d = rd (Rat.divInt n d) := (rd_divInt hd).symm

theorem divmod_n (a1 a2 : Option Addr) (c1 c2 : Nat) (n d : Int) (w : World) (h1 : ZM w a1 c1 n) (h2 : MagZ w a2 c2 (gnd n d)) (hb1 : LZ n ≤ 1000000) (hb2 : L B4 (gnd n d) ≤ 1000000) (hg : 0 < gnd n d) :
    Calls Try.prog 50 #[.agg #[.bool (ng n), .slice a1 (LZ n) c1], .agg #[.bool false, .slice a2 (L B4 (gnd n d)) c2]] w (RetTwoZ w (nlow n d) (rZ n.natAbs (gnd n d))) := divmod_ex a1 a2 c1 c2 n (gnd n d) w h1 h2 hb1 hb2 hg (Nat.gcd_dvd_left _ _)
theorem divmod_d (a1 a2 : Option Addr) (c1 c2 : Nat) (n d : Int) (w : World) (h1 : ZM w a1 c1 d) (h2 : MagZ w a2 c2 (gnd n d)) (hb1 : LZ d ≤ 1000000) (hb2 : L B4 (gnd n d) ≤ 1000000) (hg : 0 < gnd n d) :
    Calls Try.prog 50 #[.agg #[.bool (ng d), .slice a1 (LZ d) c1], .agg #[.bool false, .slice a2 (L B4 (gnd n d)) c2]] w (RetTwoZ w (dlow n d) (rZ d.natAbs (gnd n d))) := divmod_ex a1 a2 c1 c2 d (gnd n d) w h1 h2 hb1 hb2 hg (Nat.gcd_dvd_right _ _)

set_option maxRecDepth 100000 in
set_option maxHeartbeats 3200000 in
theorem lowest_low (a : Option Addr) (c : Nat) (a' : Option Addr) (c' : Nat) (n d : Int) (w : World) (h : QM w a c a' c' n d) (hs1 : LZ n ≤ 1000000) (hs2 : LZ d ≤ 1000000) (hd : 0 < d) :
    Calls Try.prog 27 #[.agg #[.bool (ng n), .slice a (LZ n) c, .bool (ng d), .slice a' (LZ d) c']] w (RetQ w (nlow n d) (dlow n d)) := by
  have hgp := Lib.hid (gnd_pos n hd)
  have hgn : Hid (gnd n d ∣ n.natAbs) := Nat.gcd_dvd_left _ _
  have hgd : Hid (gnd n d ∣ d.natAbs) := Nat.gcd_dvd_right _ _
  have hgL : Hid (L B4 (gnd n d) ≤ 1000000) := Nat.le_trans (L_mono two_le_B4 (Nat.gcd_le_right _ (by omega))) hs2
  obtain ⟨W, hW⟩ : ∃ W, W = (w.alloc (Obj.cells #[.bool (ng n), .slice a (LZ n) c, .bool (ng d), .slice a' (LZ d) c'] 42)).alloc (Obj.cells #[.bool false, .slice none 0 0, .bool false, .slice none 0 0] 42) := ⟨_, rfl⟩
  have HR : Hid (Rg (w.heap.size + 1) 4 W W) := by rw [hW]; exact Rg.new4 _ _ _ (by simp)
  have e0 : W.cell? ⟨w.heap.size, 0, none⟩ = some (.bool (ng n)) := by rw [hW]; simp [go_sem]
  have e1 : W.cell? ⟨w.heap.size, 1, none⟩ = some (.slice a (LZ n) c) := by rw [hW]; simp [go_sem]
  have e2 : W.cell? ⟨w.heap.size, 2, none⟩ = some (.bool (ng d)) := by rw [hW]; simp [go_sem]
  have e3 : W.cell? ⟨w.heap.size, 3, none⟩ = some (.slice a' (LZ d) c') := by rw [hW]; simp [go_sem]
  have hbl : Below w.heap.size w W := by rw [hW]; go_grown
  have hn1 := Lib.hid (show ZM W a c n from h.1.up hbl)
  have hn2 := Lib.hid (show ZM W a' c' d from h.2.up hbl)
  have hWH := Lib.hid hW
  have hblH := Lib.hid hbl
  clear hW h hbl
  go_enter Try.func27, Try.ntmps27
  go_wp2_with (first
    | (go_at_call 49; rw [← hWH.out]; go_loud (with_reducible refine (zgcd_any a a' c c' n d _ hn1.out hn2.out hs1 hs2).mono ?_); rintro e w3 ⟨a3, c3, rfl, hm3, hb3⟩; have hm3H := Lib.hid (show MagZ w3 a3 c3 (gnd n d) from hm3); have h13 := Lib.hid (hn1.out.up hb3); have h23 := Lib.hid (hn2.out.up hb3); have k3 := Lib.hid (Rg.step HR.out (by omega) hb3); obtain ⟨l3, _, _, _, _⟩ := k3.out; have s3 : w.heap.size + 1 < w3.heap.size := (World.block_lt_of_cell? w3 ⟨w.heap.size + 1, 0, none⟩ (k3.out.2.1 0 (by omega))); have s3' : w.heap.size < w3.heap.size := (by omega); rw [show Nat.gcd n.natAbs d.natAbs = gnd n d from rfl]; clear hm3 hb3)
    | (go_at_call 50; (with_reducible refine (divmod_n a a3 c c3 n d _ (h13.out.up ((Below.refl _ _).alloc (Nat.le_refl _) _)) (hm3H.out.up ((Below.refl _ _).alloc (Nat.le_refl _) _)) hs1 hgL.out hgp.out).mono ?_); rintro e w5 ⟨a5, c5, a6, c6, rfl, hm5, hm6, hb5⟩; have hm5H := Lib.hid hm5; have y0 := Below.cellAt (b := w3.heap.size) (o := 0) (v := .bool false) hb5 (Nat.le_refl _) (by simp [go_sem]); have y1 := Below.cellAt (b := w3.heap.size) (o := 1) (v := .slice a3 (L B4 (gnd n d)) c3) hb5 (Nat.le_refl _) (by simp [go_sem]); have hg5 := Lib.hid ((hm3H.out.up ((Below.refl _ _).alloc (Nat.le_refl _) _)).up hb5); have h25 := Lib.hid ((h23.out.up ((Below.refl _ _).alloc (Nat.le_refl _) _)).up hb5); have k5 := Lib.hid (Rg.viaZ k3.out (by omega) hb5); obtain ⟨l5, _, _, _, _⟩ := k5.out; have s5 : w3.heap.size < w5.heap.size := (World.block_lt_of_cell? w5 ⟨w3.heap.size, 0, none⟩ y0); have s5' : w.heap.size < w5.heap.size := (by omega); clear hm5 hm6 hb5)
    | (go_at_call 50; go_loud (with_reducible refine (divmod_d a' a3 c' c3 n d _ (h25.out.up (by go_grown)) (hg5.out.up (by go_grown)) hs2 hgL.out hgp.out).mono ?_); rintro e w7 ⟨a7, c7, a8, c8, rfl, hm7, hm8, hb7⟩; have hm7H := Lib.hid hm7; have z0 := Below.cellAt (b := w5.heap.size) (o := 0) (v := .bool (ng (nlow n d))) hb7 (Nat.le_refl _) (by simp [go_sem]); have z1 := Below.cellAt (b := w5.heap.size) (o := 1) (v := .slice a5 (LZ (nlow n d)) c5) hb7 (Nat.le_refl _) (by simp [go_sem]); have h57 := Lib.hid ((hm5H.out.up (show Below w5.heap.size w5 ((w5.alloc (Obj.cells #[.bool (ng (nlow n d)), .slice a5 (LZ (nlow n d)) c5] 40)).alloc (Obj.cells #[.bool (ng (rZ n.natAbs (gnd n d))), .slice a6 (LZ (rZ n.natAbs (gnd n d))) c6] 40)) by go_grown)).up hb7); have k7 := Lib.hid (Rg.step (Rg.alloc (Rg.alloc k5.out (by omega) _) (by omega) _) (by omega) hb7); have s7 : w5.heap.size < w7.heap.size := (World.block_lt_of_cell? w7 ⟨w5.heap.size, 0, none⟩ z0); have hk7 := Rg.alloc (Rg.alloc k7.out (by omega) (Obj.cells #[.bool (ng (dlow n d)), .slice a7 (LZ (dlow n d)) c7] 40)) (by omega) (Obj.cells #[.bool (ng (rZ d.natAbs (gnd n d))), .slice a8 (LZ (rZ d.natAbs (gnd n d))) c8] 40); have s7' : w.heap.size + 1 < w7.heap.size := (by omega); obtain ⟨_, p2, p3, p5, p4⟩ := hk7; obtain ⟨_, r2, r3, _, _⟩ := k7.out; clear hm7 hm8 hb7))
  have hq1 := Lib.hid (h57.out.up (show Below w7.heap.size w7 ((w7.alloc (Obj.cells #[.bool (ng (dlow n d)), .slice a7 (LZ (dlow n d)) c7] 40)).alloc (Obj.cells #[.bool (ng (rZ d.natAbs (gnd n d))), .slice a8 (LZ (rZ d.natAbs (gnd n d))) c8] 40)) by go_grown))
  have hq2 := Lib.hid (hm7H.out.up (show Below w7.heap.size w7 ((w7.alloc (Obj.cells #[.bool (ng (dlow n d)), .slice a7 (LZ (dlow n d)) c7] 40)).alloc (Obj.cells #[.bool (ng (rZ d.natAbs (gnd n d))), .slice a8 (LZ (rZ d.natAbs (gnd n d))) c8] 40)) by go_grown))
  refine bodyPost_ret (v := .agg #[.bool (ng (nlow n d)), .slice a5 (LZ (nlow n d)) c5, .bool (ng (dlow n d)), .slice a7 (LZ (dlow n d)) c7]) (by simp [results, Try.results27, go_sem, p2]) rfl ?_
  exact RetQ.fin (N := w.heap.size + 1) (hq1.out.set4 p5 _ _ _ _ _ _ _ _) (hq2.out.set4 p5 _ _ _ _ _ _ _ _) hblH.out (below_set4 p4 (Nat.le_refl _) _ _ _ _) (by omega)

theorem lowest_any (a : Option Addr) (c : Nat) (a' : Option Addr) (c' : Nat) (n d : Int) (w : World) (h : QM w a c a' c' n d) (hs1 : LZ n ≤ 1000000) (hs2 : LZ d ≤ 1000000) (hd : 0 < d) :
    Calls Try.prog 27 #[.agg #[.bool (ng n), .slice a (LZ n) c, .bool (ng d), .slice a' (LZ d) c']] w (RetQ w (rn (Rat.divInt n d)) (rd (Rat.divInt n d))) := by
  rw [← nlow_eq n hd, ← dlow_eq n hd]; exact lowest_low a c a' c' n d w h hs1 hs2 hd

end Go.Proofs.Ytkecdjdggkpdpab

/- Walks of the reference's fractions: Over (a denominator above 0), DivQ (by a number above 0). -/
namespace Go.Proofs.Ytkecdjdggkpdpab
open Go Go.RowKit Go.Proofs

set_option maxRecDepth 100000 in
set_option maxHeartbeats 1600000 in
theorem over_any (a : Option Addr) (c : Nat) (a' : Option Addr) (c' : Nat) (n d : Int) (w : World) (h1 : ZM w a c n) (h2 : ZM w a' c' d) (hd : 0 < d) :
    Calls Try.prog 28 #[.agg #[.bool (ng n), .slice a (LZ n) c], .agg #[.bool (ng d), .slice a' (LZ d) c']] w (RetQ w n d) := by
  have hng : ng d = false := by simp [ng]; omega
  have hngH := Lib.hid hng
  have hb0 : Below w.heap.size w (((w.alloc (Obj.cells #[.bool (ng n), .slice a (LZ n) c] 40)).alloc (Obj.cells #[.bool false, .slice a' (LZ d) c'] 40)).alloc (Obj.cells #[.bool (ng n), .slice a (LZ n) c, .bool false, .slice a' (LZ d) c'] 42)) := by go_grown
  have hq1 := Lib.hid (h1.up hb0)
  have hq2 := Lib.hid (h2.up hb0)
  have hb0H := Lib.hid hb0
  rw [hng]
  clear h1 h2 hng hd hb0
  go_enter Try.func28, Try.ntmps28
  go_wp2_with (fail)
  refine bodyPost_ret (v := .agg #[.bool (ng n), .slice a (LZ n) c, .bool false, .slice a' (LZ d) c']) (by simp [results, Try.results28, go_sem]) rfl ?_
  exact ⟨a, c, a', c', by rw [hngH.out], ⟨hq1.out, hq2.out⟩, hb0H.out⟩

end Go.Proofs.Ytkecdjdggkpdpab
