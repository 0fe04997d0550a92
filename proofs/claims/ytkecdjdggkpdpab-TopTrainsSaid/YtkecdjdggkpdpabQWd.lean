/- Rat Rat2 -/
import Derived.Test.YtkecdjdggkpdpabQInt4
set_option linter.unusedVariables false
/- Walks of the program's fractions: FromInt, Integer, Ratio. -/
namespace Go.Proofs.Ytkecdjdggkpdpab
open Go Go.RowKit Go.Proofs

/-- Numerator and denominator, kept from the walk. -/
def rn (q : Rat) : Int := q.num
def rd (q : Rat) : Int := (q.den : Int)

theorem rd_pos (q : Rat) : 0 < rd q := by unfold rd; have := q.den_pos; omega
theorem ng_rd (q : Rat) : ng (rd q) = false := by have := rd_pos q; simp [ng]; omega
theorem rat_eq (q : Rat) : Rat.divInt (rn q) (rd q) = q := Rat.num_divInt_den q
theorem rn_divInt {n d : Int} (hd : 0 < d) : rn (Rat.divInt n d) = n / (Nat.gcd n.natAbs d.natAbs : Nat) := by
  unfold rn
  rw [Rat.num_divInt, Int.sign_eq_one_of_pos hd, Int.one_mul, Int.gcd_comm]
  rfl
theorem rd_divInt {n d : Int} (hd : 0 < d) : rd (Rat.divInt n d) = d / (Nat.gcd n.natAbs d.natAbs : Nat) := by
  unfold rd
  rw [Rat.den_divInt, if_neg (by omega), Int.gcd_comm]
  have e : (d.natAbs : Int) = d := by omega
  show ((d.natAbs / Nat.gcd n.natAbs d.natAbs : Nat) : Int) = _
  rw [Int.natCast_ediv, e]

/-- The slices hold a fraction. -/
def RM (w : World) (a : Option Addr) (c : Nat) (a' : Option Addr) (c' : Nat) (q : Rat) : Prop := IM w a c (rn q) ∧ IM w a' c' (rd q)

theorem RM.up {w w' : World} {a a' : Option Addr} {c c' : Nat} {q : Rat} (h : RM w a c a' c' q) (hb : Below w.heap.size w w') : RM w' a c a' c' q := ⟨h.1.up hb, h.2.up hb⟩

def RetRat (w : World) (q : Rat) (e : Ending) (w' : World) : Prop :=
  ∃ a c a' c', e = .returned (.agg #[.bool (ng (rn q)), .slice a (LI (rn q)) c, .bool (ng (rd q)), .slice a' (LI (rd q)) c']) ∧ RM w' a c a' c' q ∧ Below w.heap.size w w'

theorem noInt4 {w : World} {N : Nat} {T : TypeId} {f : Nat × Nat} (h : w.heap[N]? = some (.cells #[.bool false, .slice none 0 0, .bool false, .slice none 0 0] T f)) : NoInt w N := fun o k z hc => by
  rw [cell_of_row w N o _ _ _ h] at hc
  rcases o with _ | _ | _ | _ | o
  · injection hc with hc; cases hc
  · injection hc with hc; cases hc
  · injection hc with hc; cases hc
  · injection hc with hc; cases hc
  · simp at hc

/-- A result of four cells in a new block. -/
theorem Rg.new4 (w : World) (V : TypeId) (N : Nat) (hN : w.heap.size = N) :
    Rg N 4 (w.alloc (Obj.cells #[.bool false, .slice none 0 0, .bool false, .slice none 0 0] V)) (w.alloc (Obj.cells #[.bool false, .slice none 0 0, .bool false, .slice none 0 0] V)) := by
  subst hN
  refine Rg.mk (Below.refl _ _) (fun o ho => ?_) (fun o => ?_) (noInt4 (heap_alloc_new _ _))
  · rcases o with _ | _ | _ | _ | o
    · simp [go_sem]
    · simp [go_sem]
    · simp [go_sem]
    · simp [go_sem]
    · omega
  · simp [go_sem]

theorem Rg.new2 (w : World) (V : TypeId) (N : Nat) (hN : w.heap.size = N) :
    Rg N 2 (w.alloc (Obj.cells #[.bool false, .slice none 0 0] V)) (w.alloc (Obj.cells #[.bool false, .slice none 0 0] V)) := by
  subst hN
  exact boxed1 w V

theorem IM.set4 {w : World} {a : Option Addr} {c N : Nat} {z : Int} (h : IM w a c z) (hN : NoInt w N) (b0 b1 : Bool) (x0 x1 : Option Addr) (n0 n1 k0 k1 : Nat) :
    IM ((((w.setCell ⟨N, 0, none⟩ (.bool b0)).setCell ⟨N, 1, none⟩ (.slice x0 n0 k0)).setCell ⟨N, 2, none⟩ (.bool b1)).setCell ⟨N, 3, none⟩ (.slice x1 n1 k1)) a c z := by
  have t1 := hN.set ⟨N, 0, none⟩ (.bool b0) (by intro _ _ h; cases h)
  have t2 := t1.set ⟨N, 1, none⟩ (.slice x0 n0 k0) (by intro _ _ h; cases h)
  have t3 := t2.set ⟨N, 2, none⟩ (.bool b1) (by intro _ _ h; cases h)
  exact (((h.setN hN _ _).setN t1 _ _).setN t2 _ _).setN t3 _ _

theorem below_set4 {B N : Nat} {W w : World} (h : Below B W w) (hN : B ≤ N) (v0 v1 v2 v3 : Value) :
    Below B W ((((w.setCell ⟨N, 0, none⟩ v0).setCell ⟨N, 1, none⟩ v1).setCell ⟨N, 2, none⟩ v2).setCell ⟨N, 3, none⟩ v3) :=
  (((h.setCell hN _).setCell hN _).setCell hN _).setCell hN _

theorem RetRat.fin {w W w1 : World} {a a' : Option Addr} {c c' N : Nat} {n d : Int} {q : Rat} (hn : rn q = n) (hd : rd q = d) (h1 : IM w1 a c n) (h2 : IM w1 a' c' d) (hb : Below w.heap.size w W) (hk : Below N W w1) (hN : w.heap.size ≤ N) :
    RetRat w q (.returned (.agg #[.bool (ng n), .slice a (LI n) c, .bool (ng d), .slice a' (LI d) c'])) w1 := by
  subst hn hd
  exact ⟨a, c, a', c', rfl, ⟨h1, h2⟩, hb.trans (hk.mono hN)⟩

theorem of_one (w : World) : Calls Try.prog 34 #[.int .i64 1] w (RetInt w 1) := of_nat 1 w (by omega)
theorem of_zero (w : World) : Calls Try.prog 34 #[.int .i64 0] w (RetInt w 0) := of_nat 0 w (by omega)

set_option maxHeartbeats 400000 in
theorem fromInt_any (a1 : Option Addr) (c1 : Nat) (x : Int) (w : World) (h1 : IM w a1 c1 x) :
    Calls Try.prog 58 #[.agg #[.bool (ng x), .slice a1 (LI x) c1]] w (RetRat w (x : Rat)) := by
  obtain ⟨W, hW⟩ : ∃ W, W = (w.alloc (Obj.cells #[Value.bool (ng x), Value.slice a1 (LI x) c1] 49)).alloc (Obj.cells #[Value.bool false, Value.slice none 0 0, Value.bool false, Value.slice none 0 0] 51) := ⟨_, rfl⟩
  have HR : Hid (Rg (w.heap.size + 1) 4 W W) := by rw [hW]; exact Rg.new4 _ _ _ (by simp)
  have e0 : W.cell? ⟨w.heap.size, 0, none⟩ = some (.bool (ng x)) := by rw [hW]; simp [go_sem]
  have e1 : W.cell? ⟨w.heap.size, 1, none⟩ = some (.slice a1 (LI x) c1) := by rw [hW]; simp [go_sem]
  have hbl : Below w.heap.size w W := by rw [hW]; go_grown
  have hWH := Lib.hid hW
  have hblH := Lib.hid hbl
  clear hW
  go_enter Try.func58, Try.ntmps58
  go_wp2_with (fail)
  rw [← hWH.out]
  go_region_held3 (fun w' => Rg (w.heap.size + 1) 4 W w')
    (first | exact HR.out.drew | exact Rg.step (by assumption) (by omega) (by assumption) | exact Rg.set (Rg.set (Rg.set (Rg.set (by assumption) _) _) _) _)
    (first
      | (go_at_call 34; (with_reducible refine (of_one _).mono ?_); rintro e w2 ⟨ao2, cap2, rfl, hm2, hb2'⟩; have k2 : Rg (w.heap.size + 1) 4 W w2 := Rg.step (by assumption) (by omega) hb2'; obtain ⟨g1, g2, g3, g5, g4⟩ := k2))
  go_wp2_with (fail)
  refine bodyPost_ret (v := .agg #[.bool (ng x), .slice a1 (LI x) c1, .bool (ng 1), .slice ao2 (LI 1) cap2]) (by simp [results, Try.results58, go_sem, g2]) rfl ?_
  refine RetRat.fin (N := w.heap.size + 1) rfl rfl ((h1.up (hbl.trans (g4.mono (by omega)))).set4 g5 _ _ _ _ _ _ _ _) (hm2.set4 g5 _ _ _ _ _ _ _ _) hblH.out (below_set4 g4 (Nat.le_refl _) _ _ _ _) (by omega)

theorem LI_one : LI 1 = 1 := by unfold LI; decide

theorem digs_one : digs B32 1 = [1] := by decide

/-- Is the denominator 1? -/
theorem rd_one_iff (q : Rat) (a : Option Addr) (c : Nat) (w : World) (h : IM w a c (rd q)) :
    (rd q = 1 → ∃ b o, a = some ⟨b, o, none⟩ ∧ w.cell? ⟨b, o, none⟩ = some (.int .u32 1)) ∧
    (rd q ≠ 1 → LI (rd q) = 1 → ∃ b o z, a = some ⟨b, o, none⟩ ∧ w.cell? ⟨b, o, none⟩ = some (.int .u32 ((z : Nat) : Int)) ∧ z ≠ 1) := by
  constructor
  · intro h1
    have hd := h.2
    rw [h1] at hd
    obtain ⟨b, o, z, hz, ha, hc⟩ := hd.at (i := 0) (by decide)
    rw [show (1 : Int).natAbs = 1 from rfl, digs_one] at hz
    have : z = 1 := by simpa using hz.symm
    subst this
    exact ⟨b, o, ha, by simpa using hc⟩
  · intro h1 h2
    have hd := h.2
    obtain ⟨b, o, z, hz, ha, hc⟩ := hd.at (i := 0) (by show 0 < LI (rd q); omega)
    refine ⟨b, o, z, ha, by simpa using hc, ?_⟩
    rintro rfl
    have h3 : (digs B32 (rd q).natAbs).length = 1 := h2
    have h4 := val_digs two_le_B32 (rd q).natAbs
    have h5 : digs B32 (rd q).natAbs = [1] := by
      match hm : digs B32 (rd q).natAbs, h3 with
      | [y], _ => rw [hm] at hz; simp at hz; rw [hz]
    rw [h5] at h4
    have := rd_pos q
    simp [val] at h4
    omega

/-- Is a fraction an integer? Kept from the walk. -/
def isInt (q : Rat) : Bool := decide (rd q = 1)

set_option maxHeartbeats 400000 in
theorem integer_any (a c a' c') (q : Rat) (w : World) (h : RM w a c a' c' q) :
    Calls Try.prog 46 #[.agg #[.bool (ng (rn q)), .slice a (LI (rn q)) c, .bool (ng (rd q)), .slice a' (LI (rd q)) c']] w fun e w' => e = .returned (.bool (isInt q)) ∧ Below w.heap.size w w' := by
  obtain ⟨W, hW⟩ : ∃ W, W = w.alloc (Obj.cells #[Value.bool (ng (rn q)), Value.slice a (LI (rn q)) c, Value.bool (ng (rd q)), Value.slice a' (LI (rd q)) c'] 51) := ⟨_, rfl⟩
  have hbl : Below w.heap.size w W := by rw [hW]; go_grown
  obtain ⟨p1, p2⟩ := rd_one_iff q a' c' W (h.2.up hbl)
  rw [hW] at p1 p2 hbl
  by_cases hq : rd q = 1
  · obtain ⟨b, o, rfl, hc⟩ := p1 hq
    have hi : Hid (isInt q = true) := by show isInt q = true; simp [isInt, hq]
    have hl : ((LI (rd q) : Int) == 1) = true := by rw [hq, LI_one]; rfl
    have hl2 : (0 : Int) < (LI (rd q) : Int) := by rw [hq, LI_one]; decide
    clear hq p1 p2 hW h
    go_enter Try.func46, Try.ntmps46
    go_wp2_with (fail)
    go_ret
    exact ⟨by rw [hi.out]; rfl, hbl⟩
  · have hi : Hid (isInt q = false) := by show isInt q = false; simp [isInt, hq]
    by_cases hl0 : LI (rd q) = 1
    · obtain ⟨b, o, z, rfl, hc, hz⟩ := p2 hq hl0
      have hz1 : ((z : Int) == 1) = false := by simp; omega
      have hl : ((LI (rd q) : Int) == 1) = true := by rw [hl0]; rfl
      have hl2 : (0 : Int) < (LI (rd q) : Int) := by rw [hl0]; decide
      clear hq p1 p2 hW h hl0 hz
      go_enter Try.func46, Try.ntmps46
      go_wp2_with (fail)
      go_ret
      exact ⟨by rw [hi.out]; rfl, hbl⟩
    · have hl : ((LI (rd q) : Int) == 1) = false := by simp; omega
      clear hq p1 p2 hW h hl0
      go_enter Try.func46, Try.ntmps46
      go_wp2_with (fail)
      go_ret
      exact ⟨by rw [hi.out]; rfl, hbl⟩

set_option maxHeartbeats 400000 in
theorem whole_any (n : Nat) (w : World) (hn : n ≤ 4611686018427387904) :
    Calls Try.prog 11 #[.int .i64 (n : Nat)] w (RetRat w (n : Rat)) := by
  have hR : Hid (Rg w.heap.size 4 (w.alloc (Obj.cells #[.bool false, .slice none 0 0, .bool false, .slice none 0 0] 51)) (w.alloc (Obj.cells #[.bool false, .slice none 0 0, .bool false, .slice none 0 0] 51))) := Rg.new4 _ _ _ rfl
  have hbl : Below w.heap.size w (w.alloc (Obj.cells #[.bool false, .slice none 0 0, .bool false, .slice none 0 0] 51)) := by go_grown
  have hblH := Lib.hid hbl
  clear hbl
  go_enter Try.func11, Try.ntmps11
  go_wp2_with (fail)
  refine (of_nat n _ hn).mono ?_
  rintro e w1 ⟨a1, c1, rfl, hm1, hb1⟩
  have k1 := Lib.hid (Rg.step hR.out (by omega) hb1)
  go_wp2_with (fail)
  refine (of_one _).mono ?_
  rintro e w2 ⟨a2, c2, rfl, hm2, hb2⟩
  obtain ⟨g1, g2, g3, g5, g4⟩ := Rg.step k1.out (by omega) hb2
  have hm1' := hm1.up hb2
  go_wp2_with (fail)
  refine bodyPost_ret (v := .agg #[.bool (ng (n : Int)), .slice a1 (LI (n : Int)) c1, .bool (ng 1), .slice a2 (LI 1) c2]) (by simp [results, Try.results11, go_sem, g2]) rfl ?_
  exact RetRat.fin (N := w.heap.size) rfl rfl (hm1'.set4 g5 _ _ _ _ _ _ _ _) (hm2.set4 g5 _ _ _ _ _ _ _ _) hblH.out (below_set4 g4 (Nat.le_refl _) _ _ _ _) (by omega)

end Go.Proofs.Ytkecdjdggkpdpab

/- Walk of the program's fractions: Ratio, of a denominator above 0. -/
namespace Go.Proofs.Ytkecdjdggkpdpab
open Go Go.RowKit Go.Proofs

theorem Rg.lt {N n : Nat} {W w' : World} (h : Rg N n W w') (hn : 0 < n) : N < w'.heap.size := World.block_lt_of_cell? w' ⟨N, 0, none⟩ (h.2.1 0 hn)
theorem Rg.alloc {N n : Nat} {W w' : World} (h : Rg N n W w') (hn : 0 < n) (o : Obj) : Rg N n W (w'.alloc o) := Rg.step h hn ((Below.refl _ _).alloc (Nat.le_refl _) o)

set_option maxHeartbeats 1600000 in
theorem ratio_any (a1 a2 : Option Addr) (c1 c2 : Nat) (x y : Int) (w : World) (h1 : IM w a1 c1 x) (h2 : IM w a2 c2 y) (hb1 : LI x ≤ 100000000) (hb2 : LI y ≤ 100000000) (hy : 0 < y) :
    Calls Try.prog 35 #[.agg #[.bool (ng x), .slice a1 (LI x) c1], .agg #[.bool (ng y), .slice a2 (LI y) c2]] w (RetRat w (Rat.divInt x y)) := by
  have hny : ng y = false := by simp [ng]; omega
  have hnyH := Lib.hid hny
  obtain ⟨W, hW⟩ : ∃ W, W = ((w.alloc (Obj.cells #[Value.bool (ng x), Value.slice a1 (LI x) c1] 49)).alloc (Obj.cells #[Value.bool false, Value.slice a2 (LI y) c2] 49)).alloc (Obj.cells #[Value.bool false, Value.slice none 0 0, Value.bool false, Value.slice none 0 0] 51) := ⟨_, rfl⟩
  have HR : Hid (Rg (w.heap.size + 1 + 1) 4 W W) := by rw [hW]; exact Rg.new4 _ _ _ (by simp)
  have e0 : W.cell? ⟨w.heap.size, 0, none⟩ = some (.bool (ng x)) := by rw [hW]; simp [go_sem]
  have e1 : W.cell? ⟨w.heap.size, 1, none⟩ = some (.slice a1 (LI x) c1) := by rw [hW]; simp [go_sem]
  have e2 : W.cell? ⟨w.heap.size + 1, 0, none⟩ = some (.bool false) := by rw [hW]; simp [go_sem]
  have e3 : W.cell? ⟨w.heap.size + 1, 1, none⟩ = some (.slice a2 (LI y) c2) := by rw [hW]; simp [go_sem]
  have hbl : Below w.heap.size w W := by rw [hW]; go_grown
  have hWH := Lib.hid hW
  have hblH := Lib.hid hbl
  have hgcd := Lib.hid (gcd_any a1 a2 c1 c2 x y W (h1.up hbl) (h2.up hbl) (by omega) (by omega))
  rw [hny] at hgcd ⊢
  clear hW hny
  generalize hg : Nat.gcd x.natAbs y.natAbs = g at hgcd
  have hgH := Lib.hid hg
  have hg0 : 0 < g := by rw [← hg]; exact Nat.gcd_pos_of_pos_right _ (by omega)
  have hgL : LI (g : Int) ≤ 100000000 := by
    have : g ≤ y.natAbs := by rw [← hg]; exact Nat.gcd_le_right _ (by omega)
    exact Nat.le_trans (L_mono two_le_B32 this) hb2
  have hnum : Hid (rn (Rat.divInt x y) = x / (g : Int)) := by show _ = _; rw [rn_divInt hy, hg]
  have hden : Hid (rd (Rat.divInt x y) = y / (g : Int)) := by show _ = _; rw [rd_divInt hy, hg]
  have hdx : Hid (x % (g : Int) = 0) := by
    show _ = _
    refine Int.emod_eq_zero_of_dvd (Int.ofNat_dvd_left.2 ?_)
    rw [← hg]; exact Nat.gcd_dvd_left _ _
  have hdy : Hid (y % (g : Int) = 0) := by
    show _ = _
    refine Int.emod_eq_zero_of_dvd (Int.ofNat_dvd_left.2 ?_)
    rw [← hg]; exact Nat.gcd_dvd_right _ _
  clear hg
  go_enter Try.func35, Try.ntmps35
  go_wp2_with (fail)
  rw [← hWH.out]
  refine hgcd.out.mono ?_
  rintro e w1 ⟨ag, cg, rfl, hmg, hbg⟩
  have k1 := Lib.hid (Rg.step HR.out (by omega) hbg)
  go_wp2_with (fail)
  generalize hW5 : w1.alloc (Obj.cells #[Value.bool (ng (g : Int)), Value.slice ag (LI (g : Int)) cg] 49) = W5
  have k5 : Hid (Rg (w.heap.size + 1 + 1) 4 W W5) := by rw [← hW5]; exact k1.out.alloc (by omega) _
  have q0 : W5.cell? ⟨w1.heap.size, 0, none⟩ = some (.bool (ng (g : Int))) := by rw [← hW5]; simp [go_sem]
  have q1 : W5.cell? ⟨w1.heap.size, 1, none⟩ = some (.slice ag (LI (g : Int)) cg) := by rw [← hW5]; simp [go_sem]
  have z5 : w1.heap.size < W5.heap.size := by rw [← hW5]; simp
  have hb5 : Below w1.heap.size w1 W5 := by rw [← hW5]; exact (Below.refl _ _).alloc (Nat.le_refl _) _
  have z1 : w.heap.size + 1 + 1 < w1.heap.size := k1.out.lt (by omega)
  have hmg5 := hmg.up hb5
  clear hW5
  go_region_held3 (fun w' => Rg (w.heap.size + 1 + 1) 4 W w' ∧ Kq W5 w')
    (first | exact ⟨k5.out.drew, Kq.drew _⟩ | exact k3 | exact ⟨Rg.step (And.left (by assumption)) (by omega) (by assumption), Kq.step (And.right (by assumption)) (by assumption)⟩)
    (first
      | (go_at_call 34; (with_reducible refine (of_one _).mono ?_); rintro e w2 ⟨ao2, cap2, rfl, hm2, hb2'⟩)
      | (go_at_call 40; (with_reducible refine (cmp_any _ _ _ _ _ _ _ (hmg5.kq (And.right (by assumption))) hm2 hgL (by rw [LI_one]; omega)).mono ?_); rintro e w3 ⟨rfl, hb3'⟩; have k3 : Rg (w.heap.size + 1 + 1) 4 W w3 ∧ Kq W5 w3 := ⟨Rg.step (And.left (b := Kq W5 w2) (by assumption)) (by omega) hb3', Kq.step (And.right (a := Rg (w.heap.size + 1 + 1) 4 W w2) (by assumption)) hb3'⟩))
  have k3H := Lib.hid k3
  obtain ⟨⟨r1, r2, r3, r4, r5⟩, ⟨r6, r7⟩⟩ := k3
  clear hb2' hm2
  by_cases hg1 : g = 1
  · have hsg : (sg ((g : Int) - 1) == 0) = true := by rw [hg1]; rfl
    have hg1H := Lib.hid hg1
    clear hg1
    go_wp2_with (fail)
    refine bodyPost_ret (v := .agg #[.bool (ng x), .slice a1 (LI x) c1, .bool false, .slice a2 (LI y) c2]) (by simp [results, Try.results35, go_sem, r2]) rfl ?_
    rw [← hnyH.out]
    have u := hblH.out.trans (r5.mono (by omega))
    refine RetRat.fin (N := w.heap.size + 1 + 1) ?_ ?_ ((h1.up u).set4 r4 _ _ _ _ _ _ _ _) ((h2.up u).set4 r4 _ _ _ _ _ _ _ _) hblH.out (below_set4 r5 (Nat.le_refl _) _ _ _ _) (by omega)
    · rw [hnum.out, hg1H.out]; simp
    · rw [hden.out, hg1H.out]; simp
  · have hsg : (sg ((g : Int) - 1) == 0) = false := by
      have : sg ((g : Int) - 1) ≠ 0 := by unfold sg; split <;> (try split) <;> omega
      simpa using this
    have u := hblH.out.trans (r5.mono (by omega))
    have hq1 := Lib.hid (quo_exact a1 ag c1 cg x (g : Int) w3 (h1.up u) (hmg5.kq k3H.out.2) (by omega) (by omega) (by omega) hdx.out)
    have z3 := r7.size
    have z4 : w1.heap.size < w3.heap.size := by omega
    clear hg1
    go_wp2_with (fail)
    refine hq1.out.mono ?_
    rintro e w4 ⟨a3, c3, a4, c4, rfl, hm3, hb4⟩
    have k4 := Lib.hid (Rg.step k3H.out.1 (by omega) hb4)
    have y4 := Lib.hid (Kq.step k3H.out.2 hb4)
    obtain ⟨s1, s2, s3, s4, s5⟩ := k4.out
    obtain ⟨s6, s7⟩ := y4.out
    have l4 := hb4.size
    have l4a : w.heap.size < w4.heap.size := by omega
    have l4b : w.heap.size + 1 < w4.heap.size := by omega
    have l4c : w.heap.size + 1 + 1 < w4.heap.size := by omega
    have l4d : w1.heap.size < w4.heap.size := by omega
    clear r1 r2 r3 r4 r6 r7
    go_wp2_with (fail)
    generalize hW6 : ((w4.alloc (Obj.cells #[Value.bool (ng (x / (g : Int))), Value.slice a3 (LI (x / (g : Int))) c3] 49)).alloc (Obj.cells #[Value.bool false, Value.slice a4 0 c4] 49)) = W6
    have hb6 : Below w4.heap.size w4 W6 := by rw [← hW6]; exact ((Below.refl _ _).alloc (Nat.le_refl _) _).alloc (by simp) _
    have p0 : W6.cell? ⟨w4.heap.size, 0, none⟩ = some (.bool (ng (x / (g : Int)))) := by rw [← hW6]; simp [go_sem]
    have p1 : W6.cell? ⟨w4.heap.size, 1, none⟩ = some (.slice a3 (LI (x / (g : Int))) c3) := by rw [← hW6]; simp [go_sem]
    have z6 : w4.heap.size < W6.heap.size := by rw [← hW6]; simp; omega
    have k6 := Lib.hid (Rg.step k4.out (by omega) hb6)
    have y6 := Lib.hid (Kq.step y4.out hb6)
    have hm36 := hm3.up hb6
    have u6 := hblH.out.trans (k6.out.kept.mono (by omega : w.heap.size ≤ w.heap.size + 1 + 1))
    have hq2 := Lib.hid (quo_exact a2 ag c2 cg y (g : Int) W6 (h2.up u6) (hmg5.kq y6.out) (by omega) (by omega) (by omega) hdy.out)
    rw [hnyH.out] at hq2
    clear hW6 s1 s2 s3 s4 s5 s6 s7
    refine hq2.out.mono ?_
    rintro e w7 ⟨a5, c5, a6, c6, rfl, hm5, hb7⟩
    have k7 := Lib.hid (Rg.step k6.out (by omega) hb7)
    have l7 := hb7.size
    have p0' : w7.cell? ⟨w4.heap.size, 0, none⟩ = some (.bool (ng (x / (g : Int)))) := Below.cellAt hb7 (Nat.le_refl _) p0
    have p1' : w7.cell? ⟨w4.heap.size, 1, none⟩ = some (.slice a3 (LI (x / (g : Int))) c3) := Below.cellAt hb7 (Nat.le_refl _) p1
    have l7a : w4.heap.size < w7.heap.size := by omega
    have l7b : w.heap.size + 1 + 1 < w7.heap.size := by omega
    have l7c : w.heap.size + 1 < w7.heap.size := by omega
    have l7d : w.heap.size < w7.heap.size := by omega
    have hm37 := hm36.up hb7
    obtain ⟨s1, s2, s3, s4, s5⟩ := k7.out
    go_wp2_with (fail)
    refine bodyPost_ret (v := .agg #[.bool (ng (x / (g : Int))), .slice a3 (LI (x / (g : Int))) c3, .bool (ng (y / (g : Int))), .slice a5 (LI (y / (g : Int))) c5]) (by simp [results, Try.results35, go_sem, s2, l7b, l7c]) rfl ?_
    have g1 := hm37.set4 s4 (ng (x / (g : Int))) (ng (y / (g : Int))) a3 a5 (LI (x / (g : Int))) (LI (y / (g : Int))) c3 c5
    have g2 := hm5.set4 s4 (ng (x / (g : Int))) (ng (y / (g : Int))) a3 a5 (LI (x / (g : Int))) (LI (y / (g : Int))) c3 c5
    have g3 := below_set4 s5 (Nat.le_refl _) (.bool (ng (x / (g : Int)))) (.slice a3 (LI (x / (g : Int))) c3) (.bool (ng (y / (g : Int)))) (.slice a5 (LI (y / (g : Int))) c5)
    have g4 : w7.heap.size = ((((w7.setCell ⟨w.heap.size + 1 + 1, 0, none⟩ (.bool (ng (x / (g : Int))))).setCell ⟨w.heap.size + 1 + 1, 1, none⟩ (.slice a3 (LI (x / (g : Int))) c3)).setCell ⟨w.heap.size + 1 + 1, 2, none⟩ (.bool (ng (y / (g : Int))))).setCell ⟨w.heap.size + 1 + 1, 3, none⟩ (.slice a5 (LI (y / (g : Int))) c5)).heap.size := by simp
    generalize ((((w7.setCell ⟨w.heap.size + 1 + 1, 0, none⟩ (.bool (ng (x / (g : Int))))).setCell ⟨w.heap.size + 1 + 1, 1, none⟩ (.slice a3 (LI (x / (g : Int))) c3)).setCell ⟨w.heap.size + 1 + 1, 2, none⟩ (.bool (ng (y / (g : Int))))).setCell ⟨w.heap.size + 1 + 1, 3, none⟩ (.slice a5 (LI (y / (g : Int))) c5)) = w8 at g1 g2 g3 g4 ⊢
    have g5 : Below w8.heap.size w8 ((w8.alloc (Obj.cells #[Value.bool (ng (y / (g : Int))), Value.slice a5 (LI (y / (g : Int))) c5] 49)).alloc (Obj.cells #[Value.bool false, Value.slice a6 0 c6] 49)) := ((Below.refl _ _).alloc (Nat.le_refl _) _).alloc (by simp) _
    exact RetRat.fin (N := w.heap.size + 1 + 1) hnum.out hden.out (g1.up g5) (g2.up g5) hblH.out (g3.trans (g5.mono (by omega))) (by omega)

end Go.Proofs.Ytkecdjdggkpdpab
