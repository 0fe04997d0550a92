/- Rat Rat2 -/
import Derived.Test.YtbehfhmdilifkaaQInt4
set_option linter.unusedVariables false
/- Walks of the program's fractions: FromInt, Integer, Ratio. -/
namespace Go.Proofs.Ytbehfhmdilifkaa
open Go Go.RowKit Go.Proofs

/-- Numerator and denominator, kept from the walk. -/
def rn (q : Rat) : Int := q.num
def rd (q : Rat) : Int := (q.den : Int)

theorem rd_pos (q : Rat) : 0 < rd q := by unfold rd; have := q.den_pos; omega
theorem ng_rd (q : Rat) : ng (rd q) = false := by have := rd_pos q; simp [ng]; omega
theorem rat_eq (q : Rat) : Rat.divInt (rn q) (rd q) = q := Rat.num_divInt_den q
theorem rn_divInt {n d : Int} (hd : 0 < d) : rn (Rat.divInt n d) = n / (Nat.gcd n.natAbs d.natAbs : Nat) := by
  unfold rn
  rw [Rat.num_divInt, Int.sign_eq_one_of_pos hd, Int.one_mul, Int.gcd_comm]
  rfl
theorem rd_divInt {n d : Int} (hd : 0 < d) : rd (Rat.divInt n d) = d / (Nat.gcd n.natAbs d.natAbs : Nat) := by
  unfold rd
  rw [Rat.den_divInt, if_neg (by omega), Int.gcd_comm]
  have e : (d.natAbs : Int) = d := by omega
  show ((d.natAbs / Nat.gcd n.natAbs d.natAbs : Nat) : Int) = _
  rw [Int.natCast_ediv, e]

/-- The slices hold a fraction. -/
def RM (w : World) (a : Option Addr) (c : Nat) (a' : Option Addr) (c' : Nat) (q : Rat) : Prop := IM w a c (rn q) ∧ IM w a' c' (rd q)

theorem RM.up {w w' : World} {a a' : Option Addr} {c c' : Nat} {q : Rat} (h : RM w a c a' c' q) (hb : Below w.heap.size w w') : RM w' a c a' c' q := ⟨h.1.up hb, h.2.up hb⟩

def RetRat (w : World) (q : Rat) (e : Ending) (w' : World) : Prop :=
  ∃ a c a' c', e = .returned (.agg #[.bool (ng (rn q)), .slice a (LI (rn q)) c, .bool (ng (rd q)), .slice a' (LI (rd q)) c']) ∧ RM w' a c a' c' q ∧ Below w.heap.size w w'

theorem noInt4 {w : World} {N : Nat} {T : TypeId} {f : Nat × Nat} (h : w.heap[N]? = some (.cells #[.bool false, .slice none 0 0, .bool false, .slice none 0 0] T f)) : NoInt w N := fun o k z hc => by
  rw [cell_of_row w N o _ _ _ h] at hc
  rcases o with _ | _ | _ | _ | o
  · injection hc with hc; cases hc
  · injection hc with hc; cases hc
  · injection hc with hc; cases hc
  · injection hc with hc; cases hc
  · simp at hc

/-- A result of four cells in a new block. -/
theorem Rg.new4 (w : World) (V : TypeId) (N : Nat) (hN : w.heap.size = N) :
    Rg N 4 (w.alloc (Obj.cells #[.bool false, .slice none 0 0, .bool false, .slice none 0 0] V)) (w.alloc (Obj.cells #[.bool false, .slice none 0 0, .bool false, .slice none 0 0] V)) := by
  subst hN
  refine Rg.mk (Below.refl _ _) (fun o ho => ?_) (fun o => ?_) (noInt4 (heap_alloc_new _ _))
  · rcases o with _ | _ | _ | _ | o
    · simp [go_sem]
    · simp [go_sem]
    · simp [go_sem]
    · simp [go_sem]
    · omega
  · simp [go_sem]

theorem Rg.new2 (w : World) (V : TypeId) (N : Nat) (hN : w.heap.size = N) :
    Rg N 2 (w.alloc (Obj.cells #[.bool false, .slice none 0 0] V)) (w.alloc (Obj.cells #[.bool false, .slice none 0 0] V)) := by
  subst hN
  exact boxed1 w V

theorem IM.set4 {w : World} {a : Option Addr} {c N : Nat} {z : Int} (h : IM w a c z) (hN : NoInt w N) (b0 b1 : Bool) (x0 x1 : Option Addr) (n0 n1 k0 k1 : Nat) :
    IM ((((w.setCell ⟨N, 0, none⟩ (.bool b0)).setCell ⟨N, 1, none⟩ (.slice x0 n0 k0)).setCell ⟨N, 2, none⟩ (.bool b1)).setCell ⟨N, 3, none⟩ (.slice x1 n1 k1)) a c z := by
  have t1 := hN.set ⟨N, 0, none⟩ (.bool b0) (by intro _ _ h; cases h)
  have t2 := t1.set ⟨N, 1, none⟩ (.slice x0 n0 k0) (by intro _ _ h; cases h)
  have t3 := t2.set ⟨N, 2, none⟩ (.bool b1) (by intro _ _ h; cases h)
  exact (((h.setN hN _ _).setN t1 _ _).setN t2 _ _).setN t3 _ _

theorem below_set4 {B N : Nat} {W w : World} (h : Below B W w) (hN : B ≤ N) (v0 v1 v2 v3 : Value) :
    Below B W ((((w.setCell ⟨N, 0, none⟩ v0).setCell ⟨N, 1, none⟩ v1).setCell ⟨N, 2, none⟩ v2).setCell ⟨N, 3, none⟩ v3) :=
  (((h.setCell hN _).setCell hN _).setCell hN _).setCell hN _

theorem RetRat.fin {w W w1 : World} {a a' : Option Addr} {c c' N : Nat} {n d : Int} {q : Rat} (hn : rn q = n) (hd : rd q = d) (h1 : IM w1 a c n) (h2 : IM w1 a' c' d) (hb : Below w.heap.size w W) (hk : Below N W w1) (hN : w.heap.size ≤ N) :
    RetRat w q (.returned (.agg #[.bool (ng n), .slice a (LI n) c, .bool (ng d), .slice a' (LI d) c'])) w1 := by
  subst hn hd
  exact ⟨a, c, a', c', rfl, ⟨h1, h2⟩, hb.trans (hk.mono hN)⟩

theorem of_one (w : World) : Calls Try.prog 58 #[.int .i64 1] w (RetInt w 1) := of_nat 1 w (by omega)
theorem of_zero (w : World) : Calls Try.prog 58 #[.int .i64 0] w (RetInt w 0) := of_nat 0 w (by omega)

set_option maxHeartbeats 400000 in
theorem fromInt_any (a1 : Option Addr) (c1 : Nat) (x : Int) (w : World) (h1 : IM w a1 c1 x) :
    Calls Try.prog 61 #[.agg #[.bool (ng x), .slice a1 (LI x) c1]] w (RetRat w (x : Rat)) := by
  obtain ⟨W, hW⟩ : ∃ W, W = (w.alloc (Obj.cells #[Value.bool (ng x), Value.slice a1 (LI x) c1] 98)).alloc (Obj.cells #[Value.bool false, Value.slice none 0 0, Value.bool false, Value.slice none 0 0] 103) := ⟨_, rfl⟩
  have HR : Hid (Rg (w.heap.size + 1) 4 W W) := by rw [hW]; exact Rg.new4 _ _ _ (by simp)
  have e0 : W.cell? ⟨w.heap.size, 0, none⟩ = some (.bool (ng x)) := by rw [hW]; simp [go_sem]
  have e1 : W.cell? ⟨w.heap.size, 1, none⟩ = some (.slice a1 (LI x) c1) := by rw [hW]; simp [go_sem]
  have hbl : Below w.heap.size w W := by rw [hW]; go_grown
  have hWH := Lib.hid hW
  have hblH := Lib.hid hbl
  clear hW
  go_enter Try.func61, Try.ntmps61
  go_wp2_with (fail)
  rw [← hWH.out]
  go_region_held3 (fun w' => Rg (w.heap.size + 1) 4 W w')
    (first | exact HR.out.drew | exact Rg.step (by assumption) (by omega) (by assumption) | exact Rg.set (Rg.set (Rg.set (Rg.set (by assumption) _) _) _) _)
    (first
      | (go_at_call 58; (with_reducible refine (of_one _).mono ?_); rintro e w2 ⟨ao2, cap2, rfl, hm2, hb2'⟩; have k2 : Rg (w.heap.size + 1) 4 W w2 := Rg.step (by assumption) (by omega) hb2'; obtain ⟨g1, g2, g3, g5, g4⟩ := k2))
  go_wp2_with (fail)
  refine bodyPost_ret (v := .agg #[.bool (ng x), .slice a1 (LI x) c1, .bool (ng 1), .slice ao2 (LI 1) cap2]) (by simp [results, Try.results61, go_sem, g2]) rfl ?_
  refine RetRat.fin (N := w.heap.size + 1) rfl rfl ((h1.up (hbl.trans (g4.mono (by omega)))).set4 g5 _ _ _ _ _ _ _ _) (hm2.set4 g5 _ _ _ _ _ _ _ _) hblH.out (below_set4 g4 (Nat.le_refl _) _ _ _ _) (by omega)

theorem LI_one : LI 1 = 1 := by unfold LI; decide

theorem digs_one : digs B32 1 = [1] := by decide

/-- Is the denominator 1? -/
theorem rd_one_iff (q : Rat) (a : Option Addr) (c : Nat) (w : World) (h : IM w a c (rd q)) :
    (rd q = 1 → ∃ b o, a = some ⟨b, o, none⟩ ∧ w.cell? ⟨b, o, none⟩ = some (.int .u32 1)) ∧
    (rd q ≠ 1 → LI (rd q) = 1 → ∃ b o z, a = some ⟨b, o, none⟩ ∧ w.cell? ⟨b, o, none⟩ = some (.int .u32 ((z : Nat) : Int)) ∧ z ≠ 1) := by
  constructor
  · intro h1
    have hd := h.2
    rw [h1] at hd
    obtain ⟨b, o, z, hz, ha, hc⟩ := hd.at (i := 0) (by decide)
    rw [show (1 : Int).natAbs = 1 from rfl, digs_one] at hz
    have : z = 1 := by simpa using hz.symm
    subst this
    exact ⟨b, o, ha, by simpa using hc⟩
  · intro h1 h2
    have hd := h.2
    obtain ⟨b, o, z, hz, ha, hc⟩ := hd.at (i := 0) (by show 0 < LI (rd q); omega)
    refine ⟨b, o, z, ha, by simpa using hc, ?_⟩
    rintro rfl
    have h3 : (digs B32 (rd q).natAbs).length = 1 := h2
    have h4 := val_digs two_le_B32 (rd q).natAbs
    have h5 : digs B32 (rd q).natAbs = [1] := by
      match hm : digs B32 (rd q).natAbs, h3 with
      | [y], _ => rw [hm] at hz; simp at hz; rw [hz]
    rw [h5] at h4
    have := rd_pos q
    simp [val] at h4
    omega

/-- Is a fraction an integer? Kept from the walk. -/
def isInt (q : Rat) : Bool := decide (rd q = 1)

set_option maxHeartbeats 400000 in
theorem integer_any (a c a' c') (q : Rat) (w : World) (h : RM w a c a' c' q) :
    Calls Try.prog 91 #[.agg #[.bool (ng (rn q)), .slice a (LI (rn q)) c, .bool (ng (rd q)), .slice a' (LI (rd q)) c']] w fun e w' => e = .returned (.bool (isInt q)) ∧ Below w.heap.size w w' := by
  obtain ⟨W, hW⟩ : ∃ W, W = w.alloc (Obj.cells #[Value.bool (ng (rn q)), Value.slice a (LI (rn q)) c, Value.bool (ng (rd q)), Value.slice a' (LI (rd q)) c'] 103) := ⟨_, rfl⟩
  have hbl : Below w.heap.size w W := by rw [hW]; go_grown
  obtain ⟨p1, p2⟩ := rd_one_iff q a' c' W (h.2.up hbl)
  rw [hW] at p1 p2 hbl
  by_cases hq : rd q = 1
  · obtain ⟨b, o, rfl, hc⟩ := p1 hq
    have hi : Hid (isInt q = true) := by show isInt q = true; simp [isInt, hq]
    have hl : ((LI (rd q) : Int) == 1) = true := by rw [hq, LI_one]; rfl
    have hl2 : (0 : Int) < (LI (rd q) : Int) := by rw [hq, LI_one]; decide
    clear hq p1 p2 hW h
    go_enter Try.func91, Try.ntmps91
    go_wp2_with (fail)
    go_ret
    exact ⟨by rw [hi.out]; rfl, hbl⟩
  · have hi : Hid (isInt q = false) := by show isInt q = false; simp [isInt, hq]
    by_cases hl0 : LI (rd q) = 1
    · obtain ⟨b, o, z, rfl, hc, hz⟩ := p2 hq hl0
      have hz1 : ((z : Int) == 1) = false := by simp; omega
      have hl : ((LI (rd q) : Int) == 1) = true := by rw [hl0]; rfl
      have hl2 : (0 : Int) < (LI (rd q) : Int) := by rw [hl0]; decide
      clear hq p1 p2 hW h hl0 hz
      go_enter Try.func91, Try.ntmps91
      go_wp2_with (fail)
      go_ret
      exact ⟨by rw [hi.out]; rfl, hbl⟩
    · have hl : ((LI (rd q) : Int) == 1) = false := by simp; omega
      clear hq p1 p2 hW h hl0
      go_enter Try.func91, Try.ntmps91
      go_wp2_with (fail)
      go_ret
      exact ⟨by rw [hi.out]; rfl, hbl⟩

end Go.Proofs.Ytbehfhmdilifkaa

/- Walk of the program's fractions: Ratio, of a denominator above 0. -/
namespace Go.Proofs.Ytbehfhmdilifkaa
open Go Go.RowKit Go.Proofs

theorem Rg.lt {N n : Nat} {W w' : World} (h : Rg N n W w') (hn : 0 < n) : N < w'.heap.size := World.block_lt_of_cell? w' ⟨N, 0, none⟩ (h.2.1 0 hn)
theorem Rg.alloc {N n : Nat} {W w' : World} (h : Rg N n W w') (hn : 0 < n) (o : Obj) : Rg N n W (w'.alloc o) := Rg.step h hn ((Below.refl _ _).alloc (Nat.le_refl _) o)

end Go.Proofs.Ytbehfhmdilifkaa
