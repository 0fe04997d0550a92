/- Ic -/
import Derived.Test.YtbehfhmdilifkaaQHh
import Derived.Test.YtbehfhmdilifkaaQHp
set_option linter.unusedVariables false
/- Walk of the law TeethClosest. -/
namespace Go.Proofs.Ytbehfhmdilifkaa
open Go Go.RowKit Go.Proofs

/-- The boxes of the law's arguments. -/
structure W32 (W : World) (g h : Nat) (a b c d e : Nat) : Prop where
  x0 : W.cell? ⟨g, 0, none⟩ = some (.int .u32 (a : Nat))
  x1 : W.cell? ⟨g, 1, none⟩ = some (.int .u32 (b : Nat))
  x2 : W.cell? ⟨g, 2, none⟩ = some (.int .u32 (c : Nat))
  y0 : W.cell? ⟨h, 0, none⟩ = some (.int .u32 (d : Nat))
  y1 : W.cell? ⟨h, 1, none⟩ = some (.int .u32 (e : Nat))
theorem W32.new (w : World) (a b c d e : Nat) : W32 ((w.alloc (Obj.cells #[.int .u32 (a : Nat), .int .u32 (b : Nat), .int .u32 (c : Nat)] 58)).alloc (Obj.cells #[.int .u32 (d : Nat), .int .u32 (e : Nat)] 59)) w.heap.size (w.heap.size + 1) a b c d e :=
  ⟨by rw [al_oldT (by simp), al_newT rfl]; rfl, by rw [al_oldT (by simp), al_newT rfl]; rfl, by rw [al_oldT (by simp), al_newT rfl]; rfl, by rw [al_newT (by simp)]; rfl, by rw [al_newT (by simp)]; rfl⟩
theorem W32.up {W W' : World} {g h a b c d e : Nat} (k : W32 W g h a b c d e) (hb : Below W.heap.size W W') : W32 W' g h a b c d e :=
  ⟨Below.cellAt hb (Nat.le_refl _) k.x0, Below.cellAt hb (Nat.le_refl _) k.x1, Below.cellAt hb (Nat.le_refl _) k.x2, Below.cellAt hb (Nat.le_refl _) k.y0, Below.cellAt hb (Nat.le_refl _) k.y1⟩
set_option maxRecDepth 100000 in
set_option maxHeartbeats 6400000 in
theorem cloLaw_at (a b c d e A B C o u m p q S s K T : Nat) (w : World) (ha : a < 4294967296) (hb : b < 4294967296) (hc : c < 4294967296) (hd : d < 4294967296) (he : e < 4294967296) (hA : a % 1000000 = A) (hB : b % 1000000 = B) (hC : c % 1000000 = C) (ho : A + 1 = o) (hu : B + 1 = u) (hm : C + 1 = m)
    (hN : NearI o u m p q) (hS : d % m = S) (hs : S + 1 = s) (hK : e % 3 = K) (hT : o * s / u = T) :
    Calls Try.prog 10 #[.agg #[.int .u32 (a : Nat), .int .u32 (b : Nat), .int .u32 (c : Nat)], .agg #[.int .u32 (d : Nat), .int .u32 (e : Nat)]] w (RetB w true) := by
  have tA : (a : Int).tmod 1000000 = (A : Int) := (tm hA).1
  have tA2 : (a : Int) % 1000000 = (A : Int) := (tm hA).2
  have tB : (b : Int).tmod 1000000 = (B : Int) := (tm hB).1
  have tB2 : (b : Int) % 1000000 = (B : Int) := (tm hB).2
  have tC : (c : Int).tmod 1000000 = (C : Int) := (tm hC).1
  have tC2 : (c : Int) % 1000000 = (C : Int) := (tm hC).2
  have tS : (d : Int).tmod (m : Int) = (S : Int) := (tm hS).1
  have tS2 : (d : Int) % (m : Int) = (S : Int) := (tm hS).2
  have tK : (e : Int).tmod 3 = (K : Int) := (tm hK).1
  have tK2 : (e : Int) % 3 = (K : Int) := (tm hK).2
  have lA : A < 1000000 := by rw [← hA]; exact Nat.mod_lt _ (by omega)
  have lB : B < 1000000 := by rw [← hB]; exact Nat.mod_lt _ (by omega)
  have lC : C < 1000000 := by rw [← hC]; exact Nat.mod_lt _ (by omega)
  have lS : S < m := by rw [← hS]; exact Nat.mod_lt _ (by omega)
  have lK : K < 3 := by rw [← hK]; exact Nat.mod_lt _ (by omega)
  have haI : (A : Int) + 1 = (o : Int) := by omega
  have hbI : (B : Int) + 1 = (u : Int) := by omega
  have hcI : (C : Int) + 1 = (m : Int) := by omega
  have hsI : (S : Int) + 1 = (s : Int) := by omega
  have o1 : 1 ≤ o := by omega
  have u1 : 1 ≤ u := by omega
  have m1 : 1 ≤ m := by omega
  have s1 : 1 ≤ s := by omega
  have o2 : o ≤ 1000000 := by omega
  have u2 : u ≤ 1000000 := by omega
  have m2 : m ≤ 1000000 := by omega
  have s2 : s ≤ m := by omega
  have q1 := hN.pos
  have q2 := hN.mem.le
  have p2 := hN.mem.num_le
  have hoq : o * q ≤ 1000000000000 := Nat.le_trans (Nat.mul_le_mul o2 (show q ≤ 1000000 by omega)) (by decide)
  have hpl : p ≤ 1000000000003 := by omega
  have hos : o * s ≤ 1000000000000 := Nat.le_trans (Nat.mul_le_mul o2 (show s ≤ 1000000 by omega)) (by decide)
  have hTl : T ≤ 1000000000000 := by rw [← hT]; exact Nat.le_trans (Nat.div_le_self _ _) hos
  have hnear := Lib.hid (fun W => nearP_good o u m p q W o1 o2 u1 u2 m1 m2 hN)
  have hgcd := hN.gcd (by omega)
  have hg := Lib.hid (fun W => gcdR_any p q W (by omega) (by omega))
  rw [hgcd] at hg
  obtain ⟨r, hr⟩ : ∃ r, T + K = r := ⟨_, rfl⟩
  have hrI : (T : Int) + (K : Int) = (r : Int) := by omega
  have hrl : r ≤ 1000000000003 := by omega
  have hclo : closerB o u r s p q = false := by
    unfold closerB
    refine decide_eq_false ?_
    have := hN.closest (s := s) (k := K) (by omega) m1 s1 s2
    rw [hT, hr] at this
    omega
  have hcl := Lib.hid (fun W => closer_any o u r s p q false W (by omega) (Nat.le_trans (Nat.mul_le_mul hrl u2) (by decide)) (by omega) (Nat.le_trans (Nat.mul_le_mul hpl u2) (by decide)) (by omega) (by omega) hclo)
  obtain ⟨X, hX⟩ : ∃ X, o * s = X := ⟨_, rfl⟩
  have hXI := mulN hX
  rw [hX] at hT hos
  have tT : (X : Int).tdiv (u : Int) = (T : Int) := by rw [← hT]; exact (Int.ofNat_tdiv X u).symm
  have tT2 : (X : Int) / (u : Int) = (T : Int) := by rw [← hT]; exact (Int.natCast_ediv X u).symm
  have f1 : ¬ (u : Int) = 0 := by omega
  have f2 : ((u : Int) == 0) = false := by simp; omega
  have f3 : ¬ (m : Int) = 0 := by omega
  have f4 : ((m : Int) == 0) = false := by simp; omega
  have k1 : decide ((q : Int) < 1) = false := decide_eq_false (by omega)
  have k2 : decide ((m : Int) < (q : Int)) = false := decide_eq_false (by omega)
  have k3 : decide ((p : Int) < 0) = false := decide_eq_false (by omega)
  have k4 : decide ((2000000000000 : Int) < (p : Int)) = false := decide_eq_false (by omega)
  have j1 : decide (q < 1) = false := decide_eq_false (by omega)
  have j2 : decide (m < q) = false := decide_eq_false (by omega)
  have j4 : decide (2000000000000 < p) = false := decide_eq_false (by omega)
  clear hA hB hC hS hK ho hu hm hs hN hX hT hgcd hclo hoq hr
  go_enter Try.func10, Try.ntmps10
  go_upto_region 1 with (fail)
  obtain ⟨W0, hW0⟩ : ∃ W0, W0 = (w.alloc (Obj.cells #[.int .u32 (a : Nat), .int .u32 (b : Nat), .int .u32 (c : Nat)] 58)).alloc (Obj.cells #[.int .u32 (d : Nat), .int .u32 (e : Nat)] 59) := ⟨_, rfl⟩
  rw [← hW0]
  have hC := W32.new w a b c d e
  rw [← hW0] at hC
  have hb0 : Hid (Below w.heap.size w W0) := by show Below _ _ _; rw [hW0]; exact below_al (below_al (Below.refl _ _) _) _
  obtain ⟨x0, x1, x2, y0, y1⟩ := hC
  have hC := Lib.hid (show W32 W0 w.heap.size (w.heap.size + 1) a b c d e from ⟨x0, x1, x2, y0, y1⟩)
  clear hW0
  go_quiet (fail)
  obtain ⟨W1, hW1⟩ : ∃ W1, W1 = W0.drewN nq := ⟨_, rfl⟩
  rw [← hW1]
  have hb1 : Hid (Below W0.heap.size W0 W1) := by show Below _ _ _; rw [hW1]; exact bdn (Below.refl _ _)
  clear hW1 x0 x1 x2 y0 y1
  go_upto_region 5 with (first
    | (go_at_call 26; (with_reducible refine (hnear.out _).mono ?_); rintro e1 w2 ⟨rfl, hb⟩; have hb2 := Lib.hid hb; clear hb)
    | (go_at_call 39; (refine (hg.out _).mono ?_); rintro e1 w3 ⟨rfl, hb⟩; have hb3 := Lib.hid hb; clear hb)
    | (go_at_call 23; (with_reducible refine (lives_any _).mono ?_); rintro e1 w4 ⟨rfl, hb⟩; have hb4 := Lib.hid hb; clear hb))
  have hb14 := Lib.hid (bseqT hb1.out (bseqT hb2.out (bseqT hb3.out hb4.out)))
  obtain ⟨z0, z1, z2, v0, v1⟩ := hC.out.up hb14.out
  clear hb1 hb2 hb3 hb4 z0 z1 z2
  go_upto_region 6 with (fail)
  go_quiet (fail)
  go_wp2_with (first
    | (go_at_call 40; (with_reducible refine (hcl.out _).mono ?_); rintro e1 w5 ⟨rfl, rfl⟩))
  go_ret
  exact ⟨rfl, bseqT hb0.out (bdn hb14.out)⟩
theorem cloLaw_any (a b c d e : Nat) (w : World) (ha : a < 4294967296) (hb : b < 4294967296) (hc : c < 4294967296) (hd : d < 4294967296) (he : e < 4294967296) :
    Calls Try.prog 10 #[.agg #[.int .u32 (a : Nat), .int .u32 (b : Nat), .int .u32 (c : Nat)], .agg #[.int .u32 (d : Nat), .int .u32 (e : Nat)]] w (RetB w true) := by
  obtain ⟨p, q, hN⟩ := nearI_ex (o := a % 1000000 + 1) (u := b % 1000000 + 1) (m := c % 1000000 + 1) (by omega)
  exact cloLaw_at a b c d e _ _ _ _ _ _ p q _ _ _ _ w ha hb hc hd he rfl rfl rfl rfl rfl rfl hN rfl rfl rfl rfl
end Go.Proofs.Ytbehfhmdilifkaa
