/- Zk -/
import Derived.Test.YtbehfhmdilifkaaGreatQZj
import Derived.Test.YtbehfhmdilifkaaGreatQZq
import Derived.Test.YtbehfhmdilifkaaGreatQWd
set_option linter.unusedVariables false
/- Walks of the reference's fractions: Lowest. -/
namespace Go.Proofs.YtbehfhmdilifkaaGreat
open Go Go.RowKit Go.Proofs

theorem Rg.viaZ {N n : Nat} {W w1 w2 : World} {o : Obj} (h : Rg N n W w1) (hn : 0 < n) (hb : Below (w1.alloc o).heap.size (w1.alloc o) w2) : Rg N n W w2 := Rg.step (Rg.step h hn ((Below.refl _ _).alloc (Nat.le_refl _) o)) hn hb

theorem sgn_div {n : Int} {g : Nat} (hg : 0 < g) (hd : g ∣ n.natAbs) : sgn (ng n) (n.natAbs / g) = n / (g : Int) := by
  obtain ⟨k, hk⟩ := hd
  rw [hk, Nat.mul_div_cancel_left _ hg]
  have hg' : (g : Int) ≠ 0 := by omega
  have hc : ((g * k : Nat) : Int) = (g : Int) * k := by simp
  by_cases hn : n < 0
  · have e : n = (g : Int) * (-(k : Int)) := by rw [Int.mul_neg, ← hc]; omega
    rw [show ng n = true by simp [ng, hn]]
    rw [e, Int.mul_ediv_cancel_left _ hg']; rfl
  · have e : n = (g : Int) * (k : Int) := by rw [← hc]; omega
    rw [show ng n = false by simp [ng, hn]]
    rw [e, Int.mul_ediv_cancel_left _ hg']; rfl

theorem divmod_ex (a1 a2 : Option Addr) (c1 c2 : Nat) (n : Int) (g : Nat) (w : World) (h1 : ZM w a1 c1 n) (h2 : MagZ w a2 c2 g) (hb1 : LZ n ≤ 1000000) (hb2 : L B4 g ≤ 1000000) (hg : 0 < g) (hd : g ∣ n.natAbs) :
    Calls Tryz.prog 99 #[.agg #[.bool (ng n), .slice a1 (LZ n) c1], .agg #[.bool false, .slice a2 (L B4 g) c2]] w (RetTwoZ w (n / (g : Int)) (rZ n.natAbs g)) := by
  have := divmod_s (ng n) a1 a2 c1 c2 n.natAbs g w h1 h2 hb1 hb2 hg (fun _ => Nat.mod_eq_zero_of_dvd hd)
  rw [sgn_div hg hd] at this
  exact this

/-- The common divisor, kept from the walk. -/
def gnd (n d : Int) : Nat := Nat.gcd n.natAbs d.natAbs
def nlow (n d : Int) : Int := n / (gnd n d : Int)
def dlow (n d : Int) : Int := d / (gnd n d : Int)
theorem gnd_pos (n : Int) {d : Int} (hd : 0 < d) : 0 < gnd n d := Nat.gcd_pos_of_pos_right _ (by omega)
theorem nlow_eq (n : Int) {d : Int} (hd : 0 < d) : nlow n d = rn (Rat.divInt n d) := (rn_divInt hd).symm
theorem dlow_eq (n : Int) {d : Int} (hd : 0 < d) : dlow n d = rd (Rat.divInt n d) := (rd_divInt hd).symm

theorem divmod_n (a1 a2 : Option Addr) (c1 c2 : Nat) (n d : Int) (w : World) (h1 : ZM w a1 c1 n) (h2 : MagZ w a2 c2 (gnd n d)) (hb1 : LZ n ≤ 1000000) (hb2 : L B4 (gnd n d) ≤ 1000000) (hg : 0 < gnd n d) :
    Calls Tryz.prog 99 #[.agg #[.bool (ng n), .slice a1 (LZ n) c1], .agg #[.bool false, .slice a2 (L B4 (gnd n d)) c2]] w (RetTwoZ w (nlow n d) (rZ n.natAbs (gnd n d))) := divmod_ex a1 a2 c1 c2 n (gnd n d) w h1 h2 hb1 hb2 hg (Nat.gcd_dvd_left _ _)
theorem divmod_d (a1 a2 : Option Addr) (c1 c2 : Nat) (n d : Int) (w : World) (h1 : ZM w a1 c1 d) (h2 : MagZ w a2 c2 (gnd n d)) (hb1 : LZ d ≤ 1000000) (hb2 : L B4 (gnd n d) ≤ 1000000) (hg : 0 < gnd n d) :
    Calls Tryz.prog 99 #[.agg #[.bool (ng d), .slice a1 (LZ d) c1], .agg #[.bool false, .slice a2 (L B4 (gnd n d)) c2]] w (RetTwoZ w (dlow n d) (rZ d.natAbs (gnd n d))) := divmod_ex a1 a2 c1 c2 d (gnd n d) w h1 h2 hb1 hb2 hg (Nat.gcd_dvd_right _ _)

end Go.Proofs.YtbehfhmdilifkaaGreat
