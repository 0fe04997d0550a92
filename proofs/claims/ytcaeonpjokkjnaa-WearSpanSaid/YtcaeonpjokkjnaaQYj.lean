/- Yj -/
import Derived.Test.YtcaeonpjokkjnaaQYi
import Derived.Test.YtcaeonpjokkjnaaQWn
import Derived.Test.YtcaeonpjokkjnaaQWr
set_option linter.unusedVariables false
/- Walk of the reference: Lives. -/
namespace Go.Proofs.Ytcaeonpjokkjnaa
open Go Go.RowKit Go.Proofs

theorem field_N (b : Bool) (a : Option Addr) (n c : Nat) (b' : Bool) (a' : Option Addr) (n' c' : Nat) (w : World) : (Instr.field 37 (.agg #[.bool b, .slice a n c, .bool b', .slice a' n' c']) 0).run Try.prog w = .ok (.agg #[.bool b, .slice a n c]) w := by kernel_rfl
theorem short_6 (s : ByteArray) (b : Bool) (w : World) (hs : s.size ≤ 4611686018427387904) (hb : shortOK s 6 = b) : Calls Try.prog 53 #[.string s, .int .i64 6] w (RetBool w b) := by subst hb; exact short_any s 6 w hs (by omega)
theorem sign_z (a1 : Option Addr) (c1 : Nat) (x z : Int) (w : World) (hz : sg x = z) :
    Calls Try.prog 25 #[.agg #[.bool (ng x), .slice a1 (LZ x) c1]] w (RetNum w z) := by subst hz; exact zsign_any a1 c1 x w
theorem cmpq_z (a : Option Addr) (c : Nat) (a' : Option Addr) (c' : Nat) (b : Option Addr) (d : Nat) (b' : Option Addr) (d' : Nat) (n1 d1 n2 d2 z : Int) (w : World) (hz : sg (n1 * d2 - n2 * d1) = z) (h1 : QM w a c a' c' n1 d1) (h2 : QM w b d b' d' n2 d2) (hp : SzQ n1 d1) (hq : SzQ n2 d2) :
    Calls Try.prog 12 #[.agg #[Value.bool (ng n1), Value.slice a (LZ n1) c, Value.bool (ng d1), Value.slice a' (LZ d1) c'], .agg #[Value.bool (ng n2), Value.slice b (LZ n2) d, Value.bool (ng d2), Value.slice b' (LZ d2) d']] w (RetNum w z) := by
  subst hz; exact cmpq_any a c a' c' b d b' d' n1 d1 n2 d2 w h1 h2 hp hq
theorem QM.kq {W w' : World} {a a' : Option Addr} {c c' : Nat} {n d : Int} (h : QM W a c a' c' n d) (hk : Kq W w') : QM w' a c a' c' n d := h.up hk.2
theorem sg_cases (x : Int) : sg x = -1 ∨ sg x = 0 ∨ sg x = 1 := by unfold sg; split <;> (try split) <;> simp

/-- A short text's number has short parts. -/
theorem parse_short {s : ByteArray} (h : parseOK s) (hs : s.size ≤ 40) : Short4 (parseQ s) := by
  obtain ⟨a, b⟩ := parse_small h hs
  have e : (rd (parseQ s)).natAbs = (parseQ s).den := by unfold rd; exact Int.natAbs_natCast _
  exact ⟨Nat.lt_of_le_of_lt a (p10_lt (by omega)), by rw [e]; exact Nat.lt_of_le_of_lt b (p10_lt (by omega))⟩
/-- What each of the lives must be. -/
def elOK (q : Rat) : Prop := 0 ≤ sg (rn q) ∧ fits q 6 = true

theorem pq_one {n d : Int} {q : Rat} {B : Nat} (h : PQ n d q B) : sg (n * rd 1 - rn 1 * d) = 0 ↔ rsg q 1 = 0 := by
  rw [rsg_zero]
  have h1 : rd 1 = 1 := rfl
  have h2 : rn 1 = 1 := rfl
  obtain ⟨hd, hq, _, _⟩ := h
  rw [h1, h2]
  have e : sg (n * 1 - 1 * d) = 0 ↔ n = d := by unfold sg; split <;> (try split) <;> omega
  rw [e, ← hq]
  constructor
  · rintro rfl
    have := (Rat.divInt_eq_divInt_iff (n₁ := n) (d₁ := n) (n₂ := 1) (d₂ := 1) (by omega) (by omega)).2 (by omega)
    rw [this]; rfl
  · intro h
    have h3 : Rat.divInt n d = Rat.divInt 1 1 := by rw [h]; rfl
    have := (Rat.divInt_eq_divInt_iff (by omega) (by omega)).1 h3
    omega

end Go.Proofs.Ytcaeonpjokkjnaa
