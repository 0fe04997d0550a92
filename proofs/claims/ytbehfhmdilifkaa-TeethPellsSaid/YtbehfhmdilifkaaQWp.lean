/- Yd -/
import Derived.Test.YtbehfhmdilifkaaQWo
import Derived.Test.YtbehfhmdilifkaaQWe
set_option linter.unusedVariables false
/- Walks of the reference's words: Is, Are. -/
namespace Go.Proofs.Ytbehfhmdilifkaa
open Go Go.RowKit Go.Proofs

/-- A fraction whose parts have at most 4000 digits. -/
def Short4 (q : Rat) : Prop := (rn q).natAbs < p10 4000 ∧ (rd q).natAbs < p10 4000
theorem Short4.sz {q : Rat} (h : Short4 q) : LZ (rn q) ≤ 1000000 ∧ LZ (rd q) ≤ 1000000 := by
  have h1 := LZ_small h.1
  have h2 := LZ_small h.2
  exact ⟨by omega, by omega⟩
theorem num_s (a : Option Addr) (c : Nat) (a' : Option Addr) (c' : Nat) (n d : Int) (q : Rat) (w : World) (h : QM w a c a' c' n d) (hs1 : LZ n ≤ 1000000) (hs2 : LZ d ≤ 1000000) (hd : 0 < d) (hq : Rat.divInt n d = q) (h4 : Short4 q) :
    Calls Try.prog 68 #[.agg #[.bool (ng n), .slice a (LZ n) c, .bool (ng d), .slice a' (LZ d) c']] w (RetNumQ w (nt q)) := num_q a c a' c' n d q w h hs1 hs2 hd hq h4.1 h4.2

set_option maxRecDepth 100000 in
set_option maxHeartbeats 1600000 in
theorem is_any (s : ByteArray) (a : Option Addr) (c : Nat) (a' : Option Addr) (c' : Nat) (n d : Int) (q : Rat) (w : World) (h : QM w a c a' c' n d) (hs1 : LZ n ≤ 1000000) (hs2 : LZ d ≤ 1000000) (hd : 0 < d) (hq : Rat.divInt n d = q) (h4 : Short4 q) :
    Calls Try.prog 33 #[.string s, .agg #[.bool (ng n), .slice a (LZ n) c, .bool (ng d), .slice a' (LZ d) c']] w (RetBool w (decide (s = nt q))) := by
  have hH := Lib.hid (h.up ((Below.refl w.heap.size w).alloc (Nat.le_refl _) (Obj.cells #[.bool (ng n), .slice a (LZ n) c, .bool (ng d), .slice a' (LZ d) c'] 50)))
  have hqH := Lib.hid hq
  have h4H := Lib.hid h4
  clear h hq h4
  obtain ⟨t, ht⟩ : ∃ t, t = nt q := ⟨_, rfl⟩
  have htH := Lib.hid ht
  rw [← ht]
  clear ht
  by_cases hst : s = t
  · have hres : Hid (decide (s = t) = true) := by show _ = _; exact decide_eq_true hst
    subst hst
    go_enter Try.func33, Try.ntmps33
    go_wp2_with (first
      | (go_at_call 68; go_loud (with_reducible refine (num_s a c a' c' n d q _ hH.out hs1 hs2 hd hqH.out h4H.out).mono ?_); rintro e w1 ⟨rfl, hb1⟩; rw [← htH.out]))
    go_ret
    exact ⟨by rw [hres.out]; rfl, bvia (Below.refl _ _) hb1⟩
  · have hres : Hid (decide (s = t) = false) := by show _ = _; exact decide_eq_false hst
    have hne := toList_ne_of hst
    clear hst
    go_enter Try.func33, Try.ntmps33
    go_wp2_with (first
      | (go_at_call 68; go_loud (with_reducible refine (num_s a c a' c' n d q _ hH.out hs1 hs2 hd hqH.out h4H.out).mono ?_); rintro e w1 ⟨rfl, hb1⟩; rw [← htH.out]))
    go_ret
    exact ⟨by rw [hres.out]; rfl, bvia (Below.refl _ _) hb1⟩

end Go.Proofs.Ytbehfhmdilifkaa
