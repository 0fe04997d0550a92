/- Yf -/
import Derived.Test.YtbehfhmdilifkaaGreatQYe
import Derived.Test.YtbehfhmdilifkaaGreatQZq
set_option linter.unusedVariables false
/- Walks of the reference: Valid, Of. -/
namespace Go.Proofs.YtbehfhmdilifkaaGreat
open Go Go.RowKit Go.Proofs

def PGood (w : World) (q : Rat) (e : Ending) (w' : World) : Prop :=
  ∃ a c a' c', e = .returned (.tuple #[.agg #[.bool (ng (rn q)), .slice a (LZ (rn q)) c, .bool (ng (rd q)), .slice a' (LZ (rd q)) c'], .bool true]) ∧ QM w' a c a' c' (rn q) (rd q) ∧ Below w.heap.size w w'
def PBad (w : World) (e : Ending) (w' : World) : Prop := e = .returned (.tuple #[.agg #[.bool false, .slice none 0 0, .bool false, .slice none 0 0], .bool false]) ∧ Below w.heap.size w w'
theorem parser_good (s : ByteArray) (w : World) (hs : s.size ≤ 4611686018427387904) (h : parseOK s) :
    Calls Tryz.prog 33 #[.string s] w (PGood w (parseQ s)) := (parser_any s w hs).mono fun e w' h2 => by
  rcases h2 with ⟨_, ⟨a, c, a', c', h3, h4⟩, h5⟩ | ⟨h3, _⟩
  · exact ⟨a, c, a', c', h3, h4, h5⟩
  · exact absurd h h3
theorem parser_bad (s : ByteArray) (w : World) (hs : s.size ≤ 4611686018427387904) (h : ¬ parseOK s) :
    Calls Tryz.prog 33 #[.string s] w (PBad w) := (parser_any s w hs).mono fun e w' h2 => by
  rcases h2 with ⟨h3, _⟩ | ⟨_, h3⟩
  · exact absurd h3 h
  · exact h3

/-- Is the text a number's, as a Bool. -/
noncomputable def vok (s : ByteArray) : Bool := @decide (parseOK s) (Classical.propDecidable _)
theorem vok_true {s : ByteArray} (h : parseOK s) : vok s = true := by unfold vok; simp [h]
theorem vok_false {s : ByteArray} (h : ¬ parseOK s) : vok s = false := by unfold vok; simp [h]
theorem vok_iff {s : ByteArray} : vok s = true ↔ parseOK s := by unfold vok; simp

set_option maxRecDepth 100000 in
set_option maxHeartbeats 1600000 in
theorem valid_b (s : ByteArray) (b : Bool) (w : World) (hb : vok s = b) (hs : s.size ≤ 4611686018427387904) :
    Calls Tryz.prog 9 #[.string s] w (RetBool w b) := by
  have hbH := Lib.hid hb
  clear hb
  cases b with
  | true =>
    have hok := Lib.hid (vok_iff.1 hbH.out)
    go_enter Tryz.func9, Tryz.ntmps9
    go_wp2_with (first
      | (go_at_call 33; go_loud (with_reducible refine (parser_good s _ hs hok.out).mono ?_); rintro e w1 ⟨a, c, a', c', rfl, hm1, hb1⟩))
    go_ret
    exact ⟨rfl, hb1.alloc hb1.size _⟩
  | false =>
    have hok := Lib.hid (show ¬ parseOK s from fun h => by have := hbH.out; rw [vok_true h] at this; cases this)
    go_enter Tryz.func9, Tryz.ntmps9
    go_wp2_with (first
      | (go_at_call 33; go_loud (with_reducible refine (parser_bad s _ hs hok.out).mono ?_); rintro e w1 ⟨rfl, hb1⟩))
    go_ret
    exact ⟨rfl, hb1.alloc hb1.size _⟩

set_option maxRecDepth 100000 in
set_option maxHeartbeats 1600000 in
theorem of_any (s : ByteArray) (w : World) (h : parseOK s) (hs : s.size ≤ 4611686018427387904) :
    Calls Tryz.prog 10 #[.string s] w (RetQ w (rn (parseQ s)) (rd (parseQ s))) := by
  have hok := Lib.hid h
  obtain ⟨q, hq⟩ : ∃ q, q = parseQ s := ⟨_, rfl⟩
  have hqH := Lib.hid hq
  rw [← hq]
  clear h hq
  obtain ⟨W, hW⟩ : ∃ W, W = w.alloc (Obj.cells #[.bool false, .slice none 0 0, .bool false, .slice none 0 0] 36) := ⟨_, rfl⟩
  have HR : Hid (Rg w.heap.size 4 W W) := by rw [hW]; exact Rg.new4 _ _ _ rfl
  have hbW' : Below w.heap.size w W := by rw [hW]; go_grown
  have hbW := Lib.hid hbW'
  have hWH := Lib.hid hW
  clear hW hbW'
  go_enter Tryz.func10, Tryz.ntmps10
  go_wp2_with (first
    | (go_at_call 33; rw [← hWH.out]; go_loud (with_reducible refine (parser_good s _ hs hok.out).mono ?_); rintro e w1 ⟨a, c, a', c', rfl, hm1, hb1⟩; rw [← hqH.out] at hm1; rw [← hqH.out]; have hz : w.heap.size < w1.heap.size := (by have := HR.out.lt (by omega); have := hb1.size; omega); have r1 := Lib.hid (Rg.step HR.out (by omega) hb1).self; obtain ⟨_, t2, t3, t5, _⟩ := r1.out))
  refine bodyPost_ret (v := .agg #[.bool (ng (rn q)), .slice a (LZ (rn q)) c, .bool (ng (rd q)), .slice a' (LZ (rd q)) c']) (by simp [results, Tryz.results10, go_sem, t2, hz]) rfl ?_
  have hb := below_set4 (bseqZ hbW.out hb1) (Nat.le_refl w.heap.size) (.bool (ng (rn q))) (.slice a (LZ (rn q)) c) (.bool (ng (rd q))) (.slice a' (LZ (rd q)) c')
  exact ⟨a, c, a', c', rfl, QM.up ⟨hm1.1.set4 t5 _ _ _ _ _ _ _ _, hm1.2.set4 t5 _ _ _ _ _ _ _ _⟩ ((Below.refl _ _).alloc (Nat.le_refl _) _), hb.alloc hb.size _⟩

end Go.Proofs.YtbehfhmdilifkaaGreat
