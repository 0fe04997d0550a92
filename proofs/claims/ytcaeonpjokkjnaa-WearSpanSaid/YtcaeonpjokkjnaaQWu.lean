/- Few Light -/
import Derived.Test.YtcaeonpjokkjnaaQWn
import Derived.Test.YtcaeonpjokkjnaaQWl
set_option linter.unusedVariables false
/- Walks of the laws' own helpers: num, few. -/
namespace Go.Proofs.Ytcaeonpjokkjnaa
open Go Go.RowKit Go.Proofs

/-- A text cut to 40 bytes; the first texts, each cut. -/
def cut40 (s : ByteArray) : ByteArray := if s.size ≤ 40 then s else s.extract 0 40
def fewL (xs : List ByteArray) (n : Nat) : List ByteArray := (xs.take n).map cut40
theorem cut40_size (s : ByteArray) : (cut40 s).size ≤ 40 := by
  unfold cut40
  split
  · assumption
  · rw [ByteArray.size_extract]; omega

def RetTxt (w : World) (s : ByteArray) (e : Ending) (w' : World) : Prop := e = .returned (.string s) ∧ w' = w

theorem SV.lit0 (w : World) (base : Nat) (hb : base ≤ w.heap.size) : SV (w.alloc (.cells #[] 25)) base (.slice (some ⟨w.heap.size, 0, none⟩) 0 0) [] := by
  refine ⟨World.ownsRow_lit (base := base) (size := 1) (e := 25) w #[] 0 hb (by unfold maxLen; omega) rfl, fun g hg => ?_⟩
  simp [Value.ownBlock] at hg
  subst hg
  exact noInt_cells (heap_alloc_new w _) (fun u hu => by simp at hu)

theorem fewL_next (xs : List ByteArray) (n k : Nat) (s : ByteArray) (hk : k < n) (h : xs[k]? = some s) : (fewL xs n).take k ++ [cut40 s] = (fewL xs n).take (k + 1) := by
  rw [List.take_add_one]
  unfold fewL
  rw [List.getElem?_map, List.getElem?_take, if_pos hk, h]; rfl

def RetTxts (w : World) (ss : List ByteArray) (e : Ending) (w' : World) : Prop := ∃ ao c, e = .returned (.slice ao ss.length c) ∧ SV w' w.heap.size (.slice ao ss.length c) ss ∧ Below w.heap.size w w'

end Go.Proofs.Ytcaeonpjokkjnaa

/- Walks of the laws' own helpers: light. -/
namespace Go.Proofs.Ytcaeonpjokkjnaa
open Go Go.RowKit Go.Proofs

/-- Can the reference compute so many periods quickly? -/
def lightOne (s : ByteArray) (n : Int) : Prop := (8 < n → shortOK s 2 = true) ∧ (24 < n → shortOK s 1 = true)
instance (s : ByteArray) (n : Int) : Decidable (lightOne s n) := by unfold lightOne; exact inferInstance
def lightB (ss : List ByteArray) (n : Int) : Bool := decide (∀ s ∈ ss, lightOne s n)

theorem short_2 (s : ByteArray) (b : Bool) (w : World) (hs : s.size ≤ 4611686018427387904) (hb : shortOK s 2 = b) : Calls Try.prog 53 #[.string s, .int .i64 2] w (RetBool w b) := by subst hb; exact short_any s 2 w hs (by omega)
theorem short_1 (s : ByteArray) (b : Bool) (w : World) (hs : s.size ≤ 4611686018427387904) (hb : shortOK s 1 = b) : Calls Try.prog 53 #[.string s, .int .i64 1] w (RetBool w b) := by subst hb; exact short_any s 1 w hs (by omega)

end Go.Proofs.Ytcaeonpjokkjnaa
