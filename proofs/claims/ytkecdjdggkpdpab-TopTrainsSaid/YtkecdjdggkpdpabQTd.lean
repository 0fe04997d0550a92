/- Td Te Tf -/
import Derived.Test.YtkecdjdggkpdpabQTb
import Derived.Test.YtkecdjdggkpdpabQJs
import Derived.Shelf.RegionOpen
import Derived.RangeFuncCalls
import Derived.RangeFuncLeaves
set_option linter.unusedVariables false
/- Walk of in: all numbers of a list are 1 to some number. -/
namespace Go.Proofs.Ytkecdjdggkpdpab
open Go Go.RowKit Go.Proofs

theorem al_oldT {w : World} {o : Obj} {b i : Nat} (h : b < w.heap.size) : (w.alloc o).cell? ⟨b, i, none⟩ = w.cell? ⟨b, i, none⟩ := World.cell?_alloc_lt w (a := ⟨b, i, none⟩) (o := o) h
theorem al_newT {w : World} {c : Array Value} {t : TypeId} {b i : Nat} (h : b = w.heap.size) : (w.alloc (.cells c t)).cell? ⟨b, i, none⟩ = c[i]? := World.cell?_alloc_at c t b i h
theorem bseqT {w w1 w2 : World} (h : Below w.heap.size w w1) (hb : Below w1.heap.size w1 w2) : Below w.heap.size w w2 := h.trans (hb.mono h.size)
def ptrT (b : Nat) : Value := .pointer (some ⟨b, 0, none⟩)
def outB (most x : Int) : Bool := decide (x < 1) || decide (most < x)
theorem eg_in1 : ∀ args w, (callFunc 33 args).run Try.prog w = .ok (.enter 33 args) w := enters_of Try.func33 (by kernel_rfl) rfl
theorem in1_any (b : Nat) (most x : Int) (r : Bool) (w : World) (c : w.cell? ⟨b, 0, none⟩ = some (.int .i64 most)) (hr : outB most x = r) :
    Calls Try.prog 33 #[.int .i64 x, .pointer (some ⟨b, 0, none⟩)] w (fun e w' => e = .returned (.bool r) ∧ w = w') := by
  have hrH := Lib.hid hr
  clear hr
  by_cases h1 : x < 1
  · have d1 : decide (x < 1) = true := decide_eq_true h1
    have hr : Hid (true = r) := by show _ = _; rw [← hrH.out]; unfold outB; simp [h1]
    go_enter Try.func33, Try.ntmps33
    go_wp2_with (fail)
    go_ret
    exact ⟨retBo hr.out, rfl⟩
  · have d1 : decide (x < 1) = false := decide_eq_false h1
    by_cases h2 : most < x
    · have d2 : decide (most < x) = true := decide_eq_true h2
      have hr : Hid (true = r) := by show _ = _; rw [← hrH.out]; unfold outB; simp [h2]
      go_enter Try.func33, Try.ntmps33
      go_wp2_with (fail)
      go_ret
      exact ⟨retBo hr.out, rfl⟩
    · have d2 : decide (most < x) = false := decide_eq_false h2
      have hr : Hid (false = r) := by show _ = _; rw [← hrH.out]; unfold outB; simp [h1, h2]
      go_enter Try.func33, Try.ntmps33
      go_wp2_with (fail)
      go_ret
      exact ⟨retBo hr.out, rfl⟩
def inL (most : Int) (xs : List Int) : Bool := !(xs.any (outB most))
theorem inL_iff {most : Int} {xs : List Int} : inL most xs = true ↔ ∀ x ∈ xs, 1 ≤ x ∧ x ≤ most := by
  unfold inL outB
  simp only [Bool.not_eq_true', List.any_eq_false, Bool.or_eq_true, decide_eq_true_eq, not_or]
  exact ⟨fun h x hx => by have := h x hx; omega, fun h x hx => by have := h x hx; omega⟩
set_option maxHeartbeats 800000 in
theorem inP_any (ao : Option Addr) (n c : Nat) (most : Int) (xs : List Int) (b : Bool) (w : World) (h : IZ w ao xs) (hn : xs.length = n) (hs : n ≤ 1000000) (hb : inL most xs = b) :
    Calls Try.prog 10 #[.int .i64 most, .slice ao n c] w (fun e w' => e = .returned (.bool b) ∧ Below w.heap.size w w') := by
  have hmf : ∀ (fn : Fn) (first cap : Array Value) (w : World), (Instr.makeFunc fn first cap).run Try.prog w = .ok (.func fn first cap) w := fun _ _ _ _ => rfl
  have hcf : Hid (∀ W, Below w.heap.size w W → W.cell? ⟨w.heap.size, 0, none⟩ = some (.int .i64 most) → Calls Try.prog 32 #[.slice ao n c, .func (.func 33) #[] #[.pointer (some ⟨w.heap.size, 0, none⟩)]] W (fun e w' => e = .returned (.bool (!b)) ∧ Below W.heap.size W w')) := by
    intro W hW hc
    have hp : PredAt Try.prog 33 #[.pointer (some ⟨w.heap.size, 0, none⟩)] (Value.int .i64) (outB most) W := fun W2 x hW2 =>
      (in1_any w.heap.size most x _ W2 (Below.cellAt hW2 (Nat.le_refl _) hc) rfl).mono fun e w' ⟨h1, h2⟩ => ⟨h1, 0, h2.symm⟩
    have hbb : xs.any (outB most) = !b := by rw [← hb]; unfold inL; simp
    rcases Nat.eq_zero_or_pos n with h0 | h0
    · subst h0
      have he := List.length_eq_zero_iff.1 hn
      subst he
      refine (Try.slices_ContainsFunc_empty (α := Int) ao c _ W).mono fun e w' ⟨h1, h2⟩ => ?_
      subst h2
      exact ⟨by rw [h1, ← hbb]; rfl, Below.refl _ _⟩
    · have hI := h.below hW
      obtain ⟨g, o, rfl, _⟩ := hI.at (i := 0) (by omega)
      refine (Try.slices_ContainsFunc (Value.int .i64) (outB most) 33 #[.pointer (some ⟨w.heap.size, 0, none⟩)] eg_in1 g o n c xs W hp (by omega) (by omega) (fun j hj => ?_)).mono fun e w' ⟨h1, q, h2⟩ => ?_
      · obtain ⟨b2, o2, e, hc2⟩ := hI.at hj
        injection e with e
        injection e with e1 e2
        subst e1 e2
        rw [hc2]
        unfold at0
        rw [getElem!_def]
        rfl
      · subst h2
        refine ⟨?_, bdn (Below.refl _ _)⟩
        rw [h1, List.take_of_length_le (by omega), hbb]
  clear h hn hs hb
  go_enter Try.func10, Try.ntmps10
  go_wp2_with (go_at_call 32; go_loud (with_reducible refine (hcf.out _ (below_al (Below.refl _ _) _) (al_newT rfl)).mono ?_); rintro e w1 ⟨rfl, hb1⟩; have hb1H := Lib.hid hb1; clear hb1)
  go_ret
  refine ⟨retBo ?_, bseqT (below_al (Below.refl _ _) _) hb1H.out⟩
  simp
end Go.Proofs.Ytkecdjdggkpdpab

/- Walks of terms and Terms: the iterator's numbers collected. -/
namespace Go.Proofs.Ytkecdjdggkpdpab
open Go Go.RowKit Go.Proofs Go.Maps Go.Sort Go.Shelf

/-- Where the blocks lie. -/
structure TN (w0 : World) (B1 Bs l D bo bu : Nat) : Prop where
  o0 : w0.heap.size ≤ bo
  u0 : w0.heap.size ≤ bu
  o1 : bo < B1
  u1 : bu < B1
  ne : bo ≠ bu
  s1 : B1 ≤ Bs
  l1 : B1 ≤ l
  d1 : B1 ≤ D
  sl : Bs ≠ l
  dl : D ≠ l
  ds : D ≠ Bs
/-- The world up to a block. -/
def cutW (W : World) (B : Nat) : World := { W with heap := W.heap.extract 0 B }
theorem cutW_size {W : World} {B : Nat} (h : B ≤ W.heap.size) : (cutW W B).heap.size = B := by simp [cutW]; omega
theorem cutW_heap {W : World} {B k : Nat} (h : B ≤ W.heap.size) (hk : k < B) : (cutW W B).heap[k]? = W.heap[k]? := by
  simp only [cutW]
  rw [Array.getElem?_extract]
  simp; omega
def muT (bu : Nat) (w : World) : Nat := match w.cell? ⟨bu, 0, none⟩ with | some (.int _ z) => z.toNat | _ => 0
end Go.Proofs.Ytkecdjdggkpdpab

/- Walks of slices.AppendSeq and slices.Collect over terms; of terms and Terms. -/
namespace Go.Proofs.Ytkecdjdggkpdpab
open Go Go.RowKit Go.Proofs Go.Maps Go.Sort Go.Shelf

/-- A list of naturals as ints. -/
def nzT (l : List Nat) : List Int := l.map fun x => ((x : Nat) : Int)
/-- Where terms' variables lie. -/
structure TB (w0 w : World) (bo bu a b : Nat) : Prop where
  bl : Below w0.heap.size w0 w
  o0 : w0.heap.size ≤ bo
  u0 : w0.heap.size ≤ bu
  o1 : bo < w.heap.size
  u1 : bu < w.heap.size
  ne : bo ≠ bu
  ho : w.heap[bo]? = some (.cells #[.int .i64 (a : Nat)] 3 (0, 0))
  hu : w.heap[bu]? = some (.cells #[.int .i64 (b : Nat)] 3 (0, 0))
def TermsP (a b : Nat) (w : World) (e : Ending) (w' : World) : Prop := ∃ g c, e = .returned (.tuple #[.slice (some ⟨g, 0, none⟩) (trm a b).length c, .int .i64 0]) ∧ (trm a b).length ≤ c ∧ IZ w' (some ⟨g, 0, none⟩) (nzT (trm a b)) ∧ Below w.heap.size w w'
theorem lit2T (w : World) (x y : Int) : IZ (w.alloc (Obj.cells #[.int .i64 x, .int .i64 y] 3)) (some ⟨w.heap.size, 0, none⟩) [x, y] := fun i z hz => by
  rcases i with _ | _ | i
  · simp at hz; subst hz; exact ⟨_, 0, rfl, by rw [al_newT rfl]; rfl⟩
  · simp at hz; subst hz; exact ⟨_, 0, rfl, by rw [al_newT rfl]; rfl⟩
  · simp at hz
end Go.Proofs.Ytkecdjdggkpdpab
