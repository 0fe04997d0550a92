/- Us -/
import Derived.Test.YtkecdjdggkpdpaaQUq
import Derived.Test.YtkecdjdggkpdpaaQUg
import Derived.Test.YtkecdjdggkpdpaaQUi
set_option linter.unusedVariables false
/- Walk of PairEgervary. -/
namespace Go.Proofs.Ytkecdjdggkpdpaa
open Go Go.RowKit Go.Proofs

/-- A block begins with these numbers. -/
def ZP (w : World) (g : Nat) (xs : List Int) : Prop := ∃ t, Blk w g 3 ((xs.map fun x : Int => Value.int .i64 x) ++ t)
theorem ZP.of {w : World} {base g n c : Nat} {xs : List Int} (h : ZI w base (.slice (some ⟨g, 0, none⟩) n c) xs) (h0 : 0 < xs.length) : ZP w g xs := by
  rcases h.2 with ⟨h1, _⟩ | ⟨g', cap', cur, hv, _, hh, hn, _, _, ht⟩
  · cases h1
  · injection hv with h1 h2 h3
    injection h1 with h1
    injection h1 with h1 _
    subst h1
    rw [Nat.mul_one] at ht
    refine ⟨cur.toList.drop xs.length, ?_⟩
    unfold Blk
    rw [← ht, List.take_append_drop]
    simpa using hh
theorem ZP.at {w : World} {g : Nat} {xs : List Int} (h : ZP w g xs) {i : Nat} (hi : i < xs.length) : w.cell? ⟨g, i, none⟩ = some (.int .i64 (at0 xs i)) := by
  obtain ⟨t, ht⟩ := h
  rw [Blk.cell ht, List.getElem?_append_left (by simpa using hi), List.getElem?_map, at0_get hi]; rfl
theorem ZP.frozen {w : World} {g : Nat} {xs : List Int} (h : ZP w g xs) (i : Nat) : w.frozen? ⟨g, i, none⟩ = false := by
  obtain ⟨t, ht⟩ := h
  exact Blk.frozen ht i
theorem ZP.set {w : World} {g : Nat} {xs : List Int} (h : ZP w g xs) {i : Nat} (hi : i < xs.length) (x : Int) : ZP (w.setCell ⟨g, i, none⟩ (.int .i64 x)) g (xs.set i x) := by
  obtain ⟨t, ht⟩ := h
  refine ⟨t, ?_⟩
  have := Blk.set ht i (.int .i64 x)
  rw [List.set_append_left _ _ (by simpa using hi), ← List.map_set] at this
  exact this
theorem ZP.far {w : World} {g : Nat} {xs : List Int} (h : ZP w g xs) {p : Addr} (hp : g ≠ p.block) (u : Value) : ZP (w.setCell p u) g xs := by
  obtain ⟨t, ht⟩ := h
  exact ⟨t, Blk.far ht hp u⟩
theorem ZP.below {w w' : World} {g : Nat} {xs : List Int} (h : ZP w g xs) (hb : Below w.heap.size w w') : ZP w' g xs := by
  obtain ⟨t, ht⟩ := h
  exact ⟨t, Blk.later ht hb⟩
theorem ZP.lt {w : World} {g : Nat} {xs : List Int} (h : ZP w g xs) : g < w.heap.size := by
  obtain ⟨t, ht⟩ := h
  exact Blk.lt ht
theorem ZP.iz {w : World} {g : Nat} {xs : List Int} (h : ZP w g xs) : IZ w (some ⟨g, 0, none⟩) xs := fun i x hx => by
  have hi := (List.getElem?_eq_some_iff.1 hx).1
  refine ⟨g, 0, rfl, ?_⟩
  rw [Nat.zero_add, h.at hi, at0_of hx]
theorem ze_ownP {w : World} {base g n c : Nat} {xs : List Int} (h : ZE w base (.slice (some ⟨g, 0, none⟩) n c) xs) (h0 : 0 < xs.length) : ZP w g xs ∧ base ≤ g := by
  rcases h with h | ⟨h, _⟩
  · exact ⟨ZP.of h h0, (h.lt g rfl).1⟩
  · rw [h] at h0; simp at h0
theorem cheap_at (ao : Option Addr) (c n : Nat) (C : List (List Int)) (w : World) (h : IMx w ao C) (hg : goodC C) (hn : C.length = n) {p : List Nat} {v : Int} (hp : Best (byI (sumC C)) (allN n) p) (hv : sumC C p = v) :
    Calls Try.prog 6 #[.slice ao n c] w (fun e w' => ∃ g o c, e = .returned (.tuple #[.slice (some ⟨g, o, none⟩) n c, .int .i64 v, .int .i64 0]) ∧ n ≤ c ∧ IZ w' (some ⟨g, o, none⟩) (nz p) ∧ Below w.heap.size w w') :=
  (cheap_good ao c n C w h hg hn (fun W hW => prices_any ao c n C W hW hg hn)).mono fun e w' ⟨l, g, o, c, u, hB, hu, he, hc, hI, hb⟩ => by
    have e1 := hB.unique hp
    subst e1
    have e2 := hu.symm.trans hv
    subst e2
    exact ⟨g, o, c, he, hc, hI, hb⟩
theorem sum_bounds {l : List Int} (h : ∀ x ∈ l, 0 ≤ x ∧ x ≤ 1000) : 0 ≤ l.sum ∧ l.sum ≤ 1000 * (l.length : Int) := by
  induction l with
  | nil => simp
  | cons a l ih =>
    have h1 := h a (by simp)
    have h2 := ih fun x hx => h x (by simp [hx])
    rw [List.sum_cons, List.length_cons]
    omega
theorem sumC_in {C : List (List Int)} {n : Nat} {p : List Nat} (hg : goodC C) (hn : C.length = n) (hp : Pr n p) : 0 ≤ sumC C p ∧ sumC C p ≤ 8000 := by
  have hn8 : n ≤ 8 := by rw [← hn]; exact hg.2.1
  have h1 := sum_bounds (l := pcs C p) fun x hx => by
    obtain ⟨i, hi⟩ := List.mem_iff_getElem?.1 hx
    rw [pcs_get] at hi
    obtain ⟨j, hj, e⟩ := Option.map_eq_some_iff.1 hi
    have h1 := (List.getElem?_eq_some_iff.1 hj).1
    rw [hp.len] at h1
    have h2 := hp.lt j (List.mem_of_getElem? hj)
    rw [← e]
    exact ⟨hg.lo hn i j h1 h2, hg.hi hn i j h1 h2⟩
  rw [pcs_length, hp.len] at h1
  unfold sumC
  omega
/-- No prices prove more than the cheapest sum. -/
theorem provB_more {C : List (List Int)} {n : Nat} {R K : List Int} {p : List Nat} {v : Int} (hp : Pr n p) (hv : sumC C p = v) : provB C n R K (v + 1) = false := by
  refine decide_eq_false fun ⟨h1, h2⟩ => ?_
  have := (dual_le (C := C) (R := R) (K := K) (fun i j hi hj => h1 i hi j hj) hp).1
  rw [hv] at this
  omega
/-- Numbers within a bound. -/
def within (b : Int) (xs : List Int) : Prop := ∀ a, a < xs.length → -b ≤ at0 xs a ∧ at0 xs a ≤ b
theorem within.range {b : Int} {xs : List Int} {n : Nat} (h : within b xs) (hb : b ≤ 1000000000) (hl : xs.length = n) : rangeB xs n = true := decide_eq_true ⟨fun x hx => by
  obtain ⟨i, hi, rfl⟩ := at0_mem hx
  have := h i hi
  omega, hl⟩
theorem within.more {b c : Int} {xs : List Int} (h : within b xs) (hc : b ≤ c) : within c xs := fun a ha => by have := h a ha; omega
theorem within.set {b c : Int} {xs : List Int} (h : within b xs) (hc : b ≤ c) {i : Nat} {x : Int} (hi : i < xs.length) (hx : -c ≤ x ∧ x ≤ c) : within c (xs.set i x) := fun a ha => by
  rw [at0_set _ _ _ _ hi]
  split
  · exact hx
  · rw [List.length_set] at ha
    have := h a ha; omega
/-- The slice holds these small numbers. -/
def I8 (w : World) (ao : Option Addr) (xs : List Int) : Prop := ∀ (i : Nat) (x : Int), xs[i]? = some x → ∃ b o, ao = some ⟨b, o, none⟩ ∧ w.cell? ⟨b, o + i, none⟩ = some (.int .i8 x)
theorem I8.below {w w' : World} {ao : Option Addr} {xs : List Int} (h : I8 w ao xs) (hb : Below w.heap.size w w') : I8 w' ao xs := fun i x hx => by
  obtain ⟨b, o, ha, hc⟩ := h i x hx
  exact ⟨b, o, ha, Below.cellAt hb (Nat.le_refl _) hc⟩
/-- What the loop has in memory. -/
structure Two (w0 w : World) (gR gK : Nat) (R K : List Int) (k i : Nat) : Prop where
  below : Below w0.heap.size w0 w
  zR : ZP w gR R
  zK : ZP w gK K
  ne : gR ≠ gK
  lR : w0.heap.size ≤ gR
  lK : w0.heap.size ≤ gK
  nR : R.length = k
  nK : K.length = k
  bR : within (1000 + 128 * (i : Int)) R
  bK : within (1000 + 128 * (i : Int)) K
theorem Two.setR {w0 w : World} {gR gK : Nat} {R K : List Int} {k i a : Nat} {x : Int} (h : Two w0 w gR gK R K k i) (ha : a < k) (hx : -(1000 + 128 * ((i : Int) + 1)) ≤ x ∧ x ≤ 1000 + 128 * ((i : Int) + 1)) : Two w0 (w.setCell ⟨gR, a, none⟩ (.int .i64 x)) gR gK (R.set a x) K k (i + 1) :=
  ⟨h.below.setCell h.lR _, h.zR.set (by rw [h.nR]; exact ha) x, h.zK.far (Ne.symm h.ne) _, h.ne, h.lR, h.lK, by rw [List.length_set]; exact h.nR, h.nK, h.bR.set (by push_cast; omega) (by rw [h.nR]; exact ha) (by push_cast; exact hx), h.bK.more (by push_cast; omega)⟩
theorem Two.setK {w0 w : World} {gR gK : Nat} {R K : List Int} {k i a : Nat} {x : Int} (h : Two w0 w gR gK R K k i) (ha : a < k) (hx : -(1000 + 128 * ((i : Int) + 1)) ≤ x ∧ x ≤ 1000 + 128 * ((i : Int) + 1)) : Two w0 (w.setCell ⟨gK, a, none⟩ (.int .i64 x)) gR gK R (K.set a x) k (i + 1) :=
  ⟨h.below.setCell h.lK _, h.zR.far h.ne _, h.zK.set (by rw [h.nK]; exact ha) x, h.ne, h.lR, h.lK, h.nR, by rw [List.length_set]; exact h.nK, h.bR.more (by push_cast; omega), h.bK.set (by push_cast; omega) (by rw [h.nK]; exact ha) (by push_cast; exact hx)⟩
theorem Two.dr {w0 w : World} {gR gK : Nat} {R K : List Int} {k i : Nat} (h : Two w0 w gR gK R K k i) : Two w0 w.drew gR gK R K k i := ⟨Below.drew h.below, h.zR, h.zK, h.ne, h.lR, h.lK, h.nR, h.nK, h.bR, h.bK⟩
end Go.Proofs.Ytkecdjdggkpdpaa
