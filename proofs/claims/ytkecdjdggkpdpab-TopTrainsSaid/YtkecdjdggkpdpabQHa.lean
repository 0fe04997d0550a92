/- Ha -/
import Derived.Test.YtkecdjdggkpdpabQTa
import Derived.Test.YtkecdjdggkpdpabQTd
import Derived.Test.YtkecdjdggkpdpabQWe
import Derived.Test.YtkecdjdggkpdpabQTj
import Derived.Shelf.Strings.Repeat
set_option linter.unusedVariables false
/- Walk of Beats. -/
namespace Go.Proofs.Ytkecdjdggkpdpab
open Go Go.RowKit Go.Proofs

/-- A row of bytes that may be written. -/
structure BB (W : World) (g : Nat) (xs : List Nat) : Prop where
  c : ∀ i x, xs[i]? = some x → W.cell? ⟨g, i, none⟩ = some (.int .u8 (x : Nat))
  f : ∀ i, i < xs.length → W.frozen? ⟨g, i, none⟩ = false
theorem BB.set {W : World} {g i x : Nat} {xs : List Nat} (h : BB W g xs) (hi : i < xs.length) : BB (W.setCell ⟨g, i, none⟩ (.int .u8 (x : Nat))) g (xs.set i x) := by
  refine ⟨fun k y hy => ?_, fun k hk => by rw [World.frozen?_setCell]; exact h.f k (by simpa using hk)⟩
  by_cases hki : i = k
  · subst hki
    rw [List.getElem?_set_self hi] at hy
    injection hy with hy
    subst hy
    exact World.cell?_setCell_same _ _ _ (h.c i _ (List.getElem?_eq_getElem hi))
  · rw [List.getElem?_set_ne hki] at hy
    rw [World.cell?_setCell_other _ _ _ _ (show (⟨g, i, none⟩ : Addr) ≠ ⟨g, k, none⟩ from fun e => hki (by injection e))]
    exact h.c k y hy
theorem BB.drew {W : World} {g : Nat} {xs : List Nat} (h : BB W g xs) : BB W.drew g xs := ⟨h.c, h.f⟩
theorem BB.below {W W' : World} {g : Nat} {xs : List Nat} (h : BB W g xs) (hg : g < W.heap.size) (hb : Below W.heap.size W W') : BB W' g xs := by
  have e : W'.heap[g]? = W.heap[g]? := hb.block g hg
  exact ⟨fun i x hx => by rw [World.cell?_of_block (w := W) (a := ⟨g, i, none⟩) e]; exact h.c i x hx, fun i hi => by rw [World.frozen?_of_block (w := W) (a := ⟨g, i, none⟩) e]; exact h.f i hi⟩
theorem BB.text {w : World} {g cap n : Nat} {xs : List Nat} (h : BB w g xs) (hl : xs.length = n) (hx : ∀ x ∈ xs, x < 256) :
    (convert 24 9 (.slice (some ⟨g, 0, none⟩) n cap)).run Try.prog w = .ok (.string ⟨(xs.map UInt8.ofNat).toArray⟩) w := by
  have := run_convert_bytes_back (P := Try.prog) w 24 9 5 ⟨g, 0, none⟩ cap (xs.map UInt8.ofNat) Try.underlying24 Try.underlying5 Try.underlying9 (fun j hj => by
    simp at hj
    rw [Addr.add_lit, Nat.zero_add, h.c j _ (List.getElem?_eq_getElem hj)]
    have := hx _ (List.getElem_mem hj)
    simp
    omega)
  rw [List.length_map, hl] at this
  exact this
/-- The world behind the bytes of a string. -/
def rowW (w : World) (s : ByteArray) : World := w.drew.alloc (.cells (bytesRow s (grownCap w s.size 0 5)) 5 ((bytesRow s (grownCap w s.size 0 5)).size, (bytesRow s (grownCap w s.size 0 5)).size + 1))
theorem rowW_run (w : World) (s : ByteArray) : (convert 9 24 (.string s)).run Try.prog w = .ok (.slice (some ⟨w.heap.size, 0, none⟩) s.size (grownCap w s.size 0 5)) (rowW w s) :=
  run_bytes_of_string w 9 24 5 s Try.underlying9 Try.underlying24 Try.underlying5
theorem rowW_below (w : World) (s : ByteArray) : Below w.heap.size w (rowW w s) := below_al (Below.drew (Below.refl _ _)) _
theorem rowW_bb (w : World) (s : ByteArray) : BB (rowW w s) w.heap.size (s.data.toList.map (·.toNat)) := by
  obtain ⟨R, hR⟩ : ∃ R, bytesRow s (grownCap w s.size 0 5) = R := ⟨_, rfl⟩
  have hRs : s.data.size ≤ R.size := by rw [← hR]; simp [bytesRow]
  have hRc : ∀ i (hi : i < s.data.size), R[i]? = some (.int .u8 (s.data[i].toNat : Nat)) := fun i hi => by
    rw [← hR]
    have hi2 : i < s.size := hi
    simp [bytesRow, Array.getElem?_append, hi2]
  have hb : (rowW w s).heap[w.heap.size]? = some (.cells R 5 (R.size, R.size + 1)) := by
    rw [← hR]
    exact World.alloc_heap_new w.drew _
  refine ⟨fun i x hx => ?_, fun i hi => ?_⟩
  · have hi : i < s.data.size := by
      have := (List.getElem?_eq_some_iff.1 hx).1
      simpa using this
    have hx2 : s.data[i].toNat = x := by
      rw [List.getElem?_map] at hx
      simp at hx
      obtain ⟨a, ha, he⟩ := hx
      rw [Array.getElem?_eq_getElem hi] at ha
      injection ha with ha
      rw [ha]; exact he
    rw [World.cell?]
    simp only [hb]
    rw [hRc i hi, hx2]
    simp
  · have hi' : i < s.data.size := by simpa using hi
    rw [World.frozen?]
    simp only [hb]
    simp
    omega
/-- n bytes 'a'. -/
theorem rep_bytes (n : Nat) : (ByteArray.mk (Lib.repeatL [97] n).toArray).data.toList.map (·.toNat) = List.replicate n 97 ∧ (ByteArray.mk (Lib.repeatL [97] n).toArray).size = n := by
  have h : Lib.repeatL [97] n = List.replicate n 97 := by
    have := Lib.repeatL_replicate 97 1 n
    rw [Nat.mul_one] at this
    exact this
  refine ⟨?_, ?_⟩
  · rw [h]; simp
  · show (Lib.repeatL [97] n).toArray.size = n
    rw [h]; simp
theorem pbL_lt (d n K : Nat) : ∀ x ∈ pbL d n K, x < 256 := fun x hx => by
  unfold pbL at hx
  obtain ⟨p, _, rfl⟩ := List.mem_map.1 hx
  split <;> omega
def btS (d n : Nat) : ByteArray := ⟨((btL d n).map UInt8.ofNat).toArray⟩
def BeatsPost (s : ByteArray) (er : Int) (w : World) (e : Ending) (w' : World) : Prop := e = .returned (.tuple #[.string s, .int .i64 er]) ∧ Below w.heap.size w w'
section
attribute [local go_sem] undef
end
end Go.Proofs.Ytkecdjdggkpdpab
