/- Wc -/
import Derived.Test.YteiipfajoikfpaaQWb
import Derived.Test.YteiipfajoikfpaaQPf
set_option linter.unusedVariables false
/- Walk of the program's Most. -/
namespace Go.Proofs.Yteiipfajoikfpaa
open Go Go.RowKit Go.Proofs Go.Sort

theorem containsZ_any (ao : Option Addr) (c n : Nat) (xs : List Int) (x : Int) (b : Bool) (w : World) (h : IZ w ao xs) (hn : xs.length = n) (hm : n ≤ 9223372036854775807) (hb : decide (x ∈ xs) = b) :
    Calls Try.prog 65 #[.slice ao n c, .int .i64 x] w (fun e w' => e = .returned (.bool b) ∧ w = w') := by
  subst hn
  rcases xs with _ | ⟨y, ys⟩
  · refine (Try.slices_Contains_int_empty ao c x w).mono fun e w' ⟨h1, h2⟩ => ⟨?_, h2.symm⟩
    rw [h1, ← hb]; simp
  · obtain ⟨bb, oo, rfl, _⟩ := h.at (i := 0) (by simp)
    refine (Try.slices_Contains_int bb oo (y :: ys).length c (y :: ys) x w (Nat.le_refl _) hm (fun j hj => ?_)).mono fun e w' ⟨h1, h2⟩ => ⟨?_, h2.symm⟩
    · obtain ⟨b2, o2, e, hc⟩ := h.at hj
      injection e with e
      injection e with e1 e2
      subst e1 e2
      rw [hc]
      unfold at0
      rw [List.getD_eq_getElem?_getD]
    · rw [h1, ← hb, List.take_length]
      congr 2
      rw [Bool.eq_iff_iff]; simp
theorem sort_own2 (g N c base : Nat) (zs : List Int) (w : World) (h : ZI w base (.slice (some ⟨g, 0, none⟩) N c) zs) (hN : zs.length = N) (hs : N ≤ 1000) (B : Nat) (hB : B ≤ base) (hBw : B ≤ w.heap.size) :
    Calls Try.prog 66 #[.slice (some ⟨g, 0, none⟩) N c] w (fun e w' => e = .returned (.tuple #[]) ∧ ZI w' base (.slice (some ⟨g, 0, none⟩) N c) (zs.mergeSort fun x y => decide (x ≤ y)) ∧ Below B w w' ∧ ∀ b o v, b ≠ g → w.cell? ⟨b, o, none⟩ = some v → w'.cell? ⟨b, o, none⟩ = some v) := by
  subst hN
  obtain ⟨h1, h2⟩ := h.holds
  refine (Try.slices_Sort_int g 0 c zs w h1 h2 (by omega)).mono fun e w' ⟨he, n, os, hw⟩ => ?_
  subst hw
  obtain ⟨h3, h4⟩ := h.put (zs.mergeSort fun x y => decide (x ≤ y)) (List.length_mergeSort ..) n os B hB hBw
  refine ⟨he, h3, h4, fun b o v hne hc => ?_⟩
  have hlt : b < w.heap.size := World.block_lt_of_cell? w ⟨b, o, none⟩ hc
  rw [World.cell?_of_block (w := w) (a := ⟨b, o, none⟩)]
  · exact hc
  · show (grow (putRow (Value.int .i64) (Sort.ahead w n) g 0 _) os).heap[b]? = w.heap[b]?
    rw [heap_grow_old _ _ (by simp [putRow, mapBlock, Sort.ahead]; omega)]
    simp only [putRow, mapBlock, Array.getElem?_modify]
    rw [if_neg (fun e => hne e.symm)]
    rfl
/-- Two own lists apart from each other. -/
structure TwoL (w : World) (base : Nat) (v1 : Value) (xs : List Int) (v2 : Value) (ys : List Int) : Prop where
  z1 : ZI w base v1 xs
  z2 : ZI w base v2 ys
  ne : ∀ g, v1.ownBlock = some g → v2.ownBlock ≠ some g
theorem TwoL.below {w w' : World} {base : Nat} {v1 v2 : Value} {xs ys : List Int} (h : TwoL w base v1 xs v2 ys) (hb : Below w.heap.size w w') : TwoL w' base v1 xs v2 ys := ⟨h.z1.below hb, h.z2.below hb, h.ne⟩
theorem ZI.apart {w w' : World} {base : Nat} {v v2 : Value} {xs : List Int} (h : ZI w base v xs) (hg : w.grownBy w' v2.ownBlock) (hne : ∀ g, v.ownBlock = some g → v2.ownBlock ≠ some g) : ZI w' base v xs := by
  refine ⟨h.1, ?_⟩
  rcases h.2 with h' | ⟨g', cap', cur, hv, h1, hh, h2⟩
  · exact .inl h'
  · refine .inr ⟨g', cap', cur, hv, h1, ?_, h2⟩
    rw [hg.block g' (Array.getElem?_eq_some_iff.1 hh).1 (fun e => hne g' (by rw [hv]; rfl) e.symm)]
    exact hh
theorem TwoL.put2 {w w' : World} {base : Nat} {v1 v2 v' : Value} {xs ys zs : List Int} (h : TwoL w base v1 xs v2 ys) (hz : ZI w' base v' zs) (hg : w.grownBy w' v2.ownBlock) (ho : v'.ownBlock = v2.ownBlock ∨ v'.ownBlock = some w.heap.size) : TwoL w' base v1 xs v' zs := by
  refine ⟨h.z1.apart hg h.ne, hz, fun g hg1 e => ?_⟩
  rcases ho with h1 | h1
  · exact h.ne g hg1 (by rw [← h1]; exact e)
  · rw [h1] at e
    injection e with e
    have := (h.z1.lt g hg1).2
    omega
theorem TwoL.put1 {w w' : World} {base : Nat} {v1 v2 v' : Value} {xs ys zs : List Int} (h : TwoL w base v1 xs v2 ys) (hz : ZI w' base v' zs) (hg : w.grownBy w' v1.ownBlock) (ho : v'.ownBlock = v1.ownBlock ∨ v'.ownBlock = some w.heap.size) : TwoL w' base v' zs v2 ys := by
  refine ⟨hz, h.z2.apart hg (fun g h2 h1 => h.ne g h1 h2), fun g hg1 e => ?_⟩
  rcases ho with h1 | h1
  · exact h.ne g (by rw [← h1]; exact hg1) e
  · rw [h1] at hg1
    injection hg1 with hg1
    have := (h.z2.lt g e).2
    omega
def zeroR (r : List Int) (k : Nat) : List Nat := (List.range k).filter fun i => decide (r.count ((i : Nat) : Int) = 0)
theorem zeroR_yes {r : List Int} {k : Nat} (h : (k : Int) ∉ r) : zeroR r (k + 1) = zeroR r k ++ [k] := by
  unfold zeroR
  rw [List.range_succ, List.filter_append]
  simp [List.count_eq_zero_of_not_mem h]
theorem zeroR_no {r : List Int} {k : Nat} (h : (k : Int) ∈ r) : zeroR r (k + 1) = zeroR r k := by
  unfold zeroR
  rw [List.range_succ, List.filter_append]
  have : 0 < r.count (k : Int) := List.count_pos_iff.2 h
  rw [show ([k].filter fun i => decide (r.count ((i : Nat) : Int) = 0)) = [] by simp; omega, List.append_nil]
theorem zeroR_lt {r : List Int} {k i : Nat} (h : i ∈ zeroR r k) : i < k := List.mem_range.1 (List.mem_filter.1 h).1
theorem zeroR_len {r : List Int} {k : Nat} : (zeroR r k).length ≤ k := by
  have := List.length_filter_le (fun i => decide (r.count ((i : Nat) : Int) = 0)) (List.range k)
  rw [List.length_range] at this; exact this
theorem Rch.start (A : Nat → Nat → Bool) (n : Nat) (r : List Int) : Rch A n r (zeroR r n) [] := by
  refine ⟨List.Nodup.sublist List.filter_sublist List.nodup_range, fun i hi => zeroR_lt hi, by simp, fun j hj => (by cases hj), fun j hj => (by cases hj), fun i hi hc => ?_, fun i hi => .inl ?_, by simp [zeroR]⟩
  · unfold zeroR; rw [List.mem_filter, List.mem_range]; exact ⟨hi, by simpa using hc⟩
  · have := (List.mem_filter.1 hi).2
    simpa using this
def offR (rs : List Nat) (k : Nat) : List Nat := (List.range k).filter fun i => !rs.contains i
theorem offR_yes {rs : List Nat} {k : Nat} (h : k ∉ rs) : offR rs (k + 1) = offR rs k ++ [k] := by
  unfold offR
  rw [List.range_succ, List.filter_append]
  simp [h]
theorem offR_no {rs : List Nat} {k : Nat} (h : k ∈ rs) : offR rs (k + 1) = offR rs k := by
  unfold offR
  rw [List.range_succ, List.filter_append]
  simp [h]
theorem offR_len {rs : List Nat} {k : Nat} : (offR rs k).length ≤ k := by
  have := List.length_filter_le (fun i => !rs.contains i) (List.range k)
  rw [List.length_range] at this; exact this
theorem offR_asc (rs : List Nat) (n : Nat) : Asc n 0 (offR rs n) := by
  refine ⟨List.Pairwise.sublist List.filter_sublist List.pairwise_lt_range, fun x _ => Nat.zero_le x, fun x hx => ?_⟩
  exact List.mem_range.1 (List.mem_filter.1 hx).1
/-- A sorted copy of columns. -/
theorem sort_nz {cs : List Nat} {n : Nat} (hnd : cs.Nodup) (hlt : ∀ j ∈ cs, j < n) : ∃ ds : List Nat, (nz cs).mergeSort (fun x y => decide (x ≤ y)) = nz ds ∧ Asc n 0 ds ∧ ds.length = cs.length ∧ ∀ j, j ∈ ds ↔ j ∈ cs := by
  refine ⟨cs.mergeSort (fun x y => decide (x ≤ y)), ?_, ⟨?_, fun x _ => Nat.zero_le x, fun x hx => hlt x (List.mem_mergeSort.1 hx)⟩, List.length_mergeSort .., fun j => List.mem_mergeSort⟩
  · unfold nz
    rw [List.map_mergeSort (s := fun x y : Int => decide (x ≤ y))]
    intro a _ b _
    simp
  · have hs := List.pairwise_mergeSort (le := fun x y : Nat => decide (x ≤ y)) (fun a b c h1 h2 => by simp at *; omega) (fun a b => by simp; omega) cs
    have hn : (cs.mergeSort (fun x y => decide (x ≤ y))).Nodup := (List.mergeSort_perm cs _).nodup_iff.2 hnd
    refine (hs.and hn).imp fun hab => ?_
    have h1 := hab.1
    have h2 := hab.2
    simp at h1
    omega
end Go.Proofs.Yteiipfajoikfpaa
