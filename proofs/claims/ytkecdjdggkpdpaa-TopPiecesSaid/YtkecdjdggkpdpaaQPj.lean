/- Gs Gt -/
import Derived.Test.YtkecdjdggkpdpaaQGr
import Derived.Test.YtkecdjdggkpdpaaQPe
set_option linter.unusedVariables false
/- Walk of pairing. -/
namespace Go.Proofs.Ytkecdjdggkpdpaa
open Go Go.RowKit Go.Proofs

/-- The columns that were seen. -/
def seenL (n : Nat) (xs : List Int) : List Bool := (List.range n).map fun j : Nat => decide ((j : Int) ∈ xs)
theorem seen_len (n : Nat) (xs : List Int) : (seenL n xs).length = n := by simp [seenL]
theorem seen_nil (n : Nat) : seenL n [] = List.replicate n false := by
  unfold seenL
  refine List.ext_getElem? fun j => ?_
  rw [List.getElem?_map, List.getElem?_replicate]
  by_cases h : j < n
  · rw [List.getElem?_range h, if_pos h]; simp
  · rw [List.getElem?_eq_none (by simp; omega), if_neg h]; rfl
theorem seen_get {n j : Nat} {xs : List Int} (h : j < n) : (seenL n xs)[j]? = some (decide ((j : Int) ∈ xs)) := by
  unfold seenL
  rw [List.getElem?_map, List.getElem?_range h]; rfl
theorem seen_set {n j : Nat} {xs : List Int} (h : j < n) : (seenL n xs).set j true = seenL n (xs ++ [(j : Int)]) := by
  refine List.ext_getElem? fun i => ?_
  rw [List.getElem?_set, seen_len]
  by_cases hi : i < n
  · rw [seen_get hi, seen_get hi]
    by_cases hij : j = i
    · subst hij; simp [hi]
    · rw [if_neg hij]
      have : ¬ (i : Int) = (j : Int) := by omega
      simp [this]
  · rw [if_neg (show ¬ j = i by omega), List.getElem?_eq_none (by rw [seen_len]; omega), List.getElem?_eq_none (by rw [seen_len]; omega)]
/-- Is it a pairing? -/
def pairB (n : Nat) (xs : List Int) : Bool := decide (xs.length = n ∧ (∀ x ∈ xs, 0 ≤ x ∧ x < (n : Int)) ∧ xs.Nodup)
theorem pairB_pr {n : Nat} {xs : List Int} (h : pairB n xs = true) : ∃ p, xs = nz p ∧ Pr n p := by
  obtain ⟨h1, h2, h3⟩ := of_decide_eq_true h
  have e : xs = nz (xs.map Int.toNat) := by
    unfold nz
    rw [List.map_map]
    refine (List.map_id xs).symm.trans (List.map_congr_left fun x hx => ?_)
    have := h2 x hx
    simp; omega
  refine ⟨xs.map Int.toNat, e, by simp [h1], ?_, fun x hx => ?_⟩
  · rw [e] at h3
    unfold nz at h3
    exact (List.Pairwise.of_map _ (fun a b hab he => hab (by rw [he])) h3)
  · obtain ⟨y, hy, rfl⟩ := List.mem_map.1 hx
    have := h2 y hy
    omega
theorem pr_pairB {n : Nat} {p : List Nat} (h : Pr n p) : pairB n (nz p) = true := by
  refine decide_eq_true ⟨by rw [nz_length]; exact h.len, fun x hx => ?_, ?_⟩
  · unfold nz at hx
    obtain ⟨y, hy, rfl⟩ := List.mem_map.1 hx
    have := h.lt y hy
    omega
  · unfold nz
    exact h.nodup.map _ (fun a b hab he => hab (by omega))
theorem pairB_bad {n k : Nat} {xs : List Int} (hk : k < xs.length) (h : at0 xs k < 0 ∨ (n : Int) ≤ at0 xs k ∨ at0 xs k ∈ xs.take k) : pairB n xs = false := by
  refine decide_eq_false fun ⟨_, h2, h3⟩ => ?_
  have hm := List.mem_of_getElem? (at0_get hk)
  have h4 := h2 _ hm
  rcases h with h | h | h
  · omega
  · omega
  · obtain ⟨i, hi⟩ := List.mem_iff_getElem?.1 h
    rw [List.getElem?_take] at hi
    split at hi
    · rename_i hik
      have h5 := List.pairwise_iff_getElem.1 h3 i k (by omega) hk hik
      refine h5 ?_
      have e1 := at0_get hk
      rw [List.getElem?_eq_getElem hk] at e1
      rw [List.getElem?_eq_getElem (by omega : i < xs.length)] at hi
      injection e1 with e1
      injection hi with hi
      rw [e1, hi]
    · cases hi
end Go.Proofs.Ytkecdjdggkpdpaa

/- Walk of Rank. -/
namespace Go.Proofs.Ytkecdjdggkpdpaa
open Go Go.RowKit Go.Proofs

def RankPost (A : Nat → Nat → Bool) (n : Nat) (p : List Nat) (w : World) (e : Ending) (w' : World) : Prop :=
  Below w.heap.size w w' ∧ ((Ok A p ∧ ∃ r : Nat, (alwN A n)[r]? = some p ∧ e = .returned (.tuple #[.int .i64 (r : Nat), .int .i64 0])) ∨ (¬ Ok A p ∧ e = .returned (.tuple #[.int .i64 0, .int .i64 5])))
end Go.Proofs.Ytkecdjdggkpdpaa
