/- Jq Jr Jt -/
import Derived.Test.YtkecdjdggkpdpaaQPc
set_option linter.unusedVariables false
/- Walks of the reference's Sum, Falling. -/
namespace Go.Proofs.Ytkecdjdggkpdpaa
open Go Go.RowKit Go.Proofs

/-- Where a cost lies. -/
theorem IMx.cost {w : World} {ao : Option Addr} {C : List (List Int)} (h : IMx w ao C) (hg : goodC C) {n i j : Nat} (hn : C.length = n) (hi : i < n) (hj : j < n) :
    ∃ b o b2 o2 c, ao = some ⟨b, o, none⟩ ∧ w.cell? ⟨b, o + i, none⟩ = some (.slice (some ⟨b2, o2, none⟩) n c) ∧ n ≤ c ∧ w.cell? ⟨b2, o2 + j, none⟩ = some (.int .i64 (cst C i j)) ∧ 0 ≤ cst C i j ∧ cst C i j ≤ 1000 := by
  obtain ⟨xs, hxs⟩ : ∃ xs, C[i]? = some xs := ⟨_, List.getElem?_eq_getElem (by omega)⟩
  obtain ⟨b, o, a, c, h1, h2, h3, h4⟩ := h.row hxs
  obtain ⟨g1, g2⟩ := hg.2.2 xs (List.mem_of_getElem? hxs)
  rw [g1, hn] at h2 h3
  obtain ⟨b2, o2, rfl, h5⟩ := h4.at (i := j) (by omega)
  have e : cst C i j = at0 xs j := by unfold cst; rw [hxs]; rfl
  obtain ⟨g3, g4⟩ := g2 (at0 xs j) (mem_at0 (by omega) hj)
  exact ⟨b, o, b2, o2, c, h1, h2, h3, by rw [e]; exact h5, by rw [e]; exact g3, by rw [e]; exact g4⟩
theorem good_cst {C : List (List Int)} (hg : goodC C) {n i j : Nat} (hn : C.length = n) (hi : i < n) (hj : j < n) : 0 ≤ cst C i j ∧ cst C i j ≤ 1000 := by
  obtain ⟨xs, hxs⟩ : ∃ xs, C[i]? = some xs := ⟨_, List.getElem?_eq_getElem (by omega)⟩
  obtain ⟨g1, g2⟩ := hg.2.2 xs (List.mem_of_getElem? hxs)
  have e : cst C i j = at0 xs j := by unfold cst; rw [hxs]; rfl
  rw [e]
  exact g2 _ (mem_at0 (n := n) (by omega) hj)
theorem pr_take (C : List (List Int)) {p : List Nat} {k j : Nat} (h : p[k]? = some j) : pcs C (p.take (k + 1)) = pcs C (p.take k) ++ [cst C k j] := by
  have hk : k < p.length := (List.getElem?_eq_some_iff.1 h).1
  rw [List.getElem?_eq_getElem hk] at h
  injection h with h
  rw [List.take_succ_eq_append_getElem hk, pcs_snoc, h, List.length_take, Nat.min_eq_left (by omega)]

/-- The index of a pairing's pair. -/
theorem IZ.col {w : World} {ao : Option Addr} {p : List Nat} (h : IZ w ao (nz p)) {k j : Nat} (hj : p[k]? = some j) : ∃ b o, ao = some ⟨b, o, none⟩ ∧ w.cell? ⟨b, o + k, none⟩ = some (.int .i64 (j : Nat)) := h k _ (nz_get hj)

theorem bseqJ {w w1 w2 : World} (h : Below w.heap.size w w1) (hb : Below w1.heap.size w1 w2) : Below w.heap.size w w2 := h.trans (hb.mono h.size)
theorem insF_at {v : Int} {F : List Int} {m : Nat} (h1 : ∀ x ∈ F.take m, v ≤ x) (h2 : F.length ≤ m ∨ at0 F m < v) : insF v F = F.take m ++ [v] ++ F.drop m := by
  induction F generalizing m with
  | nil => simp [insF]
  | cons a F ih =>
    rcases m with _ | m
    · have : ¬ v ≤ a := by
        rcases h2 with h2 | h2
        · simp at h2
        · have e : at0 (a :: F) 0 = a := rfl
          rw [e] at h2; omega
      unfold insF
      rw [List.takeWhile_cons_of_neg (by simpa using this), List.dropWhile_cons_of_neg (by simpa using this)]
      rfl
    · have ha : v ≤ a := h1 a (by simp)
      have hi := ih (m := m) (fun x hx => h1 x (by simp [hx])) (by
        rcases h2 with h2 | h2
        · left; simpa using h2
        · exact .inr h2)
      unfold insF at hi ⊢
      rw [List.takeWhile_cons_of_pos (by simpa using ha), List.dropWhile_cons_of_pos (by simpa using ha), List.cons_append, hi]
      simp
end Go.Proofs.Ytkecdjdggkpdpaa

/- Walk of the reference's All. -/
namespace Go.Proofs.Ytkecdjdggkpdpaa
open Go Go.RowKit Go.Proofs

theorem allU_le {n m : Nat} (ih : ∀ f, (allP n m f).length ≤ n ^ m) (f : List Nat) (k : Nat) : (allU n m f k).length ≤ k * n ^ m := by
  induction k with
  | zero => rw [allU_zero]; exact Nat.zero_le _
  | succ k ihk =>
    rw [Nat.succ_mul]
    by_cases h : k ∈ f
    · rw [allU_skip _ _ _ _ h]; omega
    · rw [allU_take _ _ _ _ h, List.length_append]
      have := ih (f ++ [k]); omega
theorem allP_le (n : Nat) : ∀ m f, (allP n m f).length ≤ n ^ m := by
  intro m
  induction m with
  | zero => intro f; simp [allP]
  | succ m ih =>
    intro f
    rw [allP_succ, Nat.pow_succ, Nat.mul_comm]
    exact allU_le ih f n
theorem pow_small {n m : Nat} (hn : n ≤ 8) (hm : m ≤ 8) : n ^ m ≤ 16777216 := by
  have h1 : n ^ m ≤ 8 ^ m := Nat.pow_le_pow_left hn m
  have h2 : 8 ^ m ≤ 8 ^ 8 := Nat.pow_le_pow_right (by omega) hm
  omega
theorem allU_small {n m : Nat} (f : List Nat) {k : Nat} (hn : n ≤ 8) (hm : m ≤ 8) (hk : k ≤ n) : (allU n m f k).length ≤ 134217728 := by
  have h1 := allU_le (allP_le n m) f k
  have h2 := pow_small hn hm
  have h3 : k * n ^ m ≤ 8 * 16777216 := Nat.mul_le_mul (by omega) h2
  omega
theorem allP_pos (n : Nat) : ∀ m f, f.length + m = n → 0 < (allP n m f).length := by
  intro m
  induction m with
  | zero => intro f _; simp [allP]
  | succ m ih =>
    intro f hl
    obtain ⟨j, hj, hjf⟩ : ∃ j, j < n ∧ j ∉ f := by
      refine Classical.byContradiction fun hno => ?_
      have hs : List.range n ⊆ f := fun x hx => by
        refine Classical.byContradiction fun hnot => hno ⟨x, List.mem_range.1 hx, hnot⟩
      have := List.nodup_range.length_le_of_subset hs
      rw [List.length_range] at this
      omega
    have h1 := ih (f ++ [j]) (by simp; omega)
    obtain ⟨p, hp⟩ := List.exists_mem_of_length_pos h1
    refine List.length_pos_of_mem (a := p) ?_
    simp only [allP, List.mem_flatMap, List.mem_filter, List.mem_range, Bool.not_eq_true', List.contains_eq_mem, decide_eq_false_iff_not]
    exact ⟨j, ⟨hj, hjf⟩, hp⟩
/-- The rows of pairings. -/
def rowsP (L : List (List Nat)) : List (List Int) := L.map nz
theorem rowsP_append (L M : List (List Nat)) : rowsP L ++ rowsP M = rowsP (L ++ M) := by simp [rowsP]
theorem rowsP_length (L : List (List Nat)) : (rowsP L).length = L.length := by simp [rowsP]
theorem hasB_nz (f : List Nat) (k : Nat) : hasB (nz f) (k : Int) = decide (k ∈ f) := by unfold hasB; exact decide_eq_decide.2 mem_nz
theorem RetM.out {w : World} {C : List (List Int)} {e : Ending} {w' : World} (h : RetM w C e w') {n : Nat} (hn : C.length = n) : ∃ a c, e = .returned (.slice a n c) ∧ IMx w' a C ∧ n ≤ c ∧ Below w.heap.size w w' := by
  subst hn; exact h
end Go.Proofs.Ytkecdjdggkpdpaa

/- Walks of the reference's Worst, Cheapest, Even. (Printed by gen_best.py.) -/
namespace Go.Proofs.Ytkecdjdggkpdpaa
open Go Go.RowKit Go.Proofs

def RetZI (w : World) (xs : List Int) (z : Int) (e : Ending) (w' : World) : Prop := ∃ a c, e = .returned (.tuple #[.slice a xs.length c, .int .i64 z]) ∧ IZ w' a xs ∧ xs.length ≤ c ∧ Below w.heap.size w w'
/-- The best one so far, and its measure. -/
def BestI (m : List Nat → Int) (n : Nat) (L : List (List Nat)) (wr : World) (bv : Value) (z : Int) : Prop :=
  (L = [] ∧ bv = .slice none 0 0 ∧ z = 0) ∨ ∃ (p : List Nat) (g o c : Nat), bv = .slice (some ⟨g, o, none⟩) n c ∧ n ≤ c ∧ IZ wr (some ⟨g, o, none⟩) (nz p) ∧ Best (byI m) L p ∧ m p = z
theorem BestI.below {m : List Nat → Int} {n : Nat} {L : List (List Nat)} {wr w' : World} {bv : Value} {z : Int} (h : BestI m n L wr bv z) (hb : Below wr.heap.size wr w') : BestI m n L w' bv z := by
  rcases h with h | ⟨p, g, o, c, h1, h2, h3, h4⟩
  · exact .inl h
  · exact .inr ⟨p, g, o, c, h1, h2, h3.below hb, h4⟩
theorem take_last {α : Type} {L : List α} {k : Nat} {q : α} (h : L[k]? = some q) : L.take (k + 1) = L.take k ++ [q] := by
  have hk : k < L.length := (List.getElem?_eq_some_iff.1 h).1
  rw [List.take_succ_eq_append_getElem hk]
  rw [List.getElem?_eq_getElem hk] at h
  injection h with h
  rw [h]
theorem sorted_take {L : List (List Nat)} (h : L.Pairwise (· < ·)) {k : Nat} {q : List Nat} (hq : L[k]? = some q) : (L.take k ++ [q]).Pairwise (· < ·) := by
  rw [← take_last hq]; exact h.sublist (List.take_sublist ..)
theorem BestI.first {m : List Nat → Int} {n : Nat} {L : List (List Nat)} {wr : World} {q : List Nat} {z : Int} {a c : Nat} {o : Nat} (hL : L = []) (hq : m q = z) (hc : n ≤ c) (hI : IZ wr (some ⟨a, o, none⟩) (nz q)) : BestI m n (L ++ [q]) wr (.slice (some ⟨a, o, none⟩) n c) z := by
  subst hL
  exact .inr ⟨q, a, o, c, rfl, hc, hI, Best.one _ _ (fun h => Int.lt_irrefl _ h), hq⟩
theorem BestI.win {m : List Nat → Int} {n : Nat} {L : List (List Nat)} {wr : World} {p q : List Nat} {z : Int} {a c : Nat} {o : Nat} (hp : Best (byI m) L p) (hq : m q = z) (hlt : z < m p) (hc : n ≤ c) (hI : IZ wr (some ⟨a, o, none⟩) (nz q)) : BestI m n (L ++ [q]) wr (.slice (some ⟨a, o, none⟩) n c) z :=
  .inr ⟨q, a, o, c, rfl, hc, hI, hp.better (show m q < m p by omega) (fun a b c h1 h2 => Int.lt_trans h1 h2) (fun a h => Int.lt_irrefl _ h) (fun a b c h1 h2 => by unfold byI at *; omega), hq⟩
theorem row_nz {w : World} {ao : Option Addr} {L : List (List Nat)} (h : IMx w ao (rowsP L)) {k n : Nat} {q : List Nat} (hq : L[k]? = some q) (hn : q.length = n) (h0 : 0 < n) : ∃ b o g o2 c, ao = some ⟨b, o, none⟩ ∧ w.cell? ⟨b, o + k, none⟩ = some (.slice (some ⟨g, o2, none⟩) n c) ∧ n ≤ c ∧ IZ w (some ⟨g, o2, none⟩) (nz q) := by
  obtain ⟨b, o, a, c, h1, h2, h3, h4⟩ := h.row (i := k) (xs := nz q) (by unfold rowsP; rw [List.getElem?_map, hq]; rfl)
  rw [nz_length, hn] at h2 h3
  obtain ⟨g, o2, rfl, _⟩ := h4.at (i := 0) (by rw [nz_length]; omega)
  exact ⟨b, o, g, o2, c, h1, h2, h3, h4⟩
def mxP (C : List (List Int)) (p : List Nat) : Int := mxL (pcs C p)

end Go.Proofs.Ytkecdjdggkpdpaa
