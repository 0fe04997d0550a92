/- Wg -/
import Derived.Test.YteiipfajoikfpaaQVd
import Derived.Test.YteiipfajoikfpaaQUs
set_option linter.unusedVariables false
/- Plain laws of PairMoved: a dearer row, two rows exchanged. -/
namespace Go.Proofs.Yteiipfajoikfpaa
open Go Go.RowKit Go.Proofs

/-- Two entries exchanged. -/
def swapL {α : Type} (L : List α) (i j : Nat) : List α := match L[i]?, L[j]? with | some a, some b => (L.set i b).set j a | _, _ => L
theorem swapL_eq {α : Type} {L : List α} {i j : Nat} {a b : α} (ha : L[i]? = some a) (hb : L[j]? = some b) : swapL L i j = (L.set i b).set j a := by
  unfold swapL; rw [ha, hb]
theorem swapL_perm {α : Type} {L : List α} {i j : Nat} (hi : i < L.length) (hj : j < L.length) : (swapL L i j).Perm L := by
  rw [swapL_eq (List.getElem?_eq_getElem hi) (List.getElem?_eq_getElem hj)]
  exact List.set_set_perm hi hj
theorem swapL_len {α : Type} {L : List α} {i j : Nat} (hi : i < L.length) (hj : j < L.length) : (swapL L i j).length = L.length := (swapL_perm hi hj).length_eq
/-- Which entry lies at a place now. -/
def sw (i j x : Nat) : Nat := if x = j then i else if x = i then j else x
theorem swapL_get {α : Type} {L : List α} {i j : Nat} (hi : i < L.length) (hj : j < L.length) (x : Nat) : (swapL L i j)[x]? = L[sw i j x]? := by
  rw [swapL_eq (List.getElem?_eq_getElem hi) (List.getElem?_eq_getElem hj), List.getElem?_set, List.length_set, List.getElem?_set]
  unfold sw
  by_cases h1 : x = j
  · subst h1; rw [if_pos rfl, if_pos rfl, if_pos hj, List.getElem?_eq_getElem hi]
  · rw [if_neg (fun e => h1 e.symm), if_neg h1]
    by_cases h2 : x = i
    · subst h2; rw [if_pos rfl, if_pos rfl, if_pos hi, List.getElem?_eq_getElem hj]
    · rw [if_neg (fun e => h2 e.symm), if_neg h2]
theorem Pr.swap {n : Nat} {p : List Nat} (h : Pr n p) {i j : Nat} (hi : i < n) (hj : j < n) : Pr n (swapL p i j) := by
  have hp := swapL_perm (L := p) (by rw [h.len]; exact hi) (by rw [h.len]; exact hj)
  exact ⟨hp.length_eq.trans h.len, hp.nodup_iff.2 h.nodup, fun x hx => h.lt x (hp.mem_iff.1 hx)⟩
theorem pcs_swap {C : List (List Int)} {n : Nat} {p : List Nat} (hn : C.length = n) (h : Pr n p) {i j : Nat} (hi : i < n) (hj : j < n) : pcs (swapL C i j) (swapL p i j) = swapL (pcs C p) i j := by
  refine List.ext_getElem? fun x => ?_
  have hpi : i < p.length := by rw [h.len]; exact hi
  have hpj : j < p.length := by rw [h.len]; exact hj
  rw [pcs_get, swapL_get hpi hpj, swapL_get (by rw [pcs_length]; exact hpi) (by rw [pcs_length]; exact hpj), pcs_get]
  unfold cst
  rw [swapL_get (by omega) (by omega)]
theorem mxL_perm {l m : List Int} (h : l.Perm m) : mxL l = mxL m := by
  by_cases e : l = []
  · subst e; rw [List.nil_perm.1 h]
  · have e2 : m ≠ [] := fun q => e (by rw [q] at h; exact List.perm_nil.1 h)
    have h1 := le_mxL (h.mem_iff.1 (mxL_mem e))
    have h2 := le_mxL (h.mem_iff.2 (mxL_mem e2))
    omega
theorem mnL_perm {l m : List Int} (h : l.Perm m) : mnL l = mnL m := by
  by_cases e : l = []
  · subst e; rw [List.nil_perm.1 h]
  · have e2 : m ≠ [] := fun q => e (by rw [q] at h; exact List.perm_nil.1 h)
    have h1 := mnL_le (h.mem_iff.1 (mnL_mem e))
    have h2 := mnL_le (h.mem_iff.2 (mnL_mem e2))
    omega
/-- Rows exchanged: any value of the set of costs stays the least. -/
theorem swap_least {C : List (List Int)} {n : Nat} (hn : C.length = n) {i j : Nat} (hi : i < n) (hj : j < n) {m : List (List Int) → List Nat → Int} (hm : ∀ p, Pr n p → m (swapL C i j) (swapL p i j) = m C p) (hm2 : ∀ p, Pr n p → m C (swapL p i j) = m (swapL C i j) p)
    {p q : List Nat} (hp : Best (byI (m C)) (allN n) p) (hq : Best (byI (m (swapL C i j))) (allN n) q) : m (swapL C i j) q = m C p := by
  have h1 := mem_allN.1 hp.mem
  have h2 := mem_allN.1 hq.mem
  have h3 := hq.low _ (mem_allN.2 (h1.swap hi hj))
  have h4 := hp.low _ (mem_allN.2 (h2.swap hi hj))
  unfold byI at h3 h4
  rw [hm p h1] at h3
  rw [hm2 q h2] at h4
  omega
theorem swapL_twice {α : Type} {L : List α} {i j : Nat} (hi : i < L.length) (hj : j < L.length) : swapL (swapL L i j) i j = L := by
  refine List.ext_getElem? fun x => ?_
  have hl := swapL_len hi hj
  rw [swapL_get (by omega) (by omega), swapL_get hi hj]
  congr 1
  unfold sw
  repeat' split
  all_goals omega
theorem pcs_swap2 {C : List (List Int)} {n : Nat} {p : List Nat} (hn : C.length = n) (h : Pr n p) {i j : Nat} (hi : i < n) (hj : j < n) : (pcs C (swapL p i j)).Perm (pcs (swapL C i j) p) := by
  have e := pcs_swap (C := swapL C i j) (p := p) ((swapL_len (by omega) (by omega)).trans hn) h hi hj
  rw [swapL_twice (by omega) (by omega)] at e
  rw [e]
  exact swapL_perm (by rw [pcs_length, h.len]; exact hi) (by rw [pcs_length, h.len]; exact hj)
theorem pcs_swap1 {C : List (List Int)} {n : Nat} {p : List Nat} (hn : C.length = n) (h : Pr n p) {i j : Nat} (hi : i < n) (hj : j < n) : (pcs (swapL C i j) (swapL p i j)).Perm (pcs C p) := by
  rw [pcs_swap hn h hi hj]
  exact swapL_perm (by rw [pcs_length, h.len]; exact hi) (by rw [pcs_length, h.len]; exact hj)
theorem swap_worst {C : List (List Int)} {n : Nat} (hn : C.length = n) {i j : Nat} (hi : i < n) (hj : j < n) {p q : List Nat} (hp : Best (byI (mxP C)) (allN n) p) (hq : Best (byI (mxP (swapL C i j))) (allN n) q) : mxP (swapL C i j) q = mxP C p :=
  swap_least (m := mxP) hn hi hj (fun p h => mxL_perm (pcs_swap1 hn h hi hj)) (fun p h => mxL_perm (pcs_swap2 hn h hi hj)) hp hq
theorem swap_spr {C : List (List Int)} {n : Nat} (hn : C.length = n) {i j : Nat} (hi : i < n) (hj : j < n) {p q : List Nat} (hp : Best (byI (spr C)) (allN n) p) (hq : Best (byI (spr (swapL C i j))) (allN n) q) : spr (swapL C i j) q = spr C p :=
  swap_least (m := spr) hn hi hj (fun p h => by unfold spr; rw [mxL_perm (pcs_swap1 hn h hi hj), mnL_perm (pcs_swap1 hn h hi hj)]) (fun p h => by unfold spr; rw [mxL_perm (pcs_swap2 hn h hi hj), mnL_perm (pcs_swap2 hn h hi hj)]) hp hq
theorem swap_good {C : List (List Int)} {n : Nat} (hg : goodC C) (hn : C.length = n) {i j : Nat} (hi : i < n) (hj : j < n) : goodC (swapL C i j) := by
  have hp := swapL_perm (L := C) (i := i) (j := j) (by omega) (by omega)
  refine ⟨by rw [hp.length_eq]; exact hg.1, by rw [hp.length_eq]; exact hg.2.1, fun xs hx => ?_⟩
  rw [hp.length_eq]
  exact hg.2.2 xs (hp.mem_iff.1 hx)
/-- A row that costs more throughout. -/
def addR (d : Int) (r : List Int) : List Int := r.map (· + d)
def dearL (C : List (List Int)) (i : Nat) (d : Int) : List (List Int) := C.mapIdx fun r row => if r = i then addR d row else row
theorem dearL_len (C : List (List Int)) (i : Nat) (d : Int) : (dearL C i d).length = C.length := by simp [dearL]
theorem dearL_get (C : List (List Int)) (i : Nat) (d : Int) (r : Nat) : (dearL C i d)[r]? = (C[r]?).map fun row => if r = i then addR d row else row := by unfold dearL; rw [List.getElem?_mapIdx]
theorem dear_cst {C : List (List Int)} {n : Nat} (hg : goodC C) (hn : C.length = n) (i : Nat) (d : Int) {a b : Nat} (ha : a < n) (hb : b < n) : cst (dearL C i d) a b = cst C a b + if a = i then d else 0 := by
  unfold cst
  rw [dearL_get, List.getElem?_eq_getElem (show a < C.length by omega)]
  have hl := ((hg.2.2 C[a] (List.getElem_mem _)).1).trans hn
  simp only [Option.map_some, Option.getD_some]
  by_cases h : a = i
  · rw [if_pos h, if_pos h]
    unfold addR
    refine at0_of ?_
    rw [List.getElem?_map, at0_get (by omega)]; rfl
  · rw [if_neg h, if_neg h]; omega
theorem sum_split (f : Nat → Int) (i : Nat) (d : Int) : ∀ n, ((List.range n).map fun a => f a + if a = i then d else 0).sum = ((List.range n).map f).sum + if i < n then d else 0 := by
  intro n
  induction n with
  | zero => simp
  | succ n ih =>
    rw [List.range_succ, List.map_append, List.map_append, List.sum_append, List.sum_append, ih]
    simp only [List.map_cons, List.map_nil, List.sum_cons, List.sum_nil]
    by_cases h1 : i < n
    · rw [if_pos h1, if_neg (by omega), if_pos (by omega)]; omega
    · by_cases h2 : n = i
      · rw [if_neg h1, if_pos h2, if_pos (by omega)]; omega
      · rw [if_neg h1, if_neg h2, if_neg (by omega)]; omega
theorem pcs_range {C : List (List Int)} {n : Nat} {p : List Nat} (h : Pr n p) : pcs C p = (List.range n).map fun a => cst C a (p.getD a 0) := by
  refine List.ext_getElem? fun x => ?_
  rw [pcs_get, List.getElem?_map]
  by_cases hx : x < n
  · rw [List.getElem?_range hx, List.getElem?_eq_getElem (show x < p.length by rw [h.len]; exact hx)]
    simp [List.getD, List.getElem?_eq_getElem (show x < p.length by rw [h.len]; exact hx)]
  · rw [List.getElem?_eq_none (show p.length ≤ x by rw [h.len]; omega), List.getElem?_eq_none (show (List.range n).length ≤ x by rw [List.length_range]; omega)]; rfl
theorem dear_sum {C : List (List Int)} {n : Nat} (hg : goodC C) (hn : C.length = n) {i : Nat} (hi : i < n) (d : Int) {p : List Nat} (h : Pr n p) : sumC (dearL C i d) p = sumC C p + d := by
  unfold sumC
  rw [pcs_range h, pcs_range h]
  have := sum_split (fun a => cst C a (p.getD a 0)) i d n
  rw [if_pos hi] at this
  rw [← this]
  refine congrArg List.sum (List.map_congr_left fun a ha => ?_)
  have ha := List.mem_range.1 ha
  refine dear_cst hg hn i d ha ?_
  have hp : a < p.length := by rw [h.len]; exact ha
  have : p.getD a 0 = p[a] := by simp [List.getD, List.getElem?_eq_getElem hp]
  rw [this]
  exact h.lt _ (List.getElem_mem _)
theorem dear_best {C : List (List Int)} {n : Nat} (hg : goodC C) (hn : C.length = n) {i : Nat} (hi : i < n) (d : Int) {p : List Nat} (hp : Best (byI (sumC C)) (allN n) p) : Best (byI (sumC (dearL C i d))) (allN n) p := by
  have key : ∀ q, q ∈ allN n → sumC (dearL C i d) q = sumC C q + d := fun q hq => dear_sum hg hn hi d (mem_allN.1 hq)
  refine ⟨hp.mem, fun q hq h => hp.low q hq ?_, fun q hq h => hp.first q hq fun h2 => h ?_⟩
  · unfold byI at *; rw [key q hq, key p hp.mem] at h; omega
  · unfold byI at *; rw [key q hq, key p hp.mem]; omega
theorem dear_good {C : List (List Int)} (hg : goodC C) (hm : ∀ r ∈ C, ∀ x ∈ r, x ≤ 60) (i : Nat) {d : Int} (h0 : 0 ≤ d) (h1 : d ≤ 255) : goodC (dearL C i d) := by
  refine ⟨by rw [dearL_len]; exact hg.1, by rw [dearL_len]; exact hg.2.1, fun xs hx => ?_⟩
  rw [dearL_len]
  obtain ⟨r, hr⟩ := List.mem_iff_getElem?.1 hx
  rw [dearL_get] at hr
  obtain ⟨row, hrow, e⟩ := Option.map_eq_some_iff.1 hr
  have hmem := List.mem_of_getElem? hrow
  obtain ⟨e1, e2⟩ := hg.2.2 row hmem
  have e3 := hm row hmem
  subst e
  split
  · refine ⟨by unfold addR; rw [List.length_map]; exact e1, fun x hx => ?_⟩
    obtain ⟨y, hy, rfl⟩ := List.mem_map.1 hx
    have := e2 y hy
    have := e3 y hy
    show 0 ≤ y + d ∧ y + d ≤ 1000
    omega
  · exact ⟨e1, e2⟩
theorem dear_next {C : List (List Int)} {i r : Nat} {d : Int} {row : List Int} (h : C[r]? = some row) : (dearL C i d).take (r + 1) = (dearL C i d).take r ++ [if r = i then addR d row else row] := by
  refine take_lastX ?_
  rw [dearL_get, h]; rfl
/-- The first entries of a row raised. -/
def addT (d : Int) (c : Nat) (r : List Int) : List Int := addR d (r.take c) ++ r.drop c
theorem addT_len (d : Int) (c : Nat) (r : List Int) : (addT d c r).length = r.length := by unfold addT addR; simp; omega
theorem addT_zero (d : Int) (r : List Int) : addT d 0 r = r := by simp [addT, addR]
theorem addT_full (d : Int) (r : List Int) : addT d r.length r = addR d r := by simp [addT]
theorem addT_at {d : Int} {c : Nat} {r : List Int} (h : c < r.length) : at0 (addT d c r) c = at0 r c := by
  refine at0_of ?_
  unfold addT addR
  rw [List.getElem?_append_right (by simp; omega)]
  simp [Nat.min_eq_left (Nat.le_of_lt h)]
  first | exact at0_get h | exact (at0_of (List.getElem?_eq_getElem h)).symm
theorem addT_set {d : Int} {c : Nat} {r : List Int} (h : c < r.length) : (addT d c r).set c (at0 r c + d) = addT d (c + 1) r := by
  refine List.ext_getElem? fun x => ?_
  rw [List.getElem?_set, addT_len, if_pos h]
  have key : ∀ k, (addT d k r)[x]? = (r[x]?).map fun y => if x < k then y + d else y := fun k => by
    unfold addT addR
    by_cases hx : x < k
    · by_cases hxr : x < r.length
      · rw [List.getElem?_append_left (by simp; omega), List.getElem?_map, List.getElem?_take_of_lt hx]
        simp [hx]
      · rw [List.getElem?_eq_none (by simp; omega), List.getElem?_eq_none (by omega)]; rfl
    · rw [List.getElem?_append_right (by simp; omega), List.length_map, List.length_take, List.getElem?_drop]
      by_cases hkr : k ≤ r.length
      · rw [Nat.min_eq_left hkr, show k + (x - k) = x by omega]
        simp [hx]
      · rw [List.getElem?_eq_none (by omega), List.getElem?_eq_none (by omega)]; rfl
  rw [key, key]
  by_cases hc : c = x
  · subst hc
    rw [if_pos rfl, at0_get h]
    simp
  · rw [if_neg hc]
    have : (x < c) ↔ (x < c + 1) := by omega
    simp [this]
end Go.Proofs.Yteiipfajoikfpaa
