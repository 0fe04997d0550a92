/- Xa -/
import Derived.Test.YteiipfajoikfpaaQWg
set_option linter.unusedVariables false
/- Plain laws of Smooth: pairings by their costs in falling order. -/
namespace Go.Proofs.Yteiipfajoikfpaa
open Go Go.RowKit Go.Proofs

/-- Costs in falling order. -/
def fallP (C : List (List Int)) (p : List Nat) : List Int := fall (pcs C p)
def byL (m : List Nat → List Int) (p q : List Nat) : Prop := m p < m q
theorem byL_tr {m : List Nat → List Int} (a b c : List Nat) (h1 : byL m a b) (h2 : byL m b c) : byL m a c := List.lt_trans h1 h2
theorem byL_ir {m : List Nat → List Int} (a : List Nat) : ¬ byL m a a := List.lt_irrefl _
theorem byL_ne {m : List Nat → List Int} (a b c : List Nat) (h1 : byL m a b) (h2 : ¬ byL m c b) : byL m a c := by
  rcases Classical.em (m a < m c) with h | h
  · exact h
  · exact absurd (List.lt_of_le_of_lt h h1) h2
theorem best_exX (lt : List Nat → List Nat → Prop) (ht : ∀ a b c, lt a b → lt b c → lt a c) (hi : ∀ a, ¬ lt a a) (ha : ∀ a b c, lt a b → ¬ lt c b → lt a c) (n : Nat) : ∃ p, Best lt (allN n) p := by
  obtain ⟨L, hL⟩ : ∃ L, allN n = L := ⟨_, rfl⟩
  have hs : L.Pairwise (· < ·) := hL ▸ allN_sorted n
  have hne : L ≠ [] := hL ▸ allN_ne n
  rw [hL]
  have key : ∀ k, k + 1 ≤ L.length → ∃ p, Best lt (L.take (k + 1)) p := by
    intro k
    induction k with
    | zero =>
      intro hk
      have e := take_last (List.getElem?_eq_getElem (show 0 < L.length by omega))
      rw [e]
      exact ⟨_, Best.one _ _ (hi _)⟩
    | succ k ih =>
      intro hk
      obtain ⟨p, hp⟩ := ih (by omega)
      have hq := List.getElem?_eq_getElem (show k + 1 < L.length by omega)
      have e := take_last hq
      rw [e]
      rcases Classical.em (lt L[k + 1] p) with h | h
      · exact ⟨_, hp.better h ht hi ha⟩
      · exact ⟨_, hp.keep h (sorted_take hs hq)⟩
  have h0 : 0 < L.length := List.length_pos_iff.2 hne
  obtain ⟨p, hp⟩ := key (L.length - 1) (by omega)
  rw [show L.length - 1 + 1 = L.length by omega, List.take_length] at hp
  exact ⟨p, hp⟩
theorem smooth_ex (C : List (List Int)) (n : Nat) : ∃ p, Best (byL (fallP C)) (allN n) p := best_exX _ byL_tr byL_ir byL_ne n
theorem head_lt {l m : List Int} (hm : m ≠ []) (hl : l ≠ []) (h : at0 l 0 < at0 m 0) : l < m := by
  cases l with
  | nil => exact absurd rfl hl
  | cons x l =>
    cases m with
    | nil => exact absurd rfl hm
    | cons y m => exact List.Lex.rel h
theorem fallP_ne {C : List (List Int)} {n : Nat} {p : List Nat} (hp : Pr n p) (hn : 0 < n) : fallP C p ≠ [] := fun e => by
  have h := congrArg List.length e
  unfold fallP at h
  rw [fall_length, pcs_length, hp.len] at h
  simp at h; omega
/-- The greatest cost of Smooth is that of Worst. -/
theorem smooth_max {C : List (List Int)} {n : Nat} (hn : 0 < n) {p q : List Nat} (hp : Best (byL (fallP C)) (allN n) p) (hq : Best (byI (mxP C)) (allN n) q) : mxP C p = mxP C q := by
  have h1 := hp.low q hq.mem
  have h2 := hq.low p hp.mem
  have h3 : ¬ mxP C q < mxP C p := fun h => h1 (head_lt (fallP_ne (mem_allN.1 hp.mem) hn) (fallP_ne (mem_allN.1 hq.mem) hn) h)
  unfold byI at h2
  omega
/-- Powers of 2, falling: the first one is greater than all others together. -/
def PowF : List Int → Prop
  | [] => True
  | x :: l => (∃ k : Nat, x = 2 ^ k) ∧ (∀ y ∈ l, y < x) ∧ PowF l
theorem pow_half {a b : Nat} (h : (2 : Int) ^ a < 2 ^ b) : 2 * (2 : Int) ^ a ≤ 2 ^ b := by
  have h1 : a < b := by
    rcases Nat.lt_or_ge a b with h1 | h1
    · exact h1
    · have h2 : (2 : Nat) ^ b ≤ 2 ^ a := Nat.pow_le_pow_right (by omega) h1
      have h3 : ((2 ^ b : Nat) : Int) ≤ ((2 ^ a : Nat) : Int) := by exact_mod_cast h2
      rw [Int.natCast_pow, Int.natCast_pow] at h3
      have : ((2 : Nat) : Int) = 2 := rfl
      rw [this] at h3
      omega
  have h2 : (2 : Nat) ^ (a + 1) ≤ 2 ^ b := Nat.pow_le_pow_right (by omega) h1
  have h3 : ((2 ^ (a + 1) : Nat) : Int) ≤ ((2 ^ b : Nat) : Int) := by exact_mod_cast h2
  rw [Int.natCast_pow, Int.natCast_pow, Int.pow_succ] at h3
  have : ((2 : Nat) : Int) = 2 := rfl
  rw [this] at h3
  omega
theorem powF_pos {l : List Int} (h : PowF l) : ∀ x ∈ l, ∃ k : Nat, x = 2 ^ k := by
  induction l with
  | nil => intro x hx; cases hx
  | cons y l ih =>
    intro x hx
    rcases List.mem_cons.1 hx with rfl | hx
    · exact h.1
    · exact ih h.2.2 x hx
theorem pow_pos2 (k : Nat) : 0 < (2 : Int) ^ k := Int.pow_pos (by omega)
theorem powF_sum {l : List Int} (h : PowF l) : 0 ≤ l.sum ∧ ∀ b : Nat, (∀ y ∈ l, y < 2 ^ b) → l.sum < 2 ^ b := by
  induction l with
  | nil => exact ⟨by simp, fun b _ => by simpa using pow_pos2 b⟩
  | cons x l ih =>
    obtain ⟨⟨k, rfl⟩, h2, h3⟩ := h
    obtain ⟨i1, i2⟩ := ih h3
    have h0 := pow_pos2 k
    refine ⟨by rw [List.sum_cons]; omega, fun b hb => ?_⟩
    have h4 := i2 k h2
    have h5 := pow_half (hb _ (List.mem_cons_self ..))
    rw [List.sum_cons]
    omega
/-- Falling powers: the lexicographic order is that of the sums. -/
theorem powF_lt {l m : List Int} (hl : PowF l) (hm : PowF m) (hlen : l.length = m.length) (h : l < m) : l.sum < m.sum := by
  induction l generalizing m with
  | nil =>
    cases m with
    | nil => exact absurd h (List.lt_irrefl _)
    | cons y m => cases hlen
  | cons x l ih =>
    cases m with
    | nil => cases hlen
    | cons y m =>
      obtain ⟨⟨a, ha⟩, l2, l3⟩ := hl
      obtain ⟨⟨b, hb⟩, m2, m3⟩ := hm
      rw [List.sum_cons, List.sum_cons]
      rcases List.cons_lt_cons_iff.1 h with h1 | ⟨h1, h2⟩
      · have h3 := (powF_sum l3).2 a (fun z hz => by rw [← ha]; exact l2 z hz)
        have h4 := (powF_sum m3).1
        have h5 := pow_half (a := a) (b := b) (by rw [← ha, ← hb]; exact h1)
        omega
      · have := ih l3 m3 (by simpa using hlen) h2
        omega
theorem powF_of {l : List Int} (hs : l.Pairwise (· ≥ ·)) (hn : l.Nodup) (hp : ∀ x ∈ l, ∃ k : Nat, x = 2 ^ k) : PowF l := by
  induction l with
  | nil => trivial
  | cons x l ih =>
    rw [List.pairwise_cons] at hs
    rw [List.nodup_cons] at hn
    refine ⟨hp x (List.mem_cons_self ..), fun y hy => ?_, ih hs.2 hn.2 fun y hy => hp y (List.mem_cons_of_mem _ hy)⟩
    have h1 := hs.1 y hy
    have h2 : y ≠ x := fun e => hn.1 (e ▸ hy)
    omega
/-- All costs are different powers of 2. -/
structure PowC (C : List (List Int)) (n : Nat) : Prop where
  pow : ∀ i j, i < n → j < n → ∃ k : Nat, cst C i j = 2 ^ k
  ne : ∀ i j a b, i < n → j < n → a < n → b < n → cst C i j = cst C a b → i = a ∧ j = b
theorem PowC.mem {C : List (List Int)} {n : Nat} (h : PowC C n) {p : List Nat} (hp : Pr n p) : ∀ x ∈ pcs C p, ∃ k : Nat, x = 2 ^ k := fun x hx => by
  obtain ⟨i, hi⟩ := List.mem_iff_getElem?.1 hx
  rw [pcs_get] at hi
  obtain ⟨j, hj, e⟩ := Option.map_eq_some_iff.1 hi
  have h1 := (List.getElem?_eq_some_iff.1 hj).1
  rw [hp.len] at h1
  rw [← e]
  exact h.pow i j h1 (hp.lt j (List.mem_of_getElem? hj))
theorem PowC.nodup {C : List (List Int)} {n : Nat} (h : PowC C n) {p : List Nat} (hp : Pr n p) : (pcs C p).Nodup := by
  rw [List.nodup_iff_pairwise_ne, List.pairwise_iff_getElem]
  intro i j hi hj hij e
  rw [pcs_length] at hi hj
  have e1 := pcs_get C p i
  have e2 := pcs_get C p j
  rw [List.getElem?_eq_getElem (by rw [pcs_length]; exact hi), List.getElem?_eq_getElem hi] at e1
  rw [List.getElem?_eq_getElem (by rw [pcs_length]; exact hj), List.getElem?_eq_getElem hj] at e2
  simp only [Option.map_some, Option.some.injEq] at e1 e2
  rw [e1, e2] at e
  have := (h.ne _ _ _ _ (by rw [← hp.len]; exact hi) (hp.lt _ (List.getElem_mem _)) (by rw [← hp.len]; exact hj) (hp.lt _ (List.getElem_mem _)) e).1
  omega
theorem PowC.powF {C : List (List Int)} {n : Nat} (h : PowC C n) {p : List Nat} (hp : Pr n p) : PowF (fallP C p) := by
  have hpm : (fallP C p).Perm (pcs C p) := fall_perm _
  exact powF_of (fall_sorted _) (hpm.nodup_iff.2 (h.nodup hp)) fun x hx => h.mem hp x (hpm.mem_iff.1 hx)
theorem perm_sum {l m : List Int} (h : l.Perm m) : l.sum = m.sum := by
  induction h with
  | nil => rfl
  | cons x _ ih => rw [List.sum_cons, List.sum_cons, ih]
  | swap x y l => simp only [List.sum_cons]; omega
  | trans _ _ ih1 ih2 => exact ih1.trans ih2
theorem fallP_sum (C : List (List Int)) (p : List Nat) : (fallP C p).sum = sumC C p := perm_sum (fall_perm (pcs C p))
theorem PowC.iff {C : List (List Int)} {n : Nat} (h : PowC C n) {p q : List Nat} (hp : Pr n p) (hq : Pr n q) : byL (fallP C) p q ↔ byI (sumC C) p q := by
  have hl : (fallP C p).length = (fallP C q).length := by unfold fallP; rw [fall_length, fall_length, pcs_length, pcs_length, hp.len, hq.len]
  have key : ∀ {a b : List Nat}, Pr n a → Pr n b → (fallP C a).length = (fallP C b).length → byL (fallP C) a b → byI (sumC C) a b := fun ha hb hl h1 => by
    have := powF_lt (h.powF ha) (h.powF hb) hl h1
    rw [fallP_sum, fallP_sum] at this
    exact this
  refine ⟨key hp hq hl, fun h1 => ?_⟩
  rcases Classical.em (byL (fallP C) p q) with h2 | h2
  · exact h2
  · rcases Classical.em (byL (fallP C) q p) with h3 | h3
    · have := key hq hp hl.symm h3
      unfold byI at *; omega
    · have : fallP C p = fallP C q := List.le_antisymm h3 h2
      have : sumC C p = sumC C q := by rw [← fallP_sum, ← fallP_sum, this]
      unfold byI at *; omega
theorem Best.congr {lt lt' : List Nat → List Nat → Prop} {L : List (List Nat)} {p : List Nat} (h : Best lt L p) (he : ∀ a ∈ L, ∀ b ∈ L, (lt a b ↔ lt' a b)) : Best lt' L p :=
  ⟨h.mem, fun q hq h1 => h.low q hq ((he q hq p h.mem).2 h1), fun q hq h1 => h.first q hq fun h2 => h1 ((he p h.mem q hq).1 h2)⟩
/-- Different powers of 2: Smooth is Cheapest's pairing. -/
theorem PowC.same {C : List (List Int)} {n : Nat} (h : PowC C n) {p : List Nat} (hp : Best (byL (fallP C)) (allN n) p) : Best (byI (sumC C)) (allN n) p :=
  hp.congr fun _ ha _ hb => h.iff (mem_allN.1 ha) (mem_allN.1 hb)
end Go.Proofs.Yteiipfajoikfpaa
