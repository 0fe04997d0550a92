/- Dig Base NumA NumB DigB NumC NumD NumE Own -/
import Derived.WalkKit
import Derived.WalkSpells
import Derived.WalkLawsBesides
import Derived.Deep.QuietTactic
import Derived.BigQuiet
import Derived.Deep.RegionHeld3
import Derived.Lib.Hide
import Derived.Handy
import Derived.Test.YtkecdjdggkpdpabProg
import Derived.Laws.AppendOwnNone
set_option linter.unusedVariables false
/- Digits of a natural number in a base, the least first: their value, their uniqueness, how many there are. Plain lists and numbers, no program. -/
namespace Go.Proofs.Ytkecdjdggkpdpab

/-- The value of digits, the least first. -/
def val (B : Nat) : List Nat → Nat
  | [] => 0
  | x :: xs => x + B * val B xs

/-- The digits of a number, with fuel. -/
def digsF (B : Nat) : Nat → Nat → List Nat
  | 0, _ => []
  | f + 1, n => if n = 0 then [] else (n % B) :: digsF B f (n / B)

/-- The digits of a number, the least first, without zeros at the end. -/
def digs (B n : Nat) : List Nat := digsF B n n

/-- How many digits a number has. -/
def L (B n : Nat) : Nat := (digs B n).length

theorem digsF_fuel {B : Nat} (hB : 2 ≤ B) : ∀ (f g n : Nat), n ≤ f → n ≤ g → digsF B f n = digsF B g n := by
  intro f
  induction f with
  | zero =>
    intro g n h1 h2
    have : n = 0 := by omega
    subst this
    cases g <;> simp [digsF]
  | succ f ih =>
    intro g n h1 h2
    cases g with
    | zero =>
      have : n = 0 := by omega
      subst this
      simp [digsF]
    | succ g =>
      unfold digsF
      by_cases h : n = 0
      · simp [h]
      · simp only [h, if_false]
        have : n / B < n := Nat.div_lt_self (by omega) (by omega)
        rw [ih g (n / B) (by omega) (by omega)]

theorem digs_zero (B : Nat) : digs B 0 = [] := rfl

theorem digs_pos {B n : Nat} (hB : 2 ≤ B) (hn : n ≠ 0) : digs B n = (n % B) :: digs B (n / B) := by
  unfold digs
  cases n with
  | zero => exact absurd rfl hn
  | succ m =>
    rw [digsF, if_neg (by omega)]
    have : (m + 1) / B < m + 1 := Nat.div_lt_self (by omega) (by omega)
    rw [digsF_fuel hB m ((m + 1) / B) _ (by omega) (by omega)]

theorem val_digs {B : Nat} (hB : 2 ≤ B) (n : Nat) : val B (digs B n) = n := by
  induction n using Nat.strongRecOn with
  | ind n ih =>
    by_cases h : n = 0
    · subst h; rfl
    · have h1 : n / B < n := Nat.div_lt_self (by omega) (by omega)
      rw [digs_pos hB h, val, ih _ h1, Nat.mod_add_div]

theorem digs_lt {B : Nat} (hB : 2 ≤ B) (n : Nat) : ∀ x ∈ digs B n, x < B := by
  induction n using Nat.strongRecOn with
  | ind n ih =>
    by_cases h : n = 0
    · subst h; intro x hx; simp [digs_zero] at hx
    · have h1 : n / B < n := Nat.div_lt_self (by omega) (by omega)
      rw [digs_pos hB h]
      intro x hx
      rcases List.mem_cons.1 hx with rfl | hx
      · exact Nat.mod_lt _ (by omega)
      · exact ih _ h1 x hx

theorem val_append (B : Nat) (xs ys : List Nat) : val B (xs ++ ys) = val B xs + B ^ xs.length * val B ys := by
  induction xs with
  | nil => simp [val]
  | cons x xs ih =>
    simp only [List.cons_append, val, ih, List.length_cons, Nat.pow_succ, Nat.mul_add]
    rw [Nat.add_assoc, Nat.mul_comm (B ^ xs.length) B, Nat.mul_assoc]

theorem val_snoc (B : Nat) (xs : List Nat) (x : Nat) : val B (xs ++ [x]) = val B xs + B ^ xs.length * x := by
  rw [val_append]; simp [val]

theorem val_lt {B : Nat} (xs : List Nat) (h : ∀ x ∈ xs, x < B) : val B xs < B ^ xs.length := by
  induction xs with
  | nil => simp [val]
  | cons x xs ih =>
    have h1 := h x (by simp)
    have h2 := ih (fun y hy => h y (by simp [hy]))
    simp only [val, List.length_cons, Nat.pow_succ]
    have h3 : B * (val B xs + 1) ≤ B * B ^ xs.length := Nat.mul_le_mul_left _ h2
    rw [Nat.mul_comm (B ^ xs.length) B]
    rw [Nat.mul_add] at h3
    omega

theorem val_replicate (B n : Nat) : val B (List.replicate n 0) = 0 := by
  induction n with
  | zero => rfl
  | succ n ih => simp [List.replicate_succ, val, ih]

/-- Digits below the base whose last one is not 0 are those of their value. -/
theorem digs_val {B : Nat} (hB : 2 ≤ B) (xs : List Nat) (h : ∀ x ∈ xs, x < B) (hl : ∀ x, xs.getLast? = some x → x ≠ 0) : digs B (val B xs) = xs := by
  induction xs with
  | nil => rfl
  | cons x xs ih =>
    have hx := h x (by simp)
    have ih' := ih (fun y hy => h y (by simp [hy])) (by
      intro y hy
      refine hl y ?_
      cases xs with
      | nil => simp at hy
      | cons z zs => simpa [List.getLast?_cons_cons] using hy)
    have hne : val B (x :: xs) ≠ 0 := by
      cases xs with
      | nil => have := hl x (by simp); simpa [val] using this
      | cons z zs =>
        intro h0
        simp only [val] at h0
        have hz : val B (z :: zs) = 0 := by
          have : B * (z + B * val B zs) = 0 := by omega
          rcases Nat.mul_eq_zero.1 this with h | h
          · omega
          · simpa [val] using h
        rw [hz, digs_zero] at ih'
        cases ih'
    have e1 : val B (x :: xs) % B = x := by simp [val, Nat.add_mul_mod_self_left, Nat.mod_eq_of_lt hx]
    have e2 : val B (x :: xs) / B = val B xs := by
      simp only [val]
      rw [Nat.add_mul_div_left _ _ (by omega), Nat.div_eq_of_lt hx, Nat.zero_add]
    rw [digs_pos hB hne, e1, e2, ih']

theorem digs_last {B : Nat} (hB : 2 ≤ B) (n : Nat) : ∀ x, (digs B n).getLast? = some x → x ≠ 0 := by
  induction n using Nat.strongRecOn with
  | ind n ih =>
    by_cases h : n = 0
    · subst h; intro x hx; simp [digs_zero] at hx
    · have h1 : n / B < n := Nat.div_lt_self (by omega) (by omega)
      rw [digs_pos hB h]
      intro x hx
      by_cases h2 : n / B = 0
      · rw [h2, digs_zero] at hx
        simp at hx
        have := Nat.div_add_mod n B
        rw [h2] at this
        omega
      · refine ih _ h1 x ?_
        rw [digs_pos hB h2] at hx ⊢
        rwa [List.getLast?_cons_cons] at hx

theorem L_le_of_lt {B : Nat} (hB : 2 ≤ B) : ∀ (k n : Nat), n < B ^ k → L B n ≤ k := by
  intro k
  induction k with
  | zero => intro n h; have : n = 0 := by simpa using h
            subst this; simp [L, digs_zero]
  | succ k ih =>
    intro n h
    by_cases h0 : n = 0
    · subst h0; simp [L, digs_zero]
    · have h1 : n / B < B ^ k := by
        rw [Nat.div_lt_iff_lt_mul (by omega)]
        rwa [← Nat.pow_succ]
      have := ih _ h1
      simp only [L] at this ⊢
      rw [digs_pos hB h0]
      simp only [List.length_cons]
      omega

theorem lt_pow_L {B : Nat} (hB : 2 ≤ B) (n : Nat) : n < B ^ L B n := by
  have := val_lt (digs B n) (digs_lt hB n)
  rwa [val_digs hB] at this

theorem lt_of_L_le {B : Nat} (hB : 2 ≤ B) {n k : Nat} (h : L B n ≤ k) : n < B ^ k :=
  Nat.lt_of_lt_of_le (lt_pow_L hB n) (Nat.pow_le_pow_right (by omega) h)

theorem L_mono {B : Nat} (hB : 2 ≤ B) {a b : Nat} (h : a ≤ b) : L B a ≤ L B b :=
  L_le_of_lt hB _ _ (Nat.lt_of_le_of_lt h (lt_pow_L hB b))

theorem L_mul {B : Nat} (hB : 2 ≤ B) (a b : Nat) : L B (a * b) ≤ L B a + L B b := by
  refine L_le_of_lt hB _ _ ?_
  rw [Nat.pow_add]
  have h1 := lt_pow_L hB a
  have h2 := lt_pow_L hB b
  rcases Nat.eq_zero_or_pos b with h0 | h0
  · subst h0
    simp only [Nat.mul_zero]
    exact Nat.mul_pos (Nat.pow_pos (by omega)) (Nat.pow_pos (by omega))
  · exact Nat.lt_of_lt_of_le (Nat.mul_lt_mul_of_pos_right h1 h0) (Nat.mul_le_mul_left _ (by omega))

theorem L_add {B : Nat} (hB : 2 ≤ B) (a b : Nat) : L B (a + b) ≤ max (L B a) (L B b) + 1 := by
  refine L_le_of_lt hB _ _ ?_
  have h1 := lt_of_L_le hB (Nat.le_max_left (L B a) (L B b))
  have h2 := lt_of_L_le hB (Nat.le_max_right (L B a) (L B b))
  rw [Nat.pow_succ]
  have : B ^ max (L B a) (L B b) * 2 ≤ B ^ max (L B a) (L B b) * B := Nat.mul_le_mul_left _ hB
  omega

theorem L_zero (B : Nat) : L B 0 = 0 := rfl

theorem L_pos {B n : Nat} (hB : 2 ≤ B) (h : n ≠ 0) : 0 < L B n := by
  simp [L, digs_pos hB h]

theorem L_eq_zero {B n : Nat} (hB : 2 ≤ B) : L B n = 0 ↔ n = 0 := by
  constructor
  · intro h
    rcases Nat.eq_zero_or_pos n with h0 | h0
    · exact h0
    · have := L_pos hB (n := n) (by omega); omega
  · rintro rfl; rfl

theorem pow_le_of_L {B n k : Nat} (hB : 2 ≤ B) (h : k < L B n) : B ^ k ≤ n := by
  rcases Nat.lt_or_ge n (B ^ k) with h1 | h1
  · have := L_le_of_lt hB _ _ h1; omega
  · exact h1

theorem lt_of_L_lt {B a b : Nat} (hB : 2 ≤ B) (h : L B a < L B b) : a < b :=
  Nat.lt_of_lt_of_le (lt_pow_L hB a) (pow_le_of_L hB h)

theorem val_take_succ (B : Nat) (xs : List Nat) (i x : Nat) (h : xs[i]? = some x) : val B (xs.take (i + 1)) = val B (xs.take i) + B ^ i * x := by
  have hi : i < xs.length := (List.getElem?_eq_some_iff.1 h).1
  rw [List.take_succ_eq_append_getElem hi, val_snoc]
  have hx : xs[i] = x := (List.getElem?_eq_some_iff.1 h).2
  rw [hx, List.length_take, Nat.min_eq_left (by omega)]

theorem val_take_len (B : Nat) (xs : List Nat) (i : Nat) (h : xs.length ≤ i) : val B (xs.take i) = val B xs := by
  rw [List.take_of_length_le h]

theorem val_drop (B : Nat) (xs : List Nat) (i x : Nat) (h : xs[i]? = some x) : val B (xs.drop i) = x + B * val B (xs.drop (i + 1)) := by
  have hi : i < xs.length := (List.getElem?_eq_some_iff.1 h).1
  have hx : xs[i] = x := (List.getElem?_eq_some_iff.1 h).2
  rw [List.drop_eq_getElem_cons hi, val, hx]

theorem val_split (B : Nat) (xs : List Nat) (i : Nat) (h : i ≤ xs.length) : val B xs = val B (xs.take i) + B ^ i * val B (xs.drop i) := by
  have := val_append B (xs.take i) (xs.drop i)
  rw [List.take_append_drop, List.length_take, Nat.min_eq_left h] at this
  exact this

/-- Lists of one length with the same value are the same. -/
theorem val_inj {B : Nat} : ∀ (xs ys : List Nat), xs.length = ys.length → (∀ x ∈ xs, x < B) → (∀ y ∈ ys, y < B) → val B xs = val B ys → xs = ys := by
  intro xs
  induction xs with
  | nil => intro ys h _ _ _; cases ys with
    | nil => rfl
    | cons y ys => simp at h
  | cons x xs ih =>
    intro ys h hx hy hv
    cases ys with
    | nil => simp at h
    | cons y ys =>
      have h1 := hx x (by simp)
      have h2 := hy y (by simp)
      simp only [val] at hv
      have e : x = y := by
        have := congrArg (· % B) hv
        simpa [Nat.add_mul_mod_self_left, Nat.mod_eq_of_lt h1, Nat.mod_eq_of_lt h2] using this
      subst e
      have e2 : val B xs = val B ys := by
        have : B * val B xs = B * val B ys := by omega
        exact Nat.eq_of_mul_eq_mul_left (by omega) this
      rw [ih ys (by simpa using h) (fun z hz => hx z (by simp [hz])) (fun z hz => hy z (by simp [hz])) e2]

/-- What is left of digits when zeros at the end are left out. -/
theorem trimmed {B : Nat} (hB : 2 ≤ B) (xs : List Nat) (h : ∀ x ∈ xs, x < B) (k : Nat) (hk : k ≤ xs.length) (hv : val B (xs.take k) = val B xs)
    (hl : k = 0 ∨ ∃ x, xs[k - 1]? = some x ∧ x ≠ 0) : digs B (val B xs) = xs.take k ∧ L B (val B xs) = k := by
  have e : digs B (val B xs) = xs.take k := by
    rw [← hv]
    refine digs_val hB _ (fun x hx => h x (List.mem_of_mem_take hx)) ?_
    intro x hx
    rcases hl with h0 | ⟨y, hy, hne⟩
    · subst h0; simp at hx
    · rw [List.getLast?_eq_getElem?, List.length_take, Nat.min_eq_left hk, List.getElem?_take] at hx
      split at hx
      · rw [hy] at hx
        injection hx with hx
        subst hx
        exact hne
      · cases hx
  exact ⟨e, by rw [L, e, List.length_take, Nat.min_eq_left hk]⟩

end Go.Proofs.Ytkecdjdggkpdpab

/- What values mean in a world: slices of numbers, blocks that are known whole, a region's frame. No function of the program. -/
namespace Go.Proofs.Ytkecdjdggkpdpab
open Go Go.RowKit Go.Proofs

theorem bdn {B : Nat} {a w : World} (h : Below B a w) {n : Nat} : Below B a (w.drewN n) := ⟨h.os, h.tape, h.output, h.size, h.block⟩

/-- The slice with this address holds these cells. -/
def Cells (w : World) (ao : Option Addr) (vs : List Value) : Prop :=
  ∀ i v, vs[i]? = some v → ∃ b o, ao = some ⟨b, o, none⟩ ∧ w.cell? ⟨b, o + i, none⟩ = some v

/-- The slice with this address holds these numbers. -/
def Dg (K : IntKind) (w : World) (ao : Option Addr) (xs : List Nat) : Prop :=
  ∀ (i x : Nat), xs[i]? = some x → ∃ b o, ao = some ⟨b, o, none⟩ ∧ w.cell? ⟨b, o + i, none⟩ = some (.int K x)

theorem Below.cellAt {W w1 : World} {B : Nat} (hb : Below B W w1) (hB : W.heap.size ≤ B) {b o : Nat} {v : Value} (h : W.cell? ⟨b, o, none⟩ = some v) : w1.cell? ⟨b, o, none⟩ = some v := by
  have := World.block_lt_of_cell? W ⟨b, o, none⟩ h
  rw [hb.cell (p := ⟨b, o, none⟩) (by simp at this ⊢; omega)]; exact h

theorem Cells.below {w w' : World} {a : Option Addr} {vs : List Value} {B : Nat} (h : Cells w a vs) (hb : Below B w w') (hB : w.heap.size ≤ B := by exact Nat.le_refl _) : Cells w' a vs := fun i v hv => by
  obtain ⟨b, o, ha, hc⟩ := h i v hv
  exact ⟨b, o, ha, Below.cellAt hb hB hc⟩

theorem Dg.below {K : IntKind} {w w' : World} {a : Option Addr} {xs : List Nat} {B : Nat} (h : Dg K w a xs) (hb : Below B w w') (hB : w.heap.size ≤ B := by exact Nat.le_refl _) : Dg K w' a xs := fun i v hv => by
  obtain ⟨b, o, ha, hc⟩ := h i v hv
  exact ⟨b, o, ha, Below.cellAt hb hB hc⟩

theorem Dg.nil (K : IntKind) (w : World) (a : Option Addr) : Dg K w a [] := fun i v hv => by simp at hv

theorem Dg.at {K : IntKind} {w : World} {a : Option Addr} {xs : List Nat} (h : Dg K w a xs) {i : Nat} (hi : i < xs.length) :
    ∃ (b o x : Nat), xs[i]? = some x ∧ a = some ⟨b, o, none⟩ ∧ w.cell? ⟨b, o + i, none⟩ = some (.int K x) := by
  obtain ⟨b, o, ha, hc⟩ := h i xs[i] (List.getElem?_eq_getElem hi)
  exact ⟨b, o, xs[i], List.getElem?_eq_getElem hi, ha, hc⟩

theorem Dg.take {K : IntKind} {w : World} {a : Option Addr} {xs : List Nat} (h : Dg K w a xs) (k : Nat) : Dg K w a (xs.take k) := fun i v hv => by
  rw [List.getElem?_take] at hv
  split at hv
  · exact h i v hv
  · cases hv

/-- All digits below a base. -/
def Lt (B : Nat) (xs : List Nat) : Prop := ∀ x ∈ xs, x < B

theorem Lt.at {B : Nat} {xs : List Nat} (h : Lt B xs) {i x : Nat} (hx : xs[i]? = some x) : x < B := h x (List.mem_of_getElem? hx)

theorem Lt.take {B : Nat} {xs : List Nat} (h : Lt B xs) (k : Nat) : Lt B (xs.take k) := fun x hx => h x (List.mem_of_mem_take hx)

theorem Lt.drop {B : Nat} {xs : List Nat} (h : Lt B xs) (k : Nat) : Lt B (xs.drop k) := fun x hx => h x (List.mem_of_mem_drop hx)

theorem Lt.set {B : Nat} {xs : List Nat} (h : Lt B xs) (k x : Nat) (hx : x < B) : Lt B (xs.set k x) := fun y hy => by
  rcases List.mem_or_eq_of_mem_set hy with h1 | h1
  · exact h y h1
  · omega

theorem Lt.replicate {B n : Nat} (hB : 0 < B) : Lt B (List.replicate n 0) := fun x hx => by
  have := List.eq_of_mem_replicate hx; omega

/-- The base of the program's limbs; kept from the walk. -/
def B32 : Nat := 4294967296
theorem two_le_B32 : 2 ≤ B32 := by unfold B32; omega

/-- The slice holds a size in the program's form: limbs without zeros at the end. -/
def Mag (w : World) (ao : Option Addr) (cap n : Nat) : Prop := L B32 n ≤ cap ∧ Dg .u32 w ao (digs B32 n)

theorem Mag.below {w w' : World} {a : Option Addr} {c n B : Nat} (h : Mag w a c n) (hb : Below B w w') (hB : w.heap.size ≤ B := by exact Nat.le_refl _) : Mag w' a c n := ⟨h.1, h.2.below hb hB⟩

theorem Mag.zero (w : World) (a : Option Addr) (c : Nat) : Mag w a c 0 := ⟨by simp [L_zero], by rw [digs_zero]; exact Dg.nil _ _ _⟩

/-- A block that is known whole. -/
def Blk (w : World) (g : Nat) (T : TypeId) (cs : List Value) : Prop := w.heap[g]? = some (.cells cs.toArray T (0, 0))

theorem Blk.lt {w : World} {g T : Nat} {cs : List Value} (h : Blk w g T cs) : g < w.heap.size := by
  rcases Nat.lt_or_ge g w.heap.size with hlt | hge
  · exact hlt
  · unfold Blk at h; rw [Array.getElem?_eq_none hge] at h; cases h

theorem Blk.cell {w : World} {g T : Nat} {cs : List Value} (h : Blk w g T cs) (i : Nat) : w.cell? ⟨g, i, none⟩ = cs[i]? := by
  rw [cell_of_row w g i cs.toArray T (0, 0) h]; simp

theorem Blk.frozen {w : World} {g T : Nat} {cs : List Value} (h : Blk w g T cs) (i : Nat) : w.frozen? ⟨g, i, none⟩ = false := by
  unfold Blk at h
  simp [World.frozen?, h]

theorem Blk.set {w : World} {g T : Nat} {cs : List Value} (h : Blk w g T cs) (i : Nat) (u : Value) : Blk (w.setCell ⟨g, i, none⟩ u) g T (cs.set i u) := by
  unfold Blk at h ⊢
  simp [World.setCell, Array.getElem?_modify, h]

theorem Blk.below {w w' : World} {B g T : Nat} {cs : List Value} (h : Blk w g T cs) (hb : Below B w w') (hg : g < B) : Blk w' g T cs := (hb.block g hg).trans h

theorem Blk.later {w w' : World} {g T : Nat} {cs : List Value} (h : Blk w g T cs) (hb : Below w.heap.size w w') : Blk w' g T cs := h.below hb h.lt

/-- A block that is known whole, of numbers. -/
def Nblk (K : IntKind) (w : World) (g : Nat) (T : TypeId) (xs : List Nat) : Prop := Blk w g T (xs.map fun x : Nat => Value.int K x)

theorem Nblk.set {K : IntKind} {w : World} {g T : Nat} {xs : List Nat} (h : Nblk K w g T xs) (i x : Nat) : Nblk K (w.setCell ⟨g, i, none⟩ (.int K x)) g T (xs.set i x) := by
  have := Blk.set h i (.int K x)
  unfold Nblk
  rwa [← List.map_set] at this

theorem Nblk.set' {K : IntKind} {w : World} {g T : Nat} {xs : List Nat} (h : Nblk K w g T xs) {i x : Nat} {z : Int} (hz : z = x) : Nblk K (w.setCell ⟨g, i, none⟩ (.int K z)) g T (xs.set i x) := by
  subst hz
  exact h.set i x

theorem Nblk.drew' {K : IntKind} {w : World} {g T : Nat} {xs : List Nat} (h : Nblk K w g T xs) : Nblk K w.drew g T xs := h

theorem Nblk.far {K : IntKind} {w : World} {g T : Nat} {xs : List Nat} (h : Nblk K w g T xs) {p : Addr} (hp : g ≠ p.block) (u : Value) : Nblk K (w.setCell p u) g T xs :=
  (Below.heap_setCell w p u g hp).trans h

theorem int_eq {k : IntKind} {a b : Int} (h : a = b) : Value.int k a = .int k b := by rw [h]

theorem Nblk.at {K : IntKind} {w : World} {g T : Nat} {xs : List Nat} (h : Nblk K w g T xs) {i x : Nat} (hx : xs[i]? = some x) : w.cell? ⟨g, i, none⟩ = some (.int K x) := by
  rw [Blk.cell h]; simp [hx]

theorem Nblk.dg {K : IntKind} {w : World} {g T : Nat} {xs : List Nat} (h : Nblk K w g T xs) : Dg K w (some ⟨g, 0, none⟩) xs := fun i x hx =>
  ⟨g, 0, rfl, by rw [Nat.zero_add]; exact h.at hx⟩

theorem Nblk.below {K : IntKind} {w w' : World} {B g T : Nat} {xs : List Nat} (h : Nblk K w g T xs) (hb : Below B w w') (hg : g < B) : Nblk K w' g T xs := Blk.below h hb hg

/-- What 'make' leaves, as a block that is known whole. -/
theorem blk_of_own {w : World} {base e n : Nat} {g : Nat} {xs : List Value} (h : w.ownsRow base e 1 (.slice (some ⟨g, 0, none⟩) n n) n xs) : Blk w g e xs := by
  rcases h.2 with ⟨h1, _⟩ | ⟨g', cap, cur, hv, _, hh, hn, _, hsz, htake⟩
  · cases h1
  · injection hv with h1 h2 h3
    injection h1 with h1
    injection h1 with h1
    subst h1
    unfold Blk
    rw [hh]
    have : cur.toList = xs := by
      rw [← htake, List.take_of_length_le (by simp; omega)]
    rw [← this]

/-- 'make' of n zeros, as a block that is known whole. -/
theorem wpList_make_zero {P : Program} (w : World) {ops : Array Oper} {rest : List Oper} {o : Oper} {a : Act} {Q : Exit → Act → World → Prop}
    (hg : o.guard = none) (l : Operand) (t : TypeId) (hop : o.op = Op.makeSlice t l l) (e : TypeId) (K : IntKind) (bytes : Nat) (h1 : P.underlying t = some (.slice e))
    (hinfo : (P.info? e).map (fun i => (i.zero, i.size, i.bytes)) = some (some (.int K 0), 1, bytes)) (hby : bytes ≤ 8)
    (kl : IntKind) (N : Int) (n : Nat) (hl : a.eval l = .int kl N) (hN : N = (n : Int)) (hn : n ≤ 10000000000)
    (hK : ∀ w', Nblk K w' w.heap.size e (List.replicate n 0) → Below w.heap.size w w' → wpList P ops Q rest (a.put o.dst (.slice (some ⟨w.heap.size, 0, none⟩) n n)) w') :
    wpList P ops Q (o :: rest) a w := by
  obtain ⟨i, h2, h3, h4, h5⟩ := info_parts hinfo
  refine wpList_make_full w hg l l t hop w.heap.size e i (.int K 0) 1 h1 h2 h3 h4 kl kl N N n hl hl hN hN ?_ ?_ (Nat.le_refl _) ?_
  · rw [h5]
    have : bytes * n ≤ 8 * 10000000000 := Nat.mul_le_mul hby hn
    omega
  · unfold maxLen; omega
  · intro w' hown hgr
    refine hK w' ?_ ((Below.refl _ _).grown hgr (Nat.le_refl _) (fun k hk => by cases hk))
    have := blk_of_own hown
    have e : (madeCells (Value.int K 0).cells (n * 1)).toList = (List.replicate n 0).map (fun x : Nat => Value.int K x) := by
      rw [Nat.mul_one]
      show (madeCells #[Value.int K 0] n).toList = _
      rw [toList_madeCells_one]
      simp
    rw [e] at this
    exact this

/-- The cell's content, kept from simp. -/
def cellAt (w : World) (b o : Nat) : Value := (w.cell? ⟨b, o, none⟩).getD undef

/-- No cell of the block holds a number. -/
def NoInt (w : World) (N : Nat) : Prop := ∀ (o : Nat) (k : IntKind) (z : Int), w.cell? ⟨N, o, none⟩ ≠ some (.int k z)

theorem NoInt.set {w : World} {N : Nat} (h : NoInt w N) (a : Addr) (v : Value) (hv : ∀ k z, v ≠ .int k z) : NoInt (w.setCell a v) N := fun o k z hc => by
  by_cases ha : a = ⟨N, o, none⟩
  · subst ha
    cases hu : w.cell? ⟨N, o, none⟩ with
    | none =>
      have : (w.setCell ⟨N, o, none⟩ v).cell? ⟨N, o, none⟩ = none := by
        simp only [World.cell?, World.setCell, Array.getElem?_modify] at hu ⊢
        cases hb : w.heap[N]? with
        | none => simp
        | some ob => cases ob <;> simp_all
      rw [this] at hc; cases hc
    | some u =>
      rw [World.cell?_setCell_same w ⟨N, o, none⟩ v hu] at hc
      injection hc with hc
      exact hv k z hc
  · rw [World.cell?_setCell_other w a ⟨N, o, none⟩ v ha] at hc
    exact h o k z hc

theorem Dg.setN {K : IntKind} {w : World} {a : Option Addr} {xs : List Nat} {N : Nat} (h : Dg K w a xs) (hN : NoInt w N) (k : Nat) (v : Value) : Dg K (w.setCell ⟨N, k, none⟩ v) a xs := fun i x hx => by
  obtain ⟨b, o, ha, hc⟩ := h i x hx
  refine ⟨b, o, ha, ?_⟩
  rw [World.cell?_setCell_other _ _ _ _ ?_]
  · exact hc
  · intro e
    injection e with e1 e2
    subst e1
    exact hN _ _ _ hc

theorem Mag.setN {w : World} {a : Option Addr} {c n N : Nat} (h : Mag w a c n) (hN : NoInt w N) (k : Nat) (v : Value) : Mag (w.setCell ⟨N, k, none⟩ v) a c n := ⟨h.1, h.2.setN hN k v⟩

/-- From W on nothing below block N has turned; block N (the result's) has at least n cells, none frozen, none a number. -/
abbrev Rg (N n : Nat) (W w' : World) : Prop :=
  (∀ b o, b < N → w'.cell? ⟨b, o, none⟩ = W.cell? ⟨b, o, none⟩) ∧ (∀ o, o < n → w'.cell? ⟨N, o, none⟩ = some (cellAt w' N o)) ∧ (∀ o, w'.frozen? ⟨N, o, none⟩ = false) ∧ NoInt w' N ∧ Below N W w'

theorem Rg.mk {N n : Nat} {W w' : World} (h : Below N W w') (h1 : ∀ o, o < n → (w'.cell? ⟨N, o, none⟩).isSome = true) (h2 : ∀ o, w'.frozen? ⟨N, o, none⟩ = false) (h3 : NoInt w' N) : Rg N n W w' := by
  refine ⟨fun b o hb => h.cell (p := ⟨b, o, none⟩) hb, fun o ho => ?_, h2, h3, h⟩
  obtain ⟨v, hv⟩ := Option.isSome_iff_exists.1 (h1 o ho)
  simp [cellAt, hv]

/-- What a region kept of the blocks ahead of the result's. -/
theorem Rg.kept {N n : Nat} {W w' : World} (h : Rg N n W w') : Below N W w' := h.2.2.2.2
theorem Rg.noInt {N n : Nat} {W w' : World} (h : Rg N n W w') : NoInt w' N := h.2.2.2.1

theorem Rg.drew {N n : Nat} {W w' : World} (h : Rg N n W w') : Rg N n W w'.drew :=
  Rg.mk h.kept.drew (fun o ho => by have := h.2.1 o ho; simp [this]) (fun o => by have := h.2.2.1 o; simpa using this) (fun o k z hc => h.noInt o k z hc)

theorem Rg.step {N n : Nat} {W w1 w2 : World} (h : Rg N n W w1) (hn : 0 < n) (hb : Below w1.heap.size w1 w2) : Rg N n W w2 := by
  have hN : N < w1.heap.size := World.block_lt_of_cell? w1 ⟨N, 0, none⟩ (h.2.1 0 hn)
  refine Rg.mk (h.kept.trans (hb.mono (by omega))) (fun o ho => ?_) (fun o => ?_) (fun o k z hc => ?_)
  · rw [hb.cell (p := ⟨N, o, none⟩) hN, h.2.1 o ho, Option.isSome_some]
  · rw [hb.frozen (p := ⟨N, o, none⟩) hN]; exact h.2.2.1 o
  · rw [hb.cell (p := ⟨N, o, none⟩) hN] at hc; exact h.noInt o k z hc

theorem Rg.set {N n k : Nat} {W w1 : World} (h : Rg N n W w1) (v : Value) (hv : ∀ k z, v ≠ .int k z := by intro _ _ h; cases h) : Rg N n W (w1.setCell ⟨N, k, none⟩ v) := by
  refine Rg.mk (h.kept.setCell (Nat.le_refl _) v) (fun o ho => ?_) (fun o => ?_) (h.noInt.set _ v hv)
  · have := h.2.1 o ho
    by_cases hk : k = o
    · subst hk
      simp [World.cell?_setCell_same w1 ⟨N, k, none⟩ _ this]
    · rw [World.cell?_setCell_other _ _ _ _ (by simp), this]; rfl
  · have := h.2.2.1 o
    simp
    simpa using this

theorem Mag.kp {w W w' : World} {a : Option Addr} {c n N k : Nat} (h : Mag w a c n) (hb : Below w.heap.size w W) (hk : Rg N k W w') (hN : w.heap.size ≤ N) : Mag w' a c n :=
  h.below (hb.trans (hk.kept.mono hN))

end Go.Proofs.Ytkecdjdggkpdpab

/- Walks of the program's words: bits.Add32, bits.Sub32. -/
namespace Go.Proofs.Ytkecdjdggkpdpab
open Go Go.RowKit Go.Proofs

theorem top_bit (n : Nat) (h : n < 2 ^ 32) : n / 2147483648 = if n.testBit 31 then 1 else 0 := by
  rw [Nat.testBit_eq_decide_div_mod_eq]
  have : n / 2 ^ 31 < 2 := by omega
  by_cases h1 : n / 2 ^ 31 % 2 = 1
  · simp [h1]; omega
  · simp [h1]; omega

theorem testBit_top (n : Nat) (h : n < 4294967296) : n.testBit 31 = decide (2147483648 ≤ n) := by
  rw [Nat.testBit_eq_decide_div_mod_eq]
  rw [decide_eq_decide]
  omega

/-- The borrow of bits.Sub32, off its bits. -/
theorem borrow_bit (x y d : Nat) (hx : x < 4294967296) (hy : y < 4294967296) (hd : d < 4294967296) :
    (((4294967295 ^^^ x) &&& y) ||| ((4294967295 ^^^ (x ^^^ y)) &&& d)) / 2147483648 =
      if (x < 2147483648 ∧ 2147483648 ≤ y) ∨ ((2147483648 ≤ x ↔ 2147483648 ≤ y) ∧ 2147483648 ≤ d) then 1 else 0 := by
  have hl : (((4294967295 ^^^ x) &&& y) ||| ((4294967295 ^^^ (x ^^^ y)) &&& d)) < 2 ^ 32 := by
    refine Nat.or_lt_two_pow (Nat.and_lt_two_pow _ (by simpa using hy)) (Nat.and_lt_two_pow _ (by simpa using hd))
  rw [top_bit _ hl]
  simp only [Nat.testBit_or, Nat.testBit_and, Nat.testBit_xor, testBit_top x hx, testBit_top y hy, testBit_top d hd, testBit_top 4294967295 (by omega)]
  by_cases h1 : 2147483648 ≤ x <;> by_cases h2 : 2147483648 ≤ y <;> by_cases h3 : 2147483648 ≤ d <;> simp [h1, h2, h3] <;> omega

/-- One if x is less than y and c, else 0. -/
def bor (x y c : Nat) : Nat := if x < y + c then 1 else 0

theorem bor_le (x y c : Nat) : bor x y c ≤ 1 := by unfold bor; split <;> omega

def sub32bits (x y d : Int) : Int := bits BinOp.or IntKind.u32 (bits BinOp.and IntKind.u32 (bits BinOp.xor IntKind.u32 IntKind.u32.max x) y)
                (bits BinOp.and IntKind.u32 (bits BinOp.xor IntKind.u32 IntKind.u32.max (bits BinOp.xor IntKind.u32 x y)) d)

theorem sub32bits_eq (x y d : Nat) (hx : x < 4294967296) (hy : y < 4294967296) (hd : d < 4294967296) :
    sub32bits x y d = (((4294967295 ^^^ x) &&& y) ||| ((4294967295 ^^^ (x ^^^ y)) &&& d) : Nat) := by
  unfold sub32bits
  have hm : IntKind.u32.max = ((4294967295 : Nat) : Int) := by decide
  have p : ∀ a b : Nat, a < 4294967296 → b < 4294967296 → a ^^^ b < 4294967296 := fun a b ha hb => Nat.xor_lt_two_pow (n := 32) (by simpa using ha) (by simpa using hb)
  have q : ∀ a b : Nat, b < 4294967296 → a &&& b < 4294967296 := fun a b hb => Nat.and_lt_two_pow (n := 32) _ (by simpa using hb)
  rw [hm, u32_xor_nat _ _ (by omega) hx, u32_and_nat _ _ (p _ _ (by omega) hx) hy, u32_xor_nat _ _ hx hy, u32_xor_nat _ _ (by omega) (p _ _ hx hy),
    u32_and_nat _ _ (p _ _ (by omega) (p _ _ hx hy)) hd, u32_or_nat _ _ (q _ _ hy) (q _ _ hd)]

theorem sub32_borrow (x y c : Nat) (hx : x < 4294967296) (hy : y < 4294967296) (hc : c ≤ 1) :
    sub32bits x y (((x : Int) - y - c) % 4294967296) / 2147483648 = (bor x y c : Nat) := by
  have hd : (((x : Int) - y - c) % 4294967296) = ((x + 8589934592 - y - c) % 4294967296 : Nat) := by omega
  rw [hd, sub32bits_eq _ _ _ hx hy (Nat.mod_lt _ (by omega))]
  have := borrow_bit x y ((x + 8589934592 - y - c) % 4294967296) hx hy (Nat.mod_lt _ (by omega))
  generalize (((4294967295 ^^^ x) &&& y) ||| ((4294967295 ^^^ (x ^^^ y)) &&& ((x + 8589934592 - y - c) % 4294967296))) = n at *
  have e : ((n : Int) / 2147483648) = ((n / 2147483648 : Nat) : Int) := by omega
  have key : ((x < 2147483648 ∧ 2147483648 ≤ y) ∨ ((2147483648 ≤ x ↔ 2147483648 ≤ y) ∧ 2147483648 ≤ (x + 8589934592 - y - c) % 4294967296)) ↔ x < y + c := by
    clear this e hd
    omega
  rw [e, this]
  unfold bor
  simp only [key]

theorem ret_two {k l : IntKind} {a b c d : Int} (h1 : a = c) (h2 : b = d) : Ending.returned (.tuple #[.int k a, .int l b]) = .returned (.tuple #[.int k c, .int l d]) := by rw [h1, h2]

set_option maxHeartbeats 400000 in
theorem add32_any (x y c : Nat) (w : World) (hx : x < 4294967296) (hy : y < 4294967296) (hc : c ≤ 1) :
    Calls Try.prog 81 #[.int .u32 x, .int .u32 y, .int .u32 c] w fun e w' =>
      e = .returned (.tuple #[.int .u32 ((x + y + c) % B32 : Nat), .int .u32 ((x + y + c) / B32 : Nat)]) ∧ w = w' := by
  go_enter Try.func81, Try.ntmps81
  go_wp2
  go_ret2
  exact ⟨ret_two (by unfold B32; omega) (by unfold B32; omega), rfl⟩

theorem add32_zero (x c : Nat) (w : World) (hx : x < 4294967296) (hc : c ≤ 1) :
    Calls Try.prog 81 #[.int .u32 x, .int .u32 0, .int .u32 c] w fun e w' =>
      e = .returned (.tuple #[.int .u32 ((x + 0 + c) % B32 : Nat), .int .u32 ((x + 0 + c) / B32 : Nat)]) ∧ w = w' := add32_any x 0 c w hx (by omega) hc

/-- The digit of a difference. -/
def sdig (x y c : Nat) : Nat := (x + B32 - y - c + B32) % B32

def Sub32Post (x y c : Nat) (w : World) (e : Ending) (w' : World) : Prop :=
  e = .returned (.tuple #[.int .u32 (sdig x y c : Nat), .int .u32 (bor x y c : Nat)]) ∧ w = w'

set_option maxHeartbeats 400000 in
theorem sub32_any (x y c : Nat) (w : World) (hx : x < 4294967296) (hy : y < 4294967296) (hc : c ≤ 1) :
    Calls Try.prog 82 #[.int .u32 x, .int .u32 y, .int .u32 c] w (Sub32Post x y c w) := by
  go_enter Try.func82, Try.ntmps82
  go_wp2
  go_ret2
  exact ⟨ret_two (by unfold sdig B32; omega) (sub32_borrow x y c hx hy hc), rfl⟩

theorem sub32_at (x y c : Nat) (z : Int) (w : World) (hz : z = y) (hx : x < 4294967296) (hy : y < 4294967296) (hc : c ≤ 1) :
    Calls Try.prog 82 #[.int .u32 x, .int .u32 z, .int .u32 c] w (Sub32Post x y c w) := by subst hz; exact sub32_any x y c w hx hy hc

theorem sub32_zero (x c : Nat) (w : World) (hx : x < 4294967296) (hc : c ≤ 1) :
    Calls Try.prog 82 #[.int .u32 x, .int .u32 0, .int .u32 c] w (Sub32Post x 0 c w) := sub32_any x 0 c w hx (by omega) hc

end Go.Proofs.Ytkecdjdggkpdpab

/- Walks of the program's sizes: trim, compare. -/
namespace Go.Proofs.Ytkecdjdggkpdpab
open Go Go.RowKit Go.Proofs

theorem ret_slice {a : Option Addr} {n m c : Nat} (h : n = m) : Ending.returned (.slice a n c) = .returned (.slice a m c) := by rw [h]
theorem ret_int {k : IntKind} {a b : Int} (h : a = b) : Ending.returned (.int k a) = .returned (.int k b) := by rw [h]

def lenOf : Value → Nat | .slice _ n _ => n | _ => 0

theorem Mag.raw {w : World} {a : Option Addr} {c : Nat} {xs : List Nat} (h : Dg .u32 w a xs) (hl : Lt B32 xs) (hc : xs.length ≤ c) (k : Nat) (hk : k ≤ xs.length) (hv : val B32 (xs.take k) = val B32 xs)
    (hz : k = 0 ∨ ∃ x, xs[k - 1]? = some x ∧ x ≠ 0) : L B32 (val B32 xs) = k ∧ Mag w a c (val B32 xs) := by
  obtain ⟨e1, e2⟩ := trimmed two_le_B32 xs hl k hk hv hz
  exact ⟨e2, by rw [e2]; omega, by rw [e1]; exact h.take k⟩

/-- Sizes in limbs that end in zeros are cut to their form. -/
theorem val_cut (B : Nat) (xs : List Nat) (k : Nat) (hk : 0 < k) (h : xs[k - 1]? = some 0) : val B (xs.take (k - 1)) = val B (xs.take k) := by
  have := val_take_succ B xs (k - 1) 0 h
  rw [Nat.sub_add_cancel hk] at this
  simpa using this.symm

def TrimPost (w : World) (ao : Option Addr) (cap : Nat) (n : Nat) (e : Ending) (w' : World) : Prop :=
  e = .returned (.slice ao (L B32 n) cap) ∧ Mag w ao cap n ∧ w = w'

set_option maxHeartbeats 400000 in
theorem trim_any (ao : Option Addr) (cap : Nat) (xs : List Nat) (w : World) (hd : Dg .u32 w ao xs) (hl : Lt B32 xs) (hn : xs.length ≤ 4000000000) (hcap : xs.length ≤ cap) :
    Calls Try.prog 54 #[.slice ao xs.length cap] w (TrimPost w ao cap (val B32 xs)) := by
  go_enter Try.func54, Try.ntmps54
  go_wp2
  go_loop [0] (fun s => ∃ k : Nat, k ≤ xs.length ∧ s = .slice ao k cap ∧ val B32 (xs.take k) = val B32 xs) (fun s => lenOf s)
  case atStart => exact ⟨xs.length, Nat.le_refl _, rfl, by simp⟩
  case round =>
    obtain ⟨k, hk, rfl, hr⟩ := hrel
    have hrH := Lib.hid hr
    clear hr
    by_cases hk0 : 0 < k
    · obtain ⟨b, o, x, hx, rfl, hc⟩ := hd.at (i := k - 1) (by omega)
      have hxH := Lib.hid hx
      clear hx
      by_cases h0 : x = 0
      · subst h0
        have hcut := val_cut B32 xs k hk0 hxH.out
        have hcutH := Lib.hid hcut
        clear hcut
        go_wp2
        all_goals
          go_round
          case rel => exact ⟨k - 1, by omega, rfl, by rw [hcutH.out]; exact hrH.out⟩
          case measure => simp [lenOf]; omega
      · have h0' : ((x : Int) == 0) = false := by simpa using h0
        clear h0
        go_wp2
        go_ret
        obtain ⟨e1, e2⟩ := Mag.raw hd hl hcap k hk hrH.out (Or.inr ⟨x, hxH.out, by simpa using h0'⟩)
        exact ⟨ret_slice e1.symm, e2, rfl⟩
    · go_wp2
      go_ret
      obtain ⟨e1, e2⟩ := Mag.raw hd hl hcap k hk hrH.out (Or.inl (by omega))
      exact ⟨ret_slice e1.symm, e2, rfl⟩

/-- The sign of a comparison. -/
def cmpN (a b : Nat) : Int := if a < b then -1 else if a = b then 0 else 1

def CmpPost (w : World) (a b : Nat) (e : Ending) (w' : World) : Prop :=
  e = .returned (.int .i64 (cmpN a b)) ∧ Below w.heap.size w w'

theorem cmp_digit {B : Nat} (xs ys : List Nat) (hl : xs.length = ys.length) (hx : Lt B xs) (_hy : Lt B ys) (i x y : Nat) (hxi : xs[i]? = some x) (hyi : ys[i]? = some y)
    (he : val B (xs.drop (i + 1)) = val B (ys.drop (i + 1))) (h : x < y) : val B xs < val B ys := by
  have hi : i < xs.length := (List.getElem?_eq_some_iff.1 hxi).1
  rw [val_split B xs i (by omega), val_split B ys i (by omega), val_drop B xs i x hxi, val_drop B ys i y hyi, he]
  have h1 := val_lt (B := B) (xs.take i) (hx.take i)
  rw [List.length_take, Nat.min_eq_left (by omega)] at h1
  have h2 : B ^ i * (x + B * val B (ys.drop (i + 1))) + B ^ i ≤ B ^ i * (y + B * val B (ys.drop (i + 1))) := by
    rw [← Nat.mul_succ]; exact Nat.mul_le_mul_left _ (by omega)
  omega

set_option maxHeartbeats 400000 in
theorem compare_any (a1 a2 : Option Addr) (c1 c2 x y : Nat) (w : World) (h1 : Mag w a1 c1 x) (h2 : Mag w a2 c2 y) (hb1 : L B32 x ≤ 1000000000) (hb2 : L B32 y ≤ 1000000000) :
    Calls Try.prog 72 #[.slice a1 (L B32 x) c1, .slice a2 (L B32 y) c2] w (CmpPost w x y) := by
  by_cases hlt : L B32 x < L B32 y
  · have ht : ((L B32 x : Int) != L B32 y) = true := by simp; omega
    have := lt_of_L_lt two_le_B32 hlt
    go_enter Try.func72, Try.ntmps72
    go_wp2
    go_ret
    exact ⟨ret_int (by simp [cmpN, this]), Below.refl _ _⟩
  by_cases hgt : L B32 y < L B32 x
  · have ht : ((L B32 x : Int) != L B32 y) = true := by simp; omega
    have := lt_of_L_lt two_le_B32 hgt
    go_enter Try.func72, Try.ntmps72
    go_wp2
    go_ret
    exact ⟨ret_int (by simp [cmpN, show ¬ x < y by omega, show ¬ x = y by omega]), Below.refl _ _⟩
  have heq : L B32 x = L B32 y := by omega
  have vx := val_digs two_le_B32 x
  have vy := val_digs two_le_B32 y
  have lx : (digs B32 x).length = L B32 x := rfl
  have ly : (digs B32 y).length = L B32 y := rfl
  have dx : Lt B32 (digs B32 x) := digs_lt two_le_B32 x
  have dy : Lt B32 (digs B32 y) := digs_lt two_le_B32 y
  obtain ⟨d1, hd1⟩ : ∃ d1, d1 = Dg .u32 w a1 (digs B32 x) := ⟨_, rfl⟩
  have h1' := h1.2
  have h2' := h2.2
  generalize digs B32 x = xs at *
  generalize digs B32 y = ys at *
  rw [← heq] at ly ⊢
  have ht : ((L B32 x : Int) != L B32 x) = false := by simp
  have heH := Lib.hid heq
  have vxH := Lib.hid vx
  have vyH := Lib.hid vy
  have lxH := Lib.hid lx
  have lyH := Lib.hid ly
  generalize L B32 x = n at *
  clear heq vx vy lx ly hd1 h1 h2 hlt hgt
  go_enter Try.func72, Try.ntmps72
  go_wp2
  go_loopw [5] (fun s wr => ∃ k : Nat, k ≤ n ∧ s = .int .i64 ((k : Int) - 1) ∧ val B32 (xs.drop k) = val B32 (ys.drop k) ∧ Below w.heap.size w wr) (fun s _ => (intOf s + 1).toNat)
  case atStart => exact ⟨n, Nat.le_refl _, rfl, by rw [List.drop_of_length_le (by have := lxH.out; omega), List.drop_of_length_le (by have := lyH.out; omega)], Below.refl _ _⟩
  case round =>
    obtain ⟨k, hk, rfl, hr, hbl⟩ := hrel
    have hrH := Lib.hid hr
    clear hr
    by_cases hk0 : 0 < k
    · obtain ⟨b1, o1, p, hp, rfl, hc1⟩ := (h1'.below hbl).at (i := k - 1) (by have := lxH.out; omega)
      obtain ⟨b2, o2, q, hq, rfl, hc2⟩ := (h2'.below hbl).at (i := k - 1) (by have := lyH.out; omega)
      have hpH := Lib.hid hp
      have hqH := Lib.hid hq
      clear hp hq
      obtain ⟨wo, rfl⟩ : ∃ wo : World, wo = wr := ⟨_, rfl⟩
      have hsub : k - 1 + 1 = k := by omega
      have hsH := Lib.hid hsub
      clear hsub
      have i0 : (0 : Int) ≤ (k : Int) - 1 := by omega
      have i1 : (k : Int) - 1 < n := by omega
      by_cases hpq : p = q
      · subst hpq
        have ht2 : ((p : Int) != p) = false := by simp
        go_wp2
        go_quiet (fail)
        go_wp2
        all_goals
          go_roundw
          case rel => exact ⟨k - 1, by omega, by go_num, by rw [val_drop B32 xs (k - 1) p hpH.out, val_drop B32 ys (k - 1) p hqH.out, hsH.out, hrH.out], (bdn hbl)⟩
          case measure => simp [intOf]; omega
      · have ht2 : ((p : Int) != q) = true := by simp; omega
        go_wp2
        go_quiet (fail)
        have e2 := hrH.out
        rw [← hsH.out] at e2
        by_cases hlt : p < q
        · have hfin := cmp_digit xs ys (by rw [lxH.out, lyH.out]) dx dy (k - 1) p q hpH.out hqH.out e2 hlt
          clear e2
          have hfH := Lib.hid hfin
          clear hfin
          go_wp2
          go_quiet (fail)
          go_wp2
          go_ret
          exact ⟨ret_int (by have := hfH.out; rw [vxH.out, vyH.out] at this; simp [cmpN, this]), (bdn (bdn hbl))⟩
        · have hfin := cmp_digit ys xs (by rw [lxH.out, lyH.out]) dy dx (k - 1) q p hqH.out hpH.out e2.symm (by omega)
          clear e2
          have hfH := Lib.hid hfin
          clear hfin
          go_wp2
          go_quiet (fail)
          go_wp2
          go_ret
          exact ⟨ret_int (by have := hfH.out; rw [vxH.out, vyH.out] at this; simp [cmpN, show ¬ x < y by omega, show ¬ x = y by omega]), (bdn (bdn hbl))⟩
    · go_wp2
      go_ret
      have hk00 : k = 0 := by omega
      exact ⟨ret_int (by have := hrH.out; rw [hk00, List.drop_zero, List.drop_zero, vxH.out, vyH.out] at this; simp [cmpN, this]), hbl⟩

end Go.Proofs.Ytkecdjdggkpdpab

/- Steps of the school's ways with digits: adding, subtracting. Plain numbers. -/
namespace Go.Proofs.Ytkecdjdggkpdpab

theorem val_set_take (B : Nat) (os : List Nat) (k s : Nat) (hk : k < os.length) : val B ((os.set k s).take (k + 1)) = val B (os.take k) + B ^ k * s := by
  have h : (os.set k s)[k]? = some s := by simp [hk]
  rw [val_take_succ B _ k s h, List.take_set_of_le (Nat.le_refl k)]

theorem val_set_take_le (B : Nat) (os : List Nat) (k j s : Nat) (h : j ≤ k) : val B ((os.set k s).take j) = val B (os.take j) := by
  rw [List.take_set_of_le h]

theorem val_set_drop (B : Nat) (os : List Nat) (k j s : Nat) (h : k < j) : val B ((os.set k s).drop j) = val B (os.drop j) := by
  rw [List.drop_set_of_lt h]

theorem val_take_none (B : Nat) (xs : List Nat) (i : Nat) (h : xs.length ≤ i) : val B (xs.take (i + 1)) = val B (xs.take i) := by
  rw [List.take_of_length_le h, List.take_of_length_le (by omega)]

/-- The digit number i, 0 where there is none. -/
theorem val_take_get (B : Nat) (xs : List Nat) (i y : Nat) (h : xs[i]? = some y ∨ (xs.length ≤ i ∧ y = 0)) : val B (xs.take (i + 1)) = val B (xs.take i) + B ^ i * y := by
  rcases h with h | ⟨h, rfl⟩
  · exact val_take_succ B xs i y h
  · rw [val_take_none B xs i h]; simp

theorem plus_step (B P o x y c a b : Nat) (h : o + P * c = a + b) :
    (o + P * ((x + y + c) % B)) + P * B * ((x + y + c) / B) = (a + P * x) + (b + P * y) := by
  have h1 : P * B * ((x + y + c) / B) = P * (B * ((x + y + c) / B)) := Nat.mul_assoc _ _ _
  have h2 : P * ((x + y + c) % B) + P * (B * ((x + y + c) / B)) = P * (x + y + c) := by rw [← Nat.mul_add, Nat.mod_add_div]
  have h3 : P * (x + y + c) = P * x + P * y + P * c := by rw [Nat.mul_add, Nat.mul_add]
  rw [h1]
  omega

theorem minus_step (B P o x y c s d a b : Nat) (h : o + b = a + P * c) (hs : s + y + c = x + B * d) :
    (o + P * s) + (b + P * y) = (a + P * x) + P * B * d := by
  have h1 : P * B * d = P * (B * d) := Nat.mul_assoc _ _ _
  have h2 : P * s + P * y + P * c = P * x + P * (B * d) := by rw [← Nat.mul_add, ← Nat.mul_add, hs, Nat.mul_add]
  rw [h1]
  omega

theorem val_set_any (B : Nat) (os : List Nat) (i p s z : Nat) (hz : os[i]? = some z) (hp : i < p) : val B ((os.set i s).take p) + B ^ i * z = val B (os.take p) + B ^ i * s := by
  have hi : i < os.length := (List.getElem?_eq_some_iff.1 hz).1
  have e1 := val_split B ((os.set i s).take p) i (by simp; omega)
  have e2 := val_split B (os.take p) i (by simp; omega)
  rw [List.take_take, Nat.min_eq_left (by omega)] at e1 e2
  rw [val_set_take_le B os i i s (Nat.le_refl i)] at e1
  have z1 : ((os.set i s).take p)[i]? = some s := by rw [List.getElem?_take, if_pos hp]; simp [hi]
  have z2 : (os.take p)[i]? = some z := by rw [List.getElem?_take, if_pos hp]; exact hz
  rw [val_drop B _ i s z1] at e1
  rw [val_drop B _ i z z2] at e2
  have e3 : ((os.set i s).take p).drop (i + 1) = (os.take p).drop (i + 1) := by
    rw [List.take_set, List.drop_set_of_lt (by omega)]
  rw [e3] at e1
  rw [e1, e2, Nat.mul_add, Nat.mul_add]
  omega

theorem times_step (B P V V' z x y c s c' R : Nat) (h : V + P * c = R) (hV : V' + P * z = V + P * s) (ht : s + B * c' = x * y + z + c) :
    V' + P * B * c' = R + P * (x * y) := by
  have h1 : P * B * c' = P * (B * c') := Nat.mul_assoc _ _ _
  have h2 : P * s + P * (B * c') = P * (x * y) + P * z + P * c := by rw [← Nat.mul_add, ht, Nat.mul_add, Nat.mul_add]
  rw [h1]
  omega

theorem val_drop_div {B : Nat} (hB : 2 ≤ B) (xs : List Nat) (h : ∀ x ∈ xs, x < B) (k : Nat) (hk : k ≤ xs.length) : val B (xs.drop k) = val B xs / B ^ k := by
  have h1 := val_lt (xs.take k) (fun x hx => h x (List.mem_of_mem_take hx))
  rw [List.length_take, Nat.min_eq_left hk] at h1
  rw [val_split B xs k hk, Nat.add_mul_div_left _ _ (Nat.pow_pos (by omega)), Nat.div_eq_of_lt h1, Nat.zero_add]

theorem val_take_mod {B : Nat} (xs : List Nat) (h : ∀ x ∈ xs, x < B) (k : Nat) (hk : k ≤ xs.length) : val B (xs.take k) = val B xs % B ^ k := by
  have h1 := val_lt (xs.take k) (fun x hx => h x (List.mem_of_mem_take hx))
  rw [List.length_take, Nat.min_eq_left hk] at h1
  rw [val_split B xs k hk, Nat.add_mul_mod_self_left, Nat.mod_eq_of_lt h1]

/-- The limb k of a number that is shifted down. -/
theorem down_digit (B X s q P t R : Nat) (hq : B = q * 2 ^ s) (ht : X / P = t + B * (B * R)) : X / 2 ^ s / P % B = t / 2 ^ s % B := by
  rw [Nat.div_div_eq_div_mul, Nat.mul_comm (2 ^ s) P, ← Nat.div_div_eq_div_mul, ht]
  have e : t + B * (B * R) = t + 2 ^ s * (B * (q * R)) := by
    rw [show B * (B * R) = 2 ^ s * (B * (q * R)) by
      conv => lhs; arg 1; rw [hq]
      rw [Nat.mul_comm q, Nat.mul_assoc]
      congr 1
      rw [Nat.mul_left_comm]]
  rw [e, Nat.add_mul_div_left _ _ (Nat.pow_pos (by omega)), Nat.add_mul_mod_self_left]

end Go.Proofs.Ytkecdjdggkpdpab

/- Walks of the program's sizes: plus, minus. -/
namespace Go.Proofs.Ytkecdjdggkpdpab
open Go Go.RowKit Go.Proofs

theorem info_u32 : (Try.prog.info? 100).map (fun i => (i.zero, i.size, i.bytes)) = some (some (.int .u32 0), 1, 4) := by kernel_rfl

def RetMag (w : World) (n : Nat) (e : Ending) (w' : World) : Prop :=
  ∃ ao cap, e = .returned (.slice ao (L B32 n) cap) ∧ Mag w' ao cap n ∧ Below w.heap.size w w'

/-- What has been added after k digits. -/
def PlusInv (xs ys os : List Nat) (k c : Nat) : Prop :=
  os.length = xs.length + 1 ∧ Lt B32 os ∧ c ≤ 1 ∧ val B32 (os.take k) + B32 ^ k * c = val B32 (xs.take k) + val B32 (ys.take k)

theorem PlusInv.step {xs ys os : List Nat} {k c x y : Nat} (h : PlusInv xs ys os k c) (hx : xs[k]? = some x) (hy : ys[k]? = some y ∨ (ys.length ≤ k ∧ y = 0)) (hx1 : x < B32) (hy1 : y < B32) :
    PlusInv xs ys (os.set k ((x + y + c) % B32)) (k + 1) ((x + y + c) / B32) := by
  obtain ⟨h1, h2, h3, h4⟩ := h
  have hk : k < xs.length := (List.getElem?_eq_some_iff.1 hx).1
  have hB : 0 < B32 := by unfold B32; omega
  refine ⟨by simpa using h1, h2.set _ _ (Nat.mod_lt _ hB), ?_, ?_⟩
  · have : (x + y + c) / B32 < 2 := by rw [Nat.div_lt_iff_lt_mul hB]; omega
    omega
  · rw [val_set_take _ _ _ _ (by omega), val_take_succ _ _ _ _ hx, val_take_get _ _ _ _ hy, Nat.pow_succ]
    exact plus_step B32 _ _ x y c _ _ h4

theorem PlusInv.done {xs ys os : List Nat} {c : Nat} (h : PlusInv xs ys os xs.length c) (hl : ys.length ≤ xs.length) :
    Lt B32 (os.set xs.length c) ∧ (os.set xs.length c).length = xs.length + 1 ∧ val B32 (os.set xs.length c) = val B32 xs + val B32 ys := by
  obtain ⟨h1, h2, h3, h4⟩ := h
  refine ⟨h2.set _ _ (by unfold B32; omega), by simpa using h1, ?_⟩
  have := val_set_take B32 os xs.length c (by omega)
  rw [List.take_of_length_le (by simp; omega)] at this
  rw [this, h4, List.take_of_length_le (Nat.le_refl _), List.take_of_length_le hl]


set_option maxHeartbeats 800000 in
theorem plus_ge (a1 a2 : Option Addr) (c1 c2 x y : Nat) (w : World) (h1 : Mag w a1 c1 x) (h2 : Mag w a2 c2 y) (hb1 : L B32 x ≤ 1000000000) (hb2 : L B32 y ≤ 1000000000) (hle : L B32 y ≤ L B32 x) :
    Calls Try.prog 71 #[.slice a1 (L B32 x) c1, .slice a2 (L B32 y) c2] w (RetMag w (x + y)) := by
  have hA := Lib.hid h1.2
  have hC := Lib.hid h2.2
  have vA := Lib.hid (val_digs two_le_B32 x)
  have vC := Lib.hid (val_digs two_le_B32 y)
  have lA : Hid ((digs B32 x).length = L B32 x) := rfl
  have lC : Hid ((digs B32 y).length = L B32 y) := rfl
  have dA := Lib.hid (show Lt B32 (digs B32 x) from digs_lt two_le_B32 x)
  have dC := Lib.hid (show Lt B32 (digs B32 y) from digs_lt two_le_B32 y)
  generalize digs B32 x = xs at *
  generalize digs B32 y = ys at *
  generalize L B32 x = n at *
  generalize L B32 y = m at *
  clear h1 h2
  go_enter Try.func71, Try.ntmps71
  go_wp2_with (first | (at_make; refine wpList_make_zero _ rfl (.tmp 18) _ rfl 100 .u32 4 Try.underlying47 info_u32 (by omega) .i64 _ (n + 1) rfl (by simp) (by omega) ?_; intro w1 hB1 hb1'))
  go_loopw [6, 22] (fun c i wr => ∃ k cr os, k ≤ n ∧ i = .int .i64 (k : Nat) ∧ c = .int .u32 (cr : Nat) ∧ PlusInv xs ys os k cr ∧ Nblk .u32 wr w.heap.size 100 os ∧ Below w.heap.size w wr) (fun _ i _ => n - (intOf i).toNat)
  case atStart =>
    refine ⟨0, 0, _, by omega, rfl, rfl, ⟨by simp; have := lA.out; omega, Lt.replicate (by unfold B32; omega), by omega, by simp [val]⟩, hB1, hb1'⟩
  case round =>
    obtain ⟨k, cr, os, hk, rfl, rfl, hP, hN, hbl⟩ := hrel
    have hPH := Lib.hid hP
    have hNH := Lib.hid hN
    have hcr : cr ≤ 1 := hP.2.2.1
    have hol : os.length = xs.length + 1 := hP.1
    have holH := Lib.hid hol
    obtain ⟨wo, rfl⟩ : ∃ wo : World, wo = wr := ⟨_, rfl⟩
    have hgl : w.heap.size < wo.heap.size := hN.lt
    clear hP hN hol hB1 hb1'
    by_cases hk0 : k < n
    · obtain ⟨b1, o1, p, hp, hae, hc1⟩ := (hA.out.below hbl).at (i := k) (by have := lA.out; omega)
      subst hae
      have hp1 : p < 4294967296 := dA.out.at hp
      have hpH := Lib.hid hp
      clear hp
      obtain ⟨z, hz⟩ : ∃ z, os[k]? = some z := ⟨_, List.getElem?_eq_getElem (by have := lA.out; have := holH.out; omega)⟩
      have hoc := hNH.out.at hz
      have hof := Blk.frozen hNH.out k
      clear hz
      by_cases hy : k < m
      · obtain ⟨b2, o2, q, hq, hae, hc2⟩ := (hC.out.below hbl).at (i := k) (by have := lC.out; omega)
        subst hae
        have hq1 : q < 4294967296 := dC.out.at hq
        have hqH := Lib.hid hq
        clear hq
        go_wp2_with (first | (go_at_call 81; (with_reducible refine (add32_any _ _ _ _ hp1 hq1 hcr).mono ?_); rintro e w1 ⟨rfl, rfl⟩))
        all_goals
          go_roundw
          case rel => exact ⟨k + 1, _, _, by omega, by go_num, rfl, hPH.out.step hpH.out (Or.inl hqH.out) hp1 hq1, hNH.out.set _ _, hbl.setCell (Nat.le_refl _) _⟩
          case measure => simp [intOf]; omega
      · go_wp2_with (first | (go_at_call 81; (with_reducible refine (add32_zero _ _ _ hp1 hcr).mono ?_); rintro e w1 ⟨rfl, rfl⟩))
        all_goals
          go_roundw
          case rel => exact ⟨k + 1, _, _, by omega, by go_num, rfl, hPH.out.step hpH.out (Or.inr ⟨by have := lC.out; omega, rfl⟩) hp1 (by unfold B32; omega), hNH.out.set _ _, hbl.setCell (Nat.le_refl _) _⟩
          case measure => simp [intOf]; omega
    · obtain ⟨z, hz⟩ : ∃ z, os[n]? = some z := ⟨_, List.getElem?_eq_getElem (by have := lA.out; have := holH.out; omega)⟩
      have hoc := hNH.out.at hz
      have hof := Blk.frozen hNH.out n
      have hPk := hPH.out
      rw [show k = xs.length by have := lA.out; omega] at hPk
      obtain ⟨d1, d2, d3⟩ := hPk.done (by have := lA.out; have := lC.out; omega)
      have hN2 := hNH.out.set xs.length cr
      rw [lA.out] at hN2 d1 d2 d3
      have hbl2 : Below w.heap.size w (wo.setCell ⟨w.heap.size, n, none⟩ (.int .u32 (cr : Nat))) := hbl.setCell (Nat.le_refl _) _
      have d1H := Lib.hid d1
      have d2H := Lib.hid d2
      have d3H := Lib.hid d3
      have hN2H := Lib.hid hN2
      have hbl2H := Lib.hid hbl2
      have hfin : Hid (val B32 (os.set n cr) = x + y) := by
        have e1 := vA.out
        have e2 := vC.out
        show val B32 (os.set n cr) = x + y
        rw [d3, e1, e2]
      clear hz hPk d1 d2 d3 hN2 hbl2
      have htrim := trim_any (some ⟨w.heap.size, 0, none⟩) (n + 1) (os.set n cr) _ hN2H.out.dg d1H.out (by rw [d2H.out]; omega) (by rw [d2H.out]; exact Nat.le_refl _)
      rw [d2H.out, hfin.out] at htrim
      have htH := Lib.hid htrim
      clear htrim
      go_wp2_with (first | (go_at_call 54; (with_reducible refine htH.out.mono ?_); rintro e w1 ⟨rfl, hm, rfl⟩))
      go_ret
      exact ⟨_, _, rfl, hm, hbl2H.out⟩

set_option maxHeartbeats 800000 in
theorem plus_lt (a1 a2 : Option Addr) (c1 c2 x y : Nat) (w : World) (h1 : Mag w a1 c1 x) (h2 : Mag w a2 c2 y) (hb1 : L B32 x ≤ 1000000000) (hb2 : L B32 y ≤ 1000000000) (hle : L B32 x < L B32 y) :
    Calls Try.prog 71 #[.slice a1 (L B32 x) c1, .slice a2 (L B32 y) c2] w (RetMag w (x + y)) := by
  have hA := Lib.hid h2.2
  have hC := Lib.hid h1.2
  have vA := Lib.hid (val_digs two_le_B32 y)
  have vC := Lib.hid (val_digs two_le_B32 x)
  have lA : Hid ((digs B32 y).length = L B32 y) := rfl
  have lC : Hid ((digs B32 x).length = L B32 x) := rfl
  have dA := Lib.hid (show Lt B32 (digs B32 y) from digs_lt two_le_B32 y)
  have dC := Lib.hid (show Lt B32 (digs B32 x) from digs_lt two_le_B32 x)
  generalize digs B32 y = xs at *
  generalize digs B32 x = ys at *
  generalize L B32 y = n at *
  generalize L B32 x = m at *
  clear h1 h2
  go_enter Try.func71, Try.ntmps71
  go_wp2_with (first | (at_make; refine wpList_make_zero _ rfl (.tmp 18) _ rfl 100 .u32 4 Try.underlying47 info_u32 (by omega) .i64 _ (n + 1) rfl (by simp) (by omega) ?_; intro w1 hB1 hb1'))
  go_loopw [6, 22] (fun c i wr => ∃ k cr os, k ≤ n ∧ i = .int .i64 (k : Nat) ∧ c = .int .u32 (cr : Nat) ∧ PlusInv xs ys os k cr ∧ Nblk .u32 wr w.heap.size 100 os ∧ Below w.heap.size w wr) (fun _ i _ => n - (intOf i).toNat)
  case atStart =>
    refine ⟨0, 0, _, by omega, rfl, rfl, ⟨by simp; have := lA.out; omega, Lt.replicate (by unfold B32; omega), by omega, by simp [val]⟩, hB1, hb1'⟩
  case round =>
    obtain ⟨k, cr, os, hk, rfl, rfl, hP, hN, hbl⟩ := hrel
    have hPH := Lib.hid hP
    have hNH := Lib.hid hN
    have hcr : cr ≤ 1 := hP.2.2.1
    have hol : os.length = xs.length + 1 := hP.1
    have holH := Lib.hid hol
    obtain ⟨wo, rfl⟩ : ∃ wo : World, wo = wr := ⟨_, rfl⟩
    have hgl : w.heap.size < wo.heap.size := hN.lt
    clear hP hN hol hB1 hb1'
    by_cases hk0 : k < n
    · obtain ⟨b1, o1, p, hp, hae, hc1⟩ := (hA.out.below hbl).at (i := k) (by have := lA.out; omega)
      subst hae
      have hp1 : p < 4294967296 := dA.out.at hp
      have hpH := Lib.hid hp
      clear hp
      obtain ⟨z, hz⟩ : ∃ z, os[k]? = some z := ⟨_, List.getElem?_eq_getElem (by have := lA.out; have := holH.out; omega)⟩
      have hoc := hNH.out.at hz
      have hof := Blk.frozen hNH.out k
      clear hz
      by_cases hy : k < m
      · obtain ⟨b2, o2, q, hq, hae, hc2⟩ := (hC.out.below hbl).at (i := k) (by have := lC.out; omega)
        subst hae
        have hq1 : q < 4294967296 := dC.out.at hq
        have hqH := Lib.hid hq
        clear hq
        go_wp2_with (first | (go_at_call 81; (with_reducible refine (add32_any _ _ _ _ hp1 hq1 hcr).mono ?_); rintro e w1 ⟨rfl, rfl⟩))
        all_goals
          go_roundw
          case rel => exact ⟨k + 1, _, _, by omega, by go_num, rfl, hPH.out.step hpH.out (Or.inl hqH.out) hp1 hq1, hNH.out.set _ _, hbl.setCell (Nat.le_refl _) _⟩
          case measure => simp [intOf]; omega
      · go_wp2_with (first | (go_at_call 81; (with_reducible refine (add32_zero _ _ _ hp1 hcr).mono ?_); rintro e w1 ⟨rfl, rfl⟩))
        all_goals
          go_roundw
          case rel => exact ⟨k + 1, _, _, by omega, by go_num, rfl, hPH.out.step hpH.out (Or.inr ⟨by have := lC.out; omega, rfl⟩) hp1 (by unfold B32; omega), hNH.out.set _ _, hbl.setCell (Nat.le_refl _) _⟩
          case measure => simp [intOf]; omega
    · obtain ⟨z, hz⟩ : ∃ z, os[n]? = some z := ⟨_, List.getElem?_eq_getElem (by have := lA.out; have := holH.out; omega)⟩
      have hoc := hNH.out.at hz
      have hof := Blk.frozen hNH.out n
      have hPk := hPH.out
      rw [show k = xs.length by have := lA.out; omega] at hPk
      obtain ⟨d1, d2, d3⟩ := hPk.done (by have := lA.out; have := lC.out; omega)
      have hN2 := hNH.out.set xs.length cr
      rw [lA.out] at hN2 d1 d2 d3
      have hbl2 : Below w.heap.size w (wo.setCell ⟨w.heap.size, n, none⟩ (.int .u32 (cr : Nat))) := hbl.setCell (Nat.le_refl _) _
      have d1H := Lib.hid d1
      have d2H := Lib.hid d2
      have d3H := Lib.hid d3
      have hN2H := Lib.hid hN2
      have hbl2H := Lib.hid hbl2
      have hfin : Hid (val B32 (os.set n cr) = x + y) := by
        have e1 := vA.out
        have e2 := vC.out
        show val B32 (os.set n cr) = x + y
        rw [d3, e1, e2]; omega
      clear hz hPk d1 d2 d3 hN2 hbl2
      have htrim := trim_any (some ⟨w.heap.size, 0, none⟩) (n + 1) (os.set n cr) _ hN2H.out.dg d1H.out (by rw [d2H.out]; omega) (by rw [d2H.out]; exact Nat.le_refl _)
      rw [d2H.out, hfin.out] at htrim
      have htH := Lib.hid htrim
      clear htrim
      go_wp2_with (first | (go_at_call 54; (with_reducible refine htH.out.mono ?_); rintro e w1 ⟨rfl, hm, rfl⟩))
      go_ret
      exact ⟨_, _, rfl, hm, hbl2H.out⟩

theorem plus_any (a1 a2 : Option Addr) (c1 c2 x y : Nat) (w : World) (h1 : Mag w a1 c1 x) (h2 : Mag w a2 c2 y) (hb1 : L B32 x ≤ 1000000000) (hb2 : L B32 y ≤ 1000000000) :
    Calls Try.prog 71 #[.slice a1 (L B32 x) c1, .slice a2 (L B32 y) c2] w (RetMag w (x + y)) := by
  rcases Nat.lt_or_ge (L B32 x) (L B32 y) with h | h
  · exact plus_lt a1 a2 c1 c2 x y w h1 h2 hb1 hb2 h
  · exact plus_ge a1 a2 c1 c2 x y w h1 h2 hb1 hb2 h

-- minus
/-- What has been subtracted after k digits. -/
def MinusInv (xs ys os : List Nat) (k c : Nat) : Prop :=
  os.length = xs.length ∧ Lt B32 os ∧ c ≤ 1 ∧ val B32 (os.take k) + val B32 (ys.take k) = val B32 (xs.take k) + B32 ^ k * c

theorem sub_digit (x y c : Nat) (hx : x < B32) (hy : y < B32) (hc : c ≤ 1) : sdig x y c + y + c = x + B32 * bor x y c := by
  unfold sdig bor B32 at *
  split <;> omega

theorem MinusInv.step {xs ys os : List Nat} {k c x y : Nat} (h : MinusInv xs ys os k c) (hx : xs[k]? = some x) (hy : ys[k]? = some y ∨ (ys.length ≤ k ∧ y = 0)) (hx1 : x < B32) (hy1 : y < B32) :
    MinusInv xs ys (os.set k (sdig x y c)) (k + 1) (bor x y c) := by
  obtain ⟨h1, h2, h3, h4⟩ := h
  have hk : k < xs.length := (List.getElem?_eq_some_iff.1 hx).1
  have hB : 0 < B32 := by unfold B32; omega
  refine ⟨by simpa using h1, h2.set _ _ (Nat.mod_lt _ hB), bor_le _ _ _, ?_⟩
  rw [val_set_take _ _ _ _ (by omega), val_take_succ _ _ _ _ hx, val_take_get _ _ _ _ hy, Nat.pow_succ]
  exact minus_step B32 _ _ x y c _ _ _ _ h4 (sub_digit x y c hx1 hy1 h3)

theorem MinusInv.done {xs ys os : List Nat} {c : Nat} (h : MinusInv xs ys os xs.length c) (hl : ys.length ≤ xs.length) (hv : val B32 ys ≤ val B32 xs) :
    val B32 os = val B32 xs - val B32 ys := by
  obtain ⟨h1, h2, h3, h4⟩ := h
  rw [List.take_of_length_le (by omega), List.take_of_length_le hl, List.take_of_length_le (Nat.le_refl _)] at h4
  have h5 := val_lt os h2
  rw [h1] at h5
  have : c = 0 := by
    rcases Nat.eq_zero_or_pos c with h0 | h0
    · exact h0
    · have : c = 1 := by omega
      subst this
      omega
  subst this
  omega

set_option maxHeartbeats 800000 in
theorem minus_any (a1 a2 : Option Addr) (c1 c2 x y : Nat) (w : World) (h1 : Mag w a1 c1 x) (h2 : Mag w a2 c2 y) (hb1 : L B32 x ≤ 1000000000) (hxy : y ≤ x) :
    Calls Try.prog 73 #[.slice a1 (L B32 x) c1, .slice a2 (L B32 y) c2] w (RetMag w (x - y)) := by
  have hle := L_mono two_le_B32 hxy
  have hA := Lib.hid h1.2
  have hC := Lib.hid h2.2
  have vA := Lib.hid (val_digs two_le_B32 x)
  have vC := Lib.hid (val_digs two_le_B32 y)
  have lA : Hid ((digs B32 x).length = L B32 x) := rfl
  have lC : Hid ((digs B32 y).length = L B32 y) := rfl
  have dA := Lib.hid (show Lt B32 (digs B32 x) from digs_lt two_le_B32 x)
  have dC := Lib.hid (show Lt B32 (digs B32 y) from digs_lt two_le_B32 y)
  generalize digs B32 x = xs at *
  generalize digs B32 y = ys at *
  generalize L B32 x = n at *
  generalize L B32 y = m at *
  clear h1 h2
  go_enter Try.func73, Try.ntmps73
  go_wp2_with (first | (at_make; refine wpList_make_zero _ rfl (.tmp 10) _ rfl 100 .u32 4 Try.underlying47 info_u32 (by omega) .i64 _ n rfl rfl (by omega) ?_; intro w1 hB1 hb1'))
  go_loopw [6, 14] (fun c i wr => ∃ k cr os, k ≤ n ∧ i = .int .i64 (k : Nat) ∧ c = .int .u32 (cr : Nat) ∧ MinusInv xs ys os k cr ∧ Nblk .u32 wr w.heap.size 100 os ∧ Below w.heap.size w wr) (fun _ i _ => n - (intOf i).toNat)
  case atStart =>
    refine ⟨0, 0, _, by omega, rfl, rfl, ⟨by simp; have := lA.out; omega, Lt.replicate (by unfold B32; omega), by omega, by simp [val]⟩, hB1, hb1'⟩
  case round =>
    obtain ⟨k, cr, os, hk, rfl, rfl, hP, hN, hbl⟩ := hrel
    have hPH := Lib.hid hP
    have hNH := Lib.hid hN
    have hcr : cr ≤ 1 := hP.2.2.1
    have hol : os.length = xs.length := hP.1
    have holH := Lib.hid hol
    obtain ⟨wo, rfl⟩ : ∃ wo : World, wo = wr := ⟨_, rfl⟩
    have hgl : w.heap.size < wo.heap.size := hN.lt
    clear hP hN hol hB1 hb1'
    by_cases hk0 : k < n
    · obtain ⟨b1, o1, p, hp, hae, hc1⟩ := (hA.out.below hbl).at (i := k) (by have := lA.out; omega)
      subst hae
      have hp1 : p < 4294967296 := dA.out.at hp
      have hpH := Lib.hid hp
      clear hp
      obtain ⟨z, hz⟩ : ∃ z, os[k]? = some z := ⟨_, List.getElem?_eq_getElem (by have := lA.out; have := holH.out; omega)⟩
      have hoc := hNH.out.at hz
      have hof := Blk.frozen hNH.out k
      clear hz
      by_cases hy : k < m
      · obtain ⟨b2, o2, q, hq, hae, hc2⟩ := (hC.out.below hbl).at (i := k) (by have := lC.out; omega)
        subst hae
        have hq1 : q < 4294967296 := dC.out.at hq
        have hqH := Lib.hid hq
        clear hq
        go_wp2_with (first | (go_at_call 82; (with_reducible refine (sub32_any _ _ _ _ hp1 hq1 hcr).mono ?_); rintro e w1 ⟨rfl, rfl⟩))
        all_goals
          go_roundw
          case rel => exact ⟨k + 1, _, _, by omega, by go_num, rfl, hPH.out.step hpH.out (Or.inl hqH.out) hp1 hq1, hNH.out.set _ _, hbl.setCell (Nat.le_refl _) _⟩
          case measure => simp [intOf]; omega
      · go_wp2_with (first | (go_at_call 82; (with_reducible refine (sub32_zero _ _ _ hp1 hcr).mono ?_); rintro e w1 ⟨rfl, rfl⟩))
        all_goals
          go_roundw
          case rel => exact ⟨k + 1, _, _, by omega, by go_num, rfl, hPH.out.step hpH.out (Or.inr ⟨by have := lC.out; omega, rfl⟩) hp1 (by unfold B32; omega), hNH.out.set _ _, hbl.setCell (Nat.le_refl _) _⟩
          case measure => simp [intOf]; omega
    · have hPk := hPH.out
      rw [show k = xs.length by have := lA.out; omega] at hPk
      have d3 := hPk.done (by have := lA.out; have := lC.out; omega) (by rw [vA.out, vC.out]; exact hxy)
      rw [vA.out, vC.out] at d3
      have htrim := trim_any (some ⟨w.heap.size, 0, none⟩) n os wo hNH.out.dg hPH.out.2.1 (by rw [holH.out, lA.out]; omega) (by rw [holH.out, lA.out]; exact Nat.le_refl _)
      rw [holH.out, lA.out, d3] at htrim
      have htH := Lib.hid htrim
      clear htrim d3 hPk
      go_wp2_with (first | (go_at_call 54; (with_reducible refine htH.out.mono ?_); rintro e w1 ⟨rfl, hm, rfl⟩))
      go_ret
      exact ⟨_, _, rfl, hm, hbl⟩

end Go.Proofs.Ytkecdjdggkpdpab

/- Walks of the program's sizes: times. -/
namespace Go.Proofs.Ytkecdjdggkpdpab
open Go Go.RowKit Go.Proofs

/-- The product of the first k limbs and all of ys. -/
def TimesInv (xs ys os : List Nat) (k : Nat) : Prop :=
  os.length = xs.length + ys.length ∧ Lt B32 os ∧ val B32 (os.take (k + ys.length)) = val B32 (xs.take k) * val B32 ys

/-- The row of limb k, up to the limb j of ys. -/
def RowInv (xs ys os : List Nat) (k x j c : Nat) : Prop :=
  os.length = xs.length + ys.length ∧ Lt B32 os ∧ c < B32 ∧ val B32 (os.take (k + ys.length)) + B32 ^ (k + j) * c = val B32 (xs.take k) * val B32 ys + B32 ^ k * (x * val B32 (ys.take j))

theorem TimesInv.row {xs ys os : List Nat} {k : Nat} (h : TimesInv xs ys os k) (x : Nat) : RowInv xs ys os k x 0 0 :=
  ⟨h.1, h.2.1, by unfold B32; omega, by rw [h.2.2]; simp [val]⟩

theorem mul_lt_B (x y z c : Nat) (hx : x < B32) (hy : y < B32) (hz : z < B32) (hc : c < B32) : (x * y + z + c) / B32 < B32 := by
  rw [Nat.div_lt_iff_lt_mul (by unfold B32; omega)]
  have : x * y ≤ (B32 - 1) * (B32 - 1) := Nat.mul_le_mul (by omega) (by omega)
  unfold B32 at *
  omega

theorem RowInv.step {xs ys os : List Nat} {k x j c y z : Nat} (h : RowInv xs ys os k x j c) (hy : ys[j]? = some y) (hz : os[k + j]? = some z) (hx1 : x < B32) (hy1 : y < B32) :
    RowInv xs ys (os.set (k + j) ((x * y + z + c) % B32)) k x (j + 1) ((x * y + z + c) / B32) := by
  obtain ⟨h1, h2, h3, h4⟩ := h
  have hj : j < ys.length := (List.getElem?_eq_some_iff.1 hy).1
  have hB : 0 < B32 := by unfold B32; omega
  refine ⟨by simpa using h1, h2.set _ _ (Nat.mod_lt _ hB), mul_lt_B x y z c hx1 hy1 (h2.at hz) h3, ?_⟩
  have e1 := val_set_any B32 os (k + j) (k + ys.length) ((x * y + z + c) % B32) z hz (by omega)
  have e2 := times_step B32 (B32 ^ (k + j)) _ _ z x y c ((x * y + z + c) % B32) ((x * y + z + c) / B32) _ h4 e1 (Nat.mod_add_div _ _)
  rw [← Nat.add_assoc, Nat.pow_succ, e2, val_take_succ B32 ys j y hy, Nat.mul_add x, Nat.mul_add (B32 ^ k), Nat.pow_add]
  rw [Nat.add_assoc]
  congr 1
  congr 1
  rw [Nat.mul_assoc, Nat.mul_left_comm x]

theorem RowInv.done {xs ys os : List Nat} {k x c : Nat} (h : RowInv xs ys os k x ys.length c) (hx : xs[k]? = some x) : TimesInv xs ys (os.set (k + ys.length) c) (k + 1) := by
  obtain ⟨h1, h2, h3, h4⟩ := h
  have hk : k < xs.length := (List.getElem?_eq_some_iff.1 hx).1
  refine ⟨by simpa using h1, h2.set _ _ h3, ?_⟩
  rw [show k + 1 + ys.length = k + ys.length + 1 by omega, val_set_take _ _ _ _ (by omega), h4, val_take_succ _ _ _ _ hx, List.take_of_length_le (Nat.le_refl ys.length), Nat.add_mul, Nat.mul_assoc]

theorem mul_bound (x y : Nat) (hx : x < 4294967296) (hy : y < 4294967296) : (0 : Int) ≤ (x : Int) * y ∧ (x : Int) * y ≤ 18446744065119617025 := by
  have h1 : x * y ≤ 4294967295 * 4294967295 := Nat.mul_le_mul (by omega) (by omega)
  have h2 : ((x * y : Nat) : Int) = (x : Int) * y := by simp
  omega

set_option maxHeartbeats 1600000 in
theorem times_any (a1 a2 : Option Addr) (c1 c2 x y : Nat) (w : World) (h1 : Mag w a1 c1 x) (h2 : Mag w a2 c2 y) (hb1 : L B32 x ≤ 1000000000) (hb2 : L B32 y ≤ 1000000000) :
    Calls Try.prog 57 #[.slice a1 (L B32 x) c1, .slice a2 (L B32 y) c2] w (RetMag w (x * y)) := by
  have hA := Lib.hid h1.2
  have hC := Lib.hid h2.2
  have vA := Lib.hid (val_digs two_le_B32 x)
  have vC := Lib.hid (val_digs two_le_B32 y)
  have lA : Hid ((digs B32 x).length = L B32 x) := rfl
  have lC : Hid ((digs B32 y).length = L B32 y) := rfl
  have dA := Lib.hid (show Lt B32 (digs B32 x) from digs_lt two_le_B32 x)
  have dC := Lib.hid (show Lt B32 (digs B32 y) from digs_lt two_le_B32 y)
  generalize digs B32 x = xs at *
  generalize digs B32 y = ys at *
  generalize L B32 x = n at *
  generalize L B32 y = m at *
  clear h1 h2
  go_enter Try.func57, Try.ntmps57
  go_wp2_with (first | (at_make; refine wpList_make_zero _ rfl (.tmp 16) _ rfl 100 .u32 4 Try.underlying47 info_u32 (by omega) .i64 _ (n + m) rfl (by simp) (by omega) ?_; intro w1 hB1 hb1'))
  go_loopw [20] (fun i wr => ∃ k os, k ≤ n ∧ i = .int .i64 (k : Nat) ∧ TimesInv xs ys os k ∧ Nblk .u32 wr w.heap.size 100 os ∧ Below w.heap.size w wr) (fun i _ => n - (intOf i).toNat)
  case atStart =>
    refine ⟨0, _, by omega, rfl, ⟨by simp; have := lA.out; have := lC.out; omega, Lt.replicate (by unfold B32; omega), ?_⟩, hB1, hb1'⟩
    rw [List.take_replicate, val_replicate]; simp [val]
  case round =>
    obtain ⟨k, os, hk, rfl, hP, hN, hbl⟩ := hrel
    have hPH := Lib.hid hP
    have hNH := Lib.hid hN
    have hol : os.length = xs.length + ys.length := hP.1
    have holH := Lib.hid hol
    obtain ⟨wo, rfl⟩ : ∃ wo : World, wo = wr := ⟨_, rfl⟩
    have hgl : w.heap.size < wo.heap.size := hN.lt
    clear hP hN hol hB1 hb1'
    by_cases hk0 : k < n
    · obtain ⟨b1, o1, p, hp, hae, hc1⟩ := (hA.out.below hbl).at (i := k) (by have := lA.out; omega)
      subst hae
      have hp1 : p < 4294967296 := dA.out.at hp
      have hpH := Lib.hid hp
      clear hp
      go_wp2
      go_loopw [8, 27] (fun c i wr => ∃ j cr os, j ≤ m ∧ i = .int .i64 (j : Nat) ∧ c = .int .u64 (cr : Nat) ∧ RowInv xs ys os k p j cr ∧ Nblk .u32 wr w.heap.size 100 os ∧ Below w.heap.size w wr) (fun _ i _ => m - (intOf i).toNat)
      case atStart => exact ⟨0, 0, os, by omega, rfl, rfl, hPH.out.row p, hNH.out, hbl⟩
      case round =>
        obtain ⟨j, cr, os2, hj, rfl, rfl, hP2, hN2, hbl2⟩ := hrel
        have hP2H := Lib.hid hP2
        have hN2H := Lib.hid hN2
        have hcr : cr < 4294967296 := hP2.2.2.1
        have hol2 : os2.length = xs.length + ys.length := hP2.1
        have hol2H := Lib.hid hol2
        obtain ⟨wo2, rfl⟩ : ∃ wo2 : World, wo2 = wr := ⟨_, rfl⟩
        have hgl2 : w.heap.size < wo2.heap.size := hN2.lt
        clear hP2 hN2 hol2 hc1
        by_cases hj0 : j < m
        · obtain ⟨b2, o2, q, hq, hae, hc2⟩ := (hC.out.below hbl2).at (i := j) (by have := lC.out; omega)
          subst hae
          have hq1 : q < 4294967296 := dC.out.at hq
          have hqH := Lib.hid hq
          clear hq
          obtain ⟨z, hz⟩ : ∃ z, os2[k + j]? = some z := ⟨_, List.getElem?_eq_getElem (by have := lA.out; have := lC.out; have := hol2H.out; omega)⟩
          have hoc := hN2H.out.at hz
          have hof := Blk.frozen hN2H.out (k + j)
          have hz1 : z < 4294967296 := hP2H.out.2.1.at hz
          have hzH := Lib.hid hz
          clear hz
          obtain ⟨m0, m1⟩ := mul_bound p q hp1 hq1
          go_wp2
          all_goals
            go_roundw
            case rel =>
              refine ⟨j + 1, _, _, by omega, by go_num, int_eq ?_, hP2H.out.step hqH.out hzH.out hp1 hq1, hN2H.out.set' ?_, hbl2.setCell (Nat.le_refl _) _⟩
              · unfold B32; simp
              · unfold B32; simp
            case measure => simp [intOf]; omega
        · obtain ⟨z, hz⟩ : ∃ z, os2[k + m]? = some z := ⟨_, List.getElem?_eq_getElem (by have := lA.out; have := lC.out; have := hol2H.out; omega)⟩
          have hoc := hN2H.out.at hz
          have hof := Blk.frozen hN2H.out (k + m)
          clear hz
          have hPj := hP2H.out
          rw [show j = ys.length by have := lC.out; omega] at hPj
          have hD := hPj.done hpH.out
          rw [lC.out] at hD
          have hDH := Lib.hid hD
          clear hPj hD
          go_wp2
          all_goals
            go_roundw
            case rel =>
              refine ⟨k + 1, _, by omega, by go_num, hDH.out, hN2H.out.set' ?_, hbl2.setCell (Nat.le_refl _) _⟩
              omega
            case measure => simp [intOf]; omega
    · have hPk := hPH.out
      have e0 : os.take (k + ys.length) = os := List.take_of_length_le (by have := holH.out; have := lA.out; omega)
      have e1 : xs.take k = xs := List.take_of_length_le (by have := lA.out; omega)
      have d3 := hPk.2.2
      rw [e0, e1, vA.out, vC.out] at d3
      have htrim := trim_any (some ⟨w.heap.size, 0, none⟩) (n + m) os wo hNH.out.dg hPH.out.2.1 (by rw [holH.out, lA.out, lC.out]; omega) (by rw [holH.out, lA.out, lC.out]; exact Nat.le_refl _)
      rw [holH.out, lA.out, lC.out, d3] at htrim
      have htH := Lib.hid htrim
      clear htrim d3 hPk e0 e1
      go_wp2_with (first | (go_at_call 54; (with_reducible refine htH.out.mono ?_); rintro e w1 ⟨rfl, hm, rfl⟩))
      go_ret
      exact ⟨_, _, rfl, hm, hbl⟩

end Go.Proofs.Ytkecdjdggkpdpab

/- Walks of the program's sizes: byWord, up, down. -/
namespace Go.Proofs.Ytkecdjdggkpdpab
open Go Go.RowKit Go.Proofs

theorem u64_join (r x : Nat) (hr : r < 4294967296) (hx : x < 4294967296) : bits BinOp.or IntKind.u64 ((r : Int) * 4294967296) x = (r : Int) * 4294967296 + x := by
  have e : (r : Int) * 4294967296 = ((r * 4294967296 : Nat) : Int) := by simp
  rw [e, u64_or_nat _ _ (by omega) (by omega), nat_join 32 _ _ (by omega) (by omega)]
  simp

/-- The quotient's limbs from k on. -/
def WordInv (xs os : List Nat) (d k r : Nat) : Prop :=
  os.length = xs.length ∧ Lt B32 os ∧ r < d ∧ val B32 (os.drop k) * d + r = val B32 (xs.drop k)

theorem quo_lt (r x d : Nat) (hr : r < d) (hx : x < B32) : (r * B32 + x) / d < B32 := by
  rw [Nat.div_lt_iff_lt_mul (by omega)]
  have : (r + 1) * B32 ≤ d * B32 := Nat.mul_le_mul_right _ hr
  rw [Nat.add_mul] at this
  rw [Nat.mul_comm B32 d]
  omega

theorem WordInv.step {xs os : List Nat} {d k r x : Nat} (h : WordInv xs os d (k + 1) r) (hx : xs[k]? = some x) (hx1 : x < B32) :
    WordInv xs (os.set k ((r * B32 + x) / d)) d k ((r * B32 + x) % d) := by
  obtain ⟨h1, h2, h3, h4⟩ := h
  have hk : k < xs.length := (List.getElem?_eq_some_iff.1 hx).1
  refine ⟨by simpa using h1, h2.set _ _ (quo_lt r x d h3 hx1), Nat.mod_lt _ (by omega), ?_⟩
  rw [val_drop B32 xs k x hx, val_drop B32 (os.set k ((r * B32 + x) / d)) k ((r * B32 + x) / d) (by simp [h1, hk]), val_set_drop _ _ _ _ _ (by omega), ← h4]
  have e := Nat.div_add_mod (r * B32 + x) d
  rw [Nat.mul_comm d] at e
  rw [Nat.add_mul, Nat.mul_add, ← Nat.mul_assoc B32, Nat.mul_comm B32 r]
  omega

theorem WordInv.done {xs os : List Nat} {d r : Nat} (h : WordInv xs os d 0 r) : val B32 os = val B32 xs / d ∧ r = val B32 xs % d := by
  obtain ⟨h1, h2, h3, h4⟩ := h
  simp only [List.drop_zero] at h4
  rw [← h4, Nat.add_comm, Nat.add_mul_div_right _ _ (by omega), Nat.add_mul_mod_self_right, Nat.div_eq_of_lt h3, Nat.mod_eq_of_lt h3]
  simp

def WordPost (w : World) (x d : Nat) (e : Ending) (w' : World) : Prop :=
  ∃ ao cap, e = .returned (.tuple #[.slice ao (L B32 (x / d)) cap, .int .u32 ((x % d : Nat) : Int)]) ∧ Mag w' ao cap (x / d) ∧ Below w.heap.size w w'

/-- The same, and that the quotient lies in the new block. -/
def WordAt (w : World) (x d : Nat) (e : Ending) (w' : World) : Prop :=
  ∃ cap os, e = .returned (.tuple #[.slice (some ⟨w.heap.size, 0, none⟩) (L B32 (x / d)) cap, .int .u32 ((x % d : Nat) : Int)]) ∧ Mag w' (some ⟨w.heap.size, 0, none⟩) cap (x / d) ∧ Nblk .u32 w' w.heap.size 100 os ∧ Below w.heap.size w w'

set_option maxHeartbeats 1600000 in
theorem byWord_at (a1 : Option Addr) (c1 x d : Nat) (w : World) (h1 : Mag w a1 c1 x) (hb1 : L B32 x ≤ 1000000000) (hd0 : 0 < d) (hd1 : d < 4294967296) :
    Calls Try.prog 63 #[.slice a1 (L B32 x) c1, .int .u32 (d : Nat)] w (WordAt w x d) := by
  have hA := Lib.hid h1.2
  have vA := Lib.hid (val_digs two_le_B32 x)
  have lA : Hid ((digs B32 x).length = L B32 x) := rfl
  have dA := Lib.hid (show Lt B32 (digs B32 x) from digs_lt two_le_B32 x)
  generalize digs B32 x = xs at *
  generalize L B32 x = n at *
  clear h1
  have hdz : ((d : Int) == 0) = false := by simp; omega
  go_enter Try.func63, Try.ntmps63
  go_wp2_with (first | (at_make; refine wpList_make_zero _ rfl (.tmp 11) _ rfl 100 .u32 4 Try.underlying47 info_u32 (by omega) .i64 _ n rfl rfl (by omega) ?_; intro w1 hB1 hb1'))
  go_loopw [7, 8] (fun r i wr => ∃ k rr os, k ≤ n ∧ i = .int .i64 ((k : Int) - 1) ∧ r = .int .u64 (rr : Nat) ∧ WordInv xs os d k rr ∧ Nblk .u32 wr w.heap.size 100 os ∧ Below w.heap.size w wr) (fun _ i _ => (intOf i + 1).toNat)
  case atStart =>
    refine ⟨n, 0, _, by omega, rfl, rfl, ⟨by simp; have := lA.out; omega, Lt.replicate (by unfold B32; omega), hd0, ?_⟩, hB1, hb1'⟩
    rw [List.drop_of_length_le (by simp), List.drop_of_length_le (by have := lA.out; omega)]; simp [val]
  case round =>
    obtain ⟨k, rr, os, hk, rfl, rfl, hP, hN, hbl⟩ := hrel
    have hPH := Lib.hid hP
    have hNH := Lib.hid hN
    have hrr : rr < d := hP.2.2.1
    have hol : os.length = xs.length := hP.1
    have holH := Lib.hid hol
    obtain ⟨wo, rfl⟩ : ∃ wo : World, wo = wr := ⟨_, rfl⟩
    have hgl : w.heap.size < wo.heap.size := hN.lt
    clear hP hN hol hB1 hb1'
    by_cases hk0 : 0 < k
    · obtain ⟨b1, o1, p, hp, hae, hc1⟩ := (hA.out.below hbl).at (i := k - 1) (by have := lA.out; omega)
      subst hae
      have hp1 : p < 4294967296 := dA.out.at hp
      have hpH := Lib.hid hp
      clear hp
      obtain ⟨z, hz⟩ : ∃ z, os[k - 1]? = some z := ⟨_, List.getElem?_eq_getElem (by have := lA.out; have := holH.out; omega)⟩
      have hoc := hNH.out.at hz
      have hof := Blk.frozen hNH.out (k - 1)
      clear hz
      have i0 : (0 : Int) ≤ (k : Int) - 1 := by omega
      have i1 : (k : Int) - 1 < n := by omega
      have hor := u64_join rr p (by omega) hp1
      have hS : WordInv xs os d (k - 1 + 1) rr := by rw [Nat.sub_add_cancel hk0]; exact hPH.out
      have hS2 := Lib.hid (hS.step hpH.out hp1)
      clear hS
      go_wp2
      go_region
      go_wp2
      go_roundw
      case rel =>
        refine ⟨k - 1, _, _, by omega, by go_num, int_eq ?_, hS2.out, Nblk.drew' (hNH.out.set' ?_), (hbl.setCell (Nat.le_refl _) _).drew⟩
        · unfold B32; simp
        · have e := quo_lt rr p d hrr hp1
          have e2 : (((rr : Int) * 4294967296 + p) / d) = (((rr * B32 + p) / d : Nat) : Int) := by unfold B32; simp
          rw [e2]
          generalize (rr * B32 + p) / d = q at *
          unfold B32 at e
          omega
      case measure => simp [intOf]; omega
    · have hPk := hPH.out
      rw [show k = 0 by omega] at hPk
      obtain ⟨d3, d4⟩ := hPk.done
      rw [vA.out] at d3 d4
      have htrim := trim_any (some ⟨w.heap.size, 0, none⟩) n os wo hNH.out.dg hPH.out.2.1 (by rw [holH.out, lA.out]; omega) (by rw [holH.out, lA.out]; exact Nat.le_refl _)
      rw [holH.out, lA.out, d3] at htrim
      have htH := Lib.hid htrim
      have d4H := Lib.hid d4
      clear htrim d3 d4 hPk
      go_wp2_with (first | (go_at_call 54; (with_reducible refine htH.out.mono ?_); rintro e w1 ⟨rfl, hm, rfl⟩))
      go_ret2
      refine ⟨_, _, ?_, hm, hNH.out, hbl⟩
      rw [← d4H.out]
      rfl

theorem byWord_any (a1 : Option Addr) (c1 x d : Nat) (w : World) (h1 : Mag w a1 c1 x) (hb1 : L B32 x ≤ 1000000000) (hd0 : 0 < d) (hd1 : d < 4294967296) :
    Calls Try.prog 63 #[.slice a1 (L B32 x) c1, .int .u32 (d : Nat)] w (WordPost w x d) := by
  refine (byWord_at a1 c1 x d w h1 hb1 hd0 hd1).mono ?_
  rintro e w' ⟨cap, os, he, hm, _, hb⟩
  exact ⟨_, cap, he, hm, hb⟩

/-- What a shift upwards leaves. -/
def UpInv (xs os : List Nat) (s k h : Nat) : Prop :=
  os.length = xs.length + 1 ∧ Lt B32 os ∧ h < 2 ^ s ∧ os[k]? = some h ∧ val B32 (os.take k) + B32 ^ k * h = val B32 (xs.take k) * 2 ^ s

theorem shl_mod (p s : Nat) (hs : s < 32) : (p * 2 ^ s) % B32 % 2 ^ s = 0 := by
  have e : B32 = 2 ^ (32 - s) * 2 ^ s := by
    rw [← Nat.pow_add, Nat.sub_add_cancel (by omega)]; rfl
  rw [e, Nat.mul_mod_mul_right, Nat.mul_mod_left]

theorem pow_le_s (s : Nat) (hs : s < 32) : 2 ^ s ≤ 2147483648 := by
  have : 2 ^ s ≤ 2 ^ 31 := Nat.pow_le_pow_right (by omega) (by omega)
  simpa using this

theorem shl_lt (p s : Nat) (hs : s < 32) (hp : p < 4294967296) : p * 2 ^ s < 9223372036854775808 := by
  have h1 := pow_le_s s hs
  have h2 : p * 2 ^ s ≤ 4294967295 * 2147483648 := Nat.mul_le_mul (by omega) h1
  omega

theorem up_or (h p s : Nat) (hs : s < 32) (hh : h < 2 ^ s) : bits BinOp.or IntKind.u32 (h : Int) (((p * 2 ^ s % B32 : Nat)) : Int) = ((h + p * 2 ^ s % B32 : Nat) : Int) ∧ h + p * 2 ^ s % B32 < B32 := by
  have h1 := pow_le_s s hs
  have h2 : p * 2 ^ s % B32 < B32 := Nat.mod_lt _ (by unfold B32; omega)
  have e : h ||| (p * 2 ^ s % B32) = h + p * 2 ^ s % B32 := by
    rw [Nat.or_comm, nat_join s _ _ (shl_mod p s hs) hh, Nat.add_comm]
  have h3 : B32 = 4294967296 := rfl
  refine ⟨?_, ?_⟩
  · rw [u32_or_nat _ _ (by omega) (by omega), e]
  · rw [← e]
    have := Nat.or_lt_two_pow (n := 32) (x := h) (y := p * 2 ^ s % B32) (by omega) (by omega)
    omega

theorem UpInv.start {xs : List Nat} {s n : Nat} (h : xs.length = n) : UpInv xs (List.replicate (n + 1) 0) s 0 0 :=
  ⟨by simp [h], Lt.replicate (by unfold B32; omega), Nat.pow_pos (by omega), by simp, by simp [val]⟩

theorem UpInv.step {xs os : List Nat} {s k h p : Nat} (hi : UpInv xs os s k h) (hs : s < 32) (hp : xs[k]? = some p) (hp1 : p < 4294967296) :
    UpInv xs ((os.set k (h + p * 2 ^ s % B32)).set (k + 1) (p * 2 ^ s / B32)) s (k + 1) (p * 2 ^ s / B32) := by
  obtain ⟨h1, h2, h3, h4, h5⟩ := hi
  have hk : k < xs.length := (List.getElem?_eq_some_iff.1 hp).1
  have hq : p * 2 ^ s / B32 < 2 ^ s := by
    rw [Nat.div_lt_iff_lt_mul (by unfold B32; omega), Nat.mul_comm (2 ^ s)]
    exact Nat.mul_lt_mul_of_pos_right (by unfold B32; omega) (Nat.pow_pos (by omega))
  have hq2 := pow_le_s s hs
  refine ⟨by simpa using h1, (h2.set _ _ (up_or h p s hs h3).2).set _ _ (by unfold B32 at *; omega), hq, by simp [h1, hk], ?_⟩
  rw [val_set_take_le _ _ _ _ _ (Nat.le_refl _), val_set_take _ _ _ _ (by omega), val_take_succ _ _ _ _ hp, Nat.add_mul, ← h5, Nat.pow_succ, Nat.mul_add, Nat.mul_assoc (B32 ^ k) p, Nat.mul_assoc (B32 ^ k) B32]
  have := Nat.mod_add_div (p * 2 ^ s) B32
  have e : B32 ^ k * (p * 2 ^ s % B32) + B32 ^ k * (B32 * (p * 2 ^ s / B32)) = B32 ^ k * (p * 2 ^ s) := by rw [← Nat.mul_add, this]
  omega

theorem UpInv.done {xs os : List Nat} {s h : Nat} (hi : UpInv xs os s xs.length h) : val B32 os = val B32 xs * 2 ^ s := by
  obtain ⟨h1, h2, h3, h4, h5⟩ := hi
  have := val_take_succ B32 os xs.length h h4
  rw [List.take_of_length_le (by omega)] at this
  rw [this, h5, List.take_of_length_le (Nat.le_refl _)]

def UpPost (w : World) (n x s : Nat) (e : Ending) (w' : World) : Prop :=
  e = .returned (.slice (some ⟨w.heap.size, 0, none⟩) (n + 1) (n + 1)) ∧ Below w.heap.size w w' ∧
    ∃ os, Nblk .u32 w' w.heap.size 100 os ∧ os.length = n + 1 ∧ Lt B32 os ∧ val B32 os = x * 2 ^ s

set_option maxHeartbeats 1600000 in
theorem up_any (a1 : Option Addr) (c1 x s : Nat) (w : World) (h1 : Mag w a1 c1 x) (hb1 : L B32 x ≤ 1000000000) (hs : s < 32) :
    Calls Try.prog 78 #[.slice a1 (L B32 x) c1, .int .i64 (s : Nat)] w (UpPost w (L B32 x) x s) := by
  have hA := Lib.hid h1.2
  have vA := Lib.hid (val_digs two_le_B32 x)
  have lA : Hid ((digs B32 x).length = L B32 x) := rfl
  have dA := Lib.hid (show Lt B32 (digs B32 x) from digs_lt two_le_B32 x)
  generalize digs B32 x = xs at *
  generalize L B32 x = n at *
  clear h1
  go_enter Try.func78, Try.ntmps78
  go_wp2_with (first | (at_make; refine wpList_make_zero _ rfl (.tmp 11) _ rfl 100 .u32 4 Try.underlying47 info_u32 (by omega) .i64 _ (n + 1) rfl (by simp) (by omega) ?_; intro w1 hB1 hb1'))
  go_loopw [15] (fun i wr => ∃ k h os, k ≤ n ∧ i = .int .i64 (k : Nat) ∧ UpInv xs os s k h ∧ Nblk .u32 wr w.heap.size 100 os ∧ Below w.heap.size w wr) (fun i _ => n - (intOf i).toNat)
  case atStart => exact ⟨0, 0, _, by omega, rfl, UpInv.start lA.out, hB1, hb1'⟩
  case round =>
    obtain ⟨k, h, os, hk, rfl, hP, hN, hbl⟩ := hrel
    have hPH := Lib.hid hP
    have hNH := Lib.hid hN
    have hol : os.length = xs.length + 1 := hP.1
    have holH := Lib.hid hol
    obtain ⟨wo, rfl⟩ : ∃ wo : World, wo = wr := ⟨_, rfl⟩
    have hgl : w.heap.size < wo.heap.size := hN.lt
    clear hP hN hol hB1 hb1'
    by_cases hk0 : k < n
    · obtain ⟨b1, o1, p, hp, hae, hc1⟩ := (hA.out.below hbl).at (i := k) (by have := lA.out; omega)
      subst hae
      have hp1 : p < 4294967296 := dA.out.at hp
      have hpH := Lib.hid hp
      clear hp
      have hz := hPH.out.2.2.2.1
      have hoc := hNH.out.at hz
      have hof := Blk.frozen hNH.out k
      have hof2 := Blk.frozen hNH.out (k + 1)
      clear hz
      obtain ⟨z, hz⟩ : ∃ z, os[k + 1]? = some z := ⟨_, List.getElem?_eq_getElem (by have := lA.out; have := holH.out; omega)⟩
      have hoc2 := hNH.out.at hz
      clear hz
      have hw : IntKind.u64.wrap ((p : Int) * 2 ^ s) = ((p * 2 ^ s : Nat) : Int) := by
        have := shl_lt p s hs hp1
        rw [IntKind.wrap_u64]
        have e : ((p : Int) * 2 ^ s) = ((p * 2 ^ s : Nat) : Int) := by simp
        rw [e]
        omega
      have hwH := Lib.hid hw
      clear hw
      go_wp2
      all_goals
        go_roundw
        case rel =>
          refine ⟨k + 1, _, _, by omega, by go_num, hPH.out.step hs hpH.out hp1, (hNH.out.set' ?_).set' ?_, ((hbl.setCell (Nat.le_refl _) _).setCell (Nat.le_refl _) _)⟩
          · rw [hwH.out]
            have := (up_or h p s hs hPH.out.2.2.1).1
            rw [← this]
            rfl
          · rw [hwH.out]
            have := shl_lt p s hs hp1
            generalize p * 2 ^ s = t at *
            unfold B32
            omega
        case measure => simp [intOf]; omega
    · have hPk := hPH.out
      rw [show k = xs.length by have := lA.out; omega] at hPk
      have d3 := hPk.done
      rw [vA.out] at d3
      have d3H := Lib.hid d3
      clear d3 hPk
      go_wp2
      go_ret
      exact ⟨rfl, hbl, os, hNH.out, by rw [holH.out, lA.out], hPH.out.2.1, d3H.out⟩

theorem u64_join' (x r : Nat) (hr : r < 4294967296) (hx : x < 4294967296) : bits BinOp.or IntKind.u64 (x : Int) ((r : Int) * 4294967296) = (x : Int) + (r : Int) * 4294967296 := by
  have e : (r : Int) * 4294967296 = ((r * 4294967296 : Nat) : Int) := by simp
  rw [e, u64_or_nat _ _ (by omega) (by omega), Nat.or_comm, nat_join 32 _ _ (by omega) (by omega)]
  simp
  omega

/-- What a shift downwards leaves. -/
def DownInv (xs os : List Nat) (s k : Nat) : Prop :=
  os.length = xs.length ∧ Lt B32 os ∧ val B32 (os.take k) = (val B32 xs / 2 ^ s) % B32 ^ k

theorem B32_split (s : Nat) (hs : s < 32) : B32 = 2 ^ (32 - s) * 2 ^ s := by
  rw [← Nat.pow_add, Nat.sub_add_cancel (by omega)]; rfl

theorem DownInv.step {xs os : List Nat} {s k p q : Nat} (hi : DownInv xs os s k) (hx : Lt B32 xs) (hs : s < 32) (hp : xs[k]? = some p) (hq : xs[k + 1]? = some q ∨ (xs.length ≤ k + 1 ∧ q = 0)) :
    DownInv xs (os.set k ((p + q * B32) / 2 ^ s % B32)) s (k + 1) := by
  obtain ⟨h1, h2, h3⟩ := hi
  have hk : k < xs.length := (List.getElem?_eq_some_iff.1 hp).1
  refine ⟨by simpa using h1, h2.set _ _ (Nat.mod_lt _ (by unfold B32; omega)), ?_⟩
  rw [val_set_take _ _ _ _ (by omega), h3, Nat.pow_succ, Nat.mod_mul]
  congr 2
  have hd := val_drop_div two_le_B32 xs hx k (by omega)
  have e : ∃ R, val B32 (xs.drop k) = (p + q * B32) + B32 * (B32 * R) := by
    rw [val_drop B32 xs k p hp]
    rcases hq with hq | ⟨hq, rfl⟩
    · rw [val_drop B32 xs (k + 1) q hq]
      exact ⟨val B32 (xs.drop (k + 1 + 1)), by rw [Nat.mul_add, Nat.mul_comm q]; omega⟩
    · rw [List.drop_of_length_le hq]
      exact ⟨0, by simp [val]⟩
  obtain ⟨R, hR⟩ := e
  rw [hd] at hR
  exact (down_digit B32 _ s _ _ _ R (B32_split s hs) hR).symm

theorem DownInv.done {xs os : List Nat} {s : Nat} (hi : DownInv xs os s xs.length) (hx : Lt B32 xs) : val B32 os = val B32 xs / 2 ^ s := by
  obtain ⟨h1, h2, h3⟩ := hi
  rw [List.take_of_length_le (by omega)] at h3
  rw [h3, Nat.mod_eq_of_lt]
  exact Nat.lt_of_le_of_lt (Nat.div_le_self _ _) (val_lt xs hx)

theorem shr_cast (a b s : Nat) : (((a : Int) + (b : Int) * 4294967296) / 2 ^ s % 4294967296) = (((a + b * B32) / 2 ^ s % B32 : Nat) : Int) := by
  unfold B32; simp

set_option maxHeartbeats 1600000 in
theorem down_any (a1 : Option Addr) (c1 x s : Nat) (w : World) (h1 : Mag w a1 c1 x) (hb1 : L B32 x ≤ 1000000000) (hs : s < 32) :
    Calls Try.prog 80 #[.slice a1 (L B32 x) c1, .int .i64 (s : Nat)] w (RetMag w (x / 2 ^ s)) := by
  have hA := Lib.hid h1.2
  have vA := Lib.hid (val_digs two_le_B32 x)
  have lA : Hid ((digs B32 x).length = L B32 x) := rfl
  have dA := Lib.hid (show Lt B32 (digs B32 x) from digs_lt two_le_B32 x)
  generalize digs B32 x = xs at *
  generalize L B32 x = n at *
  clear h1
  go_enter Try.func80, Try.ntmps80
  go_wp2_with (first | (at_make; refine wpList_make_zero _ rfl (.tmp 9) _ rfl 100 .u32 4 Try.underlying47 info_u32 (by omega) .i64 _ n rfl rfl (by omega) ?_; intro w1 hB1 hb1'))
  go_loopw [13] (fun i wr => ∃ k os, k ≤ n ∧ i = .int .i64 (k : Nat) ∧ DownInv xs os s k ∧ Nblk .u32 wr w.heap.size 100 os ∧ Below w.heap.size w wr) (fun i _ => n - (intOf i).toNat)
  case atStart => exact ⟨0, _, by omega, rfl, ⟨by simp; have := lA.out; omega, Lt.replicate (by unfold B32; omega), by simp [val, Nat.mod_one]⟩, hB1, hb1'⟩
  case round =>
    obtain ⟨k, os, hk, rfl, hP, hN, hbl⟩ := hrel
    have hPH := Lib.hid hP
    have hNH := Lib.hid hN
    have hol : os.length = xs.length := hP.1
    have holH := Lib.hid hol
    obtain ⟨wo, rfl⟩ : ∃ wo : World, wo = wr := ⟨_, rfl⟩
    have hgl : w.heap.size < wo.heap.size := hN.lt
    clear hP hN hol hB1 hb1'
    by_cases hk0 : k < n
    · obtain ⟨b1, o1, p, hp, hae, hc1⟩ := (hA.out.below hbl).at (i := k) (by have := lA.out; omega)
      subst hae
      have hp1 : p < 4294967296 := dA.out.at hp
      have hpH := Lib.hid hp
      clear hp
      obtain ⟨z, hz⟩ : ∃ z, os[k]? = some z := ⟨_, List.getElem?_eq_getElem (by have := lA.out; have := holH.out; omega)⟩
      have hoc := hNH.out.at hz
      have hof := Blk.frozen hNH.out k
      clear hz
      by_cases hk1 : k + 1 < n
      · obtain ⟨b2, o2, q, hq, hae, hc2⟩ := (hA.out.below hbl).at (i := k + 1) (by have := lA.out; omega)
        injection hae with hae
        injection hae with hae1 hae2
        subst hae1 hae2
        have hq1 : q < 4294967296 := dA.out.at hq
        have hqH := Lib.hid hq
        clear hq
        have hor := u64_join' p q hq1 hp1
        have hcast := shr_cast p q s
        have hcH := Lib.hid hcast
        clear hcast
        go_wp2
        all_goals
          go_roundw
          case rel =>
            refine ⟨k + 1, _, by omega, by go_num, hPH.out.step dA.out hs hpH.out (Or.inl hqH.out), hNH.out.set' ?_, hbl.setCell (Nat.le_refl _) _⟩
            exact hcH.out
          case measure => simp [intOf]; omega
      · have hcast := shr_cast p 0 s
        have hcH := Lib.hid hcast
        clear hcast
        go_wp2
        all_goals
          go_roundw
          case rel =>
            refine ⟨k + 1, _, by omega, by go_num, hPH.out.step dA.out hs hpH.out (Or.inr ⟨by have := lA.out; omega, rfl⟩), hNH.out.set' ?_, hbl.setCell (Nat.le_refl _) _⟩
            have := hcH.out
            simpa using this
          case measure => simp [intOf]; omega
    · have hPk := hPH.out
      rw [show k = xs.length by have := lA.out; omega] at hPk
      have d3 := hPk.done dA.out
      rw [vA.out] at d3
      have htrim := trim_any (some ⟨w.heap.size, 0, none⟩) n os wo hNH.out.dg hPH.out.2.1 (by rw [holH.out, lA.out]; omega) (by rw [holH.out, lA.out]; exact Nat.le_refl _)
      rw [holH.out, lA.out, d3] at htrim
      have htH := Lib.hid htrim
      clear htrim d3 hPk
      go_wp2_with (first | (go_at_call 54; (with_reducible refine htH.out.mono ?_); rintro e w1 ⟨rfl, hm, rfl⟩))
      go_ret
      exact ⟨_, _, rfl, hm, hbl⟩

end Go.Proofs.Ytkecdjdggkpdpab

/- Appending onto slices of the call's own. No function of the program. -/
namespace Go.Proofs.Ytkecdjdggkpdpab
open Go Go.RowKit Go.Proofs

theorem dg_of_own {K : IntKind} {w : World} {base e n cap : Nat} {ao : Option Addr} {xs : List Nat} (h : w.ownsRow base e 1 (.slice ao n cap) n (xs.map fun x : Nat => Value.int K x)) : n = xs.length ∧ n ≤ cap ∧ Dg K w ao xs := by
  have hl := h.1
  simp at hl
  refine ⟨hl.symm, ?_, ?_⟩
  · rcases h.2 with ⟨h1, _⟩ | ⟨g', cap', cur, hv, _, hh, hn, _⟩
    · injection h1 with h1 h2 h3; omega
    · injection hv with h1 h2 h3; omega
  · intro i x hx
    have hi : i < xs.length := (List.getElem?_eq_some_iff.1 hx).1
    rcases h.2 with ⟨h1, _⟩ | ⟨g', cap', cur, hv, _, hh, hn, _⟩
    · injection h1 with h1 h2 h3; omega
    · injection hv with h1 h2 h3
      refine ⟨g', 0, h1, ?_⟩
      have := h.cells (g := g') (by rw [h1]; rfl) i (.int K x) (by simp [hx])
      rwa [Addr.add_lit] at this

theorem own_shape {w : World} {base e size n : Nat} {v : Value} {xs : List Value} (h : w.ownsRow base e size v n xs) : ∃ ao cap, v = .slice ao n cap := by
  rcases h.2 with ⟨h1, h2⟩ | ⟨g', cap', cur, hv, _⟩
  · exact ⟨none, 0, by rw [h1, h2]⟩
  · exact ⟨_, _, hv⟩

/-- 'append([]T(nil), x...)': a copy. -/
theorem wpList_append_copy {P : Program} (w : World) {ops : Array Oper} {rest : List Oper} {o : Oper} {a : Act} {Q : Exit → Act → World → Prop} (hg : o.guard = none) (s x : Operand) (t : TypeId)
    (ho : o.op = .call { callee := .builtin .append, args := #[s, x], argTypes := #[t, t] }) (e : TypeId) (K : IntKind) (bytes : Nat) (h1 : P.underlying t = some (.slice e))
    (hinfo : (P.info? e).map (fun i => (i.zero, i.size, i.bytes)) = some (some (.int K 0), 1, bytes)) (hby : bytes ≤ 8)
    (hs : a.eval s = .slice none 0 0) (ao : Option Addr) (n c : Nat) (xs : List Nat) (hx : a.eval x = .slice ao n c) (hd : Dg K w ao xs) (hn : xs.length = n) (hb : n ≤ 4000000000)
    (hK : ∀ ao' c' w', n ≤ c' → Dg K w' ao' xs → Below w.heap.size w w' → wpList P ops Q rest (a.put o.dst (.slice ao' n c')) w') : wpList P ops Q (o :: rest) a w := by
  obtain ⟨i, h2, h3, h4, h5⟩ := info_parts hinfo
  rcases ao with _ | ad
  · have hn0 : n = 0 := by
      rcases Nat.eq_zero_or_pos n with h0 | h0
      · exact h0
      · obtain ⟨b, o', x, _, hae, _⟩ := hd.at (i := 0) (by omega)
        cases hae
    subst hn0
    have hxs : xs = [] := List.eq_nil_of_length_eq_zero hn
    subst hxs
    refine wpList_plain hg fun K' hK' => ?_
    have hrun : (Builtin.append_ #[t, t] o.type #[.slice none 0 0, .slice none 0 c]).run P w = .ok (.slice none 0 0) w := by
      simp [Builtin.append_, run_underlying h1, sizeOf, typeInfo, h2, Builtin.lenOf, Builtin.firstCells]
    unfold Oper.wp
    simp [execOp, ho, resolve, invoke, builtin, hs, hx, hrun, Result.andThen]
    exact hK' _ _ (hK none 0 w (Nat.le_refl _) (Dg.nil _ _ _) (Below.refl _ _))
  · refine wpList_append_own w hg s x t ho w.heap.size e i (.int K 0) 1 bytes h1 h2 h3 h4 h5 rfl (by omega) (.slice none 0 0) 0 [] hs (World.ownsRow_nil _ _ _ _) ad n c
      (xs.map fun x : Nat => Value.int K x) hx (by simp [hn]) ?_ ?_ (by unfold maxLen; omega) ?_ (Nat.le_refl _) ?_
    · intro j u hu
      rw [List.getElem?_map] at hu
      obtain ⟨y, hy, rfl⟩ := Option.map_eq_some_iff.1 hu
      obtain ⟨b, o', hae, hc⟩ := hd j y hy
      injection hae with hae
      subst hae
      rw [Addr.add_lit]
      exact hc
    · intro u hu
      obtain ⟨y, _, rfl⟩ := List.mem_map.1 hu
      rfl
    · have : (0 + n) * bytes ≤ 4000000000 * 8 := Nat.mul_le_mul (by omega) hby
      omega
    · intro v' w' hown hgr _
      obtain ⟨ao', c', hv⟩ := own_shape hown
      rw [Nat.zero_add] at hv
      subst hv
      rw [List.nil_append, Nat.zero_add] at hown
      obtain ⟨_, e2, e3⟩ := dg_of_own hown
      exact hK ao' c' w' e2 e3 ((Below.refl _ _).grown hgr (Nat.le_refl _) (fun k hk => by simp [Value.ownBlock] at hk))

end Go.Proofs.Ytkecdjdggkpdpab
