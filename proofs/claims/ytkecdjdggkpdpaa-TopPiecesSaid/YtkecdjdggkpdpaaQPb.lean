/- Dig Base Own Jo -/
import Derived.WalkKit
import Derived.WalkSpells
import Derived.WalkLawsBesides
import Derived.Deep.QuietTactic
import Derived.BigQuiet
import Derived.Deep.RegionHeld3
import Derived.Lib.Hide
import Derived.Handy
import Derived.Laws.AppendOwnNone
set_option linter.unusedVariables false
/- Digits of a natural number in a base, the least first: their value, their uniqueness, how many there are. Plain lists and numbers, no program. -/
namespace Go.Proofs.Ytkecdjdggkpdpaa

/-- The value of digits, the least first. -/
def val (B : Nat) : List Nat → Nat
  | [] => 0
  | x :: xs => x + B * val B xs

/-- The digits of a number, with fuel. -/
def digsF (B : Nat) : Nat → Nat → List Nat
  | 0, _ => []
  | f + 1, n => if n = 0 then [] else (n % B) :: digsF B f (n / B)

/-- The digits of a number, the least first, without zeros at the end. -/
def digs (B n : Nat) : List Nat := digsF B n n

/-- How many digits a number has. -/
def L (B n : Nat) : Nat := (digs B n).length

theorem digsF_fuel {B : Nat} (hB : 2 ≤ B) : ∀ (f g n : Nat), n ≤ f → n ≤ g → digsF B f n = digsF B g n := by
  intro f
  induction f with
  | zero =>
    intro g n h1 h2
    have : n = 0 := by omega
    subst this
    cases g <;> simp [digsF]
  | succ f ih =>
    intro g n h1 h2
    cases g with
    | zero =>
      have : n = 0 := by omega
      subst this
      simp [digsF]
    | succ g =>
      unfold digsF
      by_cases h : n = 0
      · simp [h]
      · simp only [h, if_false]
        have : n / B < n := Nat.div_lt_self (by omega) (by omega)
        rw [ih g (n / B) (by omega) (by omega)]

theorem digs_zero (B : Nat) : digs B 0 = [] := rfl

theorem digs_pos {B n : Nat} (hB : 2 ≤ B) (hn : n ≠ 0) : digs B n = (n % B) :: digs B (n / B) := by
  unfold digs
  cases n with
  | zero => exact absurd rfl hn
  | succ m =>
    rw [digsF, if_neg (by omega)]
    have : (m + 1) / B < m + 1 := Nat.div_lt_self (by omega) (by omega)
    rw [digsF_fuel hB m ((m + 1) / B) _ (by omega) (by omega)]

theorem val_digs {B : Nat} (hB : 2 ≤ B) (n : Nat) : val B (digs B n) = n := by
  induction n using Nat.strongRecOn with
  | ind n ih =>
    by_cases h : n = 0
    · subst h; rfl
    · have h1 : n / B < n := Nat.div_lt_self (by omega) (by omega)
      rw [digs_pos hB h, val, ih _ h1, Nat.mod_add_div]

theorem digs_lt {B : Nat} (hB : 2 ≤ B) (n : Nat) : ∀ x ∈ digs B n, x < B := by
  induction n using Nat.strongRecOn with
  | ind n ih =>
    by_cases h : n = 0
    · subst h; intro x hx; simp [digs_zero] at hx
    · have h1 : n / B < n := Nat.div_lt_self (by omega) (by omega)
      rw [digs_pos hB h]
      intro x hx
      rcases List.mem_cons.1 hx with rfl | hx
      · exact Nat.mod_lt _ (by omega)
      · exact ih _ h1 x hx

theorem val_append (B : Nat) (xs ys : List Nat) : val B (xs ++ ys) = val B xs + B ^ xs.length * val B ys := by
  induction xs with
  | nil => simp [val]
  | cons x xs ih =>
    simp only [List.cons_append, val, ih, List.length_cons, Nat.pow_succ, Nat.mul_add]
    rw [Nat.add_assoc, Nat.mul_comm (B ^ xs.length) B, Nat.mul_assoc]

theorem val_snoc (B : Nat) (xs : List Nat) (x : Nat) : val B (xs ++ [x]) = val B xs + B ^ xs.length * x := by
  rw [val_append]; simp [val]

theorem val_lt {B : Nat} (xs : List Nat) (h : ∀ x ∈ xs, x < B) : val B xs < B ^ xs.length := by
  induction xs with
  | nil => simp [val]
  | cons x xs ih =>
    have h1 := h x (by simp)
    have h2 := ih (fun y hy => h y (by simp [hy]))
    simp only [val, List.length_cons, Nat.pow_succ]
    have h3 : B * (val B xs + 1) ≤ B * B ^ xs.length := Nat.mul_le_mul_left _ h2
    rw [Nat.mul_comm (B ^ xs.length) B]
    rw [Nat.mul_add] at h3
    omega

theorem val_replicate (B n : Nat) : val B (List.replicate n 0) = 0 := by
  induction n with
  | zero => rfl
  | succ n ih => simp [List.replicate_succ, val, ih]

/-- Digits below the base whose last one is not 0 are those of their value. -/
theorem digs_val {B : Nat} (hB : 2 ≤ B) (xs : List Nat) (h : ∀ x ∈ xs, x < B) (hl : ∀ x, xs.getLast? = some x → x ≠ 0) : digs B (val B xs) = xs := by
  induction xs with
  | nil => rfl
  | cons x xs ih =>
    have hx := h x (by simp)
    have ih' := ih (fun y hy => h y (by simp [hy])) (by
      intro y hy
      refine hl y ?_
      cases xs with
      | nil => simp at hy
      | cons z zs => simpa [List.getLast?_cons_cons] using hy)
    have hne : val B (x :: xs) ≠ 0 := by
      cases xs with
      | nil => have := hl x (by simp); simpa [val] using this
      | cons z zs =>
        intro h0
        simp only [val] at h0
        have hz : val B (z :: zs) = 0 := by
          have : B * (z + B * val B zs) = 0 := by omega
          rcases Nat.mul_eq_zero.1 this with h | h
          · omega
          · simpa [val] using h
        rw [hz, digs_zero] at ih'
        cases ih'
    have e1 : val B (x :: xs) % B = x := by simp [val, Nat.add_mul_mod_self_left, Nat.mod_eq_of_lt hx]
    have e2 : val B (x :: xs) / B = val B xs := by
      simp only [val]
      rw [Nat.add_mul_div_left _ _ (by omega), Nat.div_eq_of_lt hx, Nat.zero_add]
    rw [digs_pos hB hne, e1, e2, ih']

theorem digs_last {B : Nat} (hB : 2 ≤ B) (n : Nat) : ∀ x, (digs B n).getLast? = some x → x ≠ 0 := by
  induction n using Nat.strongRecOn with
  | ind n ih =>
    by_cases h : n = 0
    · subst h; intro x hx; simp [digs_zero] at hx
    · have h1 : n / B < n := Nat.div_lt_self (by omega) (by omega)
      rw [digs_pos hB h]
      intro x hx
      by_cases h2 : n / B = 0
      · rw [h2, digs_zero] at hx
        simp at hx
        have := Nat.div_add_mod n B
        rw [h2] at this
        omega
      · refine ih _ h1 x ?_
        rw [digs_pos hB h2] at hx ⊢
        rwa [List.getLast?_cons_cons] at hx

theorem L_le_of_lt {B : Nat} (hB : 2 ≤ B) : ∀ (k n : Nat), n < B ^ k → L B n ≤ k := by
  intro k
  induction k with
  | zero => intro n h; have : n = 0 := by simpa using h
            subst this; simp [L, digs_zero]
  | succ k ih =>
    intro n h
    by_cases h0 : n = 0
    · subst h0; simp [L, digs_zero]
    · have h1 : n / B < B ^ k := by
        rw [Nat.div_lt_iff_lt_mul (by omega)]
        rwa [← Nat.pow_succ]
      have := ih _ h1
      simp only [L] at this ⊢
      rw [digs_pos hB h0]
      simp only [List.length_cons]
      omega

theorem lt_pow_L {B : Nat} (hB : 2 ≤ B) (n : Nat) : n < B ^ L B n := by
  have := val_lt (digs B n) (digs_lt hB n)
  rwa [val_digs hB] at this

theorem lt_of_L_le {B : Nat} (hB : 2 ≤ B) {n k : Nat} (h : L B n ≤ k) : n < B ^ k :=
  Nat.lt_of_lt_of_le (lt_pow_L hB n) (Nat.pow_le_pow_right (by omega) h)

theorem L_mono {B : Nat} (hB : 2 ≤ B) {a b : Nat} (h : a ≤ b) : L B a ≤ L B b :=
  L_le_of_lt hB _ _ (Nat.lt_of_le_of_lt h (lt_pow_L hB b))

theorem L_mul {B : Nat} (hB : 2 ≤ B) (a b : Nat) : L B (a * b) ≤ L B a + L B b := by
  refine L_le_of_lt hB _ _ ?_
  rw [Nat.pow_add]
  have h1 := lt_pow_L hB a
  have h2 := lt_pow_L hB b
  rcases Nat.eq_zero_or_pos b with h0 | h0
  · subst h0
    simp only [Nat.mul_zero]
    exact Nat.mul_pos (Nat.pow_pos (by omega)) (Nat.pow_pos (by omega))
  · exact Nat.lt_of_lt_of_le (Nat.mul_lt_mul_of_pos_right h1 h0) (Nat.mul_le_mul_left _ (by omega))

theorem L_add {B : Nat} (hB : 2 ≤ B) (a b : Nat) : L B (a + b) ≤ max (L B a) (L B b) + 1 := by
  refine L_le_of_lt hB _ _ ?_
  have h1 := lt_of_L_le hB (Nat.le_max_left (L B a) (L B b))
  have h2 := lt_of_L_le hB (Nat.le_max_right (L B a) (L B b))
  rw [Nat.pow_succ]
  have : B ^ max (L B a) (L B b) * 2 ≤ B ^ max (L B a) (L B b) * B := Nat.mul_le_mul_left _ hB
  omega

theorem L_zero (B : Nat) : L B 0 = 0 := rfl

theorem L_pos {B n : Nat} (hB : 2 ≤ B) (h : n ≠ 0) : 0 < L B n := by
  simp [L, digs_pos hB h]

theorem L_eq_zero {B n : Nat} (hB : 2 ≤ B) : L B n = 0 ↔ n = 0 := by
  constructor
  · intro h
    rcases Nat.eq_zero_or_pos n with h0 | h0
    · exact h0
    · have := L_pos hB (n := n) (by omega); omega
  · rintro rfl; rfl

theorem pow_le_of_L {B n k : Nat} (hB : 2 ≤ B) (h : k < L B n) : B ^ k ≤ n := by
  rcases Nat.lt_or_ge n (B ^ k) with h1 | h1
  · have := L_le_of_lt hB _ _ h1; omega
  · exact h1

theorem lt_of_L_lt {B a b : Nat} (hB : 2 ≤ B) (h : L B a < L B b) : a < b :=
  Nat.lt_of_lt_of_le (lt_pow_L hB a) (pow_le_of_L hB h)

theorem val_take_succ (B : Nat) (xs : List Nat) (i x : Nat) (h : xs[i]? = some x) : val B (xs.take (i + 1)) = val B (xs.take i) + B ^ i * x := by
  have hi : i < xs.length := (List.getElem?_eq_some_iff.1 h).1
  rw [List.take_succ_eq_append_getElem hi, val_snoc]
  have hx : xs[i] = x := (List.getElem?_eq_some_iff.1 h).2
  rw [hx, List.length_take, Nat.min_eq_left (by omega)]

theorem val_take_len (B : Nat) (xs : List Nat) (i : Nat) (h : xs.length ≤ i) : val B (xs.take i) = val B xs := by
  rw [List.take_of_length_le h]

theorem val_drop (B : Nat) (xs : List Nat) (i x : Nat) (h : xs[i]? = some x) : val B (xs.drop i) = x + B * val B (xs.drop (i + 1)) := by
  have hi : i < xs.length := (List.getElem?_eq_some_iff.1 h).1
  have hx : xs[i] = x := (List.getElem?_eq_some_iff.1 h).2
  rw [List.drop_eq_getElem_cons hi, val, hx]

theorem val_split (B : Nat) (xs : List Nat) (i : Nat) (h : i ≤ xs.length) : val B xs = val B (xs.take i) + B ^ i * val B (xs.drop i) := by
  have := val_append B (xs.take i) (xs.drop i)
  rw [List.take_append_drop, List.length_take, Nat.min_eq_left h] at this
  exact this

/-- Lists of one length with the same value are the same. -/
theorem val_inj {B : Nat} : ∀ (xs ys : List Nat), xs.length = ys.length → (∀ x ∈ xs, x < B) → (∀ y ∈ ys, y < B) → val B xs = val B ys → xs = ys := by
  intro xs
  induction xs with
  | nil => intro ys h _ _ _; cases ys with
    | nil => rfl
    | cons y ys => simp at h
  | cons x xs ih =>
    intro ys h hx hy hv
    cases ys with
    | nil => simp at h
    | cons y ys =>
      have h1 := hx x (by simp)
      have h2 := hy y (by simp)
      simp only [val] at hv
      have e : x = y := by
        have := congrArg (· % B) hv
        simpa [Nat.add_mul_mod_self_left, Nat.mod_eq_of_lt h1, Nat.mod_eq_of_lt h2] using this
      subst e
      have e2 : val B xs = val B ys := by
        have : B * val B xs = B * val B ys := by omega
        exact Nat.eq_of_mul_eq_mul_left (by omega) this
      rw [ih ys (by simpa using h) (fun z hz => hx z (by simp [hz])) (fun z hz => hy z (by simp [hz])) e2]

/-- What is left of digits when zeros at the end are left out. -/
theorem trimmed {B : Nat} (hB : 2 ≤ B) (xs : List Nat) (h : ∀ x ∈ xs, x < B) (k : Nat) (hk : k ≤ xs.length) (hv : val B (xs.take k) = val B xs)
    (hl : k = 0 ∨ ∃ x, xs[k - 1]? = some x ∧ x ≠ 0) : digs B (val B xs) = xs.take k ∧ L B (val B xs) = k := by
  have e : digs B (val B xs) = xs.take k := by
    rw [← hv]
    refine digs_val hB _ (fun x hx => h x (List.mem_of_mem_take hx)) ?_
    intro x hx
    rcases hl with h0 | ⟨y, hy, hne⟩
    · subst h0; simp at hx
    · rw [List.getLast?_eq_getElem?, List.length_take, Nat.min_eq_left hk, List.getElem?_take] at hx
      split at hx
      · rw [hy] at hx
        injection hx with hx
        subst hx
        exact hne
      · cases hx
  exact ⟨e, by rw [L, e, List.length_take, Nat.min_eq_left hk]⟩

end Go.Proofs.Ytkecdjdggkpdpaa

/- What values mean in a world: slices of numbers, blocks that are known whole, a region's frame. No function of the program. -/
namespace Go.Proofs.Ytkecdjdggkpdpaa
open Go Go.RowKit Go.Proofs

theorem bdn {B : Nat} {a w : World} (h : Below B a w) {n : Nat} : Below B a (w.drewN n) := ⟨h.os, h.tape, h.output, h.size, h.block⟩

/-- The slice with this address holds these cells. -/
def Cells (w : World) (ao : Option Addr) (vs : List Value) : Prop :=
  ∀ i v, vs[i]? = some v → ∃ b o, ao = some ⟨b, o, none⟩ ∧ w.cell? ⟨b, o + i, none⟩ = some v

/-- The slice with this address holds these numbers. -/
def Dg (K : IntKind) (w : World) (ao : Option Addr) (xs : List Nat) : Prop :=
  ∀ (i x : Nat), xs[i]? = some x → ∃ b o, ao = some ⟨b, o, none⟩ ∧ w.cell? ⟨b, o + i, none⟩ = some (.int K x)

theorem Below.cellAt {W w1 : World} {B : Nat} (hb : Below B W w1) (hB : W.heap.size ≤ B) {b o : Nat} {v : Value} (h : W.cell? ⟨b, o, none⟩ = some v) : w1.cell? ⟨b, o, none⟩ = some v := by
  have := World.block_lt_of_cell? W ⟨b, o, none⟩ h
  rw [hb.cell (p := ⟨b, o, none⟩) (by simp at this ⊢; omega)]; exact h

theorem Cells.below {w w' : World} {a : Option Addr} {vs : List Value} {B : Nat} (h : Cells w a vs) (hb : Below B w w') (hB : w.heap.size ≤ B := by exact Nat.le_refl _) : Cells w' a vs := fun i v hv => by
  obtain ⟨b, o, ha, hc⟩ := h i v hv
  exact ⟨b, o, ha, Below.cellAt hb hB hc⟩

theorem Dg.below {K : IntKind} {w w' : World} {a : Option Addr} {xs : List Nat} {B : Nat} (h : Dg K w a xs) (hb : Below B w w') (hB : w.heap.size ≤ B := by exact Nat.le_refl _) : Dg K w' a xs := fun i v hv => by
  obtain ⟨b, o, ha, hc⟩ := h i v hv
  exact ⟨b, o, ha, Below.cellAt hb hB hc⟩

theorem Dg.nil (K : IntKind) (w : World) (a : Option Addr) : Dg K w a [] := fun i v hv => by simp at hv

theorem Dg.at {K : IntKind} {w : World} {a : Option Addr} {xs : List Nat} (h : Dg K w a xs) {i : Nat} (hi : i < xs.length) :
    ∃ (b o x : Nat), xs[i]? = some x ∧ a = some ⟨b, o, none⟩ ∧ w.cell? ⟨b, o + i, none⟩ = some (.int K x) := by
  obtain ⟨b, o, ha, hc⟩ := h i xs[i] (List.getElem?_eq_getElem hi)
  exact ⟨b, o, xs[i], List.getElem?_eq_getElem hi, ha, hc⟩

theorem Dg.take {K : IntKind} {w : World} {a : Option Addr} {xs : List Nat} (h : Dg K w a xs) (k : Nat) : Dg K w a (xs.take k) := fun i v hv => by
  rw [List.getElem?_take] at hv
  split at hv
  · exact h i v hv
  · cases hv

/-- All digits below a base. -/
def Lt (B : Nat) (xs : List Nat) : Prop := ∀ x ∈ xs, x < B

theorem Lt.at {B : Nat} {xs : List Nat} (h : Lt B xs) {i x : Nat} (hx : xs[i]? = some x) : x < B := h x (List.mem_of_getElem? hx)

theorem Lt.take {B : Nat} {xs : List Nat} (h : Lt B xs) (k : Nat) : Lt B (xs.take k) := fun x hx => h x (List.mem_of_mem_take hx)

theorem Lt.drop {B : Nat} {xs : List Nat} (h : Lt B xs) (k : Nat) : Lt B (xs.drop k) := fun x hx => h x (List.mem_of_mem_drop hx)

theorem Lt.set {B : Nat} {xs : List Nat} (h : Lt B xs) (k x : Nat) (hx : x < B) : Lt B (xs.set k x) := fun y hy => by
  rcases List.mem_or_eq_of_mem_set hy with h1 | h1
  · exact h y h1
  · omega

theorem Lt.replicate {B n : Nat} (hB : 0 < B) : Lt B (List.replicate n 0) := fun x hx => by
  have := List.eq_of_mem_replicate hx; omega

/-- The base of the program's limbs; kept from the walk. -/
def B32 : Nat := 4294967296
theorem two_le_B32 : 2 ≤ B32 := by unfold B32; omega

/-- The slice holds a size in the program's form: limbs without zeros at the end. -/
def Mag (w : World) (ao : Option Addr) (cap n : Nat) : Prop := L B32 n ≤ cap ∧ Dg .u32 w ao (digs B32 n)

theorem Mag.below {w w' : World} {a : Option Addr} {c n B : Nat} (h : Mag w a c n) (hb : Below B w w') (hB : w.heap.size ≤ B := by exact Nat.le_refl _) : Mag w' a c n := ⟨h.1, h.2.below hb hB⟩

theorem Mag.zero (w : World) (a : Option Addr) (c : Nat) : Mag w a c 0 := ⟨by simp [L_zero], by rw [digs_zero]; exact Dg.nil _ _ _⟩

/-- A block that is known whole. -/
def Blk (w : World) (g : Nat) (T : TypeId) (cs : List Value) : Prop := w.heap[g]? = some (.cells cs.toArray T (0, 0))

theorem Blk.lt {w : World} {g T : Nat} {cs : List Value} (h : Blk w g T cs) : g < w.heap.size := by
  rcases Nat.lt_or_ge g w.heap.size with hlt | hge
  · exact hlt
  · unfold Blk at h; rw [Array.getElem?_eq_none hge] at h; cases h

theorem Blk.cell {w : World} {g T : Nat} {cs : List Value} (h : Blk w g T cs) (i : Nat) : w.cell? ⟨g, i, none⟩ = cs[i]? := by
  rw [cell_of_row w g i cs.toArray T (0, 0) h]; simp

theorem Blk.frozen {w : World} {g T : Nat} {cs : List Value} (h : Blk w g T cs) (i : Nat) : w.frozen? ⟨g, i, none⟩ = false := by
  unfold Blk at h
  simp [World.frozen?, h]

theorem Blk.set {w : World} {g T : Nat} {cs : List Value} (h : Blk w g T cs) (i : Nat) (u : Value) : Blk (w.setCell ⟨g, i, none⟩ u) g T (cs.set i u) := by
  unfold Blk at h ⊢
  simp [World.setCell, Array.getElem?_modify, h]

theorem Blk.below {w w' : World} {B g T : Nat} {cs : List Value} (h : Blk w g T cs) (hb : Below B w w') (hg : g < B) : Blk w' g T cs := (hb.block g hg).trans h

theorem Blk.later {w w' : World} {g T : Nat} {cs : List Value} (h : Blk w g T cs) (hb : Below w.heap.size w w') : Blk w' g T cs := h.below hb h.lt

/-- A block that is known whole, of numbers. -/
def Nblk (K : IntKind) (w : World) (g : Nat) (T : TypeId) (xs : List Nat) : Prop := Blk w g T (xs.map fun x : Nat => Value.int K x)

theorem Nblk.set {K : IntKind} {w : World} {g T : Nat} {xs : List Nat} (h : Nblk K w g T xs) (i x : Nat) : Nblk K (w.setCell ⟨g, i, none⟩ (.int K x)) g T (xs.set i x) := by
  have := Blk.set h i (.int K x)
  unfold Nblk
  rwa [← List.map_set] at this

theorem Nblk.set' {K : IntKind} {w : World} {g T : Nat} {xs : List Nat} (h : Nblk K w g T xs) {i x : Nat} {z : Int} (hz : z = x) : Nblk K (w.setCell ⟨g, i, none⟩ (.int K z)) g T (xs.set i x) := by
  subst hz
  exact h.set i x

theorem Nblk.drew' {K : IntKind} {w : World} {g T : Nat} {xs : List Nat} (h : Nblk K w g T xs) : Nblk K w.drew g T xs := h

theorem Nblk.far {K : IntKind} {w : World} {g T : Nat} {xs : List Nat} (h : Nblk K w g T xs) {p : Addr} (hp : g ≠ p.block) (u : Value) : Nblk K (w.setCell p u) g T xs :=
  (Below.heap_setCell w p u g hp).trans h

theorem int_eq {k : IntKind} {a b : Int} (h : a = b) : Value.int k a = .int k b := by rw [h]

theorem Nblk.at {K : IntKind} {w : World} {g T : Nat} {xs : List Nat} (h : Nblk K w g T xs) {i x : Nat} (hx : xs[i]? = some x) : w.cell? ⟨g, i, none⟩ = some (.int K x) := by
  rw [Blk.cell h]; simp [hx]

theorem Nblk.dg {K : IntKind} {w : World} {g T : Nat} {xs : List Nat} (h : Nblk K w g T xs) : Dg K w (some ⟨g, 0, none⟩) xs := fun i x hx =>
  ⟨g, 0, rfl, by rw [Nat.zero_add]; exact h.at hx⟩

theorem Nblk.below {K : IntKind} {w w' : World} {B g T : Nat} {xs : List Nat} (h : Nblk K w g T xs) (hb : Below B w w') (hg : g < B) : Nblk K w' g T xs := Blk.below h hb hg

/-- What 'make' leaves, as a block that is known whole. -/
theorem blk_of_own {w : World} {base e n : Nat} {g : Nat} {xs : List Value} (h : w.ownsRow base e 1 (.slice (some ⟨g, 0, none⟩) n n) n xs) : Blk w g e xs := by
  rcases h.2 with ⟨h1, _⟩ | ⟨g', cap, cur, hv, _, hh, hn, _, hsz, htake⟩
  · cases h1
  · injection hv with h1 h2 h3
    injection h1 with h1
    injection h1 with h1
    subst h1
    unfold Blk
    rw [hh]
    have : cur.toList = xs := by
      rw [← htake, List.take_of_length_le (by simp; omega)]
    rw [← this]

/-- 'make' of n zeros, as a block that is known whole. -/
theorem wpList_make_zero {P : Program} (w : World) {ops : Array Oper} {rest : List Oper} {o : Oper} {a : Act} {Q : Exit → Act → World → Prop}
    (hg : o.guard = none) (l : Operand) (t : TypeId) (hop : o.op = Op.makeSlice t l l) (e : TypeId) (K : IntKind) (bytes : Nat) (h1 : P.underlying t = some (.slice e))
    (hinfo : (P.info? e).map (fun i => (i.zero, i.size, i.bytes)) = some (some (.int K 0), 1, bytes)) (hby : bytes ≤ 8)
    (kl : IntKind) (N : Int) (n : Nat) (hl : a.eval l = .int kl N) (hN : N = (n : Int)) (hn : n ≤ 10000000000)
    (hK : ∀ w', Nblk K w' w.heap.size e (List.replicate n 0) → Below w.heap.size w w' → wpList P ops Q rest (a.put o.dst (.slice (some ⟨w.heap.size, 0, none⟩) n n)) w') :
    wpList P ops Q (o :: rest) a w := by
  obtain ⟨i, h2, h3, h4, h5⟩ := info_parts hinfo
  refine wpList_make_full w hg l l t hop w.heap.size e i (.int K 0) 1 h1 h2 h3 h4 kl kl N N n hl hl hN hN ?_ ?_ (Nat.le_refl _) ?_
  · rw [h5]
    have : bytes * n ≤ 8 * 10000000000 := Nat.mul_le_mul hby hn
    omega
  · unfold maxLen; omega
  · intro w' hown hgr
    refine hK w' ?_ ((Below.refl _ _).grown hgr (Nat.le_refl _) (fun k hk => by cases hk))
    have := blk_of_own hown
    have e : (madeCells (Value.int K 0).cells (n * 1)).toList = (List.replicate n 0).map (fun x : Nat => Value.int K x) := by
      rw [Nat.mul_one]
      show (madeCells #[Value.int K 0] n).toList = _
      rw [toList_madeCells_one]
      simp
    rw [e] at this
    exact this

/-- The cell's content, kept from simp. -/
def cellAt (w : World) (b o : Nat) : Value := (w.cell? ⟨b, o, none⟩).getD undef

/-- No cell of the block holds a number. -/
def NoInt (w : World) (N : Nat) : Prop := ∀ (o : Nat) (k : IntKind) (z : Int), w.cell? ⟨N, o, none⟩ ≠ some (.int k z)

theorem NoInt.set {w : World} {N : Nat} (h : NoInt w N) (a : Addr) (v : Value) (hv : ∀ k z, v ≠ .int k z) : NoInt (w.setCell a v) N := fun o k z hc => by
  by_cases ha : a = ⟨N, o, none⟩
  · subst ha
    cases hu : w.cell? ⟨N, o, none⟩ with
    | none =>
      have : (w.setCell ⟨N, o, none⟩ v).cell? ⟨N, o, none⟩ = none := by
        simp only [World.cell?, World.setCell, Array.getElem?_modify] at hu ⊢
        cases hb : w.heap[N]? with
        | none => simp
        | some ob => cases ob <;> simp_all
      rw [this] at hc; cases hc
    | some u =>
      rw [World.cell?_setCell_same w ⟨N, o, none⟩ v hu] at hc
      injection hc with hc
      exact hv k z hc
  · rw [World.cell?_setCell_other w a ⟨N, o, none⟩ v ha] at hc
    exact h o k z hc

theorem Dg.setN {K : IntKind} {w : World} {a : Option Addr} {xs : List Nat} {N : Nat} (h : Dg K w a xs) (hN : NoInt w N) (k : Nat) (v : Value) : Dg K (w.setCell ⟨N, k, none⟩ v) a xs := fun i x hx => by
  obtain ⟨b, o, ha, hc⟩ := h i x hx
  refine ⟨b, o, ha, ?_⟩
  rw [World.cell?_setCell_other _ _ _ _ ?_]
  · exact hc
  · intro e
    injection e with e1 e2
    subst e1
    exact hN _ _ _ hc

theorem Mag.setN {w : World} {a : Option Addr} {c n N : Nat} (h : Mag w a c n) (hN : NoInt w N) (k : Nat) (v : Value) : Mag (w.setCell ⟨N, k, none⟩ v) a c n := ⟨h.1, h.2.setN hN k v⟩

/-- From W on nothing below block N has turned; block N (the result's) has at least n cells, none frozen, none a number. -/
abbrev Rg (N n : Nat) (W w' : World) : Prop :=
  (∀ b o, b < N → w'.cell? ⟨b, o, none⟩ = W.cell? ⟨b, o, none⟩) ∧ (∀ o, o < n → w'.cell? ⟨N, o, none⟩ = some (cellAt w' N o)) ∧ (∀ o, w'.frozen? ⟨N, o, none⟩ = false) ∧ NoInt w' N ∧ Below N W w'

theorem Rg.mk {N n : Nat} {W w' : World} (h : Below N W w') (h1 : ∀ o, o < n → (w'.cell? ⟨N, o, none⟩).isSome = true) (h2 : ∀ o, w'.frozen? ⟨N, o, none⟩ = false) (h3 : NoInt w' N) : Rg N n W w' := by
  refine ⟨fun b o hb => h.cell (p := ⟨b, o, none⟩) hb, fun o ho => ?_, h2, h3, h⟩
  obtain ⟨v, hv⟩ := Option.isSome_iff_exists.1 (h1 o ho)
  simp [cellAt, hv]

/-- What a region kept of the blocks ahead of the result's. -/
theorem Rg.kept {N n : Nat} {W w' : World} (h : Rg N n W w') : Below N W w' := h.2.2.2.2
theorem Rg.noInt {N n : Nat} {W w' : World} (h : Rg N n W w') : NoInt w' N := h.2.2.2.1

theorem Rg.drew {N n : Nat} {W w' : World} (h : Rg N n W w') : Rg N n W w'.drew :=
  Rg.mk h.kept.drew (fun o ho => by have := h.2.1 o ho; simp [this]) (fun o => by have := h.2.2.1 o; simpa using this) (fun o k z hc => h.noInt o k z hc)

theorem Rg.step {N n : Nat} {W w1 w2 : World} (h : Rg N n W w1) (hn : 0 < n) (hb : Below w1.heap.size w1 w2) : Rg N n W w2 := by
  have hN : N < w1.heap.size := World.block_lt_of_cell? w1 ⟨N, 0, none⟩ (h.2.1 0 hn)
  refine Rg.mk (h.kept.trans (hb.mono (by omega))) (fun o ho => ?_) (fun o => ?_) (fun o k z hc => ?_)
  · rw [hb.cell (p := ⟨N, o, none⟩) hN, h.2.1 o ho, Option.isSome_some]
  · rw [hb.frozen (p := ⟨N, o, none⟩) hN]; exact h.2.2.1 o
  · rw [hb.cell (p := ⟨N, o, none⟩) hN] at hc; exact h.noInt o k z hc

theorem Rg.set {N n k : Nat} {W w1 : World} (h : Rg N n W w1) (v : Value) (hv : ∀ k z, v ≠ .int k z := by intro _ _ h; cases h) : Rg N n W (w1.setCell ⟨N, k, none⟩ v) := by
  refine Rg.mk (h.kept.setCell (Nat.le_refl _) v) (fun o ho => ?_) (fun o => ?_) (h.noInt.set _ v hv)
  · have := h.2.1 o ho
    by_cases hk : k = o
    · subst hk
      simp [World.cell?_setCell_same w1 ⟨N, k, none⟩ _ this]
    · rw [World.cell?_setCell_other _ _ _ _ (by simp), this]; rfl
  · have := h.2.2.1 o
    simp
    simpa using this

theorem Mag.kp {w W w' : World} {a : Option Addr} {c n N k : Nat} (h : Mag w a c n) (hb : Below w.heap.size w W) (hk : Rg N k W w') (hN : w.heap.size ≤ N) : Mag w' a c n :=
  h.below (hb.trans (hk.kept.mono hN))

end Go.Proofs.Ytkecdjdggkpdpaa

/- Appending onto slices of the call's own. No function of the program. -/
namespace Go.Proofs.Ytkecdjdggkpdpaa
open Go Go.RowKit Go.Proofs

theorem dg_of_own {K : IntKind} {w : World} {base e n cap : Nat} {ao : Option Addr} {xs : List Nat} (h : w.ownsRow base e 1 (.slice ao n cap) n (xs.map fun x : Nat => Value.int K x)) : n = xs.length ∧ n ≤ cap ∧ Dg K w ao xs := by
  have hl := h.1
  simp at hl
  refine ⟨hl.symm, ?_, ?_⟩
  · rcases h.2 with ⟨h1, _⟩ | ⟨g', cap', cur, hv, _, hh, hn, _⟩
    · injection h1 with h1 h2 h3; omega
    · injection hv with h1 h2 h3; omega
  · intro i x hx
    have hi : i < xs.length := (List.getElem?_eq_some_iff.1 hx).1
    rcases h.2 with ⟨h1, _⟩ | ⟨g', cap', cur, hv, _, hh, hn, _⟩
    · injection h1 with h1 h2 h3; omega
    · injection hv with h1 h2 h3
      refine ⟨g', 0, h1, ?_⟩
      have := h.cells (g := g') (by rw [h1]; rfl) i (.int K x) (by simp [hx])
      rwa [Addr.add_lit] at this

theorem own_shape {w : World} {base e size n : Nat} {v : Value} {xs : List Value} (h : w.ownsRow base e size v n xs) : ∃ ao cap, v = .slice ao n cap := by
  rcases h.2 with ⟨h1, h2⟩ | ⟨g', cap', cur, hv, _⟩
  · exact ⟨none, 0, by rw [h1, h2]⟩
  · exact ⟨_, _, hv⟩

/-- 'append([]T(nil), x...)': a copy. -/
theorem wpList_append_copy {P : Program} (w : World) {ops : Array Oper} {rest : List Oper} {o : Oper} {a : Act} {Q : Exit → Act → World → Prop} (hg : o.guard = none) (s x : Operand) (t : TypeId)
    (ho : o.op = .call { callee := .builtin .append, args := #[s, x], argTypes := #[t, t] }) (e : TypeId) (K : IntKind) (bytes : Nat) (h1 : P.underlying t = some (.slice e))
    (hinfo : (P.info? e).map (fun i => (i.zero, i.size, i.bytes)) = some (some (.int K 0), 1, bytes)) (hby : bytes ≤ 8)
    (hs : a.eval s = .slice none 0 0) (ao : Option Addr) (n c : Nat) (xs : List Nat) (hx : a.eval x = .slice ao n c) (hd : Dg K w ao xs) (hn : xs.length = n) (hb : n ≤ 4000000000)
    (hK : ∀ ao' c' w', n ≤ c' → Dg K w' ao' xs → Below w.heap.size w w' → wpList P ops Q rest (a.put o.dst (.slice ao' n c')) w') : wpList P ops Q (o :: rest) a w := by
  obtain ⟨i, h2, h3, h4, h5⟩ := info_parts hinfo
  rcases ao with _ | ad
  · have hn0 : n = 0 := by
      rcases Nat.eq_zero_or_pos n with h0 | h0
      · exact h0
      · obtain ⟨b, o', x, _, hae, _⟩ := hd.at (i := 0) (by omega)
        cases hae
    subst hn0
    have hxs : xs = [] := List.eq_nil_of_length_eq_zero hn
    subst hxs
    refine wpList_plain hg fun K' hK' => ?_
    have hrun : (Builtin.append_ #[t, t] o.type #[.slice none 0 0, .slice none 0 c]).run P w = .ok (.slice none 0 0) w := by
      simp [Builtin.append_, run_underlying h1, sizeOf, typeInfo, h2, Builtin.lenOf, Builtin.firstCells]
    unfold Oper.wp
    simp [execOp, ho, resolve, invoke, builtin, hs, hx, hrun, Result.andThen]
    exact hK' _ _ (hK none 0 w (Nat.le_refl _) (Dg.nil _ _ _) (Below.refl _ _))
  · refine wpList_append_own w hg s x t ho w.heap.size e i (.int K 0) 1 bytes h1 h2 h3 h4 h5 rfl (by omega) (.slice none 0 0) 0 [] hs (World.ownsRow_nil _ _ _ _) ad n c
      (xs.map fun x : Nat => Value.int K x) hx (by simp [hn]) ?_ ?_ (by unfold maxLen; omega) ?_ (Nat.le_refl _) ?_
    · intro j u hu
      rw [List.getElem?_map] at hu
      obtain ⟨y, hy, rfl⟩ := Option.map_eq_some_iff.1 hu
      obtain ⟨b, o', hae, hc⟩ := hd j y hy
      injection hae with hae
      subst hae
      rw [Addr.add_lit]
      exact hc
    · intro u hu
      obtain ⟨y, _, rfl⟩ := List.mem_map.1 hu
      rfl
    · have : (0 + n) * bytes ≤ 4000000000 * 8 := Nat.mul_le_mul (by omega) hby
      omega
    · intro v' w' hown hgr _
      obtain ⟨ao', c', hv⟩ := own_shape hown
      rw [Nat.zero_add] at hv
      subst hv
      rw [List.nil_append, Nat.zero_add] at hown
      obtain ⟨_, e2, e3⟩ := dg_of_own hown
      exact hK ao' c' w' e2 e3 ((Below.refl _ _).grown hgr (Nat.le_refl _) (fun k hk => by simp [Value.ownBlock] at hk))

end Go.Proofs.Ytkecdjdggkpdpaa

/- Appending onto a list of the call's own whose block holds no numbers (so no digit slice lies in it). No function of the program. -/
namespace Go.Proofs.Ytkecdjdggkpdpaa
open Go Go.RowKit Go.Proofs

/-- The block of an own slice holds no numbers. -/
def NoIntV (w : World) (v : Value) : Prop := ∀ g, v.ownBlock = some g → NoInt w g

theorem noInt_cells {w : World} {g : Nat} {cs : Array Value} {e : TypeId} {f : Nat × Nat} (h : w.heap[g]? = some (.cells cs e f)) (hc : ∀ u ∈ cs.toList, ∀ k z, u ≠ .int k z) : NoInt w g := fun o k z hx => by
  rw [cell_of_row w g o cs e f h] at hx
  exact hc _ (by rw [Array.getElem?_eq_some_iff] at hx; obtain ⟨h1, h2⟩ := hx; rw [← h2]; simp) k z rfl

theorem run_append_noint {P : Program} (w : World) (base : Nat) (t ty e : TypeId) (i : TypeInfo) (z : Value) (size bytes : Nat) (ht : P.underlying t = some (.slice e)) (hi : P.info? e = some i) (hz : i.zero = some z)
    (hsize : i.size = size) (hby : i.bytes = bytes) (hzs : z.cells.size = size) (hsz : 0 < size)
    (v : Value) (n : Nat) (xs : List Value) (hown : w.ownsRow base e size v n xs)
    (a : Addr) (m c : Nat) (news : List Value) (hl : news.length = m * size) (hnews : ∀ j u, news[j]? = some u → w.cell? (a.add j) = some u) (h1 : ∀ u ∈ news, u.oneCell' = true)
    (h63 : n + m ≤ maxLen) (hbytes : (n + m) * bytes ≤ 140737488355328) (hm : 0 < m)
    (hv : NoIntV w v) (hnew : ∀ u ∈ news, ∀ k z, u ≠ .int k z) (hzn : ∀ u ∈ z.cells.toList, ∀ k z, u ≠ .int k z) :
    ∃ v' w', (Builtin.append_ #[t, t] ty #[v, .slice (some a) m c]).run P w = .ok v' w' ∧ NoIntV w' v' := by
  subst hsize
  subst hby
  have hsmall : n + m ≤ 9223372036854775807 := by simp only [maxLen] at h63; omega
  have zc : ∀ k, ∀ u ∈ (Builtin.zeroCells z.cells k).toList, ∀ k z, u ≠ .int k z := by
    intro k u hu
    unfold Builtin.zeroCells at hu
    rw [Array.toList_map] at hu
    obtain ⟨j, hj, rfl⟩ := List.mem_map.1 hu
    have hp : 0 < z.cells.size := by omega
    refine hzn _ ?_
    have hlt : j % z.cells.size < z.cells.size := Nat.mod_lt _ hp
    rw [getElem!_pos z.cells _ hlt]
    simp
  have newB : ∀ (ys : List Value) (k : Nat), (∀ u ∈ ys, ∀ k z, u ≠ .int k z) → NoInt (w.drew.alloc (.cells (ys.toArray ++ news.toArray ++ Builtin.zeroCells z.cells k) e)) w.heap.size := by
    intro ys k hys
    refine noInt_cells (heap_alloc_new w.drew _) fun u hu => ?_
    simp only [Array.toList_append, List.mem_append] at hu
    rcases hu with (hu | hu) | hu
    · exact hys u hu
    · exact hnew u hu
    · exact zc k u hu
  have blk : ∀ (s k : Nat) (w' : World) (g : Nat), NoInt w' g → NoIntV w' (.slice (some ⟨g, 0, none⟩) s k) := by
    intro s k w' g h g' hg'
    simp [Value.ownBlock] at hg'
    subst hg'; exact h
  rcases hown.2 with ⟨rfl, rfl⟩ | ⟨g, cap, cur, rfl, hbg, hg, hnc, hcm, hcs, htake⟩
  · have hr := run_append_nil (P := P) w t ty e i z ht hi hz a m c news hl hnews (by omega) (by omega) (by have hb := hbytes; simp only [Nat.zero_add] at hb; omega)
    refine ⟨_, _, hr, blk _ _ _ _ ?_⟩
    have := newB [] (grownCap w m 0 e - m) (fun u hu => by cases hu)
    simpa using this
  · have hcur : ∀ u ∈ cur.toList, ∀ k z, u ≠ .int k z := by
      intro u hu k' z' he
      obtain ⟨j, hj, hju⟩ := List.getElem_of_mem hu
      refine hv g rfl j k' z' ?_
      rw [cell_of_row w g j cur e (0, 0) hg, ← he, ← hju]
      simp at hj
      simp [hj]
    by_cases hroom : n + m ≤ cap
    · have hfit : n * i.size + news.length ≤ cur.size := by rw [hl, hcs, ← Nat.add_mul]; exact Nat.mul_le_mul_right _ hroom
      have hr := run_append_room (P := P) w t ty e i ht hi g n cap cur hg a m c news hl hnews h1 hroom hfit
      refine ⟨_, _, hr, blk _ _ _ _ (noInt_cells (setRow_heap w g cur _ e _ hg) fun u hu => ?_)⟩
      simp only [List.mem_append] at hu
      rcases hu with (hu | hu) | hu
      · exact hcur u (List.mem_of_mem_take hu)
      · exact hnew u hu
      · exact hcur u (List.mem_of_mem_drop hu)
    · have holds : ∀ j u, xs[j]? = some u → w.cell? ((⟨g, 0, none⟩ : Addr).add j) = some u := hown.cells (g := g) rfl
      have hr := run_append_grow (P := P) w t ty e i z ht hi hz ⟨g, 0, none⟩ n cap xs hown.1 holds a m c news hl hnews (by omega) (by omega) (growslice_fits (by omega) hbytes)
      refine ⟨_, _, hr, blk _ _ _ _ (newB xs _ fun u hu => ?_)⟩
      rw [← htake] at hu
      exact hcur u (List.mem_of_mem_take hu)

/-- Both at once. -/
theorem wpList_append_noint {P : Program} (w : World) {ops : Array Oper} {rest : List Oper} {o : Oper} {a : Act} {Q : Exit → Act → World → Prop} (hgd : o.guard = none) (s x : Operand) (t : TypeId)
    (ho : o.op = .call { callee := .builtin .append, args := #[s, x], argTypes := #[t, t] })
    (base : Nat) (e : TypeId) (i : TypeInfo) (z : Value) (size bytes : Nat) (ht : P.underlying t = some (.slice e)) (hi : P.info? e = some i) (hz : i.zero = some z)
    (hsize : i.size = size) (hby : i.bytes = bytes) (hzs : z.cells.size = size) (hsz : 0 < size)
    (v : Value) (n : Nat) (xs : List Value) (hs : a.eval s = v) (hown : w.ownsRow base e size v n xs)
    (ad : Addr) (m c : Nat) (news : List Value) (hx : a.eval x = .slice (some ad) m c) (hl : news.length = m * size) (hnews : ∀ j u, news[j]? = some u → w.cell? (ad.add j) = some u) (h1 : ∀ u ∈ news, u.oneCell' = true)
    (h63 : n + m ≤ maxLen) (hbytes : (n + m) * bytes ≤ 140737488355328) (hbase : base ≤ w.heap.size) (hm : 0 < m)
    (hv : NoIntV w v) (hnew : ∀ u ∈ news, ∀ k z, u ≠ .int k z) (hzn : ∀ u ∈ z.cells.toList, ∀ k z, u ≠ .int k z)
    (h : ∀ v' w', w'.ownsRow base e size v' (n + m) (xs ++ news) → w.grownBy w' v.ownBlock → NoIntV w' v' → wpList P ops Q rest (a.put o.dst v') w') : wpList P ops Q (o :: rest) a w := by
  refine wpList_plain hgd fun K hK => ?_
  obtain ⟨v', w', hr, h2, h3, _⟩ := run_append_own (P := P) w base t o.type e i z size bytes ht hi hz hsize hby hzs hsz v n xs hown ad m c news hl hnews h1 h63 hbytes hbase
  obtain ⟨v2, w2, hr2, h4⟩ := run_append_noint (P := P) w base t o.type e i z size bytes ht hi hz hsize hby hzs hsz v n xs hown ad m c news hl hnews h1 h63 hbytes hm hv hnew hzn
  rw [hr] at hr2
  injection hr2 with e1 e2
  subst e1 e2
  unfold Oper.wp execOp
  simp only [ho, resolve, invoke, builtin, Sem.run_bind, Sem.run_pure, Result.andThen_ok, List.map_toArray, List.map_cons, List.map_nil, hs, hx, hr]
  exact hK _ _ (h v' w' h2 h3 h4)

end Go.Proofs.Ytkecdjdggkpdpaa
