/- Jn Jp -/
import Derived.Test.YtkecdjdggkpdpabQJm
import Derived.Test.YtkecdjdggkpdpabQJs
set_option linter.unusedVariables false
/- Walks of the reference's small functions: in, has, Same, less, Costs. -/
namespace Go.Proofs.Ytkecdjdggkpdpab
open Go Go.RowKit Go.Proofs

theorem ret_boolJ {a b : Bool} (h : a = b) : Ending.returned (.bool a) = .returned (.bool b) := by rw [h]
theorem ret_intJ {k : IntKind} {a b : Int} (h : a = b) : Ending.returned (.int k a) = .returned (.int k b) := by rw [h]

/-- From low to high. -/
def inBJ (v lo hi : Int) : Bool := decide (lo ≤ v) && decide (v ≤ hi)
theorem inB_true {v lo hi : Int} : inBJ v lo hi = true ↔ lo ≤ v ∧ v ≤ hi := by unfold inBJ; simp
theorem inB_false {v lo hi : Int} : inBJ v lo hi = false ↔ ¬ (lo ≤ v ∧ v ≤ hi) := by rw [← inB_true, Bool.not_eq_true]
theorem take_at0 (xs : List Int) {k : Nat} (h : k < xs.length) : xs.take (k + 1) = xs.take k ++ [at0 xs k] := by
  rw [List.take_succ_eq_append_getElem h]
  have := at0_of (List.getElem?_eq_getElem h)
  rw [this]
/-- The list has the number. -/
def hasBJ (xs : List Int) (v : Int) : Bool := decide (v ∈ xs)
/-- A list of costs that is valid. -/
def goodC (C : List (List Int)) : Prop := 1 ≤ C.length ∧ C.length ≤ 8 ∧ ∀ xs ∈ C, xs.length = C.length ∧ ∀ x ∈ xs, 0 ≤ x ∧ x ≤ 1000
instance (C : List (List Int)) : Decidable (goodC C) := by unfold goodC; infer_instance
def costsB (C : List (List Int)) : Bool := decide (goodC C)
theorem mem_at0 {xs : List Int} {j n : Nat} (hn : xs.length = n) (h : j < n) : at0 xs j ∈ xs := List.mem_of_getElem? (at0_get (by omega))
end Go.Proofs.Ytkecdjdggkpdpab

/- Walks of the reference's Same, less, Sum, Falling. -/
namespace Go.Proofs.Ytkecdjdggkpdpab
open Go Go.RowKit Go.Proofs

/-- Columns as ints. -/
def nz (p : List Nat) : List Int := p.map fun x : Nat => (x : Int)
theorem nz_length (p : List Nat) : (nz p).length = p.length := by simp [nz]
theorem nz_get {p : List Nat} {i x : Nat} (h : p[i]? = some x) : (nz p)[i]? = some (x : Int) := by unfold nz; rw [List.getElem?_map, h]; rfl
theorem nz_snoc (p : List Nat) (j : Nat) : nz p ++ [(j : Int)] = nz (p ++ [j]) := by simp [nz]
theorem nz_inj {p q : List Nat} (h : nz p = nz q) : p = q := by
  unfold nz at h
  exact List.map_inj_right (fun a b hab => by omega) |>.1 h
theorem mem_nz {p : List Nat} {j : Nat} : (j : Int) ∈ nz p ↔ j ∈ p := by
  unfold nz
  rw [List.mem_map]
  exact ⟨fun ⟨x, h1, h2⟩ => by have : x = j := by omega
                               exact this ▸ h1, fun h => ⟨j, h, rfl⟩⟩

def sameB (xs ys : List Int) : Bool := decide (xs = ys)
theorem lt_at {xs ys : List Int} {k : Nat} (h : xs.take k = ys.take k) (hx : k < xs.length) (hy : k < ys.length) (hne : at0 xs k ≠ at0 ys k) : xs < ys ↔ at0 xs k < at0 ys k := by
  induction k generalizing xs ys with
  | zero =>
    rcases xs with _ | ⟨x, xs⟩
    · simp at hx
    · rcases ys with _ | ⟨y, ys⟩
      · simp at hy
      · simp [at0] at hne ⊢
        rw [List.cons_lt_cons_iff]
        exact ⟨fun h => h.resolve_right fun h => hne h.1, .inl⟩
  | succ k ih =>
    rcases xs with _ | ⟨x, xs⟩
    · simp at hx
    · rcases ys with _ | ⟨y, ys⟩
      · simp at hy
      · simp at h hx hy
        have e1 : at0 (x :: xs) (k + 1) = at0 xs k := rfl
        have e2 : at0 (y :: ys) (k + 1) = at0 ys k := rfl
        rw [e1, e2] at hne ⊢
        rw [List.cons_lt_cons_iff, ← ih h.2 hx hy hne]
        exact ⟨fun h' => h'.elim (fun h' => absurd h' (by omega)) (fun h' => h'.2), fun h' => .inr ⟨h.1, h'⟩⟩
def lessB (xs ys : List Int) : Bool := decide (xs < ys)
end Go.Proofs.Ytkecdjdggkpdpab
