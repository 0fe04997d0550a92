/- Jn Jp -/
import Derived.Test.YtbehfhmdilifkaaGreatQJm
import Derived.Test.YtbehfhmdilifkaaGreatQJs
set_option linter.unusedVariables false
/- Walks of the reference's small functions: in, has, Same, less, Costs. -/
namespace Go.Proofs.YtbehfhmdilifkaaGreat
open Go Go.RowKit Go.Proofs

theorem ret_boolJ {a b : Bool} (h : a = b) : Ending.returned (.bool a) = .returned (.bool b) := by rw [h]
theorem ret_intJ {k : IntKind} {a b : Int} (h : a = b) : Ending.returned (.int k a) = .returned (.int k b) := by rw [h]

/-- From low to high. -/
def inBJ (v lo hi : Int) : Bool := decide (lo ≤ v) && decide (v ≤ hi)
theorem inB_true {v lo hi : Int} : inBJ v lo hi = true ↔ lo ≤ v ∧ v ≤ hi := by unfold inBJ; simp
theorem inB_false {v lo hi : Int} : inBJ v lo hi = false ↔ ¬ (lo ≤ v ∧ v ≤ hi) := by rw [← inB_true, Bool.not_eq_true]
theorem take_at0 (xs : List Int) {k : Nat} (h : k < xs.length) : xs.take (k + 1) = xs.take k ++ [at0 xs k] := by
  rw [List.take_succ_eq_append_getElem h]
  have := at0_of (List.getElem?_eq_getElem h)
  rw [this]
/-- The list has the number. -/
def hasBJ (xs : List Int) (v : Int) : Bool := decide (v ∈ xs)
/-- A list of costs that is valid. -/
def goodC (C : List (List Int)) : Prop := 1 ≤ C.length ∧ C.length ≤ 8 ∧ ∀ xs ∈ C, xs.length = C.length ∧ ∀ x ∈ xs, 0 ≤ x ∧ x ≤ 1000
instance (C : List (List Int)) : Decidable (goodC C) := by unfold goodC; infer_instance
def costsB (C : List (List Int)) : Bool := decide (goodC C)
theorem mem_at0 {xs : List Int} {j n : Nat} (hn : xs.length = n) (h : j < n) : at0 xs j ∈ xs := List.mem_of_getElem? (at0_get (by omega))
end Go.Proofs.YtbehfhmdilifkaaGreat

/- Walks of the reference's Same, less, Sum, Falling. -/
namespace Go.Proofs.YtbehfhmdilifkaaGreat
open Go Go.RowKit Go.Proofs

/-- Columns as ints. -/
def nz (p : List Nat) : List Int := p.map fun x : Nat => (x : Int)
theorem nz_length (p : List Nat) : (nz p).length = p.length := by simp [nz]
theorem nz_get {p : List Nat} {i x : Nat} (h : p[i]? = some x) : (nz p)[i]? = some (x : Int) := by unfold nz; rw [List.getElem?_map, h]; rfl
theorem nz_snoc (p : List Nat) (j : Nat) : nz p ++ [(j : Int)] = nz (p ++ [j]) := by simp [nz]
theorem nz_inj {p q : List Nat} (h : nz p = nz q) : p = q := by
  unfold nz at h
  exact List.map_inj_right (fun a b hab => by omega) |>.1 h
theorem mem_nz {p : List Nat} {j : Nat} : (j : Int) ∈ nz p ↔ j ∈ p := by
  unfold nz
  rw [List.mem_map]
  exact ⟨fun ⟨x, h1, h2⟩ => by have : x = j := by omega
                               exact this ▸ h1, fun h => ⟨j, h, rfl⟩⟩

def sameB (xs ys : List Int) : Bool := decide (xs = ys)
set_option maxHeartbeats 800000 in
theorem same_any (ao bo : Option Addr) (c d n m : Nat) (xs ys : List Int) (b : Bool) (w : World) (h1 : IZ w ao xs) (h2 : IZ w bo ys) (hn : xs.length = n) (hm : ys.length = m) (hb1 : n ≤ 9223372036854775807) (hb2 : m ≤ 9223372036854775807) (hb : sameB xs ys = b) :
    Calls Tryz.prog 20 #[.slice ao n c, .slice bo m d] w (RetB w b) := by
  have hbH := Lib.hid hb
  have hnH := Lib.hid hn
  have hmH := Lib.hid hm
  have h1H := Lib.hid h1
  have h2H := Lib.hid h2
  clear hb hn hm h1 h2
  by_cases hnm : n = m
  · subst hnm
    have e1 : ((n : Int) != (n : Int)) = false := by simp
    go_enter Tryz.func20, Tryz.ntmps20
    go_wp2
    go_loopw [5] (fun i wr => ∃ k : Nat, i = .int .i64 (k : Nat) ∧ k ≤ n ∧ xs.take k = ys.take k ∧ Below w.heap.size w wr) (fun i _ => n - (intOf i).toNat)
    case atStart => exact ⟨0, rfl, by omega, by simp, Below.refl _ _⟩
    case round =>
      obtain ⟨k, rfl, hk, heq, hbl⟩ := hrel
      have heqH := Lib.hid heq
      have hblH := Lib.hid hbl
      clear heq
      by_cases hkn : k < n
      · obtain ⟨b1, o1, rfl, c1⟩ := (h1H.out.below hbl).at (i := k) (by rw [hnH.out]; exact hkn)
        obtain ⟨b2, o2, rfl, c2⟩ := (h2H.out.below hbl).at (i := k) (by rw [hmH.out]; exact hkn)
        obtain ⟨x, hx⟩ : ∃ x, at0 xs k = x := ⟨_, rfl⟩
        obtain ⟨y, hy⟩ : ∃ y, at0 ys k = y := ⟨_, rfl⟩
        rw [hx] at c1
        rw [hy] at c2
        have t1 := Lib.hid (take_at0 xs (k := k) (by rw [hnH.out]; exact hkn))
        have t2 := Lib.hid (take_at0 ys (k := k) (by rw [hmH.out]; exact hkn))
        have hxH := Lib.hid hx
        have hyH := Lib.hid hy
        have hk0 : (0 : Int) ≤ (k : Int) := by omega
        have hkI : (k : Int) < (n : Int) := by omega
        clear hx hy hbl
        by_cases he : x = y
        · subst he
          have e2 : (x != x) = false := by simp
          go_wp2
          go_quiet (fail)
          go_wp2
          go_roundw
          case rel => exact ⟨k + 1, by go_num, by omega, by rw [t1.out, t2.out, hxH.out, hyH.out, heqH.out], bdn hblH.out⟩
          case measure => simp [intOf]; omega
        · have e2 : (x != y) = true := by simpa using he
          have e3 : (x == y) = false := by simpa using he
          go_wp2
          go_quiet (fail)
          go_wp2
          go_ret
          exact ⟨ret_boolJ (by rw [← hbH.out]; exact (decide_eq_false fun h => he (by rw [← hxH.out, ← hyH.out, h])).symm), bdn hblH.out⟩
      · have hke : k = n := by omega
        subst hke
        go_wp2
        go_ret
        refine ⟨ret_boolJ ?_, hblH.out⟩
        rw [← hbH.out]
        have h3 := heqH.out
        rw [List.take_of_length_le (by rw [hnH.out]; exact Nat.le_refl _), List.take_of_length_le (by rw [hmH.out]; exact Nat.le_refl _)] at h3
        exact (decide_eq_true h3).symm
  · have e1 : ((n : Int) != (m : Int)) = true := by simp; omega
    go_enter Tryz.func20, Tryz.ntmps20
    go_wp2
    go_ret
    exact ⟨ret_boolJ (by rw [← hbH.out]; exact (decide_eq_false fun h => hnm (by rw [← hnH.out, ← hmH.out, h])).symm), Below.refl _ _⟩

theorem lt_at {xs ys : List Int} {k : Nat} (h : xs.take k = ys.take k) (hx : k < xs.length) (hy : k < ys.length) (hne : at0 xs k ≠ at0 ys k) : xs < ys ↔ at0 xs k < at0 ys k := by
  induction k generalizing xs ys with
  | zero =>
    rcases xs with _ | ⟨x, xs⟩
    · simp at hx
    · rcases ys with _ | ⟨y, ys⟩
      · simp at hy
      · simp [at0] at hne ⊢
        rw [List.cons_lt_cons_iff]
        exact ⟨fun h => h.resolve_right fun h => hne h.1, .inl⟩
  | succ k ih =>
    rcases xs with _ | ⟨x, xs⟩
    · simp at hx
    · rcases ys with _ | ⟨y, ys⟩
      · simp at hy
      · simp at h hx hy
        have e1 : at0 (x :: xs) (k + 1) = at0 xs k := rfl
        have e2 : at0 (y :: ys) (k + 1) = at0 ys k := rfl
        rw [e1, e2] at hne ⊢
        rw [List.cons_lt_cons_iff, ← ih h.2 hx hy hne]
        exact ⟨fun h' => h'.elim (fun h' => absurd h' (by omega)) (fun h' => h'.2), fun h' => .inr ⟨h.1, h'⟩⟩
def lessB (xs ys : List Int) : Bool := decide (xs < ys)
end Go.Proofs.YtbehfhmdilifkaaGreat
