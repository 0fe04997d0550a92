/- Va -/
import Derived.Test.YteiipfajoikfpaaQPf
import Derived.Test.YteiipfajoikfpaaQPg
import Derived.BigQuiet
set_option linter.unusedVariables false
/- Walks of slices.Compare of ints, and of Even's closure. -/
namespace Go.Proofs.Yteiipfajoikfpaa
open Go Go.RowKit Go.Proofs

def cmpI (x y : Int) : Int := if x < y then -1 else if y < x then 1 else 0
theorem isNaN_any (x : Int) (w : World) : Calls Try.prog 105 #[.int .i64 x] w (fun e w' => e = .returned (.bool false) ∧ w = w') := by
  have e1 : (x != x) = false := by simp
  go_enter Try.func105, Try.ntmps105
  go_wp2_with (fail)
  go_ret
  exact ⟨ret_boolJ (by simp), rfl⟩
theorem cmp_any (x y : Int) (w : World) : Calls Try.prog 90 #[.int .i64 x, .int .i64 y] w (fun e w' => e = .returned (.int .i64 (cmpI x y)) ∧ w = w') := by
  by_cases h1 : x < y
  · have h1B : decide (x < y) = true := by simpa using h1
    have hc : Hid (cmpI x y = -1) := by show _ = _; unfold cmpI; rw [if_pos h1]
    go_enter Try.func90, Try.ntmps90
    go_wp2_with (first
      | (go_at_call 105; (with_reducible refine (isNaN_any x _).mono ?_); rintro e w1 ⟨rfl, rfl⟩)
      | (go_at_call 105; (with_reducible refine (isNaN_any y _).mono ?_); rintro e w1 ⟨rfl, rfl⟩))
    go_ret
    exact ⟨ret_intJ hc.out.symm, rfl⟩
  · have h1B : decide (x < y) = false := by simpa using h1
    by_cases h2 : y < x
    · have h2B : decide (y < x) = true := by simpa using h2
      have hc : Hid (cmpI x y = 1) := by show _ = _; unfold cmpI; rw [if_neg h1, if_pos h2]
      go_enter Try.func90, Try.ntmps90
      go_wp2_with (first
        | (go_at_call 105; (with_reducible refine (isNaN_any x _).mono ?_); rintro e w1 ⟨rfl, rfl⟩)
        | (go_at_call 105; (with_reducible refine (isNaN_any y _).mono ?_); rintro e w1 ⟨rfl, rfl⟩))
      go_ret
      exact ⟨ret_intJ hc.out.symm, rfl⟩
    · have h2B : decide (y < x) = false := by simpa using h2
      have hc : Hid (cmpI x y = 0) := by show _ = _; unfold cmpI; rw [if_neg h1, if_neg h2]
      go_enter Try.func90, Try.ntmps90
      go_wp2_with (first
        | (go_at_call 105; (with_reducible refine (isNaN_any x _).mono ?_); rintro e w1 ⟨rfl, rfl⟩)
        | (go_at_call 105; (with_reducible refine (isNaN_any y _).mono ?_); rintro e w1 ⟨rfl, rfl⟩))
      go_ret
      exact ⟨ret_intJ hc.out.symm, rfl⟩
/-- The order of lists of one length. -/
theorem lt_atV {α : Type} [LT α] {l m : List α} {k : Nat} {a b : α} (ht : l.take k = m.take k) (ha : l[k]? = some a) (hb : m[k]? = some b) (h : a < b) : l < m := by
  induction k generalizing l m with
  | zero =>
    cases l with
    | nil => simp at ha
    | cons x l =>
      cases m with
      | nil => simp at hb
      | cons y m =>
        simp at ha hb
        subst ha hb
        exact List.Lex.rel h
  | succ k ih =>
    cases l with
    | nil => simp at ha
    | cons x l =>
      cases m with
      | nil => simp at hb
      | cons y m =>
        simp at ha hb ht
        obtain ⟨e, ht⟩ := ht
        subst e
        exact List.Lex.cons (ih ht ha hb)
/-- What Compare returns of lists of one length. -/
def CmpPost (xs ys : List Int) (w : World) (e : Ending) (w' : World) : Prop := ∃ z : Int, e = .returned (.int .i64 z) ∧ ((z < 0 ∧ xs < ys) ∨ (0 < z ∧ ys < xs) ∨ (z = 0 ∧ xs = ys)) ∧ Below w.heap.size w w'
set_option maxRecDepth 100000 in
set_option maxHeartbeats 3200000 in
theorem compare_anyJ (ao bo : Option Addr) (c d n : Nat) (xs ys : List Int) (w : World) (h1 : IZ w ao xs) (h2 : IZ w bo ys) (hx : xs.length = n) (hy : ys.length = n) (hn : n ≤ 1000000) :
    Calls Try.prog 70 #[.slice ao n c, .slice bo n d] w (CmpPost xs ys w) := by
  have h1H := Lib.hid h1
  have h2H := Lib.hid h2
  have hxH := Lib.hid hx
  have hyH := Lib.hid hy
  clear h1 h2 hx hy
  go_enter Try.func70, Try.ntmps70
  go_wp2_with (fail)
  go_loopg [11] n (fun gk iv wr => ∃ k : Nat, iv = .int .i64 (k : Nat) ∧ k + gk = n ∧ xs.take k = ys.take k ∧ Below w.heap.size w wr)
  case atStart => exact ⟨0, rfl, by omega, by simp, Below.refl _ _⟩
  case round =>
    obtain ⟨k, rfl, hk, heq, hbl⟩ := hrel
    have heqH := Lib.hid heq
    have hblH := Lib.hid hbl
    clear heq hbl
    by_cases hkn : k < n
    · obtain ⟨g1, rfl⟩ : ∃ g1, gk = g1 + 1 := ⟨gk - 1, by omega⟩
      obtain ⟨b1, o1, hao, e1⟩ := (h1H.out.below hblH.out).at (i := k) (by rw [hxH.out]; exact hkn)
      obtain ⟨b2, o2, hbo, e2⟩ := (h2H.out.below hblH.out).at (i := k) (by rw [hyH.out]; exact hkn)
      have haoH := Lib.hid hao
      have hboH := Lib.hid hbo
      subst hao
      subst hbo
      have hgx := Lib.hid (at0_get (l := xs) (j := k) (by rw [hxH.out]; exact hkn))
      have hgy := Lib.hid (at0_get (l := ys) (j := k) (by rw [hyH.out]; exact hkn))
      have t1 := Lib.hid (take_at0 xs (k := k) (by rw [hxH.out]; exact hkn))
      have t2 := Lib.hid (take_at0 ys (k := k) (by rw [hyH.out]; exact hkn))
      obtain ⟨x, hx⟩ : ∃ x, at0 xs k = x := ⟨_, rfl⟩
      obtain ⟨y, hy⟩ : ∃ y, at0 ys k = y := ⟨_, rfl⟩
      rw [hx] at e1
      rw [hy] at e2
      have hxv := Lib.hid hx
      have hyv := Lib.hid hy
      have hkI : (k : Int) < (n : Int) := by omega
      have hk0 : (0 : Int) ≤ (k : Int) := by omega
      have hkB : decide ((n : Int) ≤ (k : Int)) = false := by simp; omega
      clear hx hy
      obtain ⟨z, hz⟩ : ∃ z, cmpI x y = z := ⟨_, rfl⟩
      have hzH := Lib.hid hz
      by_cases hlt : x < y
      · have ez : z = -1 := by rw [← hz]; unfold cmpI; rw [if_pos hlt]
        subst ez
        clear hz
        go_wp2_with (go_at_call 90; (with_reducible refine (cmp_any x y _).mono ?_); rintro e w1 ⟨rfl, rfl⟩; rw [hzH.out])
        go_ret
        exact ⟨-1, rfl, .inl ⟨by omega, lt_atV heqH.out (by rw [hgx.out, hxv.out]) (by rw [hgy.out, hyv.out]) hlt⟩, hblH.out⟩
      · by_cases hgt : y < x
        · have ez : z = 1 := by rw [← hz]; unfold cmpI; rw [if_neg hlt, if_pos hgt]
          subst ez
          clear hz
          go_wp2_with (go_at_call 90; (with_reducible refine (cmp_any x y _).mono ?_); rintro e w1 ⟨rfl, rfl⟩; rw [hzH.out])
          go_ret
          exact ⟨1, rfl, .inr (.inl ⟨by omega, lt_atV heqH.out.symm (by rw [hgy.out, hyv.out]) (by rw [hgx.out, hxv.out]) hgt⟩), hblH.out⟩
        · have ez : z = 0 := by rw [← hz]; unfold cmpI; rw [if_neg hlt, if_neg hgt]
          have exy : x = y := by omega
          subst ez exy
          clear hz
          go_wp2_with (go_at_call 90; (with_reducible refine (cmp_any x x _).mono ?_); rintro e w1 ⟨rfl, rfl⟩; rw [hzH.out])
          go_roundg g1
          case measure => omega
          case rel => exact ⟨k + 1, by go_num, by omega, by rw [t1.out, t2.out, hxv.out, hyv.out, heqH.out], hblH.out⟩
    · have hke : n = k := by omega
      subst hke
      have hkI : ¬ (n : Int) < (n : Int) := by omega
      have hkB : decide ((n : Int) < (n : Int)) = false := by simp
      go_wp2_with (fail)
      go_ret
      refine ⟨0, rfl, .inr (.inr ⟨rfl, ?_⟩), hblH.out⟩
      have h3 := heqH.out
      rw [List.take_of_length_le (by rw [hxH.out]; exact Nat.le_refl _), List.take_of_length_le (by rw [hyH.out]; exact Nat.le_refl _)] at h3
      exact h3
/-- Even's closure: is a cost in the window? -/
theorem eg_even : ∀ args w, (callFunc 69 args).run Try.prog w = .ok (.enter 69 args) w := enters_of Try.func69 (by kernel_rfl) rfl
set_option maxRecDepth 100000 in
set_option maxHeartbeats 3200000 in
theorem win_at (ao : Option Addr) (c n b1 b2 b3 : Nat) (C : List (List Int)) (lo hi : Int) (w : World) (hM : IMx w ao C) (hg : goodC C) (hn : C.length = n)
    (c1 : w.cell? ⟨b1, 0, none⟩ = some (.slice ao n c)) (c2 : w.cell? ⟨b2, 0, none⟩ = some (.int .i64 lo)) (c3 : w.cell? ⟨b3, 0, none⟩ = some (.int .i64 hi)) :
    AllowAt 69 #[ptr b1, ptr b2, ptr b3] (winA C lo hi) n w := by
  intro W i j b hA hb hi' hj
  have hn8 : n ≤ 8 := by rw [← hn]; exact hg.2.1
  obtain ⟨b5, o3, b4, o4, c4, rfl, e1, hc4, e2, q0, q1⟩ := (hM.below hb).cost hg hn hi' hj
  have d1 : W.cell? ⟨b1, 0, none⟩ = some (.slice (some ⟨b5, o3, none⟩) n c) := Below.cellAt hb (Nat.le_refl _) c1
  have d2 : W.cell? ⟨b2, 0, none⟩ = some (.int .i64 lo) := Below.cellAt hb (Nat.le_refl _) c2
  have d3 : W.cell? ⟨b3, 0, none⟩ = some (.int .i64 hi) := Below.cellAt hb (Nat.le_refl _) c3
  obtain ⟨x, hx⟩ : ∃ x, cst C i j = x := ⟨_, rfl⟩
  rw [hx] at e2
  have hAH : Hid ((decide (lo ≤ x) && decide (x ≤ hi)) = b) := by show _ = _; rw [← hA, ← hx]; rfl
  have hi0 : (0 : Int) ≤ (i : Int) := by omega
  have hiI : (i : Int) < (n : Int) := by omega
  have hj0 : (0 : Int) ≤ (j : Int) := by omega
  have hjI : (j : Int) < (n : Int) := by omega
  clear hM hg hn c1 c2 c3 hb hA hx q0 q1
  show Calls Try.prog _ #[.int .i64 (i : Nat), .int .i64 (j : Nat), ptr b1, ptr b2, ptr b3] W _
  by_cases hlo : lo ≤ x
  · have hloB : decide (lo ≤ x) = true := by simpa using hlo
    go_enter Try.func69, Try.ntmps69
    go_wp2_with (fail)
    go_quiet (fail)
    go_wp2_with (fail)
    go_ret
    exact ⟨ret_boolJ (by rw [← hAH.out, hloB]; simp), _, rfl⟩
  · have hloB : decide (lo ≤ x) = false := by simpa using hlo
    go_enter Try.func69, Try.ntmps69
    go_wp2_with (fail)
    go_quiet (fail)
    go_wp2_with (fail)
    go_ret
    exact ⟨ret_boolJ (by rw [← hAH.out, hloB]; rfl), _, rfl⟩
end Go.Proofs.Yteiipfajoikfpaa
