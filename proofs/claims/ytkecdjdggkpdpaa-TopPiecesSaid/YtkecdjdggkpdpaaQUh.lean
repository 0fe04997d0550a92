/- Uh -/
import Derived.Test.YtkecdjdggkpdpaaQUf
import Derived.Test.YtkecdjdggkpdpaaQPg
import Derived.Test.YtkecdjdggkpdpaaQPf
set_option linter.unusedVariables false
/- Walk of the program's Proves. -/
namespace Go.Proofs.Ytkecdjdggkpdpaa
open Go Go.RowKit Go.Proofs

/-- A closure of one int that reads nothing. -/
def PredAtI (g : Nat) (P : Int → Bool) : Prop := ∀ (W : World) (x : Int) (b : Bool), P x = b → Calls Try.prog g #[.int .i64 x] W (fun e w' => e = .returned (.bool b) ∧ w' = W)
def IdxPostI (P : Int → Bool) (s : List Int) (w : World) (e : Ending) (w' : World) : Prop := ∃ z : Int, e = .returned (.int .i64 z) ∧ decide (0 ≤ z) = s.any P ∧ w' = w
set_option maxRecDepth 100000 in
set_option maxHeartbeats 3200000 in
theorem indexFuncI_any (ao : Option Addr) (m c g : Nat) (P : Int → Bool) (s : List Int) (w : World) (h : IZ w ao s) (hm : s.length = m) (hm2 : m ≤ 9223372036854775807) (hP : PredAtI g P) (eg : ∀ args w, (callFunc g args).run Try.prog w = .ok (.enter g args) w) :
    Calls Try.prog 28 #[.slice ao m c, .func (.func g) #[] #[]] w (IdxPostI P s w) := by
  have hH := Lib.hid h
  have hmH := Lib.hid hm
  have hPH := Lib.hid hP
  clear h hm hP
  go_enter Try.func28, Try.ntmps28
  go_wp2_with (fail)
  go_loopw [8] (fun iv wr => ∃ k : Nat, iv = .int .i64 (k : Nat) ∧ k ≤ m ∧ (∀ x ∈ s.take k, P x = false) ∧ wr = w) (fun iv _ => m - (intOf iv).toNat)
  case atStart => exact ⟨0, rfl, by omega, by simp, by trivial⟩
  case round =>
    obtain ⟨k, rfl, hk, hno, rfl⟩ := hrel
    have hnoH := Lib.hid hno
    clear hno
    by_cases hkm : k < m
    · obtain ⟨b1, o1, rfl, e1⟩ := hH.out.at (i := k) (by rw [hmH.out]; exact hkm)
      have ht := Lib.hid (take_at0 s (k := k) (by rw [hmH.out]; exact hkm))
      have hmem : Hid (at0 s k ∈ s) := List.mem_of_getElem? (at0_get (by rw [hmH.out]; exact hkm))
      obtain ⟨x, hx⟩ : ∃ x, at0 s k = x := ⟨_, rfl⟩
      rw [hx] at e1
      have hxH := Lib.hid hx
      have hkI : (k : Int) < (m : Int) := by omega
      have hk0 : (0 : Int) ≤ (k : Int) := by omega
      clear hx
      rcases hb : P x
      · have hbH := Lib.hid hb
        clear hb
        go_wp2_with (fail)
        have cS : Calls Try.prog g #[.int .i64 x] _ _ := hPH.out wr x false hbH.out
        refine cS.mono ?_
        rintro e w1 ⟨rfl, rfl⟩
        clear cS
        go_wp2_with (fail)
        go_roundw
        case rel => exact ⟨k + 1, by go_num, by omega, by rw [ht.out, hxH.out]; intro y hy; rcases List.mem_append.1 hy with h | h; exact hnoH.out y h; rw [List.mem_singleton.1 h]; exact hbH.out, by trivial⟩
        case measure => simp [intOf]; omega
      · have hbH := Lib.hid hb
        clear hb
        go_wp2_with (fail)
        have cS : Calls Try.prog g #[.int .i64 x] _ _ := hPH.out wr x true hbH.out
        refine cS.mono ?_
        rintro e w1 ⟨rfl, rfl⟩
        clear cS
        go_wp2_with (fail)
        go_ret
        refine ⟨_, rfl, ?_, rfl⟩
        rw [List.any_eq_true.2 ⟨at0 s k, hmem.out, by rw [hxH.out]; exact hbH.out⟩]
        simp
    · have hke : k = m := by omega
      subst hke
      go_wp2_with (fail)
      go_ret
      refine ⟨_, rfl, ?_, rfl⟩
      have h3 := hnoH.out
      rw [List.take_of_length_le (by rw [hmH.out]; exact Nat.le_refl _)] at h3
      rw [show s.any P = false by rw [List.any_eq_false]; intro x hx; rw [h3 x hx]; simp]
      simp
theorem containsFuncI_any (ao : Option Addr) (m c g : Nat) (P : Int → Bool) (s : List Int) (b : Bool) (w : World) (h : IZ w ao s) (hm : s.length = m) (hm2 : m ≤ 9223372036854775807) (hP : PredAtI g P) (eg : ∀ args w, (callFunc g args).run Try.prog w = .ok (.enter g args) w) (hb : s.any P = b) :
    Calls Try.prog 19 #[.slice ao m c, .func (.func g) #[] #[]] w (fun e w' => e = .returned (.bool b) ∧ w = w') := by
  have hH := Lib.hid h
  have hmH := Lib.hid hm
  have hPH := Lib.hid hP
  have egH := Lib.hid eg
  have hbH := Lib.hid hb
  clear h hm hP eg hb
  go_enter Try.func19, Try.ntmps19
  go_wp2_with (first
    | (go_at_call 28; go_loud (refine (indexFuncI_any ao m c g P s _ hH.out hmH.out hm2 hPH.out egH.out).mono ?_); rintro e w1 ⟨z, rfl, hz, rfl⟩; have hzH := Lib.hid hz; clear hz))
  go_ret
  exact ⟨ret_boolJ (by rw [hzH.out, hbH.out]), rfl⟩
/-- A price out of its range. -/
def wildB (x : Int) : Bool := decide (x < -1000000000) || decide (1000000000 < x)
theorem great_at : PredAtI 18 wildB := by
  intro W x b hA
  have hAH := Lib.hid hA
  clear hA
  by_cases h1 : x < -1000000000
  · have h1B : decide (x < -1000000000) = true := by simpa using h1
    go_enter Try.func18, Try.ntmps18
    go_wp2_with (fail)
    go_ret
    exact ⟨ret_boolJ (by rw [← hAH.out]; unfold wildB; rw [h1B]; rfl), rfl⟩
  · have h1B : decide (x < -1000000000) = false := by simpa using h1
    go_enter Try.func18, Try.ntmps18
    go_wp2_with (fail)
    go_ret
    exact ⟨ret_boolJ (by rw [← hAH.out]; unfold wildB; rw [h1B]; rfl), rfl⟩
theorem wild_any {xs : List Int} {n : Nat} (h : rangeB xs n = true) : xs.any wildB = false ∧ xs.length = n := by
  have h1 := of_decide_eq_true h
  refine ⟨?_, h1.2⟩
  rw [List.any_eq_false]
  intro x hx
  have := h1.1 x hx
  unfold wildB; simp; omega
theorem wild_some {xs : List Int} {n : Nat} (h : rangeB xs n = false) (hl : xs.length = n) : xs.any wildB = true := by
  have h1 := of_decide_eq_false h
  rcases hb : xs.any wildB
  · exfalso
    refine h1 ⟨fun x hx => ?_, hl⟩
    have := List.any_eq_false.1 hb x hx
    unfold wildB at this; simp at this; omega
  · rfl
theorem eg_great : ∀ args w, (callFunc 18 args).run Try.prog w = .ok (.enter 18 args) w := enters_of Try.func18 (by kernel_rfl) rfl
theorem proves_bad (ao aR aK : Option Addr) (c cR cK n lR lK : Nat) (C : List (List Int)) (s : Int) (w : World) (h : IMx w ao C) (hn : C.length = n) (hm : n ≤ 9223372036854775807) (hb : costsB C = false) :
    Calls Try.prog 8 #[.slice ao n c, .slice aR lR cR, .slice aK lK cK, .int .i64 s] w (fun e w' => e = .returned (.tuple #[.bool false, .int .i64 1]) ∧ Below w.heap.size w w') := by
  have hH := Lib.hid h
  have hnH := Lib.hid hn
  have hbH := Lib.hid hb
  clear h hn hb
  go_enter Try.func8, Try.ntmps8
  go_wp2_with (go_at_call 14; (with_reducible refine (valid_any ao c n C false _ hH.out hnH.out hm hbH.out).mono ?_); rintro e w1 ⟨rfl, rfl⟩)
  go_ret2
  exact ⟨rfl, Below.refl _ _⟩
set_option maxRecDepth 100000 in
set_option maxHeartbeats 3200000 in
theorem proves_form (ao aR aK : Option Addr) (c cR cK n lR lK : Nat) (C : List (List Int)) (R K : List Int) (s : Int) (w : World) (h : IMx w ao C) (hg : goodC C) (hn : C.length = n) (hR : IZ w aR R) (hK : IZ w aK K) (hlR : R.length = lR) (hlK : K.length = lK) (hR2 : lR ≤ 1000000) (hK2 : lK ≤ 1000000)
    (hno : rangeB R n = false ∨ rangeB K n = false) :
    Calls Try.prog 8 #[.slice ao n c, .slice aR lR cR, .slice aK lK cK, .int .i64 s] w (fun e w' => e = .returned (.tuple #[.bool false, .int .i64 2]) ∧ Below w.heap.size w w') := by
  have hn8 : n ≤ 8 := by rw [← hn]; exact hg.2.1
  have hb := Lib.hid (show costsB C = true from decide_eq_true hg)
  have hH := Lib.hid h
  have hnH := Lib.hid hn
  have hRH := Lib.hid hR
  have hKH := Lib.hid hK
  have hlRH := Lib.hid hlR
  have hlKH := Lib.hid hlK
  have hnoH := Lib.hid hno
  clear h hg hn hR hK hlR hlK hno
  by_cases e1 : lR = n
  · subst e1
    have e1B : ((lR : Int) != (lR : Int)) = false := by simp
    by_cases e2 : lK = lR
    · subst e2
      rcases hw1 : R.any wildB
      · have hw2 : K.any wildB = true := by
          rcases hnoH.out with h1 | h1
          · have := wild_some h1 hlRH.out
            rw [hw1] at this; cases this
          · exact wild_some h1 hlKH.out
        have hw1H := Lib.hid hw1
        have hw2H := Lib.hid hw2
        clear hw1 hw2
        go_enter Try.func8, Try.ntmps8
        go_wp2_with (first
          | (go_at_call 14; (with_reducible refine (valid_any ao c lK C true _ hH.out hnH.out (by omega) hb.out).mono ?_); rintro e w1 ⟨rfl, rfl⟩)
          | (go_at_call 19; (with_reducible refine (containsFuncI_any aR lK cR 18 wildB R false _ hRH.out hlRH.out (by omega) great_at eg_great hw1H.out).mono ?_); rintro e w2 ⟨rfl, rfl⟩)
          | (go_at_call 19; (with_reducible refine (containsFuncI_any aK lK cK 18 wildB K true _ hKH.out hlKH.out (by omega) great_at eg_great hw2H.out).mono ?_); rintro e w2 ⟨rfl, rfl⟩))
        go_ret2
        exact ⟨rfl, Below.refl _ _⟩
      · have hw1H := Lib.hid hw1
        clear hw1
        go_enter Try.func8, Try.ntmps8
        go_wp2_with (first
          | (go_at_call 14; (with_reducible refine (valid_any ao c lK C true _ hH.out hnH.out (by omega) hb.out).mono ?_); rintro e w1 ⟨rfl, rfl⟩)
          | (go_at_call 19; (with_reducible refine (containsFuncI_any aR lK cR 18 wildB R true _ hRH.out hlRH.out (by omega) great_at eg_great hw1H.out).mono ?_); rintro e w2 ⟨rfl, rfl⟩))
        go_ret2
        exact ⟨rfl, Below.refl _ _⟩
    · have e2B : ((lK : Int) != (lR : Int)) = true := by simp; omega
      have e2C : ((lK : Int) == (lR : Int)) = false := by simp; omega
      go_enter Try.func8, Try.ntmps8
      go_wp2_with (first
        | (go_at_call 14; (with_reducible refine (valid_any ao c lR C true _ hH.out hnH.out (by omega) hb.out).mono ?_); rintro e w1 ⟨rfl, rfl⟩))
      go_ret2
      exact ⟨rfl, Below.refl _ _⟩
  · have e1B : ((lR : Int) != (n : Int)) = true := by simp; omega
    have e1C : ((lR : Int) == (n : Int)) = false := by simp; omega
    go_enter Try.func8, Try.ntmps8
    go_wp2_with (first
      | (go_at_call 14; (with_reducible refine (valid_any ao c n C true _ hH.out hnH.out (by omega) hb.out).mono ?_); rintro e w1 ⟨rfl, rfl⟩))
    go_ret2
    exact ⟨rfl, Below.refl _ _⟩
end Go.Proofs.Ytkecdjdggkpdpaa
