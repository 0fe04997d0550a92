/- Im -/
import Derived.Test.YtbehfhmdilifkaaQTs
import Derived.Test.YtbehfhmdilifkaaQHf
import Derived.Test.YtbehfhmdilifkaaQWp
set_option linter.unusedVariables false
/- Walk of the law TeethPells. -/
namespace Go.Proofs.Ytbehfhmdilifkaa
open Go Go.RowKit Go.Proofs

theorem allOk_end {s : Cv} {l : List Nat} (h : allOk s l = true) : stOk (cvEnd s l) = true := by
  induction l generalizing s with
  | nil => exact h
  | cons a l ih =>
    simp only [allOk, Bool.and_eq_true] at h
    exact ih h.2
theorem pellV_lt {d : Nat} {neg : Bool} (h : pellOk1 d neg = true) (hi : pellIs d neg = true) : (pellV d neg).1 < cvB ∧ (pellV d neg).2 < cvB := by
  have h1 := stOk_lt (allOk_end (pell_is h hi).1)
  exact ⟨h1.1, h1.2.2.1⟩
theorem pellIsN (x : Nat) (s : ByteArray) (hs : nt (((x : Nat) : Int) : Rat) = s) (a : Option Addr) (c : Nat) (a' : Option Addr) (c' : Nat) (w : World) (h1 : ZM w a c (x : Int)) (h2 : ZM w a' c' 1) (hx : x < cvB) :
    Calls Try.prog 33 #[.string s, .agg #[.bool (ng (x : Int)), .slice a (LZ (x : Int)) c, .bool (ng 1), .slice a' (LZ 1) c']] w (RetB w true) := by
  have e1 : rn (((x : Nat) : Int) : Rat) = (x : Int) := by unfold rn; simp
  have e2 : rd (((x : Nat) : Int) : Rat) = 1 := by unfold rd; simp
  have hp : cvB < p10 4000 := Nat.lt_of_lt_of_le (show cvB < p10 101 by decide) (p10_mono (by omega))
  have h4 : Short4 (((x : Nat) : Int) : Rat) := ⟨by rw [e1]; omega, by rw [e2]; exact Nat.lt_of_lt_of_le (show 1 < p10 101 by decide) (p10_mono (by omega))⟩
  have h5 := h4.sz
  rw [e1, e2] at h5
  have := is_any s a c a' c' (x : Int) 1 (((x : Nat) : Int) : Rat) w ⟨h1, h2⟩ h5.1 h5.2 (by omega) (by have := rat_eq (((x : Nat) : Int) : Rat); rw [e1, e2] at this; exact this) h4
  rw [show decide (s = nt (((x : Nat) : Int) : Rat)) = true from decide_eq_true hs.symm] at this
  exact this
theorem pellP_arg (d sg : Int) (h : d < 2 ∨ 1000 < d ∨ (sg ≠ 1 ∧ sg ≠ -1)) (W : World) : Calls Try.prog 31 #[.int .i64 d, .int .i64 sg] W (RetE2 W 1) := by
  by_cases hs : sg = 1 ∨ sg = -1
  · exact pellP_err d sg 1 W hs (by decide) (fun W => rootP_bad d W (by omega))
  · exact pellP_sign d sg W (by omega) (by omega)
theorem pellR_any (d : Nat) (neg : Bool) (W : World) (h2 : 2 ≤ d) (h3 : d ≤ 1000) (h : sqB d = false) :
    Calls Try.prog 32 #[.int .i64 (d : Nat), .int .i64 (sgP neg)] W (PellRPost (if pellIs d neg then some (pellV d neg) else none) W) := by
  have hne : ¬ fl d * fl d = d := of_decide_eq_false h
  have hP := perI h2 h3 hne
  have hok := pell_ok h2 h3 hne
  have hn := sq32_le d
  have hL1 : 1 ≤ (per d).length := List.length_pos_iff.2 hP.ne
  have hr : refGo d neg (cv0 (sq32 d)) (per d ++ per d) = (if pellIs d neg then some (pellV d neg) else none) := by
    have h1 : pellOk1 d neg = true := by cases neg with
      | true => exact hok.2.1
      | false => exact hok.1
    cases hi : pellIs d neg with
    | true => exact (pell_is h1 hi).2.1
    | false => exact pell_not h1 hi
  exact pellR_main d (sq32 d) (per d).length neg (sgP neg) rfl (per d) _ W (fun W => rootR_good d (sq32 d) W h2 h3 h (fl_small h2 h3)) h3 rfl hL1 hP.len hn (fun x hx => ⟨(hP.pos x hx).1, by have := (hP.pos x hx).2; omega⟩) hok.2.2.1 hr
def PellRNone (w : World) (e : Ending) (w' : World) : Prop := ∃ (x y : Nat) (a c a' c' : _), e = .returned (.tuple #[.agg #[.bool (ng (x : Int)), .slice a (LZ (x : Int)) c], .agg #[.bool (ng (y : Int)), .slice a' (LZ (y : Int)) c'], .bool false]) ∧ Below w.heap.size w w'
def PellRSome (x y : Nat) (w : World) (e : Ending) (w' : World) : Prop := ∃ (a c a' c' : _), e = .returned (.tuple #[.agg #[.bool (ng (x : Int)), .slice a (LZ (x : Int)) c], .agg #[.bool (ng (y : Int)), .slice a' (LZ (y : Int)) c'], .bool true]) ∧ ZM w' a c (x : Int) ∧ ZM w' a' c' (y : Int) ∧ Below w.heap.size w w'
theorem pellR_none (d : Nat) (neg : Bool) (W : World) (h2 : 2 ≤ d) (h3 : d ≤ 1000) (h : sqB d = false) (hi : pellIs d neg = false) :
    Calls Try.prog 32 #[.int .i64 (d : Nat), .int .i64 (sgP neg)] W (PellRNone W) :=
  (pellR_any d neg W h2 h3 h).mono fun e w' ⟨x, y, ok, a, c, a', c', he, _, _, hcs, hb⟩ => by
    rw [hi] at hcs
    rcases hcs with ⟨_, h1⟩ | ⟨h1, _⟩
    · cases h1
    · subst h1
      exact ⟨x, y, a, c, a', c', he, hb⟩
theorem pellR_some (d : Nat) (neg : Bool) (x y : Nat) (W : World) (h2 : 2 ≤ d) (h3 : d ≤ 1000) (h : sqB d = false) (hi : pellIs d neg = true) (hx : (pellV d neg).1 = x) (hy : (pellV d neg).2 = y) :
    Calls Try.prog 32 #[.int .i64 (d : Nat), .int .i64 (sgP neg)] W (PellRSome x y W) :=
  (pellR_any d neg W h2 h3 h).mono fun e w' ⟨x', y', ok, a, c, a', c', he, hm, hm', hcs, hb⟩ => by
    rw [hi] at hcs
    rcases hcs with ⟨h1, h4⟩ | ⟨_, h1⟩
    · have h5 : pellV d neg = (x', y') := by simpa using h4
      subst h1
      have e1 : x' = x := by rw [← hx, h5]
      have e2 : y' = y := by rw [← hy, h5]
      subst e1 e2
      exact ⟨a, c, a', c', he, hm, hm', hb⟩
    · simp at h1
section
attribute [local go_sem] undef
set_option maxHeartbeats 1600000 in
theorem pellsLaw_arg (d sg : Int) (w : World) (h : d < 2 ∨ 1000 < d ∨ (sg ≠ 1 ∧ sg ≠ -1)) : Calls Try.prog 6 #[.int .i64 d, .int .i64 sg] w (RetB w true) := by
  have hr := Lib.hid (pellP_arg d sg h)
  by_cases h1 : d < 2
  · have d1 : decide (d < 2) = true := decide_eq_true h1
    clear h
    go_enter Try.func6, Try.ntmps6
    go_wp2_with (first
      | (go_at_call 31; (with_reducible refine (hr.out _).mono ?_); rintro e w1 ⟨rfl, hb⟩; have hb1 := Lib.hid hb; clear hb)
      | (go_at_call 23; (with_reducible refine (lives_any _).mono ?_); rintro e w2 ⟨rfl, hb⟩; have hb2 := Lib.hid hb; clear hb))
    go_ret
    exact ⟨rfl, bseqT hb1.out hb2.out⟩
  · have d1 : decide (d < 2) = false := decide_eq_false h1
    by_cases h2 : 1000 < d
    · have d2 : decide (1000 < d) = true := decide_eq_true h2
      clear h
      go_enter Try.func6, Try.ntmps6
      go_wp2_with (first
        | (go_at_call 31; (with_reducible refine (hr.out _).mono ?_); rintro e w1 ⟨rfl, hb⟩; have hb1 := Lib.hid hb; clear hb)
        | (go_at_call 23; (with_reducible refine (lives_any _).mono ?_); rintro e w2 ⟨rfl, hb⟩; have hb2 := Lib.hid hb; clear hb))
      go_ret
      exact ⟨rfl, bseqT hb1.out hb2.out⟩
    · have d2 : decide (1000 < d) = false := decide_eq_false h2
      have h3 : sg ≠ 1 ∧ sg ≠ -1 := by omega
      have e1 : (sg == 1) = false := by simp; omega
      have e2 : (sg == -1) = false := by simp; omega
      have e3 : (sg != 1) = true := by simp; omega
      have e4 : (sg != -1) = true := by simp; omega
      obtain ⟨e5, e6⟩ := h3
      clear h
      go_enter Try.func6, Try.ntmps6
      go_wp2_with (first
        | (go_at_call 31; (with_reducible refine (hr.out _).mono ?_); rintro e w1 ⟨rfl, hb⟩; have hb1 := Lib.hid hb; clear hb)
        | (go_at_call 23; (with_reducible refine (lives_any _).mono ?_); rintro e w2 ⟨rfl, hb⟩; have hb2 := Lib.hid hb; clear hb))
      go_ret
      exact ⟨rfl, bseqT hb1.out hb2.out⟩
set_option maxHeartbeats 1600000 in
theorem pellsLaw_sq (d : Nat) (neg : Bool) (w : World) (h2 : 2 ≤ d) (h3 : d ≤ 1000) (h : sqB d = true) : Calls Try.prog 6 #[.int .i64 (d : Nat), .int .i64 (sgP neg)] w (RetB w true) := by
  have hr := Lib.hid (fun W => pellP_err d (sgP neg) 5 W (by cases neg with | true => exact .inr rfl | false => exact .inl rfl) (by decide) (fun W => rootP_sq d W h2 h3 h))
  have hs := Lib.hid (fun W => square_any d true W (by omega) h)
  have d1 : decide ((d : Int) < 2) = false := decide_eq_false (by omega)
  have d2 : decide ((1000 : Int) < (d : Int)) = false := decide_eq_false (by omega)
  have d3 : decide (d < 2) = false := decide_eq_false (by omega)
  have d4 : decide (1000 < d) = false := decide_eq_false (by omega)
  obtain ⟨sg, hsg⟩ : ∃ sg, sgP neg = sg := ⟨_, rfl⟩
  have hsg2 : sg = 1 ∨ sg = -1 := by rw [← hsg]; cases neg with | true => exact .inr rfl | false => exact .inl rfl
  rw [hsg] at hr ⊢
  clear h hsg
  rcases hsg2 with rfl | rfl
  all_goals (
    go_enter Try.func6, Try.ntmps6
    go_wp2_with (first
      | (go_at_call 31; (with_reducible refine (hr.out _).mono ?_); rintro e w1 ⟨rfl, hb⟩; have hb1 := Lib.hid hb; clear hb)
      | (go_at_call 29; (with_reducible refine (hs.out _).mono ?_); rintro e w3 ⟨rfl, hb⟩; have hb3 := Lib.hid hb; clear hb)
      | (go_at_call 23; (with_reducible refine (lives_any _).mono ?_); rintro e w2 ⟨rfl, hb⟩; have hb2 := Lib.hid hb; clear hb))
    go_ret
    have := hb3.out
    subst this
    exact ⟨rfl, bseqT hb1.out hb2.out⟩)
set_option maxHeartbeats 1600000 in
theorem pellsLaw_none (d : Nat) (w : World) (h2 : 2 ≤ d) (h3 : d ≤ 1000) (h : sqB d = false) (hi : pellIs d true = false) : Calls Try.prog 6 #[.int .i64 (d : Nat), .int .i64 (-1)] w (RetB w true) := by
  have hL : (per d).length % 2 = 0 := by unfold pellIs at hi; simp at hi; omega
  have hr := Lib.hid (fun W => pellP_none d (sq32 d) (per d).length (per d) W (fun W => rootP_good d (sq32 d) W h2 h3 h (fl_small h2 h3)) rfl hL (perI h2 h3 (of_decide_eq_false h)).len)
  have hrr : Hid (∀ W, Calls Try.prog 32 #[.int .i64 (d : Nat), .int .i64 (-1)] W (PellRNone W)) := fun W => pellR_none d true W h2 h3 h hi
  have hs := Lib.hid (fun W => square_any d false W (by omega) h)
  have d1 : decide ((d : Int) < 2) = false := decide_eq_false (by omega)
  have d2 : decide ((1000 : Int) < (d : Int)) = false := decide_eq_false (by omega)
  have d3 : decide (d < 2) = false := decide_eq_false (by omega)
  have d4 : decide (1000 < d) = false := decide_eq_false (by omega)
  clear h hi hL
  go_enter Try.func6, Try.ntmps6
  go_wp2_with (first
    | (go_at_call 31; (with_reducible refine (hr.out _).mono ?_); rintro e w1 ⟨rfl, hb⟩; have hb1 := Lib.hid hb; clear hb)
    | (go_at_call 29; (with_reducible refine (hs.out _).mono ?_); rintro e w3 ⟨rfl, hb⟩; have hb3 := Lib.hid hb; clear hb)
    | (go_at_call 32; (with_reducible refine (hrr.out _).mono ?_); rintro e w4 ⟨x, y, a, c, a', c', rfl, hb⟩; have hb4 := Lib.hid hb; clear hb)
    | (go_at_call 23; (with_reducible refine (lives_any _).mono ?_); rintro e w2 ⟨rfl, hb⟩; have hb2 := Lib.hid hb; clear hb))
  go_ret
  have := hb3.out
  subst this
  exact ⟨rfl, bseqT hb1.out (bseqT hb4.out (bseqT (below_al (below_al (Below.refl _ _) _) _) hb2.out))⟩
end
set_option maxRecDepth 100000 in
set_option maxHeartbeats 6400000 in
theorem pellsLaw_good (d : Nat) (neg : Bool) (w : World) (h2 : 2 ≤ d) (h3 : d ≤ 1000) (h : sqB d = false) (hi : pellIs d neg = true) : Calls Try.prog 6 #[.int .i64 (d : Nat), .int .i64 (sgP neg)] w (RetB w true) := by
  have hok := pell_ok h2 h3 (of_decide_eq_false h)
  have hok1 : pellOk1 d neg = true := by cases neg with
    | true => exact hok.2.1
    | false => exact hok.1
  have hlt := pellV_lt hok1 hi
  obtain ⟨x, hx⟩ : ∃ x, (pellV d neg).1 = x := ⟨_, rfl⟩
  obtain ⟨y, hy⟩ : ∃ y, (pellV d neg).2 = y := ⟨_, rfl⟩
  obtain ⟨s, hs1⟩ : ∃ s, nt (((x : Nat) : Int) : Rat) = s := ⟨_, rfl⟩
  obtain ⟨t, ht1⟩ : ∃ t, nt (((y : Nat) : Int) : Rat) = t := ⟨_, rfl⟩
  have hr := Lib.hid (fun W => pellP_good d neg W h2 h3 h hi)
  unfold PellPost at hr
  rw [hx, hy, hs1, ht1] at hr
  have hrr := Lib.hid (fun W => pellR_some d neg x y W h2 h3 h hi hx hy)
  rw [hx, hy] at hlt
  have hix : Hid (∀ (a : Option Addr) (c : Nat) (a' : Option Addr) (c' : Nat) (w : World), ZM w a c (x : Int) → ZM w a' c' 1 → Calls Try.prog 33 #[.string s, .agg #[.bool (ng (x : Int)), .slice a (LZ (x : Int)) c, .bool (ng 1), .slice a' (LZ 1) c']] w (RetB w true)) := fun a c a' c' w h1 h2 => pellIsN x s hs1 a c a' c' w h1 h2 hlt.1
  have hiy : Hid (∀ (a : Option Addr) (c : Nat) (a' : Option Addr) (c' : Nat) (w : World), ZM w a c (y : Int) → ZM w a' c' 1 → Calls Try.prog 33 #[.string t, .agg #[.bool (ng (y : Int)), .slice a (LZ (y : Int)) c, .bool (ng 1), .slice a' (LZ 1) c']] w (RetB w true)) := fun a c a' c' w h1 h2 => pellIsN y t ht1 a c a' c' w h1 h2 hlt.2
  have hz1 : Hid (∀ W, Calls Try.prog 34 #[.int .i64 1] W (RetZ W 1)) := fun W => zint_any 1 W (by omega)
  have hs := Lib.hid (fun W => square_any d false W (by omega) h)
  have d1 : decide ((d : Int) < 2) = false := decide_eq_false (by omega)
  have d2 : decide ((1000 : Int) < (d : Int)) = false := decide_eq_false (by omega)
  have d3 : decide (d < 2) = false := decide_eq_false (by omega)
  have d4 : decide (1000 < d) = false := decide_eq_false (by omega)
  obtain ⟨sg, hsg⟩ : ∃ sg, sgP neg = sg := ⟨_, rfl⟩
  have hsg2 : sg = 1 ∨ sg = -1 := by rw [← hsg]; cases neg with | true => exact .inr rfl | false => exact .inl rfl
  rw [hsg] at hr hrr ⊢
  clear h hsg hok hok1 hlt hx hy hs1 ht1 hi
  rcases hsg2 with rfl | rfl
  · go_enter Try.func6, Try.ntmps6
    go_upto_region 10 with (first
      | (go_at_call 31; (with_reducible refine (hr.out _).mono ?_); rintro e w1 ⟨rfl, hb⟩; have hb1 := Lib.hid hb; clear hb)
      | (go_at_call 29; (with_reducible refine (hs.out _).mono ?_); rintro e w3 ⟨rfl, hb⟩; have hb3 := Lib.hid hb; clear hb)
      | (go_at_call 32; (with_reducible refine (hrr.out _).mono ?_); rintro e w4 ⟨a, c, a', c', rfl, hm, hm', hb⟩; have hb4 := Lib.hid hb; have hm4 := Lib.hid hm; have hn4 := Lib.hid hm'; clear hb hm hm'))
    obtain ⟨W5, hW5⟩ : ∃ W5, W5 = (w4.alloc (Obj.cells #[.bool (ng (x : Int)), .slice a (LZ (x : Int)) c] 44)).alloc (Obj.cells #[.bool (ng (y : Int)), .slice a' (LZ (y : Int)) c'] 44) := ⟨_, rfl⟩
    have hb45 : Below w4.heap.size w4 W5 := by rw [hW5]; exact below_al (below_al (Below.refl _ _) _) _
    have e1 : (w4.alloc (Obj.cells #[.bool (ng (x : Int)), .slice a (LZ (x : Int)) c] 44)).heap.size = w4.heap.size + 1 := by simp
    have px : PZ W5 w4.heap.size (x : Int) a c := by
      rw [hW5]
      exact ⟨Blk.later (World.alloc_heap_new w4 _) (below_al (Below.refl _ _) _), (hm4.out.up (below_al (below_al (Below.refl _ _) _) _))⟩
    have py : PZ W5 (w4.heap.size + 1) (y : Int) a' c' := by
      rw [hW5, ← e1]
      exact ⟨World.alloc_heap_new _ _, (hn4.out.up (below_al (below_al (Below.refl _ _) _) _))⟩
    have hb45H := Lib.hid hb45
    rw [← hW5]
    obtain ⟨B4, hB4⟩ : ∃ B4, w4.heap.size = B4 := ⟨_, rfl⟩
    rw [hB4] at px py
    rw [hB4]
    have hmx := Lib.hid px.zm
    have hmy := Lib.hid py.zm
    have hq0 : W5.cell? ⟨B4, 0, none⟩ = some (.bool (ng (x : Int))) ∧ W5.cell? ⟨B4, 1, none⟩ = some (.slice a (LZ (x : Int)) c) ∧ W5.cell? ⟨B4 + 1, 0, none⟩ = some (.bool (ng (y : Int))) ∧ W5.cell? ⟨B4 + 1, 1, none⟩ = some (.slice a' (LZ (y : Int)) c') := ⟨by rw [px.blk.cell]; rfl, by rw [px.blk.cell]; rfl, by rw [py.blk.cell]; rfl, by rw [py.blk.cell]; rfl⟩
    have hup : Hid (∀ W, Below W5.heap.size W5 W → W.cell? ⟨B4, 0, none⟩ = some (.bool (ng (x : Int))) ∧ W.cell? ⟨B4, 1, none⟩ = some (.slice a (LZ (x : Int)) c) ∧ W.cell? ⟨B4 + 1, 0, none⟩ = some (.bool (ng (y : Int))) ∧ W.cell? ⟨B4 + 1, 1, none⟩ = some (.slice a' (LZ (y : Int)) c')) := fun W hW =>
      ⟨Below.cellAt hW (Nat.le_refl _) hq0.1, Below.cellAt hW (Nat.le_refl _) hq0.2.1, Below.cellAt hW (Nat.le_refl _) hq0.2.2.1, Below.cellAt hW (Nat.le_refl _) hq0.2.2.2⟩
    have hB0 : Below W5.heap.size W5 W5 := Below.refl _ _
    obtain ⟨k1, k2, k3, k4⟩ := hq0
    clear hb45 e1 px py hW5 hB4 hm4 hn4
    -- tail S: fun W => Below W5.heap.size W5 W ∧ W.cell? ⟨B4, 0, none⟩ = some (.bool (ng (x : Int))) ∧ W.cell? ⟨B4, 1, none⟩ = some (.slice a (LZ (x : Int)) c) ∧ W.cell? ⟨B4 + 1, 0, none⟩ = some (.bool (ng (y : Int))) ∧ W.cell? ⟨B4 + 1, 1, none⟩ = some (.slice a' (LZ (y : Int)) c')
    -- tail s0: ⟨Below.drew hB0, hup.out _ (Below.drew hB0)⟩
    -- arm 2: go_at_call 34; (with_reducible refine (hz1.out _).mono ?_); rintro e w6 ⟨a6, c6, rfl, hm, hb⟩; have hq6 : Below W5.heap.size W5 w6 := bseqT hHeld.1 hb; have hm6 := Lib.hid hm; clear hm hb
    -- arm 2 s: ⟨hq6, hup.out _ hq6⟩
    -- arm 4: go_at_call 33; (with_reducible refine (hix.out a c a6 c6 _ (hmx.out.up hq6) hm6.out).mono ?_); rintro e w7 ⟨rfl, hb⟩; have hq7 : Below W5.heap.size W5 w7 := bseqT hq6 hb; clear hb
    -- arm 4 s: ⟨hq7, hup.out _ hq7⟩
    -- arm 8: go_at_call 34; (with_reducible refine (hz1.out _).mono ?_); rintro e w8 ⟨a8, c8, rfl, hm, hb⟩; have hq8 : Below W5.heap.size W5 w8 := bseqT hq7 hb; have hm8 := Lib.hid hm; clear hm hb
    -- arm 8 s: ⟨hq8, hup.out _ hq8⟩
    -- arm 10: go_at_call 33; (with_reducible refine (hiy.out a' c' a8 c8 _ (hmy.out.up hq8) hm8.out).mono ?_); rintro e w9 ⟨rfl, hb⟩; have hq9 : Below W5.heap.size W5 w9 := bseqT hq8 hb; clear hb
    -- arm 10 s: ⟨hq9, hup.out _ hq9⟩
    -- arm 17: go_at_call 23; (with_reducible refine (lives_any _).mono ?_); rintro e w10 ⟨rfl, hb⟩; have hq10 : Below W5.heap.size W5 w10 := bseqT hq9 hb; clear hb
    -- arm 17 s: ⟨hq10, hup.out _ hq10⟩
    -- tail g 0 1 c2 3 c4 5 6 7 c8 9 c10 11 12 13 14 15 16 c17 18 19
    refine wp_region_tail (fun W => Below W5.heap.size W5 W ∧ W.cell? ⟨B4, 0, none⟩ = some (.bool (ng (x : Int))) ∧ W.cell? ⟨B4, 1, none⟩ = some (.slice a (LZ (x : Int)) c) ∧ W.cell? ⟨B4 + 1, 0, none⟩ = some (.bool (ng (y : Int))) ∧ W.cell? ⟨B4 + 1, 1, none⟩ = some (.slice a' (LZ (y : Int)) c')) (fun j => decide (1000 ≤ j)) (by kernel_rfl) (⟨Below.drew hB0, hup.out _ (Below.drew hB0)⟩) (fun hHeld => ?_)
    refine wpAnyT_take (i := 0) (oi := ?oig0) (v := ?vg0) ?hog0 (by kernel_rfl) (by kernel_rfl) (by kernel_rfl) (by kernel_rfl) ?hqg0 (Or.inl ⟨?hwg0, ?hyg0⟩) (by assumption) ?_
    case hog0 => rfl
    case hwg0 => rfl
    case hyg0 => (intro w hSw; (try dsimp only at hSw); go_split_ands; go_simp; (try (with_reducible rfl)))
    case hqg0 => exact fun _ _ _ h => h
    simp only [Act.put, List.getElem_toArray, List.getElem_cons_zero, List.setIfInBounds_toArray, List.set_cons_zero, List.set_cons_succ]
    refine wpAnyT_take (i := 1) (oi := ?oig1) (v := ?vg1) ?hog1 (by kernel_rfl) (by kernel_rfl) (by kernel_rfl) (by kernel_rfl) ?hqg1 (Or.inl ⟨?hwg1, ?hyg1⟩) (by assumption) ?_
    case hog1 => rfl
    case hwg1 => rfl
    case hyg1 => (intro w hSw; (try dsimp only at hSw); go_split_ands; go_simp; (try (with_reducible rfl)))
    case hqg1 => exact fun _ _ _ h => h
    simp only [Act.put, List.getElem_toArray, List.getElem_cons_succ, List.getElem_cons_zero, List.setIfInBounds_toArray, List.set_cons_zero, List.set_cons_succ]
    refine wpAnyT_one (i := 2) (o := ?oig2) (by kernel_rfl) ?hog2 (fun K hK => ?_)
    case hog2 => rfl
    rw [if_pos (by rfl)]
    go_simp
    go_at_call 34; (with_reducible refine (hz1.out _).mono ?_); rintro e w6 ⟨a6, c6, rfl, hm, hb⟩; have hq6 : Below W5.heap.size W5 w6 := bseqT hHeld.1 hb; have hm6 := Lib.hid hm; clear hm hb
    (try go_wp2_with (fail))
    refine hK.out _ _ (fun _ => ⟨hq6, hup.out _ hq6⟩) (fun hHeld => ?_)
    replace hHeld := hHeld rfl
    clear hK K
    refine wpAnyT_take (i := 3) (oi := ?oig3) (v := ?vg3) ?hog3 (by kernel_rfl) (by kernel_rfl) (by kernel_rfl) (by kernel_rfl) ?hqg3 (Or.inl ⟨?hwg3, ?hyg3⟩) (by assumption) ?_
    case hog3 => rfl
    case hwg3 => rfl
    case hyg3 => (intro w hSw; (try dsimp only at hSw); go_split_ands; go_simp; (try (with_reducible rfl)))
    case hqg3 => exact fun _ _ _ h => h
    simp only [Act.put, List.getElem_toArray, List.getElem_cons_succ, List.getElem_cons_zero, List.setIfInBounds_toArray, List.set_cons_zero, List.set_cons_succ]
    refine wpAnyT_one (i := 4) (o := ?oig4) (by kernel_rfl) ?hog4 (fun K hK => ?_)
    case hog4 => rfl
    rw [if_pos (by rfl)]
    go_simp
    go_at_call 33; (with_reducible refine (hix.out a c a6 c6 _ (hmx.out.up hq6) hm6.out).mono ?_); rintro e w7 ⟨rfl, hb⟩; have hq7 : Below W5.heap.size W5 w7 := bseqT hq6 hb; clear hb
    (try go_wp2_with (fail))
    refine hK.out _ _ (fun _ => ⟨hq7, hup.out _ hq7⟩) (fun hHeld => ?_)
    replace hHeld := hHeld rfl
    clear hK K
    refine wpAnyT_take (i := 5) (oi := ?oig5) (v := ?vg5) ?hog5 (by kernel_rfl) (by kernel_rfl) (by kernel_rfl) (by kernel_rfl) ?hqg5 (Or.inl ⟨?hwg5, ?hyg5⟩) (by assumption) ?_
    case hog5 => rfl
    case hwg5 => rfl
    case hyg5 => (intro w hSw; (try dsimp only at hSw); go_split_ands; go_simp; (try (with_reducible rfl)))
    case hqg5 => exact fun _ _ _ h => h
    simp only [Act.put, List.getElem_toArray, List.getElem_cons_succ, List.getElem_cons_zero, List.setIfInBounds_toArray, List.set_cons_zero, List.set_cons_succ]
    refine wpAnyT_take (i := 6) (oi := ?oig6) (v := ?vg6) ?hog6 (by kernel_rfl) (by kernel_rfl) (by kernel_rfl) (by kernel_rfl) ?hqg6 (Or.inl ⟨?hwg6, ?hyg6⟩) (by assumption) ?_
    case hog6 => rfl
    case hwg6 => rfl
    case hyg6 => (intro w hSw; (try dsimp only at hSw); go_split_ands; go_simp; (try (with_reducible rfl)))
    case hqg6 => exact fun _ _ _ h => h
    simp only [Act.put, List.getElem_toArray, List.getElem_cons_succ, List.getElem_cons_zero, List.setIfInBounds_toArray, List.set_cons_zero, List.set_cons_succ]
    refine wpAnyT_take (i := 7) (oi := ?oig7) (v := ?vg7) ?hog7 (by kernel_rfl) (by kernel_rfl) (by kernel_rfl) (by kernel_rfl) ?hqg7 (Or.inl ⟨?hwg7, ?hyg7⟩) (by assumption) ?_
    case hog7 => rfl
    case hwg7 => rfl
    case hyg7 => (intro w hSw; (try dsimp only at hSw); go_split_ands; go_simp; (try (with_reducible rfl)))
    case hqg7 => exact fun _ _ _ h => h
    simp only [Act.put, List.getElem_toArray, List.getElem_cons_succ, List.getElem_cons_zero, List.setIfInBounds_toArray, List.set_cons_zero, List.set_cons_succ]
    refine wpAnyT_one (i := 8) (o := ?oig8) (by kernel_rfl) ?hog8 (fun K hK => ?_)
    case hog8 => rfl
    rw [if_pos (by rfl)]
    go_simp
    go_at_call 34; (with_reducible refine (hz1.out _).mono ?_); rintro e w8 ⟨a8, c8, rfl, hm, hb⟩; have hq8 : Below W5.heap.size W5 w8 := bseqT hq7 hb; have hm8 := Lib.hid hm; clear hm hb
    (try go_wp2_with (fail))
    refine hK.out _ _ (fun _ => ⟨hq8, hup.out _ hq8⟩) (fun hHeld => ?_)
    replace hHeld := hHeld rfl
    clear hK K
    refine wpAnyT_take (i := 9) (oi := ?oig9) (v := ?vg9) ?hog9 (by kernel_rfl) (by kernel_rfl) (by kernel_rfl) (by kernel_rfl) ?hqg9 (Or.inl ⟨?hwg9, ?hyg9⟩) (by assumption) ?_
    case hog9 => rfl
    case hwg9 => rfl
    case hyg9 => (intro w hSw; (try dsimp only at hSw); go_split_ands; go_simp; (try (with_reducible rfl)))
    case hqg9 => exact fun _ _ _ h => h
    simp only [Act.put, List.getElem_toArray, List.getElem_cons_succ, List.getElem_cons_zero, List.setIfInBounds_toArray, List.set_cons_zero, List.set_cons_succ]
    refine wpAnyT_one (i := 10) (o := ?oig10) (by kernel_rfl) ?hog10 (fun K hK => ?_)
    case hog10 => rfl
    rw [if_pos (by rfl)]
    go_simp
    go_at_call 33; (with_reducible refine (hiy.out a' c' a8 c8 _ (hmy.out.up hq8) hm8.out).mono ?_); rintro e w9 ⟨rfl, hb⟩; have hq9 : Below W5.heap.size W5 w9 := bseqT hq8 hb; clear hb
    (try go_wp2_with (fail))
    refine hK.out _ _ (fun _ => ⟨hq9, hup.out _ hq9⟩) (fun hHeld => ?_)
    replace hHeld := hHeld rfl
    clear hK K
    refine wpAnyT_take (i := 11) (oi := ?oig11) (v := ?vg11) ?hog11 (by kernel_rfl) (by kernel_rfl) (by kernel_rfl) (by kernel_rfl) ?hqg11 (Or.inl ⟨?hwg11, ?hyg11⟩) (by assumption) ?_
    case hog11 => rfl
    case hwg11 => rfl
    case hyg11 => (intro w hSw; (try dsimp only at hSw); go_split_ands; go_simp; (try (with_reducible rfl)))
    case hqg11 => exact fun _ _ _ h => h
    simp only [Act.put, List.getElem_toArray, List.getElem_cons_succ, List.getElem_cons_zero, List.setIfInBounds_toArray, List.set_cons_zero, List.set_cons_succ]
    refine wpAnyT_take (i := 12) (oi := ?oig12) (v := ?vg12) ?hog12 (by kernel_rfl) (by kernel_rfl) (by kernel_rfl) (by kernel_rfl) ?hqg12 (Or.inl ⟨?hwg12, ?hyg12⟩) (by assumption) ?_
    case hog12 => rfl
    case hwg12 => rfl
    case hyg12 => (intro w hSw; (try dsimp only at hSw); go_split_ands; go_simp; (try (with_reducible rfl)))
    case hqg12 => exact fun _ _ _ h => h
    simp only [Act.put, List.getElem_toArray, List.getElem_cons_succ, List.getElem_cons_zero, List.setIfInBounds_toArray, List.set_cons_zero, List.set_cons_succ]
    refine wpAnyT_take (i := 13) (oi := ?oig13) (v := ?vg13) ?hog13 (by kernel_rfl) (by kernel_rfl) (by kernel_rfl) (by kernel_rfl) ?hqg13 (Or.inl ⟨?hwg13, ?hyg13⟩) (by assumption) ?_
    case hog13 => rfl
    case hwg13 => rfl
    case hyg13 => (intro w hSw; (try dsimp only at hSw); go_split_ands; go_simp; (try (with_reducible rfl)))
    case hqg13 => exact fun _ _ _ h => h
    simp only [Act.put, List.getElem_toArray, List.getElem_cons_succ, List.getElem_cons_zero, List.setIfInBounds_toArray, List.set_cons_zero, List.set_cons_succ]
    refine wpAnyT_take (i := 14) (oi := ?oig14) (v := ?vg14) ?hog14 (by kernel_rfl) (by kernel_rfl) (by kernel_rfl) (by kernel_rfl) ?hqg14 (Or.inl ⟨?hwg14, ?hyg14⟩) (by assumption) ?_
    case hog14 => rfl
    case hwg14 => rfl
    case hyg14 => (intro w hSw; (try dsimp only at hSw); go_split_ands; go_simp; (try (with_reducible rfl)))
    case hqg14 => exact fun _ _ _ h => h
    simp only [Act.put, List.getElem_toArray, List.getElem_cons_succ, List.getElem_cons_zero, List.setIfInBounds_toArray, List.set_cons_zero, List.set_cons_succ]
    refine wpAnyT_take (i := 15) (oi := ?oig15) (v := ?vg15) ?hog15 (by kernel_rfl) (by kernel_rfl) (by kernel_rfl) (by kernel_rfl) ?hqg15 (Or.inl ⟨?hwg15, ?hyg15⟩) (by assumption) ?_
    case hog15 => rfl
    case hwg15 => rfl
    case hyg15 => (intro w hSw; (try dsimp only at hSw); go_split_ands; go_simp; (try (with_reducible rfl)))
    case hqg15 => exact fun _ _ _ h => h
    simp only [Act.put, List.getElem_toArray, List.getElem_cons_succ, List.getElem_cons_zero, List.setIfInBounds_toArray, List.set_cons_zero, List.set_cons_succ]
    refine wpAnyT_take (i := 16) (oi := ?oig16) (v := ?vg16) ?hog16 (by kernel_rfl) (by kernel_rfl) (by kernel_rfl) (by kernel_rfl) ?hqg16 (Or.inl ⟨?hwg16, ?hyg16⟩) (by assumption) ?_
    case hog16 => rfl
    case hwg16 => rfl
    case hyg16 => (intro w hSw; (try dsimp only at hSw); go_split_ands; go_simp; (try (with_reducible rfl)))
    case hqg16 => exact fun _ _ _ h => h
    simp only [Act.put, List.getElem_toArray, List.getElem_cons_succ, List.getElem_cons_zero, List.setIfInBounds_toArray, List.set_cons_zero, List.set_cons_succ]
    refine wpAnyT_one (i := 17) (o := ?oig17) (by kernel_rfl) ?hog17 (fun K hK => ?_)
    case hog17 => rfl
    rw [if_pos (by rfl)]
    go_simp
    go_at_call 23; (with_reducible refine (lives_any _).mono ?_); rintro e w10 ⟨rfl, hb⟩; have hq10 : Below W5.heap.size W5 w10 := bseqT hq9 hb; clear hb
    (try go_wp2_with (fail))
    refine hK.out _ _ (fun _ => ⟨hq10, hup.out _ hq10⟩) (fun hHeld => ?_)
    replace hHeld := hHeld rfl
    clear hK K
    refine wpAnyT_take (i := 18) (oi := ?oig18) (v := ?vg18) ?hog18 (by kernel_rfl) (by kernel_rfl) (by kernel_rfl) (by kernel_rfl) ?hqg18 (Or.inl ⟨?hwg18, ?hyg18⟩) (by assumption) ?_
    case hog18 => rfl
    case hwg18 => rfl
    case hyg18 => (intro w hSw; (try dsimp only at hSw); go_split_ands; go_simp; (try (with_reducible rfl)))
    case hqg18 => exact fun _ _ _ h => h
    simp only [Act.put, List.getElem_toArray, List.getElem_cons_succ, List.getElem_cons_zero, List.setIfInBounds_toArray, List.set_cons_zero, List.set_cons_succ]
    refine wpAnyT_take (i := 19) (oi := ?oig19) (v := ?vg19) ?hog19 (by kernel_rfl) (by kernel_rfl) (by kernel_rfl) (by kernel_rfl) ?hqg19 (Or.inl ⟨?hwg19, ?hyg19⟩) (by assumption) ?_
    case hog19 => rfl
    case hwg19 => rfl
    case hyg19 => (intro w hSw; (try dsimp only at hSw); go_split_ands; go_simp; (try (with_reducible rfl)))
    case hqg19 => exact fun _ _ _ h => h
    simp only [Act.put, List.getElem_toArray, List.getElem_cons_succ, List.getElem_cons_zero, List.setIfInBounds_toArray, List.set_cons_zero, List.set_cons_succ]
    refine wpAnyT_done (by kernel_rfl) ?_ _
    -- tail end
    go_wp2_with (fail)
    go_ret
    have := hb3.out
    subst this
    exact ⟨rfl, bseqT hb1.out (bseqT hb4.out (bseqT hb45H.out hq10))⟩
  · go_enter Try.func6, Try.ntmps6
    go_upto_region 10 with (first
      | (go_at_call 31; (with_reducible refine (hr.out _).mono ?_); rintro e w1 ⟨rfl, hb⟩; have hb1 := Lib.hid hb; clear hb)
      | (go_at_call 29; (with_reducible refine (hs.out _).mono ?_); rintro e w3 ⟨rfl, hb⟩; have hb3 := Lib.hid hb; clear hb)
      | (go_at_call 32; (with_reducible refine (hrr.out _).mono ?_); rintro e w4 ⟨a, c, a', c', rfl, hm, hm', hb⟩; have hb4 := Lib.hid hb; have hm4 := Lib.hid hm; have hn4 := Lib.hid hm'; clear hb hm hm'))
    obtain ⟨W5, hW5⟩ : ∃ W5, W5 = (w4.alloc (Obj.cells #[.bool (ng (x : Int)), .slice a (LZ (x : Int)) c] 44)).alloc (Obj.cells #[.bool (ng (y : Int)), .slice a' (LZ (y : Int)) c'] 44) := ⟨_, rfl⟩
    have hb45 : Below w4.heap.size w4 W5 := by rw [hW5]; exact below_al (below_al (Below.refl _ _) _) _
    have e1 : (w4.alloc (Obj.cells #[.bool (ng (x : Int)), .slice a (LZ (x : Int)) c] 44)).heap.size = w4.heap.size + 1 := by simp
    have px : PZ W5 w4.heap.size (x : Int) a c := by
      rw [hW5]
      exact ⟨Blk.later (World.alloc_heap_new w4 _) (below_al (Below.refl _ _) _), (hm4.out.up (below_al (below_al (Below.refl _ _) _) _))⟩
    have py : PZ W5 (w4.heap.size + 1) (y : Int) a' c' := by
      rw [hW5, ← e1]
      exact ⟨World.alloc_heap_new _ _, (hn4.out.up (below_al (below_al (Below.refl _ _) _) _))⟩
    have hb45H := Lib.hid hb45
    rw [← hW5]
    obtain ⟨B4, hB4⟩ : ∃ B4, w4.heap.size = B4 := ⟨_, rfl⟩
    rw [hB4] at px py
    rw [hB4]
    have hmx := Lib.hid px.zm
    have hmy := Lib.hid py.zm
    have hq0 : W5.cell? ⟨B4, 0, none⟩ = some (.bool (ng (x : Int))) ∧ W5.cell? ⟨B4, 1, none⟩ = some (.slice a (LZ (x : Int)) c) ∧ W5.cell? ⟨B4 + 1, 0, none⟩ = some (.bool (ng (y : Int))) ∧ W5.cell? ⟨B4 + 1, 1, none⟩ = some (.slice a' (LZ (y : Int)) c') := ⟨by rw [px.blk.cell]; rfl, by rw [px.blk.cell]; rfl, by rw [py.blk.cell]; rfl, by rw [py.blk.cell]; rfl⟩
    have hup : Hid (∀ W, Below W5.heap.size W5 W → W.cell? ⟨B4, 0, none⟩ = some (.bool (ng (x : Int))) ∧ W.cell? ⟨B4, 1, none⟩ = some (.slice a (LZ (x : Int)) c) ∧ W.cell? ⟨B4 + 1, 0, none⟩ = some (.bool (ng (y : Int))) ∧ W.cell? ⟨B4 + 1, 1, none⟩ = some (.slice a' (LZ (y : Int)) c')) := fun W hW =>
      ⟨Below.cellAt hW (Nat.le_refl _) hq0.1, Below.cellAt hW (Nat.le_refl _) hq0.2.1, Below.cellAt hW (Nat.le_refl _) hq0.2.2.1, Below.cellAt hW (Nat.le_refl _) hq0.2.2.2⟩
    have hB0 : Below W5.heap.size W5 W5 := Below.refl _ _
    obtain ⟨k1, k2, k3, k4⟩ := hq0
    clear hb45 e1 px py hW5 hB4 hm4 hn4
    -- tail S: fun W => Below W5.heap.size W5 W ∧ W.cell? ⟨B4, 0, none⟩ = some (.bool (ng (x : Int))) ∧ W.cell? ⟨B4, 1, none⟩ = some (.slice a (LZ (x : Int)) c) ∧ W.cell? ⟨B4 + 1, 0, none⟩ = some (.bool (ng (y : Int))) ∧ W.cell? ⟨B4 + 1, 1, none⟩ = some (.slice a' (LZ (y : Int)) c')
    -- tail s0: ⟨Below.drew hB0, hup.out _ (Below.drew hB0)⟩
    -- arm 2: go_at_call 34; (with_reducible refine (hz1.out _).mono ?_); rintro e w6 ⟨a6, c6, rfl, hm, hb⟩; have hq6 : Below W5.heap.size W5 w6 := bseqT hHeld.1 hb; have hm6 := Lib.hid hm; clear hm hb
    -- arm 2 s: ⟨hq6, hup.out _ hq6⟩
    -- arm 4: go_at_call 33; (with_reducible refine (hix.out a c a6 c6 _ (hmx.out.up hq6) hm6.out).mono ?_); rintro e w7 ⟨rfl, hb⟩; have hq7 : Below W5.heap.size W5 w7 := bseqT hq6 hb; clear hb
    -- arm 4 s: ⟨hq7, hup.out _ hq7⟩
    -- arm 8: go_at_call 34; (with_reducible refine (hz1.out _).mono ?_); rintro e w8 ⟨a8, c8, rfl, hm, hb⟩; have hq8 : Below W5.heap.size W5 w8 := bseqT hq7 hb; have hm8 := Lib.hid hm; clear hm hb
    -- arm 8 s: ⟨hq8, hup.out _ hq8⟩
    -- arm 10: go_at_call 33; (with_reducible refine (hiy.out a' c' a8 c8 _ (hmy.out.up hq8) hm8.out).mono ?_); rintro e w9 ⟨rfl, hb⟩; have hq9 : Below W5.heap.size W5 w9 := bseqT hq8 hb; clear hb
    -- arm 10 s: ⟨hq9, hup.out _ hq9⟩
    -- arm 17: go_at_call 23; (with_reducible refine (lives_any _).mono ?_); rintro e w10 ⟨rfl, hb⟩; have hq10 : Below W5.heap.size W5 w10 := bseqT hq9 hb; clear hb
    -- arm 17 s: ⟨hq10, hup.out _ hq10⟩
    -- tail h 0 1 c2 3 c4 5 6 7 c8 9 c10 11 12 13 14 15 16 c17 18 19
    refine wp_region_tail (fun W => Below W5.heap.size W5 W ∧ W.cell? ⟨B4, 0, none⟩ = some (.bool (ng (x : Int))) ∧ W.cell? ⟨B4, 1, none⟩ = some (.slice a (LZ (x : Int)) c) ∧ W.cell? ⟨B4 + 1, 0, none⟩ = some (.bool (ng (y : Int))) ∧ W.cell? ⟨B4 + 1, 1, none⟩ = some (.slice a' (LZ (y : Int)) c')) (fun j => decide (1000 ≤ j)) (by kernel_rfl) (⟨Below.drew hB0, hup.out _ (Below.drew hB0)⟩) (fun hHeld => ?_)
    refine wpAnyT_take (i := 0) (oi := ?oih0) (v := ?vh0) ?hoh0 (by kernel_rfl) (by kernel_rfl) (by kernel_rfl) (by kernel_rfl) ?hqh0 (Or.inl ⟨?hwh0, ?hyh0⟩) (by assumption) ?_
    case hoh0 => rfl
    case hwh0 => rfl
    case hyh0 => (intro w hSw; (try dsimp only at hSw); go_split_ands; go_simp; (try (with_reducible rfl)))
    case hqh0 => exact fun _ _ _ h => h
    simp only [Act.put, List.getElem_toArray, List.getElem_cons_zero, List.setIfInBounds_toArray, List.set_cons_zero, List.set_cons_succ]
    refine wpAnyT_take (i := 1) (oi := ?oih1) (v := ?vh1) ?hoh1 (by kernel_rfl) (by kernel_rfl) (by kernel_rfl) (by kernel_rfl) ?hqh1 (Or.inl ⟨?hwh1, ?hyh1⟩) (by assumption) ?_
    case hoh1 => rfl
    case hwh1 => rfl
    case hyh1 => (intro w hSw; (try dsimp only at hSw); go_split_ands; go_simp; (try (with_reducible rfl)))
    case hqh1 => exact fun _ _ _ h => h
    simp only [Act.put, List.getElem_toArray, List.getElem_cons_succ, List.getElem_cons_zero, List.setIfInBounds_toArray, List.set_cons_zero, List.set_cons_succ]
    refine wpAnyT_one (i := 2) (o := ?oih2) (by kernel_rfl) ?hoh2 (fun K hK => ?_)
    case hoh2 => rfl
    rw [if_pos (by rfl)]
    go_simp
    go_at_call 34; (with_reducible refine (hz1.out _).mono ?_); rintro e w6 ⟨a6, c6, rfl, hm, hb⟩; have hq6 : Below W5.heap.size W5 w6 := bseqT hHeld.1 hb; have hm6 := Lib.hid hm; clear hm hb
    (try go_wp2_with (fail))
    refine hK.out _ _ (fun _ => ⟨hq6, hup.out _ hq6⟩) (fun hHeld => ?_)
    replace hHeld := hHeld rfl
    clear hK K
    refine wpAnyT_take (i := 3) (oi := ?oih3) (v := ?vh3) ?hoh3 (by kernel_rfl) (by kernel_rfl) (by kernel_rfl) (by kernel_rfl) ?hqh3 (Or.inl ⟨?hwh3, ?hyh3⟩) (by assumption) ?_
    case hoh3 => rfl
    case hwh3 => rfl
    case hyh3 => (intro w hSw; (try dsimp only at hSw); go_split_ands; go_simp; (try (with_reducible rfl)))
    case hqh3 => exact fun _ _ _ h => h
    simp only [Act.put, List.getElem_toArray, List.getElem_cons_succ, List.getElem_cons_zero, List.setIfInBounds_toArray, List.set_cons_zero, List.set_cons_succ]
    refine wpAnyT_one (i := 4) (o := ?oih4) (by kernel_rfl) ?hoh4 (fun K hK => ?_)
    case hoh4 => rfl
    rw [if_pos (by rfl)]
    go_simp
    go_at_call 33; (with_reducible refine (hix.out a c a6 c6 _ (hmx.out.up hq6) hm6.out).mono ?_); rintro e w7 ⟨rfl, hb⟩; have hq7 : Below W5.heap.size W5 w7 := bseqT hq6 hb; clear hb
    (try go_wp2_with (fail))
    refine hK.out _ _ (fun _ => ⟨hq7, hup.out _ hq7⟩) (fun hHeld => ?_)
    replace hHeld := hHeld rfl
    clear hK K
    refine wpAnyT_take (i := 5) (oi := ?oih5) (v := ?vh5) ?hoh5 (by kernel_rfl) (by kernel_rfl) (by kernel_rfl) (by kernel_rfl) ?hqh5 (Or.inl ⟨?hwh5, ?hyh5⟩) (by assumption) ?_
    case hoh5 => rfl
    case hwh5 => rfl
    case hyh5 => (intro w hSw; (try dsimp only at hSw); go_split_ands; go_simp; (try (with_reducible rfl)))
    case hqh5 => exact fun _ _ _ h => h
    simp only [Act.put, List.getElem_toArray, List.getElem_cons_succ, List.getElem_cons_zero, List.setIfInBounds_toArray, List.set_cons_zero, List.set_cons_succ]
    refine wpAnyT_take (i := 6) (oi := ?oih6) (v := ?vh6) ?hoh6 (by kernel_rfl) (by kernel_rfl) (by kernel_rfl) (by kernel_rfl) ?hqh6 (Or.inl ⟨?hwh6, ?hyh6⟩) (by assumption) ?_
    case hoh6 => rfl
    case hwh6 => rfl
    case hyh6 => (intro w hSw; (try dsimp only at hSw); go_split_ands; go_simp; (try (with_reducible rfl)))
    case hqh6 => exact fun _ _ _ h => h
    simp only [Act.put, List.getElem_toArray, List.getElem_cons_succ, List.getElem_cons_zero, List.setIfInBounds_toArray, List.set_cons_zero, List.set_cons_succ]
    refine wpAnyT_take (i := 7) (oi := ?oih7) (v := ?vh7) ?hoh7 (by kernel_rfl) (by kernel_rfl) (by kernel_rfl) (by kernel_rfl) ?hqh7 (Or.inl ⟨?hwh7, ?hyh7⟩) (by assumption) ?_
    case hoh7 => rfl
    case hwh7 => rfl
    case hyh7 => (intro w hSw; (try dsimp only at hSw); go_split_ands; go_simp; (try (with_reducible rfl)))
    case hqh7 => exact fun _ _ _ h => h
    simp only [Act.put, List.getElem_toArray, List.getElem_cons_succ, List.getElem_cons_zero, List.setIfInBounds_toArray, List.set_cons_zero, List.set_cons_succ]
    refine wpAnyT_one (i := 8) (o := ?oih8) (by kernel_rfl) ?hoh8 (fun K hK => ?_)
    case hoh8 => rfl
    rw [if_pos (by rfl)]
    go_simp
    go_at_call 34; (with_reducible refine (hz1.out _).mono ?_); rintro e w8 ⟨a8, c8, rfl, hm, hb⟩; have hq8 : Below W5.heap.size W5 w8 := bseqT hq7 hb; have hm8 := Lib.hid hm; clear hm hb
    (try go_wp2_with (fail))
    refine hK.out _ _ (fun _ => ⟨hq8, hup.out _ hq8⟩) (fun hHeld => ?_)
    replace hHeld := hHeld rfl
    clear hK K
    refine wpAnyT_take (i := 9) (oi := ?oih9) (v := ?vh9) ?hoh9 (by kernel_rfl) (by kernel_rfl) (by kernel_rfl) (by kernel_rfl) ?hqh9 (Or.inl ⟨?hwh9, ?hyh9⟩) (by assumption) ?_
    case hoh9 => rfl
    case hwh9 => rfl
    case hyh9 => (intro w hSw; (try dsimp only at hSw); go_split_ands; go_simp; (try (with_reducible rfl)))
    case hqh9 => exact fun _ _ _ h => h
    simp only [Act.put, List.getElem_toArray, List.getElem_cons_succ, List.getElem_cons_zero, List.setIfInBounds_toArray, List.set_cons_zero, List.set_cons_succ]
    refine wpAnyT_one (i := 10) (o := ?oih10) (by kernel_rfl) ?hoh10 (fun K hK => ?_)
    case hoh10 => rfl
    rw [if_pos (by rfl)]
    go_simp
    go_at_call 33; (with_reducible refine (hiy.out a' c' a8 c8 _ (hmy.out.up hq8) hm8.out).mono ?_); rintro e w9 ⟨rfl, hb⟩; have hq9 : Below W5.heap.size W5 w9 := bseqT hq8 hb; clear hb
    (try go_wp2_with (fail))
    refine hK.out _ _ (fun _ => ⟨hq9, hup.out _ hq9⟩) (fun hHeld => ?_)
    replace hHeld := hHeld rfl
    clear hK K
    refine wpAnyT_take (i := 11) (oi := ?oih11) (v := ?vh11) ?hoh11 (by kernel_rfl) (by kernel_rfl) (by kernel_rfl) (by kernel_rfl) ?hqh11 (Or.inl ⟨?hwh11, ?hyh11⟩) (by assumption) ?_
    case hoh11 => rfl
    case hwh11 => rfl
    case hyh11 => (intro w hSw; (try dsimp only at hSw); go_split_ands; go_simp; (try (with_reducible rfl)))
    case hqh11 => exact fun _ _ _ h => h
    simp only [Act.put, List.getElem_toArray, List.getElem_cons_succ, List.getElem_cons_zero, List.setIfInBounds_toArray, List.set_cons_zero, List.set_cons_succ]
    refine wpAnyT_take (i := 12) (oi := ?oih12) (v := ?vh12) ?hoh12 (by kernel_rfl) (by kernel_rfl) (by kernel_rfl) (by kernel_rfl) ?hqh12 (Or.inl ⟨?hwh12, ?hyh12⟩) (by assumption) ?_
    case hoh12 => rfl
    case hwh12 => rfl
    case hyh12 => (intro w hSw; (try dsimp only at hSw); go_split_ands; go_simp; (try (with_reducible rfl)))
    case hqh12 => exact fun _ _ _ h => h
    simp only [Act.put, List.getElem_toArray, List.getElem_cons_succ, List.getElem_cons_zero, List.setIfInBounds_toArray, List.set_cons_zero, List.set_cons_succ]
    refine wpAnyT_take (i := 13) (oi := ?oih13) (v := ?vh13) ?hoh13 (by kernel_rfl) (by kernel_rfl) (by kernel_rfl) (by kernel_rfl) ?hqh13 (Or.inl ⟨?hwh13, ?hyh13⟩) (by assumption) ?_
    case hoh13 => rfl
    case hwh13 => rfl
    case hyh13 => (intro w hSw; (try dsimp only at hSw); go_split_ands; go_simp; (try (with_reducible rfl)))
    case hqh13 => exact fun _ _ _ h => h
    simp only [Act.put, List.getElem_toArray, List.getElem_cons_succ, List.getElem_cons_zero, List.setIfInBounds_toArray, List.set_cons_zero, List.set_cons_succ]
    refine wpAnyT_take (i := 14) (oi := ?oih14) (v := ?vh14) ?hoh14 (by kernel_rfl) (by kernel_rfl) (by kernel_rfl) (by kernel_rfl) ?hqh14 (Or.inl ⟨?hwh14, ?hyh14⟩) (by assumption) ?_
    case hoh14 => rfl
    case hwh14 => rfl
    case hyh14 => (intro w hSw; (try dsimp only at hSw); go_split_ands; go_simp; (try (with_reducible rfl)))
    case hqh14 => exact fun _ _ _ h => h
    simp only [Act.put, List.getElem_toArray, List.getElem_cons_succ, List.getElem_cons_zero, List.setIfInBounds_toArray, List.set_cons_zero, List.set_cons_succ]
    refine wpAnyT_take (i := 15) (oi := ?oih15) (v := ?vh15) ?hoh15 (by kernel_rfl) (by kernel_rfl) (by kernel_rfl) (by kernel_rfl) ?hqh15 (Or.inl ⟨?hwh15, ?hyh15⟩) (by assumption) ?_
    case hoh15 => rfl
    case hwh15 => rfl
    case hyh15 => (intro w hSw; (try dsimp only at hSw); go_split_ands; go_simp; (try (with_reducible rfl)))
    case hqh15 => exact fun _ _ _ h => h
    simp only [Act.put, List.getElem_toArray, List.getElem_cons_succ, List.getElem_cons_zero, List.setIfInBounds_toArray, List.set_cons_zero, List.set_cons_succ]
    refine wpAnyT_take (i := 16) (oi := ?oih16) (v := ?vh16) ?hoh16 (by kernel_rfl) (by kernel_rfl) (by kernel_rfl) (by kernel_rfl) ?hqh16 (Or.inl ⟨?hwh16, ?hyh16⟩) (by assumption) ?_
    case hoh16 => rfl
    case hwh16 => rfl
    case hyh16 => (intro w hSw; (try dsimp only at hSw); go_split_ands; go_simp; (try (with_reducible rfl)))
    case hqh16 => exact fun _ _ _ h => h
    simp only [Act.put, List.getElem_toArray, List.getElem_cons_succ, List.getElem_cons_zero, List.setIfInBounds_toArray, List.set_cons_zero, List.set_cons_succ]
    refine wpAnyT_one (i := 17) (o := ?oih17) (by kernel_rfl) ?hoh17 (fun K hK => ?_)
    case hoh17 => rfl
    rw [if_pos (by rfl)]
    go_simp
    go_at_call 23; (with_reducible refine (lives_any _).mono ?_); rintro e w10 ⟨rfl, hb⟩; have hq10 : Below W5.heap.size W5 w10 := bseqT hq9 hb; clear hb
    (try go_wp2_with (fail))
    refine hK.out _ _ (fun _ => ⟨hq10, hup.out _ hq10⟩) (fun hHeld => ?_)
    replace hHeld := hHeld rfl
    clear hK K
    refine wpAnyT_take (i := 18) (oi := ?oih18) (v := ?vh18) ?hoh18 (by kernel_rfl) (by kernel_rfl) (by kernel_rfl) (by kernel_rfl) ?hqh18 (Or.inl ⟨?hwh18, ?hyh18⟩) (by assumption) ?_
    case hoh18 => rfl
    case hwh18 => rfl
    case hyh18 => (intro w hSw; (try dsimp only at hSw); go_split_ands; go_simp; (try (with_reducible rfl)))
    case hqh18 => exact fun _ _ _ h => h
    simp only [Act.put, List.getElem_toArray, List.getElem_cons_succ, List.getElem_cons_zero, List.setIfInBounds_toArray, List.set_cons_zero, List.set_cons_succ]
    refine wpAnyT_take (i := 19) (oi := ?oih19) (v := ?vh19) ?hoh19 (by kernel_rfl) (by kernel_rfl) (by kernel_rfl) (by kernel_rfl) ?hqh19 (Or.inl ⟨?hwh19, ?hyh19⟩) (by assumption) ?_
    case hoh19 => rfl
    case hwh19 => rfl
    case hyh19 => (intro w hSw; (try dsimp only at hSw); go_split_ands; go_simp; (try (with_reducible rfl)))
    case hqh19 => exact fun _ _ _ h => h
    simp only [Act.put, List.getElem_toArray, List.getElem_cons_succ, List.getElem_cons_zero, List.setIfInBounds_toArray, List.set_cons_zero, List.set_cons_succ]
    refine wpAnyT_done (by kernel_rfl) ?_ _
    -- tail end
    go_wp2_with (fail)
    go_ret
    have := hb3.out
    subst this
    exact ⟨rfl, bseqT hb1.out (bseqT hb4.out (bseqT hb45H.out hq10))⟩
theorem pellsLaw_any (d sg : Int) (w : World) : Calls Try.prog 6 #[.int .i64 d, .int .i64 sg] w (RetB w true) := by
  by_cases h : d < 2 ∨ 1000 < d ∨ (sg ≠ 1 ∧ sg ≠ -1)
  · exact pellsLaw_arg d sg w h
  · obtain ⟨n, rfl⟩ : ∃ n : Nat, d = (n : Int) := ⟨d.toNat, by omega⟩
    obtain ⟨neg, rfl⟩ : ∃ neg, sg = sgP neg := by
      by_cases hs : sg = 1
      · exact ⟨false, hs⟩
      · exact ⟨true, show sg = -1 by omega⟩
    cases hs : sqB n with
    | true => exact pellsLaw_sq n neg w (by omega) (by omega) hs
    | false =>
      cases hi : pellIs n neg with
      | true => exact pellsLaw_good n neg w (by omega) (by omega) hs hi
      | false =>
        cases neg with
        | true => exact pellsLaw_none n w (by omega) (by omega) hs hi
        | false => unfold pellIs at hi; simp at hi
end Go.Proofs.Ytbehfhmdilifkaa
