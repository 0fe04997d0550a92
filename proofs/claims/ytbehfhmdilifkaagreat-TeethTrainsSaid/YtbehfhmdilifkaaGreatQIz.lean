/- Iz -/
import Derived.Test.YtbehfhmdilifkaaGreatQIy
set_option linter.unusedVariables false
/- Walk of the law TeethTrains. (Printed by wip/tools/gen_iz.py.) -/
namespace Go.Proofs.YtbehfhmdilifkaaGreat
open Go Go.RowKit Go.Proofs

/-- How many wheels are taken. -/
def Fr3 (k : Int) (n most : Nat) : Prop := (k ≠ 3 ∧ most = 11) ∨ (k = 3 ∧ 10 < n ∧ most = 11) ∨ (k = 3 ∧ n ≤ 10 ∧ most = 7)
theorem frB_inL {o u : Int} : frB o u = inL 1000000 [o, u] := by
  have h1 : frB o u = true ↔ inL 1000000 [o, u] = true := by
    rw [inL_iff]
    unfold frB inB
    simp only [Bool.and_eq_true, decide_eq_true_eq]
    constructor
    · intro h x hx
      rcases List.mem_cons.1 hx with rfl | hx
      · exact h.1
      · rw [List.mem_singleton] at hx; subst hx; exact h.2
    · intro h
      exact ⟨h o (by simp), h u (by simp)⟩
  cases hf : frB o u with
  | true => exact (h1.1 hf).symm
  | false =>
    cases hi : inL 1000000 [o, u] with
    | true => rw [h1.2 hi] at hf; cases hf
    | false => rfl
theorem xbox {w : World} {o u : Int} : (w.alloc (Obj.cells #[.int .i64 o, .int .i64 u] 43)).cell? ⟨w.heap.size, 0, none⟩ = some (.int .i64 o) ∧ (w.alloc (Obj.cells #[.int .i64 o, .int .i64 u] 43)).cell? ⟨w.heap.size, 1, none⟩ = some (.int .i64 u) := ⟨by rw [al_newT rfl]; rfl, by rw [al_newT rfl]; rfl⟩

section
attribute [local go_sem] undef
set_option maxRecDepth 100000 in
set_option maxHeartbeats 25600000 in
theorem trnLaw_arg (o u k : Int) (ao : Option Addr) (n c most M : Nat) (xs ys : List Int) (w : World) (h : IZ w ao xs) (hn : xs.length = n) (hc : n ≤ c) (hn63 : n ≤ 9223372036854775807) (hF : Fr3 k n most) (hM : min n most = M) (hys : xs.take most = ys) (hb : trOk o u k M ys = false) (hcs : frB o u = false ∨ (frB o u = true ∧ 10 < M) ∨ (frB o u = true ∧ M ≤ 10 ∧ k < 1) ∨ (frB o u = true ∧ M ≤ 10 ∧ 1 ≤ k ∧ 3 < k)) :
    Calls Tryz.prog 4 #[.agg #[.int .i64 o, .int .i64 u], .slice ao n c, .int .i64 k] w (RetB w true) := by
  have hyl : ys.length = M := by rw [← hys, List.length_take, hn]; omega
  have hY : IZ w ao ys := by rw [← hys]; exact h.take most
  have htr := Lib.hid (fun (a : Option Addr) (d : Nat) (W : World) (hI : IZ W a ys) => trainP_bad o u k a M d ys W hI hyl (by unfold Fr3 at hF; omega) hb)
  obtain ⟨fb, hfb⟩ : ∃ b, frB o u = b := ⟨_, rfl⟩
  have hfr := Lib.hid (fun W => fraction_any o u fb W hfb)
  rw [hfb] at hcs
  have hYH := Lib.hid hY
  have hylH := Lib.hid hyl
  have hM11 : M ≤ 11 := by unfold Fr3 at hF; omega
  have hMc : (M : Int) ≤ (c : Int) := by omega
  have hMc2 : M ≤ c := by omega
  have hk3 : ((k : Int) == 3) = decide (k = 3) := by by_cases hk : k = 3 <;> simp [hk]
  have hmin : min (n : Int) (most : Int) = (M : Int) := by omega
  obtain ⟨V, hV⟩ : ∃ V, V = w.alloc (Obj.cells #[.int .i64 o, .int .i64 u] 43) := ⟨_, rfl⟩
  have hbV : Below w.heap.size w V := by rw [hV]; exact below_al (Below.refl _ _) _
  have hup : Hid (∀ W, Below V.heap.size V W → W.cell? ⟨w.heap.size, 0, none⟩ = some (.int .i64 o) ∧ W.cell? ⟨w.heap.size, 1, none⟩ = some (.int .i64 u)) := fun W hW => ⟨Below.cellAt hW (Nat.le_refl _) (by rw [hV]; exact xbox.1), Below.cellAt hW (Nat.le_refl _) (by rw [hV]; exact xbox.2)⟩
  have hbVH := Lib.hid hbV
  have hwl : w.heap.size < V.heap.size := by rw [hV]; simp
  have hVH := Lib.hid hV
  have hMn : Hid (ao = none → M = n) := fun e => by
    rcases Nat.eq_zero_or_pos n with h0 | h0
    · omega
    · obtain ⟨_, _, ha, _⟩ := h.at (i := 0) (by omega)
      rw [e] at ha; cases ha
  clear h hn hys hY hyl hM hbV hV
  clear hb hfb
  have hrest : (fb = false) ∨ (fb = true ∧ (10 : Int) < (M : Int)) ∨ (fb = true ∧ ¬ (10 : Int) < (M : Int) ∧ decide (k < 1) = true) ∨ (fb = true ∧ ¬ (10 : Int) < (M : Int) ∧ decide (k < 1) = false ∧ decide (3 < k) = true) := by
    rcases hcs with h | ⟨h1, h2⟩ | ⟨h1, h2, h3⟩ | ⟨h1, h2, h3, h4⟩
    · exact .inl h
    · exact .inr (.inl ⟨h1, by omega⟩)
    · exact .inr (.inr (.inl ⟨h1, by omega, decide_eq_true h3⟩))
    · exact .inr (.inr (.inr ⟨h1, by omega, decide_eq_false (by omega), decide_eq_true h4⟩))
  clear hcs
  rcases hF with ⟨hk, hmo⟩ | ⟨hk, hn10, hmo⟩ | ⟨hk, hn10, hmo⟩
  · subst hmo
    have hmin2 : min (n : Int) 11 = (M : Int) := by omega
    clear hmin
    have hkB : (k == 3) = false := by simp; exact hk
    clear hk3 hk
    rcases ao with _ | ⟨b, oo, st⟩
    · skip
      have hMM := hMn.out rfl
      subst hMM
      clear hMn
      go_enter Tryz.func4, Tryz.ntmps4
      go_upto_region 1 with (fail)
      rw [← hVH.out]
      go_upto_region 5 with (at_builtin; go_loud (refine wpList_append_ze _ rfl (.tmp 22) (.tmp 28) _ rfl Tryz.underlying23 V.heap.size 0 _ [] (by rfl) (ZE.lit _ _ _) rfl none M _ ys (by rfl) (hYH.out.below (bseqT hbVH.out (below_al (Below.refl _ _) _))) hylH.out (by omega) (by omega) (by simp) ?_); intro v1 x1 hA1; rw [List.nil_append] at hA1; obtain ⟨a1, d1, hv1⟩ := hA1.1.shape; rw [hylH.out] at hv1; subst hv1; have hZ1 := Lib.hid hA1.1.iz; have hq1 := Lib.hid ((below_al (Below.refl _ _) _).trans hA1.2.1); obtain ⟨g0, g1⟩ := hup.out _ hq1.out; clear hA1)
      rcases hrest with rfl | ⟨rfl, hM10⟩ | ⟨rfl, hM10, hk1⟩ | ⟨rfl, hM10, hk1, hk2⟩
      all_goals (
        go_wp2_with (first
          | (go_at_call 17; (with_reducible refine (htr.out _ _ _ hZ1.out.1).mono ?_); rintro e w2 ⟨rfl, hb⟩; have hq2 := Lib.hid (bseqT hq1.out hb); obtain ⟨g2, g3⟩ := hup.out _ hq2.out; clear hb)
          | (go_at_call 18; (with_reducible refine (hfr.out _).mono ?_); rintro e w3 ⟨rfl, hb⟩; have hq3 := Lib.hid hb; clear hb))
        go_loopw [12, 11] (fun iv ev wr => ∃ i : Nat, iv = .int .i64 (i : Nat) ∧ ev = .int .i64 1 ∧ wr = w3) (fun _ _ _ => 0)
        case atStart => exact ⟨0, rfl, rfl, rfl⟩
        case round =>
          obtain ⟨i, rfl, rfl, rfl⟩ := hrel
          have hw23 := hq3.out
          subst hw23
          by_cases hiM : (i : Int) < (M : Int)
          · go_wp2_with (go_at_call 7; (with_reducible refine (lives_any _).mono ?_); rintro e w9 ⟨rfl, hb⟩; have hq9 := Lib.hid (bseqT hq2.out hb); clear hb)
            go_ret
            exact ⟨rfl, bseqT hbVH.out hq9.out⟩
          · go_wp2_with (go_at_call 7; (with_reducible refine (lives_any _).mono ?_); rintro e w9 ⟨rfl, hb⟩; have hq9 := Lib.hid (bseqT hq2.out hb); clear hb)
            go_ret
            exact ⟨rfl, bseqT hbVH.out hq9.out⟩)
    · skip
      clear hMn
      go_enter Tryz.func4, Tryz.ntmps4
      go_upto_region 1 with (fail)
      rw [← hVH.out]
      go_upto_region 5 with (at_builtin; go_loud (refine wpList_append_ze _ rfl (.tmp 22) (.tmp 28) _ rfl Tryz.underlying23 V.heap.size 0 _ [] (by rfl) (ZE.lit _ _ _) rfl (some ⟨b, oo, st⟩) M _ ys (by rfl) (hYH.out.below (bseqT hbVH.out (below_al (Below.refl _ _) _))) hylH.out (by omega) (by omega) (by simp) ?_); intro v1 x1 hA1; rw [List.nil_append] at hA1; obtain ⟨a1, d1, hv1⟩ := hA1.1.shape; rw [hylH.out] at hv1; subst hv1; have hZ1 := Lib.hid hA1.1.iz; have hq1 := Lib.hid ((below_al (Below.refl _ _) _).trans hA1.2.1); obtain ⟨g0, g1⟩ := hup.out _ hq1.out; clear hA1)
      rcases hrest with rfl | ⟨rfl, hM10⟩ | ⟨rfl, hM10, hk1⟩ | ⟨rfl, hM10, hk1, hk2⟩
      all_goals (
        go_wp2_with (first
          | (go_at_call 17; (with_reducible refine (htr.out _ _ _ hZ1.out.1).mono ?_); rintro e w2 ⟨rfl, hb⟩; have hq2 := Lib.hid (bseqT hq1.out hb); obtain ⟨g2, g3⟩ := hup.out _ hq2.out; clear hb)
          | (go_at_call 18; (with_reducible refine (hfr.out _).mono ?_); rintro e w3 ⟨rfl, hb⟩; have hq3 := Lib.hid hb; clear hb))
        go_loopw [12, 11] (fun iv ev wr => ∃ i : Nat, iv = .int .i64 (i : Nat) ∧ ev = .int .i64 1 ∧ wr = w3) (fun _ _ _ => 0)
        case atStart => exact ⟨0, rfl, rfl, rfl⟩
        case round =>
          obtain ⟨i, rfl, rfl, rfl⟩ := hrel
          have hw23 := hq3.out
          subst hw23
          by_cases hiM : (i : Int) < (M : Int)
          · go_wp2_with (go_at_call 7; (with_reducible refine (lives_any _).mono ?_); rintro e w9 ⟨rfl, hb⟩; have hq9 := Lib.hid (bseqT hq2.out hb); clear hb)
            go_ret
            exact ⟨rfl, bseqT hbVH.out hq9.out⟩
          · go_wp2_with (go_at_call 7; (with_reducible refine (lives_any _).mono ?_); rintro e w9 ⟨rfl, hb⟩; have hq9 := Lib.hid (bseqT hq2.out hb); clear hb)
            go_ret
            exact ⟨rfl, bseqT hbVH.out hq9.out⟩)
  · subst hmo
    have hmin2 : min (n : Int) 11 = (M : Int) := by omega
    clear hmin
    have hnB : ¬ (n : Int) ≤ 10 := by omega
    have hnB2 : decide ((n : Int) ≤ 10) = false := decide_eq_false hnB
    have hnB3 : decide (n ≤ 10) = false := decide_eq_false (by omega)
    subst hk
    clear hk3
    rcases ao with _ | ⟨b, oo, st⟩
    · skip
      have hMM := hMn.out rfl
      subst hMM
      clear hMn
      go_enter Tryz.func4, Tryz.ntmps4
      go_upto_region 1 with (fail)
      rw [← hVH.out]
      go_upto_region 5 with (at_builtin; go_loud (refine wpList_append_ze _ rfl (.tmp 22) (.tmp 28) _ rfl Tryz.underlying23 V.heap.size 0 _ [] (by rfl) (ZE.lit _ _ _) rfl none M _ ys (by rfl) (hYH.out.below (bseqT hbVH.out (below_al (Below.refl _ _) _))) hylH.out (by omega) (by omega) (by simp) ?_); intro v1 x1 hA1; rw [List.nil_append] at hA1; obtain ⟨a1, d1, hv1⟩ := hA1.1.shape; rw [hylH.out] at hv1; subst hv1; have hZ1 := Lib.hid hA1.1.iz; have hq1 := Lib.hid ((below_al (Below.refl _ _) _).trans hA1.2.1); obtain ⟨g0, g1⟩ := hup.out _ hq1.out; clear hA1)
      rcases hrest with rfl | ⟨rfl, hM10⟩ | ⟨rfl, hM10, hk1⟩ | ⟨rfl, hM10, hk1, hk2⟩
      rotate_left 2
      · exfalso; revert hk1; decide
      · exfalso; revert hk2; decide
      all_goals (
        go_wp2_with (first
          | (go_at_call 17; (with_reducible refine (htr.out _ _ _ hZ1.out.1).mono ?_); rintro e w2 ⟨rfl, hb⟩; have hq2 := Lib.hid (bseqT hq1.out hb); obtain ⟨g2, g3⟩ := hup.out _ hq2.out; clear hb)
          | (go_at_call 18; (with_reducible refine (hfr.out _).mono ?_); rintro e w3 ⟨rfl, hb⟩; have hq3 := Lib.hid hb; clear hb))
        go_loopw [12, 11] (fun iv ev wr => ∃ i : Nat, iv = .int .i64 (i : Nat) ∧ ev = .int .i64 1 ∧ wr = w3) (fun _ _ _ => 0)
        case atStart => exact ⟨0, rfl, rfl, rfl⟩
        case round =>
          obtain ⟨i, rfl, rfl, rfl⟩ := hrel
          have hw23 := hq3.out
          subst hw23
          by_cases hiM : (i : Int) < (M : Int)
          · go_wp2_with (go_at_call 7; (with_reducible refine (lives_any _).mono ?_); rintro e w9 ⟨rfl, hb⟩; have hq9 := Lib.hid (bseqT hq2.out hb); clear hb)
            go_ret
            exact ⟨rfl, bseqT hbVH.out hq9.out⟩
          · go_wp2_with (go_at_call 7; (with_reducible refine (lives_any _).mono ?_); rintro e w9 ⟨rfl, hb⟩; have hq9 := Lib.hid (bseqT hq2.out hb); clear hb)
            go_ret
            exact ⟨rfl, bseqT hbVH.out hq9.out⟩)
    · skip
      clear hMn
      go_enter Tryz.func4, Tryz.ntmps4
      go_upto_region 1 with (fail)
      rw [← hVH.out]
      go_upto_region 5 with (at_builtin; go_loud (refine wpList_append_ze _ rfl (.tmp 22) (.tmp 28) _ rfl Tryz.underlying23 V.heap.size 0 _ [] (by rfl) (ZE.lit _ _ _) rfl (some ⟨b, oo, st⟩) M _ ys (by rfl) (hYH.out.below (bseqT hbVH.out (below_al (Below.refl _ _) _))) hylH.out (by omega) (by omega) (by simp) ?_); intro v1 x1 hA1; rw [List.nil_append] at hA1; obtain ⟨a1, d1, hv1⟩ := hA1.1.shape; rw [hylH.out] at hv1; subst hv1; have hZ1 := Lib.hid hA1.1.iz; have hq1 := Lib.hid ((below_al (Below.refl _ _) _).trans hA1.2.1); obtain ⟨g0, g1⟩ := hup.out _ hq1.out; clear hA1)
      rcases hrest with rfl | ⟨rfl, hM10⟩ | ⟨rfl, hM10, hk1⟩ | ⟨rfl, hM10, hk1, hk2⟩
      rotate_left 2
      · exfalso; revert hk1; decide
      · exfalso; revert hk2; decide
      all_goals (
        go_wp2_with (first
          | (go_at_call 17; (with_reducible refine (htr.out _ _ _ hZ1.out.1).mono ?_); rintro e w2 ⟨rfl, hb⟩; have hq2 := Lib.hid (bseqT hq1.out hb); obtain ⟨g2, g3⟩ := hup.out _ hq2.out; clear hb)
          | (go_at_call 18; (with_reducible refine (hfr.out _).mono ?_); rintro e w3 ⟨rfl, hb⟩; have hq3 := Lib.hid hb; clear hb))
        go_loopw [12, 11] (fun iv ev wr => ∃ i : Nat, iv = .int .i64 (i : Nat) ∧ ev = .int .i64 1 ∧ wr = w3) (fun _ _ _ => 0)
        case atStart => exact ⟨0, rfl, rfl, rfl⟩
        case round =>
          obtain ⟨i, rfl, rfl, rfl⟩ := hrel
          have hw23 := hq3.out
          subst hw23
          by_cases hiM : (i : Int) < (M : Int)
          · go_wp2_with (go_at_call 7; (with_reducible refine (lives_any _).mono ?_); rintro e w9 ⟨rfl, hb⟩; have hq9 := Lib.hid (bseqT hq2.out hb); clear hb)
            go_ret
            exact ⟨rfl, bseqT hbVH.out hq9.out⟩
          · go_wp2_with (go_at_call 7; (with_reducible refine (lives_any _).mono ?_); rintro e w9 ⟨rfl, hb⟩; have hq9 := Lib.hid (bseqT hq2.out hb); clear hb)
            go_ret
            exact ⟨rfl, bseqT hbVH.out hq9.out⟩)
  · subst hmo
    have hmin2 : min (n : Int) 7 = (M : Int) := by omega
    clear hmin
    have hnB : (n : Int) ≤ 10 := by omega
    have hnB2 : decide ((n : Int) ≤ 10) = true := decide_eq_true hnB
    have hnB3 : decide (n ≤ 10) = true := decide_eq_true hn10
    subst hk
    clear hk3
    rcases ao with _ | ⟨b, oo, st⟩
    · skip
      have hMM := hMn.out rfl
      subst hMM
      clear hMn
      go_enter Tryz.func4, Tryz.ntmps4
      go_upto_region 1 with (fail)
      rw [← hVH.out]
      go_upto_region 5 with (at_builtin; go_loud (refine wpList_append_ze _ rfl (.tmp 22) (.tmp 28) _ rfl Tryz.underlying23 V.heap.size 0 _ [] (by rfl) (ZE.lit _ _ _) rfl none M _ ys (by rfl) (hYH.out.below (bseqT hbVH.out (below_al (Below.refl _ _) _))) hylH.out (by omega) (by omega) (by simp) ?_); intro v1 x1 hA1; rw [List.nil_append] at hA1; obtain ⟨a1, d1, hv1⟩ := hA1.1.shape; rw [hylH.out] at hv1; subst hv1; have hZ1 := Lib.hid hA1.1.iz; have hq1 := Lib.hid ((below_al (Below.refl _ _) _).trans hA1.2.1); obtain ⟨g0, g1⟩ := hup.out _ hq1.out; clear hA1)
      rcases hrest with rfl | ⟨rfl, hM10⟩ | ⟨rfl, hM10, hk1⟩ | ⟨rfl, hM10, hk1, hk2⟩
      rotate_left 2
      · exfalso; revert hk1; decide
      · exfalso; revert hk2; decide
      all_goals (
        go_wp2_with (first
          | (go_at_call 17; (with_reducible refine (htr.out _ _ _ hZ1.out.1).mono ?_); rintro e w2 ⟨rfl, hb⟩; have hq2 := Lib.hid (bseqT hq1.out hb); obtain ⟨g2, g3⟩ := hup.out _ hq2.out; clear hb)
          | (go_at_call 18; (with_reducible refine (hfr.out _).mono ?_); rintro e w3 ⟨rfl, hb⟩; have hq3 := Lib.hid hb; clear hb))
        go_loopw [12, 11] (fun iv ev wr => ∃ i : Nat, iv = .int .i64 (i : Nat) ∧ ev = .int .i64 1 ∧ wr = w3) (fun _ _ _ => 0)
        case atStart => exact ⟨0, rfl, rfl, rfl⟩
        case round =>
          obtain ⟨i, rfl, rfl, rfl⟩ := hrel
          have hw23 := hq3.out
          subst hw23
          by_cases hiM : (i : Int) < (M : Int)
          · go_wp2_with (go_at_call 7; (with_reducible refine (lives_any _).mono ?_); rintro e w9 ⟨rfl, hb⟩; have hq9 := Lib.hid (bseqT hq2.out hb); clear hb)
            go_ret
            exact ⟨rfl, bseqT hbVH.out hq9.out⟩
          · go_wp2_with (go_at_call 7; (with_reducible refine (lives_any _).mono ?_); rintro e w9 ⟨rfl, hb⟩; have hq9 := Lib.hid (bseqT hq2.out hb); clear hb)
            go_ret
            exact ⟨rfl, bseqT hbVH.out hq9.out⟩)
    · skip
      clear hMn
      go_enter Tryz.func4, Tryz.ntmps4
      go_upto_region 1 with (fail)
      rw [← hVH.out]
      go_upto_region 5 with (at_builtin; go_loud (refine wpList_append_ze _ rfl (.tmp 22) (.tmp 28) _ rfl Tryz.underlying23 V.heap.size 0 _ [] (by rfl) (ZE.lit _ _ _) rfl (some ⟨b, oo, st⟩) M _ ys (by rfl) (hYH.out.below (bseqT hbVH.out (below_al (Below.refl _ _) _))) hylH.out (by omega) (by omega) (by simp) ?_); intro v1 x1 hA1; rw [List.nil_append] at hA1; obtain ⟨a1, d1, hv1⟩ := hA1.1.shape; rw [hylH.out] at hv1; subst hv1; have hZ1 := Lib.hid hA1.1.iz; have hq1 := Lib.hid ((below_al (Below.refl _ _) _).trans hA1.2.1); obtain ⟨g0, g1⟩ := hup.out _ hq1.out; clear hA1)
      rcases hrest with rfl | ⟨rfl, hM10⟩ | ⟨rfl, hM10, hk1⟩ | ⟨rfl, hM10, hk1, hk2⟩
      rotate_left 2
      · exfalso; revert hk1; decide
      · exfalso; revert hk2; decide
      all_goals (
        go_wp2_with (first
          | (go_at_call 17; (with_reducible refine (htr.out _ _ _ hZ1.out.1).mono ?_); rintro e w2 ⟨rfl, hb⟩; have hq2 := Lib.hid (bseqT hq1.out hb); obtain ⟨g2, g3⟩ := hup.out _ hq2.out; clear hb)
          | (go_at_call 18; (with_reducible refine (hfr.out _).mono ?_); rintro e w3 ⟨rfl, hb⟩; have hq3 := Lib.hid hb; clear hb))
        go_loopw [12, 11] (fun iv ev wr => ∃ i : Nat, iv = .int .i64 (i : Nat) ∧ ev = .int .i64 1 ∧ wr = w3) (fun _ _ _ => 0)
        case atStart => exact ⟨0, rfl, rfl, rfl⟩
        case round =>
          obtain ⟨i, rfl, rfl, rfl⟩ := hrel
          have hw23 := hq3.out
          subst hw23
          by_cases hiM : (i : Int) < (M : Int)
          · go_wp2_with (go_at_call 7; (with_reducible refine (lives_any _).mono ?_); rintro e w9 ⟨rfl, hb⟩; have hq9 := Lib.hid (bseqT hq2.out hb); clear hb)
            go_ret
            exact ⟨rfl, bseqT hbVH.out hq9.out⟩
          · go_wp2_with (go_at_call 7; (with_reducible refine (lives_any _).mono ?_); rintro e w9 ⟨rfl, hb⟩; have hq9 := Lib.hid (bseqT hq2.out hb); clear hb)
            go_ret
            exact ⟨rfl, bseqT hbVH.out hq9.out⟩)
set_option maxRecDepth 100000 in
set_option maxHeartbeats 25600000 in
theorem trnLaw_wheel (o u k : Int) (ao : Option Addr) (n c most M : Nat) (xs ys : List Int) (w : World) (h : IZ w ao xs) (hn : xs.length = n) (hc : n ≤ c) (hn63 : n ≤ 9223372036854775807) (hF : Fr3 k n most) (hM : min n most = M) (hys : xs.take most = ys) (hb : trOk o u k M ys = false) (hfb : frB o u = true) (hM10' : M ≤ 10) (hk1' : 1 ≤ k) (hk2' : k ≤ 3) (hbad : inL 1000 ys = false) :
    Calls Tryz.prog 4 #[.agg #[.int .i64 o, .int .i64 u], .slice ao n c, .int .i64 k] w (RetB w true) := by
  have hyl : ys.length = M := by rw [← hys, List.length_take, hn]; omega
  have hY : IZ w ao ys := by rw [← hys]; exact h.take most
  have htr := Lib.hid (fun (a : Option Addr) (d : Nat) (W : World) (hI : IZ W a ys) => trainP_bad o u k a M d ys W hI hyl (by omega) hb)
  have hfr := Lib.hid (fun W => fraction_any o u true W hfb)
  have hbadH := Lib.hid hbad
  have hYH := Lib.hid hY
  have hylH := Lib.hid hyl
  have hM11 : M ≤ 11 := by unfold Fr3 at hF; omega
  have hMc : (M : Int) ≤ (c : Int) := by omega
  have hMc2 : M ≤ c := by omega
  have hk3 : ((k : Int) == 3) = decide (k = 3) := by by_cases hk : k = 3 <;> simp [hk]
  have hmin : min (n : Int) (most : Int) = (M : Int) := by omega
  obtain ⟨V, hV⟩ : ∃ V, V = w.alloc (Obj.cells #[.int .i64 o, .int .i64 u] 43) := ⟨_, rfl⟩
  have hbV : Below w.heap.size w V := by rw [hV]; exact below_al (Below.refl _ _) _
  have hup : Hid (∀ W, Below V.heap.size V W → W.cell? ⟨w.heap.size, 0, none⟩ = some (.int .i64 o) ∧ W.cell? ⟨w.heap.size, 1, none⟩ = some (.int .i64 u)) := fun W hW => ⟨Below.cellAt hW (Nat.le_refl _) (by rw [hV]; exact xbox.1), Below.cellAt hW (Nat.le_refl _) (by rw [hV]; exact xbox.2)⟩
  have hbVH := Lib.hid hbV
  have hwl : w.heap.size < V.heap.size := by rw [hV]; simp
  have hVH := Lib.hid hV
  have hMn : Hid (ao = none → M = n) := fun e => by
    rcases Nat.eq_zero_or_pos n with h0 | h0
    · omega
    · obtain ⟨_, _, ha, _⟩ := h.at (i := 0) (by omega)
      rw [e] at ha; cases ha
  clear h hn hys hY hyl hM hbV hV
  have hM10 : ¬ (10 : Int) < (M : Int) := by omega
  have hk1 : decide (k < 1) = false := decide_eq_false (by omega)
  have hk2 : decide (3 < k) = false := decide_eq_false (by omega)
  clear hb hfb hbad
  rcases hF with ⟨hk, hmo⟩ | ⟨hk, hn10, hmo⟩ | ⟨hk, hn10, hmo⟩
  · subst hmo
    have hmin2 : min (n : Int) 11 = (M : Int) := by omega
    clear hmin
    have hkB : (k == 3) = false := by simp; exact hk
    clear hk3 hk
    rcases ao with _ | ⟨b, oo, st⟩
    · skip
      have hMM := hMn.out rfl
      subst hMM
      clear hMn
      go_enter Tryz.func4, Tryz.ntmps4
      go_upto_region 1 with (fail)
      rw [← hVH.out]
      go_upto_region 5 with (at_builtin; go_loud (refine wpList_append_ze _ rfl (.tmp 22) (.tmp 28) _ rfl Tryz.underlying23 V.heap.size 0 _ [] (by rfl) (ZE.lit _ _ _) rfl none M _ ys (by rfl) (hYH.out.below (bseqT hbVH.out (below_al (Below.refl _ _) _))) hylH.out (by omega) (by omega) (by simp) ?_); intro v1 x1 hA1; rw [List.nil_append] at hA1; obtain ⟨a1, d1, hv1⟩ := hA1.1.shape; rw [hylH.out] at hv1; subst hv1; have hZ1 := Lib.hid hA1.1.iz; have hq1 := Lib.hid ((below_al (Below.refl _ _) _).trans hA1.2.1); obtain ⟨g0, g1⟩ := hup.out _ hq1.out; clear hA1)
      go_wp2_with (first
        | (go_at_call 17; (with_reducible refine (htr.out _ _ _ hZ1.out.1).mono ?_); rintro e w2 ⟨rfl, hb⟩; have hq2 := Lib.hid (bseqT hq1.out hb); obtain ⟨g2, g3⟩ := hup.out _ hq2.out; have hq12 := Lib.hid hb; clear hb)
        | (go_at_call 18; (with_reducible refine (hfr.out _).mono ?_); rintro e w3 ⟨rfl, hb⟩; have hq3 := Lib.hid hb; clear hb))
      have hw23 := hq3.out
      subst hw23
      go_loopw [12, 11] (fun iv ev wr => ∃ i : Nat, iv = .int .i64 (i : Nat) ∧ i ≤ M ∧ wr = w2 ∧ ((ev = .int .i64 0 ∧ ∀ (j : Nat) (x : Int), j < i → ys[j]? = some x → 1 ≤ x ∧ x ≤ 1000) ∨ ev = .int .i64 1)) (fun iv _ _ => M - (intOf iv).toNat)
      case atStart => exact ⟨0, rfl, by omega, rfl, .inl ⟨rfl, fun j x hj => by omega⟩⟩
      case round =>
        obtain ⟨i, rfl, hi, rfl, hev⟩ := hrel
        rcases hev with ⟨rfl, hal⟩ | rfl
        · by_cases hiM' : i < M
          · have hiM : (i : Int) < (M : Int) := by omega
            have hiM0 : (0 : Int) ≤ (i : Int) := by omega
            obtain ⟨x, hx⟩ : ∃ x, ys[i]? = some x := ⟨_, List.getElem?_eq_getElem (by rw [hylH.out]; omega)⟩
            obtain ⟨bz, oz, haz, cz⟩ := (hZ1.out.1.below hq12.out) i x hx
            subst haz
            have halH := Lib.hid hal
            have hxH := Lib.hid hx
            clear hal hx
            by_cases h1 : x < 1
            · have h1B : decide (x < 1) = true := decide_eq_true h1
              go_wp2_with (fail)
              go_roundw
              case rel => exact ⟨i + 1, by go_num, by omega, by trivial, .inr (by trivial)⟩
              case measure => simp [intOf]; omega
            · have h1B : decide (x < 1) = false := decide_eq_false h1
              by_cases h2 : 1000 < x
              · have h2B : decide (1000 < x) = true := decide_eq_true h2
                go_wp2_with (fail)
                go_roundw
                case rel => exact ⟨i + 1, by go_num, by omega, by trivial, .inr (by trivial)⟩
                case measure => simp [intOf]; omega
              · have h2B : decide (1000 < x) = false := decide_eq_false h2
                go_wp2_with (fail)
                go_roundw
                case rel =>
                  refine ⟨i + 1, by go_num, by omega, by trivial, .inl ⟨by trivial, fun j y hj hy => ?_⟩⟩
                  rcases Nat.lt_or_ge j i with hj2 | hj2
                  · exact halH.out j y hj2 hy
                  · obtain rfl : j = i := by omega
                    rw [hxH.out] at hy
                    injection hy with hy
                    subst hy
                    omega
                case measure => simp [intOf]; omega
          · exfalso
            have h9 : inL 1000 ys = true := inL_iff.2 fun x hx => by
              obtain ⟨j, hj, rfl⟩ := List.mem_iff_getElem.1 hx
              rw [hylH.out] at hj
              exact hal j _ (by omega) (List.getElem?_eq_getElem _)
            rw [hbadH.out] at h9
            cases h9
        · by_cases hiM : (i : Int) < (M : Int)
          · go_wp2_with (go_at_call 7; (with_reducible refine (lives_any _).mono ?_); rintro e w9 ⟨rfl, hb⟩; have hq9 := Lib.hid (bseqT hq2.out hb); clear hb)
            go_ret
            exact ⟨rfl, bseqT hbVH.out hq9.out⟩
          · go_wp2_with (go_at_call 7; (with_reducible refine (lives_any _).mono ?_); rintro e w9 ⟨rfl, hb⟩; have hq9 := Lib.hid (bseqT hq2.out hb); clear hb)
            go_ret
            exact ⟨rfl, bseqT hbVH.out hq9.out⟩
    · skip
      clear hMn
      go_enter Tryz.func4, Tryz.ntmps4
      go_upto_region 1 with (fail)
      rw [← hVH.out]
      go_upto_region 5 with (at_builtin; go_loud (refine wpList_append_ze _ rfl (.tmp 22) (.tmp 28) _ rfl Tryz.underlying23 V.heap.size 0 _ [] (by rfl) (ZE.lit _ _ _) rfl (some ⟨b, oo, st⟩) M _ ys (by rfl) (hYH.out.below (bseqT hbVH.out (below_al (Below.refl _ _) _))) hylH.out (by omega) (by omega) (by simp) ?_); intro v1 x1 hA1; rw [List.nil_append] at hA1; obtain ⟨a1, d1, hv1⟩ := hA1.1.shape; rw [hylH.out] at hv1; subst hv1; have hZ1 := Lib.hid hA1.1.iz; have hq1 := Lib.hid ((below_al (Below.refl _ _) _).trans hA1.2.1); obtain ⟨g0, g1⟩ := hup.out _ hq1.out; clear hA1)
      go_wp2_with (first
        | (go_at_call 17; (with_reducible refine (htr.out _ _ _ hZ1.out.1).mono ?_); rintro e w2 ⟨rfl, hb⟩; have hq2 := Lib.hid (bseqT hq1.out hb); obtain ⟨g2, g3⟩ := hup.out _ hq2.out; have hq12 := Lib.hid hb; clear hb)
        | (go_at_call 18; (with_reducible refine (hfr.out _).mono ?_); rintro e w3 ⟨rfl, hb⟩; have hq3 := Lib.hid hb; clear hb))
      have hw23 := hq3.out
      subst hw23
      go_loopw [12, 11] (fun iv ev wr => ∃ i : Nat, iv = .int .i64 (i : Nat) ∧ i ≤ M ∧ wr = w2 ∧ ((ev = .int .i64 0 ∧ ∀ (j : Nat) (x : Int), j < i → ys[j]? = some x → 1 ≤ x ∧ x ≤ 1000) ∨ ev = .int .i64 1)) (fun iv _ _ => M - (intOf iv).toNat)
      case atStart => exact ⟨0, rfl, by omega, rfl, .inl ⟨rfl, fun j x hj => by omega⟩⟩
      case round =>
        obtain ⟨i, rfl, hi, rfl, hev⟩ := hrel
        rcases hev with ⟨rfl, hal⟩ | rfl
        · by_cases hiM' : i < M
          · have hiM : (i : Int) < (M : Int) := by omega
            have hiM0 : (0 : Int) ≤ (i : Int) := by omega
            obtain ⟨x, hx⟩ : ∃ x, ys[i]? = some x := ⟨_, List.getElem?_eq_getElem (by rw [hylH.out]; omega)⟩
            obtain ⟨bz, oz, haz, cz⟩ := (hZ1.out.1.below hq12.out) i x hx
            subst haz
            have halH := Lib.hid hal
            have hxH := Lib.hid hx
            clear hal hx
            by_cases h1 : x < 1
            · have h1B : decide (x < 1) = true := decide_eq_true h1
              go_wp2_with (fail)
              go_roundw
              case rel => exact ⟨i + 1, by go_num, by omega, by trivial, .inr (by trivial)⟩
              case measure => simp [intOf]; omega
            · have h1B : decide (x < 1) = false := decide_eq_false h1
              by_cases h2 : 1000 < x
              · have h2B : decide (1000 < x) = true := decide_eq_true h2
                go_wp2_with (fail)
                go_roundw
                case rel => exact ⟨i + 1, by go_num, by omega, by trivial, .inr (by trivial)⟩
                case measure => simp [intOf]; omega
              · have h2B : decide (1000 < x) = false := decide_eq_false h2
                go_wp2_with (fail)
                go_roundw
                case rel =>
                  refine ⟨i + 1, by go_num, by omega, by trivial, .inl ⟨by trivial, fun j y hj hy => ?_⟩⟩
                  rcases Nat.lt_or_ge j i with hj2 | hj2
                  · exact halH.out j y hj2 hy
                  · obtain rfl : j = i := by omega
                    rw [hxH.out] at hy
                    injection hy with hy
                    subst hy
                    omega
                case measure => simp [intOf]; omega
          · exfalso
            have h9 : inL 1000 ys = true := inL_iff.2 fun x hx => by
              obtain ⟨j, hj, rfl⟩ := List.mem_iff_getElem.1 hx
              rw [hylH.out] at hj
              exact hal j _ (by omega) (List.getElem?_eq_getElem _)
            rw [hbadH.out] at h9
            cases h9
        · by_cases hiM : (i : Int) < (M : Int)
          · go_wp2_with (go_at_call 7; (with_reducible refine (lives_any _).mono ?_); rintro e w9 ⟨rfl, hb⟩; have hq9 := Lib.hid (bseqT hq2.out hb); clear hb)
            go_ret
            exact ⟨rfl, bseqT hbVH.out hq9.out⟩
          · go_wp2_with (go_at_call 7; (with_reducible refine (lives_any _).mono ?_); rintro e w9 ⟨rfl, hb⟩; have hq9 := Lib.hid (bseqT hq2.out hb); clear hb)
            go_ret
            exact ⟨rfl, bseqT hbVH.out hq9.out⟩
  · subst hmo
    have hmin2 : min (n : Int) 11 = (M : Int) := by omega
    clear hmin
    have hnB : ¬ (n : Int) ≤ 10 := by omega
    have hnB2 : decide ((n : Int) ≤ 10) = false := decide_eq_false hnB
    have hnB3 : decide (n ≤ 10) = false := decide_eq_false (by omega)
    subst hk
    clear hk3
    exfalso; omega
  · subst hmo
    have hmin2 : min (n : Int) 7 = (M : Int) := by omega
    clear hmin
    have hnB : (n : Int) ≤ 10 := by omega
    have hnB2 : decide ((n : Int) ≤ 10) = true := decide_eq_true hnB
    have hnB3 : decide (n ≤ 10) = true := decide_eq_true hn10
    subst hk
    clear hk3
    rcases ao with _ | ⟨b, oo, st⟩
    · skip
      have hMM := hMn.out rfl
      subst hMM
      clear hMn
      go_enter Tryz.func4, Tryz.ntmps4
      go_upto_region 1 with (fail)
      rw [← hVH.out]
      go_upto_region 5 with (at_builtin; go_loud (refine wpList_append_ze _ rfl (.tmp 22) (.tmp 28) _ rfl Tryz.underlying23 V.heap.size 0 _ [] (by rfl) (ZE.lit _ _ _) rfl none M _ ys (by rfl) (hYH.out.below (bseqT hbVH.out (below_al (Below.refl _ _) _))) hylH.out (by omega) (by omega) (by simp) ?_); intro v1 x1 hA1; rw [List.nil_append] at hA1; obtain ⟨a1, d1, hv1⟩ := hA1.1.shape; rw [hylH.out] at hv1; subst hv1; have hZ1 := Lib.hid hA1.1.iz; have hq1 := Lib.hid ((below_al (Below.refl _ _) _).trans hA1.2.1); obtain ⟨g0, g1⟩ := hup.out _ hq1.out; clear hA1)
      go_wp2_with (first
        | (go_at_call 17; (with_reducible refine (htr.out _ _ _ hZ1.out.1).mono ?_); rintro e w2 ⟨rfl, hb⟩; have hq2 := Lib.hid (bseqT hq1.out hb); obtain ⟨g2, g3⟩ := hup.out _ hq2.out; have hq12 := Lib.hid hb; clear hb)
        | (go_at_call 18; (with_reducible refine (hfr.out _).mono ?_); rintro e w3 ⟨rfl, hb⟩; have hq3 := Lib.hid hb; clear hb))
      have hw23 := hq3.out
      subst hw23
      go_loopw [12, 11] (fun iv ev wr => ∃ i : Nat, iv = .int .i64 (i : Nat) ∧ i ≤ M ∧ wr = w2 ∧ ((ev = .int .i64 0 ∧ ∀ (j : Nat) (x : Int), j < i → ys[j]? = some x → 1 ≤ x ∧ x ≤ 1000) ∨ ev = .int .i64 1)) (fun iv _ _ => M - (intOf iv).toNat)
      case atStart => exact ⟨0, rfl, by omega, rfl, .inl ⟨rfl, fun j x hj => by omega⟩⟩
      case round =>
        obtain ⟨i, rfl, hi, rfl, hev⟩ := hrel
        rcases hev with ⟨rfl, hal⟩ | rfl
        · by_cases hiM' : i < M
          · have hiM : (i : Int) < (M : Int) := by omega
            have hiM0 : (0 : Int) ≤ (i : Int) := by omega
            obtain ⟨x, hx⟩ : ∃ x, ys[i]? = some x := ⟨_, List.getElem?_eq_getElem (by rw [hylH.out]; omega)⟩
            obtain ⟨bz, oz, haz, cz⟩ := (hZ1.out.1.below hq12.out) i x hx
            subst haz
            have halH := Lib.hid hal
            have hxH := Lib.hid hx
            clear hal hx
            by_cases h1 : x < 1
            · have h1B : decide (x < 1) = true := decide_eq_true h1
              go_wp2_with (fail)
              go_roundw
              case rel => exact ⟨i + 1, by go_num, by omega, by trivial, .inr (by trivial)⟩
              case measure => simp [intOf]; omega
            · have h1B : decide (x < 1) = false := decide_eq_false h1
              by_cases h2 : 1000 < x
              · have h2B : decide (1000 < x) = true := decide_eq_true h2
                go_wp2_with (fail)
                go_roundw
                case rel => exact ⟨i + 1, by go_num, by omega, by trivial, .inr (by trivial)⟩
                case measure => simp [intOf]; omega
              · have h2B : decide (1000 < x) = false := decide_eq_false h2
                go_wp2_with (fail)
                go_roundw
                case rel =>
                  refine ⟨i + 1, by go_num, by omega, by trivial, .inl ⟨by trivial, fun j y hj hy => ?_⟩⟩
                  rcases Nat.lt_or_ge j i with hj2 | hj2
                  · exact halH.out j y hj2 hy
                  · obtain rfl : j = i := by omega
                    rw [hxH.out] at hy
                    injection hy with hy
                    subst hy
                    omega
                case measure => simp [intOf]; omega
          · exfalso
            have h9 : inL 1000 ys = true := inL_iff.2 fun x hx => by
              obtain ⟨j, hj, rfl⟩ := List.mem_iff_getElem.1 hx
              rw [hylH.out] at hj
              exact hal j _ (by omega) (List.getElem?_eq_getElem _)
            rw [hbadH.out] at h9
            cases h9
        · by_cases hiM : (i : Int) < (M : Int)
          · go_wp2_with (go_at_call 7; (with_reducible refine (lives_any _).mono ?_); rintro e w9 ⟨rfl, hb⟩; have hq9 := Lib.hid (bseqT hq2.out hb); clear hb)
            go_ret
            exact ⟨rfl, bseqT hbVH.out hq9.out⟩
          · go_wp2_with (go_at_call 7; (with_reducible refine (lives_any _).mono ?_); rintro e w9 ⟨rfl, hb⟩; have hq9 := Lib.hid (bseqT hq2.out hb); clear hb)
            go_ret
            exact ⟨rfl, bseqT hbVH.out hq9.out⟩
    · skip
      clear hMn
      go_enter Tryz.func4, Tryz.ntmps4
      go_upto_region 1 with (fail)
      rw [← hVH.out]
      go_upto_region 5 with (at_builtin; go_loud (refine wpList_append_ze _ rfl (.tmp 22) (.tmp 28) _ rfl Tryz.underlying23 V.heap.size 0 _ [] (by rfl) (ZE.lit _ _ _) rfl (some ⟨b, oo, st⟩) M _ ys (by rfl) (hYH.out.below (bseqT hbVH.out (below_al (Below.refl _ _) _))) hylH.out (by omega) (by omega) (by simp) ?_); intro v1 x1 hA1; rw [List.nil_append] at hA1; obtain ⟨a1, d1, hv1⟩ := hA1.1.shape; rw [hylH.out] at hv1; subst hv1; have hZ1 := Lib.hid hA1.1.iz; have hq1 := Lib.hid ((below_al (Below.refl _ _) _).trans hA1.2.1); obtain ⟨g0, g1⟩ := hup.out _ hq1.out; clear hA1)
      go_wp2_with (first
        | (go_at_call 17; (with_reducible refine (htr.out _ _ _ hZ1.out.1).mono ?_); rintro e w2 ⟨rfl, hb⟩; have hq2 := Lib.hid (bseqT hq1.out hb); obtain ⟨g2, g3⟩ := hup.out _ hq2.out; have hq12 := Lib.hid hb; clear hb)
        | (go_at_call 18; (with_reducible refine (hfr.out _).mono ?_); rintro e w3 ⟨rfl, hb⟩; have hq3 := Lib.hid hb; clear hb))
      have hw23 := hq3.out
      subst hw23
      go_loopw [12, 11] (fun iv ev wr => ∃ i : Nat, iv = .int .i64 (i : Nat) ∧ i ≤ M ∧ wr = w2 ∧ ((ev = .int .i64 0 ∧ ∀ (j : Nat) (x : Int), j < i → ys[j]? = some x → 1 ≤ x ∧ x ≤ 1000) ∨ ev = .int .i64 1)) (fun iv _ _ => M - (intOf iv).toNat)
      case atStart => exact ⟨0, rfl, by omega, rfl, .inl ⟨rfl, fun j x hj => by omega⟩⟩
      case round =>
        obtain ⟨i, rfl, hi, rfl, hev⟩ := hrel
        rcases hev with ⟨rfl, hal⟩ | rfl
        · by_cases hiM' : i < M
          · have hiM : (i : Int) < (M : Int) := by omega
            have hiM0 : (0 : Int) ≤ (i : Int) := by omega
            obtain ⟨x, hx⟩ : ∃ x, ys[i]? = some x := ⟨_, List.getElem?_eq_getElem (by rw [hylH.out]; omega)⟩
            obtain ⟨bz, oz, haz, cz⟩ := (hZ1.out.1.below hq12.out) i x hx
            subst haz
            have halH := Lib.hid hal
            have hxH := Lib.hid hx
            clear hal hx
            by_cases h1 : x < 1
            · have h1B : decide (x < 1) = true := decide_eq_true h1
              go_wp2_with (fail)
              go_roundw
              case rel => exact ⟨i + 1, by go_num, by omega, by trivial, .inr (by trivial)⟩
              case measure => simp [intOf]; omega
            · have h1B : decide (x < 1) = false := decide_eq_false h1
              by_cases h2 : 1000 < x
              · have h2B : decide (1000 < x) = true := decide_eq_true h2
                go_wp2_with (fail)
                go_roundw
                case rel => exact ⟨i + 1, by go_num, by omega, by trivial, .inr (by trivial)⟩
                case measure => simp [intOf]; omega
              · have h2B : decide (1000 < x) = false := decide_eq_false h2
                go_wp2_with (fail)
                go_roundw
                case rel =>
                  refine ⟨i + 1, by go_num, by omega, by trivial, .inl ⟨by trivial, fun j y hj hy => ?_⟩⟩
                  rcases Nat.lt_or_ge j i with hj2 | hj2
                  · exact halH.out j y hj2 hy
                  · obtain rfl : j = i := by omega
                    rw [hxH.out] at hy
                    injection hy with hy
                    subst hy
                    omega
                case measure => simp [intOf]; omega
          · exfalso
            have h9 : inL 1000 ys = true := inL_iff.2 fun x hx => by
              obtain ⟨j, hj, rfl⟩ := List.mem_iff_getElem.1 hx
              rw [hylH.out] at hj
              exact hal j _ (by omega) (List.getElem?_eq_getElem _)
            rw [hbadH.out] at h9
            cases h9
        · by_cases hiM : (i : Int) < (M : Int)
          · go_wp2_with (go_at_call 7; (with_reducible refine (lives_any _).mono ?_); rintro e w9 ⟨rfl, hb⟩; have hq9 := Lib.hid (bseqT hq2.out hb); clear hb)
            go_ret
            exact ⟨rfl, bseqT hbVH.out hq9.out⟩
          · go_wp2_with (go_at_call 7; (with_reducible refine (lives_any _).mono ?_); rintro e w9 ⟨rfl, hb⟩; have hq9 := Lib.hid (bseqT hq2.out hb); clear hb)
            go_ret
            exact ⟨rfl, bseqT hbVH.out hq9.out⟩
set_option maxRecDepth 100000 in
set_option maxHeartbeats 25600000 in
theorem trnLaw_none (o u k : Int) (ao : Option Addr) (n c most M : Nat) (xs ys : List Int) (w : World) (h : IZ w ao xs) (hn : xs.length = n) (hc : n ≤ c) (hn63 : n ≤ 9223372036854775807) (hF : Fr3 k n most) (hM : min n most = M) (hys : xs.take most = ys) (o' u' L : Nat) (ho' : (o' : Int) = o) (hu' : (u' : Int) = u) (hL' : (L : Int) = k) (hok : trOk o u k M ys = true) (hlt : M < 2 * L) :
    Calls Tryz.prog 4 #[.agg #[.int .i64 o, .int .i64 u], .slice ao n c, .int .i64 k] w (RetB w true) := by
  have hyl : ys.length = M := by rw [← hys, List.length_take, hn]; omega
  have hY : IZ w ao ys := by rw [← hys]; exact h.take most
  have hall := (trOk_nat hok).2.2.2.2.2.2.2
  have hk1' := (trOk_nat hok).2.2.2.2.1
  have hk2' := (trOk_nat hok).2.2.2.2.2.1
  have hM10' := (trOk_nat hok).2.2.2.2.2.2.1
  have hfb : frB o u = true := by rw [frB_inL]; exact (trOk_parts hok).1
  have htr : Hid (∀ (a : Option Addr) (d : Nat) (W : World), IZ W a ys → Calls Tryz.prog 17 #[.int .i64 o, .int .i64 u, .slice a M d, .int .i64 k] W (fun e w' => e = .returned (.tuple #[.slice none 0 0, .int .i64 5]) ∧ Below W.heap.size W w')) := fun a d W hI => by
    rw [← ho', ← hu', ← hL'] at hok ⊢
    exact trainP_none o' u' L a M d ys W hI hyl hok hlt
  have hfr := Lib.hid (fun W => fraction_any o u true W hfb)
  have hallH := Lib.hid hall
  obtain ⟨K2, hK2⟩ : ∃ K2, (2 : Int) * k = K2 := ⟨_, rfl⟩
  have hMK : (M : Int) < K2 := by omega
  have hYH := Lib.hid hY
  have hylH := Lib.hid hyl
  have hM11 : M ≤ 11 := by unfold Fr3 at hF; omega
  have hMc : (M : Int) ≤ (c : Int) := by omega
  have hMc2 : M ≤ c := by omega
  have hk3 : ((k : Int) == 3) = decide (k = 3) := by by_cases hk : k = 3 <;> simp [hk]
  have hmin : min (n : Int) (most : Int) = (M : Int) := by omega
  obtain ⟨V, hV⟩ : ∃ V, V = w.alloc (Obj.cells #[.int .i64 o, .int .i64 u] 43) := ⟨_, rfl⟩
  have hbV : Below w.heap.size w V := by rw [hV]; exact below_al (Below.refl _ _) _
  have hup : Hid (∀ W, Below V.heap.size V W → W.cell? ⟨w.heap.size, 0, none⟩ = some (.int .i64 o) ∧ W.cell? ⟨w.heap.size, 1, none⟩ = some (.int .i64 u)) := fun W hW => ⟨Below.cellAt hW (Nat.le_refl _) (by rw [hV]; exact xbox.1), Below.cellAt hW (Nat.le_refl _) (by rw [hV]; exact xbox.2)⟩
  have hbVH := Lib.hid hbV
  have hwl : w.heap.size < V.heap.size := by rw [hV]; simp
  have hVH := Lib.hid hV
  have hMn : Hid (ao = none → M = n) := fun e => by
    rcases Nat.eq_zero_or_pos n with h0 | h0
    · omega
    · obtain ⟨_, _, ha, _⟩ := h.at (i := 0) (by omega)
      rw [e] at ha; cases ha
  clear h hn hys hY hyl hM hbV hV
  have hM10 : ¬ (10 : Int) < (M : Int) := by omega
  have hk1 : decide (k < 1) = false := decide_eq_false (by omega)
  have hk2 : decide (3 < k) = false := decide_eq_false (by omega)
  clear hok hfb hall ho' hu' hL' hlt
  rcases hF with ⟨hk, hmo⟩ | ⟨hk, hn10, hmo⟩ | ⟨hk, hn10, hmo⟩
  · subst hmo
    have hmin2 : min (n : Int) 11 = (M : Int) := by omega
    clear hmin
    have hkB : (k == 3) = false := by simp; exact hk
    clear hk3 hk
    rcases ao with _ | ⟨b, oo, st⟩
    · skip
      have hMM := hMn.out rfl
      subst hMM
      clear hMn
      go_enter Tryz.func4, Tryz.ntmps4
      go_upto_region 1 with (fail)
      rw [← hVH.out]
      go_upto_region 5 with (at_builtin; go_loud (refine wpList_append_ze _ rfl (.tmp 22) (.tmp 28) _ rfl Tryz.underlying23 V.heap.size 0 _ [] (by rfl) (ZE.lit _ _ _) rfl none M _ ys (by rfl) (hYH.out.below (bseqT hbVH.out (below_al (Below.refl _ _) _))) hylH.out (by omega) (by omega) (by simp) ?_); intro v1 x1 hA1; rw [List.nil_append] at hA1; obtain ⟨a1, d1, hv1⟩ := hA1.1.shape; rw [hylH.out] at hv1; subst hv1; have hZ1 := Lib.hid hA1.1.iz; have hq1 := Lib.hid ((below_al (Below.refl _ _) _).trans hA1.2.1); obtain ⟨g0, g1⟩ := hup.out _ hq1.out; clear hA1)
      go_wp2_with (first
        | (go_at_call 17; (with_reducible refine (htr.out _ _ _ hZ1.out.1).mono ?_); rintro e w2 ⟨rfl, hb⟩; have hq2 := Lib.hid (bseqT hq1.out hb); obtain ⟨g2, g3⟩ := hup.out _ hq2.out; have hq12 := Lib.hid hb; clear hb)
        | (go_at_call 18; (with_reducible refine (hfr.out _).mono ?_); rintro e w3 ⟨rfl, hb⟩; have hq3 := Lib.hid hb; clear hb))
      have hw23 := hq3.out
      subst hw23
      go_loopw [12, 11] (fun iv ev wr => ∃ i : Nat, iv = .int .i64 (i : Nat) ∧ i ≤ M ∧ wr = w2 ∧ ev = .int .i64 0) (fun iv _ _ => M - (intOf iv).toNat)
      case atStart => exact ⟨0, rfl, by omega, rfl, rfl⟩
      case round =>
        obtain ⟨i, rfl, hi, rfl, rfl⟩ := hrel
        by_cases hiM' : i < M
        · have hiM : (i : Int) < (M : Int) := by omega
          have hiM0 : (0 : Int) ≤ (i : Int) := by omega
          obtain ⟨x, hx⟩ : ∃ x, ys[i]? = some x := ⟨_, List.getElem?_eq_getElem (by rw [hylH.out]; omega)⟩
          obtain ⟨bz, oz, haz, cz⟩ := (hZ1.out.1.below hq12.out) i x hx
          subst haz
          have hxr := hallH.out x (List.mem_of_getElem? hx)
          have h1B : decide (x < 1) = false := decide_eq_false (by omega)
          have h2B : decide (1000 < x) = false := decide_eq_false (by omega)
          clear hx hxr
          go_wp2_with (fail)
          go_roundw
          case rel => exact ⟨i + 1, by go_num, by omega, by trivial, by trivial⟩
          case measure => simp [intOf]; omega
        · have hiM : ¬ (i : Int) < (M : Int) := by omega
          go_wp2_with (go_at_call 7; (with_reducible refine (lives_any _).mono ?_); rintro e w9 ⟨rfl, hb⟩; have hq9 := Lib.hid (bseqT hq2.out hb); clear hb)
          go_ret
          exact ⟨rfl, bseqT hbVH.out hq9.out⟩
    · skip
      clear hMn
      go_enter Tryz.func4, Tryz.ntmps4
      go_upto_region 1 with (fail)
      rw [← hVH.out]
      go_upto_region 5 with (at_builtin; go_loud (refine wpList_append_ze _ rfl (.tmp 22) (.tmp 28) _ rfl Tryz.underlying23 V.heap.size 0 _ [] (by rfl) (ZE.lit _ _ _) rfl (some ⟨b, oo, st⟩) M _ ys (by rfl) (hYH.out.below (bseqT hbVH.out (below_al (Below.refl _ _) _))) hylH.out (by omega) (by omega) (by simp) ?_); intro v1 x1 hA1; rw [List.nil_append] at hA1; obtain ⟨a1, d1, hv1⟩ := hA1.1.shape; rw [hylH.out] at hv1; subst hv1; have hZ1 := Lib.hid hA1.1.iz; have hq1 := Lib.hid ((below_al (Below.refl _ _) _).trans hA1.2.1); obtain ⟨g0, g1⟩ := hup.out _ hq1.out; clear hA1)
      go_wp2_with (first
        | (go_at_call 17; (with_reducible refine (htr.out _ _ _ hZ1.out.1).mono ?_); rintro e w2 ⟨rfl, hb⟩; have hq2 := Lib.hid (bseqT hq1.out hb); obtain ⟨g2, g3⟩ := hup.out _ hq2.out; have hq12 := Lib.hid hb; clear hb)
        | (go_at_call 18; (with_reducible refine (hfr.out _).mono ?_); rintro e w3 ⟨rfl, hb⟩; have hq3 := Lib.hid hb; clear hb))
      have hw23 := hq3.out
      subst hw23
      go_loopw [12, 11] (fun iv ev wr => ∃ i : Nat, iv = .int .i64 (i : Nat) ∧ i ≤ M ∧ wr = w2 ∧ ev = .int .i64 0) (fun iv _ _ => M - (intOf iv).toNat)
      case atStart => exact ⟨0, rfl, by omega, rfl, rfl⟩
      case round =>
        obtain ⟨i, rfl, hi, rfl, rfl⟩ := hrel
        by_cases hiM' : i < M
        · have hiM : (i : Int) < (M : Int) := by omega
          have hiM0 : (0 : Int) ≤ (i : Int) := by omega
          obtain ⟨x, hx⟩ : ∃ x, ys[i]? = some x := ⟨_, List.getElem?_eq_getElem (by rw [hylH.out]; omega)⟩
          obtain ⟨bz, oz, haz, cz⟩ := (hZ1.out.1.below hq12.out) i x hx
          subst haz
          have hxr := hallH.out x (List.mem_of_getElem? hx)
          have h1B : decide (x < 1) = false := decide_eq_false (by omega)
          have h2B : decide (1000 < x) = false := decide_eq_false (by omega)
          clear hx hxr
          go_wp2_with (fail)
          go_roundw
          case rel => exact ⟨i + 1, by go_num, by omega, by trivial, by trivial⟩
          case measure => simp [intOf]; omega
        · have hiM : ¬ (i : Int) < (M : Int) := by omega
          go_wp2_with (go_at_call 7; (with_reducible refine (lives_any _).mono ?_); rintro e w9 ⟨rfl, hb⟩; have hq9 := Lib.hid (bseqT hq2.out hb); clear hb)
          go_ret
          exact ⟨rfl, bseqT hbVH.out hq9.out⟩
  · subst hmo
    have hmin2 : min (n : Int) 11 = (M : Int) := by omega
    clear hmin
    have hnB : ¬ (n : Int) ≤ 10 := by omega
    have hnB2 : decide ((n : Int) ≤ 10) = false := decide_eq_false hnB
    have hnB3 : decide (n ≤ 10) = false := decide_eq_false (by omega)
    subst hk
    clear hk3
    exfalso; omega
  · subst hmo
    have hmin2 : min (n : Int) 7 = (M : Int) := by omega
    clear hmin
    have hnB : (n : Int) ≤ 10 := by omega
    have hnB2 : decide ((n : Int) ≤ 10) = true := decide_eq_true hnB
    have hnB3 : decide (n ≤ 10) = true := decide_eq_true hn10
    subst hk
    clear hk3
    rcases ao with _ | ⟨b, oo, st⟩
    · skip
      have hMM := hMn.out rfl
      subst hMM
      clear hMn
      go_enter Tryz.func4, Tryz.ntmps4
      go_upto_region 1 with (fail)
      rw [← hVH.out]
      have hK6 : (M : Int) < 6 := by omega
      clear hMK hK2
      go_upto_region 5 with (at_builtin; go_loud (refine wpList_append_ze _ rfl (.tmp 22) (.tmp 28) _ rfl Tryz.underlying23 V.heap.size 0 _ [] (by rfl) (ZE.lit _ _ _) rfl none M _ ys (by rfl) (hYH.out.below (bseqT hbVH.out (below_al (Below.refl _ _) _))) hylH.out (by omega) (by omega) (by simp) ?_); intro v1 x1 hA1; rw [List.nil_append] at hA1; obtain ⟨a1, d1, hv1⟩ := hA1.1.shape; rw [hylH.out] at hv1; subst hv1; have hZ1 := Lib.hid hA1.1.iz; have hq1 := Lib.hid ((below_al (Below.refl _ _) _).trans hA1.2.1); obtain ⟨g0, g1⟩ := hup.out _ hq1.out; clear hA1)
      go_wp2_with (first
        | (go_at_call 17; (with_reducible refine (htr.out _ _ _ hZ1.out.1).mono ?_); rintro e w2 ⟨rfl, hb⟩; have hq2 := Lib.hid (bseqT hq1.out hb); obtain ⟨g2, g3⟩ := hup.out _ hq2.out; have hq12 := Lib.hid hb; clear hb)
        | (go_at_call 18; (with_reducible refine (hfr.out _).mono ?_); rintro e w3 ⟨rfl, hb⟩; have hq3 := Lib.hid hb; clear hb))
      have hw23 := hq3.out
      subst hw23
      go_loopw [12, 11] (fun iv ev wr => ∃ i : Nat, iv = .int .i64 (i : Nat) ∧ i ≤ M ∧ wr = w2 ∧ ev = .int .i64 0) (fun iv _ _ => M - (intOf iv).toNat)
      case atStart => exact ⟨0, rfl, by omega, rfl, rfl⟩
      case round =>
        obtain ⟨i, rfl, hi, rfl, rfl⟩ := hrel
        by_cases hiM' : i < M
        · have hiM : (i : Int) < (M : Int) := by omega
          have hiM0 : (0 : Int) ≤ (i : Int) := by omega
          obtain ⟨x, hx⟩ : ∃ x, ys[i]? = some x := ⟨_, List.getElem?_eq_getElem (by rw [hylH.out]; omega)⟩
          obtain ⟨bz, oz, haz, cz⟩ := (hZ1.out.1.below hq12.out) i x hx
          subst haz
          have hxr := hallH.out x (List.mem_of_getElem? hx)
          have h1B : decide (x < 1) = false := decide_eq_false (by omega)
          have h2B : decide (1000 < x) = false := decide_eq_false (by omega)
          clear hx hxr
          go_wp2_with (fail)
          go_roundw
          case rel => exact ⟨i + 1, by go_num, by omega, by trivial, by trivial⟩
          case measure => simp [intOf]; omega
        · have hiM : ¬ (i : Int) < (M : Int) := by omega
          go_wp2_with (go_at_call 7; (with_reducible refine (lives_any _).mono ?_); rintro e w9 ⟨rfl, hb⟩; have hq9 := Lib.hid (bseqT hq2.out hb); clear hb)
          go_ret
          exact ⟨rfl, bseqT hbVH.out hq9.out⟩
    · skip
      clear hMn
      go_enter Tryz.func4, Tryz.ntmps4
      go_upto_region 1 with (fail)
      rw [← hVH.out]
      have hK6 : (M : Int) < 6 := by omega
      clear hMK hK2
      go_upto_region 5 with (at_builtin; go_loud (refine wpList_append_ze _ rfl (.tmp 22) (.tmp 28) _ rfl Tryz.underlying23 V.heap.size 0 _ [] (by rfl) (ZE.lit _ _ _) rfl (some ⟨b, oo, st⟩) M _ ys (by rfl) (hYH.out.below (bseqT hbVH.out (below_al (Below.refl _ _) _))) hylH.out (by omega) (by omega) (by simp) ?_); intro v1 x1 hA1; rw [List.nil_append] at hA1; obtain ⟨a1, d1, hv1⟩ := hA1.1.shape; rw [hylH.out] at hv1; subst hv1; have hZ1 := Lib.hid hA1.1.iz; have hq1 := Lib.hid ((below_al (Below.refl _ _) _).trans hA1.2.1); obtain ⟨g0, g1⟩ := hup.out _ hq1.out; clear hA1)
      go_wp2_with (first
        | (go_at_call 17; (with_reducible refine (htr.out _ _ _ hZ1.out.1).mono ?_); rintro e w2 ⟨rfl, hb⟩; have hq2 := Lib.hid (bseqT hq1.out hb); obtain ⟨g2, g3⟩ := hup.out _ hq2.out; have hq12 := Lib.hid hb; clear hb)
        | (go_at_call 18; (with_reducible refine (hfr.out _).mono ?_); rintro e w3 ⟨rfl, hb⟩; have hq3 := Lib.hid hb; clear hb))
      have hw23 := hq3.out
      subst hw23
      go_loopw [12, 11] (fun iv ev wr => ∃ i : Nat, iv = .int .i64 (i : Nat) ∧ i ≤ M ∧ wr = w2 ∧ ev = .int .i64 0) (fun iv _ _ => M - (intOf iv).toNat)
      case atStart => exact ⟨0, rfl, by omega, rfl, rfl⟩
      case round =>
        obtain ⟨i, rfl, hi, rfl, rfl⟩ := hrel
        by_cases hiM' : i < M
        · have hiM : (i : Int) < (M : Int) := by omega
          have hiM0 : (0 : Int) ≤ (i : Int) := by omega
          obtain ⟨x, hx⟩ : ∃ x, ys[i]? = some x := ⟨_, List.getElem?_eq_getElem (by rw [hylH.out]; omega)⟩
          obtain ⟨bz, oz, haz, cz⟩ := (hZ1.out.1.below hq12.out) i x hx
          subst haz
          have hxr := hallH.out x (List.mem_of_getElem? hx)
          have h1B : decide (x < 1) = false := decide_eq_false (by omega)
          have h2B : decide (1000 < x) = false := decide_eq_false (by omega)
          clear hx hxr
          go_wp2_with (fail)
          go_roundw
          case rel => exact ⟨i + 1, by go_num, by omega, by trivial, by trivial⟩
          case measure => simp [intOf]; omega
        · have hiM : ¬ (i : Int) < (M : Int) := by omega
          go_wp2_with (go_at_call 7; (with_reducible refine (lives_any _).mono ?_); rintro e w9 ⟨rfl, hb⟩; have hq9 := Lib.hid (bseqT hq2.out hb); clear hb)
          go_ret
          exact ⟨rfl, bseqT hbVH.out hq9.out⟩
set_option maxRecDepth 100000 in
set_option maxHeartbeats 51200000 in
theorem trnLaw_good (o u k : Int) (ao : Option Addr) (n c most M : Nat) (xs ys : List Int) (w : World) (h : IZ w ao xs) (hn : xs.length = n) (hc : n ≤ c) (hn63 : n ≤ 9223372036854775807) (hF : Fr3 k n most) (hM : min n most = M) (hys : xs.take most = ys) (o' u' L : Nat) (zs : List Nat) (ho' : (o' : Int) = o) (hu' : (u' : Int) = u) (hL' : (L : Int) = k) (hzs : nzT zs = ys) (hok : trOk o u k M ys = true) (hge : 2 * L ≤ M) :
    Calls Tryz.prog 4 #[.agg #[.int .i64 o, .int .i64 u], .slice ao n c, .int .i64 k] w (RetB w true) := by
  have hyl : ys.length = M := by rw [← hys, List.length_take, hn]; omega
  have hY : IZ w ao ys := by rw [← hys]; exact h.take most
  have hall := (trOk_nat hok).2.2.2.2.2.2.2
  have hk1' := (trOk_nat hok).2.2.2.2.1
  have hk2' := (trOk_nat hok).2.2.2.2.2.1
  have hM10' := (trOk_nat hok).2.2.2.2.2.2.1
  have hfb : frB o u = true := by rw [frB_inL]; exact (trOk_parts hok).1
  have hzl : zs.length = M := by rw [← hyl, ← hzs, nzT_length]
  obtain ⟨R, hR⟩ : ∃ R, tryT o' u' M (wf zs) L [] 1 1 none = R := ⟨_, rfl⟩
  obtain ⟨t, ht⟩ : ∃ t, resT R = t := ⟨_, rfl⟩
  obtain ⟨N, hN⟩ : ∃ N, t.length = N := ⟨_, rfl⟩
  have htr : Hid (∀ (a : Option Addr) (d : Nat) (W : World), IZ W a ys → Calls Tryz.prog 17 #[.int .i64 o, .int .i64 u, .slice a M d, .int .i64 k] W (fun e w' => ∃ (a' : Option Addr) (c' : Nat), e = .returned (.tuple #[.slice a' N c', .int .i64 0]) ∧ IMx w' a' (rowsT t) ∧ Below W.heap.size W w')) := fun a d W hI => by
    rw [← ho', ← hu', ← hL', ← hzs] at hok
    rw [← ho', ← hu', ← hL']
    rw [← hzs] at hI
    refine (trainP_good o' u' L a M d zs W hI hzl hok hge R hR).mono ?_
    rintro e w' ⟨a', c', he, hM, _, hb⟩
    rw [ht] at he hM
    rw [hN] at he
    exact ⟨a', c', he, hM, hb⟩
  have htr2 : Hid (∀ (a : Option Addr) (d : Nat) (W : World), IZ W a ys → Calls Tryz.prog 19 #[.int .i64 o, .int .i64 u, .slice a M d, .int .i64 k] W (fun e w' => ∃ (a' : Option Addr) (c' : Nat), e = .returned (.slice a' N c') ∧ IMx w' a' (rowsT t) ∧ Below W.heap.size W w')) := fun a d W hI => by
    rw [← ho', ← hu', ← hL', ← hzs] at hok
    rw [← ho', ← hu', ← hL']
    rw [← hzs] at hI
    refine (trainR_good o' u' L a M d zs W hI hzl hok R hR).mono ?_
    rintro e w' ⟨a', c', he, hM, hb⟩
    rw [ht] at he hM
    rw [hN] at he
    exact ⟨a', c', he, hM, hb⟩
  have hwr2 : ∀ x ∈ zs, 1 ≤ x ∧ x ≤ 1000 := fun x hx => by
    have := hall (x : Int) (by rw [← hzs]; unfold nzT; exact List.mem_map_of_mem hx)
    omega
  have hst := tryT_st (L := L) (n := M) (o := o') (u := u') (w := wf zs) (fun i hi => wf_in hzl hwr2 hi) (by omega) L [] 1 1 none (by simp) Pw.one Pw.one (by simp) (fun t p q h => by cases h)
  have hN3 : N ≤ 3 := by
    rw [hR] at hst
    rw [← hN, ← ht]
    rcases R with _ | ⟨t', p', q'⟩
    · simp [resT]
    · have h1 := (hst t' p' q' rfl).1
      show t'.length ≤ 3
      omega
  clear hst hwr2
  have hrl : Hid ((rowsT t).length = N) := by show _ = _; rw [rowsT_length]; exact hN
  have hfr := Lib.hid (fun W => fraction_any o u true W hfb)
  have hallH := Lib.hid hall
  have htH : Hid (∀ i, i < N → ∃ x y : Nat, (rowsT t)[i]? = some [(x : Int), (y : Int)]) := fun i hi => by
    obtain ⟨⟨x, y⟩, hxy⟩ : ∃ z, t[i]? = some z := ⟨_, List.getElem?_eq_getElem (by rw [hN]; exact hi)⟩
    exact ⟨x, y, by unfold rowsT; rw [List.getElem?_map, hxy]; rfl⟩
  obtain ⟨K2, hK2⟩ : ∃ K2, (2 : Int) * k = K2 := ⟨_, rfl⟩
  have hMK : ¬ (M : Int) < K2 := by omega
  have hYH := Lib.hid hY
  have hylH := Lib.hid hyl
  have hM11 : M ≤ 11 := by unfold Fr3 at hF; omega
  have hMc : (M : Int) ≤ (c : Int) := by omega
  have hMc2 : M ≤ c := by omega
  have hk3 : ((k : Int) == 3) = decide (k = 3) := by by_cases hk : k = 3 <;> simp [hk]
  have hmin : min (n : Int) (most : Int) = (M : Int) := by omega
  obtain ⟨V, hV⟩ : ∃ V, V = w.alloc (Obj.cells #[.int .i64 o, .int .i64 u] 43) := ⟨_, rfl⟩
  have hbV : Below w.heap.size w V := by rw [hV]; exact below_al (Below.refl _ _) _
  have hup : Hid (∀ W, Below V.heap.size V W → W.cell? ⟨w.heap.size, 0, none⟩ = some (.int .i64 o) ∧ W.cell? ⟨w.heap.size, 1, none⟩ = some (.int .i64 u)) := fun W hW => ⟨Below.cellAt hW (Nat.le_refl _) (by rw [hV]; exact xbox.1), Below.cellAt hW (Nat.le_refl _) (by rw [hV]; exact xbox.2)⟩
  have hbVH := Lib.hid hbV
  have hwl : w.heap.size < V.heap.size := by rw [hV]; simp
  have hVH := Lib.hid hV
  have hMn : Hid (ao = none → M = n) := fun e => by
    rcases Nat.eq_zero_or_pos n with h0 | h0
    · omega
    · obtain ⟨_, _, ha, _⟩ := h.at (i := 0) (by omega)
      rw [e] at ha; cases ha
  clear h hn hys hY hyl hM hbV hV
  have hM10 : ¬ (10 : Int) < (M : Int) := by omega
  have hk1 : decide (k < 1) = false := decide_eq_false (by omega)
  have hk2 : decide (3 < k) = false := decide_eq_false (by omega)
  have hsm : Hid (∀ (a b : Option Addr) (c d : Nat) (x y : Nat) (W : World), IZ W a [(x : Int), (y : Int)] → IZ W b [(x : Int), (y : Int)] → Calls Tryz.prog 20 #[.slice a 2 c, .slice b 2 d] W (RetB W true)) := fun a b c d x y W h1 h2 => same_any a b c d 2 2 _ _ true W h1 h2 rfl rfl (by omega) (by omega) (by unfold sameB; simp)
  clear hok hfb hall ho' hu' hL' hge hzs hzl hR ht hN
  rcases hF with ⟨hk, hmo⟩ | ⟨hk, hn10, hmo⟩ | ⟨hk, hn10, hmo⟩
  · subst hmo
    have hmin2 : min (n : Int) 11 = (M : Int) := by omega
    clear hmin
    have hkB : (k == 3) = false := by simp; exact hk
    clear hk3 hk
    rcases ao with _ | ⟨b, oo, st⟩
    · skip
      have hMM := hMn.out rfl
      subst hMM
      clear hMn
      go_enter Tryz.func4, Tryz.ntmps4
      go_upto_region 1 with (fail)
      rw [← hVH.out]
      go_upto_region 5 with (at_builtin; go_loud (refine wpList_append_ze _ rfl (.tmp 22) (.tmp 28) _ rfl Tryz.underlying23 V.heap.size 0 _ [] (by rfl) (ZE.lit _ _ _) rfl none M _ ys (by rfl) (hYH.out.below (bseqT hbVH.out (below_al (Below.refl _ _) _))) hylH.out (by omega) (by omega) (by simp) ?_); intro v1 x1 hA1; rw [List.nil_append] at hA1; obtain ⟨a1, d1, hv1⟩ := hA1.1.shape; rw [hylH.out] at hv1; subst hv1; have hZ1 := Lib.hid hA1.1.iz; have hq1 := Lib.hid ((below_al (Below.refl _ _) _).trans hA1.2.1); obtain ⟨g0, g1⟩ := hup.out _ hq1.out; clear hA1)
      go_wp2_with (first
        | (go_at_call 17; (with_reducible refine (htr.out _ _ _ hZ1.out.1).mono ?_); rintro e w2 ⟨a2, c2, rfl, hl, hb⟩; have hq2 := Lib.hid (bseqT hq1.out hb); obtain ⟨g2, g3⟩ := hup.out _ hq2.out; have hq12 := Lib.hid hb; have hlH := Lib.hid hl; clear hl; clear hb)
        | (go_at_call 18; (with_reducible refine (hfr.out _).mono ?_); rintro e w3 ⟨rfl, hb⟩; have hq3 := Lib.hid hb; clear hb))
      have hw23 := hq3.out
      subst hw23
      go_loopw [12, 11] (fun iv ev wr => ∃ i : Nat, iv = .int .i64 (i : Nat) ∧ i ≤ M ∧ wr = w2 ∧ ev = .int .i64 0) (fun iv _ _ => M - (intOf iv).toNat)
      case atStart => exact ⟨0, rfl, by omega, rfl, rfl⟩
      case round =>
        obtain ⟨i, rfl, hi, rfl, rfl⟩ := hrel
        by_cases hiM' : i < M
        · have hiM : (i : Int) < (M : Int) := by omega
          have hiM0 : (0 : Int) ≤ (i : Int) := by omega
          obtain ⟨x, hx⟩ : ∃ x, ys[i]? = some x := ⟨_, List.getElem?_eq_getElem (by rw [hylH.out]; omega)⟩
          obtain ⟨bz, oz, haz, cz⟩ := (hZ1.out.1.below hq12.out) i x hx
          subst haz
          have hxr := hallH.out x (List.mem_of_getElem? hx)
          have h1B : decide (x < 1) = false := decide_eq_false (by omega)
          have h2B : decide (1000 < x) = false := decide_eq_false (by omega)
          clear hx hxr
          go_wp2_with (fail)
          go_roundw
          case rel => exact ⟨i + 1, by go_num, by omega, by trivial, by trivial⟩
          case measure => simp [intOf]; omega
        · have hiM : ¬ (i : Int) < (M : Int) := by omega
          go_wp2_with (first
            | (go_at_call 19; (with_reducible refine (htr2.out _ _ _ (hZ1.out.1.below hq12.out)).mono ?_); rintro e w4 ⟨a4, c4, rfl, hl, hb⟩; have hl4H := Lib.hid hl; have hlH4 := Lib.hid (hlH.out.below hb); have hq4 := Lib.hid (bseqT hq2.out hb); clear hl hb)
            | (go_at_call 7; (with_reducible refine (lives_any _).mono ?_); rintro e w9 ⟨rfl, hb⟩; have hq49 := Lib.hid hb; have hq9 := Lib.hid (bseqT hq4.out hb); clear hb))
          have hb49 : Below w4.heap.size w4 w9 := hq49.out
          have hA := Lib.hid (hlH4.out.below hb49)
          have hB := Lib.hid (hl4H.out.below hb49)
          clear hb49
          go_loopw [14] (fun jv wr => ∃ j : Nat, jv = .int .i64 (j : Nat) ∧ j ≤ N ∧ Below w9.heap.size w9 wr) (fun jv _ => N - (intOf jv).toNat)
          case atStart => exact ⟨0, rfl, by omega, Below.refl _ _⟩
          case round =>
            obtain ⟨j, rfl, hj, hbl⟩ := hrel
            have hblH := Lib.hid hbl
            clear hbl
            by_cases hjN : j < N
            · have hjI : (j : Int) < (N : Int) := by omega
              have hj0 : (0 : Int) ≤ (j : Int) := by omega
              obtain ⟨x, y, hxy⟩ := htH.out j hjN
              obtain ⟨b1, o1, r1, s1, ha1, y1, _, hI1⟩ := (hA.out.below hblH.out).row hxy
              obtain ⟨b2, o2, r2, s2, ha2, y2, _, hI2⟩ := (hB.out.below hblH.out).row hxy
              have y1' : wr.cell? ⟨b1, o1 + j, none⟩ = some (.slice r1 2 s1) := y1
              have y2' : wr.cell? ⟨b2, o2 + j, none⟩ = some (.slice r2 2 s2) := y2
              have hI1H := Lib.hid hI1
              have hI2H := Lib.hid hI2
              have hBr : Below wr.heap.size wr wr := Below.refl _ _
              have hupR : Hid (∀ w', Below wr.heap.size wr w' → w'.cell? ⟨b1, o1 + j, none⟩ = some (.slice r1 2 s1) ∧ w'.cell? ⟨b2, o2 + j, none⟩ = some (.slice r2 2 s2)) := fun w' hW => ⟨Below.cellAt hW (Nat.le_refl _) y1', Below.cellAt hW (Nat.le_refl _) y2'⟩
              clear y1 y2 hI1 hI2 hxy
              have ha1H := Lib.hid ha1
              have ha2H := Lib.hid ha2
              subst ha1
              subst ha2
              go_upto_region 24 with (fail)
              -- tail S: fun w' => w'.cell? ⟨b1, o1 + j, none⟩ = some (.slice r1 2 s1) ∧ w'.cell? ⟨b2, o2 + j, none⟩ = some (.slice r2 2 s2)
              -- tail s0: hupR.out _ (Below.drew hBr)
              -- arm 8: go_at_call 20; (with_reducible refine (hsm.out r1 r2 s1 s2 x y _ (hI1H.out.below (Below.drew hBr)) (hI2H.out.below (Below.drew hBr))).mono ?_); rintro e w10 ⟨rfl, hb⟩; have hq10 : Below wr.heap.size wr w10 := bseqT (Below.drew hBr) hb; clear hb
              -- arm 8 s: hupR.out _ hq10
              -- tail zz1 0 1 2 3 4 5 6 7 c8 9
              refine wp_region_tail (fun w' => w'.cell? ⟨b1, o1 + j, none⟩ = some (.slice r1 2 s1) ∧ w'.cell? ⟨b2, o2 + j, none⟩ = some (.slice r2 2 s2)) (fun j => decide (1000 ≤ j)) (by kernel_rfl) (hupR.out _ (Below.drew hBr)) (fun hHeld => ?_)
              refine wpAnyT_take (i := 0) (oi := ?oizz10) (v := ?vzz10) ?hozz10 (by kernel_rfl) (by kernel_rfl) (by kernel_rfl) (by kernel_rfl) ?hqzz10 (Or.inl ⟨?hwzz10, ?hyzz10⟩) (by assumption) ?_
              case hozz10 => rfl
              case hwzz10 => rfl
              case hyzz10 => (intro w hSw; (try dsimp only at hSw); go_split_ands; go_simp; (try (with_reducible rfl)))
              case hqzz10 => exact fun _ _ _ h => h
              simp only [Act.put, List.getElem_toArray, List.getElem_cons_zero, List.setIfInBounds_toArray, List.set_cons_zero, List.set_cons_succ]
              refine wpAnyT_take (i := 1) (oi := ?oizz11) (v := ?vzz11) ?hozz11 (by kernel_rfl) (by kernel_rfl) (by kernel_rfl) (by kernel_rfl) ?hqzz11 (Or.inl ⟨?hwzz11, ?hyzz11⟩) (by assumption) ?_
              case hozz11 => rfl
              case hwzz11 => rfl
              case hyzz11 => (intro w hSw; (try dsimp only at hSw); go_split_ands; go_simp; (try (with_reducible rfl)))
              case hqzz11 => exact fun _ _ _ h => h
              simp only [Act.put, List.getElem_toArray, List.getElem_cons_succ, List.getElem_cons_zero, List.setIfInBounds_toArray, List.set_cons_zero, List.set_cons_succ]
              refine wpAnyT_take (i := 2) (oi := ?oizz12) (v := ?vzz12) ?hozz12 (by kernel_rfl) (by kernel_rfl) (by kernel_rfl) (by kernel_rfl) ?hqzz12 (Or.inl ⟨?hwzz12, ?hyzz12⟩) (by assumption) ?_
              case hozz12 => rfl
              case hwzz12 => rfl
              case hyzz12 => (intro w hSw; (try dsimp only at hSw); go_split_ands; go_simp; (try (with_reducible rfl)))
              case hqzz12 => exact fun _ _ _ h => h
              simp only [Act.put, List.getElem_toArray, List.getElem_cons_succ, List.getElem_cons_zero, List.setIfInBounds_toArray, List.set_cons_zero, List.set_cons_succ]
              refine wpAnyT_take (i := 3) (oi := ?oizz13) (v := ?vzz13) ?hozz13 (by kernel_rfl) (by kernel_rfl) (by kernel_rfl) (by kernel_rfl) ?hqzz13 (Or.inl ⟨?hwzz13, ?hyzz13⟩) (by assumption) ?_
              case hozz13 => rfl
              case hwzz13 => rfl
              case hyzz13 => (intro w hSw; (try dsimp only at hSw); go_split_ands; go_simp; (try (with_reducible rfl)))
              case hqzz13 => exact fun _ _ _ h => h
              simp only [Act.put, List.getElem_toArray, List.getElem_cons_succ, List.getElem_cons_zero, List.setIfInBounds_toArray, List.set_cons_zero, List.set_cons_succ]
              refine wpAnyT_take (i := 4) (oi := ?oizz14) (v := ?vzz14) ?hozz14 (by kernel_rfl) (by kernel_rfl) (by kernel_rfl) (by kernel_rfl) ?hqzz14 (Or.inl ⟨?hwzz14, ?hyzz14⟩) (by assumption) ?_
              case hozz14 => rfl
              case hwzz14 => rfl
              case hyzz14 => (intro w hSw; (try dsimp only at hSw); go_split_ands; go_simp; (try (with_reducible rfl)))
              case hqzz14 => exact fun _ _ _ h => h
              simp only [Act.put, List.getElem_toArray, List.getElem_cons_succ, List.getElem_cons_zero, List.setIfInBounds_toArray, List.set_cons_zero, List.set_cons_succ]
              refine wpAnyT_take (i := 5) (oi := ?oizz15) (v := ?vzz15) ?hozz15 (by kernel_rfl) (by kernel_rfl) (by kernel_rfl) (by kernel_rfl) ?hqzz15 (Or.inl ⟨?hwzz15, ?hyzz15⟩) (by assumption) ?_
              case hozz15 => rfl
              case hwzz15 => rfl
              case hyzz15 => (intro w hSw; (try dsimp only at hSw); go_split_ands; go_simp; (try (with_reducible rfl)))
              case hqzz15 => exact fun _ _ _ h => h
              simp only [Act.put, List.getElem_toArray, List.getElem_cons_succ, List.getElem_cons_zero, List.setIfInBounds_toArray, List.set_cons_zero, List.set_cons_succ]
              refine wpAnyT_take (i := 6) (oi := ?oizz16) (v := ?vzz16) ?hozz16 (by kernel_rfl) (by kernel_rfl) (by kernel_rfl) (by kernel_rfl) ?hqzz16 (Or.inl ⟨?hwzz16, ?hyzz16⟩) (by assumption) ?_
              case hozz16 => rfl
              case hwzz16 => rfl
              case hyzz16 => (intro w hSw; (try dsimp only at hSw); go_split_ands; go_simp; (try (with_reducible rfl)))
              case hqzz16 => exact fun _ _ _ h => h
              simp only [Act.put, List.getElem_toArray, List.getElem_cons_succ, List.getElem_cons_zero, List.setIfInBounds_toArray, List.set_cons_zero, List.set_cons_succ]
              refine wpAnyT_take (i := 7) (oi := ?oizz17) (v := ?vzz17) ?hozz17 (by kernel_rfl) (by kernel_rfl) (by kernel_rfl) (by kernel_rfl) ?hqzz17 (Or.inl ⟨?hwzz17, ?hyzz17⟩) (by assumption) ?_
              case hozz17 => rfl
              case hwzz17 => rfl
              case hyzz17 => (intro w hSw; (try dsimp only at hSw); go_split_ands; go_simp; (try (with_reducible rfl)))
              case hqzz17 => exact fun _ _ _ h => h
              simp only [Act.put, List.getElem_toArray, List.getElem_cons_succ, List.getElem_cons_zero, List.setIfInBounds_toArray, List.set_cons_zero, List.set_cons_succ]
              refine wpAnyT_one (i := 8) (o := ?oizz18) (by kernel_rfl) ?hozz18 (fun K hK => ?_)
              case hozz18 => rfl
              rw [if_pos (by rfl)]
              go_simp
              go_at_call 20; (with_reducible refine (hsm.out r1 r2 s1 s2 x y _ (hI1H.out.below (Below.drew hBr)) (hI2H.out.below (Below.drew hBr))).mono ?_); rintro e w10 ⟨rfl, hb⟩; have hq10 : Below wr.heap.size wr w10 := bseqT (Below.drew hBr) hb; clear hb
              (try go_wp2_with (fail))
              refine hK.out _ _ (fun _ => hupR.out _ hq10) (fun hHeld => ?_)
              replace hHeld := hHeld rfl
              clear hK K
              refine wpAnyT_take (i := 9) (oi := ?oizz19) (v := ?vzz19) ?hozz19 (by kernel_rfl) (by kernel_rfl) (by kernel_rfl) (by kernel_rfl) ?hqzz19 (Or.inl ⟨?hwzz19, ?hyzz19⟩) (by assumption) ?_
              case hozz19 => rfl
              case hwzz19 => rfl
              case hyzz19 => (intro w hSw; (try dsimp only at hSw); go_split_ands; go_simp; (try (with_reducible rfl)))
              case hqzz19 => exact fun _ _ _ h => h
              simp only [Act.put, List.getElem_toArray, List.getElem_cons_succ, List.getElem_cons_zero, List.setIfInBounds_toArray, List.set_cons_zero, List.set_cons_succ]
              refine wpAnyT_done (by kernel_rfl) ?_ _
              -- tail end
              go_wp2_with (fail)
              go_roundw
              case rel => exact ⟨j + 1, by go_num, by omega, bseqT hblH.out hq10⟩
              case measure => simp [intOf]; omega
            · have hjI : ¬ (j : Int) < (N : Int) := by omega
              go_wp2_with (fail)
              go_ret
              exact ⟨rfl, bseqT hbVH.out (bseqT hq9.out hblH.out)⟩
    · skip
      clear hMn
      go_enter Tryz.func4, Tryz.ntmps4
      go_upto_region 1 with (fail)
      rw [← hVH.out]
      go_upto_region 5 with (at_builtin; go_loud (refine wpList_append_ze _ rfl (.tmp 22) (.tmp 28) _ rfl Tryz.underlying23 V.heap.size 0 _ [] (by rfl) (ZE.lit _ _ _) rfl (some ⟨b, oo, st⟩) M _ ys (by rfl) (hYH.out.below (bseqT hbVH.out (below_al (Below.refl _ _) _))) hylH.out (by omega) (by omega) (by simp) ?_); intro v1 x1 hA1; rw [List.nil_append] at hA1; obtain ⟨a1, d1, hv1⟩ := hA1.1.shape; rw [hylH.out] at hv1; subst hv1; have hZ1 := Lib.hid hA1.1.iz; have hq1 := Lib.hid ((below_al (Below.refl _ _) _).trans hA1.2.1); obtain ⟨g0, g1⟩ := hup.out _ hq1.out; clear hA1)
      go_wp2_with (first
        | (go_at_call 17; (with_reducible refine (htr.out _ _ _ hZ1.out.1).mono ?_); rintro e w2 ⟨a2, c2, rfl, hl, hb⟩; have hq2 := Lib.hid (bseqT hq1.out hb); obtain ⟨g2, g3⟩ := hup.out _ hq2.out; have hq12 := Lib.hid hb; have hlH := Lib.hid hl; clear hl; clear hb)
        | (go_at_call 18; (with_reducible refine (hfr.out _).mono ?_); rintro e w3 ⟨rfl, hb⟩; have hq3 := Lib.hid hb; clear hb))
      have hw23 := hq3.out
      subst hw23
      go_loopw [12, 11] (fun iv ev wr => ∃ i : Nat, iv = .int .i64 (i : Nat) ∧ i ≤ M ∧ wr = w2 ∧ ev = .int .i64 0) (fun iv _ _ => M - (intOf iv).toNat)
      case atStart => exact ⟨0, rfl, by omega, rfl, rfl⟩
      case round =>
        obtain ⟨i, rfl, hi, rfl, rfl⟩ := hrel
        by_cases hiM' : i < M
        · have hiM : (i : Int) < (M : Int) := by omega
          have hiM0 : (0 : Int) ≤ (i : Int) := by omega
          obtain ⟨x, hx⟩ : ∃ x, ys[i]? = some x := ⟨_, List.getElem?_eq_getElem (by rw [hylH.out]; omega)⟩
          obtain ⟨bz, oz, haz, cz⟩ := (hZ1.out.1.below hq12.out) i x hx
          subst haz
          have hxr := hallH.out x (List.mem_of_getElem? hx)
          have h1B : decide (x < 1) = false := decide_eq_false (by omega)
          have h2B : decide (1000 < x) = false := decide_eq_false (by omega)
          clear hx hxr
          go_wp2_with (fail)
          go_roundw
          case rel => exact ⟨i + 1, by go_num, by omega, by trivial, by trivial⟩
          case measure => simp [intOf]; omega
        · have hiM : ¬ (i : Int) < (M : Int) := by omega
          go_wp2_with (first
            | (go_at_call 19; (with_reducible refine (htr2.out _ _ _ (hZ1.out.1.below hq12.out)).mono ?_); rintro e w4 ⟨a4, c4, rfl, hl, hb⟩; have hl4H := Lib.hid hl; have hlH4 := Lib.hid (hlH.out.below hb); have hq4 := Lib.hid (bseqT hq2.out hb); clear hl hb)
            | (go_at_call 7; (with_reducible refine (lives_any _).mono ?_); rintro e w9 ⟨rfl, hb⟩; have hq49 := Lib.hid hb; have hq9 := Lib.hid (bseqT hq4.out hb); clear hb))
          have hb49 : Below w4.heap.size w4 w9 := hq49.out
          have hA := Lib.hid (hlH4.out.below hb49)
          have hB := Lib.hid (hl4H.out.below hb49)
          clear hb49
          go_loopw [14] (fun jv wr => ∃ j : Nat, jv = .int .i64 (j : Nat) ∧ j ≤ N ∧ Below w9.heap.size w9 wr) (fun jv _ => N - (intOf jv).toNat)
          case atStart => exact ⟨0, rfl, by omega, Below.refl _ _⟩
          case round =>
            obtain ⟨j, rfl, hj, hbl⟩ := hrel
            have hblH := Lib.hid hbl
            clear hbl
            by_cases hjN : j < N
            · have hjI : (j : Int) < (N : Int) := by omega
              have hj0 : (0 : Int) ≤ (j : Int) := by omega
              obtain ⟨x, y, hxy⟩ := htH.out j hjN
              obtain ⟨b1, o1, r1, s1, ha1, y1, _, hI1⟩ := (hA.out.below hblH.out).row hxy
              obtain ⟨b2, o2, r2, s2, ha2, y2, _, hI2⟩ := (hB.out.below hblH.out).row hxy
              have y1' : wr.cell? ⟨b1, o1 + j, none⟩ = some (.slice r1 2 s1) := y1
              have y2' : wr.cell? ⟨b2, o2 + j, none⟩ = some (.slice r2 2 s2) := y2
              have hI1H := Lib.hid hI1
              have hI2H := Lib.hid hI2
              have hBr : Below wr.heap.size wr wr := Below.refl _ _
              have hupR : Hid (∀ w', Below wr.heap.size wr w' → w'.cell? ⟨b1, o1 + j, none⟩ = some (.slice r1 2 s1) ∧ w'.cell? ⟨b2, o2 + j, none⟩ = some (.slice r2 2 s2)) := fun w' hW => ⟨Below.cellAt hW (Nat.le_refl _) y1', Below.cellAt hW (Nat.le_refl _) y2'⟩
              clear y1 y2 hI1 hI2 hxy
              have ha1H := Lib.hid ha1
              have ha2H := Lib.hid ha2
              subst ha1
              subst ha2
              go_upto_region 24 with (fail)
              -- tail S: fun w' => w'.cell? ⟨b1, o1 + j, none⟩ = some (.slice r1 2 s1) ∧ w'.cell? ⟨b2, o2 + j, none⟩ = some (.slice r2 2 s2)
              -- tail s0: hupR.out _ (Below.drew hBr)
              -- arm 8: go_at_call 20; (with_reducible refine (hsm.out r1 r2 s1 s2 x y _ (hI1H.out.below (Below.drew hBr)) (hI2H.out.below (Below.drew hBr))).mono ?_); rintro e w10 ⟨rfl, hb⟩; have hq10 : Below wr.heap.size wr w10 := bseqT (Below.drew hBr) hb; clear hb
              -- arm 8 s: hupR.out _ hq10
              -- tail zz2 0 1 2 3 4 5 6 7 c8 9
              refine wp_region_tail (fun w' => w'.cell? ⟨b1, o1 + j, none⟩ = some (.slice r1 2 s1) ∧ w'.cell? ⟨b2, o2 + j, none⟩ = some (.slice r2 2 s2)) (fun j => decide (1000 ≤ j)) (by kernel_rfl) (hupR.out _ (Below.drew hBr)) (fun hHeld => ?_)
              refine wpAnyT_take (i := 0) (oi := ?oizz20) (v := ?vzz20) ?hozz20 (by kernel_rfl) (by kernel_rfl) (by kernel_rfl) (by kernel_rfl) ?hqzz20 (Or.inl ⟨?hwzz20, ?hyzz20⟩) (by assumption) ?_
              case hozz20 => rfl
              case hwzz20 => rfl
              case hyzz20 => (intro w hSw; (try dsimp only at hSw); go_split_ands; go_simp; (try (with_reducible rfl)))
              case hqzz20 => exact fun _ _ _ h => h
              simp only [Act.put, List.getElem_toArray, List.getElem_cons_zero, List.setIfInBounds_toArray, List.set_cons_zero, List.set_cons_succ]
              refine wpAnyT_take (i := 1) (oi := ?oizz21) (v := ?vzz21) ?hozz21 (by kernel_rfl) (by kernel_rfl) (by kernel_rfl) (by kernel_rfl) ?hqzz21 (Or.inl ⟨?hwzz21, ?hyzz21⟩) (by assumption) ?_
              case hozz21 => rfl
              case hwzz21 => rfl
              case hyzz21 => (intro w hSw; (try dsimp only at hSw); go_split_ands; go_simp; (try (with_reducible rfl)))
              case hqzz21 => exact fun _ _ _ h => h
              simp only [Act.put, List.getElem_toArray, List.getElem_cons_succ, List.getElem_cons_zero, List.setIfInBounds_toArray, List.set_cons_zero, List.set_cons_succ]
              refine wpAnyT_take (i := 2) (oi := ?oizz22) (v := ?vzz22) ?hozz22 (by kernel_rfl) (by kernel_rfl) (by kernel_rfl) (by kernel_rfl) ?hqzz22 (Or.inl ⟨?hwzz22, ?hyzz22⟩) (by assumption) ?_
              case hozz22 => rfl
              case hwzz22 => rfl
              case hyzz22 => (intro w hSw; (try dsimp only at hSw); go_split_ands; go_simp; (try (with_reducible rfl)))
              case hqzz22 => exact fun _ _ _ h => h
              simp only [Act.put, List.getElem_toArray, List.getElem_cons_succ, List.getElem_cons_zero, List.setIfInBounds_toArray, List.set_cons_zero, List.set_cons_succ]
              refine wpAnyT_take (i := 3) (oi := ?oizz23) (v := ?vzz23) ?hozz23 (by kernel_rfl) (by kernel_rfl) (by kernel_rfl) (by kernel_rfl) ?hqzz23 (Or.inl ⟨?hwzz23, ?hyzz23⟩) (by assumption) ?_
              case hozz23 => rfl
              case hwzz23 => rfl
              case hyzz23 => (intro w hSw; (try dsimp only at hSw); go_split_ands; go_simp; (try (with_reducible rfl)))
              case hqzz23 => exact fun _ _ _ h => h
              simp only [Act.put, List.getElem_toArray, List.getElem_cons_succ, List.getElem_cons_zero, List.setIfInBounds_toArray, List.set_cons_zero, List.set_cons_succ]
              refine wpAnyT_take (i := 4) (oi := ?oizz24) (v := ?vzz24) ?hozz24 (by kernel_rfl) (by kernel_rfl) (by kernel_rfl) (by kernel_rfl) ?hqzz24 (Or.inl ⟨?hwzz24, ?hyzz24⟩) (by assumption) ?_
              case hozz24 => rfl
              case hwzz24 => rfl
              case hyzz24 => (intro w hSw; (try dsimp only at hSw); go_split_ands; go_simp; (try (with_reducible rfl)))
              case hqzz24 => exact fun _ _ _ h => h
              simp only [Act.put, List.getElem_toArray, List.getElem_cons_succ, List.getElem_cons_zero, List.setIfInBounds_toArray, List.set_cons_zero, List.set_cons_succ]
              refine wpAnyT_take (i := 5) (oi := ?oizz25) (v := ?vzz25) ?hozz25 (by kernel_rfl) (by kernel_rfl) (by kernel_rfl) (by kernel_rfl) ?hqzz25 (Or.inl ⟨?hwzz25, ?hyzz25⟩) (by assumption) ?_
              case hozz25 => rfl
              case hwzz25 => rfl
              case hyzz25 => (intro w hSw; (try dsimp only at hSw); go_split_ands; go_simp; (try (with_reducible rfl)))
              case hqzz25 => exact fun _ _ _ h => h
              simp only [Act.put, List.getElem_toArray, List.getElem_cons_succ, List.getElem_cons_zero, List.setIfInBounds_toArray, List.set_cons_zero, List.set_cons_succ]
              refine wpAnyT_take (i := 6) (oi := ?oizz26) (v := ?vzz26) ?hozz26 (by kernel_rfl) (by kernel_rfl) (by kernel_rfl) (by kernel_rfl) ?hqzz26 (Or.inl ⟨?hwzz26, ?hyzz26⟩) (by assumption) ?_
              case hozz26 => rfl
              case hwzz26 => rfl
              case hyzz26 => (intro w hSw; (try dsimp only at hSw); go_split_ands; go_simp; (try (with_reducible rfl)))
              case hqzz26 => exact fun _ _ _ h => h
              simp only [Act.put, List.getElem_toArray, List.getElem_cons_succ, List.getElem_cons_zero, List.setIfInBounds_toArray, List.set_cons_zero, List.set_cons_succ]
              refine wpAnyT_take (i := 7) (oi := ?oizz27) (v := ?vzz27) ?hozz27 (by kernel_rfl) (by kernel_rfl) (by kernel_rfl) (by kernel_rfl) ?hqzz27 (Or.inl ⟨?hwzz27, ?hyzz27⟩) (by assumption) ?_
              case hozz27 => rfl
              case hwzz27 => rfl
              case hyzz27 => (intro w hSw; (try dsimp only at hSw); go_split_ands; go_simp; (try (with_reducible rfl)))
              case hqzz27 => exact fun _ _ _ h => h
              simp only [Act.put, List.getElem_toArray, List.getElem_cons_succ, List.getElem_cons_zero, List.setIfInBounds_toArray, List.set_cons_zero, List.set_cons_succ]
              refine wpAnyT_one (i := 8) (o := ?oizz28) (by kernel_rfl) ?hozz28 (fun K hK => ?_)
              case hozz28 => rfl
              rw [if_pos (by rfl)]
              go_simp
              go_at_call 20; (with_reducible refine (hsm.out r1 r2 s1 s2 x y _ (hI1H.out.below (Below.drew hBr)) (hI2H.out.below (Below.drew hBr))).mono ?_); rintro e w10 ⟨rfl, hb⟩; have hq10 : Below wr.heap.size wr w10 := bseqT (Below.drew hBr) hb; clear hb
              (try go_wp2_with (fail))
              refine hK.out _ _ (fun _ => hupR.out _ hq10) (fun hHeld => ?_)
              replace hHeld := hHeld rfl
              clear hK K
              refine wpAnyT_take (i := 9) (oi := ?oizz29) (v := ?vzz29) ?hozz29 (by kernel_rfl) (by kernel_rfl) (by kernel_rfl) (by kernel_rfl) ?hqzz29 (Or.inl ⟨?hwzz29, ?hyzz29⟩) (by assumption) ?_
              case hozz29 => rfl
              case hwzz29 => rfl
              case hyzz29 => (intro w hSw; (try dsimp only at hSw); go_split_ands; go_simp; (try (with_reducible rfl)))
              case hqzz29 => exact fun _ _ _ h => h
              simp only [Act.put, List.getElem_toArray, List.getElem_cons_succ, List.getElem_cons_zero, List.setIfInBounds_toArray, List.set_cons_zero, List.set_cons_succ]
              refine wpAnyT_done (by kernel_rfl) ?_ _
              -- tail end
              go_wp2_with (fail)
              go_roundw
              case rel => exact ⟨j + 1, by go_num, by omega, bseqT hblH.out hq10⟩
              case measure => simp [intOf]; omega
            · have hjI : ¬ (j : Int) < (N : Int) := by omega
              go_wp2_with (fail)
              go_ret
              exact ⟨rfl, bseqT hbVH.out (bseqT hq9.out hblH.out)⟩
  · subst hmo
    have hmin2 : min (n : Int) 11 = (M : Int) := by omega
    clear hmin
    have hnB : ¬ (n : Int) ≤ 10 := by omega
    have hnB2 : decide ((n : Int) ≤ 10) = false := decide_eq_false hnB
    have hnB3 : decide (n ≤ 10) = false := decide_eq_false (by omega)
    subst hk
    clear hk3
    exfalso; omega
  · subst hmo
    have hmin2 : min (n : Int) 7 = (M : Int) := by omega
    clear hmin
    have hnB : (n : Int) ≤ 10 := by omega
    have hnB2 : decide ((n : Int) ≤ 10) = true := decide_eq_true hnB
    have hnB3 : decide (n ≤ 10) = true := decide_eq_true hn10
    subst hk
    clear hk3
    rcases ao with _ | ⟨b, oo, st⟩
    · skip
      have hMM := hMn.out rfl
      subst hMM
      clear hMn
      go_enter Tryz.func4, Tryz.ntmps4
      go_upto_region 1 with (fail)
      rw [← hVH.out]
      have hK6 : ¬ (M : Int) < 6 := by omega
      clear hMK hK2
      go_upto_region 5 with (at_builtin; go_loud (refine wpList_append_ze _ rfl (.tmp 22) (.tmp 28) _ rfl Tryz.underlying23 V.heap.size 0 _ [] (by rfl) (ZE.lit _ _ _) rfl none M _ ys (by rfl) (hYH.out.below (bseqT hbVH.out (below_al (Below.refl _ _) _))) hylH.out (by omega) (by omega) (by simp) ?_); intro v1 x1 hA1; rw [List.nil_append] at hA1; obtain ⟨a1, d1, hv1⟩ := hA1.1.shape; rw [hylH.out] at hv1; subst hv1; have hZ1 := Lib.hid hA1.1.iz; have hq1 := Lib.hid ((below_al (Below.refl _ _) _).trans hA1.2.1); obtain ⟨g0, g1⟩ := hup.out _ hq1.out; clear hA1)
      go_wp2_with (first
        | (go_at_call 17; (with_reducible refine (htr.out _ _ _ hZ1.out.1).mono ?_); rintro e w2 ⟨a2, c2, rfl, hl, hb⟩; have hq2 := Lib.hid (bseqT hq1.out hb); obtain ⟨g2, g3⟩ := hup.out _ hq2.out; have hq12 := Lib.hid hb; have hlH := Lib.hid hl; clear hl; clear hb)
        | (go_at_call 18; (with_reducible refine (hfr.out _).mono ?_); rintro e w3 ⟨rfl, hb⟩; have hq3 := Lib.hid hb; clear hb))
      have hw23 := hq3.out
      subst hw23
      go_loopw [12, 11] (fun iv ev wr => ∃ i : Nat, iv = .int .i64 (i : Nat) ∧ i ≤ M ∧ wr = w2 ∧ ev = .int .i64 0) (fun iv _ _ => M - (intOf iv).toNat)
      case atStart => exact ⟨0, rfl, by omega, rfl, rfl⟩
      case round =>
        obtain ⟨i, rfl, hi, rfl, rfl⟩ := hrel
        by_cases hiM' : i < M
        · have hiM : (i : Int) < (M : Int) := by omega
          have hiM0 : (0 : Int) ≤ (i : Int) := by omega
          obtain ⟨x, hx⟩ : ∃ x, ys[i]? = some x := ⟨_, List.getElem?_eq_getElem (by rw [hylH.out]; omega)⟩
          obtain ⟨bz, oz, haz, cz⟩ := (hZ1.out.1.below hq12.out) i x hx
          subst haz
          have hxr := hallH.out x (List.mem_of_getElem? hx)
          have h1B : decide (x < 1) = false := decide_eq_false (by omega)
          have h2B : decide (1000 < x) = false := decide_eq_false (by omega)
          clear hx hxr
          go_wp2_with (fail)
          go_roundw
          case rel => exact ⟨i + 1, by go_num, by omega, by trivial, by trivial⟩
          case measure => simp [intOf]; omega
        · have hiM : ¬ (i : Int) < (M : Int) := by omega
          go_wp2_with (first
            | (go_at_call 19; (with_reducible refine (htr2.out _ _ _ (hZ1.out.1.below hq12.out)).mono ?_); rintro e w4 ⟨a4, c4, rfl, hl, hb⟩; have hl4H := Lib.hid hl; have hlH4 := Lib.hid (hlH.out.below hb); have hq4 := Lib.hid (bseqT hq2.out hb); clear hl hb)
            | (go_at_call 7; (with_reducible refine (lives_any _).mono ?_); rintro e w9 ⟨rfl, hb⟩; have hq49 := Lib.hid hb; have hq9 := Lib.hid (bseqT hq4.out hb); clear hb))
          have hb49 : Below w4.heap.size w4 w9 := hq49.out
          have hA := Lib.hid (hlH4.out.below hb49)
          have hB := Lib.hid (hl4H.out.below hb49)
          clear hb49
          go_loopw [14] (fun jv wr => ∃ j : Nat, jv = .int .i64 (j : Nat) ∧ j ≤ N ∧ Below w9.heap.size w9 wr) (fun jv _ => N - (intOf jv).toNat)
          case atStart => exact ⟨0, rfl, by omega, Below.refl _ _⟩
          case round =>
            obtain ⟨j, rfl, hj, hbl⟩ := hrel
            have hblH := Lib.hid hbl
            clear hbl
            by_cases hjN : j < N
            · have hjI : (j : Int) < (N : Int) := by omega
              have hj0 : (0 : Int) ≤ (j : Int) := by omega
              obtain ⟨x, y, hxy⟩ := htH.out j hjN
              obtain ⟨b1, o1, r1, s1, ha1, y1, _, hI1⟩ := (hA.out.below hblH.out).row hxy
              obtain ⟨b2, o2, r2, s2, ha2, y2, _, hI2⟩ := (hB.out.below hblH.out).row hxy
              have y1' : wr.cell? ⟨b1, o1 + j, none⟩ = some (.slice r1 2 s1) := y1
              have y2' : wr.cell? ⟨b2, o2 + j, none⟩ = some (.slice r2 2 s2) := y2
              have hI1H := Lib.hid hI1
              have hI2H := Lib.hid hI2
              have hBr : Below wr.heap.size wr wr := Below.refl _ _
              have hupR : Hid (∀ w', Below wr.heap.size wr w' → w'.cell? ⟨b1, o1 + j, none⟩ = some (.slice r1 2 s1) ∧ w'.cell? ⟨b2, o2 + j, none⟩ = some (.slice r2 2 s2)) := fun w' hW => ⟨Below.cellAt hW (Nat.le_refl _) y1', Below.cellAt hW (Nat.le_refl _) y2'⟩
              clear y1 y2 hI1 hI2 hxy
              have ha1H := Lib.hid ha1
              have ha2H := Lib.hid ha2
              subst ha1
              subst ha2
              go_upto_region 24 with (fail)
              -- tail S: fun w' => w'.cell? ⟨b1, o1 + j, none⟩ = some (.slice r1 2 s1) ∧ w'.cell? ⟨b2, o2 + j, none⟩ = some (.slice r2 2 s2)
              -- tail s0: hupR.out _ (Below.drew hBr)
              -- arm 8: go_at_call 20; (with_reducible refine (hsm.out r1 r2 s1 s2 x y _ (hI1H.out.below (Below.drew hBr)) (hI2H.out.below (Below.drew hBr))).mono ?_); rintro e w10 ⟨rfl, hb⟩; have hq10 : Below wr.heap.size wr w10 := bseqT (Below.drew hBr) hb; clear hb
              -- arm 8 s: hupR.out _ hq10
              -- tail zz3 0 1 2 3 4 5 6 7 c8 9
              refine wp_region_tail (fun w' => w'.cell? ⟨b1, o1 + j, none⟩ = some (.slice r1 2 s1) ∧ w'.cell? ⟨b2, o2 + j, none⟩ = some (.slice r2 2 s2)) (fun j => decide (1000 ≤ j)) (by kernel_rfl) (hupR.out _ (Below.drew hBr)) (fun hHeld => ?_)
              refine wpAnyT_take (i := 0) (oi := ?oizz30) (v := ?vzz30) ?hozz30 (by kernel_rfl) (by kernel_rfl) (by kernel_rfl) (by kernel_rfl) ?hqzz30 (Or.inl ⟨?hwzz30, ?hyzz30⟩) (by assumption) ?_
              case hozz30 => rfl
              case hwzz30 => rfl
              case hyzz30 => (intro w hSw; (try dsimp only at hSw); go_split_ands; go_simp; (try (with_reducible rfl)))
              case hqzz30 => exact fun _ _ _ h => h
              simp only [Act.put, List.getElem_toArray, List.getElem_cons_zero, List.setIfInBounds_toArray, List.set_cons_zero, List.set_cons_succ]
              refine wpAnyT_take (i := 1) (oi := ?oizz31) (v := ?vzz31) ?hozz31 (by kernel_rfl) (by kernel_rfl) (by kernel_rfl) (by kernel_rfl) ?hqzz31 (Or.inl ⟨?hwzz31, ?hyzz31⟩) (by assumption) ?_
              case hozz31 => rfl
              case hwzz31 => rfl
              case hyzz31 => (intro w hSw; (try dsimp only at hSw); go_split_ands; go_simp; (try (with_reducible rfl)))
              case hqzz31 => exact fun _ _ _ h => h
              simp only [Act.put, List.getElem_toArray, List.getElem_cons_succ, List.getElem_cons_zero, List.setIfInBounds_toArray, List.set_cons_zero, List.set_cons_succ]
              refine wpAnyT_take (i := 2) (oi := ?oizz32) (v := ?vzz32) ?hozz32 (by kernel_rfl) (by kernel_rfl) (by kernel_rfl) (by kernel_rfl) ?hqzz32 (Or.inl ⟨?hwzz32, ?hyzz32⟩) (by assumption) ?_
              case hozz32 => rfl
              case hwzz32 => rfl
              case hyzz32 => (intro w hSw; (try dsimp only at hSw); go_split_ands; go_simp; (try (with_reducible rfl)))
              case hqzz32 => exact fun _ _ _ h => h
              simp only [Act.put, List.getElem_toArray, List.getElem_cons_succ, List.getElem_cons_zero, List.setIfInBounds_toArray, List.set_cons_zero, List.set_cons_succ]
              refine wpAnyT_take (i := 3) (oi := ?oizz33) (v := ?vzz33) ?hozz33 (by kernel_rfl) (by kernel_rfl) (by kernel_rfl) (by kernel_rfl) ?hqzz33 (Or.inl ⟨?hwzz33, ?hyzz33⟩) (by assumption) ?_
              case hozz33 => rfl
              case hwzz33 => rfl
              case hyzz33 => (intro w hSw; (try dsimp only at hSw); go_split_ands; go_simp; (try (with_reducible rfl)))
              case hqzz33 => exact fun _ _ _ h => h
              simp only [Act.put, List.getElem_toArray, List.getElem_cons_succ, List.getElem_cons_zero, List.setIfInBounds_toArray, List.set_cons_zero, List.set_cons_succ]
              refine wpAnyT_take (i := 4) (oi := ?oizz34) (v := ?vzz34) ?hozz34 (by kernel_rfl) (by kernel_rfl) (by kernel_rfl) (by kernel_rfl) ?hqzz34 (Or.inl ⟨?hwzz34, ?hyzz34⟩) (by assumption) ?_
              case hozz34 => rfl
              case hwzz34 => rfl
              case hyzz34 => (intro w hSw; (try dsimp only at hSw); go_split_ands; go_simp; (try (with_reducible rfl)))
              case hqzz34 => exact fun _ _ _ h => h
              simp only [Act.put, List.getElem_toArray, List.getElem_cons_succ, List.getElem_cons_zero, List.setIfInBounds_toArray, List.set_cons_zero, List.set_cons_succ]
              refine wpAnyT_take (i := 5) (oi := ?oizz35) (v := ?vzz35) ?hozz35 (by kernel_rfl) (by kernel_rfl) (by kernel_rfl) (by kernel_rfl) ?hqzz35 (Or.inl ⟨?hwzz35, ?hyzz35⟩) (by assumption) ?_
              case hozz35 => rfl
              case hwzz35 => rfl
              case hyzz35 => (intro w hSw; (try dsimp only at hSw); go_split_ands; go_simp; (try (with_reducible rfl)))
              case hqzz35 => exact fun _ _ _ h => h
              simp only [Act.put, List.getElem_toArray, List.getElem_cons_succ, List.getElem_cons_zero, List.setIfInBounds_toArray, List.set_cons_zero, List.set_cons_succ]
              refine wpAnyT_take (i := 6) (oi := ?oizz36) (v := ?vzz36) ?hozz36 (by kernel_rfl) (by kernel_rfl) (by kernel_rfl) (by kernel_rfl) ?hqzz36 (Or.inl ⟨?hwzz36, ?hyzz36⟩) (by assumption) ?_
              case hozz36 => rfl
              case hwzz36 => rfl
              case hyzz36 => (intro w hSw; (try dsimp only at hSw); go_split_ands; go_simp; (try (with_reducible rfl)))
              case hqzz36 => exact fun _ _ _ h => h
              simp only [Act.put, List.getElem_toArray, List.getElem_cons_succ, List.getElem_cons_zero, List.setIfInBounds_toArray, List.set_cons_zero, List.set_cons_succ]
              refine wpAnyT_take (i := 7) (oi := ?oizz37) (v := ?vzz37) ?hozz37 (by kernel_rfl) (by kernel_rfl) (by kernel_rfl) (by kernel_rfl) ?hqzz37 (Or.inl ⟨?hwzz37, ?hyzz37⟩) (by assumption) ?_
              case hozz37 => rfl
              case hwzz37 => rfl
              case hyzz37 => (intro w hSw; (try dsimp only at hSw); go_split_ands; go_simp; (try (with_reducible rfl)))
              case hqzz37 => exact fun _ _ _ h => h
              simp only [Act.put, List.getElem_toArray, List.getElem_cons_succ, List.getElem_cons_zero, List.setIfInBounds_toArray, List.set_cons_zero, List.set_cons_succ]
              refine wpAnyT_one (i := 8) (o := ?oizz38) (by kernel_rfl) ?hozz38 (fun K hK => ?_)
              case hozz38 => rfl
              rw [if_pos (by rfl)]
              go_simp
              go_at_call 20; (with_reducible refine (hsm.out r1 r2 s1 s2 x y _ (hI1H.out.below (Below.drew hBr)) (hI2H.out.below (Below.drew hBr))).mono ?_); rintro e w10 ⟨rfl, hb⟩; have hq10 : Below wr.heap.size wr w10 := bseqT (Below.drew hBr) hb; clear hb
              (try go_wp2_with (fail))
              refine hK.out _ _ (fun _ => hupR.out _ hq10) (fun hHeld => ?_)
              replace hHeld := hHeld rfl
              clear hK K
              refine wpAnyT_take (i := 9) (oi := ?oizz39) (v := ?vzz39) ?hozz39 (by kernel_rfl) (by kernel_rfl) (by kernel_rfl) (by kernel_rfl) ?hqzz39 (Or.inl ⟨?hwzz39, ?hyzz39⟩) (by assumption) ?_
              case hozz39 => rfl
              case hwzz39 => rfl
              case hyzz39 => (intro w hSw; (try dsimp only at hSw); go_split_ands; go_simp; (try (with_reducible rfl)))
              case hqzz39 => exact fun _ _ _ h => h
              simp only [Act.put, List.getElem_toArray, List.getElem_cons_succ, List.getElem_cons_zero, List.setIfInBounds_toArray, List.set_cons_zero, List.set_cons_succ]
              refine wpAnyT_done (by kernel_rfl) ?_ _
              -- tail end
              go_wp2_with (fail)
              go_roundw
              case rel => exact ⟨j + 1, by go_num, by omega, bseqT hblH.out hq10⟩
              case measure => simp [intOf]; omega
            · have hjI : ¬ (j : Int) < (N : Int) := by omega
              go_wp2_with (fail)
              go_ret
              exact ⟨rfl, bseqT hbVH.out (bseqT hq9.out hblH.out)⟩
    · skip
      clear hMn
      go_enter Tryz.func4, Tryz.ntmps4
      go_upto_region 1 with (fail)
      rw [← hVH.out]
      have hK6 : ¬ (M : Int) < 6 := by omega
      clear hMK hK2
      go_upto_region 5 with (at_builtin; go_loud (refine wpList_append_ze _ rfl (.tmp 22) (.tmp 28) _ rfl Tryz.underlying23 V.heap.size 0 _ [] (by rfl) (ZE.lit _ _ _) rfl (some ⟨b, oo, st⟩) M _ ys (by rfl) (hYH.out.below (bseqT hbVH.out (below_al (Below.refl _ _) _))) hylH.out (by omega) (by omega) (by simp) ?_); intro v1 x1 hA1; rw [List.nil_append] at hA1; obtain ⟨a1, d1, hv1⟩ := hA1.1.shape; rw [hylH.out] at hv1; subst hv1; have hZ1 := Lib.hid hA1.1.iz; have hq1 := Lib.hid ((below_al (Below.refl _ _) _).trans hA1.2.1); obtain ⟨g0, g1⟩ := hup.out _ hq1.out; clear hA1)
      go_wp2_with (first
        | (go_at_call 17; (with_reducible refine (htr.out _ _ _ hZ1.out.1).mono ?_); rintro e w2 ⟨a2, c2, rfl, hl, hb⟩; have hq2 := Lib.hid (bseqT hq1.out hb); obtain ⟨g2, g3⟩ := hup.out _ hq2.out; have hq12 := Lib.hid hb; have hlH := Lib.hid hl; clear hl; clear hb)
        | (go_at_call 18; (with_reducible refine (hfr.out _).mono ?_); rintro e w3 ⟨rfl, hb⟩; have hq3 := Lib.hid hb; clear hb))
      have hw23 := hq3.out
      subst hw23
      go_loopw [12, 11] (fun iv ev wr => ∃ i : Nat, iv = .int .i64 (i : Nat) ∧ i ≤ M ∧ wr = w2 ∧ ev = .int .i64 0) (fun iv _ _ => M - (intOf iv).toNat)
      case atStart => exact ⟨0, rfl, by omega, rfl, rfl⟩
      case round =>
        obtain ⟨i, rfl, hi, rfl, rfl⟩ := hrel
        by_cases hiM' : i < M
        · have hiM : (i : Int) < (M : Int) := by omega
          have hiM0 : (0 : Int) ≤ (i : Int) := by omega
          obtain ⟨x, hx⟩ : ∃ x, ys[i]? = some x := ⟨_, List.getElem?_eq_getElem (by rw [hylH.out]; omega)⟩
          obtain ⟨bz, oz, haz, cz⟩ := (hZ1.out.1.below hq12.out) i x hx
          subst haz
          have hxr := hallH.out x (List.mem_of_getElem? hx)
          have h1B : decide (x < 1) = false := decide_eq_false (by omega)
          have h2B : decide (1000 < x) = false := decide_eq_false (by omega)
          clear hx hxr
          go_wp2_with (fail)
          go_roundw
          case rel => exact ⟨i + 1, by go_num, by omega, by trivial, by trivial⟩
          case measure => simp [intOf]; omega
        · have hiM : ¬ (i : Int) < (M : Int) := by omega
          go_wp2_with (first
            | (go_at_call 19; (with_reducible refine (htr2.out _ _ _ (hZ1.out.1.below hq12.out)).mono ?_); rintro e w4 ⟨a4, c4, rfl, hl, hb⟩; have hl4H := Lib.hid hl; have hlH4 := Lib.hid (hlH.out.below hb); have hq4 := Lib.hid (bseqT hq2.out hb); clear hl hb)
            | (go_at_call 7; (with_reducible refine (lives_any _).mono ?_); rintro e w9 ⟨rfl, hb⟩; have hq49 := Lib.hid hb; have hq9 := Lib.hid (bseqT hq4.out hb); clear hb))
          have hb49 : Below w4.heap.size w4 w9 := hq49.out
          have hA := Lib.hid (hlH4.out.below hb49)
          have hB := Lib.hid (hl4H.out.below hb49)
          clear hb49
          go_loopw [14] (fun jv wr => ∃ j : Nat, jv = .int .i64 (j : Nat) ∧ j ≤ N ∧ Below w9.heap.size w9 wr) (fun jv _ => N - (intOf jv).toNat)
          case atStart => exact ⟨0, rfl, by omega, Below.refl _ _⟩
          case round =>
            obtain ⟨j, rfl, hj, hbl⟩ := hrel
            have hblH := Lib.hid hbl
            clear hbl
            by_cases hjN : j < N
            · have hjI : (j : Int) < (N : Int) := by omega
              have hj0 : (0 : Int) ≤ (j : Int) := by omega
              obtain ⟨x, y, hxy⟩ := htH.out j hjN
              obtain ⟨b1, o1, r1, s1, ha1, y1, _, hI1⟩ := (hA.out.below hblH.out).row hxy
              obtain ⟨b2, o2, r2, s2, ha2, y2, _, hI2⟩ := (hB.out.below hblH.out).row hxy
              have y1' : wr.cell? ⟨b1, o1 + j, none⟩ = some (.slice r1 2 s1) := y1
              have y2' : wr.cell? ⟨b2, o2 + j, none⟩ = some (.slice r2 2 s2) := y2
              have hI1H := Lib.hid hI1
              have hI2H := Lib.hid hI2
              have hBr : Below wr.heap.size wr wr := Below.refl _ _
              have hupR : Hid (∀ w', Below wr.heap.size wr w' → w'.cell? ⟨b1, o1 + j, none⟩ = some (.slice r1 2 s1) ∧ w'.cell? ⟨b2, o2 + j, none⟩ = some (.slice r2 2 s2)) := fun w' hW => ⟨Below.cellAt hW (Nat.le_refl _) y1', Below.cellAt hW (Nat.le_refl _) y2'⟩
              clear y1 y2 hI1 hI2 hxy
              have ha1H := Lib.hid ha1
              have ha2H := Lib.hid ha2
              subst ha1
              subst ha2
              go_upto_region 24 with (fail)
              -- tail S: fun w' => w'.cell? ⟨b1, o1 + j, none⟩ = some (.slice r1 2 s1) ∧ w'.cell? ⟨b2, o2 + j, none⟩ = some (.slice r2 2 s2)
              -- tail s0: hupR.out _ (Below.drew hBr)
              -- arm 8: go_at_call 20; (with_reducible refine (hsm.out r1 r2 s1 s2 x y _ (hI1H.out.below (Below.drew hBr)) (hI2H.out.below (Below.drew hBr))).mono ?_); rintro e w10 ⟨rfl, hb⟩; have hq10 : Below wr.heap.size wr w10 := bseqT (Below.drew hBr) hb; clear hb
              -- arm 8 s: hupR.out _ hq10
              -- tail zz4 0 1 2 3 4 5 6 7 c8 9
              refine wp_region_tail (fun w' => w'.cell? ⟨b1, o1 + j, none⟩ = some (.slice r1 2 s1) ∧ w'.cell? ⟨b2, o2 + j, none⟩ = some (.slice r2 2 s2)) (fun j => decide (1000 ≤ j)) (by kernel_rfl) (hupR.out _ (Below.drew hBr)) (fun hHeld => ?_)
              refine wpAnyT_take (i := 0) (oi := ?oizz40) (v := ?vzz40) ?hozz40 (by kernel_rfl) (by kernel_rfl) (by kernel_rfl) (by kernel_rfl) ?hqzz40 (Or.inl ⟨?hwzz40, ?hyzz40⟩) (by assumption) ?_
              case hozz40 => rfl
              case hwzz40 => rfl
              case hyzz40 => (intro w hSw; (try dsimp only at hSw); go_split_ands; go_simp; (try (with_reducible rfl)))
              case hqzz40 => exact fun _ _ _ h => h
              simp only [Act.put, List.getElem_toArray, List.getElem_cons_zero, List.setIfInBounds_toArray, List.set_cons_zero, List.set_cons_succ]
              refine wpAnyT_take (i := 1) (oi := ?oizz41) (v := ?vzz41) ?hozz41 (by kernel_rfl) (by kernel_rfl) (by kernel_rfl) (by kernel_rfl) ?hqzz41 (Or.inl ⟨?hwzz41, ?hyzz41⟩) (by assumption) ?_
              case hozz41 => rfl
              case hwzz41 => rfl
              case hyzz41 => (intro w hSw; (try dsimp only at hSw); go_split_ands; go_simp; (try (with_reducible rfl)))
              case hqzz41 => exact fun _ _ _ h => h
              simp only [Act.put, List.getElem_toArray, List.getElem_cons_succ, List.getElem_cons_zero, List.setIfInBounds_toArray, List.set_cons_zero, List.set_cons_succ]
              refine wpAnyT_take (i := 2) (oi := ?oizz42) (v := ?vzz42) ?hozz42 (by kernel_rfl) (by kernel_rfl) (by kernel_rfl) (by kernel_rfl) ?hqzz42 (Or.inl ⟨?hwzz42, ?hyzz42⟩) (by assumption) ?_
              case hozz42 => rfl
              case hwzz42 => rfl
              case hyzz42 => (intro w hSw; (try dsimp only at hSw); go_split_ands; go_simp; (try (with_reducible rfl)))
              case hqzz42 => exact fun _ _ _ h => h
              simp only [Act.put, List.getElem_toArray, List.getElem_cons_succ, List.getElem_cons_zero, List.setIfInBounds_toArray, List.set_cons_zero, List.set_cons_succ]
              refine wpAnyT_take (i := 3) (oi := ?oizz43) (v := ?vzz43) ?hozz43 (by kernel_rfl) (by kernel_rfl) (by kernel_rfl) (by kernel_rfl) ?hqzz43 (Or.inl ⟨?hwzz43, ?hyzz43⟩) (by assumption) ?_
              case hozz43 => rfl
              case hwzz43 => rfl
              case hyzz43 => (intro w hSw; (try dsimp only at hSw); go_split_ands; go_simp; (try (with_reducible rfl)))
              case hqzz43 => exact fun _ _ _ h => h
              simp only [Act.put, List.getElem_toArray, List.getElem_cons_succ, List.getElem_cons_zero, List.setIfInBounds_toArray, List.set_cons_zero, List.set_cons_succ]
              refine wpAnyT_take (i := 4) (oi := ?oizz44) (v := ?vzz44) ?hozz44 (by kernel_rfl) (by kernel_rfl) (by kernel_rfl) (by kernel_rfl) ?hqzz44 (Or.inl ⟨?hwzz44, ?hyzz44⟩) (by assumption) ?_
              case hozz44 => rfl
              case hwzz44 => rfl
              case hyzz44 => (intro w hSw; (try dsimp only at hSw); go_split_ands; go_simp; (try (with_reducible rfl)))
              case hqzz44 => exact fun _ _ _ h => h
              simp only [Act.put, List.getElem_toArray, List.getElem_cons_succ, List.getElem_cons_zero, List.setIfInBounds_toArray, List.set_cons_zero, List.set_cons_succ]
              refine wpAnyT_take (i := 5) (oi := ?oizz45) (v := ?vzz45) ?hozz45 (by kernel_rfl) (by kernel_rfl) (by kernel_rfl) (by kernel_rfl) ?hqzz45 (Or.inl ⟨?hwzz45, ?hyzz45⟩) (by assumption) ?_
              case hozz45 => rfl
              case hwzz45 => rfl
              case hyzz45 => (intro w hSw; (try dsimp only at hSw); go_split_ands; go_simp; (try (with_reducible rfl)))
              case hqzz45 => exact fun _ _ _ h => h
              simp only [Act.put, List.getElem_toArray, List.getElem_cons_succ, List.getElem_cons_zero, List.setIfInBounds_toArray, List.set_cons_zero, List.set_cons_succ]
              refine wpAnyT_take (i := 6) (oi := ?oizz46) (v := ?vzz46) ?hozz46 (by kernel_rfl) (by kernel_rfl) (by kernel_rfl) (by kernel_rfl) ?hqzz46 (Or.inl ⟨?hwzz46, ?hyzz46⟩) (by assumption) ?_
              case hozz46 => rfl
              case hwzz46 => rfl
              case hyzz46 => (intro w hSw; (try dsimp only at hSw); go_split_ands; go_simp; (try (with_reducible rfl)))
              case hqzz46 => exact fun _ _ _ h => h
              simp only [Act.put, List.getElem_toArray, List.getElem_cons_succ, List.getElem_cons_zero, List.setIfInBounds_toArray, List.set_cons_zero, List.set_cons_succ]
              refine wpAnyT_take (i := 7) (oi := ?oizz47) (v := ?vzz47) ?hozz47 (by kernel_rfl) (by kernel_rfl) (by kernel_rfl) (by kernel_rfl) ?hqzz47 (Or.inl ⟨?hwzz47, ?hyzz47⟩) (by assumption) ?_
              case hozz47 => rfl
              case hwzz47 => rfl
              case hyzz47 => (intro w hSw; (try dsimp only at hSw); go_split_ands; go_simp; (try (with_reducible rfl)))
              case hqzz47 => exact fun _ _ _ h => h
              simp only [Act.put, List.getElem_toArray, List.getElem_cons_succ, List.getElem_cons_zero, List.setIfInBounds_toArray, List.set_cons_zero, List.set_cons_succ]
              refine wpAnyT_one (i := 8) (o := ?oizz48) (by kernel_rfl) ?hozz48 (fun K hK => ?_)
              case hozz48 => rfl
              rw [if_pos (by rfl)]
              go_simp
              go_at_call 20; (with_reducible refine (hsm.out r1 r2 s1 s2 x y _ (hI1H.out.below (Below.drew hBr)) (hI2H.out.below (Below.drew hBr))).mono ?_); rintro e w10 ⟨rfl, hb⟩; have hq10 : Below wr.heap.size wr w10 := bseqT (Below.drew hBr) hb; clear hb
              (try go_wp2_with (fail))
              refine hK.out _ _ (fun _ => hupR.out _ hq10) (fun hHeld => ?_)
              replace hHeld := hHeld rfl
              clear hK K
              refine wpAnyT_take (i := 9) (oi := ?oizz49) (v := ?vzz49) ?hozz49 (by kernel_rfl) (by kernel_rfl) (by kernel_rfl) (by kernel_rfl) ?hqzz49 (Or.inl ⟨?hwzz49, ?hyzz49⟩) (by assumption) ?_
              case hozz49 => rfl
              case hwzz49 => rfl
              case hyzz49 => (intro w hSw; (try dsimp only at hSw); go_split_ands; go_simp; (try (with_reducible rfl)))
              case hqzz49 => exact fun _ _ _ h => h
              simp only [Act.put, List.getElem_toArray, List.getElem_cons_succ, List.getElem_cons_zero, List.setIfInBounds_toArray, List.set_cons_zero, List.set_cons_succ]
              refine wpAnyT_done (by kernel_rfl) ?_ _
              -- tail end
              go_wp2_with (fail)
              go_roundw
              case rel => exact ⟨j + 1, by go_num, by omega, bseqT hblH.out hq10⟩
              case measure => simp [intOf]; omega
            · have hjI : ¬ (j : Int) < (N : Int) := by omega
              go_wp2_with (fail)
              go_ret
              exact ⟨rfl, bseqT hbVH.out (bseqT hq9.out hblH.out)⟩
end
theorem trnLaw_any (o u k : Int) (ao : Option Addr) (n c : Nat) (xs : List Int) (w : World) (h : IZ w ao xs) (hn : xs.length = n) (hc : n ≤ c) (hn63 : n ≤ 9223372036854775807) :
    Calls Tryz.prog 4 #[.agg #[.int .i64 o, .int .i64 u], .slice ao n c, .int .i64 k] w (RetB w true) := by
  obtain ⟨most, hF⟩ : ∃ most, Fr3 k n most := by
    unfold Fr3
    by_cases h1 : k = 3
    · by_cases h2 : n ≤ 10
      · exact ⟨7, .inr (.inr ⟨h1, h2, rfl⟩)⟩
      · exact ⟨11, .inr (.inl ⟨h1, by omega, rfl⟩)⟩
    · exact ⟨11, .inl ⟨h1, rfl⟩⟩
  obtain ⟨M, hM⟩ : ∃ M, min n most = M := ⟨_, rfl⟩
  obtain ⟨ys, hys⟩ : ∃ ys, xs.take most = ys := ⟨_, rfl⟩
  cases hok : trOk o u k M ys with
  | false =>
    by_cases hf : frB o u = true
    · by_cases hM10 : M ≤ 10
      · by_cases hk1 : 1 ≤ k
        · by_cases hk3 : k ≤ 3
          · refine trnLaw_wheel o u k ao n c most M xs ys w h hn hc hn63 hF hM hys hok hf hM10 hk1 hk3 ?_
            have h1 : inL 1000000 [o, u] = true := by rw [← frB_inL]; exact hf
            have h4 : inL 3 [k] = true := inL_iff.2 fun x hx => by rw [List.mem_singleton] at hx; subst hx; exact ⟨hk1, hk3⟩
            cases h5 : inL 1000 ys with
            | false => rfl
            | true => unfold trOk at hok; rw [h1, h4, h5] at hok; simp at hok; omega
          · exact trnLaw_arg o u k ao n c most M xs ys w h hn hc hn63 hF hM hys hok (.inr (.inr (.inr ⟨hf, hM10, hk1, by omega⟩)))
        · exact trnLaw_arg o u k ao n c most M xs ys w h hn hc hn63 hF hM hys hok (.inr (.inr (.inl ⟨hf, hM10, by omega⟩)))
      · exact trnLaw_arg o u k ao n c most M xs ys w h hn hc hn63 hF hM hys hok (.inr (.inl ⟨hf, by omega⟩))
    · exact trnLaw_arg o u k ao n c most M xs ys w h hn hc hn63 hF hM hys hok (.inl (by simpa using hf))
  | true =>
    obtain ⟨a1, a2, a3, a4, a5, a6, a7, a8⟩ := trOk_nat hok
    obtain ⟨o', ho⟩ : ∃ n : Nat, (n : Int) = o := ⟨o.toNat, by omega⟩
    obtain ⟨u', hu⟩ : ∃ n : Nat, (n : Int) = u := ⟨u.toNat, by omega⟩
    obtain ⟨L, hL⟩ : ∃ n : Nat, (n : Int) = k := ⟨k.toNat, by omega⟩
    by_cases hlt : M < 2 * L
    · exact trnLaw_none o u k ao n c most M xs ys w h hn hc hn63 hF hM hys o' u' L ho hu hL hok hlt
    · refine trnLaw_good o u k ao n c most M xs ys w h hn hc hn63 hF hM hys o' u' L (ys.map Int.toNat) ho hu hL ?_ hok (by omega)
      unfold nzT
      rw [List.map_map]
      refine (List.map_congr_left fun x hx => ?_).trans (List.map_id _)
      have := a8 x hx
      show ((x.toNat : Nat) : Int) = x
      omega
end Go.Proofs.YtbehfhmdilifkaaGreat
