/- Hu -/
import Derived.Test.YtbehfhmdilifkaaQHt
import Derived.Test.YtbehfhmdilifkaaQHf
set_option linter.unusedVariables false
/- Walks of cut, of Digits and of the law TeethDigits. -/
namespace Go.Proofs.Ytbehfhmdilifkaa
open Go Go.RowKit Go.Proofs

set_option maxRecDepth 100000 in
set_option maxHeartbeats 1600000 in
theorem cut_any (ao : Option Addr) (c n m : Nat) (xs : List Int) (w : World) (h : IZ w ao xs) (hn : xs.length = n) (hc : n ≤ c) (hm : n ≤ 9223372036854775807) (hm9 : m ≤ 30) :
    Calls Try.prog 45 #[.slice ao n c, .int .i64 (m : Nat)] w (RetJZ w (xs.take m)) := by
  have hH := Lib.hid h
  have hI := Lib.hid (h.take m)
  by_cases hmn : m < n
  · have hl : Hid ((xs.take m).length = m) := by show _ = _; rw [List.length_take, hn]; omega
    have hmI : (m : Int) < (n : Int) := by omega
    have hmc : (m : Int) ≤ (c : Int) := by omega
    have hmin : min (n : Int) (m : Int) = (m : Int) := by omega
    have hmc2 : m ≤ c := by omega
    rcases ao with _ | ⟨b, o, s⟩
    · exfalso
      obtain ⟨x, hx⟩ : ∃ x, xs[0]? = some x := ⟨_, List.getElem?_eq_getElem (by omega)⟩
      obtain ⟨b, o, hb, _⟩ := h 0 x hx
      cases hb
    · clear h hn
      go_enter Try.func45, Try.ntmps45
      go_wp2_with (first
        | (at_builtin; go_loud (refine wpList_append_ze _ rfl (.tmp 5) (.tmp 11) _ rfl Try.underlying22 w.heap.size 0 _ [] (by rfl) (ZE.lit _ _ _) rfl (some ⟨b, o, s⟩) m _ (xs.take m) (by rfl) (hI.out.below ((Below.refl _ _).alloc (Nat.le_refl _) _)) hl.out (by omega) (by omega) (by simp) ?_); intro v1 x1 hA1; rw [List.nil_append] at hA1; obtain ⟨a1, d1, hv1⟩ := hA1.1.shape; rw [hl.out] at hv1; subst hv1; have hZ1 := Lib.hid hA1.1.iz; have hb1 := Lib.hid (((Below.refl w.heap.size w).alloc (Nat.le_refl _) _).trans hA1.2.1); clear hA1))
      go_ret
      exact ⟨a1, d1, by rw [hl.out]; rfl, hZ1.out.1, by rw [hl.out]; exact hZ1.out.2, hb1.out⟩
  · have hl : Hid ((xs.take m).length = n) := by show _ = _; rw [List.length_take, hn]; omega
    have hmI : ¬ (m : Int) < (n : Int) := by omega
    have hmc : (n : Int) ≤ (c : Int) := by omega
    have hmin : min (n : Int) (m : Int) = (n : Int) := by omega
    rcases ao with _ | ⟨b, o, s⟩
    · clear h hn
      go_enter Try.func45, Try.ntmps45
      go_wp2_with (first
        | (at_builtin; go_loud (refine wpList_append_ze _ rfl (.tmp 5) (.tmp 11) _ rfl Try.underlying22 w.heap.size 0 _ [] (by rfl) (ZE.lit _ _ _) rfl none n _ (xs.take m) (by rfl) (hI.out.below ((Below.refl _ _).alloc (Nat.le_refl _) _)) hl.out (by omega) (by omega) (by simp) ?_); intro v1 x1 hA1; rw [List.nil_append] at hA1; obtain ⟨a1, d1, hv1⟩ := hA1.1.shape; rw [hl.out] at hv1; subst hv1; have hZ1 := Lib.hid hA1.1.iz; have hb1 := Lib.hid (((Below.refl w.heap.size w).alloc (Nat.le_refl _) _).trans hA1.2.1); clear hA1))
      go_ret
      exact ⟨a1, d1, by rw [hl.out]; rfl, hZ1.out.1, by rw [hl.out]; exact hZ1.out.2, hb1.out⟩
    · clear h hn
      go_enter Try.func45, Try.ntmps45
      go_wp2_with (first
        | (at_builtin; go_loud (refine wpList_append_ze _ rfl (.tmp 5) (.tmp 11) _ rfl Try.underlying22 w.heap.size 0 _ [] (by rfl) (ZE.lit _ _ _) rfl (some ⟨b, o, s⟩) n _ (xs.take m) (by rfl) (hI.out.below ((Below.refl _ _).alloc (Nat.le_refl _) _)) hl.out (by omega) (by omega) (by simp) ?_); intro v1 x1 hA1; rw [List.nil_append] at hA1; obtain ⟨a1, d1, hv1⟩ := hA1.1.shape; rw [hl.out] at hv1; subst hv1; have hZ1 := Lib.hid hA1.1.iz; have hb1 := Lib.hid (((Below.refl w.heap.size w).alloc (Nat.le_refl _) _).trans hA1.2.1); clear hA1))
      go_ret
      exact ⟨a1, d1, by rw [hl.out]; rfl, hZ1.out.1, by rw [hl.out]; exact hZ1.out.2, hb1.out⟩

/-- The greatest denominator. -/
def topQ (Q : List Nat) : Nat := Q.getD (Q.length - 1) 0
def DigP (D : Option (List Nat)) (v : Int) (w : World) (e : Ending) (w' : World) : Prop :=
  (D = none ∧ e = .returned (.tuple #[.slice none 0 0, .int .i64 1]) ∧ Below w.heap.size w w') ∨
  (∃ Q, D = some Q ∧ (v < 0 ∨ (topQ Q : Int) ≤ v) ∧ e = .returned (.tuple #[.slice none 0 0, .int .i64 5]) ∧ Below w.heap.size w w') ∨
  ∃ Q K g, D = some Q ∧ Q.length = K + 1 ∧ 0 ≤ v ∧ v < topQ Q ∧ e = .returned (.tuple #[.slice (some ⟨g, 0, none⟩) K K, .int .i64 0]) ∧ IZ w' (some ⟨g, 0, none⟩) (nzT (dgF Q v.toNat)) ∧ Below w.heap.size w w'
theorem den_all {X : List Int} {Q : List Nat} (h : den X = some Q) : ∀ x ∈ Q, 1 ≤ x ∧ x ≤ 1000000000 := fun x hx => by
  obtain ⟨T, _, hc, _⟩ := den_some h
  exact ⟨hc.pos x (by simpa using hx), den_le h x hx⟩
section
attribute [local go_sem] undef
set_option maxRecDepth 100000 in
set_option maxHeartbeats 3200000 in
theorem digsP_any (ao : Option Addr) (n c : Nat) (X : List Int) (v : Int) (w : World) (hI : IZ w ao X) (hn : X.length = n) (hnc : n ≤ c) :
    Calls Try.prog 46 #[.slice ao n c, .int .i64 v] w (DigP (den X) v w) := by
  have hden := Lib.hid (denP_any ao n c X w hI hn hnc)
  cases hD : den X with
  | none =>
    have hcall : Hid (Calls Try.prog 76 #[.slice ao n c] w (fun e w' => e = .returned (.tuple #[.slice none 0 0, .bool false]) ∧ Below w.heap.size w w')) := hden.out.mono (fun e w' h => by
      rcases h with ⟨_, h1, h2⟩ | ⟨Q, _, _, _, h1, _⟩
      · exact ⟨h1, h2⟩
      · rw [hD] at h1; cases h1)
    clear hden hI hn hD
    go_enter Try.func46, Try.ntmps46
    go_wp2_with (go_at_call 76; (with_reducible refine hcall.out.mono ?_); rintro e w1 ⟨rfl, hb⟩; have hb1 := Lib.hid hb; clear hb)
    go_ret2
    exact .inl ⟨rfl, rfl, hb1.out⟩
  | some Q =>
    obtain ⟨T, hT, hC, hn2, hn20, hQl⟩ := den_some hD
    rw [hn] at hn2 hn20 hQl
    have hcall : Hid (Calls Try.prog 76 #[.slice ao n c] w (fun e w' => ∃ g c, e = .returned (.tuple #[.slice (some ⟨g, 0, none⟩) n c, .bool true]) ∧ n ≤ c ∧ IZ w' (some ⟨g, 0, none⟩) (nzT Q) ∧ Below w.heap.size w w')) := hden.out.mono (fun e w' h => by
      rcases h with ⟨h1, _⟩ | ⟨Q', m, g, c', h1, h2, h3, h4, h5, h6⟩
      · rw [hD] at h1; cases h1
      · rw [hD] at h1; injection h1 with h1; subst h1
        rw [← h2, hQl] at h3 h4
        exact ⟨g, c', h3, h4, h5, h6⟩)
    have hall := den_all hD
    obtain ⟨K, hK⟩ : ∃ K, n - 1 = K := ⟨_, rfl⟩
    have hKI : (n : Int) - 1 = (K : Int) := by omega
    obtain ⟨t, ht⟩ : ∃ t, topQ Q = t := ⟨_, rfl⟩
    have htK : Hid (Q.getD K 0 = t) := by show _ = _; rw [← ht]; unfold topQ; rw [hQl, hK]
    have hQH := Lib.hid hQl
    have hall2 := Lib.hid hall
    have hKn : (K : Int) < (n : Int) := by omega
    have hK0 : (0 : Int) ≤ (K : Int) := by omega
    have hKn2 : K < n := by omega
    have hK1 : 1 ≤ K := by omega
    have hK19 : K ≤ 19 := by omega
    have hKe : Hid (K + 1 = n) := by show _ = _; omega
    have htl : t ≤ 1000000000 := by
      rw [← htK.out, List.getD, List.getElem?_eq_getElem (by rw [hQl]; exact hKn2)]
      exact (hall _ (by simp)).2
    have htH := Lib.hid ht
    clear hden hI hn hD hT hC hQl hall hK ht
    by_cases hv0 : v < 0
    · have d1 : decide (v < 0) = true := decide_eq_true hv0
      go_enter Try.func46, Try.ntmps46
      go_wp2_with (go_at_call 76; (with_reducible refine hcall.out.mono ?_); rintro e w1 ⟨g, cc, rfl, hcc, hI1, hb⟩; have hb1 := Lib.hid hb; have hI1H := Lib.hid hI1; clear hb hI1)
      go_ret2
      exact .inr (.inl ⟨Q, rfl, .inl hv0, rfl, hb1.out⟩)
    · have d1 : decide (v < 0) = false := decide_eq_false hv0
      obtain ⟨m, rfl⟩ : ∃ m : Nat, v = (m : Int) := ⟨v.toNat, by omega⟩
      by_cases hvt : t ≤ m
      · have d2 : decide ((t : Int) ≤ (m : Int)) = true := decide_eq_true (by omega)
        have d3 : decide (t ≤ m) = true := decide_eq_true hvt
        go_enter Try.func46, Try.ntmps46
        go_upto_region 4 with (go_at_call 76; (with_reducible refine hcall.out.mono ?_); rintro e w1 ⟨g, cc, rfl, hcc, hI1, hb⟩; have hb1 := Lib.hid hb; have hI1H := Lib.hid hI1; clear hb hI1)
        have c1 := iz_nat (i := K) hI1H.out (by rw [hQH.out]; exact hKn2) htK.out
        rw [Nat.zero_add] at c1
        go_wp2_with (fail)
        go_ret2
        exact .inr (.inl ⟨Q, rfl, .inr (by rw [htH.out]; omega), rfl, hb1.out⟩)
      · have d2 : decide ((t : Int) ≤ (m : Int)) = false := decide_eq_false (by omega)
        have d3 : decide (t ≤ m) = false := decide_eq_false hvt
        have hdg := Lib.hid (fun (g cc : Nat) (W : World) hI => digitsP_any g 0 n K cc m Q _ W hI hQH.out hKe.out hK1 hK19 hall2.out (by omega) rfl)
        go_enter Try.func46, Try.ntmps46
        go_upto_region 4 with (go_at_call 76; (with_reducible refine hcall.out.mono ?_); rintro e w1 ⟨g, cc, rfl, hcc, hI1, hb⟩; have hb1 := Lib.hid hb; have hI1H := Lib.hid hI1; clear hb hI1)
        have c1 := iz_nat (i := K) hI1H.out (by rw [hQH.out]; exact hKn2) htK.out
        rw [Nat.zero_add] at c1
        go_wp2_with (go_at_call 77; (with_reducible refine (hdg.out _ _ _ hI1H.out).mono ?_); rintro e w2 ⟨g2, rfl, hI2, hb⟩; have hb2 := Lib.hid hb; have hI2H := Lib.hid hI2; clear hb hI2)
        go_ret2
        refine .inr (.inr ⟨Q, K, g2, rfl, by rw [hQH.out, hKe.out], by omega, by rw [htH.out]; omega, rfl, ?_, bseqT hb1.out hb2.out⟩)
        rw [Int.toNat_natCast]
        exact hI2H.out
end
end Go.Proofs.Ytbehfhmdilifkaa
