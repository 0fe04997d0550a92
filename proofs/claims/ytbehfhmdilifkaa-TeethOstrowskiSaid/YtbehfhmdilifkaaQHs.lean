/- Hs -/
import Derived.Test.YtbehfhmdilifkaaQHr
set_option linter.unusedVariables false
/- Walk of the reference's Numbers. -/
namespace Go.Proofs.Ytbehfhmdilifkaa
open Go Go.RowKit Go.Proofs

section
attribute [local go_sem] undef
set_option maxRecDepth 100000 in
set_option maxHeartbeats 3200000 in
theorem numR_no (ao : Option Addr) (n c : Nat) (X : List Int) (w : World) (hI : IZ w ao X) (hn : X.length = n) (hnc : n ≤ c) (h : ¬ (2 ≤ X.length ∧ X.length ≤ 20 ∧ 0 ≤ X.headD 0 ∧ X.headD 0 ≤ 1000000)) :
    Calls Try.prog 47 #[.slice ao n c] w (fun e w' => e = .returned (.tuple #[.slice none 0 0, .bool false]) ∧ Below w.heap.size w w') := by
  rw [hn] at h
  by_cases h1 : 2 ≤ n ∧ n ≤ 20
  · have hb : inB (n : Int) 2 20 = true := by unfold inB; simp; omega
    have hin := Lib.hid (fun W => refin_any (n : Int) 2 20 true W hb)
    obtain ⟨b, o, rfl, c0⟩ := hI.at (i := 0) (by omega)
    obtain ⟨x, hx⟩ : ∃ x, at0 X 0 = x := ⟨_, rfl⟩
    rw [hx, Nat.add_zero] at c0
    have hx2 : X.headD 0 = x := by
      rw [← hx]
      rcases X with _ | ⟨a, X⟩
      · rfl
      · simp [at0]
    rw [hx2] at h
    have i0 : (0 : Int) < (n : Int) := by omega
    have hb2 : inB x 0 1000000 = false := by
      cases hh : inB x 0 1000000 with
      | false => rfl
      | true => unfold inB at hh; simp at hh; omega
    have hin2 := Lib.hid (fun W => refin_any x 0 1000000 false W hb2)
    clear h hI hx hx2 hb hb2
    go_enter Try.func47, Try.ntmps47
    go_wp2_with (first
      | (go_at_call 54; (with_reducible refine (hin.out _).mono ?_); rintro e w1 ⟨rfl, rfl⟩)
      | (go_at_call 54; (with_reducible refine (hin2.out _).mono ?_); rintro e w1 ⟨rfl, rfl⟩))
    go_ret2
    exact ⟨rfl, Below.refl _ _⟩
  · have hb : inB (n : Int) 2 20 = false := by
      cases hh : inB (n : Int) 2 20 with
      | false => rfl
      | true => unfold inB at hh; simp at hh; omega
    have hin := Lib.hid (fun W => refin_any (n : Int) 2 20 false W hb)
    clear h hI hb
    go_enter Try.func47, Try.ntmps47
    go_wp2_with (first
      | (go_at_call 54; (with_reducible refine (hin.out _).mono ?_); rintro e w1 ⟨rfl, rfl⟩))
    go_ret2
    exact ⟨rfl, Below.refl _ _⟩
end
theorem getD_old {outs : List Nat} {r k : Nat} (h : k < outs.length) : (outs ++ [r]).getD k 0 = outs.getD k 0 := by
  simp [List.getD, List.getElem?_append, h]
theorem iz_int {w : World} {b o i : Nat} {x : Int} {P : List Int} (h : IZ w (some ⟨b, o, none⟩) P) (hi : i < P.length) (hx : P.getD i 0 = x) : w.cell? ⟨b, o + i, none⟩ = some (.int .i64 x) := by
  obtain ⟨b', o', he, hc⟩ := h i x (by
    rw [List.getElem?_eq_getElem hi]
    simp [List.getD, hi] at hx
    simp [hx])
  injection he with he
  injection he with e1 e2
  subst e1 e2
  exact hc
set_option maxRecDepth 100000 in
set_option maxHeartbeats 6400000 in
theorem numR_in (b o n c : Nat) (x : Int) (Y : List Int) (D : Option (List Nat)) (w : World) (hI : IZ w (some ⟨b, o, none⟩) (x :: Y)) (hn : Y.length + 1 = n) (hnc : n ≤ c) (h1 : 2 ≤ n) (h2 : n ≤ 20) (h3 : 0 ≤ x) (h4 : x ≤ 1000000) (hD : (qGoZ 0 1 Y).map (fun r => [1] ++ r) = D) :
    Calls Try.prog 47 #[.slice (some ⟨b, o, none⟩) n c] w (DenPost D w) := by
  have hb : inB (n : Int) 2 20 = true := by unfold inB; simp; omega
  have hin := Lib.hid (fun W => refin_any (n : Int) 2 20 true W hb)
  have hb2 : inB x 0 1000000 = true := by unfold inB; simp; omega
  have hin2 := Lib.hid (fun W => refin_any x 0 1000000 true W hb2)
  have c0 := iz_int (i := 0) hI (by simp) rfl
  rw [Nat.add_zero] at c0
  simp only [List.getD_cons_zero] at c0
  have i0 : (0 : Int) < (n : Int) := by omega
  have hIH := Lib.hid hI
  have hDH := Lib.hid hD
  have hYl : Hid (Y.length + 1 = n) := hn
  obtain ⟨N, hN⟩ : ∃ N, n - 1 = N := ⟨_, rfl⟩
  have hNn : N + 1 = n := by omega
  have hNH := Lib.hid hNn
  have hNl : N ≤ 19 := by omega
  have hNI : (n : Int) = (N : Int) + 1 := by omega
  have hNIH := Lib.hid hNI
  clear hI hD hn hb hb2 hN hNn hNI
  go_enter Try.func47, Try.ntmps47
  go_wp2_with (first
    | (go_at_call 54; (with_reducible refine (hin.out _).mono ?_); rintro e w1 ⟨rfl, rfl⟩)
    | (go_at_call 54; (with_reducible refine (hin2.out _).mono ?_); rintro e w1 ⟨rfl, rfl⟩))
  go_loopg [4, 5, 6, 7] N (fun gk ov iv lv nv wr => ∃ (k last q : Nat) (outs : List Nat) (v : Value), v = ov ∧ iv = .int .i64 ((k + 1 : Nat) : Int) ∧ k + gk = N ∧ last ≤ 1000000000 ∧ q ≤ 1000000000 ∧ outs.length = k + 1 ∧ outs.getD k 0 = q ∧ ((k = 0 ∧ last = 0) ∨ ∃ j, k = j + 1 ∧ outs.getD j 0 = last) ∧ ZE wr w.heap.size v (nzT outs) ∧ (qGoZ last q (Y.drop k)).map (fun r => outs ++ r) = D ∧ Below w.heap.size w wr)
  case atStart =>
    refine ⟨0, 0, 1, [1], _, rfl, rfl, by omega, by omega, by omega, rfl, rfl, .inl ⟨rfl, rfl⟩, ?_, hDH.out, below_al (Below.refl _ _) _⟩
    exact .inl (zi_lit1 _ 1 _ (Nat.le_refl _))
  case round =>
    obtain ⟨k, last, q, outs, v, rfl, rfl, hkg, hlast, hq, hol, hoq, hlq, hZ, hg, hbl⟩ := hrel
    have hZH := Lib.hid hZ
    have hblH := Lib.hid hbl
    have hbs := hbl.size
    have holH := Lib.hid hol
    have hoqH := Lib.hid hoq
    clear hbl
    obtain ⟨g, cc, hv⟩ := hZ.some (fun e => by have := congrArg List.length e; rw [nzT_length, hol] at this; simp at this)
    rw [nzT_length, hol] at hv
    subst hv
    obtain ⟨i, hi⟩ : ∃ i, k + 1 = i := ⟨_, rfl⟩
    rw [hi]
    have hiH := Lib.hid hi
    rw [hi] at hZH
    by_cases hkN : k < N
    · have hiI : (i : Int) < (n : Int) := by have := hNH.out; omega
      have hkY : k < Y.length := by have := hYl.out; have := hNH.out; omega
      obtain ⟨z, hz⟩ : ∃ z, Y.getD k 0 = z := ⟨_, rfl⟩
      have c1 := iz_int (i := i) (hIH.out.below hblH.out) (by simp; omega) (show (x :: Y).getD i 0 = z by rw [← hi]; simpa using hz)
      have hi0 : (0 : Int) ≤ (i : Int) := by omega
      have hdr : Y.drop k = z :: Y.drop (k + 1) := by
        rw [List.drop_eq_getElem_cons hkY]
        simp [List.getD, hkY] at hz
        rw [hz]
      rw [hdr] at hg
      by_cases hz1 : 1 ≤ z ∧ z ≤ 1000000
      · obtain ⟨a, rfl⟩ : ∃ a : Nat, z = (a : Int) := ⟨z.toNat, by omega⟩
        have ha1 : 1 ≤ a := by omega
        have ha2 : a ≤ 1000000 := by omega
        have hin3 := Lib.hid (fun W => refin_any (a : Int) 1 1000000 true W (by unfold inB; simp; omega))
        obtain ⟨r, hr⟩ : ∃ r, a * q + last = r := ⟨_, rfl⟩
        have hst := qGo_step hg ha1 ha2 hr
        have hst1 := Lib.hid hst.1
        have hst2 := Lib.hid hst.2
        obtain ⟨V, hV⟩ : ∃ V, a * q = V := ⟨_, rfl⟩
        have hVI := mulN hV
        have hVl : V ≤ 1000000000000000 := by rw [← hV]; exact Nat.le_trans (Nat.mul_le_mul ha2 hq) (by decide)
        have hrI : (V : Int) + (last : Int) = (r : Int) := by omega
        have hrl : r ≤ 1000001000000000 := by omega
        have hikI : (i : Int) - 1 = (k : Int) := by omega
        have hk0 : (0 : Int) ≤ (k : Int) := by omega
        have hkk : (k : Int) < (i : Int) := by omega
        have hil : i ≤ 20 := by omega
        have hjl : Hid ((nzT outs).length = i) := by show _ = _; rw [nzT_length, holH.out, hi]
        have hkl : k ≤ 19 := by omega
        have c2 := iz_nat (i := k) hZH.out.iz.1 (by rw [holH.out]; omega) hoqH.out
        rw [Nat.zero_add] at c2
        rcases hlq with ⟨hk00, hl0⟩ | ⟨j, hkj, hoj⟩
        · subst hl0
          have hi1 : ¬ (1 : Int) < (i : Int) := by omega
          obtain rfl : r = V := by omega
          clear hst hg hdr hV hz hr hol hoq hZ hi hk00
          go_upto_region 12 with (go_at_call 54; (with_reducible refine (hin3.out _).mono ?_); rintro e w1 ⟨rfl, rfl⟩)
          go_quiet (fail)
          obtain ⟨W1, hW1⟩ : ∃ W1, W1 = wr.drewN nq := ⟨_, rfl⟩
          rw [← hW1]
          have hZ1 : Hid (ZE W1 w.heap.size (.slice (some ⟨g, 0, none⟩) i cc) (nzT outs)) := by show ZE _ _ _ _; rw [hW1]; exact hZH.out.below (bdn (Below.refl _ _))
          have hbl1 : Hid (Below w.heap.size w W1) := by show Below _ _ _; rw [hW1]; exact bdn hblH.out
          have hbs1 := hbl1.out.size
          clear hW1 hZH hblH c1 c2
          by_cases hr9 : 1000000000 < r
          · have hr9I : (1000000000 : Int) < (r : Int) := by omega
            have hnoH := Lib.hid (hst1.out hr9)
            clear hst2
            go_wp2_with (fail)
            go_ret2
            exact .inl ⟨hnoH.out, rfl, hbl1.out⟩
          · have hr9I : ¬ (1000000000 : Int) < (r : Int) := by omega
            have hnx := Lib.hid (hst2.out (by omega))
            go_wp2_with (first
              | (at_builtin; go_loud (refine wpList_append_ze _ rfl (.tmp 53) (.tmp 55) _ rfl Try.underlying22 w.heap.size i (.slice (some ⟨g, 0, none⟩) i cc) (nzT outs) (by rfl) (hZ1.out.below (below_al (Below.refl _ _) _)) hjl.out _ 1 1 [(r : Int)] (by rfl) (IZ.one (by simp)) rfl (by omega) (by omega) (by simp; omega) ?_); intro v2 w4 hA4; rw [← nzT_snoc] at hA4; have hA4H := Lib.hid hA4; clear hA4))
            go_roundg (gk - 1)
            case measure => omega
            case rel => exact ⟨k + 1, q, r, outs ++ [r], v2, rfl, by have := hiH.out; go_num, by omega, hq, by omega, by rw [List.length_append, holH.out]; rfl, getD_end holH.out, .inr ⟨k, rfl, by rw [getD_old (by rw [holH.out]; omega)]; exact hoqH.out⟩, hA4H.out.1, hnx.out, (below_al hbl1.out _).trans hA4H.out.2.1⟩
        · have hi1 : (1 : Int) < (i : Int) := by omega
          have hij : (i : Int) - 2 = (j : Int) := by omega
          have hj0 : (0 : Int) ≤ (j : Int) := by omega
          have hjk : (j : Int) < (i : Int) := by omega
          have c3 := iz_nat (i := j) hZH.out.iz.1 (by rw [holH.out]; omega) hoj
          rw [Nat.zero_add] at c3
          clear hst hg hdr hV hz hr hol hoq hZ hi hkj hoj
          go_upto_region 12 with (go_at_call 54; (with_reducible refine (hin3.out _).mono ?_); rintro e w1 ⟨rfl, rfl⟩)
          clear c3
          go_quiet (fail)
          obtain ⟨W1, hW1⟩ : ∃ W1, W1 = wr.drewN nq := ⟨_, rfl⟩
          rw [← hW1]
          have hZ1 : Hid (ZE W1 w.heap.size (.slice (some ⟨g, 0, none⟩) i cc) (nzT outs)) := by show ZE _ _ _ _; rw [hW1]; exact hZH.out.below (bdn (Below.refl _ _))
          have hbl1 : Hid (Below w.heap.size w W1) := by show Below _ _ _; rw [hW1]; exact bdn hblH.out
          have hbs1 := hbl1.out.size
          clear hW1 hZH hblH c1 c2
          by_cases hr9 : 1000000000 < r
          · have hr9I : (1000000000 : Int) < (r : Int) := by omega
            have hnoH := Lib.hid (hst1.out hr9)
            clear hst2
            go_wp2_with (fail)
            go_ret2
            exact .inl ⟨hnoH.out, rfl, hbl1.out⟩
          · have hr9I : ¬ (1000000000 : Int) < (r : Int) := by omega
            have hnx := Lib.hid (hst2.out (by omega))
            go_wp2_with (first
              | (at_builtin; go_loud (refine wpList_append_ze _ rfl (.tmp 53) (.tmp 55) _ rfl Try.underlying22 w.heap.size i (.slice (some ⟨g, 0, none⟩) i cc) (nzT outs) (by rfl) (hZ1.out.below (below_al (Below.refl _ _) _)) hjl.out _ 1 1 [(r : Int)] (by rfl) (IZ.one (by simp)) rfl (by omega) (by omega) (by simp; omega) ?_); intro v2 w4 hA4; rw [← nzT_snoc] at hA4; have hA4H := Lib.hid hA4; clear hA4))
            go_roundg (gk - 1)
            case measure => omega
            case rel => exact ⟨k + 1, q, r, outs ++ [r], v2, rfl, by have := hiH.out; go_num, by omega, hq, by omega, by rw [List.length_append, holH.out]; rfl, getD_end holH.out, .inr ⟨k, rfl, by rw [getD_old (by rw [holH.out]; omega)]; exact hoqH.out⟩, hA4H.out.1, hnx.out, (below_al hbl1.out _).trans hA4H.out.2.1⟩
      · have hin3 := Lib.hid (fun W => refin_any z 1 1000000 false W (by
          cases hh : inB z 1 1000000 with
          | false => rfl
          | true => unfold inB at hh; simp at hh; exact absurd hh hz1))
        have hno : D = none := by
          rw [← hg]
          rw [qGoZ_bad ⟨z, by simp, hz1⟩]; rfl
        have hnoH := Lib.hid hno
        clear hg hdr hz hno hol hoq hZ hi hlq
        go_wp2_with (go_at_call 54; (with_reducible refine (hin3.out _).mono ?_); rintro e w1 ⟨rfl, rfl⟩)
        go_ret2
        exact .inl ⟨hnoH.out, rfl, hblH.out⟩
    · have hiI : ¬ (i : Int) < (n : Int) := by have := hNH.out; omega
      have hke : k = N := by omega
      subst hke
      rw [List.drop_eq_nil_of_le (by have := hYl.out; have := hNH.out; omega)] at hg
      have hD2 : D = some outs := by rw [← hg]; simp [qGoZ]
      have hDH2 := Lib.hid hD2
      clear hg hD2 hol hoq hZ hi hlq
      go_wp2_with (fail)
      go_ret2
      exact .inr ⟨outs, i, g, cc, hDH2.out, by rw [holH.out, hiH.out], rfl, hZH.out.iz.2, hZH.out.iz.1, hblH.out⟩
theorem numR_any (ao : Option Addr) (n c : Nat) (X : List Int) (w : World) (hI : IZ w ao X) (hn : X.length = n) (hnc : n ≤ c) :
    Calls Try.prog 47 #[.slice ao n c] w (DenPost (den X) w) := by
  by_cases h : 2 ≤ X.length ∧ X.length ≤ 20 ∧ 0 ≤ X.headD 0 ∧ X.headD 0 ≤ 1000000
  · rcases X with _ | ⟨x, Y⟩
    · simp at h
    have h' := h
    simp only [List.headD_cons] at h'
    obtain ⟨b, o, rfl, _⟩ := hI.at (i := 0) (by omega)
    exact numR_in b o n c x Y _ w hI (by simpa using hn) hnc (by omega) (by omega) h'.2.2.1 h'.2.2.2 (den_yes h).symm
  · exact (numR_no ao n c X w hI hn hnc h).mono fun e w' ⟨he, hb⟩ => .inl ⟨den_no h, he, hb⟩
end Go.Proofs.Ytbehfhmdilifkaa
