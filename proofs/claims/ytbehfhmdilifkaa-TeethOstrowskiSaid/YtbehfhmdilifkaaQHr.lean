/- Hr -/
import Derived.Test.YtbehfhmdilifkaaQHq
import Derived.Test.YtbehfhmdilifkaaQTn
set_option linter.unusedVariables false
/- Walks of denominators and of the reference's Numbers. -/
namespace Go.Proofs.Ytbehfhmdilifkaa
open Go Go.RowKit Go.Proofs

def DenPost (D : Option (List Nat)) (w : World) (e : Ending) (w' : World) : Prop :=
  (D = none ∧ e = .returned (.tuple #[.slice none 0 0, .bool false]) ∧ Below w.heap.size w w') ∨
  ∃ Q n g c, D = some Q ∧ Q.length = n ∧ e = .returned (.tuple #[.slice (some ⟨g, 0, none⟩) n c, .bool true]) ∧ n ≤ c ∧ IZ w' (some ⟨g, 0, none⟩) (nzT Q) ∧ Below w.heap.size w w'
theorem den_no {X : List Int} (h : ¬ (2 ≤ X.length ∧ X.length ≤ 20 ∧ 0 ≤ X.headD 0 ∧ X.headD 0 ≤ 1000000)) : den X = none := by
  unfold den; rw [if_neg h]
theorem den_yes {X : List Int} (h : 2 ≤ X.length ∧ X.length ≤ 20 ∧ 0 ≤ X.headD 0 ∧ X.headD 0 ≤ 1000000) : den X = (qGoZ 0 1 X.tail).map fun r => 1 :: r := by
  unfold den; rw [if_pos h]
theorem iz_nat {w : World} {b o i x : Nat} {P : List Nat} (h : IZ w (some ⟨b, o, none⟩) (nzT P)) (hi : i < P.length) (hx : P.getD i 0 = x) : w.cell? ⟨b, o + i, none⟩ = some (.int .i64 (x : Nat)) := by
  obtain ⟨b', o', he, hc⟩ := h i (x : Int) (by
    unfold nzT
    rw [List.getElem?_map, List.getElem?_eq_getElem hi]
    simp [List.getD, hi] at hx
    simp [hx])
  injection he with he
  injection he with e1 e2
  subst e1 e2
  exact hc
section
attribute [local go_sem] undef
set_option maxRecDepth 100000 in
set_option maxHeartbeats 3200000 in
theorem denP_no (ao : Option Addr) (n c : Nat) (X : List Int) (w : World) (hI : IZ w ao X) (hn : X.length = n) (hnc : n ≤ c) (h : ¬ (2 ≤ X.length ∧ X.length ≤ 20 ∧ 0 ≤ X.headD 0 ∧ X.headD 0 ≤ 1000000)) :
    Calls Try.prog 76 #[.slice ao n c] w (fun e w' => e = .returned (.tuple #[.slice none 0 0, .bool false]) ∧ Below w.heap.size w w') := by
  rw [hn] at h
  by_cases h1 : n < 2
  · have d1 : decide ((n : Int) < 2) = true := decide_eq_true (by omega)
    have d2 : decide (n < 2) = true := decide_eq_true h1
    clear h hI
    go_enter Try.func76, Try.ntmps76
    go_wp2_with (fail)
    go_ret2
    exact ⟨rfl, Below.refl _ _⟩
  have d1 : decide ((n : Int) < 2) = false := decide_eq_false (by omega)
  have d2 : decide (n < 2) = false := decide_eq_false h1
  by_cases h2 : 20 < n
  · have d3 : decide ((20 : Int) < (n : Int)) = true := decide_eq_true (by omega)
    have d4 : decide (20 < n) = true := decide_eq_true h2
    clear h hI
    go_enter Try.func76, Try.ntmps76
    go_wp2_with (fail)
    go_ret2
    exact ⟨rfl, Below.refl _ _⟩
  have d3 : decide ((20 : Int) < (n : Int)) = false := decide_eq_false (by omega)
  have d4 : decide (20 < n) = false := decide_eq_false h2
  obtain ⟨b, o, rfl, c0⟩ := hI.at (i := 0) (by omega)
  obtain ⟨x, hx⟩ : ∃ x, at0 X 0 = x := ⟨_, rfl⟩
  rw [hx, Nat.add_zero] at c0
  have hx2 : X.headD 0 = x := by
    rw [← hx]
    rcases X with _ | ⟨a, X⟩
    · rfl
    · simp [at0]
  rw [hx2] at h
  have i0 : (0 : Int) < (n : Int) := by omega
  by_cases h3 : x < 0
  · have d5 : decide (x < 0) = true := decide_eq_true h3
    clear h hI hx hx2
    go_enter Try.func76, Try.ntmps76
    go_wp2_with (fail)
    go_ret2
    exact ⟨rfl, Below.refl _ _⟩
  have d5 : decide (x < 0) = false := decide_eq_false h3
  have h4 : 1000000 < x := by omega
  have d6 : decide (1000000 < x) = true := decide_eq_true h4
  clear h hI hx hx2
  go_enter Try.func76, Try.ntmps76
  go_wp2_with (fail)
  go_ret2
  exact ⟨rfl, Below.refl _ _⟩
end
set_option maxRecDepth 100000 in
set_option maxHeartbeats 3200000 in
theorem denP_out (b o n c : Nat) (x : Int) (Y : List Int) (w : World) (hI : IZ w (some ⟨b, o, none⟩) (x :: Y)) (hn : (x :: Y).length = n) (hnc : n ≤ c) (h1 : 2 ≤ n) (h2 : n ≤ 20) (h3 : 0 ≤ x) (h4 : x ≤ 1000000) (h : inL 1000000 Y = false) :
    Calls Try.prog 76 #[.slice (some ⟨b, o, none⟩) n c] w (fun e w' => e = .returned (.tuple #[.slice none 0 0, .bool false]) ∧ Below w.heap.size w w') := by
  have d1 : decide ((n : Int) < 2) = false := decide_eq_false (by omega)
  have d2 : decide (n < 2) = false := decide_eq_false (by omega)
  have d3 : decide ((20 : Int) < (n : Int)) = false := decide_eq_false (by omega)
  have d4 : decide (20 < n) = false := decide_eq_false (by omega)
  have d5 : decide (x < 0) = false := decide_eq_false (by omega)
  have d6 : decide (1000000 < x) = false := decide_eq_false (by omega)
  obtain ⟨b', o', he, c0⟩ := hI 0 x rfl
  injection he with he
  injection he with e1 e2
  subst e1 e2
  rw [Nat.add_zero] at c0
  have hd : IZ w (some ⟨b, o + 1, none⟩) Y := hI.drop 1
  have hYl : Y.length = n - 1 := by simp at hn; omega
  have i0 : (0 : Int) < (n : Int) := by omega
  have hin := Lib.hid (inP_any (some ⟨b, o + 1, none⟩) (n - 1) (c - 1) 1000000 Y false w hd hYl (by omega) h)
  clear hI hd h hYl hn
  go_enter Try.func76, Try.ntmps76
  go_wp2_with (go_at_call 51; go_loud (refine hin.out.mono ?_); rintro e w1 ⟨rfl, hb⟩; have hb1 := Lib.hid hb; clear hb)
  go_ret2
  exact ⟨rfl, hb1.out⟩
theorem qGo_step {last q a r : Nat} {l : List Int} {outs : List Nat} {D : Option (List Nat)} (h : (qGoZ last q ((a : Int) :: l)).map (fun t => outs ++ t) = D) (ha : 1 ≤ a) (ha2 : a ≤ 1000000) (hr : a * q + last = r) :
    (1000000000 < r → D = none) ∧ (r ≤ 1000000000 → (qGoZ q r l).map (fun t => (outs ++ [r]) ++ t) = D) := by
  simp only [qGoZ] at h
  rw [if_pos (show (1 : Int) ≤ (a : Int) ∧ (a : Int) ≤ 1000000 by omega), Int.toNat_natCast, hr] at h
  refine ⟨fun h1 => ?_, fun h1 => ?_⟩
  · rw [if_neg (by omega)] at h
    rw [← h]; rfl
  · rw [if_pos h1] at h
    rw [← h]
    cases qGoZ q r l with
    | none => rfl
    | some t => simp
theorem getD_end {outs : List Nat} {r k : Nat} (h : outs.length = k) : (outs ++ [r]).getD k 0 = r := by
  simp [List.getD, h]
set_option maxRecDepth 100000 in
set_option maxHeartbeats 6400000 in
theorem denP_in (b o n c : Nat) (x : Int) (T : List Nat) (D : Option (List Nat)) (w : World) (hI : IZ w (some ⟨b, o, none⟩) (x :: nzT T)) (hn : T.length + 1 = n) (hnc : n ≤ c) (h1 : 2 ≤ n) (h2 : n ≤ 20) (h3 : 0 ≤ x) (h4 : x ≤ 1000000) (hT : ∀ a ∈ T, 1 ≤ a ∧ a ≤ 1000000) (hD : (qGoZ 0 1 (nzT T)).map (fun r => [1] ++ r) = D) :
    Calls Try.prog 76 #[.slice (some ⟨b, o, none⟩) n c] w (DenPost D w) := by
  have d1 : decide ((n : Int) < 2) = false := decide_eq_false (by omega)
  have d2 : decide (n < 2) = false := decide_eq_false (by omega)
  have d3 : decide ((20 : Int) < (n : Int)) = false := decide_eq_false (by omega)
  have d4 : decide (20 < n) = false := decide_eq_false (by omega)
  have d5 : decide (x < 0) = false := decide_eq_false (by omega)
  have d6 : decide (1000000 < x) = false := decide_eq_false (by omega)
  obtain ⟨b', o', he, c0⟩ := hI 0 x rfl
  injection he with he
  injection he with e1 e2
  subst e1 e2
  rw [Nat.add_zero] at c0
  have hd : IZ w (some ⟨b, o + 1, none⟩) (nzT T) := hI.drop 1
  have hin := Lib.hid (inP_any (some ⟨b, o + 1, none⟩) (n - 1) (c - 1) 1000000 (nzT T) true w hd (by rw [nzT_length]; omega) (by omega) (inL_iff.2 (fun y hy => by
    unfold nzT at hy
    obtain ⟨a, ha, rfl⟩ := List.mem_map.1 hy
    have := hT a ha
    omega)))
  have i0 : (0 : Int) < (n : Int) := by omega
  obtain ⟨N, hN⟩ : ∃ N, n - 1 = N := ⟨_, rfl⟩
  have hNI : (n : Int) - 1 = (N : Int) := by omega
  rw [hN] at hin
  have hdH := Lib.hid hd
  have hTH := Lib.hid hT
  have hDH := Lib.hid hD
  have hTl : Hid (T.length = N) := by show _ = _; omega
  have hNl : N ≤ 19 := by omega
  clear hI hd hT hD hn
  go_enter Try.func76, Try.ntmps76
  go_wp2_with (go_at_call 51; go_loud (refine hin.out.mono ?_); rintro e w1 ⟨rfl, hb⟩; have hb1 := Lib.hid hb; clear hb)
  clear hN
  go_loopg [4, 5, 7, 8, 9, 40] N (fun gk ov lv av qv nv iv wr => ∃ (k last q : Nat) (outs : List Nat) (v : Value), v = ov ∧ lv = .int .i64 (last : Nat) ∧ iv = .int .i64 (k : Nat) ∧ k + gk = N ∧ last ≤ 1000000000 ∧ q ≤ 1000000000 ∧ outs.length = k + 1 ∧ outs.getD k 0 = q ∧ ZE wr w.heap.size v (nzT outs) ∧ (qGoZ last q (nzT (T.drop k))).map (fun r => outs ++ r) = D ∧ Below w.heap.size w wr)
  case atStart =>
    refine ⟨0, 0, 1, [1], _, rfl, rfl, rfl, by omega, by omega, by omega, rfl, rfl, ?_, hDH.out, below_al hb1.out _⟩
    exact .inl (zi_lit1 _ 1 _ hb1.out.size)
  case round =>
    obtain ⟨k, last, q, outs, v, rfl, rfl, rfl, hkg, hlast, hq, hol, hoq, hZ, hg, hbl⟩ := hrel
    have hZH := Lib.hid hZ
    have hblH := Lib.hid hbl
    have hbs := hbl.size
    have holH := Lib.hid hol
    clear hbl
    obtain ⟨g, cc, hv⟩ := hZ.some (fun e => by have := congrArg List.length e; rw [nzT_length, hol] at this; simp at this)
    rw [nzT_length, hol] at hv
    subst hv
    by_cases hkN : k < N
    · have hkI : (k : Int) < (N : Int) := by omega
      obtain ⟨a, ha⟩ : ∃ a, T.getD k 0 = a := ⟨_, rfl⟩
      have hkT : k < T.length := by rw [hTl.out]; exact hkN
      have haT := hTH.out a (by rw [← ha]; simp [List.getD, hkT])
      have ha1 := haT.1
      have ha2 := haT.2
      have c1 := iz_nat (hdH.out.below hblH.out) hkT ha
      have c2 := iz_nat (i := k) hZH.out.iz.1 (by rw [hol]; omega) hoq
      rw [Nat.zero_add] at c2
      have hdr : nzT (T.drop k) = (a : Int) :: nzT (T.drop (k + 1)) := by
        rw [List.drop_eq_getElem_cons hkT]
        simp [List.getD, hkT] at ha
        rw [ha]; rfl
      rw [hdr] at hg
      obtain ⟨r, hr⟩ : ∃ r, a * q + last = r := ⟨_, rfl⟩
      have hst := qGo_step hg ha1 ha2 hr
      have hst1 := Lib.hid hst.1
      have hst2 := Lib.hid hst.2
      obtain ⟨V, hV⟩ : ∃ V, a * q = V := ⟨_, rfl⟩
      have hVI := mulN hV
      obtain ⟨U, hU⟩ : ∃ U, 1000000000 / a = U := ⟨_, rfl⟩
      have f1 : ¬ (a : Int) = 0 := by omega
      have f2 : ((a : Int) == 0) = false := by simp; omega
      have t3 : (1000000000 : Int).tdiv (a : Int) = (U : Int) := by rw [← hU]; exact (Int.ofNat_tdiv 1000000000 a).symm
      have t4 : (1000000000 : Int) / (a : Int) = (U : Int) := by rw [← hU]; exact (Int.natCast_ediv 1000000000 a).symm
      have hUl : U ≤ 1000000000 := by rw [← hU]; exact Nat.div_le_self _ _
      have hk0 : (0 : Int) ≤ (k : Int) := by omega
      have hk1 : (k : Int) < (k : Int) + 1 := by omega
      have hkl : k ≤ 20 := by omega
      by_cases hqU : U < q
      · have hqUI : (U : Int) < (q : Int) := by omega
        have hno := hst1.out (by
          have h5 : 1000000000 < q * a := by
            rw [← hU] at hqU
            exact (Nat.div_lt_iff_lt_mul (by omega)).1 hqU
          rw [Nat.mul_comm] at h5
          omega)
        have hnoH := Lib.hid hno
        clear hst hg hdr hV hU ha haT hr hno hol hoq hZ
        go_wp2_with (fail)
        go_ret2
        exact .inl ⟨hnoH.out, rfl, hblH.out⟩
      · have hqUI : ¬ (U : Int) < (q : Int) := by omega
        have hVl : V ≤ 1000000000 := by
          rw [← hV, Nat.mul_comm]
          refine (Nat.le_div_iff_mul_le (by omega)).1 ?_
          rw [hU]; omega
        have hrI : (V : Int) + (last : Int) = (r : Int) := by omega
        have hrl : r ≤ 2000000000 := by omega
        by_cases hr9 : 1000000000 < r
        · have hr9I : (1000000000 : Int) < (r : Int) := by omega
          have hnoH := Lib.hid (hst1.out hr9)
          clear hst hg hdr hV hU ha haT hr hol hoq hZ
          go_wp2_with (fail)
          go_ret2
          exact .inl ⟨hnoH.out, rfl, hblH.out⟩
        · have hr9I : ¬ (1000000000 : Int) < (r : Int) := by omega
          have hnx := Lib.hid (hst2.out (by omega))
          have hjl : Hid ((nzT outs).length = k + 1) := by show _ = _; rw [nzT_length, holH.out]
          clear hst hg hdr hV hU ha haT hr hol hoq hZ
          go_wp2_with (first
            | (at_builtin; go_loud (refine wpList_append_ze _ rfl (.tmp 61) (.tmp 63) _ rfl Try.underlying22 w.heap.size (k + 1) (.slice (some ⟨g, 0, none⟩) (k + 1) cc) (nzT outs) (by rfl) (hZH.out.below (below_al (Below.refl _ _) _)) hjl.out _ 1 1 [(r : Int)] (by rfl) (IZ.one (by simp)) rfl (by omega) (by omega) (by simp; omega) ?_); intro v2 w4 hA4; rw [← nzT_snoc] at hA4; have hA4H := Lib.hid hA4; clear hA4))
          go_roundg (gk - 1)
          case measure => omega
          case rel => exact ⟨k + 1, q, r, outs ++ [r], v2, rfl, rfl, by go_num, by omega, hq, by omega, by rw [List.length_append, holH.out]; rfl, getD_end holH.out, hA4H.out.1, hnx.out, (below_al hblH.out _).trans hA4H.out.2.1⟩
    · have hkI : ¬ (k : Int) < (N : Int) := by omega
      have hke : k = N := by omega
      subst hke
      rw [List.drop_eq_nil_of_le (by rw [hTl.out]; omega)] at hg
      have hD2 : D = some outs := by rw [← hg]; simp [nzT, qGoZ]
      have hDH2 := Lib.hid hD2
      clear hg hD2 hol hoq hZ
      go_wp2_with (fail)
      go_ret2
      exact .inr ⟨outs, k + 1, g, cc, hDH2.out, holH.out, rfl, hZH.out.iz.2, hZH.out.iz.1, hblH.out⟩
theorem nz_of : ∀ {Y : List Int}, (∀ y ∈ Y, 0 ≤ y) → ∃ T : List Nat, Y = nzT T
  | [], _ => ⟨[], rfl⟩
  | y :: Y, h => by
    obtain ⟨T, hT⟩ := nz_of (Y := Y) (fun z hz => h z (List.mem_cons_of_mem _ hz))
    have := h y (by simp)
    refine ⟨y.toNat :: T, ?_⟩
    rw [hT]
    show y :: nzT T = ((y.toNat : Nat) : Int) :: nzT T
    rw [Int.toNat_of_nonneg this]
theorem denP_any (ao : Option Addr) (n c : Nat) (X : List Int) (w : World) (hI : IZ w ao X) (hn : X.length = n) (hnc : n ≤ c) :
    Calls Try.prog 76 #[.slice ao n c] w (DenPost (den X) w) := by
  by_cases h : 2 ≤ X.length ∧ X.length ≤ 20 ∧ 0 ≤ X.headD 0 ∧ X.headD 0 ≤ 1000000
  · rcases X with _ | ⟨x, Y⟩
    · simp at h
    have h' := h
    simp only [List.headD_cons] at h'
    obtain ⟨b, o, rfl, _⟩ := hI.at (i := 0) (by omega)
    cases hb : inL 1000000 Y with
    | false =>
      refine (denP_out b o n c x Y w hI hn hnc (by omega) (by omega) h'.2.2.1 h'.2.2.2 hb).mono fun e w' ⟨he, hb'⟩ => .inl ⟨?_, he, hb'⟩
      rw [den_yes h]
      show (qGoZ 0 1 Y).map _ = none
      rw [qGoZ_bad]
      · rfl
      · refine Classical.byContradiction fun hno => ?_
        have : inL 1000000 Y = true := inL_iff.2 (fun y hy => Classical.byContradiction fun h5 => hno ⟨y, hy, h5⟩)
        rw [this] at hb; cases hb
    | true =>
      have hY := inL_iff.1 hb
      obtain ⟨T, hT⟩ : ∃ T : List Nat, Y = nzT T := nz_of (fun y hy => by have := hY y hy; omega)
      subst hT
      exact denP_in b o n c x T _ w hI (by simpa [nzT_length] using hn) hnc (by omega) (by omega) h'.2.2.1 h'.2.2.2 (fun a ha => by
        have := hY (a : Int) (by unfold nzT; exact List.mem_map.2 ⟨a, ha, rfl⟩)
        omega) (den_yes h).symm
  · exact (denP_no ao n c X w hI hn hnc h).mono fun e w' ⟨he, hb⟩ => .inl ⟨den_no h, he, hb⟩
end Go.Proofs.Ytbehfhmdilifkaa
