/- Ie -/
import Derived.Test.YtbehfhmdilifkaaQId
set_option linter.unusedVariables false
/- Walk of the law TeethBest. -/
namespace Go.Proofs.Ytbehfhmdilifkaa
open Go Go.RowKit Go.Proofs

theorem trm_max {m : Nat} : ∀ {b a : Nat}, a ≤ m → b ≤ m → ∀ x ∈ trm a b, x ≤ m := fun {b} => by
  induction b using Nat.strongRecOn with
  | ind b ih =>
    intro a ha hb x hx
    by_cases h : b = 0
    · subst h; rw [trm_zero] at hx; cases hx
    · rw [trm_pos (by omega), List.mem_cons] at hx
      rcases hx with rfl | hx
      · exact Nat.le_trans (Nat.div_le_self _ _) ha
      · exact ih (a % b) (Nat.mod_lt _ (by omega)) hb (Nat.le_trans (Nat.le_of_lt (Nat.mod_lt _ (by omega))) hb) x hx
theorem trm_ge : ∀ {r b : Nat}, r < b → ∀ x ∈ trm b r, 1 ≤ x := fun {r} => by
  induction r using Nat.strongRecOn with
  | ind r ih =>
    intro b hr x hx
    by_cases h : r = 0
    · subst h; rw [trm_zero] at hx; cases hx
    · rw [trm_pos (by omega), List.mem_cons] at hx
      rcases hx with rfl | hx
      · exact Nat.div_pos (Nat.le_of_lt hr) (by omega)
      · exact ih (b % r) (Nat.mod_lt _ (by omega)) (Nat.mod_lt _ (by omega)) x hx
theorem trm_last : ∀ {r b : Nat}, 0 < r → r < b → 2 ≤ (trm b r).getD ((trm b r).length - 1) 0 := fun {r} => by
  induction r using Nat.strongRecOn with
  | ind r ih =>
    intro b h0 hr
    rw [trm_pos h0]
    by_cases h : b % r = 0
    · rw [h, trm_zero]
      simp only [List.length_cons, List.length_nil, Nat.zero_add, Nat.sub_self, List.getD_cons_zero]
      have h1 := Nat.div_add_mod b r
      rw [h, Nat.add_zero] at h1
      rcases Nat.lt_or_ge (b / r) 2 with h2 | h2
      · exfalso
        have h3 : r * (b / r) ≤ r * 1 := Nat.mul_le_mul_left r (by omega)
        omega
      · exact h2
    · have h2 := ih (b % r) (Nat.mod_lt _ h0) (by omega) (Nat.mod_lt _ h0)
      have h3 : 0 < (trm r (b % r)).length := List.length_pos_iff.2 (trm_ne (by omega))
      obtain ⟨n, hn⟩ : ∃ n, (trm r (b % r)).length = n + 1 := ⟨(trm r (b % r)).length - 1, by omega⟩
      rw [hn] at h2
      simp only [List.length_cons, hn]
      simpa using h2
set_option maxRecDepth 100000 in
set_option maxHeartbeats 12800000 in
theorem bestLaw_at (x y A B o u L : Nat) (T : List Nat) (w : World) (hx : x < 4294967296) (hy : y < 4294967296) (hA : x % 1000000 = A) (hB : y % 1000000 = B) (ho : A + 1 = o) (hu : B + 1 = u) (hT : trm o u = T) (hL : T.length = L) :
    Calls Try.prog 9 #[.int .u32 (x : Nat), .int .u32 (y : Nat)] w (RetB w true) := by
  have tA : (x : Int).tmod 1000000 = (A : Int) := (tm hA).1
  have tA2 : (x : Int) % 1000000 = (A : Int) := (tm hA).2
  have tB : (y : Int).tmod 1000000 = (B : Int) := (tm hB).1
  have tB2 : (y : Int) % 1000000 = (B : Int) := (tm hB).2
  have lA : A < 1000000 := by rw [← hA]; exact Nat.mod_lt _ (by omega)
  have lB : B < 1000000 := by rw [← hB]; exact Nat.mod_lt _ (by omega)
  have haI : (A : Int) + 1 = (o : Int) := by omega
  have hbI : (B : Int) + 1 = (u : Int) := by omega
  have o1 : 1 ≤ o := by omega
  have u1 : 1 ≤ u := by omega
  have o2 : o ≤ 1000000 := by omega
  have u2 : u ≤ 1000000 := by omega
  have hLl : L ≤ 1000000 := by rw [← hL, ← hT]; exact Nat.le_trans (trm_length o u) u2
  have hL1 : 1 ≤ L := by rw [← hL, ← hT]; exact List.length_pos_iff.2 (trm_ne u1)
  have hTc : T = o / u :: trm u (o % u) := by rw [← hT]; exact trm_pos u1
  have hmax : ∀ x ∈ T, x ≤ 1000000 := by rw [← hT]; exact trm_max o2 u2
  have hge : ∀ i, 1 ≤ i → i < L → 1 ≤ T.getD i 0 := fun i hi hl => by
    obtain ⟨j, rfl⟩ : ∃ j, i = j + 1 := ⟨i - 1, by omega⟩
    rw [hTc]
    have hj : j < (trm u (o % u)).length := by rw [← hL, hTc] at hl; simpa using hl
    rw [List.getD_cons_succ, List.getD, List.getElem?_eq_getElem hj, Option.getD_some]
    exact trm_ge (Nat.mod_lt o u1) _ (List.getElem_mem hj)
  have hlast : 2 ≤ L → 2 ≤ T.getD (L - 1) 0 := fun h2 => by
    have hl2 : (trm u (o % u)).length = L - 1 := by rw [← hL, hTc]; rfl
    have hs : 0 < o % u := by
      rcases Nat.eq_zero_or_pos (o % u) with h | h
      · rw [h, trm_zero] at hl2; simp at hl2; omega
      · exact h
    have h3 := trm_last hs (Nat.mod_lt o u1)
    rw [hl2] at h3
    obtain ⟨k, hk⟩ : ∃ k, L - 1 = k + 1 := ⟨L - 2, by omega⟩
    rw [hk] at h3 ⊢
    rw [hTc, List.getD_cons_succ]
    exact h3
  have h1 := Lib.hid (fun W => termsAt o u L T hT hL o1 o2 u1 u2 W)
  have hLH := Lib.hid hL
  have hTcH := Lib.hid hTc
  have hmaxH := Lib.hid hmax
  have hgeH := Lib.hid hge
  have eL : ((L : Int) == 0) = false := by simp; omega
  have eL2 : (L == 0) = false := by simp; omega
  obtain ⟨M, hM⟩ : ∃ M, L - 1 = M := ⟨_, rfl⟩
  have hMI : (L : Int) - 1 = (M : Int) := by omega
  have hML : (M : Int) < (L : Int) := by omega
  have hM0 : (0 : Int) ≤ (M : Int) := by omega
  have hL0 : (0 : Int) < (L : Int) := by omega
  obtain ⟨z, hz⟩ : ∃ z, T.getD M 0 = z := ⟨_, rfl⟩
  have hz2 : 2 ≤ L → 2 ≤ z := fun h => by rw [← hz, ← hM]; exact hlast h
  have hzH := Lib.hid hz
  have hML2 : M < L := by omega
  clear hA hB ho hu hT hL hTc hmax hge hlast hz hM
  go_enter Try.func9, Try.ntmps9
  go_upto_region 3 with (first
    | (go_at_call 21; (with_reducible refine (h1.out _).mono ?_); rintro e1 w2 ⟨g2, c2, rfl, hc2, hI, hb⟩; have hI2 := Lib.hid hI; have hb2 := Lib.hid hb; clear hI hb))
  have cM := iz_cell hI2.out (i := M) (by rw [hLH.out]; exact hML2) hzH.out
  by_cases hL2 : 2 ≤ L
  · have k1 : decide ((1 : Int) < (L : Int)) = true := decide_eq_true (by omega)
    have k2 : decide (1 < L) = true := decide_eq_true (by omega)
    have hz3 := hz2 hL2
    have k3 : decide ((z : Int) < 2) = false := decide_eq_false (by omega)
    have k4 : decide (z < 2) = false := decide_eq_false (by omega)
    go_wp2_with (first
      | (go_at_call 23; (with_reducible refine (lives_any _).mono ?_); rintro e1 w3 ⟨rfl, hb⟩; have hb3 := Lib.hid hb; clear hb))
    have hI3 := Lib.hid (hI2.out.below hb3.out)
    have hbw := Lib.hid (bseqT hb2.out hb3.out)
    clear cM hI2 hb2 hb3 h1
    go_loopg [9] L (fun gk iv wr => ∃ i : Nat, iv = .int .i64 (i : Nat) ∧ i + gk = L ∧ Below w3.heap.size w3 wr)
    case atStart => exact ⟨0, rfl, by omega, Below.refl _ _⟩
    case round =>
      obtain ⟨i, rfl, hig, hbl⟩ := hrel
      have hblH := Lib.hid hbl
      clear hbl
      by_cases hiL : i < L
      · have hiI : (i : Int) < (L : Int) := by omega
        obtain ⟨t, ht⟩ : ∃ t, T.getD i 0 = t := ⟨_, rfl⟩
        have c1 := iz_cell (hI3.out.below hblH.out) (i := i) (by rw [hLH.out]; exact hiL) ht
        have htl : t ≤ 1000000 := by
          rw [← ht, List.getD, List.getElem?_eq_getElem (by rw [hLH.out]; exact hiL)]
          exact hmaxH.out _ (by simp)
        have d1 : decide ((t : Int) < 0) = false := decide_eq_false (by omega)
        have d2 : decide ((1000000 : Int) < (t : Int)) = false := decide_eq_false (by omega)
        have d3 : decide (1000000 < t) = false := decide_eq_false (by omega)
        have hi0 : (0 : Int) ≤ (i : Int) := by omega
        by_cases hi1 : i = 0
        · subst hi1
          clear ht
          go_wp2_with (fail)
          go_roundg (gk - 1)
          case measure => omega
          case rel => exact ⟨1, by go_num, by omega, hblH.out⟩
        · have ht1 := hgeH.out i (by omega) hiL
          rw [ht] at ht1
          have d4 : decide ((t : Int) < 1) = false := decide_eq_false (by omega)
          have d5 : decide (t < 1) = false := decide_eq_false (by omega)
          have d6 : decide ((0 : Int) < (i : Int)) = true := decide_eq_true (by omega)
          have d7 : decide (0 < i) = true := decide_eq_true (by omega)
          clear ht
          go_wp2_with (fail)
          go_roundg (gk - 1)
          case measure => omega
          case rel => exact ⟨i + 1, by go_num, by omega, hblH.out⟩
      · have hiI : ¬ (i : Int) < (L : Int) := by omega
        obtain ⟨W4, hW4⟩ : ∃ W4, W4 = wr := ⟨_, rfl⟩
        subst hW4
        obtain ⟨p0, hp0⟩ : ∃ p0, o / u = p0 := ⟨_, rfl⟩
        have c0 := iz_cell (hI3.out.below hblH.out) (i := 0) (x := p0) (by rw [hLH.out]; omega) (by rw [hTcH.out, ← hp0]; rfl)
        have hC0 := Lib.hid (CI.start (o := o) (u := u) u1)
        rw [hp0] at hC0
        have hp0H := Lib.hid hp0
        have hb4 := Lib.hid (bseqT hbw.out hblH.out)
        have hI4 := Lib.hid (hI3.out.below hblH.out)
        clear hp0 hblH hI3 hbw hig hiL
        go_wp2_with (fail)
        clear c0
        go_loopg [10, 11, 12, 13, 14, 15, 16, 17] L (fun gk pv qv ppv qqv iv uv vv fv wr => ∃ i p q pp qq r s : Nat, pv = .int .i64 (p : Nat) ∧ qv = .int .i64 (q : Nat) ∧ ppv = .int .i64 (pp : Nat) ∧ qqv = .int .i64 (qq : Nat) ∧ iv = .int .i64 (i : Nat) ∧ i + gk = L ∧ CI o u p q pp qq r s ∧ ((i = 0 ∧ p = p0 ∧ q = 1 ∧ r = u ∧ s = o % u) ∨ (1 ≤ i ∧ trm r s = T.drop i)) ∧ Below W4.heap.size W4 wr)
        case atStart => exact ⟨0, p0, 1, 1, 0, u, o % u, rfl, rfl, rfl, rfl, rfl, by omega, hC0.out, .inl ⟨rfl, rfl, rfl, rfl, rfl⟩, Below.refl _ _⟩
        case round =>
          clear hC0
          obtain ⟨i, p, q, pp, qq, r, s, rfl, rfl, rfl, rfl, rfl, hig, hCI, hd, hbl⟩ := hrel
          have hblH := Lib.hid hbl
          clear hbl
          have hle := hCI.p_le
          have hq1 := hCI.q1
          have hpl : p ≤ 1000000 := by omega
          have hql : q ≤ 1000000 := by omega
          by_cases hiL : i < L
          · have hiI : (i : Int) < (L : Int) := by omega
            have hi0 : (0 : Int) ≤ (i : Int) := by omega
            rcases hd with ⟨hi1, hp, hq, hr, hs⟩ | ⟨hi1, hd⟩
            · subst hi1 hq
              have d1 : decide ((1000000 : Int) < (p : Int)) = false := decide_eq_false (by omega)
              have d2 : decide (1000000 < p) = false := decide_eq_false (by omega)
              have hCIH := Lib.hid hCI
              have hdr : Hid (trm r s = T.drop 1) := by show _ = _; rw [hs, hr, hTcH.out]; rfl
              clear hCI
              obtain ⟨t1, ht1⟩ : ∃ t1, T.getD 1 0 = t1 := ⟨_, rfl⟩
              have c1 := iz_cell (hI4.out.below hblH.out) (i := 1) (by rw [hLH.out]; exact hL2) ht1
              have hL2I : (1 : Int) < (L : Int) := by omega
              have ht11 := hgeH.out 1 (by omega) (by omega)
              rw [ht1] at ht11
              have hu1s : t1 ≠ 1 → 2 * s ≤ u := fun hne => by
                have h5 := hdr.out
                have h6 : T.drop 1 = t1 :: T.drop 2 := by
                  have h7 : 1 < T.length := by rw [hLH.out]; omega
                  rw [List.drop_eq_getElem_cons h7]
                  simp [List.getD, h7] at ht1
                  rw [ht1]
                rw [h6] at h5
                have hs1 : 1 ≤ s := by
                  rcases Nat.eq_zero_or_pos s with h | h
                  · rw [h, trm_zero] at h5; cases h5
                  · exact h
                rw [trm_pos hs1] at h5
                injection h5 with h8 _
                have h9 : 2 ≤ r / s := by omega
                have h10 := (Nat.le_div_iff_mul_le hs1).1 h9
                rw [hr] at h10
                exact h10
              by_cases ht1e : t1 = 1
              · have k5 : ((t1 : Int) == 1) = true := by simp; omega
                have k6 : (t1 == 1) = true := by simp; omega
                subst ht1e
                clear hu1s ht1 hr hs ht11
                go_wp2_with (fail)
                go_roundg (gk - 1)
                case measure => omega
                case rel => exact ⟨1, p, 1, pp, qq, r, s, rfl, rfl, rfl, rfl, by go_num, by omega, hCIH.out, .inr ⟨by omega, hdr.out⟩, hblH.out⟩
              · have k5 : ((t1 : Int) == 1) = false := by simp; omega
                have k6 : (t1 == 1) = false := by simp; omega
                have k7 : ¬ (t1 : Int) = 1 := by omega
                have hN0 : NearI o u 1 p 1 := by rw [hp]; rw [← hp0H.out]; exact CI.near0 u1 hs.symm (hu1s ht1e)
                clear hu1s ht1 hr hs ht11 hp
                have hnear := Lib.hid (fun W => nearP_good o u 1 p 1 W o1 o2 u1 u2 (by omega) (by omega) hN0)
                clear hN0
                go_wp2_with (first
                  | (go_at_call 26; (refine (hnear.out _).mono ?_); rintro e1 w5 ⟨rfl, hb⟩; have hb5 := Lib.hid hb; clear hb))
                go_roundg (gk - 1)
                case measure => omega
                case rel => exact ⟨1, p, 1, pp, qq, r, s, rfl, rfl, rfl, rfl, by go_num, by omega, hCIH.out, .inr ⟨by omega, hdr.out⟩, bseqT hblH.out hb5.out⟩
            · obtain ⟨t, ht⟩ : ∃ t, T.getD i 0 = t := ⟨_, rfl⟩
              have hit : i < T.length := by rw [hLH.out]; exact hiL
              have hs1 : 1 ≤ s := by
                rcases Nat.eq_zero_or_pos s with h | h
                · rw [h, trm_zero] at hd
                  have := congrArg List.length hd
                  simp at this; omega
                · exact h
              have hdc : T.drop i = t :: T.drop (i + 1) := by
                rw [List.drop_eq_getElem_cons hit]
                simp [List.getD, hit] at ht
                rw [ht]
              rw [trm_pos hs1, hdc] at hd
              injection hd with hd1 hd2
              have hst := hCI.step hs1
              rw [hd1] at hst
              have c1 := iz_cell (hI4.out.below hblH.out) (i := i) hit ht
              obtain ⟨V, hV⟩ : ∃ V, t * p = V := ⟨_, rfl⟩
              obtain ⟨U, hU⟩ : ∃ U, t * q = U := ⟨_, rfl⟩
              have hVI := mulN hV
              have hUI := mulN hU
              rw [hV, hU] at hst
              obtain ⟨P, hP⟩ : ∃ P, V + pp = P := ⟨_, rfl⟩
              obtain ⟨Q, hQ⟩ : ∃ Q, U + qq = Q := ⟨_, rfl⟩
              have hPI : (V : Int) + (pp : Int) = (P : Int) := by omega
              have hQI : (U : Int) + (qq : Int) = (Q : Int) := by omega
              rw [hP, hQ] at hst
              have hle2 := hst.p_le
              have hPl : P ≤ 1000000 := by omega
              have hQl : Q ≤ 1000000 := by omega
              have hVl : V ≤ 1000000 := by omega
              have hUl : U ≤ 1000000 := by omega
              have htl : t ≤ 1000000 := by
                rw [← ht, List.getD, List.getElem?_eq_getElem hit]
                exact hmaxH.out _ (by simp)
              have hN0 := hst.near hq1
              have hQ1 := hst.q1
              have hnear := Lib.hid (fun W => nearP_good o u Q P Q W o1 o2 u1 u2 hQ1 hQl hN0)
              have hstH := Lib.hid hst
              have hd2H := Lib.hid hd2
              have d1 : decide ((1000000 : Int) < (P : Int)) = false := decide_eq_false (by omega)
              have d2 : decide (1000000 < P) = false := decide_eq_false (by omega)
              have d3 : decide ((1000000 : Int) < (Q : Int)) = false := decide_eq_false (by omega)
              have d4 : decide (1000000 < Q) = false := decide_eq_false (by omega)
              have e1 : (0 : Int) < (i : Int) := by omega
              have e2 : ((i : Int) == 0) = false := by simp; omega
              have e3 : (i == 0) = false := by simp; omega
              have e4 : ((P : Int) != (P : Int)) = false := by simp
              have e5 : ((Q : Int) != (Q : Int)) = false := by simp
              have e6 : ¬ (i : Int) = 0 := by omega
              clear hd1 hd2 hdc ht hV hU hP hQ hst hN0 hCI hle hle2
              go_wp2_with (first
                | (go_at_call 26; (with_reducible refine (hnear.out _).mono ?_); rintro e1 w5 ⟨rfl, hb⟩; have hb5 := Lib.hid hb; clear hb))
              go_roundg (gk - 1)
              case measure => omega
              case rel => exact ⟨i + 1, P, Q, p, q, s, r % s, rfl, rfl, rfl, rfl, by go_num, by omega, hstH.out, .inr ⟨by omega, hd2H.out⟩, bseqT hblH.out hb5.out⟩
          · have hiI : ¬ (i : Int) < (L : Int) := by omega
            have hs0 : s = 0 := by
              rcases hd with ⟨h, _⟩ | ⟨_, h⟩
              · omega
              · rw [List.drop_eq_nil_of_le (by rw [hLH.out]; omega)] at h
                rcases Nat.eq_zero_or_pos s with h5 | h5
                · exact h5
                · exact absurd h (trm_ne h5)
            have ho := hCI.ho
            have hu := hCI.hu
            rw [hs0, Nat.mul_zero, Nat.add_zero] at ho hu
            have hpu : p * u = q * o := by
              rw [ho, hu, ← Nat.mul_assoc, ← Nat.mul_assoc, Nat.mul_comm p q]
            obtain ⟨X, hX⟩ : ∃ X, p * u = X := ⟨_, rfl⟩
            have hXI := mulN hX
            have hYI := mulN (hpu.symm.trans hX)
            have hXl : X ≤ 1000000000000 := by rw [← hX]; exact Nat.le_trans (Nat.mul_le_mul hpl u2) (by decide)
            have eX : ((X : Int) == (X : Int)) = true := by simp
            clear hs0 ho hu hpu hX hCI hd
            go_wp2_with (fail)
            go_ret
            exact ⟨rfl, bseqT hb4.out hblH.out⟩
  · have k1 : decide ((1 : Int) < (L : Int)) = false := decide_eq_false (by omega)
    have k2 : decide (1 < L) = false := decide_eq_false (by omega)
    go_wp2_with (first
      | (go_at_call 23; (with_reducible refine (lives_any _).mono ?_); rintro e1 w3 ⟨rfl, hb⟩; have hb3 := Lib.hid hb; clear hb))
    have hI3 := Lib.hid (hI2.out.below hb3.out)
    have hbw := Lib.hid (bseqT hb2.out hb3.out)
    clear cM hI2 hb2 hb3 h1
    go_loopg [9] L (fun gk iv wr => ∃ i : Nat, iv = .int .i64 (i : Nat) ∧ i + gk = L ∧ Below w3.heap.size w3 wr)
    case atStart => exact ⟨0, rfl, by omega, Below.refl _ _⟩
    case round =>
      obtain ⟨i, rfl, hig, hbl⟩ := hrel
      have hblH := Lib.hid hbl
      clear hbl
      by_cases hiL : i < L
      · have hiI : (i : Int) < (L : Int) := by omega
        obtain ⟨t, ht⟩ : ∃ t, T.getD i 0 = t := ⟨_, rfl⟩
        have c1 := iz_cell (hI3.out.below hblH.out) (i := i) (by rw [hLH.out]; exact hiL) ht
        have htl : t ≤ 1000000 := by
          rw [← ht, List.getD, List.getElem?_eq_getElem (by rw [hLH.out]; exact hiL)]
          exact hmaxH.out _ (by simp)
        have d1 : decide ((t : Int) < 0) = false := decide_eq_false (by omega)
        have d2 : decide ((1000000 : Int) < (t : Int)) = false := decide_eq_false (by omega)
        have d3 : decide (1000000 < t) = false := decide_eq_false (by omega)
        have hi0 : (0 : Int) ≤ (i : Int) := by omega
        by_cases hi1 : i = 0
        · subst hi1
          clear ht
          go_wp2_with (fail)
          go_roundg (gk - 1)
          case measure => omega
          case rel => exact ⟨1, by go_num, by omega, hblH.out⟩
        · have ht1 := hgeH.out i (by omega) hiL
          rw [ht] at ht1
          have d4 : decide ((t : Int) < 1) = false := decide_eq_false (by omega)
          have d5 : decide (t < 1) = false := decide_eq_false (by omega)
          have d6 : decide ((0 : Int) < (i : Int)) = true := decide_eq_true (by omega)
          have d7 : decide (0 < i) = true := decide_eq_true (by omega)
          clear ht
          go_wp2_with (fail)
          go_roundg (gk - 1)
          case measure => omega
          case rel => exact ⟨i + 1, by go_num, by omega, hblH.out⟩
      · have hiI : ¬ (i : Int) < (L : Int) := by omega
        obtain ⟨W4, hW4⟩ : ∃ W4, W4 = wr := ⟨_, rfl⟩
        subst hW4
        obtain ⟨p0, hp0⟩ : ∃ p0, o / u = p0 := ⟨_, rfl⟩
        have c0 := iz_cell (hI3.out.below hblH.out) (i := 0) (x := p0) (by rw [hLH.out]; omega) (by rw [hTcH.out, ← hp0]; rfl)
        have hC0 := Lib.hid (CI.start (o := o) (u := u) u1)
        rw [hp0] at hC0
        have hp0H := Lib.hid hp0
        have hb4 := Lib.hid (bseqT hbw.out hblH.out)
        have hI4 := Lib.hid (hI3.out.below hblH.out)
        clear hp0 hblH hI3 hbw hig hiL
        go_wp2_with (fail)
        clear c0
        go_loopg [10, 11, 12, 13, 14, 15, 16, 17] L (fun gk pv qv ppv qqv iv uv vv fv wr => ∃ i p q pp qq r s : Nat, pv = .int .i64 (p : Nat) ∧ qv = .int .i64 (q : Nat) ∧ ppv = .int .i64 (pp : Nat) ∧ qqv = .int .i64 (qq : Nat) ∧ iv = .int .i64 (i : Nat) ∧ i + gk = L ∧ CI o u p q pp qq r s ∧ ((i = 0 ∧ p = p0 ∧ q = 1 ∧ r = u ∧ s = o % u) ∨ (1 ≤ i ∧ trm r s = T.drop i)) ∧ Below W4.heap.size W4 wr)
        case atStart => exact ⟨0, p0, 1, 1, 0, u, o % u, rfl, rfl, rfl, rfl, rfl, by omega, hC0.out, .inl ⟨rfl, rfl, rfl, rfl, rfl⟩, Below.refl _ _⟩
        case round =>
          clear hC0
          obtain ⟨i, p, q, pp, qq, r, s, rfl, rfl, rfl, rfl, rfl, hig, hCI, hd, hbl⟩ := hrel
          have hblH := Lib.hid hbl
          clear hbl
          have hle := hCI.p_le
          have hq1 := hCI.q1
          have hpl : p ≤ 1000000 := by omega
          have hql : q ≤ 1000000 := by omega
          by_cases hiL : i < L
          · have hiI : (i : Int) < (L : Int) := by omega
            have hi0 : (0 : Int) ≤ (i : Int) := by omega
            rcases hd with ⟨hi1, hp, hq, hr, hs⟩ | ⟨hi1, hd⟩
            · subst hi1 hq
              have d1 : decide ((1000000 : Int) < (p : Int)) = false := decide_eq_false (by omega)
              have d2 : decide (1000000 < p) = false := decide_eq_false (by omega)
              have hCIH := Lib.hid hCI
              have hdr : Hid (trm r s = T.drop 1) := by show _ = _; rw [hs, hr, hTcH.out]; rfl
              clear hCI
              have hs0 : s = 0 := by
                have h5 := hdr.out
                rw [List.drop_eq_nil_of_le (by rw [hLH.out]; omega)] at h5
                rcases Nat.eq_zero_or_pos s with h | h
                · exact h
                · exact absurd h5 (trm_ne h)
              have hN0 : NearI o u 1 p 1 := by rw [hp]; rw [← hp0H.out]; exact CI.near0 u1 hs.symm (by omega)
              clear hs0 hr hs hp
              have hnear := Lib.hid (fun W => nearP_good o u 1 p 1 W o1 o2 u1 u2 (by omega) (by omega) hN0)
              clear hN0
              go_wp2_with (first
                | (go_at_call 26; (refine (hnear.out _).mono ?_); rintro e1 w5 ⟨rfl, hb⟩; have hb5 := Lib.hid hb; clear hb))
              go_roundg (gk - 1)
              case measure => omega
              case rel => exact ⟨1, p, 1, pp, qq, r, s, rfl, rfl, rfl, rfl, by go_num, by omega, hCIH.out, .inr ⟨by omega, hdr.out⟩, bseqT hblH.out hb5.out⟩
            · exfalso; omega
          · have hiI : ¬ (i : Int) < (L : Int) := by omega
            have hs0 : s = 0 := by
              rcases hd with ⟨h, _⟩ | ⟨_, h⟩
              · omega
              · rw [List.drop_eq_nil_of_le (by rw [hLH.out]; omega)] at h
                rcases Nat.eq_zero_or_pos s with h5 | h5
                · exact h5
                · exact absurd h (trm_ne h5)
            have ho := hCI.ho
            have hu := hCI.hu
            rw [hs0, Nat.mul_zero, Nat.add_zero] at ho hu
            have hpu : p * u = q * o := by
              rw [ho, hu, ← Nat.mul_assoc, ← Nat.mul_assoc, Nat.mul_comm p q]
            obtain ⟨X, hX⟩ : ∃ X, p * u = X := ⟨_, rfl⟩
            have hXI := mulN hX
            have hYI := mulN (hpu.symm.trans hX)
            have hXl : X ≤ 1000000000000 := by rw [← hX]; exact Nat.le_trans (Nat.mul_le_mul hpl u2) (by decide)
            have eX : ((X : Int) == (X : Int)) = true := by simp
            clear hs0 ho hu hpu hX hCI hd
            go_wp2_with (fail)
            go_ret
            exact ⟨rfl, bseqT hb4.out hblH.out⟩
theorem bestLaw_any (x y : Nat) (w : World) (hx : x < 4294967296) (hy : y < 4294967296) :
    Calls Try.prog 9 #[.int .u32 (x : Nat), .int .u32 (y : Nat)] w (RetB w true) :=
  bestLaw_at x y _ _ _ _ _ _ w hx hy rfl rfl rfl rfl rfl rfl
end Go.Proofs.Ytbehfhmdilifkaa
