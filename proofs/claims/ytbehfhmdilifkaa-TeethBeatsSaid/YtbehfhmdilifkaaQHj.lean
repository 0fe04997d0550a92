/- Hj -/
import Derived.Test.YtbehfhmdilifkaaQHa
import Derived.Test.YtbehfhmdilifkaaQTb
set_option linter.unusedVariables false
/- Walk of the reference's Beats. -/
namespace Go.Proofs.Ytbehfhmdilifkaa
open Go Go.RowKit Go.Proofs

theorem nblk_bb {w : World} {g : Nat} {xs : List Nat} (h : Nblk .u8 w g 5 xs) : BB w g xs := by
  have hB : Blk w g 5 (xs.map fun x : Nat => Value.int .u8 x) := h
  refine ⟨fun i x hx => ?_, fun i _ => hB.frozen i⟩
  rw [hB.cell, List.getElem?_map, hx]; rfl
theorem rbL_lt (d n K L : Nat) : ∀ x ∈ rbL d n K L, x < 256 := fun x hx => by
  unfold rbL at hx
  obtain ⟨p, _, rfl⟩ := List.mem_map.1 hx
  split
  · omega
  · split <;> omega
set_option maxRecDepth 100000 in
set_option maxHeartbeats 6400000 in
theorem beatsR_good (d n : Nat) (w : World) (h2 : 2 ≤ d) (h3 : d ≤ 1000) (hn : n ≤ 1000) (h : sqB d = false) :
    Calls Try.prog 36 #[.int .i64 (d : Nat), .int .i64 (n : Nat)] w (RetStr w (btS d n)) := by
  have hq := Lib.hid (of_decide_eq_false h)
  clear h
  go_enter Try.func36, Try.ntmps36
  go_upto_region 2 with (first
    | (at_make; go_loud (refine wpList_make_zero _ rfl (.tmp 10) _ rfl 5 .u8 1 Try.underlying77 info_u8 (by omega) .i64 (n : Nat) n (by rfl) rfl (by omega) ?_); intro w1 hN1 hb1; have hB0 := Lib.hid (nblk_bb hN1); have hb0 := Lib.hid hb1; clear hN1 hb1))
  obtain ⟨g, hg⟩ : ∃ g, w.heap.size = g := ⟨_, rfl⟩
  have hgs : w.heap.size ≤ g := by omega
  rw [hg] at hB0
  rw [hg]
  go_wp2_with (fail)
  go_loopg [6, 7, 8, 9] n (fun gk kv av rv bv' wr => ∃ K : Nat, kv = .int .i64 ((K + 1 : Nat) : Int) ∧ K + gk = n ∧ BB wr g (rbL d n K K) ∧ Below w.heap.size w wr)
  case atStart => exact ⟨0, rfl, by omega, by rw [rbL_zero]; exact hB0.out, hb0.out⟩
  case round =>
    clear hB0 hb0
    obtain ⟨K, rfl, hKg, hB, hbl⟩ := hrel
    have hBH := Lib.hid hB
    have hblH := Lib.hid hbl
    clear hB hbl
    obtain ⟨k, hk⟩ : ∃ k, K + 1 = k := ⟨_, rfl⟩
    rw [hk]
    by_cases hkn : k ≤ n
    · have hknI : (k : Int) ≤ (n : Int) := by omega
      obtain ⟨P, hP⟩ : ∃ P, k * k = P := ⟨_, rfl⟩
      have hPI := mulN hP
      have hkl : k ≤ 1000 := by omega
      have hPl : P ≤ 1000000 := by rw [← hP]; exact Nat.le_trans (Nat.mul_le_mul hkl hkl) (by decide)
      obtain ⟨Q, hQ⟩ : ∃ Q, P * d = Q := ⟨_, rfl⟩
      have hQI := mulN hQ
      have hQl : Q ≤ 1000000000 := by rw [← hQ]; exact Nat.le_trans (Nat.mul_le_mul hPl h3) (by decide)
      obtain ⟨f, hf⟩ : ∃ f, fl Q = f := ⟨_, rfl⟩
      have hfs := Lib.hid (hf ▸ fl_sq Q : Sq f Q)
      have hfl : f ≤ 1000000000 := by rw [← hf]; exact Nat.le_trans (fl_le Q) hQl
      obtain ⟨a, ha⟩ : ∃ a, k + f = a := ⟨_, rfl⟩
      have haI : (k : Int) + (f : Int) = (a : Int) := by omega
      have hal : a ≤ 1000001000 := by omega
      have hav : Hid (av d (K + 1) = a) := by show _ = _; unfold av; rw [hk, hP, hQ, hf, ha]
      obtain ⟨R, hR⟩ : ∃ R, fl (P / d) = R := ⟨_, rfl⟩
      have hRs := Lib.hid (hR ▸ fl_sq (P / d) : Sq R (P / d))
      have hRl : R ≤ 1000 := by
        rcases Nat.lt_or_ge 1000 R with h5 | h5
        · exfalso
          have h6 := hRs.out.1
          have h7 : 1001 * 1001 ≤ R * R := Nat.mul_le_mul h5 h5
          have h8 : P / d ≤ P := Nat.div_le_self _ _
          omega
        · exact h5
      obtain ⟨b, hb⟩ : ∃ b, k + R = b := ⟨_, rfl⟩
      have hbI : (k : Int) + (R : Int) = (b : Int) := by omega
      have hbl3 : b ≤ 2000 := by omega
      have hbv : Hid (bv d (K + 1) = b) := by show _ = _; unfold bv; rw [hk, hP, hR, hb]
      have hb1 : 1 ≤ b := by omega
      have ha1 : 1 ≤ a := by omega
      have hkH := Lib.hid hk
      have hKn : K + 1 ≤ n := by omega
      clear hk hP hQ hf ha hR hb
      by_cases han : a ≤ n
      · have hanI : (a : Int) ≤ (n : Int) := by omega
        obtain ⟨i, hi⟩ : ∃ i, a - 1 = i := ⟨_, rfl⟩
        have hiI : (a : Int) - 1 = (i : Int) := by omega
        have hin : i < n := by omega
        have hinI : (i : Int) < (n : Int) := by omega
        have hi0 : (0 : Int) ≤ (i : Int) := by omega
        have c0 := hBH.out.c i _ (List.getElem?_eq_getElem (by rw [rbL_length]; exact hin))
        have f0 := hBH.out.f i (by rw [rbL_length]; exact hin)
        have hset0 := hBH.out.set (i := i) (x := 97) (by rw [rbL_length]; exact hin)
        rw [← hi, rbL_a hav.out han, hi] at hset0
        have hset0H := Lib.hid hset0
        clear hset0 hi
        go_upto_region 8 with (go_at_call 41; go_loud (with_reducible refine (floor_any Q f _ (by omega) hfs.out).mono ?_); rintro e w1 ⟨rfl, rfl⟩)
        obtain ⟨W1, hW1⟩ : ∃ W1, W1 = wr.setCell ⟨g, i, none⟩ (.int .u8 97) := ⟨_, rfl⟩
        rw [← hW1]
        have hB1 : Hid (BB W1 g (rbL d n (K + 1) K)) := by show BB _ _ _; rw [hW1]; exact hset0H.out
        have hbl1 : Hid (Below w.heap.size w W1) := by show Below _ _ _; rw [hW1]; exact hblH.out.setCell (by exact hgs) _
        clear hW1 hset0H hblH hBH c0 f0
        go_upto_region 9 with (fail)
        go_loopg [8] R (fun gk rv wr => ∃ r : Nat, rv = .int .i64 (r : Nat) ∧ r + gk = R ∧ BB wr g (rbL d n (K + 1) K) ∧ Below w.heap.size w wr)
        case atStart => exact ⟨0, rfl, by omega, hB1.out, hbl1.out⟩
        case round =>
          clear hB1 hbl1
          obtain ⟨r, rfl, hrg, hB2, hbl2⟩ := hrel
          have hB2H := Lib.hid hB2
          have hbl2H := Lib.hid hbl2
          clear hB2 hbl2
          obtain ⟨r1, hr1⟩ : ∃ r1, r + 1 = r1 := ⟨_, rfl⟩
          have hr1I : (r : Int) + 1 = (r1 : Int) := by omega
          obtain ⟨T, hT⟩ : ∃ T, r1 * r1 = T := ⟨_, rfl⟩
          have hTI := mulN hT
          have hr1l : r1 ≤ 1001 := by omega
          have hTl : T ≤ 1002001 := by rw [← hT]; exact Nat.le_trans (Nat.mul_le_mul hr1l hr1l) (by decide)
          obtain ⟨U, hU⟩ : ∃ U, T * d = U := ⟨_, rfl⟩
          have hUI := mulN hU
          have hUl : U ≤ 1002001000 := by rw [← hU]; exact Nat.le_trans (Nat.mul_le_mul hTl h3) (by decide)
          by_cases hrR : r < R
          · have hle : U ≤ P := by
              rw [← hU]
              refine (Nat.le_div_iff_mul_le (by omega)).1 ?_
              rw [← hT]
              exact Nat.le_trans (Nat.mul_le_mul (show r1 ≤ R by omega) (show r1 ≤ R by omega)) hRs.out.1
            have hleI : (U : Int) ≤ (P : Int) := by omega
            clear hT hU
            go_wp2_with (fail)
            go_roundg (gk - 1)
            case measure => omega
            case rel => exact ⟨r + 1, by go_num, by omega, hB2H.out, hbl2H.out⟩
          · have hre : r = R := by omega
            have hgt : P < U := by
              rw [← hU]
              refine (Nat.div_lt_iff_lt_mul (by omega)).1 ?_
              rw [← hT, ← hr1, hre]
              exact hRs.out.2
            have hgtI : ¬ (U : Int) ≤ (P : Int) := by omega
            subst hre
            clear hT hU
            by_cases hbn : b ≤ n
            · have hbnI : (b : Int) ≤ (n : Int) := by omega
              obtain ⟨j, hj⟩ : ∃ j, b - 1 = j := ⟨_, rfl⟩
              have hjI : (b : Int) - 1 = (j : Int) := by omega
              have hjn : j < n := by omega
              have hjnI : (j : Int) < (n : Int) := by omega
              have hj0 : (0 : Int) ≤ (j : Int) := by omega
              have c1 := hB2H.out.c j _ (List.getElem?_eq_getElem (by rw [rbL_length]; exact hjn))
              have f1 := hB2H.out.f j (by rw [rbL_length]; exact hjn)
              have hset := hB2H.out.set (i := j) (x := 98) (by rw [rbL_length]; exact hjn)
              rw [← hj, rbL_b (by omega) hq.out hbv.out hbn, hj] at hset
              have hsetH := Lib.hid hset
              clear hset hj
              go_wp2_with (fail)
              go_roundg (n - (K + 1))
              case measure => omega
              case rel => exact ⟨K + 1, by have := hkH.out; go_num, by omega, hsetH.out, hbl2H.out.setCell (by exact hgs) _⟩
            · have hbnI : ¬ (b : Int) ≤ (n : Int) := by omega
              have hno := Lib.hid (rbL_b_not (K := K + 1) (show n < bv d (K + 1) by rw [hbv.out]; omega))
              go_wp2_with (fail)
              go_roundg (n - (K + 1))
              case measure => omega
              case rel => exact ⟨K + 1, by have := hkH.out; go_num, by omega, by rw [hno.out]; exact hB2H.out, hbl2H.out⟩
      · have hanI : ¬ (a : Int) ≤ (n : Int) := by omega
        have hno := rbL_a_not (d := d) (n := n) (K := K) (L := K) (show n < av d (K + 1) by rw [hav.out]; omega)
        have hB1 : Hid (BB wr g (rbL d n (K + 1) K)) := by show BB _ _ _; rw [hno]; exact hBH.out
        have hbl1 := Lib.hid hblH.out
        clear hno hBH hblH
        go_upto_region 8 with (go_at_call 41; go_loud (with_reducible refine (floor_any Q f _ (by omega) hfs.out).mono ?_); rintro e w1 ⟨rfl, rfl⟩)
        go_upto_region 9 with (fail)
        go_loopg [8] R (fun gk rv wr => ∃ r : Nat, rv = .int .i64 (r : Nat) ∧ r + gk = R ∧ BB wr g (rbL d n (K + 1) K) ∧ Below w.heap.size w wr)
        case atStart => exact ⟨0, rfl, by omega, hB1.out, hbl1.out⟩
        case round =>
          clear hB1 hbl1
          obtain ⟨r, rfl, hrg, hB2, hbl2⟩ := hrel
          have hB2H := Lib.hid hB2
          have hbl2H := Lib.hid hbl2
          clear hB2 hbl2
          obtain ⟨r1, hr1⟩ : ∃ r1, r + 1 = r1 := ⟨_, rfl⟩
          have hr1I : (r : Int) + 1 = (r1 : Int) := by omega
          obtain ⟨T, hT⟩ : ∃ T, r1 * r1 = T := ⟨_, rfl⟩
          have hTI := mulN hT
          have hr1l : r1 ≤ 1001 := by omega
          have hTl : T ≤ 1002001 := by rw [← hT]; exact Nat.le_trans (Nat.mul_le_mul hr1l hr1l) (by decide)
          obtain ⟨U, hU⟩ : ∃ U, T * d = U := ⟨_, rfl⟩
          have hUI := mulN hU
          have hUl : U ≤ 1002001000 := by rw [← hU]; exact Nat.le_trans (Nat.mul_le_mul hTl h3) (by decide)
          by_cases hrR : r < R
          · have hle : U ≤ P := by
              rw [← hU]
              refine (Nat.le_div_iff_mul_le (by omega)).1 ?_
              rw [← hT]
              exact Nat.le_trans (Nat.mul_le_mul (show r1 ≤ R by omega) (show r1 ≤ R by omega)) hRs.out.1
            have hleI : (U : Int) ≤ (P : Int) := by omega
            clear hT hU
            go_wp2_with (fail)
            go_roundg (gk - 1)
            case measure => omega
            case rel => exact ⟨r + 1, by go_num, by omega, hB2H.out, hbl2H.out⟩
          · have hre : r = R := by omega
            have hgt : P < U := by
              rw [← hU]
              refine (Nat.div_lt_iff_lt_mul (by omega)).1 ?_
              rw [← hT, ← hr1, hre]
              exact hRs.out.2
            have hgtI : ¬ (U : Int) ≤ (P : Int) := by omega
            subst hre
            clear hT hU
            by_cases hbn : b ≤ n
            · have hbnI : (b : Int) ≤ (n : Int) := by omega
              obtain ⟨j, hj⟩ : ∃ j, b - 1 = j := ⟨_, rfl⟩
              have hjI : (b : Int) - 1 = (j : Int) := by omega
              have hjn : j < n := by omega
              have hjnI : (j : Int) < (n : Int) := by omega
              have hj0 : (0 : Int) ≤ (j : Int) := by omega
              have c1 := hB2H.out.c j _ (List.getElem?_eq_getElem (by rw [rbL_length]; exact hjn))
              have f1 := hB2H.out.f j (by rw [rbL_length]; exact hjn)
              have hset := hB2H.out.set (i := j) (x := 98) (by rw [rbL_length]; exact hjn)
              rw [← hj, rbL_b (by omega) hq.out hbv.out hbn, hj] at hset
              have hsetH := Lib.hid hset
              clear hset hj
              go_wp2_with (fail)
              go_roundg (n - (K + 1))
              case measure => omega
              case rel => exact ⟨K + 1, by have := hkH.out; go_num, by omega, hsetH.out, hbl2H.out.setCell (by exact hgs) _⟩
            · have hbnI : ¬ (b : Int) ≤ (n : Int) := by omega
              have hno := Lib.hid (rbL_b_not (K := K + 1) (show n < bv d (K + 1) by rw [hbv.out]; omega))
              go_wp2_with (fail)
              go_roundg (n - (K + 1))
              case measure => omega
              case rel => exact ⟨K + 1, by have := hkH.out; go_num, by omega, by rw [hno.out]; exact hB2H.out, hbl2H.out⟩
    · have hknI : ¬ (k : Int) ≤ (n : Int) := by omega
      have hKn : K = n := by omega
      subst hKn
      have hcv := BB.text (cap := K) hBH.out (rbL_length d K K K) (rbL_lt d K K K)
      rw [rbL_done (by omega) hq.out] at hcv
      change (convert 77 9 (.slice (some ⟨g, 0, none⟩) K K)).run Try.prog wr = .ok (.string (btS d K)) wr at hcv
      clear hk
      go_wp2_with (fail)
      go_ret
      exact ⟨rfl, hblH.out⟩
end Go.Proofs.Ytbehfhmdilifkaa
