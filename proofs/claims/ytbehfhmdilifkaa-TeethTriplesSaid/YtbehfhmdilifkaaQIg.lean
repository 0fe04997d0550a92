/- Ig -/
import Derived.Test.YtbehfhmdilifkaaQIf
set_option linter.unusedVariables false
/- Walk of the law TeethTriples. -/
namespace Go.Proofs.Ytbehfhmdilifkaa
open Go Go.RowKit Go.Proofs

theorem mm_cell {W : World} {g i n m z : Nat} {L : List Nat} (h : IZ W (some ⟨g, 0, none⟩) (nzT L)) (hT : TrI m n L) (hi : i < n) (hz : mm i = z) : W.cell? ⟨g, i, none⟩ = some (.int .i64 (z : Nat)) :=
  iz_cell h (by rw [hT.len]; exact hi) (by rw [hT.at_ i hi, hz])
section
attribute [local go_sem] undef
set_option maxRecDepth 100000 in
set_option maxHeartbeats 25600000 in
theorem triLaw_at (x A m n : Nat) (L : List Nat) (w : World) (hx : x < 4294967296) (hA : x % 100000 = A) (hm : A + 1 = m) (hL : mkL m = L) (hn : L.length = n) :
    Calls Try.prog 13 #[.int .u32 (x : Nat)] w (RetB w true) := by
  have tA : (x : Int).tmod 100000 = (A : Int) := (tm hA).1
  have tA2 : (x : Int) % 100000 = (A : Int) := (tm hA).2
  have lA : A < 100000 := by rw [← hA]; exact Nat.mod_lt _ (by omega)
  have hAI : (A : Int) + 1 = (m : Int) := by omega
  have m1 : 1 ≤ m := by omega
  have m2 : m ≤ 100000 := by omega
  have hT := tr_all m1 m2
  rw [hL, hn] at hT
  have n1 := hT.n1
  have n31 := hT.n31
  have hcall : Hid (∀ W, Calls Try.prog 37 #[.int .i64 (m : Nat)] W (fun e w' => ∃ g c, e = .returned (.tuple #[.slice (some ⟨g, 0, none⟩) n c, .int .i64 0]) ∧ IZ w' (some ⟨g, 0, none⟩) (nzT L) ∧ Below W.heap.size W w')) := fun W => by
    refine (markP_good m W m1 (by omega)).mono ?_
    rintro e w' ⟨g, c, he, hc, hI, hb⟩
    rw [hL, nzT_length, hn] at he
    rw [hL] at hI
    exact ⟨g, c, he, hI, hb⟩
  have hTH := Lib.hid hT
  have eL : ((n : Int) == 0) = false := by simp; omega
  have eL2 : (n == 0) = false := by simp; omega
  have hn0 : (0 : Int) < (n : Int) := by omega
  clear hA hm hL hn hT
  go_enter Try.func13, Try.ntmps13
  go_upto_region 3 with (first
    | (go_at_call 37; (with_reducible refine (hcall.out _).mono ?_); rintro e1 w2 ⟨g, c, rfl, hI, hb⟩; have hI2 := Lib.hid hI; have hb2 := Lib.hid hb; clear hI hb))
  have c0 := mm_cell (i := 0) (z := 1) hI2.out hTH.out n1 rfl
  go_wp2_with (first
    | (go_at_call 23; (with_reducible refine (lives_any _).mono ?_); rintro e1 w3 ⟨rfl, hb⟩; have hb3 := Lib.hid hb; clear hb))
  have hI3 := Lib.hid (hI2.out.below hb3.out)
  have hbw := Lib.hid (bseqT hb2.out hb3.out)
  clear c0 hI2 hb2 hb3 hcall
  go_loopg [6, 7, 8, 9, 10, 11, 12, 13, 14, 15] (n - 1) (fun gk iv fv jv kv zv uv vv wv nv mv wr => ∃ i : Nat, iv = .int .i64 (i : Nat) ∧ i + gk = n ∧ 1 ≤ i ∧ Below w3.heap.size w3 wr)
  case atStart => exact ⟨1, rfl, by omega, by omega, Below.refl _ _⟩
  case round =>
    obtain ⟨i, rfl, hig, hi1, hbl⟩ := hrel
    have hblH := Lib.hid hbl
    clear hbl
    by_cases hin : i < n
    · have hinI : (i : Int) < (n : Int) := by omega
      have hi31 : i < 31 := by omega
      obtain ⟨z, hz⟩ : ∃ z, mm i = z := ⟨_, rfl⟩
      obtain ⟨h, hh⟩ : ∃ h, i - 1 = h := ⟨_, rfl⟩
      obtain ⟨y, hy⟩ : ∃ y, mm h = y := ⟨_, rfl⟩
      have c1 := mm_cell (i := i) (hI3.out.below hblH.out) hTH.out hin hz
      have c2 := mm_cell (i := h) (hI3.out.below hblH.out) hTH.out (by omega) hy
      have hih : (i : Int) - 1 = (h : Int) := by omega
      have hi0 : (0 : Int) ≤ (i : Int) := by omega
      have hh0 : (0 : Int) ≤ (h : Int) := by omega
      have hhn : (h : Int) < (n : Int) := by omega
      have hzm : z ≤ m := by rw [← hz]; exact hTH.out.le i hin
      have hyz : y < z := by
        rw [← hz, ← hy]
        have := hTH.out.up h (by omega)
        rw [show h + 1 = i by omega] at this
        exact this
      have hz2 := mm_le hi31
      rw [hz] at hz2
      have hz1 := hz2.1
      have hzl := hz2.2
      have k1 : decide ((z : Int) ≤ (y : Int)) = false := decide_eq_false (by omega)
      have k2 : decide (z ≤ y) = false := decide_eq_false (by omega)
      have k3 : decide ((m : Int) < (z : Int)) = false := decide_eq_false (by omega)
      have k4 : decide (m < z) = false := decide_eq_false (by omega)
      have htri := tri_ok hi1 hi31
      have hfnd := Lib.hid htri.1
      have hW := Lib.hid htri.2
      have hzH := Lib.hid hz
      clear htri hz2 hy hh hz
      go_wp2_with (fail)
      go_quiet (fail)
      obtain ⟨V, hV⟩ : ∃ V, V = wr.drewN nq := ⟨_, rfl⟩
      rw [← hV]
      have hbV : Hid (Below w3.heap.size w3 V) := by show Below _ _ _; rw [hV]; exact bdn hblH.out
      clear hV hblH c1 c2
      go_wp2_with (fail)
      go_loopg [7, 8, 9, 10, 11, 12, 13, 14, 15] i (fun gk fv jv kv zv uv vv wv nv mv wr => ∃ j : Nat, fv = .bool (fndJ i j) ∧ jv = .int .i64 (j : Nat) ∧ j + gk = i ∧ Below w3.heap.size w3 wr)
      case atStart => exact ⟨0, rfl, rfl, by omega, hbV.out⟩
      case round =>
        clear hbV
        obtain ⟨j, rfl, rfl, hjg, hbl⟩ := hrel
        have hblH := Lib.hid hbl
        clear hbl
        by_cases hji : j < i
        · have hjiI : (j : Int) < (i : Int) := by omega
          obtain ⟨F, hF⟩ : ∃ F, fndJ i j = F := ⟨_, rfl⟩
          rw [hF]
          have hFH := Lib.hid hF
          obtain ⟨u, hu⟩ : ∃ u, mm j = u := ⟨_, rfl⟩
          have hu2 := mm_le (i := j) (by omega)
          rw [hu] at hu2
          have hu1 := hu2.1
          have hul := hu2.2
          have huH := Lib.hid hu
          have hj0 : (0 : Int) ≤ (j : Int) := by omega
          have hjn : (j : Int) < (n : Int) := by omega
          clear hF hu2 hu
          go_wp2_with (fail)
          go_loopg [7, 9, 10, 11, 12, 13, 14, 15] (j + 1) (fun gk fv kv zv uv vv wv nv mv wr => ∃ k : Nat, fv = .bool (F || fndK i j k) ∧ kv = .int .i64 (k : Nat) ∧ k + gk = j + 1 ∧ Below w3.heap.size w3 wr)
          case atStart => exact ⟨0, by simp [fndK], rfl, by omega, hblH.out⟩
          case round =>
            clear hblH
            obtain ⟨k, rfl, rfl, hkg, hbl⟩ := hrel
            have hblH := Lib.hid hbl
            clear hbl
            by_cases hkj : k ≤ j
            · have hkjI : (k : Int) ≤ (j : Int) := by omega
              obtain ⟨G, hG⟩ : ∃ G, (F || fndK i j k) = G := ⟨_, rfl⟩
              rw [hG]
              obtain ⟨v, hv⟩ : ∃ v, mm k = v := ⟨_, rfl⟩
              have hv2 := mm_le (i := k) (by omega)
              rw [hv] at hv2
              have hv1 := hv2.1
              have hvl := hv2.2
              have c1 := mm_cell (i := i) (hI3.out.below hblH.out) hTH.out hin hzH.out
              have c2 := mm_cell (i := j) (hI3.out.below hblH.out) hTH.out (by omega) huH.out
              have c3 := mm_cell (i := k) (hI3.out.below hblH.out) hTH.out (by omega) hv
              have hk0 : (0 : Int) ≤ (k : Int) := by omega
              have hkn : (k : Int) < (n : Int) := by omega
              obtain ⟨a, ha⟩ : ∃ a, u * u = a := ⟨_, rfl⟩
              obtain ⟨b, hb⟩ : ∃ b, v * v = b := ⟨_, rfl⟩
              obtain ⟨d, hd⟩ : ∃ d, z * z = d := ⟨_, rfl⟩
              obtain ⟨p, hp⟩ : ∃ p, 3 * u = p := ⟨_, rfl⟩
              obtain ⟨q, hq⟩ : ∃ q, p * v = q := ⟨_, rfl⟩
              obtain ⟨r, hr⟩ : ∃ r, q * z = r := ⟨_, rfl⟩
              have haI := mulN ha
              have hbI := mulN hb
              have hdI := mulN hd
              have hpI : (3 : Int) * (u : Int) = (p : Int) := by omega
              have hqI := mulN hq
              have hrI := mulN hr
              have hal : a ≤ 9323254249 := by rw [← ha]; exact Nat.mul_le_mul hul hul
              have hbl' : b ≤ 9323254249 := by rw [← hb]; exact Nat.mul_le_mul hvl hvl
              have hdl : d ≤ 9323254249 := by rw [← hd]; exact Nat.mul_le_mul hzl hzl
              have hpl : p ≤ 300000 := by omega
              have hql : q ≤ 30000000000 := by rw [← hq]; exact Nat.le_trans (Nat.mul_le_mul hpl (show v ≤ 100000 by omega)) (by decide)
              have hrl : r ≤ 3000000000000000 := by rw [← hr]; exact Nat.le_trans (Nat.mul_le_mul hql (show z ≤ 100000 by omega)) (by decide)
              obtain ⟨s, hs⟩ : ∃ s, a + b = s := ⟨_, rfl⟩
              have hsI : (a : Int) + (b : Int) = (s : Int) := by omega
              obtain ⟨t, ht⟩ : ∃ t, s + d = t := ⟨_, rfl⟩
              have htI : (s : Int) + (d : Int) = (t : Int) := by omega
              have hsl : s ≤ 20000000000 := by omega
              have htl : t ≤ 30000000000 := by omega
              have heq : eqB i j k = decide (t = r) := by
                unfold eqB
                rw [huH.out, hv, hzH.out, ha, hb, hd, hs, ht, hp, hq, hr]
              have hWk := hW.out j k hji hkj
              have hvH := Lib.hid hv
              have hnext : Hid ((F || fndK i j (k + 1)) = (G || eqB i j k)) := by
                show _ = _
                rw [fndK_succ, ← Bool.or_assoc, hG]
              by_cases htr : t = r
              · have htrI : ((t : Int) != (r : Int)) = false := by simp; omega
                have htrI2 : (t : Int) = (r : Int) := by omega
                have he : eqB i j k = true := by rw [heq]; exact decide_eq_true htr
                obtain ⟨w', hw1, hw2, hw3⟩ := triW_at hWk he hzH.out huH.out hv
                rw [hp, hq] at hw1 hw3
                have hwI : (q : Int) - (z : Int) = (w' : Int) := by omega
                have hwl : w' ≤ 30000000000 := by omega
                obtain ⟨e, he2⟩ : ∃ e, w' * w' = e := ⟨_, rfl⟩
                obtain ⟨f, hf⟩ : ∃ f, q * w' = f := ⟨_, rfl⟩
                rw [ha, hb, he2, hf] at hw3
                have hw4 : w' ≤ 1000000000 := by
                  have hk5 : w' ∈ M31 := by
                    unfold knw at hw2
                    rw [List.any_eq_true] at hw2
                    obtain ⟨m', hm', hmm⟩ := hw2
                    rw [List.mem_range] at hm'
                    have : mm m' = w' := by simpa using hmm
                    rw [← this]
                    unfold mm
                    rw [List.getD, List.getElem?_eq_getElem (by show m' < 31; omega)]
                    simp
                  have := List.mem_iff_getElem.1 hk5
                  obtain ⟨i', hi', he'⟩ := this
                  have h7 := (mm_le (i := i') hi').2
                  unfold mm at h7
                  rw [List.getD, List.getElem?_eq_getElem hi', Option.getD_some, he'] at h7
                  omega
                have hwl2 : w' ≤ 96557 := by
                  have hk5 : w' ∈ M31 := by
                    unfold knw at hw2
                    rw [List.any_eq_true] at hw2
                    obtain ⟨m', hm', hmm⟩ := hw2
                    rw [List.mem_range] at hm'
                    have : mm m' = w' := by simpa using hmm
                    rw [← this]
                    unfold mm
                    rw [List.getD, List.getElem?_eq_getElem (by show m' < 31; omega)]
                    simp
                  have := List.mem_iff_getElem.1 hk5
                  obtain ⟨i', hi', he'⟩ := this
                  have h7 := (mm_le (i := i') hi').2
                  unfold mm at h7
                  rw [List.getD, List.getElem?_eq_getElem hi', Option.getD_some, he'] at h7
                  exact h7
                have heI := mulN he2
                have hfI := mulN hf
                have hel : e ≤ 9323254249 := by rw [← he2]; exact Nat.mul_le_mul hwl2 hwl2
                have hfl : f ≤ 3000000000000000 := by rw [← hf]; exact Nat.le_trans (Nat.mul_le_mul hql (show w' ≤ 100000 by omega)) (by decide)
                have hsf : (s : Int) + (e : Int) = (f : Int) := by omega
                have hff : ((f : Int) != (f : Int)) = false := by simp
                have hkw := Lib.hid hw2
                have hnx : Hid ((F || fndK i j (k + 1)) = true) := by show _ = _; rw [hnext.out, he]; simp
                clear hw1 hw2 hw3 hw4 he2 hf ha hb hd hp hq hr hs ht heq hWk he hv hv2 hG hnext
                subst htr
                go_upto_region 18 with (fail)
                go_quiet (fail)
                obtain ⟨V1, hV1⟩ : ∃ V1, V1 = wr.drewN nq := ⟨_, rfl⟩
                rw [← hV1]
                have hbV1 : Hid (Below w3.heap.size w3 V1) := by show Below _ _ _; rw [hV1]; exact bdn hblH.out
                clear hV1 hblH c1 c2 c3
                go_wp2_with (fail)
                go_loopg [14, 15] (j + 1) (fun gk nv mv wr => ∃ m' : Nat, nv = .bool (knw w' m') ∧ mv = .int .i64 (m' : Nat) ∧ m' + gk = j + 1 ∧ Below w3.heap.size w3 wr)
                case atStart => exact ⟨0, rfl, rfl, by omega, hbV1.out⟩
                case round =>
                  clear hbV1
                  obtain ⟨m', rfl, rfl, hmg, hbl⟩ := hrel
                  have hblH := Lib.hid hbl
                  clear hbl
                  by_cases hmj : m' ≤ j
                  · have hmjI : (m' : Int) ≤ (j : Int) := by omega
                    have hm0 : (0 : Int) ≤ (m' : Int) := by omega
                    have hmn : (m' : Int) < (n : Int) := by omega
                    obtain ⟨y', hy'⟩ : ∃ y', mm m' = y' := ⟨_, rfl⟩
                    have c4 := mm_cell (i := m') (hI3.out.below hblH.out) hTH.out (by omega) hy'
                    have hsu : Hid (knw w' (m' + 1) = (knw w' m' || (y' == w'))) := by show _ = _; rw [knw_succ, hy']
                    have hyl := (mm_le (i := m') (by omega)).2
                    rw [hy'] at hyl
                    clear hy'
                    cases hkn : knw w' m' with
                    | true =>
                      have hsu2 : Hid (knw w' (m' + 1) = true) := by show _ = _; rw [hsu.out, hkn]; rfl
                      clear hkn hsu
                      go_wp2_with (fail)
                      go_roundg (gk - 1)
                      case measure => omega
                      case rel => exact ⟨m' + 1, by rw [hsu2.out], by go_num, by omega, hblH.out⟩
                    | false =>
                      obtain ⟨r', hr'⟩ : ∃ r', (y' == w') = r' := ⟨_, rfl⟩
                      have hr2 : ((y' : Int) == (w' : Int)) = r' := by
                        rw [← hr']
                        by_cases h : y' = w'
                        · subst h; simp
                        · have h1 : (y' == w') = false := by simpa using h
                          rw [h1]; simp; omega
                      have hsu2 : Hid (knw w' (m' + 1) = r') := by show _ = _; rw [hsu.out, hkn, hr']; rfl
                      clear hkn hsu hr'
                      go_wp2_with (fail)
                      go_roundg (gk - 1)
                      case measure => omega
                      case rel => exact ⟨m' + 1, by rw [hsu2.out], by go_num, by omega, hblH.out⟩
                  · have hmjI : ¬ (m' : Int) ≤ (j : Int) := by omega
                    have hme : m' = j + 1 := by omega
                    rw [hme, hkw.out]
                    clear hme
                    go_wp2_with (fail)
                    go_roundg (j - k)
                    case measure => omega
                    case rel => exact ⟨k + 1, by rw [hnx.out], by go_num, by omega, hblH.out⟩
              · have htrI : ((t : Int) != (r : Int)) = true := by simp; omega
                have htrI2 : ¬ (t : Int) = (r : Int) := by omega
                have he : eqB i j k = false := by rw [heq]; exact decide_eq_false htr
                have hnx : Hid ((F || fndK i j (k + 1)) = G) := by show _ = _; rw [hnext.out, he]; simp
                clear ha hb hd hp hq hr hs ht heq hWk he hv hv2 hG hnext
                go_upto_region 18 with (fail)
                go_quiet (fail)
                obtain ⟨V1, hV1⟩ : ∃ V1, V1 = wr.drewN nq := ⟨_, rfl⟩
                rw [← hV1]
                have hbV1 : Hid (Below w3.heap.size w3 V1) := by show Below _ _ _; rw [hV1]; exact bdn hblH.out
                clear hV1 hblH c1 c2 c3
                go_wp2_with (fail)
                go_roundg (j - k)
                case measure => omega
                case rel => exact ⟨k + 1, by rw [hnx.out], by go_num, by omega, hbV1.out⟩
            · have hkjI : ¬ (k : Int) ≤ (j : Int) := by omega
              have hke : k = j + 1 := by omega
              have hnx : Hid (fndJ i (j + 1) = (F || fndK i j k)) := by show _ = _; rw [fndJ_succ, hFH.out, hke]
              obtain ⟨G, hG⟩ : ∃ G, (F || fndK i j k) = G := ⟨_, rfl⟩
              rw [hG] at hnx ⊢
              clear hG hke
              go_wp2_with (fail)
              go_roundg (i - (j + 1))
              case measure => omega
              case rel => exact ⟨j + 1, by rw [hnx.out], by go_num, by omega, hblH.out⟩
        · have hjiI : ¬ (j : Int) < (i : Int) := by omega
          have hje : j = i := by omega
          rw [hje, hfnd.out]
          clear hje
          go_wp2_with (fail)
          go_roundg (n - (i + 1))
          case measure => omega
          case rel => exact ⟨i + 1, by go_num, by omega, by omega, hblH.out⟩
    · have hinI : ¬ (i : Int) < (n : Int) := by omega
      go_wp2_with (fail)
      go_ret
      exact ⟨rfl, bseqT hbw.out hblH.out⟩
end
theorem triLaw_any (x : Nat) (w : World) (hx : x < 4294967296) : Calls Try.prog 13 #[.int .u32 (x : Nat)] w (RetB w true) := triLaw_at x _ _ _ _ w hx rfl rfl rfl rfl
end Go.Proofs.Ytbehfhmdilifkaa
