/- Hl -/
import Derived.Test.YtbehfhmdilifkaaQHf
set_option linter.unusedVariables false
/- Walk of the law TeethLagrange. -/
namespace Go.Proofs.Ytbehfhmdilifkaa
open Go Go.RowKit Go.Proofs

def lagOk (d : Nat) : Bool :=
  let l := per d
  let n := sq32 d
  decide (l.getD (l.length - 1) 0 = 2 * n) && (List.range (l.length - 1)).all fun i => decide (l.getD i 0 = l.getD (l.length - 2 - i) 0) && decide (1 ≤ l.getD i 0) && decide (l.getD i 0 ≤ 2 * n)
theorem lag_all : (List.range 1001).all (fun d => lagOk d || decide (sq32 d * sq32 d = d) || decide (d < 2)) = true := by kernel_rfl
theorem lag_ok {d : Nat} (h2 : 2 ≤ d) (h3 : d ≤ 1000) (hs : sqB d = false) : (per d).getD ((per d).length - 1) 0 = 2 * sq32 d ∧ ∀ i, i < (per d).length - 1 → (per d).getD i 0 = (per d).getD ((per d).length - 2 - i) 0 ∧ 1 ≤ (per d).getD i 0 ∧ (per d).getD i 0 ≤ 2 * sq32 d := by
  have h := List.all_eq_true.1 lag_all d (List.mem_range.2 (by omega))
  have hn : ¬ sq32 d * sq32 d = d := by rw [← fl_small h2 h3]; exact of_decide_eq_false hs
  have e2 : decide (d < 2) = false := decide_eq_false (by omega)
  have e1 : decide (sq32 d * sq32 d = d) = false := decide_eq_false hn
  rw [e1, e2, Bool.or_false, Bool.or_false] at h
  unfold lagOk at h
  rw [Bool.and_eq_true, decide_eq_true_eq, List.all_eq_true] at h
  refine ⟨h.1, fun i hi => ?_⟩
  have h4 := h.2 i (List.mem_range.2 hi)
  rw [Bool.and_eq_true, Bool.and_eq_true, decide_eq_true_eq, decide_eq_true_eq, decide_eq_true_eq] at h4
  exact ⟨h4.1.1, h4.1.2, h4.2⟩
theorem iz_cell {w : World} {g i x : Nat} {P : List Nat} (h : IZ w (some ⟨g, 0, none⟩) (nzT P)) (hi : i < P.length) (hx : P.getD i 0 = x) : w.cell? ⟨g, i, none⟩ = some (.int .i64 (x : Nat)) := by
  obtain ⟨b, o, he, hc⟩ := h i (x : Int) (by
    unfold nzT
    rw [List.getElem?_map, List.getElem?_eq_getElem hi]
    simp [List.getD, hi] at hx
    simp [hx])
  injection he with he
  injection he with e1 e2
  subst e1 e2
  rw [Nat.zero_add] at hc
  exact hc
theorem lagLaw_sq (v d E : Nat) (w : World) (hv : v < 65536) (hE : v % 999 = E) (hd : E + 2 = d) (h : sqB d = true) : Calls Try.prog 11 #[.int .u16 (v : Nat)] w (RetB w true) := by
  have hEl : E < 999 := by rw [← hE]; exact Nat.mod_lt _ (by omega)
  have t1 : (v : Int).tmod 999 = (E : Int) := by rw [← hE]; exact (Int.ofNat_tmod v 999).symm
  have t2 : (v : Int) % 999 = (E : Int) := by rw [← hE]; exact (Int.natCast_emod v 999).symm
  have hdI : (E : Int) + 2 = (d : Int) := by omega
  have hr := Lib.hid (fun W => rootP_sq d W (by omega) (by omega) h)
  have hs := Lib.hid (fun W => square_any d true W (by omega) h)
  clear hE h
  go_enter Try.func11, Try.ntmps11
  go_wp2_with (first
    | (go_at_call 28; (with_reducible refine (hr.out _).mono ?_); rintro e w1 ⟨rfl, rfl⟩)
    | (go_at_call 29; (with_reducible refine (hs.out _).mono ?_); rintro e w3 ⟨rfl, hb⟩; have hb3 := Lib.hid hb; clear hb)
    | (go_at_call 23; (with_reducible refine (lives_any _).mono ?_); rintro e w2 ⟨rfl, hb⟩; have hb2 := Lib.hid hb; clear hb))
  go_ret
  have := hb3.out
  subst this
  exact ⟨rfl, hb2.out⟩
set_option maxHeartbeats 3200000 in
theorem lagLaw_good (v d E : Nat) (w : World) (hv : v < 65536) (hE : v % 999 = E) (hd : E + 2 = d) (h : sqB d = false) : Calls Try.prog 11 #[.int .u16 (v : Nat)] w (RetB w true) := by
  have hEl : E < 999 := by rw [← hE]; exact Nat.mod_lt _ (by omega)
  have t1 : (v : Int).tmod 999 = (E : Int) := by rw [← hE]; exact (Int.ofNat_tmod v 999).symm
  have t2 : (v : Int) % 999 = (E : Int) := by rw [← hE]; exact (Int.natCast_emod v 999).symm
  have hdI : (E : Int) + 2 = (d : Int) := by omega
  obtain ⟨n, hn⟩ : ∃ n, fl d = n := ⟨_, rfl⟩
  have hlag := lag_ok (d := d) (by omega) (by omega) h
  rw [← fl_small (by omega) (by omega), hn] at hlag
  obtain ⟨P, hP⟩ : ∃ P, per d = P := ⟨_, rfl⟩
  rw [hP] at hlag
  obtain ⟨L, hL⟩ : ∃ L, P.length = L := ⟨_, rfl⟩
  have hnl : n ≤ 31 := by rw [← hn, fl_small (by omega) (by omega)]; exact sq32_le d
  have hPI := perI (d := d) (by omega) (by omega) (of_decide_eq_false h)
  have hLl : L ≤ 70 := by rw [← hL, ← hP]; exact hPI.len
  have hL1 : 1 ≤ L := by rw [← hL, ← hP]; exact List.length_pos_iff.2 hPI.ne
  have hr := Lib.hid (fun W => rootP_good d n W (by omega) (by omega) h hn)
  unfold RootPost at hr
  rw [hP, hL] at hr
  rw [hL] at hlag
  have hlagH := Lib.hid hlag
  have hLH := Lib.hid hL
  have hs := Lib.hid (fun W => square_any d false W (by omega) h)
  have hsq := fl_sq d
  rw [hn] at hsq
  obtain ⟨S, hS⟩ : ∃ S, n * n = S := ⟨_, rfl⟩
  have hSI := mulN hS
  have hSd : S ≤ d := by rw [← hS]; exact hsq.1
  have hSd1 : decide (d < S) = false := decide_eq_false (by omega)
  have hSd2 : decide ((d : Int) < (S : Int)) = false := decide_eq_false (by omega)
  obtain ⟨n1, hn1⟩ : ∃ n1, n + 1 = n1 := ⟨_, rfl⟩
  have hn1I : (n : Int) + 1 = (n1 : Int) := by omega
  obtain ⟨S1, hS1⟩ : ∃ S1, n1 * n1 = S1 := ⟨_, rfl⟩
  have hS1I := mulN hS1
  have hS1d : d < S1 := by rw [← hS1, ← hn1]; exact hsq.2
  have hS1l : S1 ≤ 1024 := by rw [← hS1]; exact Nat.le_trans (Nat.mul_le_mul (show n1 ≤ 32 by omega) (show n1 ≤ 32 by omega)) (by decide)
  have hS1a : decide (S1 ≤ d) = false := decide_eq_false (by omega)
  have hS1b : decide ((S1 : Int) ≤ (d : Int)) = false := decide_eq_false (by omega)
  obtain ⟨n2, hn2⟩ : ∃ n2, 2 * n = n2 := ⟨_, rfl⟩
  have hn2I : (2 : Int) * (n : Int) = (n2 : Int) := by omega
  have hL0 : ((L : Int) == 0) = false := by simp; omega
  have hL0' : (L == 0) = false := by simp; omega
  obtain ⟨M, hM⟩ : ∃ M, L - 1 = M := ⟨_, rfl⟩
  have hMI : (L : Int) - 1 = (M : Int) := by omega
  have hML : (M : Int) < (L : Int) := by omega
  have hM0 : (0 : Int) ≤ (M : Int) := by omega
  have hlast : Hid (P.getD M 0 = n2) := by show _ = _; rw [← hM, ← hn2]; exact hlag.1
  have en2 : ((n2 : Int) != (n2 : Int)) = false := by simp
  have hML2 : M < L := by omega
  have hn2l : n2 ≤ 62 := by omega
  clear hE h hn hP hL hlag hPI hsq hS hS1 hn1
  go_enter Try.func11, Try.ntmps11
  go_upto_region 5 with (first
    | (go_at_call 28; (with_reducible refine (hr.out _).mono ?_); rintro e w1 ⟨g, c, rfl, hc, hI, hb⟩; have hI1 := Lib.hid hI; have hb1 := Lib.hid hb; clear hI hb hc)
    | (go_at_call 29; (with_reducible refine (hs.out _).mono ?_); rintro e w3 ⟨rfl, hb⟩; have hb3 := Lib.hid hb; clear hb))
  have e13 := hb3.out
  subst e13
  have cM := iz_cell hI1.out (i := M) (by rw [hLH.out]; exact hML2) hlast.out
  go_wp2_with (first
    | (go_at_call 23; (with_reducible refine (lives_any _).mono ?_); rintro e w2 ⟨rfl, hb⟩; have hb2 := Lib.hid hb; clear hb))
  have hI2 := Lib.hid (hI1.out.below hb2.out)
  have hbw := Lib.hid (bseqT hb1.out hb2.out)
  clear cM hI1 hb1 hb2 hb3
  go_loopg [7] M (fun gk iv wr => ∃ i : Nat, iv = .int .i64 (i : Nat) ∧ i + gk = M ∧ Below w2.heap.size w2 wr)
  case atStart => exact ⟨0, rfl, by omega, Below.refl _ _⟩
  case round =>
    obtain ⟨i, rfl, hig, hbl⟩ := hrel
    have hblH := Lib.hid hbl
    clear hbl
    by_cases hiM : i < M
    · have hiMI : (i : Int) < (M : Int) := by omega
      obtain ⟨x, hx⟩ : ∃ x, P.getD i 0 = x := ⟨_, rfl⟩
      obtain ⟨k, hk⟩ : ∃ k, L - 2 - i = k := ⟨_, rfl⟩
      obtain ⟨M2, hM2⟩ : ∃ M2, L - 2 = M2 := ⟨_, rfl⟩
      have hM2I : (L : Int) - 2 = (M2 : Int) := by omega
      have hkI : (M2 : Int) - (i : Int) = (k : Int) := by omega
      have h4 := hlagH.out.2 i (by omega)
      rw [hk, hx] at h4
      have c1 := iz_cell (hI2.out.below hblH.out) (i := i) (by rw [hLH.out]; omega) hx
      have c2 := iz_cell (hI2.out.below hblH.out) (i := k) (by rw [hLH.out]; omega) h4.1.symm
      have hx1 := h4.2.1
      have hx2 : x ≤ n2 := by omega
      have ex : ((x : Int) != (x : Int)) = false := by simp
      have ex1 : decide ((x : Int) < 1) = false := decide_eq_false (by omega)
      have ex2 : decide (x < 1) = false := decide_eq_false (by omega)
      have ex3 : decide ((n2 : Int) < (x : Int)) = false := decide_eq_false (by omega)
      have ex4 : decide (n2 < x) = false := decide_eq_false (by omega)
      have hi0 : (0 : Int) ≤ (i : Int) := by omega
      have hiL : (i : Int) < (L : Int) := by omega
      have hk0 : (0 : Int) ≤ (k : Int) := by omega
      have hkL : (k : Int) < (L : Int) := by omega
      clear h4 hx hk hM2
      go_wp2_with (fail)
      go_quiet (fail)
      go_wp2_with (fail)
      go_roundg (gk - 1)
      case measure => omega
      case rel => exact ⟨i + 1, by go_num, by omega, bdn hblH.out⟩
    · have hiMI : ¬ (i : Int) < (M : Int) := by omega
      go_wp2_with (fail)
      go_ret
      exact ⟨rfl, bseqT hbw.out hblH.out⟩
theorem lagLaw_any (v : Nat) (w : World) (hv : v < 65536) : Calls Try.prog 11 #[.int .u16 (v : Nat)] w (RetB w true) := by
  cases hs : sqB (v % 999 + 2) with
  | true => exact lagLaw_sq v _ _ w hv rfl rfl hs
  | false => exact lagLaw_good v _ _ w hv rfl rfl hs
end Go.Proofs.Ytbehfhmdilifkaa
