/- Tj -/
import Derived.Test.YtbehfhmdilifkaaGreatQTa
import Derived.Test.YtbehfhmdilifkaaGreatQTd
set_option linter.unusedVariables false
/- Walks of Root, of the program and of the reference. -/
namespace Go.Proofs.YtbehfhmdilifkaaGreat
open Go Go.RowKit Go.Proofs

theorem rootP_bad (d : Int) (w : World) (h : d < 2 ∨ 1000 < d) :
    Calls Tryz.prog 5 #[.int .i64 d] w (fun e w' => e = .returned (.tuple #[.int .i64 0, .slice none 0 0, .int .i64 1]) ∧ w = w') := by
  obtain ⟨x, hx⟩ : ∃ x : Nat, max d 0 = (x : Int) := ⟨(max d 0).toNat, by omega⟩
  by_cases h1 : d < 2
  · have d1 : decide (d < 2) = true := decide_eq_true h1
    clear h
    go_enter Tryz.func5, Tryz.ntmps5
    go_wp2_with (go_at_call 21; go_loud (with_reducible refine (below_form x _).mono ?_); rintro e w1 ⟨n, rfl, hn, hs, rfl⟩; clear hs)
    go_ret3
    exact ⟨rfl, rfl⟩
  · have d1 : decide (d < 2) = false := decide_eq_false h1
    have d2 : decide (1000 < d) = true := decide_eq_true (by omega)
    have d3 : 1000 < d := by omega
    clear h
    go_enter Tryz.func5, Tryz.ntmps5
    go_wp2_with (go_at_call 21; go_loud (with_reducible refine (below_form x _).mono ?_); rintro e w1 ⟨n, rfl, hn, hs, rfl⟩; clear hs)
    go_ret3
    exact ⟨rfl, rfl⟩
theorem rootP_sq (d : Nat) (w : World) (h2 : 2 ≤ d) (h3 : d ≤ 1000) (h : sqB d = true) :
    Calls Tryz.prog 5 #[.int .i64 (d : Nat)] w (fun e w' => e = .returned (.tuple #[.int .i64 0, .slice none 0 0, .int .i64 5]) ∧ w = w') := by
  obtain ⟨n, hn⟩ : ∃ n, fl d = n := ⟨_, rfl⟩
  have hs := Lib.hid (hn ▸ fl_sq d : Sq n d)
  have hnn : n * n = d := by have := of_decide_eq_true h; rw [hn] at this; exact this
  have hnI := mulN hnn
  have hnl : n ≤ 31 := by rw [← hn, fl_small h2 h3]; exact sq32_le d
  have hmx : max (d : Int) 0 = (d : Int) := by omega
  have d1 : decide ((d : Int) < 2) = false := decide_eq_false (by omega)
  have d2 : decide ((1000 : Int) < (d : Int)) = false := decide_eq_false (by omega)
  have d3 : decide (d < 2) = false := decide_eq_false (by omega)
  have d4 : decide (1000 < d) = false := decide_eq_false (by omega)
  have d5 : ((d : Int) == (d : Int)) = true := by simp
  clear h hn hnn
  go_enter Tryz.func5, Tryz.ntmps5
  go_wp2_with (go_at_call 21; go_loud (with_reducible refine (below_at d n _ (by omega) hs.out).mono ?_); rintro e w1 ⟨rfl, rfl⟩)
  go_ret3
  exact ⟨rfl, rfl⟩
def RootPost (P : List Nat) (n : Nat) (w : World) (e : Ending) (w' : World) : Prop := ∃ g c, e = .returned (.tuple #[.int .i64 (n : Nat), .slice (some ⟨g, 0, none⟩) P.length c, .int .i64 0]) ∧ P.length ≤ c ∧ IZ w' (some ⟨g, 0, none⟩) (nzT P) ∧ Below w.heap.size w w'
theorem nzT_length (l : List Nat) : (nzT l).length = l.length := by unfold nzT; rw [List.length_map]
theorem nzT_snoc (l : List Nat) (x : Nat) : nzT (l ++ [x]) = nzT l ++ [(x : Int)] := by unfold nzT; rw [List.map_append]; rfl
set_option maxRecDepth 100000 in
set_option maxHeartbeats 3200000 in
theorem rootP_good (d n : Nat) (w : World) (h2 : 2 ≤ d) (h3 : d ≤ 1000) (h : sqB d = false) (hn : fl d = n) :
    Calls Tryz.prog 5 #[.int .i64 (d : Nat)] w (RootPost (per d) n w) := by
  have hs := Lib.hid (hn ▸ fl_sq d : Sq n d)
  have hne : ¬ fl d * fl d = d := of_decide_eq_false h
  have hP := perI h2 h3 hne
  have hn32 : n = sq32 d := by rw [← hn]; exact fl_small h2 h3
  obtain ⟨P, hPd⟩ : ∃ P, per d = P := ⟨_, rfl⟩
  have hPl : Hid (P.length ≤ 70) := by show _ ≤ _; rw [← hPd]; exact hP.len
  have hP0 : Hid (0 < P.length) := by show 0 < _; rw [← hPd, List.length_pos_iff]; exact hP.ne
  have hgo : Hid (rtGo d n 100 0 1 n = some P) := by show _ = _; rw [hn32, ← hPd]; exact hP.go
  have hnl : n ≤ 31 := by rw [hn32]; exact sq32_le d
  obtain ⟨S, hS⟩ : ∃ S, n * n = S := ⟨_, rfl⟩
  have hSI := mulN hS
  have hSl : S ≤ 961 := by rw [← hS]; exact Nat.le_trans (Nat.mul_le_mul hnl hnl) (by decide)
  have hSd : S ≠ d := by rw [← hS, ← hn]; exact hne
  have hmx : max (d : Int) 0 = (d : Int) := by omega
  have d1 : decide ((d : Int) < 2) = false := decide_eq_false (by omega)
  have d2 : decide ((1000 : Int) < (d : Int)) = false := decide_eq_false (by omega)
  have d3 : decide (d < 2) = false := decide_eq_false (by omega)
  have d4 : decide (1000 < d) = false := decide_eq_false (by omega)
  have d5 : ((S : Int) == (d : Int)) = false := by simp; omega
  obtain ⟨n2, hn2⟩ : ∃ n2, 2 * n = n2 := ⟨_, rfl⟩
  have hn2I : (2 : Int) * (n : Int) = (n2 : Int) := by omega
  have hn2H := Lib.hid hn2
  have hPH := Lib.hid hPd
  clear h hn hne hP hn32 hPd hS hn2
  rw [hPH.out]
  go_enter Tryz.func5, Tryz.ntmps5
  go_wp2_with (go_at_call 21; go_loud (with_reducible refine (below_at d n _ (by omega) hs.out).mono ?_); rintro e w1 ⟨rfl, rfl⟩)
  go_loopg [6, 7, 8, 9] 100 (fun gk pv mv kv av wr => ∃ (m k a : Nat) (out l : List Nat) (v : Value), v = pv ∧ mv = .int .i64 (m : Nat) ∧ kv = .int .i64 (k : Nat) ∧ av = .int .i64 (a : Nat) ∧ rtGo d n gk m k a = some l ∧ out ++ l = P ∧ ZE wr w.heap.size v (nzT out) ∧ Below w.heap.size w wr)
  case atStart => exact ⟨0, 1, n, [], P, _, rfl, rfl, rfl, rfl, hgo.out, rfl, ZE.nil _ _, Below.refl _ _⟩
  case round =>
    clear hgo
    obtain ⟨m, k, a, out, l, v, rfl, rfl, rfl, rfl, hgo, hol, hZ, hbl⟩ := hrel
    have hZH := Lib.hid hZ
    have hblH := Lib.hid hbl
    have holH := Lib.hid hol
    clear hZ hbl hol
    by_cases ha : a = n2
    · subst ha
      have hl := rtGo_end hgo hn2H.out.symm
      subst hl
      have ho := holH.out
      rw [List.append_nil] at ho
      subst ho
      have hab : ((a : Int) == (a : Int)) = true := by simp
      clear hgo
      obtain ⟨g, c, hv⟩ := hZH.out.some (fun e => by have h1 := congrArg List.length e; rw [nzT_length] at h1; simp only [List.length_nil] at h1; have := hP0.out; omega)
      rw [nzT_length] at hv
      subst hv
      go_wp2_with (fail)
      go_ret3
      exact ⟨g, c, rfl, hZH.out.iz.2, hZH.out.iz.1, hblH.out⟩
    · obtain ⟨f, m1, k1, a1, rfl, hS⟩ := rtGo_step hgo (by rw [hn2H.out]; exact ha)
      obtain ⟨l', hl', hgo'⟩ := hS.next
      have hab : ((a : Int) == (n2 : Int)) = false := by simp; omega
      have hab2 : ¬ (a : Int) = (n2 : Int) := by omega
      obtain ⟨X, hX⟩ : ∃ X, k * a = X := ⟨_, rfl⟩
      have hXI := mulN hX
      have hXm : (X : Int) - (m : Int) = (m1 : Int) := by have := hS.hm; omega
      have hXl : X ≤ 200000 := by rw [← hX]; exact Nat.le_trans (Nat.mul_le_mul hS.hk2 hS.ha) (by decide)
      obtain ⟨Y, hY⟩ : ∃ Y, m1 * m1 = Y := ⟨_, rfl⟩
      have hYI := mulN hY
      have hYd : Y ≤ d := by rw [← hY]; exact hS.hm1
      have hm1l := hS.hm3
      obtain ⟨Z, hZz⟩ : ∃ Z, d - Y = Z := ⟨_, rfl⟩
      have hZI : (d : Int) - (Y : Int) = (Z : Int) := by omega
      have hq1 : Z / k = k1 := by rw [← hZz, ← hY]; exact hS.hk1
      have hk0 : 1 ≤ k := hS.hk
      have t1 : (Z : Int).tdiv (k : Int) = (k1 : Int) := by rw [← hq1]; exact (Int.ofNat_tdiv Z k).symm
      have t2 : (Z : Int) / (k : Int) = (k1 : Int) := by rw [← hq1]; exact (Int.natCast_ediv Z k).symm
      have k1l : k1 ≤ 1000 := by rw [← hq1]; exact Nat.le_trans (Nat.div_le_self _ _) (by omega)
      have e1 : ¬ (k : Int) = 0 := by omega
      have e2 : ((k : Int) == 0) = false := by simp; omega
      obtain ⟨V, hV⟩ : ∃ V, n + m1 = V := ⟨_, rfl⟩
      have hVI : (n : Int) + (m1 : Int) = (V : Int) := by omega
      have hq2 : V / k1 = a1 := by rw [← hV]; exact hS.ha1
      have hk10 : 1 ≤ k1 := hS.hk3
      have t3 : (V : Int).tdiv (k1 : Int) = (a1 : Int) := by rw [← hq2]; exact (Int.ofNat_tdiv V k1).symm
      have t4 : (V : Int) / (k1 : Int) = (a1 : Int) := by rw [← hq2]; exact (Int.natCast_ediv V k1).symm
      have a1l : a1 ≤ 100 := by rw [← hq2]; exact Nat.le_trans (Nat.div_le_self _ _) (by omega)
      have e3 : ¬ (k1 : Int) = 0 := by omega
      have e4 : ((k1 : Int) == 0) = false := by simp; omega
      have hol2 : Hid (out ++ [a1] ++ l' = P) := by show _ = _; rw [← holH.out, hl', List.append_assoc]; rfl
      have holl : out.length ≤ 70 := by
        have h1 := congrArg List.length holH.out
        rw [List.length_append] at h1
        have := hPl.out
        omega
      obtain ⟨j, hj⟩ : ∃ j, out.length = j := ⟨_, rfl⟩
      rw [hj] at holl
      have hjl : Hid ((nzT out).length = j) := by show _ = _; rw [nzT_length, hj]
      have hgoH := Lib.hid hgo'
      have hbs := hblH.out.size
      clear hgo hgo' hl' hS hX hY hZz hV hq1 hq2 hj ha
      go_wp2_with (first
        | (at_builtin; go_loud (refine wpList_append_ze _ rfl (.tmp 48) (.tmp 50) _ rfl Tryz.underlying23 w.heap.size j v (nzT out) (by rfl) (hZH.out.below (below_al (Below.refl _ _) _)) hjl.out _ 1 1 [(a1 : Int)] (by rfl) (IZ.one (by simp)) rfl (by omega) (by omega) (by simp; omega) ?_); intro v2 w4 hA4; rw [← nzT_snoc] at hA4; have hA4H := Lib.hid hA4; clear hA4))
      go_roundg f
      case measure => omega
      case rel => exact ⟨m1, k1, a1, out ++ [a1], l', v2, rfl, rfl, rfl, rfl, hgoH.out, hol2.out, hA4H.out.1, (below_al hblH.out _).trans hA4H.out.2.1⟩
def RootRPost (P : List Nat) (n : Nat) (w : World) (e : Ending) (w' : World) : Prop := ∃ g c, e = .returned (.tuple #[.int .i64 (n : Nat), .slice (some ⟨g, 0, none⟩) P.length c]) ∧ P.length ≤ c ∧ IZ w' (some ⟨g, 0, none⟩) (nzT P) ∧ Below w.heap.size w w'
end Go.Proofs.YtbehfhmdilifkaaGreat
