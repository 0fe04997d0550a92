/- Ht -/
import Derived.Test.YtbehfhmdilifkaaQHs
set_option linter.unusedVariables false
/- Walks of digits, of the reference's Digits and of Digits. -/
namespace Go.Proofs.Ytbehfhmdilifkaa
open Go Go.RowKit Go.Proofs

theorem nblk_z {w : World} {g : Nat} {xs : List Nat} (h : Nblk .i64 w g 3 xs) : ZBlk w g (nzT xs) := by
  unfold ZBlk nzT
  rw [List.map_map]
  exact h
theorem ZBlk.nset {w : World} {g i x : Nat} {xs : List Nat} (h : ZBlk w g (nzT xs)) : ZBlk (w.setCell ⟨g, i, none⟩ (.int .i64 (x : Nat))) g (nzT (xs.set i x)) := by
  have := h.set i (x : Int)
  unfold nzT at this ⊢
  rw [List.map_set]
  exact this
def DgPost (K : Nat) (F : List Nat) (w : World) (e : Ending) (w' : World) : Prop := ∃ g, e = .returned (.slice (some ⟨g, 0, none⟩) K K) ∧ IZ w' (some ⟨g, 0, none⟩) (nzT F) ∧ Below w.heap.size w w'
theorem rev_tail {Q : List Nat} {K j : Nat} (hQ : Q.length = K + 1) (hj : j < K) (h : j < Q.reverse.tail.length) : Q.reverse.tail[j] = Q.getD (K - 1 - j) 0 := by
  have h1 : K - 1 - j < Q.length := by omega
  rw [List.getElem_tail, List.getElem_reverse, List.getD, List.getElem?_eq_getElem h1, Option.getD_some]
  congr 1
  omega
set_option maxRecDepth 100000 in
set_option maxHeartbeats 3200000 in
theorem digitsP_any (b o n K c v : Nat) (Q F : List Nat) (w : World) (hI : IZ w (some ⟨b, o, none⟩) (nzT Q)) (hn : Q.length = n) (hK : K + 1 = n) (hK1 : 1 ≤ K) (hK2 : K ≤ 19) (hQ : ∀ x ∈ Q, 1 ≤ x ∧ x ≤ 1000000000) (hv : v ≤ 1000000000000) (hF : dgF Q v = F) :
    Calls Try.prog 77 #[.slice (some ⟨b, o, none⟩) n c, .int .i64 (v : Nat)] w (DgPost K F w) := by
  obtain ⟨L, hL⟩ : ∃ L, Q.reverse.tail = L := ⟨_, rfl⟩
  obtain ⟨D, hD⟩ : ∃ D, dgR L v = D := ⟨_, rfl⟩
  have hLl : L.length = K := by rw [← hL]; simp; omega
  have hDl : D.length = K := by rw [← hD, dgR_length, hLl]
  have hat : ∀ j, j < K → ∃ q, Q.getD (K - 1 - j) 0 = q ∧ 1 ≤ q ∧ q ≤ 1000000000 ∧ D.getD j 0 = nS L v j / q ∧ nS L v (j + 1) = nS L v j % q := fun j hj => by
    have h1 : L[j]'(by omega) = Q.getD (K - 1 - j) 0 := by
      subst hL
      exact rev_tail (by omega) hj (by omega)
    refine ⟨_, rfl, ?_, ?_, ?_, ?_⟩
    · exact (hQ _ (by rw [List.getD, List.getElem?_eq_getElem (by omega)]; simp)).1
    · exact (hQ _ (by rw [List.getD, List.getElem?_eq_getElem (by omega)]; simp)).2
    · rw [← hD, dgR_get (by omega), h1]
    · rw [nS_succ (by omega), h1]
  have hdone : outL D K K = F := by rw [outL_done hDl, ← hF, ← hD, ← hL]; rfl
  have hatH := Lib.hid hat
  have hdoneH := Lib.hid hdone
  have hIH := Lib.hid hI
  have hnH := Lib.hid hn
  have hKI : (n : Int) - 1 = (K : Int) := by omega
  have hKH := Lib.hid hK
  clear hat hdone hI hn hQ hF hL hD hLl hDl hK
  go_enter Try.func77, Try.ntmps77
  go_wp2_with (first
    | (at_make; go_loud (refine wpList_make_zero _ rfl (.tmp 9) _ rfl 3 .i64 8 Try.underlying22 info_intJ (by omega) .i64 (K : Nat) K (by rfl) rfl (by omega) ?_); intro w2 hN2 hb2; have hZ0 := Lib.hid (nblk_z hN2); have hb0 := Lib.hid hb2; clear hN2 hb2))
  obtain ⟨g, hg⟩ : ∃ g, w.heap.size = g := ⟨_, rfl⟩
  have hgs : w.heap.size ≤ g := by omega
  rw [hg] at hZ0
  rw [hg]
  go_loopg [1, 6] K (fun gk nv iv wr => ∃ (j m : Nat) (i : Int), nv = .int .i64 (m : Nat) ∧ iv = .int .i64 i ∧ i + j + 1 = K ∧ j + gk = K ∧ nS L v j = m ∧ ZBlk wr g (nzT (outL D K j)) ∧ Below w.heap.size w wr)
  case atStart => exact ⟨0, v, (K : Int) - 1, rfl, rfl, by omega, by omega, by simp [nS], by rw [outL_zero]; exact hZ0.out, hb0.out⟩
  case round =>
    clear hZ0 hb0
    obtain ⟨j, m, iz, rfl, rfl, hij, hjg, hm, hZ, hbl⟩ := hrel
    have hZH := Lib.hid hZ
    have hblH := Lib.hid hbl
    have hml : m ≤ 1000000000000 := by rw [← hm]; exact Nat.le_trans (nS_le _ _ _) hv
    clear hZ hbl
    by_cases hjK : j < K
    · obtain ⟨i, rfl⟩ : ∃ i : Nat, iz = (i : Int) := ⟨iz.toNat, by omega⟩
      have hi0 : (0 : Int) ≤ (i : Int) := by omega
      have hiK : (i : Int) < (K : Int) := by omega
      have hin : (i : Int) < (n : Int) := by have := hKH.out; omega
      have hil : i ≤ 19 := by omega
      obtain ⟨q, hq, hq1, hq2, hd, hs⟩ := hatH.out j hjK
      rw [show K - 1 - j = i by omega] at hq
      rw [hm] at hd hs
      have c1 := iz_nat (hIH.out.below hblH.out) (by rw [hnH.out]; have := hKH.out; omega) hq
      obtain ⟨x, hx⟩ : ∃ x, m / q = x := ⟨_, rfl⟩
      obtain ⟨y, hy⟩ : ∃ y, m % q = y := ⟨_, rfl⟩
      rw [hx] at hd
      rw [hy] at hs
      have f1 : ¬ (q : Int) = 0 := by omega
      have f2 : ((q : Int) == 0) = false := by simp; omega
      have t1 : (m : Int).tmod (q : Int) = (y : Int) := by rw [← hy]; exact (Int.ofNat_tmod m q).symm
      have t2 : (m : Int) % (q : Int) = (y : Int) := by rw [← hy]; exact (Int.natCast_emod m q).symm
      have t3 : (m : Int).tdiv (q : Int) = (x : Int) := by rw [← hx]; exact (Int.ofNat_tdiv m q).symm
      have t4 : (m : Int) / (q : Int) = (x : Int) := by rw [← hx]; exact (Int.natCast_ediv m q).symm
      have hxl : x ≤ 1000000000000 := by rw [← hx]; exact Nat.le_trans (Nat.div_le_self _ _) hml
      have hyl : y ≤ 1000000000000 := by rw [← hy]; exact Nat.le_trans (Nat.mod_le _ _) hml
      have c2 := hZH.out.at (i := i) (by rw [nzT_length, outL_length]; omega)
      have fz := Blk.frozen hZH.out i
      have hgw : g < wr.heap.size := Blk.lt hZH.out
      have hset := hZH.out.nset (i := i) (x := x)
      rw [outL_succ (by omega) hd] at hset
      have hsetH := Lib.hid hset
      have hsH := Lib.hid hs
      have c3 : b ≠ g → (wr.setCell ⟨g, i, none⟩ (.int .i64 (x : Nat))).cell? ⟨b, o + i, none⟩ = some (.int .i64 (q : Nat)) := fun hne => by rw [cell_far (Ne.symm hne)]; exact c1
      have hbg : b ≠ g := by
        have h5 : b < w.heap.size := by
          obtain ⟨b', o', he, hc⟩ := hIH.out 0 ((Q.getD 0 0 : Nat) : Int) (by
            have : 0 < Q.length := by rw [hnH.out]; have := hKH.out; omega
            unfold nzT; rw [List.getElem?_map, List.getElem?_eq_getElem this]; simp [List.getD, this])
          injection he with he
          injection he with e1 e2
          rw [e1]
          exact World.block_lt_of_cell? _ _ hc
        omega
      have c4 := c3 hbg
      have hijH : Hid ((i : Int) + j + 1 = K) := hij
      clear hset hd hx hy hq hs hm c3 hij
      go_wp2_with (fail)
      go_roundg (gk - 1)
      case measure => omega
      case rel => exact ⟨j + 1, y, (i : Int) - 1, rfl, by go_num, by have := hijH.out; omega, by omega, hsH.out, hsetH.out, hblH.out.setCell (by exact hgs) _⟩
    · have hiz : iz = -1 := by omega
      subst hiz
      have hje : j = K := by omega
      subst hje
      have hdn := hdoneH.out
      have hZ2 := Lib.hid hZH.out
      rw [hdn] at hZ2
      clear hm hij hdn
      go_wp2_with (fail)
      go_ret
      exact ⟨g, rfl, hZ2.out.iz, hblH.out⟩
set_option maxRecDepth 100000 in
set_option maxHeartbeats 3200000 in
theorem digitsR_any (ao : Option Addr) (b o n K c d v : Nat) (Q F : List Nat) (w : World) (hI : IZ w (some ⟨b, o, none⟩) (nzT Q)) (hn : Q.length = n) (hK : K + 1 = n) (hK1 : 1 ≤ K) (hK2 : K ≤ 19) (hQ : ∀ x ∈ Q, 1 ≤ x ∧ x ≤ 1000000000) (hv : v ≤ 1000000000000) (hF : dgF Q v = F) :
    Calls Try.prog 48 #[.slice ao n d, .slice (some ⟨b, o, none⟩) n c, .int .i64 (v : Nat)] w (DgPost K F w) := by
  obtain ⟨L, hL⟩ : ∃ L, Q.reverse.tail = L := ⟨_, rfl⟩
  obtain ⟨D, hD⟩ : ∃ D, dgR L v = D := ⟨_, rfl⟩
  have hLl : L.length = K := by rw [← hL]; simp; omega
  have hDl : D.length = K := by rw [← hD, dgR_length, hLl]
  have hat : ∀ j, j < K → ∃ q, Q.getD (K - 1 - j) 0 = q ∧ 1 ≤ q ∧ q ≤ 1000000000 ∧ D.getD j 0 = nS L v j / q ∧ nS L v (j + 1) = nS L v j % q := fun j hj => by
    have h1 : L[j]'(by omega) = Q.getD (K - 1 - j) 0 := by
      subst hL
      exact rev_tail (by omega) hj (by omega)
    refine ⟨_, rfl, ?_, ?_, ?_, ?_⟩
    · exact (hQ _ (by rw [List.getD, List.getElem?_eq_getElem (by omega)]; simp)).1
    · exact (hQ _ (by rw [List.getD, List.getElem?_eq_getElem (by omega)]; simp)).2
    · rw [← hD, dgR_get (by omega), h1]
    · rw [nS_succ (by omega), h1]
  have hdone : outL D K K = F := by rw [outL_done hDl, ← hF, ← hD, ← hL]; rfl
  have hatH := Lib.hid hat
  have hdoneH := Lib.hid hdone
  have hIH := Lib.hid hI
  have hnH := Lib.hid hn
  have hKI : (n : Int) - 1 = (K : Int) := by omega
  have hKH := Lib.hid hK
  clear hat hdone hI hn hQ hF hL hD hLl hDl hK
  go_enter Try.func48, Try.ntmps48
  go_wp2_with (first
    | (at_make; go_loud (refine wpList_make_zero _ rfl (.tmp 11) _ rfl 3 .i64 8 Try.underlying22 info_intJ (by omega) .i64 (K : Nat) K (by rfl) rfl (by omega) ?_); intro w2 hN2 hb2; have hZ0 := Lib.hid (nblk_z hN2); have hb0 := Lib.hid hb2; clear hN2 hb2))
  obtain ⟨g, hg⟩ : ∃ g, w.heap.size = g := ⟨_, rfl⟩
  have hgs : w.heap.size ≤ g := by omega
  rw [hg] at hZ0
  rw [hg]
  go_loopg [2, 8] K (fun gk nv iv wr => ∃ (j m : Nat) (i : Int), nv = .int .i64 (m : Nat) ∧ iv = .int .i64 (i + 1) ∧ i + j + 1 = K ∧ j + gk = K ∧ nS L v j = m ∧ ZBlk wr g (nzT (outL D K j)) ∧ Below w.heap.size w wr)
  case atStart => exact ⟨0, v, (K : Int) - 1, rfl, by rw [Int.sub_add_cancel], by omega, by omega, by simp [nS], by rw [outL_zero]; exact hZ0.out, hb0.out⟩
  case round =>
    clear hZ0 hb0
    obtain ⟨j, m, iz, rfl, rfl, hij, hjg, hm, hZ, hbl⟩ := hrel
    have hZH := Lib.hid hZ
    have hblH := Lib.hid hbl
    have hml : m ≤ 1000000000000 := by rw [← hm]; exact Nat.le_trans (nS_le _ _ _) hv
    clear hZ hbl
    by_cases hjK : j < K
    · obtain ⟨i, rfl⟩ : ∃ i : Nat, iz = (i : Int) := ⟨iz.toNat, by omega⟩
      have hi0 : (0 : Int) ≤ (i : Int) := by omega
      have hiK : (i : Int) < (K : Int) := by omega
      have hin : (i : Int) < (n : Int) := by have := hKH.out; omega
      have hil : i ≤ 19 := by omega
      obtain ⟨i1, hi1⟩ : ∃ i1, i + 1 = i1 := ⟨_, rfl⟩
      have hi1I : (i : Int) + 1 = (i1 : Int) := by omega
      rw [hi1I]
      have hi1l : i1 ≤ 20 := by omega
      have hi1g : (1 : Int) ≤ (i1 : Int) := by omega
      have hi1s : (i1 : Int) - 1 = (i : Int) := by omega
      have hi1H := Lib.hid hi1
      clear hi1 hi1I
      obtain ⟨q, hq, hq1, hq2, hd, hs⟩ := hatH.out j hjK
      rw [show K - 1 - j = i by omega] at hq
      rw [hm] at hd hs
      have c1 := iz_nat (hIH.out.below hblH.out) (by rw [hnH.out]; have := hKH.out; omega) hq
      obtain ⟨x, hx⟩ : ∃ x, m / q = x := ⟨_, rfl⟩
      obtain ⟨y, hy⟩ : ∃ y, m % q = y := ⟨_, rfl⟩
      rw [hx] at hd
      rw [hy] at hs
      have f1 : ¬ (q : Int) = 0 := by omega
      have f2 : ((q : Int) == 0) = false := by simp; omega
      have t1 : (m : Int).tmod (q : Int) = (y : Int) := by rw [← hy]; exact (Int.ofNat_tmod m q).symm
      have t2 : (m : Int) % (q : Int) = (y : Int) := by rw [← hy]; exact (Int.natCast_emod m q).symm
      have t3 : (m : Int).tdiv (q : Int) = (x : Int) := by rw [← hx]; exact (Int.ofNat_tdiv m q).symm
      have t4 : (m : Int) / (q : Int) = (x : Int) := by rw [← hx]; exact (Int.natCast_ediv m q).symm
      have hxl : x ≤ 1000000000000 := by rw [← hx]; exact Nat.le_trans (Nat.div_le_self _ _) hml
      have hyl : y ≤ 1000000000000 := by rw [← hy]; exact Nat.le_trans (Nat.mod_le _ _) hml
      have c2 := hZH.out.at (i := i) (by rw [nzT_length, outL_length]; omega)
      have fz := Blk.frozen hZH.out i
      have hgw : g < wr.heap.size := Blk.lt hZH.out
      have hset := hZH.out.nset (i := i) (x := x)
      rw [outL_succ (by omega) hd] at hset
      have hsetH := Lib.hid hset
      have hsH := Lib.hid hs
      have c3 : b ≠ g → (wr.setCell ⟨g, i, none⟩ (.int .i64 (x : Nat))).cell? ⟨b, o + i, none⟩ = some (.int .i64 (q : Nat)) := fun hne => by rw [cell_far (Ne.symm hne)]; exact c1
      have hbg : b ≠ g := by
        have h5 : b < w.heap.size := by
          obtain ⟨b', o', he, hc⟩ := hIH.out 0 ((Q.getD 0 0 : Nat) : Int) (by
            have : 0 < Q.length := by rw [hnH.out]; have := hKH.out; omega
            unfold nzT; rw [List.getElem?_map, List.getElem?_eq_getElem this]; simp [List.getD, this])
          injection he with he
          injection he with e1 e2
          rw [e1]
          exact World.block_lt_of_cell? _ _ hc
        omega
      have c4 := c3 hbg
      have hijH : Hid ((i : Int) + j + 1 = K) := hij
      clear hset hd hx hy hq hs hm c3 hij
      go_wp2_with (fail)
      go_roundg (gk - 1)
      case measure => omega
      case rel => exact ⟨j + 1, y, (i : Int) - 1, rfl, by have := hi1H.out; go_num, by have := hijH.out; omega, by omega, hsH.out, hsetH.out, hblH.out.setCell (by exact hgs) _⟩
    · have hiz : iz = -1 := by omega
      subst hiz
      have hje : j = K := by omega
      subst hje
      have hdn := hdoneH.out
      have hZ2 := Lib.hid hZH.out
      rw [hdn] at hZ2
      clear hm hij hdn
      go_wp2_with (fail)
      go_ret
      exact ⟨g, rfl, hZ2.out.iz, hblH.out⟩
end Go.Proofs.Ytbehfhmdilifkaa
