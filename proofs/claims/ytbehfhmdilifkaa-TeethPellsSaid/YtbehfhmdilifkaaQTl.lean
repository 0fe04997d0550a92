/- Tl -/
import Derived.Test.YtbehfhmdilifkaaQTj
import Derived.Test.YtbehfhmdilifkaaQPc
set_option linter.unusedVariables false
/- Walk of slices.Repeat of a list, once or twice. -/
namespace Go.Proofs.Ytbehfhmdilifkaa
open Go Go.RowKit Go.Proofs

def ivs (l : List Int) : List Value := l.map fun x : Int => Value.int .i64 x
/-- The block while it is filled with a list. -/
def RepL (w : World) (g : Nat) (F : List Int) (N m : Nat) : Prop := w.heap[g]? = some (.cells (ivs (F.take m ++ List.replicate (N - m) 0)).toArray 3 (0, 0))
theorem repl_len {F : List Int} {N m : Nat} (hF : F.length = N) (h : m ≤ N) : (ivs (F.take m ++ List.replicate (N - m) 0)).length = N := by
  unfold ivs
  rw [List.length_map, List.length_append, List.length_take, List.length_replicate]
  omega
theorem repl_splice {F : List Int} {N m d : Nat} (hF : F.length = N) (h : m + d ≤ N) : splice (ivs (F.take m ++ List.replicate (N - m) 0)) m (ivs ((F.drop m).take d)) = ivs (F.take (m + d) ++ List.replicate (N - (m + d)) 0) := by
  have e1 : (ivs ((F.drop m).take d)).length = d := by unfold ivs; rw [List.length_map, List.length_take, List.length_drop]; omega
  unfold splice
  rw [e1]
  unfold ivs
  rw [← List.map_take, ← List.map_drop, ← List.map_append, ← List.map_append]
  congr 1
  have hm : (F.take m).length = m := by rw [List.length_take]; omega
  have a1 : (F.take m ++ List.replicate (N - m) (0 : Int)).take m = F.take m := by
    rw [List.take_append_of_le_length (by omega)]
    exact List.take_of_length_le (by omega)
  have a2 : (F.take m ++ List.replicate (N - m) (0 : Int)).drop (m + d) = List.replicate (N - (m + d)) 0 := by
    have a0 : (F.take m).drop (m + d) = [] := List.drop_of_length_le (by omega)
    rw [List.drop_append, a0, List.nil_append, hm, List.drop_replicate]
    congr 1
    omega
  rw [a1, a2, List.take_add, List.append_assoc]
theorem repl_cell {w : World} {g : Nat} {F : List Int} {N m : Nat} (h : RepL w g F N m) (hm : m ≤ F.length) {j : Nat} (hj : j < m) : w.cell? ⟨g, j, none⟩ = some (.int .i64 (at0 F j)) := by
  rw [cell_of_row w g j _ 3 (0, 0) h]
  unfold ivs
  rw [List.getElem?_toArray, List.getElem?_map, List.getElem?_append_left (by rw [List.length_take]; omega), List.getElem?_take_of_lt hj, at0_get (by omega)]
  rfl
theorem iv_one {l : List Int} : ∀ u ∈ ivs l, u.oneCell' = true := fun u hu => by
  obtain ⟨y, _, rfl⟩ := List.mem_map.1 hu
  rfl
def RetL (w : World) (F : List Int) (e : Ending) (w' : World) : Prop := ∃ g, e = .returned (.slice (some ⟨g, 0, none⟩) F.length F.length) ∧ IZ w' (some ⟨g, 0, none⟩) F ∧ Below w.heap.size w w'
theorem mul_LC (a b N : Nat) (w : World) (ha : a ≤ 1000) (hb : b ≤ 1000) (h : a * b = N) : Calls Try.prog 83 #[.int .u64 (a : Nat), .int .u64 (b : Nat)] w (fun e w' => e = .returned (.tuple #[.int .u64 0, .int .u64 (N : Nat)]) ∧ w = w') := by
  have hN : N ≤ 1000000 := by rw [← h]; exact Nat.mul_le_mul ha hb
  have h1 := Try.bits_Mul a b (by omega) (by omega) w
  rw [h, show N / 18446744073709551616 = 0 by omega, show N % 18446744073709551616 = N by omega] at h1
  exact h1.mono fun e w' ⟨h1, h2⟩ => ⟨h1, h2.symm⟩
set_option maxRecDepth 100000 in
set_option maxHeartbeats 3200000 in
theorem repeatL_any (g0 L c cap N : Nat) (X F : List Int) (w : World) (hI : IZ w (some ⟨g0, 0, none⟩) X) (hX : X.length = L) (hL : 1 ≤ L) (hL2 : L ≤ 1000) (hF : F.length = N) (hc : (c = 1 ∧ F = X ∧ N = L) ∨ (c = 2 ∧ F = X ++ X ∧ N = 2 * L)) :
    Calls Try.prog 57 #[.slice (some ⟨g0, 0, none⟩) L cap, .int .i64 (c : Nat)] w (RetL w F) := by
  have hLC : L * c = N := by rcases hc with ⟨h, _, h2⟩ | ⟨h, _, h2⟩ <;> subst h <;> omega
  have hc2 : c ≤ 2 := by omega
  have hLN : L ≤ N := by omega
  have hN2 : N ≤ 2000 := by omega
  have hFX : F.take L = X := by
    rcases hc with ⟨_, h, _⟩ | ⟨_, h, _⟩ <;> rw [h]
    · exact List.take_of_length_le (by omega)
    · exact List.take_left' hX
  have hFD : N ≠ L → (F.drop L).take L = X ∧ N = 2 * L := fun hne => by
    rcases hc with ⟨_, _, h⟩ | ⟨_, h, h2⟩
    · exact absurd h hne
    · refine ⟨?_, h2⟩
      rw [h, List.drop_left' hX]
      exact List.take_of_length_le (by omega)
  have hXl : Hid ((ivs X).length = L) := by show _ = _; unfold ivs; rw [List.length_map]; exact hX
  have hXF : Hid ((F.drop 0).take L = X) := by show _ = _; rw [List.drop_zero]; exact hFX
  have hIH := Lib.hid hI
  have hFH := Lib.hid hF
  have hFXH := Lib.hid hFX
  have hFDH := Lib.hid hFD
  have hXH := Lib.hid hX
  have hmul := Lib.hid (fun W => mul_LC L c N W hL2 (by omega) hLC)
  have h0 : decide ((c : Int) < 0) = false := decide_eq_false (by omega)
  have h1 : decide (9223372036854775807 < (N : Int)) = false := decide_eq_false (by omega)
  clear hI hF hFX hFD hX hc hLC
  go_enter Try.func57, Try.ntmps57
  have hsrc : Hid (∀ w2, Below w.heap.size w w2 → ∀ (j : Nat) (u : Value), (ivs X)[j]? = some u → w2.cell? ((⟨g0, 0, none⟩ : Addr).add j) = some u) := fun w2 hb j u hj => by
    unfold ivs at hj
    rw [List.getElem?_map] at hj
    obtain ⟨y, hy, rfl⟩ := Option.map_eq_some_iff.1 hj
    obtain ⟨b, o, e, hcc⟩ := (hIH.out.below hb) j y hy
    injection e with e
    rw [Addr.add_lit]
    injection e with e1 e2
    subst e1 e2
    exact hcc
  have hz : Hid (∀ w2, Nblk .i64 w2 w.heap.size 3 (List.replicate N 0) → RepL w2 w.heap.size F N 0) := fun w2 h => by
    unfold RepL
    unfold Nblk Blk at h
    rw [h]
    simp [ivs]
  have hsp : Hid (∀ w2, w2.heap[w.heap.size]? = some (.cells (splice (ivs (F.take 0 ++ List.replicate (N - 0) 0)) 0 (ivs X)).toArray 3 (0, 0)) → RepL w2 w.heap.size F N L) := fun w2 h => by
    have := repl_splice (m := 0) (d := L) hFH.out (by omega)
    rw [hXF.out, Nat.zero_add] at this
    rw [this] at h
    exact h
  go_wp2_with (first
    | (go_at_call 83; (with_reducible refine (hmul.out _).mono ?_); rintro e w1 ⟨rfl, rfl⟩)
    | (at_make; go_loud (refine wpList_make_zero _ rfl (.tmp 29) _ rfl 3 .i64 8 Try.underlying22 info_intJ (by omega) .i64 (N : Nat) N (by rfl) rfl (by omega) ?_); intro w2 hN3 hb2; have hR2 := Lib.hid (hz.out _ hN3); have hb2H := Lib.hid hb2; clear hN3 hb2)
    | ((refine wpList_copy_splice rfl (.tmp 31) (.tmp 32) 22 22 rfl 3 Try.underlying22 info_size (some ⟨w.heap.size, 0, none⟩) (some ⟨g0, 0, none⟩) N N L cap (by rfl) (by rfl) w.heap.size 0 _ 3 hR2.out (ivs X) (by rw [hXl.out]; exact (Nat.min_eq_left hLN).symm) (fun _ => ⟨rfl, _, rfl, hsrc.out _ hb2H.out⟩) (by rw [repl_len hFH.out (by omega), hXl.out]; omega) iv_one w.heap.size w hb2H.out (Nat.le_refl _) ?_); intro w3 hR3 hb3; have hR3' := Lib.hid (hsp.out _ hR3.out); have hb3H := Lib.hid hb3; rw [hXl.out]; clear hR3 hb3 hR2 hb2H))
  go_loopw [8] (fun m wr => ∃ k : Nat, m = .int .i64 (k : Nat) ∧ (k = L ∨ k = N) ∧ RepL wr w.heap.size F N k ∧ Below w.heap.size w wr) (fun m _ => N - (intOf m).toNat)
  case atStart => exact ⟨L, rfl, .inl rfl, hR3'.out, hb3H.out⟩
  case round =>
    obtain ⟨k, rfl, hk, hR, hbl⟩ := hrel
    have hRH := Lib.hid hR
    have hblH := Lib.hid hbl
    clear hR3' hb3H hsp hz
    by_cases hkn : k < N
    · obtain rfl : L = k := by omega
      obtain ⟨hD, hN2L⟩ := hFDH.out (by omega)
      have hD1 := Lib.hid hD
      have hkI : (L : Int) < (N : Int) := by omega
      have hk0 : (0 : Int) ≤ (L : Int) := by omega
      have hkle : (L : Int) ≤ (N : Int) := by omega
      have hnk : ¬ N = L := by omega
      have hw : IntKind.i64.wrap ((L : Int) + (L : Int)) = (N : Int) := by rw [IntKind.wrap_i64]; omega
      have hsrc2 : Hid (∀ w2 : World, RepL w2 w.heap.size F N L → ∀ (j : Nat) (u : Value), (ivs X)[j]? = some u → w2.cell? ((⟨w.heap.size, 0, none⟩ : Addr).add j) = some u) := fun w2 hb j u hj => by
        unfold ivs at hj
        rw [List.getElem?_map] at hj
        obtain ⟨y, hy, rfl⟩ := Option.map_eq_some_iff.1 hj
        have hjL : j < L := by rw [← hXH.out]; exact (List.getElem?_eq_some_iff.1 hy).1
        rw [Addr.add_lit, Nat.zero_add, repl_cell hb (by rw [hFH.out]; omega) hjL]
        rw [← hFXH.out, List.getElem?_take_of_lt hjL, at0_get (by rw [hFH.out]; omega)] at hy
        injection hy with hy
        rw [hy]
      have hsp2 : Hid (∀ w2, w2.heap[w.heap.size]? = some (.cells (splice (ivs (F.take L ++ List.replicate (N - L) 0)) L (ivs X)).toArray 3 (0, 0)) → RepL w2 w.heap.size F N N) := fun w2 h => by
        have := repl_splice (m := L) (d := L) hFH.out (by omega)
        rw [hD1.out, show L + L = N by omega] at this
        rw [this] at h
        exact h
      have hN2H := Lib.hid hN2L
      clear hR hbl hD hN2L
      go_wp2_with (fail)
      go_region_held3 (fun w' => Below w.heap.size w w')
        (first | exact hblH.out.drew | exact hb4H.out)
        (((refine step_copy_splice rfl (.tmp 41) (.tmp 44) 22 22 rfl 3 Try.underlying22 info_size (some ⟨w.heap.size, L, none⟩) (some ⟨w.heap.size, 0, none⟩) (N - L) (N - L) L N (by rfl) (by rfl) w.heap.size L _ 3 hRH.out (ivs X) (by rw [hXl.out]; exact (Nat.min_eq_left (by have := hN2H.out; omega)).symm) (fun _ => ⟨rfl, _, rfl, hsrc2.out _ hRH.out⟩) (by rw [repl_len hFH.out hLN, hXl.out]; have := hN2H.out; omega) iv_one w.heap.size w hblH.out.drew (Nat.le_refl _) ?_); intro w4 hR4 hb4; have hR4' := Lib.hid (hsp2.out _ hR4.out); have hb4H := Lib.hid hb4; rw [hXl.out]; clear hR4 hb4))
      go_wp2_with (fail)
      go_roundw
      case rel => exact ⟨N, by go_num, .inr rfl, hR4'.out, hb4H.out⟩
      case measure => simp [intOf]; omega
    · obtain rfl : N = k := by omega
      go_wp2_with (fail)
      go_ret
      refine ⟨w.heap.size, by rw [hFH.out]; rfl, fun i x hx => ⟨_, 0, rfl, ?_⟩, hblH.out⟩
      have hi := (List.getElem?_eq_some_iff.1 hx).1
      rw [Nat.zero_add, repl_cell hRH.out (by rw [hFH.out]; exact Nat.le_refl _) (by rw [← hFH.out]; exact hi), at0_of hx]
end Go.Proofs.Ytbehfhmdilifkaa
