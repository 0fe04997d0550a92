/- Tl Tm -/
import Derived.Test.YtkecdjdggkpdpabQTj
import Derived.Test.YtkecdjdggkpdpabQPc
import Derived.Test.YtkecdjdggkpdpabQTa
import Derived.Test.YtkecdjdggkpdpabQWe
set_option linter.unusedVariables false
/- Walk of slices.Repeat of a list, once or twice. -/
namespace Go.Proofs.Ytkecdjdggkpdpab
open Go Go.RowKit Go.Proofs

def ivs (l : List Int) : List Value := l.map fun x : Int => Value.int .i64 x
/-- The block while it is filled with a list. -/
def RepL (w : World) (g : Nat) (F : List Int) (N m : Nat) : Prop := w.heap[g]? = some (.cells (ivs (F.take m ++ List.replicate (N - m) 0)).toArray 3 (0, 0))
theorem repl_len {F : List Int} {N m : Nat} (hF : F.length = N) (h : m ≤ N) : (ivs (F.take m ++ List.replicate (N - m) 0)).length = N := by
  unfold ivs
  rw [List.length_map, List.length_append, List.length_take, List.length_replicate]
  omega
theorem repl_splice {F : List Int} {N m d : Nat} (hF : F.length = N) (h : m + d ≤ N) : splice (ivs (F.take m ++ List.replicate (N - m) 0)) m (ivs ((F.drop m).take d)) = ivs (F.take (m + d) ++ List.replicate (N - (m + d)) 0) := by
  have e1 : (ivs ((F.drop m).take d)).length = d := by unfold ivs; rw [List.length_map, List.length_take, List.length_drop]; omega
  unfold splice
  rw [e1]
  unfold ivs
  rw [← List.map_take, ← List.map_drop, ← List.map_append, ← List.map_append]
  congr 1
  have hm : (F.take m).length = m := by rw [List.length_take]; omega
  have a1 : (F.take m ++ List.replicate (N - m) (0 : Int)).take m = F.take m := by
    rw [List.take_append_of_le_length (by omega)]
    exact List.take_of_length_le (by omega)
  have a2 : (F.take m ++ List.replicate (N - m) (0 : Int)).drop (m + d) = List.replicate (N - (m + d)) 0 := by
    have a0 : (F.take m).drop (m + d) = [] := List.drop_of_length_le (by omega)
    rw [List.drop_append, a0, List.nil_append, hm, List.drop_replicate]
    congr 1
    omega
  rw [a1, a2, List.take_add, List.append_assoc]
theorem repl_cell {w : World} {g : Nat} {F : List Int} {N m : Nat} (h : RepL w g F N m) (hm : m ≤ F.length) {j : Nat} (hj : j < m) : w.cell? ⟨g, j, none⟩ = some (.int .i64 (at0 F j)) := by
  rw [cell_of_row w g j _ 3 (0, 0) h]
  unfold ivs
  rw [List.getElem?_toArray, List.getElem?_map, List.getElem?_append_left (by rw [List.length_take]; omega), List.getElem?_take_of_lt hj, at0_get (by omega)]
  rfl
theorem iv_one {l : List Int} : ∀ u ∈ ivs l, u.oneCell' = true := fun u hu => by
  obtain ⟨y, _, rfl⟩ := List.mem_map.1 hu
  rfl
def RetL (w : World) (F : List Int) (e : Ending) (w' : World) : Prop := ∃ g, e = .returned (.slice (some ⟨g, 0, none⟩) F.length F.length) ∧ IZ w' (some ⟨g, 0, none⟩) F ∧ Below w.heap.size w w'
theorem mul_LC (a b N : Nat) (w : World) (ha : a ≤ 1000) (hb : b ≤ 1000) (h : a * b = N) : Calls Try.prog 62 #[.int .u64 (a : Nat), .int .u64 (b : Nat)] w (fun e w' => e = .returned (.tuple #[.int .u64 0, .int .u64 (N : Nat)]) ∧ w = w') := by
  have hN : N ≤ 1000000 := by rw [← h]; exact Nat.mul_le_mul ha hb
  have h1 := Try.bits_Mul a b (by omega) (by omega) w
  rw [h, show N / 18446744073709551616 = 0 by omega, show N % 18446744073709551616 = N by omega] at h1
  exact h1.mono fun e w' ⟨h1, h2⟩ => ⟨h1, h2.symm⟩
set_option maxRecDepth 100000 in
set_option maxHeartbeats 3200000 in
theorem repeatL_any (g0 L c cap N : Nat) (X F : List Int) (w : World) (hI : IZ w (some ⟨g0, 0, none⟩) X) (hX : X.length = L) (hL : 1 ≤ L) (hL2 : L ≤ 1000) (hF : F.length = N) (hc : (c = 1 ∧ F = X ∧ N = L) ∨ (c = 2 ∧ F = X ++ X ∧ N = 2 * L)) :
    Calls Try.prog 42 #[.slice (some ⟨g0, 0, none⟩) L cap, .int .i64 (c : Nat)] w (RetL w F) := by
  have hLC : L * c = N := by rcases hc with ⟨h, _, h2⟩ | ⟨h, _, h2⟩ <;> subst h <;> omega
  have hc2 : c ≤ 2 := by omega
  have hLN : L ≤ N := by omega
  have hN2 : N ≤ 2000 := by omega
  have hFX : F.take L = X := by
    rcases hc with ⟨_, h, _⟩ | ⟨_, h, _⟩ <;> rw [h]
    · exact List.take_of_length_le (by omega)
    · exact List.take_left' hX
  have hFD : N ≠ L → (F.drop L).take L = X ∧ N = 2 * L := fun hne => by
    rcases hc with ⟨_, _, h⟩ | ⟨_, h, h2⟩
    · exact absurd h hne
    · refine ⟨?_, h2⟩
      rw [h, List.drop_left' hX]
      exact List.take_of_length_le (by omega)
  have hXl : Hid ((ivs X).length = L) := by show _ = _; unfold ivs; rw [List.length_map]; exact hX
  have hXF : Hid ((F.drop 0).take L = X) := by show _ = _; rw [List.drop_zero]; exact hFX
  have hIH := Lib.hid hI
  have hFH := Lib.hid hF
  have hFXH := Lib.hid hFX
  have hFDH := Lib.hid hFD
  have hXH := Lib.hid hX
  have hmul := Lib.hid (fun W => mul_LC L c N W hL2 (by omega) hLC)
  have h0 : decide ((c : Int) < 0) = false := decide_eq_false (by omega)
  have h1 : decide (9223372036854775807 < (N : Int)) = false := decide_eq_false (by omega)
  clear hI hF hFX hFD hX hc hLC
  go_enter Try.func42, Try.ntmps42
  have hsrc : Hid (∀ w2, Below w.heap.size w w2 → ∀ (j : Nat) (u : Value), (ivs X)[j]? = some u → w2.cell? ((⟨g0, 0, none⟩ : Addr).add j) = some u) := fun w2 hb j u hj => by
    unfold ivs at hj
    rw [List.getElem?_map] at hj
    obtain ⟨y, hy, rfl⟩ := Option.map_eq_some_iff.1 hj
    obtain ⟨b, o, e, hcc⟩ := (hIH.out.below hb) j y hy
    injection e with e
    rw [Addr.add_lit]
    injection e with e1 e2
    subst e1 e2
    exact hcc
  have hz : Hid (∀ w2, Nblk .i64 w2 w.heap.size 3 (List.replicate N 0) → RepL w2 w.heap.size F N 0) := fun w2 h => by
    unfold RepL
    unfold Nblk Blk at h
    rw [h]
    simp [ivs]
  have hsp : Hid (∀ w2, w2.heap[w.heap.size]? = some (.cells (splice (ivs (F.take 0 ++ List.replicate (N - 0) 0)) 0 (ivs X)).toArray 3 (0, 0)) → RepL w2 w.heap.size F N L) := fun w2 h => by
    have := repl_splice (m := 0) (d := L) hFH.out (by omega)
    rw [hXF.out, Nat.zero_add] at this
    rw [this] at h
    exact h
  go_wp2_with (first
    | (go_at_call 62; (with_reducible refine (hmul.out _).mono ?_); rintro e w1 ⟨rfl, rfl⟩)
    | (at_make; go_loud (refine wpList_make_zero _ rfl (.tmp 29) _ rfl 3 .i64 8 Try.underlying25 info_intJ (by omega) .i64 (N : Nat) N (by rfl) rfl (by omega) ?_); intro w2 hN3 hb2; have hR2 := Lib.hid (hz.out _ hN3); have hb2H := Lib.hid hb2; clear hN3 hb2)
    | ((refine wpList_copy_splice rfl (.tmp 31) (.tmp 32) 25 25 rfl 3 Try.underlying25 info_size (some ⟨w.heap.size, 0, none⟩) (some ⟨g0, 0, none⟩) N N L cap (by rfl) (by rfl) w.heap.size 0 _ 3 hR2.out (ivs X) (by rw [hXl.out]; exact (Nat.min_eq_left hLN).symm) (fun _ => ⟨rfl, _, rfl, hsrc.out _ hb2H.out⟩) (by rw [repl_len hFH.out (by omega), hXl.out]; omega) iv_one w.heap.size w hb2H.out (Nat.le_refl _) ?_); intro w3 hR3 hb3; have hR3' := Lib.hid (hsp.out _ hR3.out); have hb3H := Lib.hid hb3; rw [hXl.out]; clear hR3 hb3 hR2 hb2H))
  go_loopw [8] (fun m wr => ∃ k : Nat, m = .int .i64 (k : Nat) ∧ (k = L ∨ k = N) ∧ RepL wr w.heap.size F N k ∧ Below w.heap.size w wr) (fun m _ => N - (intOf m).toNat)
  case atStart => exact ⟨L, rfl, .inl rfl, hR3'.out, hb3H.out⟩
  case round =>
    obtain ⟨k, rfl, hk, hR, hbl⟩ := hrel
    have hRH := Lib.hid hR
    have hblH := Lib.hid hbl
    clear hR3' hb3H hsp hz
    by_cases hkn : k < N
    · obtain rfl : L = k := by omega
      obtain ⟨hD, hN2L⟩ := hFDH.out (by omega)
      have hD1 := Lib.hid hD
      have hkI : (L : Int) < (N : Int) := by omega
      have hk0 : (0 : Int) ≤ (L : Int) := by omega
      have hkle : (L : Int) ≤ (N : Int) := by omega
      have hnk : ¬ N = L := by omega
      have hw : IntKind.i64.wrap ((L : Int) + (L : Int)) = (N : Int) := by rw [IntKind.wrap_i64]; omega
      have hsrc2 : Hid (∀ w2 : World, RepL w2 w.heap.size F N L → ∀ (j : Nat) (u : Value), (ivs X)[j]? = some u → w2.cell? ((⟨w.heap.size, 0, none⟩ : Addr).add j) = some u) := fun w2 hb j u hj => by
        unfold ivs at hj
        rw [List.getElem?_map] at hj
        obtain ⟨y, hy, rfl⟩ := Option.map_eq_some_iff.1 hj
        have hjL : j < L := by rw [← hXH.out]; exact (List.getElem?_eq_some_iff.1 hy).1
        rw [Addr.add_lit, Nat.zero_add, repl_cell hb (by rw [hFH.out]; omega) hjL]
        rw [← hFXH.out, List.getElem?_take_of_lt hjL, at0_get (by rw [hFH.out]; omega)] at hy
        injection hy with hy
        rw [hy]
      have hsp2 : Hid (∀ w2, w2.heap[w.heap.size]? = some (.cells (splice (ivs (F.take L ++ List.replicate (N - L) 0)) L (ivs X)).toArray 3 (0, 0)) → RepL w2 w.heap.size F N N) := fun w2 h => by
        have := repl_splice (m := L) (d := L) hFH.out (by omega)
        rw [hD1.out, show L + L = N by omega] at this
        rw [this] at h
        exact h
      have hN2H := Lib.hid hN2L
      clear hR hbl hD hN2L
      go_wp2_with (fail)
      go_region_held3 (fun w' => Below w.heap.size w w')
        (first | exact hblH.out.drew | exact hb4H.out)
        (((refine step_copy_splice rfl (.tmp 41) (.tmp 44) 25 25 rfl 3 Try.underlying25 info_size (some ⟨w.heap.size, L, none⟩) (some ⟨w.heap.size, 0, none⟩) (N - L) (N - L) L N (by rfl) (by rfl) w.heap.size L _ 3 hRH.out (ivs X) (by rw [hXl.out]; exact (Nat.min_eq_left (by have := hN2H.out; omega)).symm) (fun _ => ⟨rfl, _, rfl, hsrc2.out _ hRH.out⟩) (by rw [repl_len hFH.out hLN, hXl.out]; have := hN2H.out; omega) iv_one w.heap.size w hblH.out.drew (Nat.le_refl _) ?_); intro w4 hR4 hb4; have hR4' := Lib.hid (hsp2.out _ hR4.out); have hb4H := Lib.hid hb4; rw [hXl.out]; clear hR4 hb4))
      go_wp2_with (fail)
      go_roundw
      case rel => exact ⟨N, by go_num, .inr rfl, hR4'.out, hb4H.out⟩
      case measure => simp [intOf]; omega
    · obtain rfl : N = k := by omega
      go_wp2_with (fail)
      go_ret
      refine ⟨w.heap.size, by rw [hFH.out]; rfl, fun i x hx => ⟨_, 0, rfl, ?_⟩, hblH.out⟩
      have hi := (List.getElem?_eq_some_iff.1 hx).1
      rw [Nat.zero_add, repl_cell hRH.out (by rw [hFH.out]; exact Nat.le_refl _) (by rw [← hFH.out]; exact hi), at0_of hx]
end Go.Proofs.Ytkecdjdggkpdpab

/- Boxes of the program's integers; the loop of Pell. -/
namespace Go.Proofs.Ytkecdjdggkpdpab
open Go Go.RowKit Go.Proofs

/-- A box holds a number. -/
structure PI (W : World) (b n : Nat) (a : Option Addr) (c : Nat) : Prop where
  blk : Blk W b 49 [.bool (ng (n : Int)), .slice a (LI (n : Int)) c]
  im : IM W a c (n : Int)
def PIs (W : World) (b n : Nat) : Prop := ∃ a c, PI W b n a c
theorem PI.noInt {W : World} {b n : Nat} {a : Option Addr} {c : Nat} (h : PI W b n a c) : NoInt W b := fun o k z hc => by
  rw [h.blk.cell] at hc
  rcases o with _ | _ | o
  · simp at hc
  · simp at hc
  · simp at hc
theorem PIs.below {W W' : World} {b n : Nat} (h : PIs W b n) (hb : Below W.heap.size W W') : PIs W' b n := by
  obtain ⟨a, c, h1, h2⟩ := h
  exact ⟨a, c, h1.later hb, h2.up hb⟩
theorem PIs.lt {W : World} {b n : Nat} (h : PIs W b n) : b < W.heap.size := by
  obtain ⟨a, c, h1, _⟩ := h
  exact h1.lt
/-- What a box holds is written anew. -/
def putI (W : World) (b : Nat) (m : Nat) (a : Option Addr) (c : Nat) : World := (W.setCell ⟨b, 0, none⟩ (.bool (ng (m : Int)))).setCell ⟨b, 1, none⟩ (.slice a (LI (m : Int)) c)
theorem PIs.imPut {W : World} {b n m c : Nat} {a a' : Option Addr} {c' : Nat} {z : Int} (h : PIs W b n) (hi : IM W a' c' z) : IM (putI W b m a c) a' c' z := by
  obtain ⟨a0, c0, h0⟩ := h
  have n0 := h0.noInt
  exact (hi.setN n0 0 _).setN (n0.set ⟨b, 0, none⟩ (.bool (ng (m : Int))) (by intro _ _ h; cases h)) 1 _
theorem PIs.put {W : World} {b n m c : Nat} {a : Option Addr} (h : PIs W b n) (hi : IM W a c (m : Int)) : PIs (putI W b m a c) b m := by
  obtain ⟨a0, c0, h0⟩ := h
  refine ⟨a, c, ?_, PIs.imPut (b := b) (n := n) ⟨a0, c0, h0⟩ hi⟩
  exact Blk.set (Blk.set h0.blk 0 _) 1 _
theorem PIs.other {W : World} {b b' n k m c : Nat} {a : Option Addr} (h : PIs W b n) (h' : PIs W b' k) (hne : b' ≠ b) : PIs (putI W b m a c) b' k := by
  obtain ⟨a0, c0, h0⟩ := h'
  exact ⟨a0, c0, (Blk.far (Blk.far h0.blk (by exact hne) _) (by exact hne) _), h.imPut h0.im⟩
theorem PIs.izPut {W : World} {b n m c : Nat} {a : Option Addr} {ao : Option Addr} {xs : List Int} (h : PIs W b n) (hi : IZ W ao xs) : IZ (putI W b m a c) ao xs := by
  obtain ⟨a0, c0, h0⟩ := h
  have n0 := h0.noInt
  exact (hi.setN n0 0 _).setN (n0.set ⟨b, 0, none⟩ (.bool (ng (m : Int))) (by intro _ _ h; cases h)) 1 _
/-- Four boxes: a convergent's numerator, the one before it, and both denominators. -/
structure P4 (W : World) (b1 b2 b3 b4 : Nat) (s : Cv) : Prop where
  x : PIs W b1 s.1
  e : PIs W b2 s.2.1
  y : PIs W b3 s.2.2.1
  f : PIs W b4 s.2.2.2
theorem P4.below {W W' : World} {b1 b2 b3 b4 : Nat} {s : Cv} (h : P4 W b1 b2 b3 b4 s) (hb : Below W.heap.size W W') : P4 W' b1 b2 b3 b4 s := ⟨h.x.below hb, h.e.below hb, h.y.below hb, h.f.below hb⟩
structure N4 (b1 b2 b3 b4 : Nat) : Prop where
  n12 : b1 ≠ b2
  n13 : b1 ≠ b3
  n14 : b1 ≠ b4
  n23 : b2 ≠ b3
  n24 : b2 ≠ b4
  n34 : b3 ≠ b4
theorem P4.put1 {W : World} {b1 b2 b3 b4 : Nat} {s : Cv} (h : P4 W b1 b2 b3 b4 s) (hn : N4 b1 b2 b3 b4) {z : Nat} {a1 a2 : Option Addr} {c1 c2 : Nat} (h1 : IM W a1 c1 (z : Int)) (h2 : IM W a2 c2 (s.1 : Int)) :
    P4 (putI (putI W b1 z a1 c1) b2 s.1 a2 c2) b1 b2 b3 b4 (z, s.1, s.2.2.1, s.2.2.2) := by
  have e1 := h.x.other h.e (m := z) (a := a1) (c := c1) hn.n12.symm
  exact ⟨e1.other (h.x.put h1) hn.n12, e1.put (h.x.imPut h2), e1.other (h.x.other h.y hn.n13.symm) hn.n23.symm, e1.other (h.x.other h.f hn.n14.symm) hn.n24.symm⟩
theorem P4.put2 {W : World} {b1 b2 b3 b4 : Nat} {s : Cv} (h : P4 W b1 b2 b3 b4 s) (hn : N4 b1 b2 b3 b4) {z : Nat} {a1 a2 : Option Addr} {c1 c2 : Nat} (h1 : IM W a1 c1 (z : Int)) (h2 : IM W a2 c2 (s.2.2.1 : Int)) :
    P4 (putI (putI W b3 z a1 c1) b4 s.2.2.1 a2 c2) b1 b2 b3 b4 (s.1, s.2.1, z, s.2.2.1) := by
  have e1 := h.y.other h.f (m := z) (a := a1) (c := c1) hn.n34.symm
  exact ⟨e1.other (h.y.other h.x hn.n13) hn.n14, e1.other (h.y.other h.e hn.n23) hn.n24, e1.other (h.y.put h1) hn.n34, e1.put (h.y.imPut h2)⟩
theorem putI_below {B : Nat} {W0 W : World} {b m c : Nat} {a : Option Addr} (h : Below B W0 W) (hb : B ≤ b) : Below B W0 (putI W b m a c) := (h.setCell hb _).setCell hb _
theorem ofN (n : Nat) (w : World) (hn : n ≤ 4611686018427387904) : Calls Try.prog 34 #[.int .i64 (n : Nat)] w (RetInt w (n : Int)) := of_nat n w hn
theorem mulN3 (a1 a2 : Option Addr) (c1 c2 : Nat) (x y z : Nat) (w : World) (h1 : IM w a1 c1 (x : Int)) (h2 : IM w a2 c2 (y : Int)) (hb1 : LI (x : Int) ≤ 1000) (hb2 : LI (y : Int) ≤ 1000) (hz : x * y = z) :
    Calls Try.prog 36 #[.agg #[.bool (ng (x : Int)), .slice a1 (LI (x : Int)) c1], .agg #[.bool (ng (y : Int)), .slice a2 (LI (y : Int)) c2]] w (RetInt w (z : Int)) := by
  have := mul_any a1 a2 c1 c2 x y w h1 h2 (by omega) (by omega)
  rw [mulN hz] at this
  exact this
theorem addN3 (a1 a2 : Option Addr) (c1 c2 : Nat) (x y z : Nat) (w : World) (h1 : IM w a1 c1 (x : Int)) (h2 : IM w a2 c2 (y : Int)) (hb1 : LI (x : Int) ≤ 1000) (hb2 : LI (y : Int) ≤ 1000) (hz : x + y = z) :
    Calls Try.prog 59 #[.agg #[.bool (ng (x : Int)), .slice a1 (LI (x : Int)) c1], .agg #[.bool (ng (y : Int)), .slice a2 (LI (y : Int)) c2]] w (RetInt w (z : Int)) := by
  have := add_any a1 a2 c1 c2 x y w h1 h2 (by omega) (by omega)
  rw [show (x : Int) + (y : Int) = (z : Int) by omega] at this
  exact this
theorem LI_cvB {n : Nat} (h : n < cvB) : LI (n : Int) ≤ 11 := by
  rw [LI_nat]
  refine Nat.le_trans (L_mono two_le_B32 (Nat.le_of_lt h)) ?_
  decide
end Go.Proofs.Ytkecdjdggkpdpab
