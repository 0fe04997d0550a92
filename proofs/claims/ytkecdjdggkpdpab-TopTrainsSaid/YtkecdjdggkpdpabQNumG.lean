/- NumG -/
import Derived.Test.YtkecdjdggkpdpabQWb
import Derived.Test.YtkecdjdggkpdpabQWa
import Derived.Test.YtkecdjdggkpdpabQShelf
set_option linter.unusedVariables false
/- Walk of the program's division: part. -/
namespace Go.Proofs.Ytkecdjdggkpdpab
open Go Go.RowKit Go.Proofs

theorem bitLen_bounds : ∀ (k x : Nat), x ≠ 0 → x < 2 ^ k → k ≤ 64 → 2 ^ (Lib.bitLen x - 1) ≤ x ∧ x < 2 ^ Lib.bitLen x ∧ 1 ≤ Lib.bitLen x ∧ Lib.bitLen x ≤ k := by
  intro k
  induction k with
  | zero => intro x h0 h _; omega
  | succ k ih =>
    intro x h0 h hk
    have hx : x < 2 ^ 64 := Nat.lt_of_lt_of_le h (Nat.pow_le_pow_right (by omega) hk)
    rw [Lib.bitLen_half x h0 hx]
    by_cases h1 : x / 2 = 0
    · have : x = 1 := by omega
      subst this
      simp [show Lib.bitLen 0 = 0 from rfl]
    · obtain ⟨e1, e2, e3, e4⟩ := ih (x / 2) h1 (by rw [Nat.pow_succ] at h; omega) (by omega)
      have e5 : 1 + Lib.bitLen (x / 2) - 1 = (Lib.bitLen (x / 2) - 1) + 1 := by omega
      refine ⟨?_, ?_, by omega, by omega⟩
      · rw [e5, Nat.pow_succ]; omega
      · rw [Nat.add_comm, Nat.pow_succ]; omega

/-- How far a limb is from the highest bit. -/
def lead (v : Nat) : Nat := 32 - Lib.bitLen v

theorem lead_spec (v : Nat) (h0 : v ≠ 0) (hv : v < 4294967296) : lead v < 32 ∧ v * 2 ^ lead v < B32 ∧ B32 ≤ 2 * (v * 2 ^ lead v) := by
  obtain ⟨e1, e2, e3, e4⟩ := bitLen_bounds 32 v h0 (by simpa using hv) (by omega)
  have hB : B32 = 2 ^ 32 := rfl
  have h1 : B32 = 2 ^ Lib.bitLen v * 2 ^ lead v := by rw [hB, ← Nat.pow_add]; congr 1; unfold lead; omega
  have h2 : B32 = 2 * (2 ^ (Lib.bitLen v - 1) * 2 ^ lead v) := by
    rw [h1, ← Nat.mul_assoc, ← Nat.pow_succ']
    congr 2
    omega
  refine ⟨by unfold lead; omega, ?_, ?_⟩
  · rw [h1]; exact Nat.mul_lt_mul_of_pos_right e2 (Nat.pow_pos (by omega))
  · conv => lhs; rw [h2]
    exact Nat.mul_le_mul_left _ (Nat.mul_le_mul_right _ e1)

theorem leading_any (v : Nat) (w : World) (h0 : v ≠ 0) (hv : v < 4294967296) :
    Calls Try.prog 77 #[.int .u32 v] w fun e w' => e = .returned (.int .i64 (lead v : Nat)) ∧ w = w' := by
  refine (Try.bits_LeadingZeros32 v w (by omega) (by omega)).mono ?_
  rintro e w' ⟨rfl, rfl⟩
  obtain ⟨e1, e2, e3, e4⟩ := bitLen_bounds 32 v h0 (by simpa using hv) (by omega)
  refine ⟨ret_int ?_, rfl⟩
  unfold lead
  simp
  omega

def RetTwo (w : World) (p q : Nat) (e : Ending) (w' : World) : Prop :=
  ∃ a1 c1 a2 c2, e = .returned (.tuple #[.slice a1 (L B32 p) c1, .slice a2 (L B32 q) c2]) ∧ Mag w' a1 c1 p ∧ Mag w' a2 c2 q ∧ Below w.heap.size w w'

set_option maxHeartbeats 800000 in
theorem part_less (a1 a2 : Option Addr) (c1 c2 x y : Nat) (w : World) (h1 : Mag w a1 c1 x) (h2 : Mag w a2 c2 y) (hb1 : L B32 x ≤ 1000000000) (hb2 : L B32 y ≤ 1000000000) (hlt : x < y) :
    Calls Try.prog 70 #[.slice a1 (L B32 x) c1, .slice a2 (L B32 y) c2] w (RetTwo w (x / y) (x % y)) := by
  have hc : cmpN x y = -1 := by simp [cmpN, hlt]
  go_enter Try.func70, Try.ntmps70
  go_wp2_with (first | (go_at_call 72; (with_reducible refine (compare_any _ _ _ _ _ _ _ h1 h2 hb1 hb2).mono ?_); rintro e w1 ⟨rfl, hbl⟩) | (at_builtin; refine wpList_append_copy _ rfl _ _ _ rfl 100 .u32 4 Try.underlying47 info_u32 (by omega) rfl a1 (L B32 x) c1 (digs B32 x) rfl (h1.2.below hbl) rfl (by omega) ?_; intro ao' c' w' hc' hd' hb'))
  go_ret2
  refine ⟨none, 0, ao', c', ?_, ?_, ?_, hbl.trans (hb'.mono hbl.size)⟩
  · rw [Nat.div_eq_of_lt hlt, Nat.mod_eq_of_lt hlt]; rfl
  · rw [Nat.div_eq_of_lt hlt]; exact Mag.zero _ _ _
  · rw [Nat.mod_eq_of_lt hlt]; exact ⟨hc', hd'⟩

set_option maxHeartbeats 800000 in
theorem part_word (a1 a2 : Option Addr) (c1 c2 x y : Nat) (w : World) (h1 : Mag w a1 c1 x) (h2 : Mag w a2 c2 y) (hb1 : L B32 x ≤ 1000000000) (hy0 : 0 < y) (hle : y ≤ x) (hy : L B32 y = 1) :
    Calls Try.prog 70 #[.slice a1 (L B32 x) c1, .slice a2 (L B32 y) c2] w (RetTwo w (x / y) (x % y)) := by
  have hc : ¬ cmpN x y < 0 := by unfold cmpN; split <;> (try split) <;> omega
  have hb2 : L B32 y ≤ 1000000000 := by omega
  have hyB : y < 4294967296 := by have := lt_pow_L two_le_B32 y; rw [hy] at this; simpa [B32] using this
  have hd : digs B32 y = [y] := by
    rw [digs_pos two_le_B32 (by omega), Nat.mod_eq_of_lt (show y < B32 from hyB), Nat.div_eq_of_lt (show y < B32 from hyB)]; rfl
  have h2' := h2.2
  rw [hd] at h2'
  obtain ⟨b, o, z, hz, hae, hcell⟩ := h2'.at (i := 0) (by simp)
  have hzy : z = y := by simpa using hz.symm
  subst hzy
  subst hae
  rw [Nat.add_zero] at hcell
  clear hz hd h2'
  have hH := Lib.hid hy
  have hcmp := compare_any a1 (some ⟨b, o, none⟩) c1 c2 x z w h1 h2 hb1 hb2
  rw [hy] at hcmp ⊢
  have hcmpH := Lib.hid hcmp
  clear hy hb2 hcmp
  go_enter Try.func70, Try.ntmps70
  go_wp2_with (first | (go_at_call 72; (with_reducible refine hcmpH.out.mono ?_); rintro e w1 ⟨rfl, hbl⟩; have hcell1 := Below.cellAt hbl (Nat.le_refl _) hcell) | (go_at_call 63; (with_reducible refine (byWord_any _ _ _ _ _ (h1.below hbl) hb1 hy0 hyB).mono ?_); rintro e w2 ⟨ao, cap, rfl, hm, hb2⟩))
  have hN : Nblk .u32 (w2.alloc (.cells #[.int .u32 ((x % z : Nat) : Int)] 100)) w2.heap.size 100 [x % z] := heap_alloc_new w2 _
  have hlt : x % z < B32 := Nat.lt_trans (Nat.mod_lt _ hy0) hyB
  have htrim := trim_any (some ⟨w2.heap.size, 0, none⟩) 1 [x % z] _ hN.dg (fun v hv => by simp at hv; omega) (by simp) (by simp)
  have hv : val B32 [x % z] = x % z := by simp [val]
  rw [hv] at htrim
  have hb3 : Below w.heap.size w (w2.alloc (.cells #[.int .u32 ((x % z : Nat) : Int)] 100)) := (hbl.trans (hb2.mono hbl.size)).alloc (Nat.le_trans hbl.size hb2.size) _
  have hm2 := hm.below ((Below.refl w2.heap.size w2).alloc (Nat.le_refl _) (.cells #[.int .u32 ((x % z : Nat) : Int)] 100))
  refine htrim.mono ?_
  rintro e w3 ⟨rfl, hm3, rfl⟩
  go_wp2_with (fail)
  go_ret2
  exact ⟨_, _, _, _, rfl, hm2, hm3, hb3⟩

theorem takeA {A W C : List Nat} {j n : Nat} (hA : A.length = j) (hW : W.length = n) : ((A ++ (W ++ C)).drop j).take n = W := by
  rw [List.drop_append_of_le_length (by omega), List.drop_of_length_le (by omega), List.nil_append, List.take_append_of_le_length (by omega), List.take_of_length_le (by omega)]

/-- The divisor, shifted till its highest bit is set. -/
theorem part_shift (y m v1 : Nat) (hy : L B32 y = m + 2) (hv1 : (digs B32 y)[m + 1]? = some v1) :
    v1 < 4294967296 ∧ v1 ≠ 0 ∧ lead v1 < 32 ∧ y * 2 ^ lead v1 < B32 ^ (m + 2) ∧ B32 ^ (m + 2) ≤ 2 * (y * 2 ^ lead v1) ∧ L B32 (y * 2 ^ lead v1) = m + 2 := by
  have hdl : (digs B32 y).length = m + 2 := hy
  have hv1B : v1 < 4294967296 := (show Lt B32 (digs B32 y) from digs_lt two_le_B32 y).at hv1
  have hv10 : v1 ≠ 0 := by
    refine digs_last two_le_B32 y v1 ?_
    rw [List.getLast?_eq_getElem?, hdl]; exact hv1
  obtain ⟨s1, s2, s3⟩ := lead_spec v1 hv10 hv1B
  have hyv : y = val B32 ((digs B32 y).take (m + 1)) + B32 ^ (m + 1) * v1 := by
    conv => lhs; rw [← val_digs two_le_B32 y]
    have := val_take_succ B32 (digs B32 y) (m + 1) v1 hv1
    rwa [List.take_of_length_le (by omega)] at this
  have hyt : val B32 ((digs B32 y).take (m + 1)) < B32 ^ (m + 1) := by
    have := val_lt ((digs B32 y).take (m + 1)) (fun z hz => digs_lt two_le_B32 y z (List.mem_of_mem_take hz))
    rwa [List.length_take, Nat.min_eq_left (by omega)] at this
  have hp2 : 0 < 2 ^ lead v1 := Nat.pow_pos (by omega)
  have e0 : B32 ^ (m + 2) = B32 ^ (m + 1) * B32 := Nat.pow_succ B32 (m + 1)
  have hV1 : y * 2 ^ lead v1 < B32 ^ (m + 2) := by
    have e1 : y * 2 ^ lead v1 < B32 ^ (m + 1) * ((v1 + 1) * 2 ^ lead v1) := by
      rw [← Nat.mul_assoc]
      exact Nat.mul_lt_mul_of_pos_right (by rw [Nat.mul_add]; omega) hp2
    have e2 : (v1 + 1) * 2 ^ lead v1 ≤ B32 := by
      have e3 : B32 = 2 ^ (32 - lead v1) * 2 ^ lead v1 := B32_split _ s1
      rw [e3] at s2 ⊢
      exact Nat.mul_le_mul_right _ (Nat.lt_of_mul_lt_mul_right s2)
    have e4 : B32 ^ (m + 1) * ((v1 + 1) * 2 ^ lead v1) ≤ B32 ^ (m + 1) * B32 := Nat.mul_le_mul_left _ e2
    rw [e0]
    exact Nat.lt_of_lt_of_le e1 e4
  have hV2 : B32 ^ (m + 2) ≤ 2 * (y * 2 ^ lead v1) := by
    have e1 : B32 ^ (m + 1) * (v1 * 2 ^ lead v1) ≤ y * 2 ^ lead v1 := by
      rw [← Nat.mul_assoc]; exact Nat.mul_le_mul_right _ (by omega)
    have e2 : B32 ^ (m + 1) * B32 ≤ B32 ^ (m + 1) * (2 * (v1 * 2 ^ lead v1)) := Nat.mul_le_mul_left _ s3
    rw [Nat.mul_left_comm, ← e0] at e2
    omega
  refine ⟨hv1B, hv10, s1, hV1, hV2, ?_⟩
  have a1 := L_le_of_lt two_le_B32 _ _ hV1
  have a2 : L B32 y ≤ L B32 (y * 2 ^ lead v1) := L_mono two_le_B32 (Nat.le_mul_of_pos_right _ hp2)
  omega

theorem part_norm (V m v : Nat) (hl : L B32 V = m + 2) (hV : B32 ^ (m + 2) ≤ 2 * V) (hv : (digs B32 V)[m + 1]? = some v) : B32 ≤ 2 * v := by
  have hdl : (digs B32 V).length = m + 2 := hl
  have e1 : V = val B32 ((digs B32 V).take (m + 1)) + B32 ^ (m + 1) * v := by
    conv => lhs; rw [← val_digs two_le_B32 V]
    have := val_take_succ B32 (digs B32 V) (m + 1) v hv
    rwa [List.take_of_length_le (by omega)] at this
  have e2 : val B32 ((digs B32 V).take (m + 1)) < B32 ^ (m + 1) := by
    have := val_lt ((digs B32 V).take (m + 1)) (fun z hz => digs_lt two_le_B32 V z (List.mem_of_mem_take hz))
    rwa [List.length_take, Nat.min_eq_left (by omega)] at this
  have e0 : B32 ^ (m + 2) = B32 ^ (m + 1) * B32 := Nat.pow_succ B32 (m + 1)
  rcases Nat.lt_or_ge (2 * v) B32 with h | h
  · exfalso
    have e3 : B32 ^ (m + 1) * (2 * v + 2) ≤ B32 ^ (m + 1) * B32 := Nat.mul_le_mul_left _ (by unfold B32 at *; omega)
    rw [Nat.mul_add, Nat.mul_left_comm] at e3
    omega
  · exact h

theorem part_start (x V m D : Nat) (us : List Nat) (s y : Nat) (hV : V = y * 2 ^ s) (hx : L B32 x = D + m + 2) (hy : L B32 y = m + 2) (hul : us.length = D + m + 3) (huB : Lt B32 us) (hu : val B32 us = x * 2 ^ s) :
    PartInv (x * 2 ^ s) V m D us (List.replicate (D + 1) 0) (D + 1) := by
  refine ⟨hul, huB, by simp, Lt.replicate (by unfold B32; omega), ?_, ?_⟩
  · rw [List.drop_of_length_le (by simp)]; simp [val, hu]
  · rw [hu, hV, Nat.mul_right_comm]
    refine Nat.mul_lt_mul_of_pos_right ?_ (Nat.pow_pos (by omega))
    have a1 := lt_pow_L two_le_B32 x
    have a2 : B32 ^ (m + 1) ≤ y := pow_le_of_L two_le_B32 (by omega)
    have a3 : B32 ^ (m + 1) * B32 ^ (D + 1) ≤ y * B32 ^ (D + 1) := Nat.mul_le_mul_right _ a2
    rw [← Nat.pow_add, show m + 1 + (D + 1) = D + m + 2 by omega] at a3
    rw [hx] at a1
    omega

set_option maxHeartbeats 3200000 in
set_option maxRecDepth 100000 in
theorem part_long (a1 a2 : Option Addr) (c1 c2 x y m D : Nat) (w : World) (h1 : Mag w a1 c1 x) (h2 : Mag w a2 c2 y) (hb1 : L B32 x ≤ 1000000000) (hle : y ≤ x) (hy : L B32 y = m + 2) (hx : L B32 x = D + m + 2) :
    Calls Try.prog 70 #[.slice a1 (L B32 x) c1, .slice a2 (L B32 y) c2] w (RetTwo w (x / y) (x % y)) := by
  have hc : ¬ cmpN x y < 0 := by unfold cmpN; split <;> (try split) <;> omega
  have hb2 : L B32 y ≤ 1000000000 := by have := L_mono two_le_B32 hle; omega
  obtain ⟨b, o, v1, hv1, hae, hcell⟩ := h2.2.at (i := m + 1) (by show m + 1 < L B32 y; omega)
  subst hae
  obtain ⟨s0, s1, s2, s3, s4, s5⟩ := part_shift y m v1 hy hv1
  have hcmp := Lib.hid (compare_any a1 (some ⟨b, o, none⟩) c1 c2 x y w h1 h2 hb1 hb2)
  have hup1 := fun (w' : World) (hbl : Below w.heap.size w w') => up_any (some ⟨b, o, none⟩) c2 y (lead v1) w' (h2.below hbl) hb2 s2
  have hup2 := fun (w' : World) (hbl : Below w.heap.size w w') => up_any a1 c1 x (lead v1) w' (h1.below hbl) hb1 s2
  have hup1H := Lib.hid hup1
  have hup2H := Lib.hid hup2
  have hyH := Lib.hid hy
  have hxH := Lib.hid hx
  have s5H := Lib.hid s5
  have hv1H := Lib.hid hv1
  clear hup1 hup2
  rw [hy, hx] at hcmp
  rw [hy] at hup1H
  rw [hx] at hup2H
  rw [hy, hx]
  have hb1' : D + m + 2 ≤ 1000000000 := by omega
  clear hy hx hb1 hb2 hv1 s5 hle
  generalize hss : lead v1 = s at *
  have hssH := Lib.hid hss
  clear hss
  have lead_a := leading_any v1
  have lH := Lib.hid lead_a
  rw [hssH.out] at lH
  clear lead_a
  go_enter Try.func70, Try.ntmps70
  go_wp2_with (first
    | (go_at_call 72; (with_reducible refine hcmp.out.mono ?_); rintro e w1 ⟨rfl, hbl⟩; have hcell1 := Below.cellAt hbl (Nat.le_refl _) hcell)
    | (go_at_call 77; (with_reducible refine (lH.out _ s1 s0).mono ?_); rintro e w2 ⟨rfl, rfl⟩))
  refine (hup1H.out _ hbl).mono ?_
  rintro e w2 ⟨rfl, hb3, vs, hN3, hl3, hB3, hv3⟩
  go_wp2_with (fail)
  have t1 := trim_any (some ⟨w1.heap.size, 0, none⟩) (m + 2 + 1) vs w2 hN3.dg hB3 (by omega) (by omega)
  rw [hl3, hv3] at t1
  refine t1.mono ?_
  rintro e w3 ⟨rfl, hmV, rfl⟩
  rw [s5H.out]
  go_wp2_with (fail)
  refine (hup2H.out _ (hbl.trans (hb3.mono hbl.size))).mono ?_
  rintro e w3 ⟨rfl, hb4, us, hN4, hl4, hB4, hv4⟩
  go_wp2_with (first | (at_make; go_loud (refine wpList_make_zero _ rfl (.tmp 55) _ rfl 100 .u32 4 Try.underlying47 info_u32 (by omega) .i64 _ (D + 1) rfl (by simp; omega) (by omega) ?_); intro w4 hN5 hb5))
  have q1 : w1.heap.size < w2.heap.size := hN3.lt
  have q2 : w2.heap.size < w3.heap.size := hN4.lt
  have hinv := part_start x (y * 2 ^ s) m D us s y rfl hxH.out hyH.out (by omega) hB4 hv4
  have hdV : Hid (Dg .u32 w2 (some ⟨w1.heap.size, 0, none⟩) (digs B32 (y * 2 ^ s))) := hmV.2
  have hlV : Hid ((digs B32 (y * 2 ^ s)).length = m + 2) := s5H.out
  have hBV := Lib.hid (show Lt B32 (digs B32 (y * 2 ^ s)) from digs_lt two_le_B32 _)
  have hvV := Lib.hid (val_digs two_le_B32 (y * 2 ^ s))
  have hnV : Hid (∀ v, (digs B32 (y * 2 ^ s))[m + 1]? = some v → B32 ≤ 2 * v) := fun v hv => part_norm _ m v s5H.out s4 hv
  have s3H := Lib.hid s3
  have s4H := Lib.hid s4
  have hbw : Below w.heap.size w w2 := hbl.trans (hb3.mono hbl.size)
  have hN5' := hN4.below hb5 q2
  clear hcell s0 s1 s3 s4 hb3 hN3 hl3 hB3 hv3 hmV hc
  generalize digs B32 (y * 2 ^ s) = ds at *
  go_loopw [13] (fun j wr => ∃ (k : Nat) (us qs : List Nat), k ≤ D + 1 ∧ j = .int .i64 ((k : Int) - 1) ∧ PartInv (x * 2 ^ s) (y * 2 ^ s) m D us qs k ∧ Nblk .u32 wr w2.heap.size 100 us ∧ Nblk .u32 wr w3.heap.size 100 qs ∧ Below w2.heap.size w2 wr) (fun j _ => (intOf j + 1).toNat)
  case atStart => exact ⟨D + 1, us, _, Nat.le_refl _, int_eq (by omega), hinv, hN5', hN5, hb4.trans (hb5.mono (by omega))⟩
  case round =>
    obtain ⟨k, us, qs, hk, rfl, hP, hNu, hNq, hbu⟩ := hrel
    obtain ⟨wo, rfl⟩ : ∃ wo : World, wo = wr := ⟨_, rfl⟩
    have q3 : w3.heap.size < wo.heap.size := hNq.lt
    have q4 : w2.heap.size < wo.heap.size := hNu.lt
    have hPH := Lib.hid hP
    have hNuH := Lib.hid hNu
    have hNqH := Lib.hid hNq
    clear hP hNu hNq hinv hN5' hN5 hN4 hl4 hB4 hv4
    by_cases hk0 : 0 < k
    · obtain ⟨j, rfl⟩ : ∃ j, k = j + 1 := ⟨k - 1, by omega⟩
      obtain ⟨A, W, C, huse, hA, hW, hAB, hWB, hC, hCB, hq, huv⟩ := hPH.out.win (by omega) s3H.out
      subst huse
      have hwin : Hid (Win wo w2.heap.size 100 A W C) := hNuH.out
      obtain ⟨z, hz⟩ : ∃ z, qs[j]? = some z := ⟨_, List.getElem?_eq_getElem (by have := hPH.out.2.2.1; omega)⟩
      have hdig := digit_any w2.heap.size j (D + m + 2 + 1 - j) m A W C (some ⟨w1.heap.size, 0, none⟩) (m + 2 + 1) ds wo hwin.out hA hW hWB (hdV.out.below hbu) hlV.out hBV.out (by rintro b o hbo; injection hbo with hbo; injection hbo with hbo; omega) hnV.out (by rw [hvV.out]; exact hq) (by omega) (by omega)
      have hzH := Lib.hid hz
      have hAH := Lib.hid hA
      have hWH := Lib.hid hW
      have huvH := Lib.hid huv
      have hCH := Lib.hid hC
      have hqH := Lib.hid hq
      have hdigH := Lib.hid hdig
      clear hz hA hW huv hC hq hdig
      have i0 : (0 : Int) ≤ ((j + 1 : Nat) : Int) - 1 := by omega
      go_wp2_with (fail)
      rw [show j + (m + 2) + 1 - j = m + 3 by omega]
      refine hdigH.out.mono ?_
      rintro e w5 ⟨rfl, W', hwin', hl', hB', hv', hgb⟩
      have hNq5 : Nblk .u32 w5 w3.heap.size 100 qs := (hgb.block w3.heap.size q3 (fun e => by injection e; omega)).trans hNqH.out
      have hcq := hNq5.at hzH.out
      have hfq := Blk.frozen hNq5 j
      have hstep := Lib.hid (hPH.out.step (W' := W') (by omega) hAH.out hWH.out (by rw [hl', hWH.out]) hAB hCB hB' hCH.out (by rw [hv', hvV.out]) hqH.out (by have := s4H.out; have : 0 < B32 ^ (m + 2) := Nat.pow_pos (by unfold B32; omega); omega))
      rw [hvV.out]
      have hNqH5 := Lib.hid hNq5
      have hwinH := Lib.hid hwin'
      clear hNq5 hwin' hl' hv'
      go_wp2_with (fail)
      go_roundw
      case rel => exact ⟨j, _, _, by omega, int_eq (by omega), hstep.out, Nblk.far hwinH.out (by simp; omega) _, hNqH5.out.set' rfl, (hbu.trans (gbbelow hgb (by omega))).setCell (by simp; omega) _⟩
      case measure => simp [intOf]
    · have hk00 : k = 0 := by omega
      subst hk00
      obtain ⟨d1, d2⟩ := hPH.out.done s3H.out
      have hul : us.length = D + m + 3 := hPH.out.1
      have hql : qs.length = D + 1 := hPH.out.2.2.1
      have htl : (us.take (m + 2)).length = m + 2 := by rw [List.length_take]; omega
      have tq := fun (W : World) (hW : Nblk .u32 W w3.heap.size 100 qs) => trim_any (some ⟨w3.heap.size, 0, none⟩) (D + 1) qs W hW.dg hPH.out.2.2.2.1 (by omega) (by omega)
      have tu := fun (W : World) (hW : Nblk .u32 W w2.heap.size 100 us) => trim_any (some ⟨w2.heap.size, 0, none⟩) (D + m + 2 + 1) (us.take (m + 2)) W (hW.dg.take _) (hPH.out.2.1.take _) (by omega) (by omega)
      rw [hql, d1] at tq
      rw [htl] at tu
      have hR : L B32 (val B32 (us.take (m + 2))) ≤ 1000000000 := by
        have := L_le_of_lt two_le_B32 _ _ (val_lt (us.take (m + 2)) (hPH.out.2.1.take _))
        omega
      have d2H := Lib.hid d2
      have tqH := Lib.hid tq
      have tuH := Lib.hid tu
      clear d1 d2 hul hql htl tq tu
      generalize val B32 (us.take (m + 2)) = R at *
      go_wp2_with (fail)
      go_region_with (first
        | (go_at_call 54; (with_reducible refine (tqH.out _ (Nblk.drew' hNqH.out)).mono ?_); rintro e w6 ⟨rfl, hm6, rfl⟩)
        | (go_at_call 54; (with_reducible refine (tuH.out _ (Nblk.drew' hNuH.out)).mono ?_); rintro e w7 ⟨rfl, hm7, rfl⟩)
        | (go_at_call 80; (with_reducible refine (down_any _ _ _ _ _ hm7 hR s2).mono ?_); rintro e w8 ⟨ao, cap, rfl, hm8, hb8⟩))
      all_goals
        go_wp2_with (fail)
        go_ret2
        refine ⟨_, _, ao, cap, ?_, hm6.below hb8, ?_, ((hbw.trans (hbu.mono hbw.size)).drew).trans (hb8.mono ?_)⟩
        · rw [← d2H.out]; rfl
        · rw [← d2H.out]; exact hm8
        · exact Nat.le_trans hbw.size hbu.size

theorem part_any (a1 a2 : Option Addr) (c1 c2 x y : Nat) (w : World) (h1 : Mag w a1 c1 x) (h2 : Mag w a2 c2 y) (hb1 : L B32 x ≤ 1000000000) (hb2 : L B32 y ≤ 1000000000) (hy0 : 0 < y) :
    Calls Try.prog 70 #[.slice a1 (L B32 x) c1, .slice a2 (L B32 y) c2] w (RetTwo w (x / y) (x % y)) := by
  rcases Nat.lt_or_ge x y with h | h
  · exact part_less a1 a2 c1 c2 x y w h1 h2 hb1 hb2 h
  · have hp := L_pos two_le_B32 (n := y) (by omega)
    rcases Nat.lt_or_ge (L B32 y) 2 with h3 | h3
    · exact part_word a1 a2 c1 c2 x y w h1 h2 hb1 hy0 h (by omega)
    · have hl := L_mono two_le_B32 h
      obtain ⟨m, hm⟩ : ∃ m, L B32 y = m + 2 := ⟨L B32 y - 2, by omega⟩
      obtain ⟨D, hD⟩ : ∃ D, L B32 x = D + m + 2 := ⟨L B32 x - m - 2, by omega⟩
      exact part_long a1 a2 c1 c2 x y m D w h1 h2 hb1 h hm hD

end Go.Proofs.Ytkecdjdggkpdpab
