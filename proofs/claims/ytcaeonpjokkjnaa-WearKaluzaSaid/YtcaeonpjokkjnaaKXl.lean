/- Kp Kw -/
import Derived.Test.YtcaeonpjokkjnaaKBv
import Derived.Test.YtcaeonpjokkjnaaKXh
import Derived.Deep.RegionHeld3
set_option linter.unusedVariables false
/- Renewals of quotients that never fall (what WearKaluza makes). Plain. -/
namespace Go.Proofs.Ytcaeonpjokkjnaa
open Go Go.RowKit Go.Proofs

/-- The quotients, in eighths; the renewals. -/
def qK (xs : List Nat) : Nat → Nat
  | 0 => 1
  | i + 1 => min 7 (qK xs i + (xs[i]?.getD 0) % 3)
def q8 (n : Nat) : Rat := Rat.divInt ((n : Nat) : Int) ((8 : Nat) : Int)
def uK (xs : List Nat) : Nat → Rat
  | 0 => 1
  | i + 1 => uK xs i * q8 (qK xs (i + 1))
def kL (xs : List Nat) (n : Nat) : List Rat := (List.range (n + 1)).map (uK xs)
theorem qK_ge (xs : List Nat) : ∀ i, 1 ≤ qK xs i ∧ qK xs i ≤ 7
  | 0 => by simp [qK]
  | i + 1 => by have := qK_ge xs i; rw [qK]; omega
theorem qK_step (xs : List Nat) (i : Nat) : qK xs i ≤ qK xs (i + 1) := by have := qK_ge xs i; rw [qK]; omega
theorem qK_mono (xs : List Nat) {i j : Nat} (h : i ≤ j) : qK xs i ≤ qK xs j := by
  induction h with
  | refl => exact Nat.le_refl _
  | step _ ih => exact Nat.le_trans ih (qK_step xs _)
theorem q8_mul (n : Nat) : q8 n * ((8 : Int) : Rat) = ((n : Int) : Rat) := divInt_s n 8 (by omega)
theorem q8_nonneg (n : Nat) : 0 ≤ q8 n := Rat.divInt_nonneg (by omega) (by omega)
theorem q8_mono {a b : Nat} (h : a ≤ b) : q8 a ≤ q8 b := by
  have h1 := q8_mul a
  have h2 := q8_mul b
  have h3 : ((a : Int) : Rat) ≤ ((b : Int) : Rat) := Rat.intCast_le_intCast.2 (by omega)
  have h4 : ((8 : Int) : Rat) = 8 := rfl
  rw [h4] at h1 h2
  grind
theorem q8_le {n : Nat} (h : n ≤ 8) : q8 n ≤ 1 := by
  have h1 := q8_mono h
  have h2 : q8 8 = 1 := by decide
  rw [h2] at h1
  exact h1
theorem uK_ok (xs : List Nat) : ∀ i, 0 ≤ uK xs i ∧ uK xs i ≤ 1 ∧ Iz (8 ^ i) (uK xs i)
  | 0 => ⟨by show (0 : Rat) ≤ 1; decide, by show (1 : Rat) ≤ 1; decide, Iz.one _⟩
  | i + 1 => by
    obtain ⟨a, b, c⟩ := uK_ok xs i
    have p := q8_nonneg (qK xs (i + 1))
    have q := q8_le (n := qK xs (i + 1)) (by have := (qK_ge xs (i + 1)).2; omega)
    rw [uK]
    have h1 : uK xs i * q8 (qK xs (i + 1)) ≤ uK xs i * 1 := Rat.mul_le_mul_of_nonneg_left q a
    refine ⟨Rat.mul_nonneg a p, by grind, ?_⟩
    rw [Nat.pow_succ]
    exact c.mul ⟨_, q8_mul _⟩
theorem uK_parts {xs : List Nat} {i : Nat} (h : i ≤ 7) : (rn (uK xs i)).natAbs < p10 10 ∧ (rd (uK xs i)).natAbs < p10 10 := by
  obtain ⟨a, b, c⟩ := uK_ok xs i
  obtain ⟨b1, b2⟩ := (c.bd (k := 1) a (by exact b)).parts (Nat.pow_pos (by omega))
  have h8 : 8 ^ i ≤ 8 ^ 7 := Nat.pow_le_pow_right (by omega) h
  have h7 : (8 : Nat) ^ 7 < p10 10 := by decide
  exact ⟨by omega, by omega⟩
theorem uK_4 {xs : List Nat} {i : Nat} (h : i ≤ 7) : Short4 (uK xs i) := by
  obtain ⟨a, b⟩ := uK_parts (xs := xs) h
  have h4 : p10 10 ≤ p10 4000 := p10_mono (by omega)
  exact ⟨by omega, by omega⟩
theorem bd_s {d m : Nat} {q : Rat} (h : Bd d m q) (hd : 0 < d) (hm : m ≤ 100) (hd2 : d ≤ 100) : Short4 q := by
  obtain ⟨b1, b2⟩ := h.parts hd
  exact ⟨lt_p10 (by omega) (by omega), lt_p10 (by omega) (by omega)⟩
theorem q8_4 {n : Nat} (h : n ≤ 7) : Short4 (q8 n) := by
  have hb : Bd 8 7 (q8 n) := ⟨(n : Int), q8_mul n, by omega⟩
  exact bd_s hb (by omega) (by omega) (by omega)
theorem kL_length (xs : List Nat) (n : Nat) : (kL xs n).length = n + 1 := by simp [kL]
theorem kL_at {xs : List Nat} {n i : Nat} (h : i ≤ n) : (kL xs n)[i]? = some (uK xs i) := by
  unfold kL; rw [List.getElem?_map, List.getElem?_range (by omega)]; rfl
theorem kL_next (xs : List Nat) (n : Nat) : kL xs n ++ [uK xs (n + 1)] = kL xs (n + 1) := by
  unfold kL; rw [List.range_succ (n := n + 1), List.map_append]; rfl
theorem kL_mem {xs : List Nat} {n : Nat} {q : Rat} (h : q ∈ kL xs n) : ∃ i, i ≤ n ∧ q = uK xs i := by
  unfold kL at h
  obtain ⟨i, hi, rfl⟩ := List.mem_map.1 h
  exact ⟨i, by have := List.mem_range.1 hi; omega, rfl⟩
theorem kL_4 {xs : List Nat} {n : Nat} (hn : n ≤ 7) : ∀ q ∈ kL xs n, Short4 q := fun q hq => by
  obtain ⟨i, hi, rfl⟩ := kL_mem hq
  exact uK_4 (by omega)
theorem kL_40 {xs : List Nat} {n : Nat} (hn : n ≤ 7) : ∀ s ∈ (kL xs n).map nt, s.size ≤ 40 := fun s hs => by
  obtain ⟨q, hq, rfl⟩ := List.mem_map.1 hs
  obtain ⟨i, hi, rfl⟩ := kL_mem hq
  obtain ⟨a, b⟩ := uK_parts (xs := xs) (i := i) (by omega)
  exact nt_small10 a b
theorem nth_kL {xs : List Nat} {n i : Nat} (h : i ≤ n) : nth (kL xs n) i = uK xs i := by unfold nth; rw [kL_at h]; rfl
/-- E3, of what is made. -/
theorem kL_back (xs : List Nat) (n : Nat) : ∀ q ∈ bkL (kL xs n) n, 0 ≤ q := fun q hq => by
  obtain ⟨k, hk⟩ := List.mem_iff_getElem?.1 hq
  have hkn : k < n := by
    have := (List.getElem?_eq_some_iff.1 hk).1
    rw [bkL_length] at this; exact this
  have h := kaluza (us := kL xs n) (r := fun j => q8 (qK xs (j + 1))) (by rw [nth_kL (Nat.zero_le _)]; rfl)
    (fun j hj => by rw [kL_length] at hj; rw [nth_kL (by omega)]; exact (uK_ok xs j).1)
    (fun j hj => by rw [kL_length] at hj; rw [nth_kL (by omega), nth_kL (by omega), uK])
    (fun i j hij => q8_mono (qK_mono xs (by omega))) n (by rw [kL_length]; omega) k hkn
  have e : nth (bkL (kL xs n) n) k = q := by unfold nth; rw [hk]; rfl
  rw [e] at h
  exact h
theorem make8 (n : Nat) (z : Int) (w : World) (hz : ((n : Nat) : Int) = z) (hn : n ≤ 20) : Calls Try.prog 17 #[.int .i64 z, .int .i64 8] w (RetQ w (rn (q8 n)) (rd (q8 n))) := by
  subst hz; exact make_any n 8 (by omega) (by omega) (by omega) w
theorem sg_nneg {q : Rat} (h : 0 ≤ q) : ¬ sg (rn q) < 0 := by
  have h1 : 0 ≤ rn q := Rat.num_nonneg.2 h
  unfold sg; split <;> (try split) <;> omega

end Go.Proofs.Ytcaeonpjokkjnaa

/- Walk of the law WearKaluza. -/
namespace Go.Proofs.Ytcaeonpjokkjnaa
open Go Go.RowKit Go.Proofs

section
attribute [local go_sem] undef
set_option maxRecDepth 100000 in
set_option maxHeartbeats 20000000 in
theorem kaluzaLaw_any (ao : Option Addr) (c l : Nat) (xs : List Nat) (w : World) (hl : xs.length = l) (h : Dg .u8 w ao xs) (hl1 : l ≤ 9223372036854775807) (hx : ∀ x ∈ xs, x < 256) :
    Calls Try.prog 6 #[.slice ao l c] w (RetBool w true) := by
  have hH := Lib.hid h
  have hlH := Lib.hid hl
  have hxH := Lib.hid hx
  clear h hl hx
  go_enter Try.func6, Try.ntmps6
  go_upto_block 0 with (first
    | (go_at_call 15; go_loud (with_reducible refine (whole1 _).mono ?_); rintro e w2 ⟨a2, c2, a2', c2', rfl, hm2, hb2⟩))
  have hV0 := Lib.hid (ZV.one w2 w.heap.size ⟨a2, c2, a2', c2'⟩ 1 hm2 hb2.size)
  have hbV := Lib.hid (hb2.alloc hb2.size (Obj.cells #[.bool (ng (rn 1)), .slice a2 (LZ (rn 1)) c2, .bool (ng (rd 1)), .slice a2' (LZ (rd 1)) c2'] 37))
  clear hb2 hm2
  obtain ⟨V, hVe⟩ : ∃ V, V = w2.alloc (Obj.cells #[.bool (ng (rn 1)), .slice a2 (LZ (rn 1)) c2, .bool (ng (rd 1)), .slice a2' (LZ (rd 1)) c2'] 37) := ⟨_, rfl⟩
  rw [← hVe]
  rw [← hVe] at hV0 hbV
  clear hVe
  go_cut [3, 4, 5] from 17 to 48 (fun s3 s4 s5 wc => ∃ i : Nat, s5 = .int .i64 (i : Nat) ∧ s4 = .int .i64 (qK xs i : Nat) ∧ i ≤ 7 ∧ i ≤ l ∧ ZV wc w.heap.size s3 (kL xs i) ∧ Below w.heap.size w wc)
  case first =>
    go_wp2_with (fail)
    go_loopw [3, 4, 5] (fun s3 s4 s5 wr => ∃ i : Nat, s5 = .int .i64 (i : Nat) ∧ s4 = .int .i64 (qK xs i : Nat) ∧ i ≤ 7 ∧ i ≤ l ∧ ZV wr w.heap.size s3 (kL xs i) ∧ Below w.heap.size w wr) (fun _ _ i _ => 8 - (intOf i).toNat)
    case atStart => exact ⟨0, rfl, rfl, by omega, by omega, hV0.out, hbV.out⟩
    case round =>
      clear hV0 hbV
      obtain ⟨i, rfl, rfl, hi7, hil, hV, hbl⟩ := hrel
      obtain ⟨ab, cb, hbv⟩ := hV.shape
      subst hbv
      have hcap : i + 1 ≤ cb := by have := ZV.cap hV rfl; rw [kL_length] at this; exact this
      rw [kL_length] at hV ⊢
      have hVH := Lib.hid hV
      have hblH := Lib.hid hbl
      have hbs := hbl.size
      by_cases hil2 : i < l
      · by_cases hi72 : i < 7
        · have e1 : (i : Int) < l := by omega
          have e2 : (i : Int) < 7 := by omega
          have e3 : (0 : Int) ≤ (i : Int) := by omega
          have e4 : (i : Int) < (cb : Int) := by omega
          obtain ⟨x, hx⟩ : ∃ x, xs[i]? = some x := ⟨_, List.getElem?_eq_getElem (by rw [hlH.out]; omega)⟩
          obtain ⟨bx, ox, rfl, g0⟩ := (hH.out.below hbl) i x hx
          have hx8 := hxH.out x (List.mem_of_getElem? hx)
          have hq := qK_ge xs i
          obtain ⟨Q, hQ⟩ : ∃ Q, qK xs (i + 1) = Q := ⟨_, rfl⟩
          have hQ7 : Q ≤ 7 := by rw [← hQ]; exact (qK_ge xs (i + 1)).2
          have hQe : min (7 : Int) ((qK xs i : Int) + (x : Int) % 3) = (Q : Int) := by
            rw [← hQ, qK, hx]
            show _ = ((min 7 (qK xs i + x % 3) : Nat) : Int)
            omega
          have hQH := Lib.hid hQ
          obtain ⟨U, hU⟩ : ∃ U, uK xs i = U := ⟨_, rfl⟩
          obtain ⟨N, hN⟩ : ∃ N, uK xs (i + 1) = N := ⟨_, rfl⟩
          have hUN : U * q8 Q = N := by rw [← hU, ← hN, ← hQ, uK]
          have hnx : Hid (kL xs i ++ [N] = kL xs (i + 1)) := by show _ = _; rw [← hN]; exact kL_next xs i
          have hat : (kL xs i)[i]? = some U := by rw [← hU]; exact kL_at (Nat.le_refl i)
          obtain ⟨b, oo, p, hab, hmU, k0, k1, k2, k3⟩ := (ZV.ql hV) i U hat
          subst hab
          have hMU := Lib.hid (show QM wr p.a p.c p.a' p.c' (rn U) (rd U) from hmU)
          have pU := PQ.low (q := U) (by rw [← hU]; exact uK_4 (by omega))
          have pQ := PQ.low (q8_4 hQ7)
          have pN := pU.mul pQ
          rw [hUN] at pN
          have sU := Lib.hid (pU.szq (by omega))
          have sQ := Lib.hid (pQ.szq (by omega))
          have B1 := Lib.hid pN.z1
          have B2 := Lib.hid pN.z2
          have hpos := Lib.hid pN.1
          have heq := Lib.hid pN.2.1
          have hQI : Hid (((Q : Nat) : Int) = (Q : Int)) := rfl
          have hi1 : (i : Int) + 1 - 1 = (i : Int) := by omega
          have hii : (i : Int) < (i : Int) + 1 := by omega
          have hwi : IntKind.i64.wrap (i : Int) = (i : Int) := by rw [IntKind.wrap_i64]; omega
          have hlb : b < wr.heap.size := World.block_lt_of_cell? wr _ k0
          obtain ⟨qk, hqk⟩ : ∃ q, qK xs i = q := ⟨_, rfl⟩
          rw [hqk] at hQe hq ⊢
          clear hx hQ hU hN hUN hat hmU pU pQ pN hV hbl hqk
          go_upto_region 6 with (fail)
          -- region 6
          refine wp_region_held_drew (S := fun _ => True) (by kernel_rfl) trivial (fun hHeld => ?_)
          refine wpAnyH_take (i := 0) (oi := ?oi0) (v := ?v0) ?ho0 (by kernel_rfl) (by kernel_rfl) (by kernel_rfl) ?hq0 (Or.inl ⟨?hw0, ?hy0⟩) (by assumption) ?_
          case ho0 => rfl
          case hw0 => rfl
          case hy0 => (intro w hSw; go_simp; (try (with_reducible rfl)))
          case hq0 => exact fun _ _ _ h => h
          simp only [Act.put, List.getElem_toArray, List.getElem_cons_zero, List.setIfInBounds_toArray, List.set_cons_zero, List.set_cons_succ]
          refine wpAnyH_take (i := 1) (oi := ?oi1) (v := ?v1) ?ho1 (by kernel_rfl) (by kernel_rfl) (by kernel_rfl) ?hq1 (Or.inl ⟨?hw1, ?hy1⟩) (by assumption) ?_
          case ho1 => rfl
          case hw1 => rfl
          case hy1 => (intro w hSw; go_simp; (try (with_reducible rfl)))
          case hq1 => exact fun _ _ _ h => h
          simp only [Act.put, List.getElem_toArray, List.getElem_cons_succ, List.getElem_cons_zero, List.setIfInBounds_toArray, List.set_cons_zero, List.set_cons_succ]
          refine wpAnyH_take (i := 2) (oi := ?oi2) (v := ?v2) ?ho2 (by kernel_rfl) (by kernel_rfl) (by kernel_rfl) ?hq2 (Or.inl ⟨?hw2, ?hy2⟩) (by assumption) ?_
          case ho2 => rfl
          case hw2 => rfl
          case hy2 => (intro w hSw; go_simp; (try (with_reducible rfl)))
          case hq2 => exact fun _ _ _ h => h
          simp only [Act.put, List.getElem_toArray, List.getElem_cons_succ, List.getElem_cons_zero, List.setIfInBounds_toArray, List.set_cons_zero, List.set_cons_succ]
          refine wpAnyH_take (i := 3) (oi := ?oi3) (v := ?v3) ?ho3 (by kernel_rfl) (by kernel_rfl) (by kernel_rfl) ?hq3 (Or.inl ⟨?hw3, ?hy3⟩) (by assumption) ?_
          case ho3 => rfl
          case hw3 => rfl
          case hy3 => (intro w hSw; go_simp; (try (with_reducible rfl)))
          case hq3 => exact fun _ _ _ h => h
          simp only [Act.put, List.getElem_toArray, List.getElem_cons_succ, List.getElem_cons_zero, List.setIfInBounds_toArray, List.set_cons_zero, List.set_cons_succ]
          refine wpAnyH_take (i := 4) (oi := ?oi4) (v := ?v4) ?ho4 (by kernel_rfl) (by kernel_rfl) (by kernel_rfl) ?hq4 (Or.inl ⟨?hw4, ?hy4⟩) (by assumption) ?_
          case ho4 => rfl
          case hw4 => rfl
          case hy4 => (intro w hSw; go_simp; (try (with_reducible rfl)))
          case hq4 => exact fun _ _ _ h => h
          simp only [Act.put, List.getElem_toArray, List.getElem_cons_succ, List.getElem_cons_zero, List.setIfInBounds_toArray, List.set_cons_zero, List.set_cons_succ]
          refine wpAnyH_take (i := 5) (oi := ?oi5) (v := ?v5) ?ho5 (by kernel_rfl) (by kernel_rfl) (by kernel_rfl) ?hq5 (Or.inl ⟨?hw5, ?hy5⟩) (by assumption) ?_
          case ho5 => rfl
          case hw5 => rfl
          case hy5 => (intro w hSw; go_simp; (try (with_reducible rfl)))
          case hq5 => exact fun _ _ _ h => h
          simp only [Act.put, List.getElem_toArray, List.getElem_cons_succ, List.getElem_cons_zero, List.setIfInBounds_toArray, List.set_cons_zero, List.set_cons_succ]
          refine wpAnyH_take (i := 7) (oi := ?oi7) (v := ?v7) ?ho7 (by kernel_rfl) (by kernel_rfl) (by kernel_rfl) ?hq7 (Or.inl ⟨?hw7, ?hy7⟩) (by assumption) ?_
          case ho7 => rfl
          case hw7 => rfl
          case hy7 => (intro w hSw; go_simp; (try (with_reducible rfl)))
          case hq7 => exact fun _ _ _ h => h
          simp only [Act.put, List.getElem_toArray, List.getElem_cons_succ, List.getElem_cons_zero, List.setIfInBounds_toArray, List.set_cons_zero, List.set_cons_succ]
          refine wpAnyH_ready (rs := [6, 8]) (by kernel_rfl) (by simp) ?_
          refine AllReadyH.cons rfl (fun K hK => ?_) (AllReadyH.cons rfl (fun K hK => ?_) AllReadyH.nil)
          · go_simp
            refine hK.out _ _ trivial (fun hHeld => ?_)
            clear hK K
            refine wpAnyH_ready (rs := [8]) (by kernel_rfl) (by simp) ?_
            refine AllReadyH.cons rfl (fun K hK => ?_) AllReadyH.nil
            go_simp
            (go_at_call 17; go_loud (with_reducible refine (make8 Q _ _ hQI.out (by omega)).mono ?_); rintro e y8 ⟨b8, d8, b8', d8', rfl, hm8, hc8⟩; have hm8H := Lib.hid hm8; have hd8 := Lib.hid (bseqZ (Below.refl wr.heap.size wr).drew hc8); have f0 := Below.cellAt hd8.out (Nat.le_refl _) k0; have f1 := Below.cellAt hd8.out (Nat.le_refl _) k1; have f2 := Below.cellAt hd8.out (Nat.le_refl _) k2; have f3 := Below.cellAt hd8.out (Nat.le_refl _) k3; clear hm8 hc8)
            (try go_wp2_with (fail))
            refine hK.out _ _ trivial (fun hHeld => ?_)
            clear hK K
            refine wpAnyH_ready (rs := [9]) (by kernel_rfl) (by simp) ?_
            refine AllReadyH.cons rfl (fun K hK => ?_) AllReadyH.nil
            go_simp
            (go_at_call 13; go_loud (with_reducible refine (mulq_any p.a p.c p.a' p.c' b8 d8 b8' d8' (rn U) (rd U) (rn (q8 Q)) (rd (q8 Q)) _ (QM.up hMU.out hd8.out) hm8H.out sU.out sQ.out).mono ?_); rintro e y9 ⟨b9, d9, b9', d9', rfl, hm9, hc9⟩; have hm9H := Lib.hid hm9; have hd9 := Lib.hid (bseqZ hd8.out hc9); clear hm9 hc9)
            (try go_wp2_with (fail))
            refine hK.out _ _ trivial (fun hHeld => ?_)
            clear hK K
            refine wpAnyH_ready (rs := [10]) (by kernel_rfl) (by simp) ?_
            refine AllReadyH.cons rfl (fun K hK => ?_) AllReadyH.nil
            go_simp
            (go_at_call 19; go_loud (with_reducible refine (lowest_q b9 d9 b9' d9' (rn U * rn (q8 Q)) (rd U * rd (q8 Q)) N _ hm9H.out B1.out B2.out hpos.out heq.out).mono ?_); rintro e y10 ⟨b10, d10, b10', d10', rfl, hm10, hc10⟩; have hm10H := Lib.hid (show ZRp y10 ⟨b10, d10, b10', d10'⟩ N from hm10); have hd10 := Lib.hid (bseqZ hd9.out hc10); have hs10 := hd10.out.size; clear hm10 hc10)
            (try go_wp2_with (fail))
            refine hK.out _ _ trivial (fun hHeld => ?_)
            clear hK K
            refine wpAnyH_ready (rs := [11]) (by kernel_rfl) (by simp) ?_
            refine AllReadyH.cons rfl (fun K hK => ?_) AllReadyH.nil
            go_simp
            refine hK.out _ _ trivial (fun hHeld => ?_)
            clear hK K
            refine wpAnyH_ready (rs := [12]) (by kernel_rfl) (by simp) ?_
            refine AllReadyH.cons rfl (fun K hK => ?_) AllReadyH.nil
            (refine step_append_qw rfl (.tmp 36) (.tmp 47) _ rfl Try.underlying51 w.heap.size (i + 1) (.slice (some ⟨b, oo, none⟩) (i + 1) cb) (kL xs i) N ⟨b10, d10, b10', d10'⟩ rfl ((hVH.out.below hd10.out).below ((Below.refl _ _).alloc (Nat.le_refl _) _)) (kL_length xs i) y10.heap.size rfl (by omega) (by simp; omega) (by simp [go_sem]) (by simp [go_sem]) (by simp [go_sem]) (by simp [go_sem]) (hm10H.out.up ((Below.refl _ _).alloc (Nat.le_refl _) _)) ?_); intro v' y12 hv12 hg12 hw12; rw [hnx.out] at hv12
            (try go_wp2_with (fail))
            refine hK.out _ _ trivial (fun hHeld => ?_)
            clear hK K
            refine wpAnyH_take (i := 13) (oi := ?oia13) (v := ?va13) ?hoa13 (by kernel_rfl) (by kernel_rfl) (by kernel_rfl) ?hqa13 (Or.inl ⟨?hwa13, ?hya13⟩) (by assumption) ?_
            case hoa13 => rfl
            case hwa13 => rfl
            case hya13 => (intro w hSw; go_simp; (try (with_reducible rfl)))
            case hqa13 => exact fun _ _ _ h => h
            simp only [Act.put, List.getElem_toArray, List.getElem_cons_succ, List.getElem_cons_zero, List.setIfInBounds_toArray, List.set_cons_zero, List.set_cons_succ]
            refine wpAnyH_done (by kernel_rfl) ?_ _
            have hw10 := Lib.hid (bseqZ hblH.out hd10.out)
            have hz10 := hw10.out.size
            have hb12 := Lib.hid ((hw10.out.alloc hz10 _).grown hg12 (by simp; omega) (fun g hg => (hVH.out.lt g hg).1))
            go_wp2_with (fail)
            go_roundw
            case rel => exact ⟨i + 1, by go_num, by rw [hQH.out], by omega, by omega, hv12, hb12.out⟩
            case measure => simp [intOf]; omega
          · go_simp
            (go_at_call 17; go_loud (with_reducible refine (make8 Q _ _ hQI.out (by omega)).mono ?_); rintro e y8 ⟨b8, d8, b8', d8', rfl, hm8, hc8⟩; have hm8H := Lib.hid hm8; have hd8 := Lib.hid (bseqZ (Below.refl wr.heap.size wr).drew hc8); have f0 := Below.cellAt hd8.out (Nat.le_refl _) k0; have f1 := Below.cellAt hd8.out (Nat.le_refl _) k1; have f2 := Below.cellAt hd8.out (Nat.le_refl _) k2; have f3 := Below.cellAt hd8.out (Nat.le_refl _) k3; clear hm8 hc8)
            (try go_wp2_with (fail))
            refine hK.out _ _ trivial (fun hHeld => ?_)
            clear hK K
            refine wpAnyH_ready (rs := [6]) (by kernel_rfl) (by simp) ?_
            refine AllReadyH.cons rfl (fun K hK => ?_) AllReadyH.nil
            go_simp
            refine hK.out _ _ trivial (fun hHeld => ?_)
            clear hK K
            refine wpAnyH_ready (rs := [9]) (by kernel_rfl) (by simp) ?_
            refine AllReadyH.cons rfl (fun K hK => ?_) AllReadyH.nil
            go_simp
            (go_at_call 13; go_loud (with_reducible refine (mulq_any p.a p.c p.a' p.c' b8 d8 b8' d8' (rn U) (rd U) (rn (q8 Q)) (rd (q8 Q)) _ (QM.up hMU.out hd8.out) hm8H.out sU.out sQ.out).mono ?_); rintro e y9 ⟨b9, d9, b9', d9', rfl, hm9, hc9⟩; have hm9H := Lib.hid hm9; have hd9 := Lib.hid (bseqZ hd8.out hc9); clear hm9 hc9)
            (try go_wp2_with (fail))
            refine hK.out _ _ trivial (fun hHeld => ?_)
            clear hK K
            refine wpAnyH_ready (rs := [10]) (by kernel_rfl) (by simp) ?_
            refine AllReadyH.cons rfl (fun K hK => ?_) AllReadyH.nil
            go_simp
            (go_at_call 19; go_loud (with_reducible refine (lowest_q b9 d9 b9' d9' (rn U * rn (q8 Q)) (rd U * rd (q8 Q)) N _ hm9H.out B1.out B2.out hpos.out heq.out).mono ?_); rintro e y10 ⟨b10, d10, b10', d10', rfl, hm10, hc10⟩; have hm10H := Lib.hid (show ZRp y10 ⟨b10, d10, b10', d10'⟩ N from hm10); have hd10 := Lib.hid (bseqZ hd9.out hc10); have hs10 := hd10.out.size; clear hm10 hc10)
            (try go_wp2_with (fail))
            refine hK.out _ _ trivial (fun hHeld => ?_)
            clear hK K
            refine wpAnyH_ready (rs := [11]) (by kernel_rfl) (by simp) ?_
            refine AllReadyH.cons rfl (fun K hK => ?_) AllReadyH.nil
            go_simp
            refine hK.out _ _ trivial (fun hHeld => ?_)
            clear hK K
            refine wpAnyH_ready (rs := [12]) (by kernel_rfl) (by simp) ?_
            refine AllReadyH.cons rfl (fun K hK => ?_) AllReadyH.nil
            (refine step_append_qw rfl (.tmp 36) (.tmp 47) _ rfl Try.underlying51 w.heap.size (i + 1) (.slice (some ⟨b, oo, none⟩) (i + 1) cb) (kL xs i) N ⟨b10, d10, b10', d10'⟩ rfl ((hVH.out.below hd10.out).below ((Below.refl _ _).alloc (Nat.le_refl _) _)) (kL_length xs i) y10.heap.size rfl (by omega) (by simp; omega) (by simp [go_sem]) (by simp [go_sem]) (by simp [go_sem]) (by simp [go_sem]) (hm10H.out.up ((Below.refl _ _).alloc (Nat.le_refl _) _)) ?_); intro v' y12 hv12 hg12 hw12; rw [hnx.out] at hv12
            (try go_wp2_with (fail))
            refine hK.out _ _ trivial (fun hHeld => ?_)
            clear hK K
            refine wpAnyH_take (i := 13) (oi := ?oib13) (v := ?vb13) ?hob13 (by kernel_rfl) (by kernel_rfl) (by kernel_rfl) ?hqb13 (Or.inl ⟨?hwb13, ?hyb13⟩) (by assumption) ?_
            case hob13 => rfl
            case hwb13 => rfl
            case hyb13 => (intro w hSw; go_simp; (try (with_reducible rfl)))
            case hqb13 => exact fun _ _ _ h => h
            simp only [Act.put, List.getElem_toArray, List.getElem_cons_succ, List.getElem_cons_zero, List.setIfInBounds_toArray, List.set_cons_zero, List.set_cons_succ]
            refine wpAnyH_done (by kernel_rfl) ?_ _
            have hw10 := Lib.hid (bseqZ hblH.out hd10.out)
            have hz10 := hw10.out.size
            have hb12 := Lib.hid ((hw10.out.alloc hz10 _).grown hg12 (by simp; omega) (fun g hg => (hVH.out.lt g hg).1))
            go_wp2_with (fail)
            go_roundw
            case rel => exact ⟨i + 1, by go_num, by rw [hQH.out], by omega, by omega, hv12, hb12.out⟩
            case measure => simp [intOf]; omega
          -- region 6, end
        · have e1 : (i : Int) < l := by omega
          have e2 : ¬ (i : Int) < 7 := by omega
          go_wp2_with (fail)
          go_meet
          case rel => exact ⟨i, rfl, rfl, hi7, hil, hVH.out, hblH.out⟩
      · have e1 : ¬ (i : Int) < l := by omega
        go_wp2_with (fail)
        go_meet
        case rel => exact ⟨i, rfl, rfl, hi7, hil, hVH.out, hblH.out⟩
  case rest =>
    obtain ⟨k, rfl, rfl, hk7, hkl, hV, hbl⟩ := hcut
    obtain ⟨aK, cK, hbv⟩ := hV.shape
    subst hbv
    obtain ⟨us, hus⟩ : ∃ us, kL xs k = us := ⟨_, rfl⟩
    obtain ⟨n, hn⟩ : ∃ n, k + 1 = n := ⟨_, rfl⟩
    have hul : us.length = n := by rw [← hus, kL_length]; exact hn
    have hu4 := Lib.hid (show ∀ q ∈ us, Short4 q by rw [← hus]; exact kL_4 hk7)
    have hu40 := Lib.hid (show ∀ s ∈ us.map nt, s.size ≤ 40 by rw [← hus]; exact kL_40 hk7)
    have hB := back_two us k n hul hn (by omega) hu4.out hu40.out
    have hbn : Hid (∀ q ∈ bkL us k, 0 ≤ q) := by rw [← hus]; exact kL_back xs k
    rw [hus] at hV
    rw [hul] at hV
    rw [kL_length, hn]
    have hLq := Lib.hid (ZV.ql hV)
    have hulH := Lib.hid hul
    have hbc := Lib.hid hbl
    obtain ⟨ts, hts⟩ : ∃ ts, us.map nt = ts := ⟨_, rfl⟩
    have htsH := Lib.hid hts
    have htl : Hid (ts.length = n) := by show _ = _; rw [← hts, List.length_map]; exact hul
    have hn8 : n ≤ 8 := by omega
    have hnI : (n : Int) - 1 = (k : Int) := by omega
    have hcs := hbl.size
    rw [hts] at hB hu40
    clear hV hbl hus hul hts hV0 hbV
    go_wp2_with (fail)
    obtain ⟨V2, hV2e⟩ : ∃ V2, V2 = wc.alloc (Obj.cells #[] 25) := ⟨_, rfl⟩
    have hO0 : Hid (SV V2 wc.heap.size (.slice (some ⟨wc.heap.size, 0, none⟩) 0 0) []) := by rw [hV2e]; exact SV.lit0 _ _ (Nat.le_refl _)
    have hbO' : Below wc.heap.size wc V2 := by rw [hV2e]; go_grown
    have hbO := Lib.hid hbO'
    rw [← hV2e]
    clear hV2e hbO'
    go_loopw [6, 7] (fun b i wi => ∃ j : Nat, i = .int .i64 (j : Nat) ∧ j ≤ n ∧ SV wi wc.heap.size b (ts.take j) ∧ Below wc.heap.size wc wi) (fun _ i _ => n + 1 - (intOf i).toNat)
    case atStart => exact ⟨0, rfl, by omega, hO0.out, hbO.out⟩
    case round =>
      clear hO0 hbO
      obtain ⟨j, rfl, hj, hO, hbl⟩ := hrel
      obtain ⟨ao2, co2, hbv⟩ := hO.shape
      subst hbv
      have htl2 : (ts.take j).length = j := by rw [List.length_take, htl.out]; omega
      have htlj := Lib.hid htl2
      rw [htl2] at hO ⊢
      have hOH := Lib.hid hO
      have hblj := Lib.hid hbl
      have hbs := hbl.size
      clear hO htl2
      by_cases hju : j < n
      · obtain ⟨q, hq⟩ : ∃ q, us[j]? = some q := ⟨_, List.getElem?_eq_getElem (by rw [hulH.out]; omega)⟩
        obtain ⟨b1, o1, p1, rfl, hm1, x0, x1, x2, x3⟩ := (hLq.out.below hbl) j q hq
        have hM1 := Lib.hid (show QM wr p1.a p1.c p1.a' p1.c' (rn q) (rd q) from hm1)
        have hq4 := Lib.hid (hu4.out q (List.mem_of_getElem? hq))
        have hnx : Hid (ts.take j ++ [nt q] = ts.take (j + 1)) := by
          show _ = _
          rw [List.take_add_one, ← htsH.out, List.getElem?_map, hq]; rfl
        have hkk : (j : Int) < (n : Int) := by omega
        have hk0 : (0 : Int) ≤ (j : Int) := by omega
        have B1 := Lib.hid (show LZ (rn q) ≤ 1000000 by have := LZ_small hq4.out.1; omega)
        have B2 := Lib.hid (show LZ (rd q) ≤ 1000000 by have := LZ_small hq4.out.2; omega)
        clear hq hm1 hbl hB
        go_wp2_with (first
          | (go_at_call 18; go_loud (with_reducible refine (num_s p1.a p1.c p1.a' p1.c' (rn q) (rd q) q _ hM1.out B1.out B2.out (rd_pos q) (rat_eq q) hq4.out).mono ?_); rintro e w6 ⟨rfl, hb6⟩; have q6 := Lib.hid (bseq hblj.out hb6); have hO6 := Lib.hid (hOH.out.below hb6); have hs6 := q6.out.size; clear hb6)
          | (at_builtin; go_loud (refine wpList_append_num _ rfl (.tmp 64) (.tmp 66) _ rfl Try.underlying23 wc.heap.size j (.slice ao2 j co2) (ts.take j) (nt q) rfl (hO6.out.below ((Below.refl _ _).alloc (Nat.le_refl _) _)) htlj.out _ rfl (by omega) (by simp; omega) (by simp [go_sem]) ?_); intro v' w7 hv7 hg7; rw [hnx.out] at hv7; have hb7 := Lib.hid ((q6.out.alloc hs6 _).grown hg7 (by simp; omega) (fun g hg => (hOH.out.lt g hg).1)); clear hg7))
        go_roundw
        case rel => exact ⟨j + 1, by go_num, by omega, hv7, hb7.out⟩
        case measure => simp [intOf]; omega
      · have hkk : ¬ (j : Int) < (n : Int) := by omega
        have hje : j = n := by omega
        subst hje
        have hfull : Hid (ts.take j = ts) := by show _ = _; rw [List.take_of_length_le (by rw [htl.out]; exact Nat.le_refl _)]
        have h9 := hOH.out
        rw [hfull.out] at h9
        have hS := Lib.hid (SV.sl h9)
        have r0 := Lib.hid (bseq (bseq hbc.out hblj.out) (Below.refl wr.heap.size wr))
        clear h9 hbl
        rcases hB with ⟨hE, hBk⟩ | ⟨hE, hb4, hBk⟩
        · have hEH := Lib.hid hE
          have hBH := Lib.hid hBk
          clear hE hBk
          go_wp2_with (first
            | (go_at_call 23; go_loud (with_reducible refine (hBH.out _ ao2 co2 hS.out).mono ?_); rintro e w4 ⟨rfl, hb4⟩; have r4 := Lib.hid (bseq r0.out hb4); have hS4 := Lib.hid (hS.out.below hb4); clear hb4)
            | (go_at_call 24; go_loud (with_reducible refine (renewalsR_any 1 ao2 co2 j _ _ hEH.out htl.out hS4.out hu40.out).mono ?_); rintro e w5 ⟨rfl, hb5⟩; have r5 := Lib.hid (bseq r4.out hb5); clear hb5)
            | (go_at_call 16; go_loud (with_reducible refine (lives_any _).mono ?_); rintro e w6 ⟨rfl, hb6⟩; have r6 := Lib.hid (bseq r5.out hb6); clear hb6))
          go_ret
          exact ⟨rfl, r6.out⟩
        · have hEH := Lib.hid hE
          obtain ⟨fs, hfs⟩ : ∃ fs, bkL us k = fs := ⟨_, rfl⟩
          have hfl : Hid (fs.length = k) := by show _ = _; rw [← hfs]; exact bkL_length us k
          have hfl2 : Hid ((fs.map nt).length = k) := by show _ = _; rw [List.length_map]; exact hfl.out
          rw [hfs] at hb4 hBk hbn
          have hBH := Lib.hid hBk
          have hb4H := Lib.hid hb4
          have hqs : Hid (∀ (v : World) (a : Option Addr) (c : Nat), SL v a (fs.map nt) → Calls Try.prog 22 #[.slice a k c] v (RetLQ v fs)) := fun v a c hS => lqs_any a c k fs v hfl.out hS (by omega) hb4
          clear hE hBk hb4 hfs
          go_wp2_with (first
            | (go_at_call 23; go_loud (with_reducible refine (hBH.out _ ao2 co2 hS.out).mono ?_); rintro e w4 ⟨a4, c4, rfl, hV4, hb4⟩; have r4 := Lib.hid (bseq r0.out hb4); have hS4 := Lib.hid (hS.out.below hb4); have hF4 := Lib.hid (SV.sl hV4); rw [hfl2.out]; clear hV4 hb4)
            | (go_at_call 24; go_loud (with_reducible refine (renewalsR_any 0 ao2 co2 j _ _ hEH.out htl.out hS4.out hu40.out).mono ?_); rintro e w5 ⟨rfl, hb5⟩; have r5 := Lib.hid (bseq r4.out hb5); have hF5 := Lib.hid (hF4.out.below hb5); clear hb5)
            | (go_at_call 22; go_loud (with_reducible refine (hqs.out _ a4 c4 hF5.out).mono ?_); rintro e w6 ⟨a6, c6, rfl, hV6, hb6⟩; have r6 := Lib.hid (bseq r5.out hb6); have hG6 := Lib.hid (ZV.ql hV6); rw [hfl.out]; clear hV6 hb6)
            | (go_at_call 16; go_loud (with_reducible refine (lives_any _).mono ?_); rintro e w7 ⟨rfl, hb7⟩; have r7 := Lib.hid (bseq r6.out hb7); have hG7 := Lib.hid (hG6.out.below hb7); clear hb7))
          go_loopw [14] (fun i wx => ∃ t : Nat, i = .int .i64 (t : Nat) ∧ t ≤ k ∧ Below w7.heap.size w7 wx) (fun i _ => k - (intOf i).toNat)
          case atStart => exact ⟨0, rfl, by omega, Below.refl _ _⟩
          case round =>
            obtain ⟨t, rfl, ht, hbl⟩ := hrel
            have hblH := Lib.hid hbl
            by_cases htk : t < k
            · have hkk : (t : Int) < (k : Int) := by omega
              have ht0 : (0 : Int) ≤ (t : Int) := by omega
              obtain ⟨q, hq⟩ : ∃ q, fs[t]? = some q := ⟨_, List.getElem?_eq_getElem (by rw [hfl.out]; exact htk)⟩
              obtain ⟨b1, o1, p1, rfl, hm1, x0, x1, x2, x3⟩ := (hG7.out.below hbl) t q hq
              have hsg := sg_nneg (hbn.out q (List.mem_of_getElem? hq))
              obtain ⟨z, hz⟩ : ∃ z, sg (rn q) = z := ⟨_, rfl⟩
              rw [hz] at hsg
              have hzb : decide (z < 0) = false := by simp; omega
              have hzH := Lib.hid hz
              clear hq hm1 hz hbl
              go_wp2_with (first
                | (go_at_call 25; go_loud (with_reducible refine (sign_z p1.a p1.c (rn q) z _ hzH.out).mono ?_); rintro e w9 ⟨rfl, hb9⟩; have r9 := Lib.hid (bseqZ hblH.out hb9); clear hb9))
              go_roundw
              case rel => exact ⟨t + 1, by go_num, by omega, r9.out⟩
              case measure => simp [intOf]; omega
            · have hkk : ¬ (t : Int) < (k : Int) := by omega
              go_wp2_with (fail)
              go_ret
              exact ⟨rfl, bseq r7.out hbl⟩

end

end Go.Proofs.Ytcaeonpjokkjnaa
