/- Wf -/
import Derived.Test.YteiipfajoikfpaaQWe
import Derived.Test.YteiipfajoikfpaaQUq
set_option linter.unusedVariables false
/- The law PairKonig, walked. -/
namespace Go.Proofs.Yteiipfajoikfpaa
open Go Go.RowKit Go.Proofs

theorem made6_any (n0 lx cx : Nat) (ax : Option Addr) (xs : List Nat) (w : World) (hx : Dg .u16 w ax xs) (hl : xs.length = lx) (hl2 : lx ≤ 9223372036854775807) (hb : ∀ x ∈ xs, x < 65536) (hn : n0 < 256) :
    Calls Try.prog 29 #[.int .u8 (n0 : Nat), .slice ax lx cx, .int .i64 6, .int .i64 20] w (MadePost 6 20 w) :=
  made_anyJ n0 lx cx 6 20 ax xs w hx hl hl2 hb hn (by omega) (by omega) (by omega)
theorem cov_up {C : List (List Int)} {n : Nat} {z y : Int} {rs cs : List Nat} (hzy : z ≤ y) (h : Cov (upA C y) n rs cs) : Cov (upA C z) n rs cs := fun i j hi hj hA => by
  refine h i j hi hj ?_
  unfold upA at *
  have := of_decide_eq_true hA
  exact decide_eq_true (by omega)
/-- The lines that the bits of a number name. -/
def bitsR (s d j : Nat) : List Nat := (List.range j).filter fun i => s.testBit (d + i)
theorem bitsR_yes {s d j : Nat} (h : s.testBit (d + j) = true) : bitsR s d (j + 1) = bitsR s d j ++ [j] := by
  unfold bitsR
  rw [List.range_succ, List.filter_append]
  simp [h]
theorem bitsR_no {s d j : Nat} (h : s.testBit (d + j) = false) : bitsR s d (j + 1) = bitsR s d j := by
  unfold bitsR
  rw [List.range_succ, List.filter_append]
  simp [h]
theorem bitsR_len {s d j : Nat} : (bitsR s d j).length ≤ j := by
  have := List.length_filter_le (fun i => s.testBit (d + i)) (List.range j)
  rw [List.length_range] at this; exact this
theorem bitsR_asc (s d n : Nat) : Asc n 0 (bitsR s d n) := by
  refine ⟨List.Pairwise.sublist List.filter_sublist List.pairwise_lt_range, fun x _ => Nat.zero_le x, fun x hx => ?_⟩
  exact List.mem_range.1 (List.mem_filter.1 hx).1
theorem few_cov {C : List (List Int)} {n t : Nat} {z : Int} {rs cs : List Nat} (ht : mostM (upA C z) n n 0 = t) (hl : rs.length + cs.length < t) : covB (upA C z) n rs cs = false := by
  rcases h : covB (upA C z) n rs cs
  · rfl
  · have := most_cover_all (covB_iff.1 h); omega
set_option maxRecDepth 100000 in
set_option maxHeartbeats 25600000 in
theorem konigLaw_any (n0 lx cx y0 y1 : Nat) (ax : Option Addr) (xs : List Nat) (w : World) (hx : Dg .u16 w ax xs) (hl : xs.length = lx) (hl2 : lx ≤ 9223372036854775807) (hb : ∀ x ∈ xs, x < 65536) (hn : n0 < 256) (hy0 : y0 < 65536) (hy1 : y1 < 65536) :
    Calls Try.prog 12 #[.int .u8 (n0 : Nat), .slice ax lx cx, .agg #[.int .u16 (y0 : Nat), .int .u16 (y1 : Nat)]] w (RetB w true) := by
  have hmade := Lib.hid (fun W (hbW : Below w.heap.size w W) => made6_any n0 lx cx ax xs W (hx.below hbW) hl hl2 hb hn)
  obtain ⟨z, hz⟩ : ∃ z, y0 % 21 = z := ⟨_, rfl⟩
  have hz31 : z < 21 := by omega
  have t1 : ((y0 : Int)).tmod 21 = (z : Int) := by rw [← hz]; exact (Int.ofNat_tmod y0 21).symm
  have t2 : ((y0 : Int)) % 21 = (z : Int) := by omega
  obtain ⟨x, hxx⟩ : ∃ x, y1 % 5 = x := ⟨_, rfl⟩
  have hx5 : x < 5 := by omega
  have t3 : ((y1 : Int)).tmod 5 = (x : Int) := by rw [← hxx]; exact (Int.ofNat_tmod y1 5).symm
  have t4 : ((y1 : Int)) % 5 = (x : Int) := by omega
  clear hx hl hl2 hb hn hz hxx
  go_enter Try.func12, Try.ntmps12
  go_upto_region 1 with (fail)
  obtain ⟨V, hV⟩ : ∃ V, V = w.alloc (Obj.cells #[.int .u16 (y0 : Nat), .int .u16 (y1 : Nat)] 66) := ⟨_, rfl⟩
  rw [← hV]
  have c0 : V.cell? ⟨w.heap.size, 0, none⟩ = some (.int .u16 (y0 : Nat)) := by rw [hV, al_new rfl]; rfl
  have c1 : V.cell? ⟨w.heap.size, 1, none⟩ = some (.int .u16 (y1 : Nat)) := by rw [hV, al_new rfl]; rfl
  have hbV : Hid (Below w.heap.size w V) := by show Below _ _ _; rw [hV]; exact below_al (Below.refl _ _) _
  have c0H := Lib.hid c0
  have c1H := Lib.hid c1
  clear hV c0 c1
  go_upto_region 2 with (first
    | (go_at_call 29; go_loud (with_reducible refine (hmade.out _ hbV.out).mono ?_); rintro e w1 ⟨C, a1, d1, k, rfl, hC, hg, hk6, hmo, hM, hd1, hb1⟩; have hCH := Lib.hid hC; have hgH := Lib.hid hg; have hMH := Lib.hid hM; have hb1H := Lib.hid hb1; clear hmo hM hb1))
  have hk1 : 0 < k := by rw [← hC]; exact hg.1
  have c0 := Below.cellAt hb1H.out (Nat.le_refl _) c0H.out
  have c1 := Lib.hid (Below.cellAt hb1H.out (Nat.le_refl _) c1H.out)
  obtain ⟨t, ht⟩ : ∃ t, mostM (upA C (z : Int)) k k 0 = t := ⟨_, rfl⟩
  obtain ⟨u, hu⟩ : ∃ u, mostM (upA C ((z : Int) + (x : Int))) k k 0 = u := ⟨_, rfl⟩
  have htk : t ≤ k := by rw [← ht]; exact most_le _ _
  have huk : u ≤ k := by rw [← hu]; exact most_le _ _
  have htH := Lib.hid ht
  have huH := Lib.hid hu
  clear hC hg ht hu c0H c1H hmade
  go_upto_region 4 with (first
    | (go_at_call 39; go_loud (with_reducible refine (mostP_at a1 d1 k C (z : Int) t _ hMH.out hgH.out hCH.out htH.out).mono ?_); rintro e w2 ⟨rs, cs, aR, aC, lR, lC, cR, cC, hrs, hcs, hcv, hlR, hlC, hlt, rfl, hR, hC, hcR, hcC, hb2⟩; have hM2 := Lib.hid (hMH.out.below hb2); have hb2H := Lib.hid hb2; have hrsH := Lib.hid hrs; have hcsH := Lib.hid hcs; have hcvH := Lib.hid hcv; have hlRH := Lib.hid hlR; have hlCH := Lib.hid hlC; have hRH := Lib.hid hR; have hCcH := Lib.hid hC; clear hb2 hrs hcs hcv hlR hlC hR hC))
  have hltI : (lR : Int) + (lC : Int) = (t : Int) := by omega
  have c1' : w2.cell? ⟨w.heap.size, 1, none⟩ = some (.int .u16 (y1 : Nat)) := Below.cellAt hb2H.out (Nat.le_refl _) c1.out
  clear c0
  go_upto_region 5 with (first
    | (go_at_call 39; go_loud (with_reducible refine (mostP_at a1 d1 k C _ u _ hM2.out hgH.out hCH.out huH.out).mono ?_); rintro e w3 ⟨rs3, cs3, aR3, aC3, lR3, lC3, cR3, cC3, hrs3, hcs3, hcv3, hlR3, hlC3, hlt3, rfl, hR3, hC3, hcR3, hcC3, hb3⟩; have hM3 := Lib.hid (hM2.out.below hb3); have hb3H := Lib.hid hb3; have hcv3H := Lib.hid hcv3; have hlR3H := Lib.hid hlR3; have hlC3H := Lib.hid hlC3; have hR3 := Lib.hid (hRH.out.below hb3); have hC3 := Lib.hid (hCcH.out.below hb3); clear hb3 hrs3 hcs3 hcv3 hlR3 hlC3))
  have htu : t ≤ u := by
    have h1 := most_cover_all (cov_up (z := (z : Int)) (by omega) (covB_iff.1 hcv3H.out))
    rw [htH.out, hlR3H.out, hlC3H.out] at h1; omega
  have huI : decide ((u : Int) < (t : Int)) = false := by simp; omega
  have huN : decide (u < t) = false := by simp; omega
  have huP : ¬ u < t := by omega
  have htt : ((t : Int) != (t : Int)) = false := by simp
  clear c1' c1
  go_upto_region 8 with (first
      | (go_at_call 41; go_loud (with_reducible refine (coversR_any a1 aR aC d1 k lR cR lC cC C z rs cs true _ hM3.out hgH.out hCH.out hR3.out hC3.out hlRH.out hlCH.out hcR hcC hrsH.out hcsH.out hcvH.out).mono ?_); rintro e w6 ⟨rfl, hb6⟩; have hb6H := Lib.hid hb6; have hM6 := Lib.hid (hM3.out.below hb6); clear hb6)
      | (go_at_call 21; go_loud (with_reducible refine (lives_any _).mono ?_); rintro e w9 ⟨rfl, hb9⟩; have hM9 := Lib.hid (hM6.out.below hb9); have hb9H := Lib.hid hb9; clear hb9))
  have hw9 := Lib.hid (bseqJ hbV.out (bseqJ hb1H.out (bseqJ hb2H.out (bseqJ hb3H.out (bseqJ hb6H.out hb9H.out)))))
  clear hbV hb1H hb2H hb3H hb6H hb9H hM2 hM3 hMH hM6 hR3 hC3 hRH hCcH hcv3H hlR3H hlC3H hcvH hrsH hcsH hlRH hlCH
  have k2 : (2 : Int) * (k : Int) = ((2 * k : Nat) : Int) := by push_cast; rfl
  obtain ⟨kk, hkk⟩ : ∃ kk, 2 * k = kk := ⟨_, rfl⟩
  rw [hkk] at k2
  have hkk12 : kk ≤ 12 := by omega
  obtain ⟨N, hN⟩ : ∃ N, 2 ^ kk = N := ⟨_, rfl⟩
  have hN4 : N ≤ 4096 := by rw [← hN]; exact Nat.pow_le_pow_right (n := 2) (by omega) hkk12
  have hNI : (2 : Int) ^ kk = (N : Int) := by rw [← hN]; simp
  have wN : IntKind.i64.wrap ((2 : Int) ^ kk) = (N : Int) := by rw [hNI, IntKind.wrap_i64]; omega
  have kk64 : (kk : Int) < 64 := by omega
  have kk0 : (0 : Int) ≤ (kk : Int) := by omega
  clear hN
  go_wp2_with (fail)
  go_loopg [17] N (fun gk iv wr => ∃ i : Nat, iv = .int .i64 (i : Nat) ∧ i + gk = N ∧ Below w9.heap.size w9 wr)
  case atStart => exact ⟨0, rfl, by omega, Below.refl _ _⟩
  case round =>
    obtain ⟨i, rfl, hi, hbl⟩ := hrel
    have hblH := Lib.hid hbl
    clear hbl
    by_cases hin : i < N
    · obtain ⟨g1, rfl⟩ : ∃ g1, gk = g1 + 1 := ⟨gk - 1, by omega⟩
      have hiI : (i : Int) < (N : Int) := by omega
      have hiB : decide ((i : Int) < (N : Int)) = true := by simp; omega
      go_wp2_with (fail)
      have hTwo : Hid (TwoL ((wr.alloc (.cells #[] 3)).alloc (.cells #[] 3)) wr.heap.size (.slice (some ⟨wr.heap.size, 0, none⟩) 0 0) (nz []) (.slice (some ⟨wr.heap.size + 1, 0, none⟩) 0 0) (nz [])) := by
        refine ⟨(ZI.lit0 wr wr.heap.size (Nat.le_refl _)).below (below_al (Below.refl _ _) _), ?_, fun g h1 h2 => ?_⟩
        · have h1 := ZI.lit0 (wr.alloc (.cells #[] 3)) wr.heap.size (by simp)
          have h2 : (wr.alloc (.cells #[] 3)).heap.size = wr.heap.size + 1 := by simp
          rw [h2] at h1
          exact h1
        · injection h1 with h1
          injection h2 with h2
          simp at h1 h2; omega
      have hba : Hid (Below wr.heap.size wr ((wr.alloc (.cells #[] 3)).alloc (.cells #[] 3))) := by show Below _ _ _; exact below_al (below_al (Below.refl _ _) _) _
      obtain ⟨wq, hwq⟩ : ∃ wq, wq = wr := ⟨_, rfl⟩
      subst hwq
      go_loopg [18, 19, 20] k (fun gk rv cv jv wx => ∃ (j : Nat) (v1 v2 : Value), v1 = rv ∧ v2 = cv ∧ jv = .int .i64 (j : Nat) ∧ j + gk = k ∧ TwoL wx wq.heap.size v1 (nz (bitsR i 0 j)) v2 (nz (bitsR i k j)) ∧ Below wq.heap.size wq wx)
      case atStart => exact ⟨0, _, _, rfl, rfl, rfl, by omega, hTwo.out, hba.out⟩
      case round =>
        clear hTwo hba
        obtain ⟨j, v1, v2, rfl, rfl, rfl, hj, hT, hbx⟩ := hrel
        obtain ⟨b1, e1, hv1⟩ := hT.z1.shape
        obtain ⟨b2, e2, hv2⟩ := hT.z2.shape
        obtain ⟨u1, hu1⟩ : ∃ u1, (bitsR i 0 j).length = u1 := ⟨_, rfl⟩
        obtain ⟨u2, hu2⟩ : ∃ u2, (bitsR i k j).length = u2 := ⟨_, rfl⟩
        rw [nz_length, hu1] at hv1
        rw [nz_length, hu2] at hv2
        subst hv1 hv2
        have hu1k : u1 ≤ j := by rw [← hu1]; exact bitsR_len
        have hu2k : u2 ≤ j := by rw [← hu2]; exact bitsR_len
        have hz1 : Hid ((nz (bitsR i 0 j)).length = u1) := by show _ = _; rw [nz_length]; exact hu1
        have hz2 : Hid ((nz (bitsR i k j)).length = u2) := by show _ = _; rw [nz_length]; exact hu2
        have hTH := Lib.hid hT
        have hbxH := Lib.hid hbx
        have hsz := hbx.size
        clear hT hbx
        by_cases hjk : j < k
        · obtain ⟨g2, rfl⟩ : ∃ g2, gk = g2 + 1 := ⟨gk - 1, by omega⟩
          clear hu1 hu2
          have hjI : (j : Int) < (k : Int) := by omega
          have hj64 : (j : Int) < 64 := by omega
          have hj0 : (0 : Int) ≤ (j : Int) := by omega
          have hkjI : (k : Int) + (j : Int) = ((k + j : Nat) : Int) := by push_cast; rfl
          obtain ⟨kj, hkj⟩ : ∃ kj, k + j = kj := ⟨_, rfl⟩
          rw [hkj] at hkjI
          have hkj64 : (kj : Int) < 64 := by omega
          have hkj0 : (0 : Int) ≤ (kj : Int) := by omega
          rcases ht1 : i.testBit j
          · have hbit1 : bits .and .i64 ((i : Int) / 2 ^ j) 1 = 0 := by rw [bit_at i j (by omega), ht1]; rfl
            have hr := Lib.hid (bitsR_no (s := i) (d := 0) (j := j) (by rw [Nat.zero_add]; exact ht1))
            clear ht1
            go_upto_region 16 with (fail)
            rcases ht2 : i.testBit kj
            · have hbit2 : bits .and .i64 ((i : Int) / 2 ^ kj) 1 = 0 := by rw [bit_at i kj (by omega), ht2]; rfl
              have hc := Lib.hid (bitsR_no (s := i) (d := k) (j := j) (by rw [hkj]; exact ht2))
              clear ht2
              go_wp2_with (fail)
              go_roundg g2
              case measure => omega
              case rel => exact ⟨j + 1, _, _, rfl, rfl, by go_num, by omega, by rw [hr.out, hc.out]; exact hTH.out, hbxH.out⟩
            · have hbit2 : bits .and .i64 ((i : Int) / 2 ^ kj) 1 = 1 := by rw [bit_at i kj (by omega), ht2]; rfl
              have hc : Hid (nz (bitsR i k j) ++ [(j : Int)] = nz (bitsR i k (j + 1))) := by show _ = _; rw [bitsR_yes (by rw [hkj]; exact ht2), ← nz_snoc]
              clear ht2
              go_wp2_with (at_builtin; go_loud (refine wpList_append_z _ rfl (.tmp 114) (.tmp 116) _ rfl Try.underlying24 wq.heap.size u2 (.slice b2 u2 e2) (nz (bitsR i k j)) (j : Nat) (by rfl) (hTH.out.z2.below (below_al (Below.refl _ _) _)) hz2.out wr.heap.size (by rfl) (by omega) (by simp; omega) (by simp) ?_); intro v6 w6 hZ6 hg6 ho6; rw [hc.out] at hZ6; have hT6 := Lib.hid ((hTH.out.below (below_al (Below.refl _ _) _)).put2 hZ6 hg6 ho6); have hb6 := Lib.hid ((below_al hbxH.out _).grown hg6 (by simp; omega) (fun k hk => (hTH.out.z2.lt k hk).1)); clear hZ6 hg6 ho6)
              go_roundg g2
              case measure => omega
              case rel => exact ⟨j + 1, _, _, rfl, rfl, by go_num, by omega, by rw [hr.out]; exact hT6.out, hb6.out⟩
          · have hbit1 : bits .and .i64 ((i : Int) / 2 ^ j) 1 = 1 := by rw [bit_at i j (by omega), ht1]; rfl
            have hr : Hid (nz (bitsR i 0 j) ++ [(j : Int)] = nz (bitsR i 0 (j + 1))) := by show _ = _; rw [bitsR_yes (by rw [Nat.zero_add]; exact ht1), ← nz_snoc]
            clear ht1
            go_upto_region 16 with (at_builtin; go_loud (refine wpList_append_z _ rfl (.tmp 102) (.tmp 104) _ rfl Try.underlying24 wq.heap.size u1 (.slice b1 u1 e1) (nz (bitsR i 0 j)) (j : Nat) (by rfl) (hTH.out.z1.below (below_al (Below.refl _ _) _)) hz1.out wr.heap.size (by rfl) (by omega) (by simp; omega) (by simp) ?_); intro v4 w4 hZ4 hg4 ho4; rw [hr.out] at hZ4; have hT4 := Lib.hid ((hTH.out.below (below_al (Below.refl _ _) _)).put1 hZ4 hg4 ho4); have hb4 := Lib.hid ((below_al hbxH.out _).grown hg4 (by simp; omega) (fun k hk => (hTH.out.z1.lt k hk).1)); clear hZ4 hg4 ho4)
            have hsz4 := hb4.out.size
            rcases ht2 : i.testBit kj
            · have hbit2 : bits .and .i64 ((i : Int) / 2 ^ kj) 1 = 0 := by rw [bit_at i kj (by omega), ht2]; rfl
              have hc := Lib.hid (bitsR_no (s := i) (d := k) (j := j) (by rw [hkj]; exact ht2))
              clear ht2
              go_wp2_with (fail)
              go_roundg g2
              case measure => omega
              case rel => exact ⟨j + 1, _, _, rfl, rfl, by go_num, by omega, by rw [hc.out]; exact hT4.out, hb4.out⟩
            · have hbit2 : bits .and .i64 ((i : Int) / 2 ^ kj) 1 = 1 := by rw [bit_at i kj (by omega), ht2]; rfl
              have hc : Hid (nz (bitsR i k j) ++ [(j : Int)] = nz (bitsR i k (j + 1))) := by show _ = _; rw [bitsR_yes (by rw [hkj]; exact ht2), ← nz_snoc]
              clear ht2
              go_wp2_with (at_builtin; go_loud (refine wpList_append_z _ rfl (.tmp 114) (.tmp 116) _ rfl Try.underlying24 wq.heap.size u2 (.slice b2 u2 e2) (nz (bitsR i k j)) (j : Nat) (by rfl) (hT4.out.z2.below (below_al (Below.refl _ _) _)) hz2.out w4.heap.size (by rfl) (by omega) (by simp; omega) (by simp) ?_); intro v6 w6 hZ6 hg6 ho6; rw [hc.out] at hZ6; have hT6 := Lib.hid ((hT4.out.below (below_al (Below.refl _ _) _)).put2 hZ6 hg6 ho6); have hb6 := Lib.hid ((below_al hb4.out _).grown hg6 (by simp; omega) (fun k hk => (hT4.out.z2.lt k hk).1)); clear hZ6 hg6 ho6)
              go_roundg g2
              case measure => omega
              case rel => exact ⟨j + 1, _, _, rfl, rfl, by go_num, by omega, by exact hT6.out, hb6.out⟩
        · have hje : k = j := by omega
          subst hje
          have hjI : ¬ (k : Int) < (k : Int) := by omega
          have hu1H := Lib.hid hu1
          have hu2H := Lib.hid hu2
          by_cases hlt2 : u1 + u2 < t
          · have hltB : decide ((u1 : Int) + (u2 : Int) < (t : Int)) = true := by simp; omega
            have hcf := Lib.hid (few_cov (rs := bitsR i 0 k) (cs := bitsR i k k) htH.out (by rw [hu1, hu2]; exact hlt2))
            have hI1 := Lib.hid hTH.out.z1.iz
            have hI2 := Lib.hid hTH.out.z2.iz
            have hM10 := Lib.hid (hM9.out.below (bseqJ hblH.out hbxH.out))
            clear hu1 hu2
            go_wp2_with (go_at_call 41; go_loud (with_reducible refine (coversR_any a1 b1 b2 d1 k u1 e1 u2 e2 C z (bitsR i 0 k) (bitsR i k k) false _ hM10.out hgH.out hCH.out hI1.out.1 hI2.out.1 hu1H.out hu2H.out hI1.out.2 hI2.out.2 (bitsR_asc i 0 k) (bitsR_asc i k k) hcf.out).mono ?_); rintro e w7 ⟨rfl, hb7⟩; have hb7H := Lib.hid hb7; clear hb7)
            go_roundg g1
            case measure => omega
            case rel => exact ⟨i + 1, by go_num, by omega, bseqJ hblH.out (bseqJ hbxH.out hb7H.out)⟩
          · have hltB : decide ((u1 : Int) + (u2 : Int) < (t : Int)) = false := by simp; omega
            clear hu1 hu2
            go_wp2_with (fail)
            go_roundg g1
            case measure => omega
            case rel => exact ⟨i + 1, by go_num, by omega, bseqJ hblH.out hbxH.out⟩
    · have hie : N = i := by omega
      subst hie
      have hiI : ¬ (N : Int) < (N : Int) := by omega
      go_wp2_with (fail)
      go_ret
      exact ⟨rfl, bseqJ hw9.out hblH.out⟩
end Go.Proofs.Yteiipfajoikfpaa
