/- Ys -/
import Derived.Test.YtcaeonpjokkjnaaGreatKXa
import Derived.Test.YtcaeonpjokkjnaaGreatKXc
set_option linter.unusedVariables false
/- Walk of the reference: Spares. -/
namespace Go.Proofs.YtcaeonpjokkjnaaGreat
open Go Go.RowKit Go.Proofs

theorem whole00 (w : World) : Calls Tryz.prog 29 #[.int .i64 0] w (RetQ w (rn 0) (rd 0)) := wholeq_any 0 w (by omega)
theorem sg_pos {q : Rat} (h : 0 ≤ q) : sg (rn q) = 0 ∨ sg (rn q) = 1 := by
  have h1 : 0 ≤ (rn q) := Rat.num_nonneg.2 h
  unfold sg; split <;> (try split) <;> omega
theorem sgz_rn {q : Rat} (h : sg (rn q) = 0) : q = 0 := by
  have h1 : rn q = 0 := by
    unfold sg at h
    split at h
    · omega
    · split at h <;> omega
  exact Rat.num_eq_zero.1 h1
theorem take_nx {l : List Rat} {k : Nat} {q : Rat} (h : l[k]? = some q) : l.take k ++ [q] = l.take (k + 1) := by
  rw [List.take_add_one, h]; rfl
/-- What the walk of Spares asks for. -/
structure SpSt (ps : List Rat) (n k : Nat) : Prop where
  own4 : ∀ p ∈ ps, Short4 p
  non : ∀ p ∈ ps, 0 ≤ p
  all4 : ∀ t, t ≤ k → ∀ q ∈ spL ps n t, Short4 q
  pos : ∀ t, t ≤ k → ∀ q ∈ spL ps n t, 0 ≤ q
theorem Lv.spSt {ps : List Rat} (h : Lv ps) {n k : Nat} (hk : k ≤ 40) : SpSt ps n k where
  own4 := h.own4
  non := h.non
  all4 t ht := h.sp4 (by omega)
  pos t _ q hq := (h.sp n t q hq).1

set_option maxRecDepth 100000 in
set_option maxHeartbeats 6400000 in
theorem sparesR_any (n k : Nat) (hn : n ≤ 40) (hk : k ≤ 40) (ao : Option Addr) (c m : Nat) (ps : List Rat) (w : World) (hl : ps.length = m) (h : ZL w ao ps) (hm12 : m ≤ 12) (hmc : m ≤ c) (hs : SpSt ps n k) :
    Calls Tryz.prog 45 #[.slice ao m c, .int .i64 n, .int .i64 k] w (RetQ w (rn (spL ps n k).sum) (rd (spL ps n k).sum)) := by
  have hlH := Lib.hid hl
  have hsH := Lib.hid hs
  obtain ⟨W0, hW⟩ : ∃ W0, W0 = w.alloc (Obj.cells #[.bool false, .slice none 0 0, .bool false, .slice none 0 0] 46) := ⟨_, rfl⟩
  have hR : Hid (Rg w.heap.size 4 W0 W0) := by rw [hW]; exact Rg.new4 _ _ _ rfl
  have hbW' : Below w.heap.size w W0 := by rw [hW]; go_grown
  have hbW := Lib.hid hbW'
  have hP := Lib.hid (h.below hbW')
  have hz0 : w.heap.size < W0.heap.size := by rw [hW]; simp
  have hWH := Lib.hid hW
  clear hW hbW' h hl hs
  go_enter Tryz.func45, Tryz.ntmps45
  go_wp2_with (first
    | (go_at_call 29; rw [← hWH.out]; go_loud (with_reducible refine (whole1 _).mono ?_); rintro e w1 ⟨a1, d1, a1', d1', rfl, hm1, hb1⟩))
  have hV0 := Lib.hid (ZV.one w1 W0.heap.size ⟨a1, d1, a1', d1'⟩ 1 hm1 hb1.size)
  have hbV := Lib.hid (hb1.alloc hb1.size (Obj.cells #[.bool (ng (rn 1)), .slice a1 (LZ (rn 1)) d1, .bool (ng (rd 1)), .slice a1' (LZ (rd 1)) d1'] 46))
  obtain ⟨V, hVe⟩ : ∃ V, V = w1.alloc (Obj.cells #[.bool (ng (rn 1)), .slice a1 (LZ (rn 1)) d1, .bool (ng (rd 1)), .slice a1' (LZ (rd 1)) d1'] 46) := ⟨_, rfl⟩
  rw [← hVe]
  rw [← hVe] at hV0 hbV
  clear hVe hb1 hm1
  go_loopw [7, 8] (fun b i wr => ∃ j : Nat, i = .int .i64 (j : Nat) ∧ j ≤ n ∧ ZV wr W0.heap.size b (1 :: List.replicate j 0) ∧ Below W0.heap.size W0 wr) (fun _ i _ => n - (intOf i).toNat)
  case atStart => exact ⟨0, rfl, by omega, hV0.out, hbV.out⟩
  case round =>
    clear hV0 hbV
    obtain ⟨j, rfl, hj, hV, hbl⟩ := hrel
    obtain ⟨ab, cb, hbv⟩ := hV.shape
    subst hbv
    have hll : Hid ((1 :: List.replicate j (0 : Rat)).length = j + 1) := by show _ = _; simp
    rw [hll.out] at hV ⊢
    have hVH := Lib.hid hV
    have hblH := Lib.hid hbl
    clear hV hbl
    by_cases hjn : j < n
    · have hkk : (j : Int) < (n : Int) := by omega
      have hnx : Hid ((1 :: List.replicate j (0 : Rat)) ++ [0] = 1 :: List.replicate (j + 1) 0) := by show _ = _; rw [List.cons_append, ← List.replicate_succ']
      go_wp2_with (first
        | (go_at_call 29; go_loud (with_reducible refine (whole00 _).mono ?_); rintro e w5 ⟨a5, d5, a5', d5', rfl, hm5, hb5⟩; have hb5H := Lib.hid (bseqZ hblH.out hb5); have hV5 := Lib.hid (hVH.out.below hb5); have hM5 := Lib.hid (show ZRp w5 ⟨a5, d5, a5', d5'⟩ 0 from hm5); have hs5 := hb5H.out.size; clear hm5 hb5)
        | (at_builtin; go_loud (refine wpList_append_q _ rfl (.tmp 23) (.tmp 25) _ rfl Tryz.underlying31 W0.heap.size (j + 1) (.slice ab (j + 1) cb) (1 :: List.replicate j 0) 0 ⟨a5, d5, a5', d5'⟩ rfl (hV5.out.below ((Below.refl _ _).alloc (Nat.le_refl _) _)) hll.out w5.heap.size rfl (by omega) (by simp; omega) (by simp [go_sem]) (by simp [go_sem]) (by simp [go_sem]) (by simp [go_sem]) (hM5.out.up ((Below.refl _ _).alloc (Nat.le_refl _) _)) ?_); intro v' w6 hv6 hg6; rw [hnx.out] at hv6; have hb6 := Lib.hid ((hb5H.out.alloc hs5 _).grown hg6 (by simp; omega) (fun g hg => (hVH.out.lt g hg).1)); clear hg6))
      go_roundw
      case rel => exact ⟨j + 1, by go_num, by omega, hv6, hb6.out⟩
      case measure => simp [intOf]; omega
    · have hkk : ¬ (j : Int) < (n : Int) := by omega
      have hje : j = n := by omega
      subst hje
      go_wp2_with (fail)
      go_loopw [7, 9] (fun b i wr => ∃ t : Nat, i = .int .i64 (t : Nat) ∧ t ≤ k ∧ ZV wr W0.heap.size b (spL ps j t) ∧ Below W0.heap.size W0 wr) (fun _ i _ => k - (intOf i).toNat)
      case atStart => exact ⟨0, rfl, by omega, hVH.out, hblH.out⟩
      case round =>
        clear hVH hblH hll
        obtain ⟨t, rfl, ht, hV, hbl⟩ := hrel
        obtain ⟨ab, cb, hbv⟩ := hV.shape
        subst hbv
        have hl0 := Lib.hid (spL_length ps j t)
        have hcap : j + 1 ≤ cb := by have := ZV.cap hV rfl; rw [spL_length] at this; exact this
        rw [hl0.out] at hV ⊢
        have hVH := Lib.hid hV
        have hblH := Lib.hid hbl
        clear hV hbl
        by_cases htk : t < k
        · have hkk : (t : Int) < (k : Int) := by omega
          have hl1 := Lib.hid (spL_length ps j (t + 1))
          go_wp2_with (fail)
          obtain ⟨V2, hV2e⟩ : ∃ V2, V2 = wr.alloc (Obj.cells #[] 46) := ⟨_, rfl⟩
          have hN0 : Hid (ZV V2 wr.heap.size (.slice (some ⟨wr.heap.size, 0, none⟩) 0 0) []) := by rw [hV2e]; exact ZV.lit0 wr wr.heap.size (Nat.le_refl _)
          have hbN' : Below wr.heap.size wr V2 := by rw [hV2e]; go_grown
          have hbN := Lib.hid hbN'
          rw [← hV2e]
          clear hV2e hbN'
          generalize wr = wo at *
          go_loopw [10, 11] (fun b i wr => ∃ s : Nat, i = .int .i64 (s : Nat) ∧ s ≤ j + 1 ∧ ZV wr wo.heap.size b ((spL ps j (t + 1)).take s) ∧ Below wo.heap.size wo wr) (fun _ i _ => j + 1 - (intOf i).toNat)
          case atStart => exact ⟨0, rfl, by omega, hN0.out, hbN.out⟩
          case round =>
            clear hN0 hbN
            obtain ⟨s, rfl, hs, hN, hbl2⟩ := hrel
            obtain ⟨ab2, cb2, hbv⟩ := hN.shape
            subst hbv
            have htl : ((spL ps j (t + 1)).take s).length = s := by rw [List.length_take, hl1.out]; omega
            have htlH := Lib.hid htl
            rw [htl] at hN ⊢
            have hNH := Lib.hid hN
            have hb2H := Lib.hid hbl2
            clear hN hbl2 htl
            by_cases hsj : s < j + 1
            · have hkk2 : (s : Int) ≤ (j : Int) := by omega
              go_wp2_with (first
                | (go_at_call 29; go_loud (with_reducible refine (whole0 _).mono ?_); rintro e w3 ⟨a3, c3, a3', c3', rfl, hm3, hb3⟩))
              have hQ0 := Lib.hid (QBox.new hm3)
              have hb3H := Lib.hid (bseqZ hb2H.out hb3)
              have hN3 := Lib.hid (hNH.out.below hb3)
              have hA3 := Lib.hid ((hVH.out.below hb2H.out).below hb3)
              have hP3 := Lib.hid ((hP.out.below hblH.out).below hb3H.out)
              obtain ⟨V3, hV3e⟩ : ∃ V3, V3 = w3.alloc (Obj.cells #[.bool (ng 0), .slice a3 (LZ 0) c3, .bool (ng 1), .slice a3' (LZ 1) c3'] 46) := ⟨_, rfl⟩
              rw [← hV3e] at hQ0 ⊢
              clear hV3e hm3 hb3
              have hrl : Hid (((spL ps j t).take s).reverse.length = s) := by show _ = _; rw [List.length_reverse, List.length_take, hl0.out]; omega
              have hnxt := Lib.hid (take_nx (spL_at (ps := ps) (n := j) (k := t) (i := s) hsj))
              go_loopw [13] (fun i wi => ∃ (x : Nat) (p : RP) (sn sd : Int), i = .int .i64 ((x : Int) + 1) ∧ x ≤ m ∧ x ≤ s ∧ QBox w3 wi w3.heap.size p sn sd ∧ PQ sn sd (pdot ps ((spL ps j t).take s).reverse x) (1 + 2001 * x)) (fun i _ => m + 1 - (intOf i).toNat)
              case atStart => exact ⟨0, _, 0, 1, rfl, by omega, by omega, hQ0.out, by rw [show pdot ps ((spL ps j t).take s).reverse 0 = 0 by simp [pdot, psum]]; exact PQ.zero⟩
              case round =>
                clear hQ0
                obtain ⟨x, p, sn, sd, rfl, hx1, hx2, hQ, hPQ⟩ := hrel
                have hQH := Lib.hid hQ
                have hPH := Lib.hid hPQ
                obtain ⟨bm, x0, x1, x2, x3, hrg, hbw⟩ := hQ
                have hbwH := Lib.hid hbw
                have hM := Lib.hid (show QM wr p.a p.c p.a' p.c' sn sd from bm)
                have hzg : w3.heap.size < wr.heap.size := World.block_lt_of_cell? wr _ x0
                clear hPQ bm hrg
                by_cases hjj : x < m ∧ x < s
                · obtain ⟨hxm, hxs⟩ := hjj
                  obtain ⟨q, hq⟩ : ∃ q, ps[x]? = some q := ⟨_, List.getElem?_eq_getElem (by rw [hlH.out]; exact hxm)⟩
                  obtain ⟨r, hr⟩ : ∃ r, ((spL ps j t).take s).reverse[x]? = some r := ⟨_, List.getElem?_eq_getElem (by rw [hrl.out]; exact hxs)⟩
                  have htk2 : ((spL ps j t).take s).length = s := by rw [List.length_take, hl0.out]; omega
                  have hr2 : (spL ps j t)[s - 1 - x]? = some r := by
                    rw [List.getElem?_reverse (by rw [htk2]; exact hxs), htk2, List.getElem?_take_of_lt (by omega)] at hr
                    exact hr
                  obtain ⟨b1, o1, p1, rfl, hm1, e0, e1, e2, e3⟩ := (hP3.out.below hbw) x q hq
                  obtain ⟨b2, o2, p2, rfl, hm2, f0, f1, f2, f3⟩ := ((ZV.ql hA3.out).below hbw) (s - 1 - x) r hr2
                  have hnx := Lib.hid (pdot_next ps ((spL ps j t).take s).reverse x q r hq hr)
                  have hmq := List.mem_of_getElem? hq
                  have hmr := List.mem_of_getElem? hr2
                  have hq4 := Lib.hid (PQ.low (hsH.out.own4 q hmq))
                  have hr4 := Lib.hid (PQ.low (hsH.out.all4 t ht r hmr))
                  have hM1 := Lib.hid (show QM wr p1.a p1.c p1.a' p1.c' (rn q) (rd q) from hm1)
                  have hM2 := Lib.hid (show QM wr p2.a p2.c p2.a' p2.c' (rn r) (rd r) from hm2)
                  have hbb1 : b1 < wr.heap.size := World.block_lt_of_cell? wr _ e0
                  have hbb2 : b2 < wr.heap.size := World.block_lt_of_cell? wr _ f0
                  have hk1 : (x : Int) + 1 ≤ (s : Int) := by omega
                  have hk2 : (x : Int) + 1 ≤ (m : Int) := by omega
                  have hk3 : (x : Int) < c := by omega
                  have hk5 : ((s - 1 - x : Nat) : Int) < (j : Int) + 1 := by omega
                  have hk6 : (x : Int) < m := by omega
                  have hk7 : (s : Int) - ((x : Int) + 1) = ((s - 1 - x : Nat) : Int) := by omega
                  have hk8 : (x : Int) + 1 - 1 = (x : Int) := by omega
                  have hw1 : IntKind.i64.wrap (x : Int) = (x : Int) := by rw [IntKind.wrap_i64]; omega
                  have hw2 : IntKind.i64.wrap ((s - 1 - x : Nat) : Int) = ((s - 1 - x : Nat) : Int) := by rw [IntKind.wrap_i64]; omega
                  have hw3 : IntKind.i64.wrap ((s : Int) - ((x : Int) + 1)) = ((s - 1 - x : Nat) : Int) := by rw [hk7]; exact hw2
                  have hs1 := sg_pos (hsH.out.pos t ht r hmr)
                  have hs2 := sg_pos (hsH.out.non q hmq)
                  clear hm1 hm2 hq hr hr2 hbw htk2 hmq hmr
                  generalize s - 1 - x = u at *
                  rcases hs1 with hs1 | hs1
                  · have hs1H := Lib.hid hs1
                    have hsk : Hid (pdot ps ((spL ps j t).take s).reverse (x + 1) = pdot ps ((spL ps j t).take s).reverse x) := by show _ = _; rw [← hnx.out, sgz_rn hs1]; grind
                    clear hs1 hs2
                    go_wp2_with (first
                      | (go_at_call 48; go_loud (with_reducible refine (sign_z p2.a p2.c (rn r) 0 _ hs1H.out).mono ?_); rintro e w6 ⟨rfl, hb6⟩; have hQ6 := Lib.hid (hQH.out.step hb6)))
                    go_roundw
                    case rel => exact ⟨x + 1, p, sn, sd, by go_num, by omega, by omega, hQ6.out, by rw [hsk.out]; exact hPH.out.mono (by omega)⟩
                    case measure => simp [intOf]; omega
                  · have hs1H := Lib.hid hs1
                    clear hs1
                    rcases hs2 with hs2 | hs2
                    · have hs2H := Lib.hid hs2
                      have hsk : Hid (pdot ps ((spL ps j t).take s).reverse (x + 1) = pdot ps ((spL ps j t).take s).reverse x) := by show _ = _; rw [← hnx.out, sgz_rn hs2]; grind
                      clear hs2
                      go_wp2_with (first
                        | (go_at_call 48; (with_reducible refine (sign_z p2.a p2.c (rn r) 1 _ hs1H.out).mono ?_); rintro e w6 ⟨rfl, hb6⟩; have hQ6 := Lib.hid (hQH.out.step hb6); have d0 := Below.cellAt hb6 (Nat.le_refl _) e0; have d1 := Below.cellAt hb6 (Nat.le_refl _) e1)
                        | (go_at_call 48; go_loud (with_reducible refine (sign_z p1.a p1.c (rn q) 0 _ hs2H.out).mono ?_); rintro e w7 ⟨rfl, hb7⟩; have hQ7 := Lib.hid (hQ6.out.step hb7)))
                      go_roundw
                      case rel => exact ⟨x + 1, p, sn, sd, by go_num, by omega, by omega, hQ7.out, by rw [hsk.out]; exact hPH.out.mono (by omega)⟩
                      case measure => simp [intOf]; omega
                    · have hs2H := Lib.hid hs2
                      clear hs2
                      have hz1 := Lib.hid (hq4.out.szq (by omega))
                      have hz2 := Lib.hid (hr4.out.szq (by omega))
                      have hpm := Lib.hid (hq4.out.mul hr4.out)
                      have hz3 := Lib.hid (hpm.out.szq (by omega))
                      have hz4 := Lib.hid (hPH.out.szq (by omega))
                      have hps := Lib.hid (hPH.out.add hpm.out)
                      go_wp2_with (first
                        | (go_at_call 48; (with_reducible refine (sign_z p2.a p2.c (rn r) 1 _ hs1H.out).mono ?_); rintro e w6 ⟨rfl, hb6⟩; have q6 := Lib.hid (bseqZ (Below.refl wr.heap.size wr) hb6); have d0 := Below.cellAt hb6 (Nat.le_refl _) e0; have d1 := Below.cellAt hb6 (Nat.le_refl _) e1)
                        | (go_at_call 48; go_loud (with_reducible refine (sign_z p1.a p1.c (rn q) 1 _ hs2H.out).mono ?_); rintro e w7 ⟨rfl, hb7⟩; have q7 := Lib.hid (bseqZ q6.out hb7)))
                      have hQ7 := Lib.hid (hQH.out.step q7.out)
                      obtain ⟨_, y0, y1, y2, y3, hrg7, _⟩ := hQ7.out
                      have hM7 := Lib.hid (QM.up hM.out q7.out)
                      have g0 := Below.cellAt q7.out (Nat.le_refl _) e0
                      have g1 := Below.cellAt q7.out (Nat.le_refl _) e1
                      have g2 := Below.cellAt q7.out (Nat.le_refl _) e2
                      have g3 := Below.cellAt q7.out (Nat.le_refl _) e3
                      have h0 := Below.cellAt q7.out (Nat.le_refl _) f0
                      have h1 := Below.cellAt q7.out (Nat.le_refl _) f1
                      have h2 := Below.cellAt q7.out (Nat.le_refl _) f2
                      have h3 := Below.cellAt q7.out (Nat.le_refl _) f3
                      have hN1 := Lib.hid (QM.up hM1.out q7.out)
                      have hN2 := Lib.hid (QM.up hM2.out q7.out)
                      have hbc1 : b1 < w7.heap.size := by have := q7.out.size; omega
                      have hbc2 : b2 < w7.heap.size := by have := q7.out.size; omega
                      have hbc3 : w3.heap.size < w7.heap.size := by have := q7.out.size; omega
                      clear e0 e1 e2 e3 f0 f1 f2 f3 d0 d1 x0 x1 x2 x3 hb6 hb7 hrg7
                      go_region_with (first
                        | (go_at_call 31; go_loud (with_reducible refine (mulq_any p1.a p1.c p1.a' p1.c' p2.a p2.c p2.a' p2.c' (rn q) (rd q) (rn r) (rd r) _ (QM.up hN1.out (Below.refl _ _).drew) (QM.up hN2.out (Below.refl _ _).drew) hz1.out hz2.out).mono ?_); rintro e w8 ⟨a8, d8, a8', d8', rfl, hm8, hb8⟩; have q8 := Lib.hid (bseqZ (Below.refl w7.heap.size w7).drew hb8); have hQ8 := Lib.hid (hQ7.out.step q8.out); obtain ⟨_, v0, v1, v2, v3, _, _⟩ := hQ8.out)
                        | (go_at_call 30; go_loud (with_reducible refine (addq_any p.a p.c p.a' p.c' a8 d8 a8' d8' sn sd (rn q * rn r) (rd q * rd r) _ (QM.up hM7.out q8.out) hm8 hz4.out hz3.out).mono ?_); rintro e w9 ⟨a9, d9, a9', d9', rfl, hm9, hb9⟩; have hQ9 := Lib.hid (hQ8.out.step hb9); obtain ⟨_, t2, t3, t5, _⟩ := hQ9.out.2.2.2.2.2.1))
                      all_goals go_wp2_with (fail)
                      all_goals (
                        go_roundw
                        case rel => exact ⟨x + 1, ⟨a9, d9, a9', d9'⟩, _, _, by go_num, by omega, by omega, hQ9.out.store hm9, by have h := hps.out; rw [hnx.out] at h; exact h.mono (by omega)⟩
                        case measure => simp [intOf]; omega)
                · have hfull : Hid (pdot ps ((spL ps j t).take s).reverse x = dotl ps ((spL ps j t).take s).reverse) := by
                    show _ = _
                    unfold pdot psum dotl
                    rw [List.take_of_length_le (by rw [List.length_zipWith, hlH.out, hrl.out]; omega)]
                  have hlow := Lib.hid (show PQ sn sd (dotl ps ((spL ps j t).take s).reverse) 30000 by have h := hPH.out; rw [hfull.out] at h; exact h.mono (by omega))
                  have hNw := Lib.hid (hN3.out.below hbw)
                  have hbx := Lib.hid (hb3H.out.trans (hbw.mono hb3H.out.size))
                  have hA := Lib.hid (show Rat.divInt sn sd = dotl ps ((spL ps j t).take s).reverse from hlow.out.2.1)
                  have hB1 := Lib.hid (show LZ sn ≤ 1000000 by have := hlow.out.2.2.1; omega)
                  have hB2 := Lib.hid (show LZ sd ≤ 1000000 by have := hlow.out.2.2.2; omega)
                  have hB3 := Lib.hid (show 0 < sd from hlow.out.1)
                  have hcs : (¬ (x : Int) + 1 ≤ (m : Int)) ∨ ((x : Int) + 1 ≤ (m : Int) ∧ ¬ (x : Int) + 1 ≤ (s : Int)) := by omega
                  clear hbw hjj
                  generalize dotl ps ((spL ps j t).take s).reverse = dq at *
                  rcases hcs with hc1 | ⟨hc1, hc2⟩
                  all_goals go_wp2_with (first
                    | (go_at_call 33; go_loud (with_reducible refine (lowest_q p.a p.c p.a' p.c' sn sd dq _ hM.out hB1.out hB2.out hB3.out hA.out).mono ?_); rintro e w5 ⟨a5, d5, a5', d5', rfl, hm5, hb5⟩; have hb5H := Lib.hid (bseqZ hbx.out hb5); have hV5 := Lib.hid (hNw.out.below hb5); have hM5 := Lib.hid (show ZRp w5 ⟨a5, d5, a5', d5'⟩ dq from hm5); have hs5 := hb5H.out.size; clear hm5 hb5)
                    | (at_builtin; go_loud (refine wpList_append_q _ rfl (.tmp 83) (.tmp 86) _ rfl Tryz.underlying31 wo.heap.size s (.slice ab2 s cb2) ((spL ps j (t + 1)).take s) dq ⟨a5, d5, a5', d5'⟩ rfl (hV5.out.below ((Below.refl _ _).alloc (Nat.le_refl _) _)) htlH.out w5.heap.size rfl (by omega) (by simp; omega) (by simp [go_sem]) (by simp [go_sem]) (by simp [go_sem]) (by simp [go_sem]) (hM5.out.up ((Below.refl _ _).alloc (Nat.le_refl _) _)) ?_); intro v' w6 hv6 hg6; rw [hnxt.out] at hv6; have hb6 := Lib.hid ((hb5H.out.alloc hs5 _).grown hg6 (by simp; omega) (fun g hg => (hNH.out.lt g hg).1)); clear hg6))
                  all_goals (
                    go_roundw
                    case rel => exact ⟨s + 1, by go_num, by omega, hv6, hb6.out⟩
                    case measure => simp [intOf]; omega)
            · have hkk2 : ¬ (s : Int) ≤ (j : Int) := by omega
              have hse : s = j + 1 := by omega
              subst hse
              have hall : Hid ((spL ps j (t + 1)).take (j + 1) = spL ps j (t + 1)) := by show _ = _; rw [List.take_of_length_le (by rw [hl1.out]; exact Nat.le_refl _)]
              have h9 := hNH.out
              rw [hall.out] at h9
              have h9H := Lib.hid (h9.base hblH.out.size)
              clear h9
              go_wp2_with (fail)
              go_roundw
              case rel => exact ⟨t + 1, by go_num, by omega, h9H.out, bseqZ hblH.out hb2H.out⟩
              case measure => simp [intOf]; omega
        · have hkk : ¬ (t : Int) < (k : Int) := by omega
          have hte : t = k := by omega
          subst hte
          go_wp2_with (first
            | (go_at_call 29; go_loud (with_reducible refine (whole0 _).mono ?_); rintro e w3 ⟨a3, c3, a3', c3', rfl, hm3, hb3⟩))
          have hQ0 := Lib.hid (QBox.new hm3)
          have hb3H := Lib.hid (bseqZ hblH.out hb3)
          have hA3 := Lib.hid (hVH.out.below hb3)
          obtain ⟨V3, hV3e⟩ : ∃ V3, V3 = w3.alloc (Obj.cells #[.bool (ng 0), .slice a3 (LZ 0) c3, .bool (ng 1), .slice a3' (LZ 1) c3'] 46) := ⟨_, rfl⟩
          rw [← hV3e] at hQ0 ⊢
          clear hV3e hm3 hb3
          go_loopw [15] (fun i wi => ∃ (s : Nat) (p : RP) (sn sd : Int), i = .int .i64 (s : Nat) ∧ s ≤ j + 1 ∧ QBox w3 wi w3.heap.size p sn sd ∧ PQ sn sd (psum (spL ps j t) s) (1 + 1001 * s)) (fun i _ => j + 1 - (intOf i).toNat)
          case atStart => exact ⟨0, _, 0, 1, rfl, by omega, hQ0.out, by rw [show psum (spL ps j t) 0 = 0 by simp [psum]]; exact PQ.zero⟩
          case round =>
            clear hQ0
            obtain ⟨s, p, sn, sd, rfl, hs, hQ, hPQ⟩ := hrel
            have hQH := Lib.hid hQ
            have hPH := Lib.hid hPQ
            obtain ⟨bm, x0, x1, x2, x3, hrg, hbw⟩ := hQ
            have hM := Lib.hid (show QM wr p.a p.c p.a' p.c' sn sd from bm)
            have hzg : w3.heap.size < wr.heap.size := World.block_lt_of_cell? wr _ x0
            clear hPQ bm hrg
            by_cases hsj : s < j + 1
            · obtain ⟨r, hr⟩ : ∃ r, (spL ps j t)[s]? = some r := ⟨_, List.getElem?_eq_getElem (by rw [hl0.out]; exact hsj)⟩
              obtain ⟨b1, o1, p1, rfl, hm1, e0, e1, e2, e3⟩ := ((ZV.ql hA3.out).below hbw) s r hr
              have hnx := Lib.hid (psum_next (spL ps j t) s r hr)
              have hr4 := Lib.hid (PQ.low (hsH.out.all4 t ht r (List.mem_of_getElem? hr)))
              have hz2 := Lib.hid (hr4.out.szq (by omega))
              have hz4 := Lib.hid (hPH.out.szq (by omega))
              have hps := Lib.hid (hPH.out.add hr4.out)
              have hM1 := Lib.hid (show QM wr p1.a p1.c p1.a' p1.c' (rn r) (rd r) from hm1)
              have hkk2 : (s : Int) ≤ (j : Int) := by omega
              have hkk3 : (s : Int) < (j : Int) + 1 := by omega
              have hb1 : b1 < wr.heap.size := World.block_lt_of_cell? wr _ e0
              clear hm1 hr hbw
              go_wp2_with (fail)
              go_region_with (first
                | (go_at_call 30; go_loud (with_reducible refine (addq_any p.a p.c p.a' p.c' p1.a p1.c p1.a' p1.c' sn sd (rn r) (rd r) _ (QM.up hM.out (Below.refl _ _).drew) (QM.up hM1.out (Below.refl _ _).drew) hz4.out hz2.out).mono ?_); rintro e w5 ⟨a5, d5, a5', d5', rfl, hm5, hb5⟩; have hq5 := Lib.hid ((hQH.out.step (Below.refl _ _).drew).step hb5); obtain ⟨_, t2, t3, t5, _⟩ := hq5.out.2.2.2.2.2.1))
              all_goals go_wp2_with (fail)
              all_goals (
                go_roundw
                case rel => exact ⟨s + 1, ⟨a5, d5, a5', d5'⟩, _, _, by go_num, by omega, hq5.out.store hm5, by have h := hps.out; rw [hnx.out] at h; exact h.mono (by omega)⟩
                case measure => simp [intOf]; omega)
            · have hfull : Hid (psum (spL ps j t) s = (spL ps j t).sum) := by
                show _ = _
                unfold psum
                rw [List.take_of_length_le (by rw [hl0.out]; omega)]
              have hlow := Lib.hid (show PQ sn sd (spL ps j t).sum 50000 by have h := hPH.out; rw [hfull.out] at h; exact h.mono (by omega))
              have hA := Lib.hid (show Rat.divInt sn sd = (spL ps j t).sum from hlow.out.2.1)
              have hB1 := Lib.hid (show LZ sn ≤ 1000000 by have := hlow.out.2.2.1; omega)
              have hB2 := Lib.hid (show LZ sd ≤ 1000000 by have := hlow.out.2.2.2; omega)
              have hB3 := Lib.hid (show 0 < sd from hlow.out.1)
              have hkk2 : ¬ (s : Int) ≤ (j : Int) := by omega
              have hbx := Lib.hid (hb3H.out.trans (hbw.mono hb3H.out.size))
              have HRw := Lib.hid (Rg.slf (Rg.over hR.out hbx.out hz0))
              clear hbw
              generalize (spL ps j t).sum = tq at *
              go_wp2_with (first
                | (go_at_call 33; go_loud (with_reducible refine (lowest_q p.a p.c p.a' p.c' sn sd tq _ hM.out hB1.out hB2.out hB3.out hA.out).mono ?_); rintro e w5 ⟨a5, d5, a5', d5', rfl, hm5, hb5⟩; have r5 := Lib.hid (Rg.slf (Rg.step HRw.out (by omega) hb5)); obtain ⟨_, t2, t3, t5, _⟩ := r5.out))
              refine bodyPost_ret (v := .agg #[.bool (ng (rn tq)), .slice a5 (LZ (rn tq)) d5, .bool (ng (rd tq)), .slice a5' (LZ (rd tq)) d5']) (by simp [results, Tryz.results45, go_sem, t2]) rfl ?_
              exact ⟨a5, d5, a5', d5', rfl, ⟨hm5.1.set4 t5 _ _ _ _ _ _ _ _, hm5.2.set4 t5 _ _ _ _ _ _ _ _⟩, below_set4 (bseqZ (hbW.out.trans (hbx.out.mono hbW.out.size)) hb5) (Nat.le_refl _) _ _ _ _⟩

end Go.Proofs.YtcaeonpjokkjnaaGreat
