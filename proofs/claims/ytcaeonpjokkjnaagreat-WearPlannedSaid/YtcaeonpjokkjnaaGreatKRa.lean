/- Ra -/
import Derived.Test.YtcaeonpjokkjnaaGreatKXf
import Derived.Test.YtcaeonpjokkjnaaGreatKRm
set_option linter.unusedVariables false
/- Walk of the law WearAges. -/
namespace Go.Proofs.YtcaeonpjokkjnaaGreat
open Go Go.RowKit Go.Proofs

def RetLQ (w : World) (qs : List Rat) (e : Ending) (w' : World) : Prop :=
  ∃ ao c, e = .returned (.tuple #[.slice ao qs.length c, .bool true]) ∧ ZV w' w.heap.size (.slice ao qs.length c) qs ∧ Below w.heap.size w w'
theorem nt_len {q : Rat} (h : Short4 q) : (nt q).size ≤ 4611686018427387904 := by
  have := parse_len (parse_nt h).1
  omega
theorem lqs_any (ao : Option Addr) (c n : Nat) (qs : List Rat) (w : World) (hl : qs.length = n) (h : SL w ao (qs.map nt)) (hn : n ≤ 1000000000) (h4 : ∀ q ∈ qs, Short4 q) :
    Calls Tryz.prog 28 #[.slice ao n c] w (RetLQ w qs) := by
  have hH := Lib.hid h
  have hlH : Hid ((qs.map nt).length = n) := by show _ = _; rw [List.length_map]; exact hl
  have hok := Lib.hid (texts_ok h4)
  have hs : Hid (∀ s ∈ qs.map nt, s.size ≤ 4611686018427387904) := fun s hs => by
    obtain ⟨q, hq, rfl⟩ := List.mem_map.1 hs
    exact nt_len (h4 q hq)
  have hql := Lib.hid hl
  clear h hl h4
  go_enter Tryz.func28, Tryz.ntmps28
  go_wp2_with (first
    | (go_at_call 46; go_loud (with_reducible refine (nums_any 0 ao c n (qs.map nt) _ (Or.inl ⟨hok.out.1, rfl⟩) hlH.out hH.out hn hs.out).mono ?_); rintro e w1 ⟨rfl, hb1⟩; have hb1H := Lib.hid hb1; clear hb1)
    | (go_at_call 17; go_loud (with_reducible refine (qs_any ao c n (qs.map nt) _ hlH.out (hH.out.below hb1H.out) hn hs.out hok.out.1).mono ?_); rintro e w2 ⟨a2, c2, rfl, hV2, hb2⟩; rw [hok.out.2] at hV2; rw [hok.out.2, hql.out]; have hV2H := Lib.hid hV2; have hb2H := Lib.hid (bseq hb1H.out hb2); clear hV2 hb2))
  go_ret2
  have h9 := hV2H.out
  exact ⟨a2, c2, by rw [hql.out]; rfl, h9.base hb1H.out.size, hb2H.out⟩

set_option maxRecDepth 100000 in
set_option maxHeartbeats 6400000 in
theorem agesLaw_any (ao : Option Addr) (c l nn : Nat) (xs : List Nat) (w : World) (hl : xs.length = l) (h : Dg .u8 w ao xs) (hl1 : l ≤ 9223372036854775807) (hx : ∀ x ∈ xs, x < 256) (hn : nn < 256) :
    Calls Tryz.prog 5 #[.slice ao l c, .int .u8 nn] w (RetBool w true) := by
  have hH := Lib.hid h
  have hlH := Lib.hid hl
  have hxH := Lib.hid hx
  obtain ⟨k, hk⟩ : ∃ k : Nat, (nn : Int) % 31 = (k : Int) := ⟨nn % 31, by omega⟩
  have hk30 : k ≤ 30 := by omega
  obtain ⟨ps, hps⟩ : ∃ ps, ps = madeL xs := ⟨_, rfl⟩
  have hpsH := Lib.hid hps
  obtain ⟨ts, hts⟩ : ∃ ts, ts = ps.map nt := ⟨_, rfl⟩
  have htsH := Lib.hid hts
  have hlv := Lib.hid (show Lv ps by rw [hps]; exact made_lv xs)
  have hs4 := Lib.hid (show ∀ q ∈ ps, Short4 q by rw [hps]; exact made_short)
  obtain ⟨m, hm⟩ : ∃ m, ps.length = m := ⟨_, rfl⟩
  have hmH := Lib.hid hm
  have htl : Hid (ts.length = m) := by show _ = _; rw [hts, List.length_map]; exact hm
  have hm12 : m ≤ 12 := by have := hlv.out.len; rw [hm] at this; exact this
  have hm1 : 1 ≤ m := by have := hlv.out.pos; rw [hm] at this; exact this
  have hok := Lib.hid (show allOK ts ∧ ts.map parseQ = ps by rw [hts]; exact texts_ok hs4.out)
  have ht40 := Lib.hid (show ∀ s ∈ ts, s.size ≤ 40 by rw [hts, hps]; exact made_texts xs)
  have htg : Hid (∀ s ∈ ts, s.size ≤ 4611686018427387904) := fun s hs => by have := ht40.out s hs; omega
  have hr : ∀ (v : World) (a : Option Addr) (c : Nat), SL v a ts → Calls Tryz.prog 49 #[.slice a m c] v (RetLives v ps) := fun v a c hS => by
    have := read_0 a c ts v hS ht40.out hok.out.1 (by rw [hok.out.2, hps]; exact made_good xs)
    rw [hok.out.2, htl.out] at this
    exact this
  have hrn : Hid (∀ (v : World) (a : Option Addr) (c : Nat), SL v a ts → Calls Tryz.prog 13 #[.slice a m c, .int .i64 k] v (RetNums v ((uL ps k).map nt))) := fun v a c hS => by
    have h1 := hr v a c hS
    rw [← htl.out] at h1
    have := renew_good k (by omega) a c ts ps v h1 (by rw [hm]; exact hm12) (hlv.out.renew (by omega))
    rw [htl.out] at this
    exact this
  have hrA : Hid (∀ (v : World) (a : Option Addr) (c : Nat), SL v a ts → Calls Tryz.prog 27 #[.slice a m c] v (RetNums v ((agesL ps).map nt))) := fun v a c hS => ages_good a c m ps v (hr v a c hS) (by rw [hm]; exact hm1) (by rw [hm]; exact hm12) hlv.out.ageSz
  have hu4 : Hid (∀ q ∈ uL ps k, Short4 q) := hlv.out.u4 (by omega)
  have ha4 : Hid (∀ q ∈ agesL ps, Short4 q) := fun q hq => (hlv.out.agesOK q hq).2.2
  have hul := Lib.hid (uL_length ps k)
  have hul2 : Hid (((uL ps k).map nt).length = k + 1) := by show _ = _; rw [List.length_map]; exact uL_length ps k
  have hal : Hid ((agesL ps).length = m) := by show _ = _; rw [agesL_length]; exact hm
  have hal2 : Hid (((agesL ps).map nt).length = m) := by show _ = _; rw [List.length_map, agesL_length]; exact hm
  have hmean : Hid ((agesL ps).sum = 1) := ages_sum (by have := hlv.out.mean_ge.1; intro e; rw [e] at this; exact absurd this (by decide))
  have hmad : Hid (∀ q ∈ madeL xs, Short4 q) := made_short
  clear h hl hx hps hts hm hr
  go_enter Tryz.func5, Tryz.ntmps5
  go_wp2_with (first
    | (go_at_call 26; go_loud (with_reducible refine (madeW_any ao c l xs _ hlH.out hH.out hl1 hxH.out hmad.out).mono ?_); rintro e w1 ⟨a1, c1, rfl, hV1, hb1⟩; rw [← hpsH.out, ← htsH.out] at hV1; have hS1 := Lib.hid (SV.sl hV1); have hb1H := Lib.hid hb1; have r1 := Lib.hid (Below.refl w1.heap.size w1); rw [← hpsH.out, ← htsH.out, htl.out]; clear hV1 hb1)
    | (go_at_call 13; go_loud (with_reducible refine (hrn.out _ a1 c1 (hS1.out.below r1.out)).mono ?_); rintro e w2 ⟨a2, c2, rfl, hV2, hb2⟩; have hS2 := Lib.hid (SV.sl hV2); have r2 := Lib.hid (bseq r1.out hb2); rw [hul2.out]; clear hV2 hb2)
    | (go_at_call 27; go_loud (with_reducible refine (hrA.out _ a1 c1 (hS1.out.below r2.out)).mono ?_); rintro e w3 ⟨a3, c3, rfl, hV3, hb3⟩; have hS3 := Lib.hid (SV.sl hV3); have r3 := Lib.hid (bseq r2.out hb3); have hS23 := Lib.hid (hS2.out.below hb3); rw [hal2.out]; clear hV3 hb3)
    | (go_at_call 28; (with_reducible refine (lqs_any a2 c2 (k + 1) (uL ps k) _ hul.out hS23.out (by omega) hu4.out).mono ?_); rintro e w4 ⟨a4, c4, rfl, hV4, hb4⟩; have hcap4 := ZV.cap hV4 rfl; have hS4 := Lib.hid (ZV.ql hV4); have r4 := Lib.hid (bseq r3.out hb4); have hS34 := Lib.hid (hS3.out.below hb4); rw [hul.out] at hcap4 ⊢; clear hV4 hb4)
    | (go_at_call 28; go_loud (with_reducible refine (lqs_any a3 c3 m (agesL ps) _ hal.out hS34.out (by omega) ha4.out).mono ?_); rintro e w5 ⟨a5, c5, rfl, hV5, hb5⟩; have hcap5 := ZV.cap hV5 rfl; have hS5 := Lib.hid (ZV.ql hV5); have r5 := Lib.hid (bseq r4.out hb5); have hS45 := Lib.hid (hS4.out.below hb5); rw [hal.out] at hcap5 ⊢; clear hV5 hb5)
    | (go_at_call 14; go_loud (with_reducible refine (lives_any _).mono ?_); rintro e w6 ⟨rfl, hb6⟩; have r6 := Lib.hid (bseq r5.out hb6); have hS46 := Lib.hid (hS45.out.below hb6); have hS56 := Lib.hid (hS5.out.below hb6); clear hb6)
    | (go_at_call 17; go_loud (with_reducible refine (qs_any a1 c1 m ts _ htl.out (hS1.out.below r6.out) (by omega) htg.out hok.out.1).mono ?_); rintro e w7 ⟨a7, c7, rfl, hV7, hb7⟩; rw [hok.out.2] at hV7; have hS7 := Lib.hid (ZV.ql hV7); have r7 := Lib.hid (bseq r6.out hb7); have hU := Lib.hid (hS46.out.below hb7); have hA := Lib.hid (hS56.out.below hb7); rw [hok.out.2, hmH.out]; clear hV7 hb7))
  have hb7H := Lib.hid (bseq hb1H.out r7.out)
  clear hS1 hS2 hS3 hS23 hS4 hS34 hS5 hS45 hS46 hS56 r1 r2 r3 r4 r5 r6
  go_loopw [16] (fun i wr => ∃ t : Nat, i = .int .i64 (t : Nat) ∧ t ≤ k + 1 ∧ Below w7.heap.size w7 wr) (fun i _ => k + 1 - (intOf i).toNat)
  case atStart => exact ⟨0, rfl, by omega, Below.refl _ _⟩
  case round =>
    obtain ⟨t, rfl, ht, hbl⟩ := hrel
    have hblH := Lib.hid hbl
    clear hbl
    by_cases htk : t < k + 1
    · have hkk : (t : Int) ≤ (k : Int) := by omega
      go_wp2_with (first
        | (go_at_call 29; go_loud (with_reducible refine (whole0 _).mono ?_); rintro e w10 ⟨a10, d10, a10', d10', rfl, hm10, hb10⟩))
      have hQ0 := Lib.hid (QBox.new hm10)
      have hb10H := Lib.hid (bseqZ hblH.out hb10)
      have hP10 := Lib.hid (hS7.out.below hb10H.out)
      have hU10 := Lib.hid (hU.out.below hb10H.out)
      obtain ⟨V3, hV3e⟩ : ∃ V3, V3 = w10.alloc (Obj.cells #[.bool (ng 0), .slice a10 (LZ 0) d10, .bool (ng 1), .slice a10' (LZ 1) d10'] 46) := ⟨_, rfl⟩
      rw [← hV3e] at hQ0 ⊢
      clear hV3e hm10 hb10
      go_loopw [18] (fun i wi => ∃ (j : Nat) (p : RP) (sn sd : Int), i = .int .i64 (j : Nat) ∧ j ≤ t + 1 ∧ QBox w10 wi w10.heap.size p sn sd ∧ PQ sn sd (sumTo (fun x => left ps x * uf ps (t - x)) j) (1 + 2001 * j)) (fun i _ => t + 1 - (intOf i).toNat)
      case atStart => exact ⟨0, _, 0, 1, rfl, by omega, hQ0.out, PQ.zero⟩
      case round =>
        clear hQ0
        obtain ⟨j, p, sn, sd, rfl, hj, hQ, hPQ⟩ := hrel
        have hQH := Lib.hid hQ
        have hPH := Lib.hid hPQ
        obtain ⟨bm, x0, x1, x2, x3, hrg, hbw⟩ := hQ
        have hbwH := Lib.hid hbw
        have hM := Lib.hid (show QM wr p.a p.c p.a' p.c' sn sd from bm)
        have hzg : w10.heap.size < wr.heap.size := World.block_lt_of_cell? wr _ x0
        clear hPQ bm hrg
        by_cases hjt : j < t + 1
        · have hq := uL_at ps (t - j) k (by omega)
          obtain ⟨b1, o1, p1, rfl, hm1', e0, e1, e2, e3⟩ := (hU10.out.below hbw) (t - j) _ hq
          have hr4 := Lib.hid (PQ.low (hu4.out _ (List.mem_of_getElem? hq)))
          have hl4 := Lib.hid (PQ.low (hlv.out.left4 j))
          have hP11 := Lib.hid (hP10.out.below hbw)
          have hM1 := Lib.hid (show QM wr p1.a p1.c p1.a' p1.c' (rn (uf ps (t - j))) (rd (uf ps (t - j))) from hm1')
          have hz1 := Lib.hid (hl4.out.szq (by omega))
          have hz2 := Lib.hid (hr4.out.szq (by omega))
          have hpm := Lib.hid (hl4.out.mul hr4.out)
          have hz3 := Lib.hid (hpm.out.szq (by omega))
          have hz4 := Lib.hid (hPH.out.szq (by omega))
          have hps := Lib.hid (show PQ _ _ (sumTo (fun x => left ps x * uf ps (t - x)) (j + 1)) _ from hPH.out.add hpm.out)
          have hb1 : b1 < wr.heap.size := World.block_lt_of_cell? wr _ e0
          have hk1 : (j : Int) ≤ (t : Int) := by omega
          have hk4 : (t : Int) - (j : Int) = ((t - j : Nat) : Int) := by omega
          have hk5 : ((t - j : Nat) : Int) < (k : Int) + 1 := by omega
          have hw2 : IntKind.i64.wrap ((t - j : Nat) : Int) = ((t - j : Nat) : Int) := by rw [IntKind.wrap_i64]; omega
          have hw3 : IntKind.i64.wrap ((t : Int) - (j : Int)) = ((t - j : Nat) : Int) := by rw [hk4]; exact hw2
          clear hm1' hq hbw
          generalize uf ps (t - j) = r at *
          go_wp2_with (fail)
          go_region_with (first
            | (go_at_call 32; go_loud (with_reducible refine (above_l j m (j : Int) rfl a7 c7 ps _ hmH.out hlv.out.one (hP11.out.below (Below.refl _ _).drew) hm12 (by omega) hs4.out).mono ?_); rintro e w11 ⟨a11, d11, a11', d11', rfl, hm11, hb11⟩; have q11 := Lib.hid (bseqZ (Below.refl wr.heap.size wr).drew hb11); have hQ11 := Lib.hid (hQH.out.step q11.out); obtain ⟨_, y0, y1, y2, y3, _, _⟩ := hQ11.out; have f0 := Below.cellAt q11.out (Nat.le_refl _) e0; have f1 := Below.cellAt q11.out (Nat.le_refl _) e1; have f2 := Below.cellAt q11.out (Nat.le_refl _) e2; have f3 := Below.cellAt q11.out (Nat.le_refl _) e3; have hN1 := Lib.hid (QM.up hM1.out q11.out))
            | (go_at_call 31; go_loud (with_reducible refine (mulq_any a11 d11 a11' d11' p1.a p1.c p1.a' p1.c' (rn (left ps j)) (rd (left ps j)) (rn r) (rd r) _ hm11 hN1.out hz1.out hz2.out).mono ?_); rintro e w12 ⟨a12, d12, a12', d12', rfl, hm12', hb12⟩; have q12 := Lib.hid (bseqZ q11.out hb12); have hQ12 := Lib.hid (hQ11.out.step hb12); obtain ⟨_, v0, v1, v2, v3, _, _⟩ := hQ12.out)
            | (go_at_call 30; go_loud (with_reducible refine (addq_any p.a p.c p.a' p.c' a12 d12 a12' d12' sn sd (rn (left ps j) * rn r) (rd (left ps j) * rd r) _ (QM.up hM.out q12.out) hm12' hz4.out hz3.out).mono ?_); rintro e w13 ⟨a13, d13, a13', d13', rfl, hm13, hb13⟩; have hQ13 := Lib.hid (hQ12.out.step hb13); obtain ⟨_, t2, t3, t5, _⟩ := hQ13.out.2.2.2.2.2.1))
          all_goals go_wp2_with (fail)
          all_goals (
            go_roundw
            case rel => exact ⟨j + 1, ⟨a13, d13, a13', d13'⟩, _, _, by go_num, by omega, hQ13.out.store hm13, hps.out.mono (by omega)⟩
            case measure => simp [intOf]; omega)
        · have hkj : ¬ (j : Int) ≤ (t : Int) := by omega
          have hje : j = t + 1 := by omega
          have hone := Lib.hid (show PQ sn sd 1 100000 by have h := hPH.out; rw [hje, ages_one] at h; exact h.mono (by omega))
          have hsg : Hid (sg (sn * rd 1 - rn 1 * sd) = 0) := (pq_one hone.out).2 (rsg_zero.2 rfl)
          have hz4 := Lib.hid (hone.out.szq (by omega))
          have hO1 : Hid (SzQ (rn 1) (rd 1)) := (show PQ (rn 1) (rd 1) 1 1 from ⟨by decide, rat_eq 1, L_12.1, L_12.1⟩).szq (by omega)
          have hbx := Lib.hid (bseqZ hb10H.out hbw)
          clear hbw
          go_wp2_with (fail)
          go_region_with (first
            | (go_at_call 29; go_loud (with_reducible refine (whole1 _).mono ?_); rintro e w11 ⟨a11, d11, a11', d11', rfl, hm11, hb11⟩; have q11 := Lib.hid (bseqZ (Below.refl wr.heap.size wr).drew hb11); have hQ11 := Lib.hid (hQH.out.step q11.out); obtain ⟨_, y0, y1, y2, y3, _, _⟩ := hQ11.out)
            | (go_at_call 24; go_loud (with_reducible refine (cmpq_z p.a p.c p.a' p.c' a11 d11 a11' d11' sn sd (rn 1) (rd 1) 0 _ hsg.out (QM.up hM.out q11.out) hm11 hz4.out hO1.out).mono ?_); rintro e w12 ⟨rfl, hb12⟩; have q12 := Lib.hid (bseqZ q11.out hb12)))
          all_goals go_wp2_with (fail)
          all_goals (
            go_roundw
            case rel => exact ⟨t + 1, by go_num, by omega, bseqZ hbx.out q12.out⟩
            case measure => simp [intOf]; omega)
    · have hkk : ¬ (t : Int) ≤ (k : Int) := by omega
      go_wp2_with (first
        | (go_at_call 29; go_loud (with_reducible refine (whole0 _).mono ?_); rintro e w10 ⟨a10, d10, a10', d10', rfl, hm10, hb10⟩))
      have hQ0 := Lib.hid (QBox.new hm10)
      have hb10H := Lib.hid (bseqZ hblH.out hb10)
      have hA10 := Lib.hid (hA.out.below hb10H.out)
      obtain ⟨V3, hV3e⟩ : ∃ V3, V3 = w10.alloc (Obj.cells #[.bool (ng 0), .slice a10 (LZ 0) d10, .bool (ng 1), .slice a10' (LZ 1) d10'] 46) := ⟨_, rfl⟩
      rw [← hV3e] at hQ0 ⊢
      clear hV3e hm10 hb10
      go_loopw [20] (fun i wi => ∃ (j : Nat) (p : RP) (sn sd : Int), i = .int .i64 (j : Nat) ∧ j ≤ m ∧ QBox w10 wi w10.heap.size p sn sd ∧ PQ sn sd (psum (agesL ps) j) (1 + 1001 * j)) (fun i _ => m - (intOf i).toNat)
      case atStart => exact ⟨0, _, 0, 1, rfl, by omega, hQ0.out, by rw [show psum (agesL ps) 0 = 0 by simp [psum]]; exact PQ.zero⟩
      case round =>
        clear hQ0
        obtain ⟨j, p, sn, sd, rfl, hj, hQ, hPQ⟩ := hrel
        have hQH := Lib.hid hQ
        have hPH := Lib.hid hPQ
        obtain ⟨bm, x0, x1, x2, x3, hrg, hbw⟩ := hQ
        have hM := Lib.hid (show QM wr p.a p.c p.a' p.c' sn sd from bm)
        have hzg : w10.heap.size < wr.heap.size := World.block_lt_of_cell? wr _ x0
        clear hPQ bm hrg
        by_cases hjm : j < m
        · obtain ⟨r, hr⟩ : ∃ r, (agesL ps)[j]? = some r := ⟨_, List.getElem?_eq_getElem (by rw [hal.out]; exact hjm)⟩
          obtain ⟨b1, o1, p1, rfl, hm1', e0, e1, e2, e3⟩ := (hA10.out.below hbw) j r hr
          have hnx := Lib.hid (psum_next (agesL ps) j r hr)
          have hr4 := Lib.hid (PQ.low (ha4.out r (List.mem_of_getElem? hr)))
          have hz2 := Lib.hid (hr4.out.szq (by omega))
          have hz4 := Lib.hid (hPH.out.szq (by omega))
          have hps := Lib.hid (hPH.out.add hr4.out)
          have hM1 := Lib.hid (show QM wr p1.a p1.c p1.a' p1.c' (rn r) (rd r) from hm1')
          have hjj : (j : Int) < m := by omega
          have hb1 : b1 < wr.heap.size := World.block_lt_of_cell? wr _ e0
          clear hm1' hr hbw
          go_wp2_with (fail)
          go_region_with (first
            | (go_at_call 30; go_loud (with_reducible refine (addq_any p.a p.c p.a' p.c' p1.a p1.c p1.a' p1.c' sn sd (rn r) (rd r) _ (QM.up hM.out (Below.refl _ _).drew) (QM.up hM1.out (Below.refl _ _).drew) hz4.out hz2.out).mono ?_); rintro e w11 ⟨a11, d11, a11', d11', rfl, hm11, hb11⟩; have hQ11 := Lib.hid ((hQH.out.step (Below.refl _ _).drew).step hb11); obtain ⟨_, t2, t3, t5, _⟩ := hQ11.out.2.2.2.2.2.1))
          all_goals go_wp2_with (fail)
          all_goals (
            go_roundw
            case rel => exact ⟨j + 1, ⟨a11, d11, a11', d11'⟩, _, _, by go_num, by omega, hQ11.out.store hm11, by have h := hps.out; rw [hnx.out] at h; exact h.mono (by omega)⟩
            case measure => simp [intOf]; omega)
        · have hkj : ¬ (j : Int) < (m : Int) := by omega
          have hfull : psum (agesL ps) j = 1 := by
            rw [← hmean.out]
            unfold psum
            rw [List.take_of_length_le (by rw [hal.out]; omega)]
          have hone := Lib.hid (show PQ sn sd 1 100000 by have h := hPH.out; rw [hfull] at h; exact h.mono (by omega))
          have hsg : Hid (sg (sn * rd 1 - rn 1 * sd) = 0) := (pq_one hone.out).2 (rsg_zero.2 rfl)
          have hz4 := Lib.hid (hone.out.szq (by omega))
          have hO1 : Hid (SzQ (rn 1) (rd 1)) := (show PQ (rn 1) (rd 1) 1 1 from ⟨by decide, rat_eq 1, L_12.1, L_12.1⟩).szq (by omega)
          have hbx := Lib.hid (bseqZ hb10H.out hbw)
          clear hbw hfull
          go_wp2_with (fail)
          go_region_with (first
            | (go_at_call 29; go_loud (with_reducible refine (whole1 _).mono ?_); rintro e w11 ⟨a11, d11, a11', d11', rfl, hm11, hb11⟩; have q11 := Lib.hid (bseqZ (Below.refl wr.heap.size wr).drew hb11); have hQ11 := Lib.hid (hQH.out.step q11.out); obtain ⟨_, y0, y1, y2, y3, _, _⟩ := hQ11.out)
            | (go_at_call 24; go_loud (with_reducible refine (cmpq_z p.a p.c p.a' p.c' a11 d11 a11' d11' sn sd (rn 1) (rd 1) 0 _ hsg.out (QM.up hM.out q11.out) hm11 hz4.out hO1.out).mono ?_); rintro e w12 ⟨rfl, hb12⟩; have q12 := Lib.hid (bseqZ q11.out hb12)))
          all_goals go_wp2_with (fail)
          all_goals go_ret
          all_goals exact ⟨rfl, bseqZ (bseqZ hb7H.out hbx.out) q12.out⟩

end Go.Proofs.YtcaeonpjokkjnaaGreat
