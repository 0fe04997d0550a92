/- Cw -/
import Derived.Test.YtcaeonpjokkjnaaKXk
set_option linter.unusedVariables false
/- Walk of the law WearCosts. -/
namespace Go.Proofs.Ytcaeonpjokkjnaa
open Go Go.RowKit Go.Proofs

theorem frac_bd {a d : Nat} (ha : a ≤ 15) (hd : 0 < d) : Bd d 15 (Rat.divInt ((a : Nat) : Int) ((d : Nat) : Int)) := ⟨(a : Int), divInt_s a d hd, by omega⟩

set_option maxRecDepth 100000 in
set_option maxHeartbeats 20000000 in
theorem costsLaw_any (ao : Option Addr) (c l y0 y1 y2 : Nat) (xs : List Nat) (w : World) (hl : xs.length = l) (h : Dg .u8 w ao xs) (hl1 : l ≤ 9223372036854775807) (hx : ∀ x ∈ xs, x < 256) (hy0 : y0 < 256) (hy1 : y1 < 256) (hy2 : y2 < 256) :
    Calls Try.prog 4 #[.slice ao l c, .agg #[.int .u8 y0, .int .u8 y1, .int .u8 y2]] w (RetBool w true) := by
  have hlH := Lib.hid hl
  have hxH := Lib.hid hx
  obtain ⟨W0, hW⟩ : ∃ W0, W0 = w.alloc (Obj.cells #[.int .u8 y0, .int .u8 y1, .int .u8 y2] 43) := ⟨_, rfl⟩
  have hbW' : Below w.heap.size w W0 := by rw [hW]; exact (Below.refl _ _).alloc (Nat.le_refl _) _
  have hbW := Lib.hid hbW'
  have hD0 := Lib.hid (h.below hbW')
  have z0 : W0.cell? ⟨w.heap.size, 0, none⟩ = some (.int .u8 y0) := by rw [hW]; simp [go_sem]
  have z1 : W0.cell? ⟨w.heap.size, 1, none⟩ = some (.int .u8 y1) := by rw [hW]; simp [go_sem]
  have z2 : W0.cell? ⟨w.heap.size, 2, none⟩ = some (.int .u8 y2) := by rw [hW]; simp [go_sem]
  have hzz := Lib.hid (show W0.cell? ⟨w.heap.size, 0, none⟩ = some (.int .u8 y0) ∧ W0.cell? ⟨w.heap.size, 1, none⟩ = some (.int .u8 y1) ∧ W0.cell? ⟨w.heap.size, 2, none⟩ = some (.int .u8 y2) from ⟨z0, z1, z2⟩)
  have hz0 : w.heap.size < W0.heap.size := by rw [hW]; simp
  have hWH := Lib.hid hW
  clear hW hbW' h hl hx z0 z1 z2
  obtain ⟨ps, hps⟩ : ∃ ps, ps = madeL xs := ⟨_, rfl⟩
  have hpsH := Lib.hid hps
  obtain ⟨ts, hts⟩ : ∃ ts, ts = ps.map nt := ⟨_, rfl⟩
  have htsH := Lib.hid hts
  have hlv := Lib.hid (show Lv ps by rw [hps]; exact made_lv xs)
  have hs4 := Lib.hid (show ∀ q ∈ ps, Short4 q by rw [hps]; exact made_short)
  have hmad : Hid (∀ q ∈ madeL xs, Short4 q) := made_short
  obtain ⟨m, hm⟩ : ∃ m, ps.length = m := ⟨_, rfl⟩
  have htl : Hid (ts.length = m) := by show _ = _; rw [hts, List.length_map]; exact hm
  have hm12 : m ≤ 12 := by have := hlv.out.len; rw [hm] at this; exact this
  have hm1 : 1 ≤ m := by have := hlv.out.pos; rw [hm] at this; exact this
  have ht40 := Lib.hid (show ∀ s ∈ ps.map nt, s.size ≤ 40 by rw [hps]; exact made_texts xs)
  have hgd := Lib.hid (show livesGood ps by rw [hps]; exact made_good xs)
  obtain ⟨m0, hm0⟩ : ∃ m0, m0 = y0 % 50 + 1 := ⟨_, rfl⟩
  obtain ⟨m1, hm1'⟩ : ∃ m1, m1 = y1 % 50 + 1 := ⟨_, rfl⟩
  obtain ⟨kn, hkn⟩ : ∃ kn, kn = y2 % 15 + 1 := ⟨_, rfl⟩
  obtain ⟨kd, hkd⟩ : ∃ kd, kd = y2 / 15 + 1 := ⟨_, rfl⟩
  have x0 : Hid (((m0 : Nat) : Int) = (y0 : Int) % 50 + 1) := by show _ = _; omega
  have x1 : Hid (((m1 : Nat) : Int) = (y1 : Int) % 50 + 1) := by show _ = _; omega
  have x2 : Hid (((kn : Nat) : Int) = (y2 : Int) % 15 + 1) := by show _ = _; omega
  have x3 : Hid (((kd : Nat) : Int) = (y2 : Int) / 15 + 1) := by show _ = _; omega
  have b0 : 1 ≤ m0 ∧ m0 ≤ 50 := by omega
  have b1 : 1 ≤ m1 ∧ m1 ≤ 50 := by omega
  have b2 : 1 ≤ kn ∧ kn ≤ 15 := by omega
  have b3 : 1 ≤ kd ∧ kd ≤ 18 := by omega
  clear hm0 hm1' hkn hkd
  obtain ⟨K, hK⟩ : ∃ K, Rat.divInt ((kn : Nat) : Int) ((kd : Nat) : Int) = K := ⟨_, rfl⟩
  have hKH := Lib.hid hK
  have hK0 := Lib.hid (show 0 < K by rw [← hK]; exact div_pos b2.1 b3.1)
  have hK4 := Lib.hid (show Short4 K by rw [← hK]; exact (bd_small (frac_bd b2.2 b3.1) b3.1 (by omega) (by omega)).1)
  obtain ⟨c0, hc0⟩ : ∃ c0, (((m0 : Nat) : Int) : Rat) = c0 := ⟨_, rfl⟩
  obtain ⟨c1, hc1⟩ : ∃ c1, (((m1 : Nat) : Int) : Rat) = c1 := ⟨_, rfl⟩
  obtain ⟨u0, hu0⟩ : ∃ u0, c0 * K = u0 := ⟨_, rfl⟩
  obtain ⟨u1, hu1⟩ : ∃ u1, c1 * K = u1 := ⟨_, rfl⟩
  have d0 := int_bd (d := 1) b0.2
  have d1 := int_bd (d := 1) b1.2
  have e0 := mul_bd b0.2 b2.2 b3.1
  have e1 := mul_bd b1.2 b2.2 b3.1
  rw [hc0] at d0
  rw [hc1] at d1
  rw [hc0, hK, hu0] at e0
  rw [hc1, hK, hu1] at e1
  have c0p : 0 < c0 := by rw [← hc0]; exact int_pos b0.1
  have c1p : 0 < c1 := by rw [← hc1]; exact int_pos b1.1
  have s0 := Lib.hid (bd_small d0 (by omega) (by omega) (by omega))
  have s1 := Lib.hid (bd_small d1 (by omega) (by omega) (by omega))
  have s2 := Lib.hid (bd_small e0 b3.1 (by omega) (by omega))
  have s3 := Lib.hid (bd_small e1 b3.1 (by omega) (by omega))
  have k0 := Lib.hid (cost_of d0 (by omega) (by omega) (by omega) c0p)
  have k1 := Lib.hid (cost_of d1 (by omega) (by omega) (by omega) c1p)
  have k2 := Lib.hid (cost_of e0 b3.1 (by omega) (by omega) (by rw [← hu0]; exact Rat.mul_pos c0p hK0.out))
  have k3 := Lib.hid (cost_of e1 b3.1 (by omega) (by omega) (by rw [← hu1]; exact Rat.mul_pos c1p hK0.out))
  obtain ⟨n0, hn0⟩ : ∃ n0 : Int, ((m0 : Nat) : Int) = n0 := ⟨_, rfl⟩
  obtain ⟨n1, hn1⟩ : ∃ n1 : Int, ((m1 : Nat) : Int) = n1 := ⟨_, rfl⟩
  obtain ⟨o, ho⟩ : ∃ o : Int, (1 : Int) = o := ⟨_, rfl⟩
  have p0 := PQ.whole m0 (by omega)
  have p1 := PQ.whole m1 (by omega)
  rw [hc0, hn0, ho] at p0
  rw [hc1, hn1, ho] at p1
  have hp0 := Lib.hid p0
  have hp1 := Lib.hid p1
  have hpK := Lib.hid (PQ.low hK4.out)
  have hp2 := p0.mul hpK.out
  have hp3 := p1.mul hpK.out
  rw [hu0] at hp2
  rw [hu1] at hp3
  have hp2H := Lib.hid hp2
  have hp3H := Lib.hid hp3
  have hn0H := Lib.hid hn0
  have hn1H := Lib.hid hn1
  have hoH := Lib.hid ho
  have hu0H := Lib.hid hu0
  have hu1H := Lib.hid hu1
  obtain ⟨t0, ht0⟩ : ∃ t0, nt c0 = t0 := ⟨_, rfl⟩
  obtain ⟨t1, ht1⟩ : ∃ t1, nt c1 = t1 := ⟨_, rfl⟩
  obtain ⟨t2, ht2⟩ : ∃ t2, nt u0 = t2 := ⟨_, rfl⟩
  obtain ⟨t3, ht3⟩ : ∃ t3, nt u1 = t3 := ⟨_, rfl⟩
  have ht0H := Lib.hid ht0
  have ht1H := Lib.hid ht1
  have ht2H := Lib.hid ht2
  have ht3H := Lib.hid ht3
  obtain ⟨rs, hrs⟩ : ∃ rs, rateL ps c0 c1 = rs := ⟨_, rfl⟩
  obtain ⟨os, hos⟩ : ∃ os, rateL ps u0 u1 = os := ⟨_, rfl⟩
  have hro : Hid (os = rs.map (· * K)) := by show _ = _; rw [← hos, ← hrs, ← hu0, ← hu1, rateL_mul]
  have hrl : Hid (rs.length = m) := by show _ = _; rw [← hrs, rateL_length]; exact hm
  have hol : Hid (os.length = m) := by show _ = _; rw [← hos, rateL_length]; exact hm
  have hrl2 : Hid ((rs.map nt).length = m) := by show _ = _; rw [List.length_map]; exact hrl.out
  have hol2 : Hid ((os.map nt).length = m) := by show _ = _; rw [List.length_map]; exact hol.out
  have hrz : Hid (∀ r ∈ rs, Sz r ∧ numRes r = (nt r, 0)) := by rw [← hrs]; exact hlv.out.rateL (Cs.of k0.out) (Cs.of k1.out)
  have hoz : Hid (∀ r ∈ os, Sz r ∧ numRes r = (nt r, 0)) := by rw [← hos]; exact hlv.out.rateL (Cs.of k2.out) (Cs.of k3.out)
  have hr4 : Hid (∀ r ∈ rs, Short4 r) := fun r hr => by
    rw [← hrs] at hr
    obtain ⟨i, _, rfl⟩ := List.mem_map.1 hr
    exact (hlv.out.rateSt (Cs.of k0.out) (Cs.of k1.out)).rate i
  have ho4 : Hid (∀ r ∈ os, Short4 r) := fun r hr => by
    rw [← hos] at hr
    obtain ⟨i, _, rfl⟩ := List.mem_map.1 hr
    exact (hlv.out.rateSt (Cs.of k2.out) (Cs.of k3.out)).rate i
  have hbe : Hid (bestK os m = bestK rs m) := by show _ = _; rw [hro.out]; exact bestK_mul rs hK0.out m
  have hr0 : ∀ (v : World) (a : Option Addr) (c : Nat), SL v a ts → Calls Try.prog 46 #[.slice a m c, .string t0, .string t1] v (RetLives v rs) := fun v a c hS => by
    have := rates_nt ps hgd.out hs4.out ht40.out m hm c0 c1 k0.out k1.out s0.out.1 s1.out.1 s0.out.2.2 s1.out.2.2 a c v (by rw [← htsH.out]; exact hS)
    rw [ht0, ht1, hrs] at this
    exact this
  have ho0 : ∀ (v : World) (a : Option Addr) (c : Nat), SL v a ts → Calls Try.prog 46 #[.slice a m c, .string t2, .string t3] v (RetLives v os) := fun v a c hS => by
    have := rates_nt ps hgd.out hs4.out ht40.out m hm u0 u1 k2.out k3.out s2.out.1 s3.out.1 s2.out.2.2 s3.out.2.2 a c v (by rw [← htsH.out]; exact hS)
    rw [ht2, ht3, hos] at this
    exact this
  have hrT : Hid (∀ (v : World) (a : Option Addr) (c : Nat), SL v a ts → Calls Try.prog 20 #[.slice a m c, .string t0, .string t1] v (RetNums v (rs.map nt))) := fun v a c hS => ratesT_good rs a c m t0 t1 v (hr0 v a c hS) (by rw [hrl.out]; omega) hrz.out
  have hoT : Hid (∀ (v : World) (a : Option Addr) (c : Nat), SL v a ts → Calls Try.prog 20 #[.slice a m c, .string t2, .string t3] v (RetNums v (os.map nt))) := fun v a c hS => ratesT_good os a c m t2 t3 v (ho0 v a c hS) (by rw [hol.out]; omega) hoz.out
  obtain ⟨t, ht⟩ : ∃ t, bestK rs m = t := ⟨_, rfl⟩
  have hrB : Hid (∀ (v : World) (a : Option Addr) (c : Nat), SL v a ts → Calls Try.prog 21 #[.slice a m c, .string t0, .string t1] v (RetBest v (t + 1) (nt (nth rs t)))) := fun v a c hS => by
    have := replace_good rs a c m t0 t1 v (hr0 v a c hS) (by rw [hrl.out]; exact hm1) (by rw [hrl.out]; omega) hrz.out
    rw [hrl.out, ht] at this
    exact this
  have hoB : Hid (∀ (v : World) (a : Option Addr) (c : Nat), SL v a ts → Calls Try.prog 21 #[.slice a m c, .string t2, .string t3] v (RetBest v (t + 1) (nt (nth os t)))) := fun v a c hS => by
    have := replace_good os a c m t2 t3 v (ho0 v a c hS) (by rw [hol.out]; exact hm1) (by rw [hol.out]; omega) hoz.out
    rw [hol.out, hbe.out, ht] at this
    exact this
  have hq1 : Hid (∀ (v : World) (a : Option Addr) (c : Nat), SL v a (rs.map nt) → Calls Try.prog 22 #[.slice a m c] v (RetLQ v rs)) := fun v a c hS => lqs_any a c m rs v hrl.out hS (by omega) hr4.out
  have hq2 : Hid (∀ (v : World) (a : Option Addr) (c : Nat), SL v a (os.map nt) → Calls Try.prog 22 #[.slice a m c] v (RetLQ v os)) := fun v a c hS => lqs_any a c m os v hol.out hS (by omega) ho4.out
  have y00 : Hid (0 < o) := hp0.out.1
  have y01 : Hid (Rat.divInt n0 o = c0) := hp0.out.2.1
  have y11 : Hid (Rat.divInt n1 o = c1) := hp1.out.2.1
  have y20 : Hid (0 < o * rd K) := hp2.1
  have y21 : Hid (Rat.divInt (n0 * rn K) (o * rd K) = u0) := hp2.2.1
  have y31 : Hid (Rat.divInt (n1 * rn K) (o * rd K) = u1) := hp3.2.1
  have f0 := Lib.hid (hp0.out.szq (by omega))
  have f1 := Lib.hid (hp1.out.szq (by omega))
  have fK := Lib.hid (hpK.out.szq (by omega))
  have i0 := Lib.hid (hp0.out.z1)
  have i1 := Lib.hid (hp0.out.z2)
  have i2 := Lib.hid (hp1.out.z1)
  have i3 := Lib.hid (hp1.out.z2)
  have i4 := Lib.hid (hp2.z1)
  have i5 := Lib.hid (hp2.z2)
  have i6 := Lib.hid (hp3.z1)
  have i7 := Lib.hid (hp3.z2)
  have j2 := Lib.hid (show LZ (rn u0) ≤ 1000000 by have := LZ_small s2.out.1.1; omega)
  have j3 := Lib.hid (show LZ (rd u0) ≤ 1000000 by have := LZ_small s2.out.1.2; omega)
  have j4 := Lib.hid (show LZ (rn u1) ≤ 1000000 by have := LZ_small s3.out.1.1; omega)
  have j5 := Lib.hid (show LZ (rd u1) ≤ 1000000 by have := LZ_small s3.out.1.2; omega)
  clear hps hts hm hK hc0 hc1 hu0 hu1 d0 d1 e0 e1 c0p c1p hn0 hn1 ho p0 p1 hp2 hp3 ht0 ht1 ht2 ht3 hrs hos hr0 ho0 ht
  have c0n : Nat := 0
  have bb0 : 1 ≤ m0 := b0.1
  have bb0' : m0 ≤ 50 := b0.2
  have bb1' : m1 ≤ 50 := b1.2
  have bb2' : kn ≤ 15 := b2.2
  have bb3 : 0 < kd := b3.1
  have bb3' : kd ≤ 18 := b3.2
  clear b0 b1 b2 b3 c0n
  go_enter Try.func4, Try.ntmps4
  go_upto_region 2 with (first
    | (go_at_call 8; rw [← hWH.out]; go_loud (with_reducible refine (madeW_any ao c l xs _ hlH.out hD0.out hl1 hxH.out hmad.out).mono ?_); rintro e w1 ⟨a1, c1', rfl, hV1, hb1⟩; rw [← hpsH.out, ← htsH.out] at hV1; have hS1 := Lib.hid (SV.sl hV1); have r1 := Lib.hid hb1; have v0 := Below.cellAt hb1 (Nat.le_refl _) hzz.out.1; have v1 := Below.cellAt hb1 (Nat.le_refl _) hzz.out.2.1; have v2 := Below.cellAt hb1 (Nat.le_refl _) hzz.out.2.2; have hz1 : w.heap.size < w1.heap.size := World.block_lt_of_cell? w1 _ v0; rw [← hpsH.out, ← htsH.out, htl.out]; clear hV1 hb1))
  go_upto_region 3 with (first
    | (go_at_call 17; go_loud (with_reducible refine (make_z kn kd _ _ x2.out x3.out K hKH.out bb3 (by omega) (by omega) _).mono ?_); rintro e w2 ⟨a2, d2, a2', d2', rfl, hm2, hb2⟩))
  obtain ⟨V, hV⟩ : ∃ V, V = w2.alloc (Obj.cells #[Value.bool (ng (rn K)), Value.slice a2 (LZ (rn K)) d2, Value.bool (ng (rd K)), Value.slice a2' (LZ (rd K)) d2'] 37) := ⟨_, rfl⟩
  have hbV : Below w1.heap.size w1 V := by rw [hV]; exact hb2.alloc hb2.size _
  have hC6 : Hid (CB V w2.heap.size ⟨a2, d2, a2', d2'⟩ (rn K) (rd K)) := by rw [hV]; exact CB.new hm2
  have q0 := Below.cellAt hbV (Nat.le_refl _) v0
  have q1 := Below.cellAt hbV (Nat.le_refl _) v1
  have hzV : w.heap.size < V.heap.size := World.block_lt_of_cell? V _ q0
  have hg6 : w2.heap.size < V.heap.size := by rw [hV]; simp
  have hSV := Lib.hid (hS1.out.below hbV)
  have rV := Lib.hid (bseq r1.out hbV)
  rw [← hV]
  clear hV hbV hb2 hm2 v0 v1 v2
  have qa : IntKind.i64.wrap (y0 : Int) = (y0 : Int) := by rw [IntKind.wrap_i64]; omega
  have qb : IntKind.i64.wrap (y1 : Int) = (y1 : Int) := by rw [IntKind.wrap_i64]; omega
  have qc : (y0 : Int).tmod 50 = (y0 : Int) % 50 := Int.tmod_eq_emod_of_nonneg (by omega)
  have qd : (y1 : Int).tmod 50 = (y1 : Int) % 50 := Int.tmod_eq_emod_of_nonneg (by omega)
  have qe : IntKind.i64.wrap ((y0 : Int) % 50 + 1) = (y0 : Int) % 50 + 1 := by rw [IntKind.wrap_i64]; omega
  have qf : IntKind.i64.wrap ((y1 : Int) % 50 + 1) = (y1 : Int) % 50 + 1 := by rw [IntKind.wrap_i64]; omega
  go_cut [7, 8] from 45 to 56 (fun s7 s8 wx => ∃ (g7 g8 : Nat) (p7 p8 : RP), s7 = .pointer (some ⟨g7, 0, none⟩) ∧ s8 = .pointer (some ⟨g8, 0, none⟩) ∧ CB wx g7 p7 n0 o ∧ CB wx g8 p8 n1 o ∧ Below V.heap.size V wx)
  case first =>
    go_region_held3 (fun w' => Kq V w')
      (first | (with_reducible exact Kq.drew _) | ((with_reducible (repeat' (first | assumption | exact Kq.slf _ | refine Kq.drw ?_ | refine Kq.alloc ?_ _ | refine Kq.set ?_ ?_ _ | exact Nat.le_refl _))) <;> (first | omega | (simp <;> omega))))
      (first
        | (go_at_call 15; (with_reducible refine (whole_l m0 _ n0 o x0.out hn0H.out hoH.out _ (by omega)).mono ?_); rintro e w3 ⟨a3, d3, a3', d3', rfl, hm3', hb3⟩; have hm3 := Lib.hid hm3'; have kq3 : Kq V w3 := Kq.step (by assumption) hb3; have l3 : V.heap.size ≤ w3.heap.size := kq3.2.size; clear hm3'; (first | (with_reducible have f1 : FB w3 V.heap.size := FB.up (FB.drw (FB.new _)) hb3) | (with_reducible have f1 : FB w3 V.heap.size := FB.up (FB.drw (FB.al (FB.new _) _)) hb3) | skip); (first | (with_reducible have f2 : FB w3 (V.heap.size + 1) := FB.up (FB.drw (FB.new2 _ _)) hb3) | skip))
        | (go_at_call 15; (with_reducible refine (whole_l m1 _ n1 o x1.out hn1H.out hoH.out _ (by omega)).mono ?_); rintro e w4 ⟨a4, d4, a4', d4', rfl, hm4', hb4⟩; have hm4 := Lib.hid hm4'; have kq4 : Kq V w4 := Kq.step (by assumption) hb4; have l4 : V.heap.size ≤ w4.heap.size := kq4.2.size; clear hm4'; (first | (with_reducible have g1 : FB w4 V.heap.size := FB.up f1 hb4) | (with_reducible have g1 : FB w4 V.heap.size := FB.up (FB.al f1 _) hb4) | skip); (first | (with_reducible have g2 : FB w4 (V.heap.size + 1) := FB.up f2 hb4) | (with_reducible have g2 : FB w4 (V.heap.size + 1) := FB.up (FB.al f2 _) hb4) | skip); (first | (with_reducible have g3 : FB w4 w3.heap.size := FB.up (FB.new _) hb4) | (with_reducible have g3 : FB w4 w3.heap.size := FB.up (FB.al (FB.new _) _) hb4) | skip); (first | (with_reducible have g4 : FB w4 (w3.heap.size + 1) := FB.up (FB.new2 _ _) hb4) | (with_reducible have g4 : FB w4 (w3.heap.size + 1) := FB.up (FB.al (FB.new2 _ _) _) hb4) | skip); (try (have e1 := FB.lt g1)); (try (have t1 := g1.2.1)); (try (have u1 := g1.2.2.1)); (try (have e2 := FB.lt g2)); (try (have t2 := g2.2.1)); (try (have u2 := g2.2.2.1)); (try (have e3 := FB.lt g3)); (try (have t3 := g3.2.1)); (try (have u3 := g3.2.2.1)); (try (have e4 := FB.lt g4)); (try (have t4 := g4.2.1)); (try (have u4 := g4.2.2.1)); (try (have e5 := FB.lt f1)); (try (have e6 := FB.lt f2))))
    all_goals go_wp2_with (fail)
    all_goals go_meet
    all_goals refine ⟨_, _, ⟨a3, d3, a3', d3'⟩, ⟨a4, d4, a4', d4'⟩, rfl, rfl, ?_, ?_, ?_⟩
    all_goals (with_reducible (repeat' (first
      | exact hm3.out | exact hm4.out | assumption | exact kq4.2 | refine CB.newN ?_ ?_ | refine CB.al ?_ _ | refine CB.store ?_ ?_ | refine CB.far ?_ ?_ ?_ _ _ _ _ _ _ _ _
      | refine QM.al ?_ _ | refine QM.st ?_ ?_ _ _ _ _ _ _ _ _ | refine QM.up ?_ (by assumption) | exact FB.new _ | exact FB.new2 _ _ | refine FB.own ?_ _ _ _ _ _ _ _ _ | refine FB.far ?_ ?_ _ _ _ _ | refine FB.al ?_ _
      | refine below_set4 ?_ ?_ _ _ _ _ | refine Below.alloc ?_ ?_ _)))
    all_goals (first | omega | (simp <;> omega))
  case rest =>
    obtain ⟨g7, g8, p7, p8, rfl, rfl, hC7', hC8', hbc'⟩ := hcut
    have hC7 := Lib.hid hC7'
    have hC8 := Lib.hid hC8'
    have hbc := Lib.hid hbc'
    have hC6c := Lib.hid (hC6.out.up hbc')
    have hSc := Lib.hid (hSV.out.below hbc')
    have rc := Lib.hid (bseq rV.out hbc')
    obtain ⟨M7', c70, c71, c72, c73⟩ := hC7'
    have hX4 := Lib.hid hC7.out
    have hY4 := Lib.hid hC8.out
    have hZ4 := Lib.hid hC6c.out
    have r4 := Lib.hid rc.out
    have hS4 := Lib.hid hSc.out
    have M7 := Lib.hid M7'
    clear hC7 hC8 hC6c rc hSc
    clear hC8' hbc' M7' q0 q1 qa qb qc qd qe qf
    go_wp2_with (first
      | (go_at_call 18; go_loud (with_reducible refine (num_s p7.a p7.c p7.a' p7.c' n0 o c0 _ M7.out i0.out i1.out y00.out y01.out s0.out.1).mono ?_); rintro e w5 ⟨rfl, hb5⟩; rw [ht0H.out]; have r5 := Lib.hid (bseq r4.out hb5); have hS5 := Lib.hid (hS4.out.below hb5); have hX5 := Lib.hid (hX4.out.up hb5); have hY5 := Lib.hid (hY4.out.up hb5); have hZ5 := Lib.hid (hZ4.out.up hb5); obtain ⟨MY5', cY50, cY51, cY52, cY53⟩ := hY5.out; have MY5 := Lib.hid MY5'; clear MY5'; clear hb5 c70 c71 c72 c73)
      | (go_at_call 18; go_loud (with_reducible refine (num_s p8.a p8.c p8.a' p8.c' n1 o c1 _ MY5.out i2.out i3.out y00.out y11.out s1.out.1).mono ?_); rintro e w6 ⟨rfl, hb6⟩; rw [ht1H.out]; have r6 := Lib.hid (bseq r5.out hb6); have hS6 := Lib.hid (hS5.out.below hb6); have hX6 := Lib.hid (hX5.out.up hb6); have hY6 := Lib.hid (hY5.out.up hb6); have hZ6 := Lib.hid (hZ5.out.up hb6); obtain ⟨MX6', cX60, cX61, cX62, cX63⟩ := hX6.out; have MX6 := Lib.hid MX6'; clear MX6'; obtain ⟨MZ6', cZ60, cZ61, cZ62, cZ63⟩ := hZ6.out; have MZ6 := Lib.hid MZ6'; clear MZ6'; clear hb6 cY50 cY51 cY52 cY53)
      | (go_at_call 13; go_loud (with_reducible refine (mulq_any p7.a p7.c p7.a' p7.c' a2 d2 a2' d2' n0 o (rn K) (rd K) _ MX6.out MZ6.out f0.out fK.out).mono ?_); rintro e w7 ⟨a7, d7, a7', d7', rfl, hm7, hb7⟩; have r7 := Lib.hid (bseq r6.out hb7); have hS7 := Lib.hid (hS6.out.below hb7); have hX7 := Lib.hid (hX6.out.up hb7); have hY7 := Lib.hid (hY6.out.up hb7); have hZ7 := Lib.hid (hZ6.out.up hb7); clear hb7 cX60 cX61 cX62 cX63 cZ60 cZ61 cZ62 cZ63)
      | (go_at_call 19; go_loud (with_reducible refine (lowest_q a7 d7 a7' d7' (n0 * rn K) (o * rd K) u0 _ hm7 i4.out i5.out y20.out y21.out).mono ?_); rintro e w8 ⟨a8, d8, a8', d8', rfl, hm8, hb8⟩; have r8 := Lib.hid (bseq r7.out hb8); have hS8 := Lib.hid (hS7.out.below hb8); have hX8 := Lib.hid (hX7.out.up hb8); have hY8 := Lib.hid (hY7.out.up hb8); have hZ8 := Lib.hid (hZ7.out.up hb8); have hm8H := Lib.hid (show QM w8 a8 d8 a8' d8' (rn u0) (rd u0) from hm8); clear hb8 hm8 hm7)
      | (go_at_call 18; go_loud (with_reducible refine (num_s a8 d8 a8' d8' (rn u0) (rd u0) u0 _ hm8H.out j2.out j3.out (rd_pos u0) (rat_eq u0) s2.out.1).mono ?_); rintro e w9 ⟨rfl, hb9⟩; rw [ht2H.out]; have r9 := Lib.hid (bseq r8.out hb9); have hS9 := Lib.hid (hS8.out.below hb9); have hX9 := Lib.hid (hX8.out.up hb9); have hY9 := Lib.hid (hY8.out.up hb9); have hZ9 := Lib.hid (hZ8.out.up hb9); obtain ⟨MY9', cY90, cY91, cY92, cY93⟩ := hY9.out; have MY9 := Lib.hid MY9'; clear MY9'; obtain ⟨MZ9', cZ90, cZ91, cZ92, cZ93⟩ := hZ9.out; have MZ9 := Lib.hid MZ9'; clear MZ9'; clear hb9)
      | (go_at_call 13; go_loud (with_reducible refine (mulq_any p8.a p8.c p8.a' p8.c' a2 d2 a2' d2' n1 o (rn K) (rd K) _ MY9.out MZ9.out f1.out fK.out).mono ?_); rintro e w10 ⟨a10, d10, a10', d10', rfl, hm10, hb10⟩; have r10 := Lib.hid (bseq r9.out hb10); have hS10 := Lib.hid (hS9.out.below hb10); have hX10 := Lib.hid (hX9.out.up hb10); have hY10 := Lib.hid (hY9.out.up hb10); have hZ10 := Lib.hid (hZ9.out.up hb10); clear hb10 cY90 cY91 cY92 cY93 cZ90 cZ91 cZ92 cZ93)
      | (go_at_call 19; go_loud (with_reducible refine (lowest_q a10 d10 a10' d10' (n1 * rn K) (o * rd K) u1 _ hm10 i6.out i7.out y20.out y31.out).mono ?_); rintro e w11 ⟨a11, d11, a11', d11', rfl, hm11, hb11⟩; have r11 := Lib.hid (bseq r10.out hb11); have hS11 := Lib.hid (hS10.out.below hb11); have hX11 := Lib.hid (hX10.out.up hb11); have hY11 := Lib.hid (hY10.out.up hb11); have hZ11 := Lib.hid (hZ10.out.up hb11); have hm11H := Lib.hid (show QM w11 a11 d11 a11' d11' (rn u1) (rd u1) from hm11); clear hb11 hm11 hm10)
      | (go_at_call 18; go_loud (with_reducible refine (num_s a11 d11 a11' d11' (rn u1) (rd u1) u1 _ hm11H.out j4.out j5.out (rd_pos u1) (rat_eq u1) s3.out.1).mono ?_); rintro e w12 ⟨rfl, hb12⟩; rw [ht3H.out]; have r12 := Lib.hid (bseq r11.out hb12); have hS12 := Lib.hid (hS11.out.below hb12); have hX12 := Lib.hid (hX11.out.up hb12); have hY12 := Lib.hid (hY11.out.up hb12); have hZ12 := Lib.hid (hZ11.out.up hb12); clear hb12)
      | (go_at_call 20; go_loud (with_reducible refine (hrT.out _ a1 c1' hS12.out).mono ?_); rintro e w13 ⟨a13, c13, rfl, hV13, hb13⟩; have r13 := Lib.hid (bseq r12.out hb13); have hS13 := Lib.hid (hS12.out.below hb13); have hZ13 := Lib.hid (hZ12.out.up hb13); have hR13 := Lib.hid (SV.sl hV13); rw [hrl2.out]; clear hV13 hb13)
      | (go_at_call 20; go_loud (with_reducible refine (hoT.out _ a1 c1' hS13.out).mono ?_); rintro e w14 ⟨a14, c14, rfl, hV14, hb14⟩; have r14 := Lib.hid (bseq r13.out hb14); have hS14 := Lib.hid (hS13.out.below hb14); have hZ14 := Lib.hid (hZ13.out.up hb14); have hR14 := Lib.hid (hR13.out.below hb14); have hO14 := Lib.hid (SV.sl hV14); rw [hol2.out]; clear hV14 hb14)
      | (go_at_call 21; go_loud (with_reducible refine (hrB.out _ a1 c1' hS14.out).mono ?_); rintro e w15 ⟨rfl, hb15⟩; have r15 := Lib.hid (bseq r14.out hb15); have hS15 := Lib.hid (hS14.out.below hb15); have hZ15 := Lib.hid (hZ14.out.up hb15); have hR15 := Lib.hid (hR14.out.below hb15); have hO15 := Lib.hid (hO14.out.below hb15); clear hb15)
      | (go_at_call 21; go_loud (with_reducible refine (hoB.out _ a1 c1' hS15.out).mono ?_); rintro e w16 ⟨rfl, hb16⟩; have r16 := Lib.hid (bseq r15.out hb16); have hS16 := Lib.hid (hS15.out.below hb16); have hZ16 := Lib.hid (hZ15.out.up hb16); have hR16 := Lib.hid (hR15.out.below hb16); have hO16 := Lib.hid (hO15.out.below hb16); clear hb16)
      | (go_at_call 22; go_loud (with_reducible refine (hq1.out _ a13 c13 hR16.out).mono ?_); rintro e w17 ⟨a17, c17, rfl, hV17, hb17⟩; have r17 := Lib.hid (bseq r16.out hb17); have hS17 := Lib.hid (hS16.out.below hb17); have hZ17 := Lib.hid (hZ16.out.up hb17); have hO17 := Lib.hid (hO16.out.below hb17); have hL17 := Lib.hid (ZV.ql hV17); rw [hrl.out]; clear hV17 hb17)
      | (go_at_call 22; go_loud (with_reducible refine (hq2.out _ a14 c14 hO17.out).mono ?_); rintro e w18 ⟨a18, c18, rfl, hV18, hb18⟩; have r18 := Lib.hid (bseq r17.out hb18); have hS18 := Lib.hid (hS17.out.below hb18); have hZ18 := Lib.hid (hZ17.out.up hb18); have hL18 := Lib.hid (hL17.out.below hb18); have hT18 := Lib.hid (ZV.ql hV18); rw [hol.out]; clear hV18 hb18)
      | (go_at_call 16; go_loud (with_reducible refine (lives_any _).mono ?_); rintro e w19 ⟨rfl, hb19⟩; have r19 := Lib.hid (bseq r18.out hb19); have hZ19 := Lib.hid (hZ18.out.up hb19); have hL19 := Lib.hid (hL18.out.below hb19); have hT19 := Lib.hid (hT18.out.below hb19); clear hb19))
    clear hX4 hX5 hX6 hX7 hX8 hX9 hX10 hX11 hX12 hY4 hY5 hY6 hY7 hY8 hY9 hY10 hY11 hY12 hZ4 hZ5 hZ6 hZ7 hZ8 hZ9 hZ10 hZ11 hZ12 hZ13 hZ14 hZ15 hZ16 hZ17 hZ18
    clear hS4 hS5 hS6 hS7 hS8 hS9 hS10 hS11 hS12 hS13 hS14 hS15 hS16 hS17 hS18 hR13 hR14 hR15 hR16 hO14 hO15 hO16 hO17 hL17 hL18 hT18 r4 r5 r6 r7 r8 r9 r10 r11 r12 r13 r14 r15 r16 r17 r18
    go_loopw [31] (fun i wr => ∃ t : Nat, i = .int .i64 (t : Nat) ∧ t ≤ m ∧ Below w19.heap.size w19 wr) (fun i _ => m - (intOf i).toNat)
    case atStart => exact ⟨0, rfl, by omega, Below.refl _ _⟩
    case round =>
      obtain ⟨i, rfl, hi, hbl⟩ := hrel
      have hblH := Lib.hid hbl
      by_cases him : i < m
      · obtain ⟨x, hx⟩ : ∃ x, rs[i]? = some x := ⟨_, List.getElem?_eq_getElem (by rw [hrl.out]; exact him)⟩
        have hox : os[i]? = some (x * K) := by rw [hro.out, List.getElem?_map, hx]; rfl
        obtain ⟨y, hy⟩ : ∃ y, x * K = y := ⟨_, rfl⟩
        rw [hy] at hox
        obtain ⟨e1, u1', p1', rfl, hm1', s0', s1', s2', s3'⟩ := (hL19.out.below hbl) i x hx
        obtain ⟨e2, u2', p2', rfl, hm2', v0', v1', v2', v3'⟩ := (hT19.out.below hbl) i y hox
        obtain ⟨M6', k0', k1', k2', k3'⟩ := hZ19.out.up hbl
        have hN1 := Lib.hid (show QM wr p1'.a p1'.c p1'.a' p1'.c' (rn x) (rd x) from hm1')
        have hN2 := Lib.hid (show QM wr p2'.a p2'.c p2'.a' p2'.c' (rn y) (rd y) from hm2')
        have hN6 := Lib.hid M6'
        have px := PQ.low (hr4.out x (List.mem_of_getElem? hx))
        have py := PQ.low (ho4.out y (List.mem_of_getElem? hox))
        have pm := px.mul hpK.out
        rw [hy] at pm
        have hcz := Lib.hid (pq_same pm)
        have sx := Lib.hid (px.szq (by omega))
        have sy := Lib.hid (py.szq (by omega))
        have sm := Lib.hid (pm.szq (by omega))
        have z1' : e1 < wr.heap.size := World.block_lt_of_cell? wr _ s0'
        have z2' : e2 < wr.heap.size := World.block_lt_of_cell? wr _ v0'
        have z6' : w2.heap.size < wr.heap.size := World.block_lt_of_cell? wr _ k0'
        have him' : (i : Int) < (m : Int) := by omega
        have hi0 : (0 : Int) ≤ (i : Int) := by omega
        clear hm1' hm2' M6' px py pm hx hox hy hbl
        go_wp2_with (fail)
        go_region_held3 (fun w' => Kq wr w')
          (first | (with_reducible exact Kq.drew _) | assumption)
          (first
            | (go_at_call 13; (with_reducible refine (mulq_any p1'.a p1'.c p1'.a' p1'.c' a2 d2 a2' d2' (rn x) (rd x) (rn K) (rd K) _ (QM.kq hN1.out (by assumption)) (QM.kq hN6.out (by assumption)) sx.out fK.out).mono ?_); rintro e w20 ⟨a20, d20, a20', d20', rfl, hm20', hb20⟩; have hm20 := Lib.hid hm20'; have kq20 : Kq wr w20 := Kq.step (by assumption) hb20; clear hm20')
            | (go_at_call 12; (with_reducible refine (cmpq_z a20 d20 a20' d20' p2'.a p2'.c p2'.a' p2'.c' (rn x * rn K) (rd x * rd K) (rn y) (rd y) 0 _ hcz.out hm20.out (QM.kq hN2.out (by assumption)) sm.out sy.out).mono ?_); rintro e w21 ⟨rfl, hb21⟩; have kq21 : Kq wr w21 := Kq.step (by assumption) hb21))
        all_goals go_wp2_with (fail)
        all_goals (
          go_roundw
          case rel => exact ⟨i + 1, by go_num, by omega, bseqZ hblH.out kq21.2⟩
          case measure => simp [intOf]; omega)
      · have him' : ¬ (i : Int) < (m : Int) := by omega
        go_wp2_with (fail)
        go_ret
        exact ⟨rfl, bseq hbW.out (bseq r19.out hblH.out)⟩

end Go.Proofs.Ytcaeonpjokkjnaa
