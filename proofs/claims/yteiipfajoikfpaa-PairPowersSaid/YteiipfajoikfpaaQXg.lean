/- Xg -/
import Derived.Test.YteiipfajoikfpaaQXe
import Derived.Test.YteiipfajoikfpaaQXf
import Derived.Test.YteiipfajoikfpaaQUs
set_option linter.unusedVariables false
/- The law PairPowers, walked. -/
namespace Go.Proofs.Yteiipfajoikfpaa
open Go Go.RowKit Go.Proofs

theorem IZ.appne {w w' : World} {base g : Nat} {v v' : Value} {zs xs : List Int} (h : IZ w (some ⟨g, 0, none⟩) xs) (ha : AppZ w base v zs v' w') (hne : ∀ b, v.ownBlock = some b → b ≠ g) : IZ w' (some ⟨g, 0, none⟩) xs := fun i x hx => by
  obtain ⟨b, o, e, hc⟩ := h i x hx
  refine ⟨b, o, e, ?_⟩
  injection e with e1
  injection e1 with e2 e3
  subst e2
  rw [ha.cell (World.block_lt_of_cell? w ⟨g, o + i, none⟩ hc) (fun e => hne g e.symm rfl)]
  exact hc
theorem MI.noX {w : World} {base : Nat} {v : Value} {C : List (List Int)} (h : MI w base v C) : NoIntV w v := h.choose_spec.2.1
theorem ownAfter {w w' : World} {base g : Nat} {v v' : Value} {zs : List Int} (hA : AppZ w base v zs v' w') (hne : ∀ b, v.ownBlock = some b → b ≠ g) (hg : g < w.heap.size) (hz : zs ≠ []) : ∀ b, v'.ownBlock = some b → b ≠ g ∧ b < w'.heap.size := fun b hb => by
  refine ⟨?_, ((hA.1.zi hz).lt b hb).2⟩
  rcases hA.2.2.1 with h | h
  · exact hne b (by rw [← h]; exact hb)
  · rw [h] at hb
    injection hb with hb
    omega
set_option maxRecDepth 100000 in
set_option maxHeartbeats 25600000 in
theorem powersLaw_any (n0 lx cx y0 : Nat) (ax : Option Addr) (xs : List Nat) (w : World) (hx : Dg .u16 w ax xs) (hl : xs.length = lx) (hl2 : lx ≤ 9223372036854775807) (hb : ∀ x ∈ xs, x < 65536) (hn : n0 < 256) (hy0 : y0 < 65536) :
    Calls Try.prog 17 #[.int .u8 (n0 : Nat), .slice ax lx cx, .int .u16 (y0 : Nat)] w (RetB w true) := by
  have hmade := Lib.hid (made8_any n0 lx cx 40 ax xs w hx hl hl2 hb hn (by omega))
  clear hx hl hl2 hb
  go_enter Try.func17, Try.ntmps17
  go_upto_region 2 with (first
    | (go_at_call 29; go_loud (with_reducible refine hmade.out.mono ?_); rintro e w1 ⟨C, a1, d1, k, rfl, hC, hg, hk8, hmo, hM, hd1, hb1⟩; have hCH := Lib.hid hC; have hgH := Lib.hid hg; have hMH := Lib.hid hM; have hb1H := Lib.hid hb1; clear hmo hM hb1))
  have hk1 : 0 < k := by rw [← hC]; exact hg.1
  obtain ⟨p, hp⟩ := smooth_ex C k
  obtain ⟨q, hq⟩ := best_exJ (mxP C) k
  have hmx := smooth_max hk1 hp hq
  obtain ⟨v, hv⟩ : ∃ v, mxP C q = v := ⟨_, rfl⟩
  rw [hv] at hmx
  obtain ⟨fs, hfs'⟩ : ∃ fs, fall (pcs C p) = fs := ⟨_, rfl⟩
  have hlp := Lib.hid (mem_allN.1 hp.mem)
  have hfl : Hid (fs.length = k) := by show _ = _; rw [← hfs', fall_length, pcs_length]; exact hlp.out.len
  have hf0 : Hid (at0 fs 0 = v) := by show _ = _; rw [← hmx, ← hfs']; rfl
  have hzl : Hid ((nz p).length = k) := by show _ = _; rw [nz_length]; exact hlp.out.len
  have hpB : Hid (pairB k (nz p) = true) := pr_pairB hlp.out
  have hpH := Lib.hid hp
  have hqH := Lib.hid hq
  have hvH := Lib.hid hv
  have hfs := Lib.hid hfs'
  clear hp hq hmx hv hfs' hC hg hmade
  go_upto_region 6 with (first
    | (go_at_call 46; go_loud (with_reducible refine (smooth_at a1 d1 k C p _ hMH.out hgH.out hCH.out hpH.out).mono ?_); rintro e w2 ⟨g2, o2, c2, rfl, hc2, hI2, hb2⟩; have hM2 := Lib.hid (hMH.out.below hb2); have hI2H := Lib.hid hI2; have hb2H := Lib.hid hb2; clear hb2 hI2)
    | (go_at_call 30; go_loud (with_reducible refine (worst_at a1 d1 k C _ hM2.out hgH.out hCH.out hqH.out hvH.out).mono ?_); rintro e w3 ⟨g3, o3, c3, rfl, hc3, hI3, hb3⟩; have hM3 := Lib.hid (hM2.out.below hb3); have hI3H := Lib.hid (hI2H.out.below hb3); have hb3H := Lib.hid hb3; clear hb3 hI3)
    | (go_at_call 31; go_loud (with_reducible refine (pairingR_any (some ⟨g2, o2, none⟩) c2 k k (nz p) true _ hI3H.out hzl.out hc2 (by omega) (by omega) hpB.out).mono ?_); rintro e w4 ⟨rfl, hb4⟩; have hb4H := Lib.hid hb4; have hM4 := Lib.hid (hM3.out.below hb4); have hI4 := Lib.hid (hI3H.out.below hb4); clear hb4)
    | (go_at_call 32; go_loud (with_reducible refine (falling_any a1 (some ⟨g2, o2, none⟩) d1 c2 k C p fs _ hM4.out hI4.out hgH.out hCH.out hlp.out hfs.out).mono ?_); rintro e w5 hR; go_loud (obtain ⟨a9, d9, rfl, hI9, hd9, hb5⟩ := hR); go_loud (rw [hfl.out]); have hb5H := Lib.hid hb5; go_loud (obtain ⟨g9, o9, rfl, e9⟩ := hI9.at (i := 0) (by rw [hfl.out]; exact hk1)); rw [hf0.out, Nat.add_zero] at e9; go_loud (clear hI9 hb5))
    | (go_at_call 21; go_loud (with_reducible refine (lives_any _).mono ?_); rintro e W0 ⟨rfl, hb6⟩; have hbW := Lib.hid (bseqJ hb1H.out (bseqJ hb2H.out (bseqJ hb3H.out (bseqJ hb4H.out (bseqJ hb5H.out hb6))))); clear hb6))
  clear e9 hk1 hk8 hd1 hCH hgH hMH hb1H hlp hfl hf0 hzl hpB hpH hqH hvH hfs hb2H hb3H hb4H hb5H hM2 hI2H hM3 hI3H hM4 hI4 hc2 hc3 hd9
  obtain ⟨k0, hk0⟩ : ∃ k0, n0 % 3 = k0 := ⟨_, rfl⟩
  have hk03 : k0 < 3 := by omega
  have t1 : ((n0 : Int)).tmod 3 = (k0 : Int) := by rw [← hk0]; exact (Int.ofNat_tmod n0 3).symm
  have t2 : ((n0 : Int)) % 3 = (k0 : Int) := by omega
  obtain ⟨n, hnk⟩ : ∃ n, k0 + 1 = n := ⟨_, rfl⟩
  have t3 : (k0 : Int) + 1 = (n : Int) := by omega
  have hn1 : 1 ≤ n := by omega
  have hn3 : n ≤ 3 := by omega
  clear hk0 hnk
  go_upto_region 8 with (fail)
  obtain ⟨W1, hW1⟩ : ∃ W1, W1 = ((W0.alloc (Obj.cells #[.int .i64 1, .int .i64 2, .int .i64 4, .int .i64 8, .int .i64 16, .int .i64 32, .int .i64 64, .int .i64 128, .int .i64 256, .int .i64 512] 3)).alloc (Obj.cells #[] 24)) := ⟨_, rfl⟩
  rw [← hW1]
  have hb10 : Hid (Below W0.heap.size W0 W1) := by show Below _ _ _; rw [hW1]; exact below_al (below_al (Below.refl _ _) _) _
  have hI0 : Hid (IZ W1 (some ⟨W0.heap.size, 0, none⟩) P10) := by
    show IZ _ _ _
    rw [hW1]
    refine IZ.below (w := W0.alloc _) (fun i x hx => ⟨_, 0, rfl, ?_⟩) (below_al (Below.refl _ _) _)
    rw [al_new rfl, Nat.zero_add]
    have : (#[Value.int .i64 1, .int .i64 2, .int .i64 4, .int .i64 8, .int .i64 16, .int .i64 32, .int .i64 64, .int .i64 128, .int .i64 256, .int .i64 512] : Array Value) = (P10.map fun z : Int => Value.int .i64 z).toArray := rfl
    rw [this, List.getElem?_toArray, List.getElem?_map, hx]; rfl
  have hM0 : Hid (MI W1 W0.heap.size (.slice (some ⟨W0.heap.size + 1, 0, none⟩) 0 0) []) := by
    show MI _ _ _ _
    have h1 := MI.lit0 (W0.alloc (.cells #[.int .i64 1, .int .i64 2, .int .i64 4, .int .i64 8, .int .i64 16, .int .i64 32, .int .i64 64, .int .i64 128, .int .i64 256, .int .i64 512] 3)) W0.heap.size (by simp)
    have h2 : (W0.alloc (.cells #[.int .i64 1, .int .i64 2, .int .i64 4, .int .i64 8, .int .i64 16, .int .i64 32, .int .i64 64, .int .i64 128, .int .i64 256, .int .i64 512] 3)).heap.size = W0.heap.size + 1 := by simp
    rw [h2] at h1
    rw [hW1]; exact h1
  clear hW1 t1 t2 t3
  go_wp2_with (fail)
  go_loopg [13, 14, 16, 17] n (fun gk pv dv lv iv wr => ∃ (i l g m cb : Nat) (ps : List Int) (d0 : Value) (R : List (List Int)), pv = .slice (some ⟨g, 0, none⟩) m cb ∧ d0 = dv ∧ lv = .int .i64 (l : Nat) ∧ iv = .int .i64 (i : Nat) ∧ i + gk = n ∧ l ≤ 100000 ∧ ps.length = m ∧ m ≤ cb ∧ R.length = i ∧ IZ wr (some ⟨g, 0, none⟩) ps ∧ MI wr W0.heap.size d0 R ∧ Dr n R [] ps ∧ Below W0.heap.size W0 wr)
  case atStart => exact ⟨0, y0, W0.heap.size, 10, 10, P10, _, [], rfl, rfl, rfl, rfl, by omega, by omega, rfl, by omega, rfl, hI0.out, hM0.out, Dr.nil n, hb10.out⟩
  case round =>
    clear hI0 hM0
    obtain ⟨i, l, g, m, cb, ps, d0, R, rfl, rfl, rfl, rfl, hi, hl, hpl, hcb, hRl, hI, hMR, hDr, hbl⟩ := hrel
    have hplH := Lib.hid hpl
    have hRlH := Lib.hid hRl
    have hIH := Lib.hid hI
    have hMRH := Lib.hid hMR
    have hDrH := Lib.hid hDr
    have hblH := Lib.hid hbl
    clear hpl hRl hI hMR hDr hbl
    by_cases hin : i < n
    · obtain ⟨g1, rfl⟩ : ∃ g1, gk = g1 + 1 := ⟨gk - 1, by omega⟩
      have hiI : (i : Int) < (n : Int) := by omega
      obtain ⟨wq, hwq⟩ : ∃ wq, wq = wr := ⟨_, rfl⟩
      subst hwq
      have hgq : g < wq.heap.size ∨ m = 0 := by
        rcases Nat.eq_zero_or_pos m with h | h
        · exact .inr h
        · obtain ⟨b, o, e, hc⟩ := hIH.out.at (i := 0) (by rw [hplH.out]; exact h)
          injection e with e
          injection e with e1 _
          rw [e1]
          exact .inl (World.block_lt_of_cell? _ _ hc)
      go_wp2_with (fail)
      go_loopg [13, 16, 18, 19] n (fun gj pv lv rv jv wx => ∃ (j l g m cb : Nat) (ps : List Int) (r0 : Value) (row : List Int), pv = .slice (some ⟨g, 0, none⟩) m cb ∧ lv = .int .i64 (l : Nat) ∧ r0 = rv ∧ jv = .int .i64 (j : Nat) ∧ j + gj = n ∧ l ≤ 100000 ∧ ps.length = m ∧ m ≤ cb ∧ row.length = j ∧ IZ wx (some ⟨g, 0, none⟩) ps ∧ ZE wx wq.heap.size r0 row ∧ (∀ b, r0.ownBlock = some b → b ≠ g) ∧ Below wq.heap.size wq wx ∧ Dr n R row ps)
      case atStart => exact ⟨0, l, g, m, cb, ps, _, [], rfl, rfl, rfl, rfl, by omega, hl, hplH.out, hcb, rfl, hIH.out.below (below_al (Below.refl _ _) _), ZE.lit _ _ _, fun b hb => by
        have hb : wq.heap.size = b := by simpa [Value.ownBlock] using hb
        have := hDrH.out.more hRlH.out (row := []) rfl hn3 hin hn1
        rw [hplH.out] at this
        omega, below_al (Below.refl _ _) _, hDrH.out⟩
      case round =>
        clear hIH hplH hDrH hl hgq hcb
        obtain ⟨j, l, g, m, cb, ps, r0, row, rfl, rfl, rfl, rfl, hj, hl, hpl, hcb, hrl, hI, hZr, hne, hbx, hDr⟩ := hrel
        have hplH := Lib.hid hpl
        have hrlH := Lib.hid hrl
        have hIH := Lib.hid hI
        have hZrH := Lib.hid hZr
        have hneH := Lib.hid hne
        have hbxH := Lib.hid hbx
        have hDrH := Lib.hid hDr
        clear hpl hrl hI hZr hne hbx hDr
        by_cases hjn : j < n
        · obtain ⟨g2, rfl⟩ : ∃ g2, gk = g2 + 1 := ⟨gk - 1, by omega⟩
          have hjI : (j : Int) < (n : Int) := by omega
          obtain ⟨hm2, hm10⟩ := hDrH.out.more hRlH.out hrlH.out hn3 hin hjn
          rw [hplH.out] at hm2 hm10
          obtain ⟨t, ht⟩ : ∃ t, l % m = t := ⟨_, rfl⟩
          have htm : t < m := by rw [← ht]; exact Nat.mod_lt _ (by omega)
          have t1 : ((l : Int)).tmod (m : Int) = (t : Int) := by rw [← ht]; exact (Int.ofNat_tmod l m).symm
          have t2 : ((l : Int)) % (m : Int) = (t : Int) := by rw [← ht]; exact (Int.natCast_emod l m).symm
          obtain ⟨u, hu⟩ : ∃ u, l / m = u := ⟨_, rfl⟩
          have hu2 : u ≤ 50000 := by
            rw [← hu]
            exact Nat.le_trans (Nat.div_le_div_left hm2 (by omega)) (by omega)
          have t3 : ((l : Int)).tdiv (m : Int) = (u : Int) := by rw [← hu]; exact (Int.ofNat_tdiv l m).symm
          have t4 : ((l : Int)) / (m : Int) = (u : Int) := by rw [← hu]; exact (Int.natCast_ediv l m).symm
          obtain ⟨l2, hl2⟩ : ∃ l2, u + 7 = l2 := ⟨_, rfl⟩
          have t5 : (u : Int) + 7 = (l2 : Int) := by omega
          have hs1 : ¬ (m : Int) = 0 := by omega
          have hs2 : ((m : Int) == 0) = false := by simp; omega
          have htI : (t : Int) < (m : Int) := by omega
          have ht0 : (0 : Int) ≤ (t : Int) := by omega
          obtain ⟨x, hx⟩ : ∃ x, at0 ps t = x := ⟨_, rfl⟩
          have hget : Hid (ps[t]? = some x) := by show _ = _; rw [← hx]; exact at0_get (by rw [hplH.out]; exact htm)
          obtain ⟨bz, oz, haz, cz⟩ := hIH.out.at (i := t) (by rw [hplH.out]; exact htm)
          injection haz with haz
          injection haz with hq1 hq2
          subst hq1 hq2
          rw [hx, Nat.zero_add] at cz
          have hgx := World.block_lt_of_cell? _ _ cz
          have hgx : g < wr.heap.size := hgx
          have hbs3 : wq.heap.size ≤ wr.heap.size := hbxH.out.size
          obtain ⟨e, he⟩ : ∃ e, t + 1 = e := ⟨_, rfl⟩
          have hem : e ≤ m := by omega
          have het : e = t + 1 := he.symm
          have t6 : (t : Int) + 1 = (e : Int) := by omega
          have hDn := Lib.hid (hDrH.out.draw hget.out)
          rw [he] at hDn
          have hl1 : Hid ((ps.take t).length = t) := by show _ = _; rw [List.length_take, hplH.out]; omega
          have hl3 : Hid ((ps.take t ++ ps.drop e).length = m - 1) := by show _ = _; rw [List.length_append, hl1.out, List.length_drop, hplH.out]; omega
          have hne3 : Hid (ps.take t ++ ps.drop e ≠ []) := by show _ ≠ _; intro h; have := congrArg List.length h; rw [hl3.out] at this; simp at this; omega
          have wt : IntKind.i64.wrap ((t : Int) + 1) = (e : Int) := by rw [IntKind.wrap_i64]; omega
          have wt2 : IntKind.i64.wrap (e : Int) = (e : Int) := by rw [IntKind.wrap_i64]; omega
          have ht1 : (0 : Int) ≤ (e : Int) := by omega
          have ht2 : (e : Int) ≤ (m : Int) := by omega
          have ht3 : (e : Int) ≤ (cb : Int) := by omega
          have htc : (t : Int) ≤ (cb : Int) := by omega
          have hmc : (m : Int) ≤ (cb : Int) := by omega
          have hbs : t < e := by omega
          clear ht hu hx hl2 he het
          by_cases hcap : cb = e
          · have hme : m = e := by omega
            subst hcap
            subst hme
            have hl2 : Hid ((ps.drop m).length = 0) := by show _ = _; rw [List.length_drop, hplH.out]; omega
            go_wp2_with (first
              | (at_builtin; go_loud (refine wpList_append_ze _ rfl (.tmp 94) (.tmp 99) _ rfl Try.underlying24 wq.heap.size j r0 row (by rfl) (hZrH.out.alJ _) hrlH.out _ 1 1 [x] (by rfl) (IZ.one (by simp)) rfl (by omega) (by omega) (by simp; omega) ?_); intro v2 wd hA4; have hI4 := Lib.hid ((hIH.out.alJ _).appne hA4 hneH.out); have hZrd := Lib.hid hA4.1; have hbld := Lib.hid (Below.trans (below_al hbxH.out _) hA4.2.1); have hnd := Lib.hid (ownAfter hA4 hneH.out (by simp; omega) (by simp)); clear hA4))
            have hI1 := Lib.hid (hI4.out.take t)
            have hI2 : Hid (IZ wd (some ⟨g, 0, none⟩) (ps.drop m)) := by
              show IZ _ _ _
              rw [List.drop_of_length_le (by rw [hplH.out]; exact Nat.le_refl _)]; exact IZ.nil _ _
            clear hI4 cz
            go_region_held3 (fun w' => Below wd.heap.size wd w')
              (repeat (first | assumption | (with_reducible exact Below.refl _ _) | (with_reducible refine Below.drew ?_) | (with_reducible refine below_al ?_ _)))
              (first
                | ((refine step_append_ze rfl (.tmp 101) (.tmp 104) _ rfl Try.underlying24 wd.heap.size 0 _ [] (by rfl) (ZE.lit _ _ _) rfl (some ⟨g, 0, none⟩) t m (ps.take t) (by rfl) (hI1.out.upto (by assumption) (Nat.le_refl _)) hl1.out (by omega) (by omega) (Below.size (by assumption)) ?_); intro v1 x1 hA1; have hq1 : Below wd.heap.size wd x1 := Below.trans (by assumption) hA1.2.1; rw [List.nil_append] at hA1; obtain ⟨aa1, dd1, hv1⟩ := hA1.1.shape; rw [hl1.out] at hv1; subst hv1; have hZ1 := Lib.hid hA1.1; clear hA1)
                | ((refine step_append_ze rfl (.tmp 105) (.tmp 109) _ rfl Try.underlying24 wd.heap.size t (.slice aa1 t dd1) (ps.take t) (by rfl) (by first | exact hZ1.out | exact hZ1.out.below (by repeat (first | (with_reducible exact Below.refl _ _) | (with_reducible refine Below.drew ?_) | (with_reducible refine below_al ?_ _)))) hl1.out (some ⟨g, 0, none⟩) 0 0 (ps.drop m) (by rfl) (hI2.out.upto (by assumption) (Nat.le_refl _)) hl2.out (by omega) (by omega) (Below.size (by assumption)) ?_); intro v3 x3 hA3; have hq3 : Below wd.heap.size wd x3 := Below.trans (by assumption) hA3.2.1; have hA3H := Lib.hid hA3; clear hA3))
            all_goals (
              obtain ⟨g3, c3, hv3⟩ := hA3H.out.1.some hne3.out
              rw [hl3.out] at hv3
              subst hv3
              have hZ3 := Lib.hid (hA3H.out.1.zi hne3.out)
              go_wp2_with (fail)
              go_roundg g2
              case measure => omega
              case rel => exact ⟨j + 1, l2, g3, m - 1, c3, ps.take t ++ ps.drop m, v2, row ++ [x], rfl, rfl, rfl, by go_num, by omega, by omega, hl3.out, hZ3.out.iz.2, by rw [List.length_append, hrlH.out]; rfl, hZ3.out.iz.1, hZrd.out.below hq3, (fun b hb => by have h1 := hnd.out b hb; have h2 := hZ3.out.lt g3 rfl; omega), hbld.out.trans (hq3.mono hbld.out.size), hDn.out⟩)

          · have hl2 : Hid ((ps.drop e).length = m - e) := by show _ = _; rw [List.length_drop, hplH.out]
            go_wp2_with (first
              | (at_builtin; go_loud (refine wpList_append_ze _ rfl (.tmp 94) (.tmp 99) _ rfl Try.underlying24 wq.heap.size j r0 row (by rfl) (hZrH.out.alJ _) hrlH.out _ 1 1 [x] (by rfl) (IZ.one (by simp)) rfl (by omega) (by omega) (by simp; omega) ?_); intro v2 wd hA4; have hI4 := Lib.hid ((hIH.out.alJ _).appne hA4 hneH.out); have hZrd := Lib.hid hA4.1; have hbld := Lib.hid (Below.trans (below_al hbxH.out _) hA4.2.1); have hnd := Lib.hid (ownAfter hA4 hneH.out (by simp; omega) (by simp)); clear hA4))
            have hI1 := Lib.hid (hI4.out.take t)
            have hI2 : Hid (IZ wd (some ⟨g, e, none⟩) (ps.drop e)) := by
              show IZ _ _ _
              have := hI4.out.drop e; rwa [Nat.zero_add] at this
            clear hI4 cz
            go_region_held3 (fun w' => Below wd.heap.size wd w')
              (repeat (first | assumption | (with_reducible exact Below.refl _ _) | (with_reducible refine Below.drew ?_) | (with_reducible refine below_al ?_ _)))
              (first
                | ((refine step_append_ze rfl (.tmp 101) (.tmp 104) _ rfl Try.underlying24 wd.heap.size 0 _ [] (by rfl) (ZE.lit _ _ _) rfl (some ⟨g, 0, none⟩) t cb (ps.take t) (by rfl) (hI1.out.upto (by assumption) (Nat.le_refl _)) hl1.out (by omega) (by omega) (Below.size (by assumption)) ?_); intro v1 x1 hA1; have hq1 : Below wd.heap.size wd x1 := Below.trans (by assumption) hA1.2.1; rw [List.nil_append] at hA1; obtain ⟨aa1, dd1, hv1⟩ := hA1.1.shape; rw [hl1.out] at hv1; subst hv1; have hZ1 := Lib.hid hA1.1; clear hA1)
                | ((refine step_append_ze rfl (.tmp 105) (.tmp 109) _ rfl Try.underlying24 wd.heap.size t (.slice aa1 t dd1) (ps.take t) (by rfl) (by first | exact hZ1.out | exact hZ1.out.below (by repeat (first | (with_reducible exact Below.refl _ _) | (with_reducible refine Below.drew ?_) | (with_reducible refine below_al ?_ _)))) hl1.out (some ⟨g, e, none⟩) (m - e) (cb - e) (ps.drop e) (by rfl) (hI2.out.upto (by assumption) (Nat.le_refl _)) hl2.out (by omega) (by omega) (Below.size (by assumption)) ?_); intro v3 x3 hA3; have hq3 : Below wd.heap.size wd x3 := Below.trans (by assumption) hA3.2.1; have hA3H := Lib.hid hA3; clear hA3))
            all_goals (
              obtain ⟨g3, c3, hv3⟩ := hA3H.out.1.some hne3.out
              rw [hl3.out] at hv3
              subst hv3
              have hZ3 := Lib.hid (hA3H.out.1.zi hne3.out)
              go_wp2_with (fail)
              go_roundg g2
              case measure => omega
              case rel => exact ⟨j + 1, l2, g3, m - 1, c3, ps.take t ++ ps.drop e, v2, row ++ [x], rfl, rfl, rfl, by go_num, by omega, by omega, hl3.out, hZ3.out.iz.2, by rw [List.length_append, hrlH.out]; rfl, hZ3.out.iz.1, hZrd.out.below hq3, (fun b hb => by have h1 := hnd.out b hb; have h2 := hZ3.out.lt g3 rfl; omega), hbld.out.trans (hq3.mono hbld.out.size), hDn.out⟩)

        · have hje : n = j := by omega
          subst hje
          obtain ⟨ar, cr, hvr⟩ := hZrH.out.shape
          rw [hrlH.out] at hvr
          subst hvr
          have hZiz := Lib.hid hZrH.out.iz
          obtain ⟨ad, cd, hvd⟩ := hMRH.out.shape
          rw [hRlH.out] at hvd
          subst hvd
          have hMx := Lib.hid (hMRH.out.below hbxH.out)
          have hnx := Lib.hid (hDrH.out.row hrlH.out)
          have hszW : W0.heap.size ≤ wr.heap.size := Nat.le_trans hblH.out.size hbxH.out.size
          have hszx := hblH.out.size
          have hszy := hbxH.out.size
          go_wp2_with (first
            | (at_builtin; go_loud (refine wpList_append_row_at _ rfl (.tmp 111) (.tmp 113) _ rfl Try.underlying22 W0.heap.size i (.slice ad i cd) R row (by rfl) (hMx.out.below (below_al (Below.refl _ _) _)) hRlH.out wr.heap.size (by rfl) ar n cr (by omega) (by simp; omega) (by simp) hrlH.out hZiz.out.2 (hZiz.out.1.below (below_al (Below.refl _ _) _)) ?_); intro v4 w4 hM4 hg4 ho4; have hM4H := Lib.hid hM4; have hI4 := Lib.hid ((hIH.out.alJ _).grown hg4 (hMx.out.below (below_al (Below.refl _ _) _)).noX); have hb4 := Lib.hid ((below_al (bseqJ hblH.out hbxH.out) _).grown hg4 (by simp; omega) (fun b hb => (hMRH.out.lt b hb).1)); clear hM4 hg4 ho4))
          go_roundg g1
          case measure => omega
          case rel => exact ⟨i + 1, l, g, m, cb, ps, v4, R ++ [row], rfl, rfl, rfl, by go_num, by omega, hl, hplH.out, hcb, by rw [List.length_append, hRlH.out]; rfl, hI4.out, hM4H.out, hnx.out, hb4.out⟩
    · have hie : n = i := by omega
      subst hie
      obtain ⟨ad, cd, hvd⟩ := hMRH.out.shape
      rw [hRlH.out] at hvd
      subst hvd
      have hMx := Lib.hid hMRH.out.imx.1
      have hgd := Lib.hid (hDrH.out.good hRlH.out hn1 hn3)
      obtain ⟨p, hp⟩ := smooth_ex R n
      have hpc := Lib.hid ((hDrH.out.powC hRlH.out).same hp)
      have hpH := Lib.hid hp
      have hlp := Lib.hid (mem_allN.1 hp.mem).len
      obtain ⟨v, hv⟩ : ∃ v, sumC R p = v := ⟨_, rfl⟩
      have hvH := Lib.hid hv
      have hbf := Lib.hid (bseqJ hbW.out hblH.out)
      clear hp hv hplH hIH hMRH hDrH hb10 hblH hbW
      go_wp2_with (first
        | (go_at_call 46; go_loud (with_reducible refine (smooth_at ad cd n R p _ hMx.out hgd.out hRlH.out hpH.out).mono ?_); rintro e w5 ⟨g2, o2, c2, rfl, hc2, hI2, hb2⟩; have hM2 := Lib.hid (hMx.out.below hb2); have hI2H := Lib.hid hI2; have hb2H := Lib.hid hb2; clear hb2 hI2)
        | (go_at_call 19; go_loud (with_reducible refine (cheap_at ad cd n R _ hM2.out hgd.out hRlH.out hpc.out hvH.out).mono ?_); rintro e w6 ⟨g3, o3, c3, rfl, hc3, hI3, hb3⟩; have hI3H := Lib.hid hI3; have hb3H := Lib.hid hb3; clear hb3 hI3)
        | (go_at_call 23; go_loud (with_reducible refine (same_nz (some ⟨g2, o2, none⟩) (some ⟨g3, o3, none⟩) c2 c3 n p _ (hI2H.out.below hb3H.out) hI3H.out hlp.out (by omega)).mono ?_); rintro e w7 ⟨rfl, hb7⟩; have hb7H := Lib.hid hb7; clear hb7))
      go_ret
      exact ⟨rfl, bseqJ hbf.out (bseqJ hb2H.out (bseqJ hb3H.out hb7H.out))⟩
end Go.Proofs.Yteiipfajoikfpaa
