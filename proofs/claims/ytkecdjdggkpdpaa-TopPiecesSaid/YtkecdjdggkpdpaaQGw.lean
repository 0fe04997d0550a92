/- Gw -/
import Derived.Test.YtkecdjdggkpdpaaQPi
set_option linter.unusedVariables false
/- Walk of prices. (Printed by gen_gw.py.) -/
namespace Go.Proofs.Ytkecdjdggkpdpaa
open Go Go.RowKit Go.Proofs

theorem bblk_at {w : World} {g g' : Nat} {B : List Bool} (h : BBlk w g B) (e : g' = g) : BBlk w g' B := by subst e; exact h
theorem bblk_later {w w' : World} {g : Nat} {B : List Bool} (h : BBlk w g B) (hb : Below w.heap.size w w') : BBlk w' g B := Blk.later h hb
theorem cell_dr {w : World} {p : Addr} {x : Option Value} (h : w.cell? p = x) : w.drew.cell? p = x := h
theorem cell_lit {w : World} {g : Nat} {v : Value} {t : TypeId} (e : g = w.heap.size) : (w.alloc (Obj.cells #[v] t)).cell? ⟨g, 0, none⟩ = some v := by rw [al_new e]; rfl
set_option maxRecDepth 100000 in
set_option maxHeartbeats 12800000 in
theorem prices_any (ao : Option Addr) (c n : Nat) (C : List (List Int)) (w : World) (h : IMx w ao C) (hg : goodC C) (hn : C.length = n) :
    Calls Try.prog 15 #[.slice ao n c] w (PricesS C n w) := by
  have hn8 : n ≤ 8 := by rw [← hn]; exact hg.2.1
  have hn1 : 1 ≤ n := by rw [← hn]; exact hg.1
  have hH := Lib.hid h
  have hgH := Lib.hid hg
  have hnH := Lib.hid hn
  have hnI : (0 : Int) ≤ (n : Int) := by omega
  have hnI2 : (n : Int) ≤ 8 := by omega
  clear h hg hn
  obtain ⟨mk, hmkA⟩ := make_fun n (by omega)
  have hmk := fun W => (hmkA W).1
  have hmkH := Lib.hid (fun W => (hmkA W).2)
  clear hmkA
  obtain ⟨mkb, hmkbA⟩ := make_funb n (by omega)
  have hmkb := fun W => (hmkbA W).1
  have hmkbH := Lib.hid (fun W => (hmkbA W).2)
  clear hmkbA
  go_enter Try.func15, Try.ntmps15
  go_upto_region 2 with (fail)
  go_cut [2, 3] from 20 to 23 (fun s2 s3 wx => ∃ gR gK, s2 = .slice (some ⟨gR, 0, none⟩) n n ∧ s3 = .slice (some ⟨gK, 0, none⟩) n n ∧ gR ≠ gK ∧ ZBlk wx gR (List.replicate n 0) ∧ ZBlk wx gK (List.replicate n 0) ∧ Below w.heap.size w wx ∧ w.heap.size ≤ gR ∧ w.heap.size ≤ gK)
  case first =>
    go_region
    all_goals (
      have h1 := hmkH.out w.drew
      have h2 := hmkH.out (mk w.drew)
      have hlt : w.heap.size < (mk w.drew).heap.size := World.block_lt_of_cell? _ _ (h1.1.at (i := 0) (by simp; omega))
      have h3 : ZBlk (mk (mk w.drew)) w.heap.size (List.replicate n 0) := (h2.2.block _ hlt).trans h1.1
      have h4 : Below w.heap.size w (mk (mk w.drew)) := bseqJ (Below.trans (Below.drew (Below.refl w.heap.size w)) h1.2) h2.2
      go_wp2_with (fail)
      go_meet
      first
        | exact ⟨_, _, rfl, rfl, by omega, h2.1, h3, h4, by omega, Nat.le_refl _⟩
        | exact ⟨_, _, rfl, rfl, by omega, h3, h2.1, h4, Nat.le_refl _, by omega⟩)
  case rest =>
  obtain ⟨gR, gK, rfl, rfl, hne, hZR, hZK, hbl, hlR, hlK⟩ := hcut
  have hZRH := Lib.hid hZR
  have hZKH := Lib.hid hZK
  have hblH := Lib.hid hbl
  have hRs := World.block_lt_of_cell? _ _ (hZR.at (i := 0) (by simp; omega))
  have hKs := World.block_lt_of_cell? _ _ (hZK.at (i := 0) (by simp; omega))
  clear hZR hZK hbl
  go_wp2_with (first
    | (go_at_call 25; go_loud (refine (repeat_any (-1) n _ _ (by omega) hn1 (by simp)).mono ?_); rintro e w3 ⟨gO, rfl, hZO, hb3, hgO, hgO2⟩; have hZOH := Lib.hid hZO; have hb3H := Lib.hid hb3; clear hZO hb3))
  have hPS : Hid (PS w w3 gR gK gO (List.replicate n 0) (List.replicate n 0) (List.replicate n (-1))) := by
    have hcomb := bseqJ ((Below.refl _ _).alloc (Nat.le_refl _) _) hb3H.out
    simp at hgO
    exact ⟨bseqJ hblH.out hcomb, (hcomb.block gR hRs).trans hZRH.out, (hcomb.block gK hKs).trans hZKH.out, hZOH.out, hne, by have h1 : gR < _ := hRs; omega, by have h1 : gK < _ := hKs; omega, hlR, hlK, by have := hblH.out.size; omega⟩
  clear hZRH hZKH hblH hRs hKs hZOH hb3H hmkH hmk hne hlR hlK hgO hgO2
  go_loopg [28] n (fun gk iv wr => ∃ (b : Nat) (R K O : List Int), iv = .int .i64 (b : Nat) ∧ b + gk = n ∧ Hun C n b b R K O ∧ (∀ i, i < n → at0 R i ≤ 1000) ∧ PS w wr gR gK gO R K O)
  case atStart => exact ⟨0, _, _, _, rfl, by omega, Hun.start C n (hgH.out.lo hnH.out), fun i hi => by rw [at0_replicate n 0 i hi]; omega, hPS.out⟩
  case round =>
    clear hPS
    obtain ⟨b, R, K, O, rfl, hb, hHun, hR1, hP⟩ := hrel
    have hHunH := Lib.hid hHun
    have hR1H := Lib.hid hR1
    have hPH := Lib.hid hP
    clear hHun hR1 hP
    by_cases hbn : b < n
    · obtain ⟨g1, rfl⟩ : ∃ g1, gk = g1 + 1 := ⟨gk - 1, by omega⟩
      have hbI : (b : Int) < (n : Int) := by omega
      go_upto_region 7 with (fail)
      go_cut [7, 8, 9] from 31 to 38 (fun s7 s8 s9 wx => ∃ gD gF gB, s7 = .slice (some ⟨gD, 0, none⟩) n n ∧ s8 = .slice (some ⟨gF, 0, none⟩) n n ∧ s9 = .slice (some ⟨gB, 0, none⟩) n n ∧ PB w wx gR gK gO gD gF gB R K O (List.replicate n 1099511627776) (List.replicate n (-1)) (List.replicate n false))
      case first =>
        go_region_with (first
          | (go_at_call 25; go_loud (first
            | (refine (repeat_any (1099511627776) n _ _ (by omega) hn1 ?_).mono ?_; (focus ((repeat (first | (with_reducible refine cell_dr ?_) | (refine cell_lit ?_; (first | rfl | (simp; done))) | (refine Below.cellAt (below_al (Below.refl _ _) _) (Nat.le_refl _) ?_) | (refine Below.cellAt hbA.out (Nat.le_refl _) ?_) | (refine Below.cellAt hbB.out (Nat.le_refl _) ?_) | (refine Below.cellAt (hmkbH.out _).2 (Nat.le_refl _) ?_))); done)); rintro e w5 ⟨gD, rfl, hZ, hb, hg, hg2⟩; have hbA := Lib.hid hb; have hZA := Lib.hid hZ; have hq : wr.heap.size ≤ gD := Nat.le_trans (Below.size (show Below wr.heap.size wr _ from by (repeat (with_reducible first | exact Below.refl _ _ | refine Below.drew ?_ | refine below_al ?_ _ | refine bseqJ ?_ hbA.out | refine bseqJ ?_ hbB.out | refine bseqJ ?_ (hmkbH.out _).2)))) hg; have hsA : wr.heap.size ≤ w5.heap.size := Nat.le_of_lt (Nat.lt_of_le_of_lt hq hg2); have hgA := Lib.hid hq; clear hZ hb hg hg2 hq)
            | (refine (repeat_any (-1) n _ _ (by omega) hn1 ?_).mono ?_; (focus ((repeat (first | (with_reducible refine cell_dr ?_) | (refine cell_lit ?_; (first | rfl | (simp; done))) | (refine Below.cellAt (below_al (Below.refl _ _) _) (Nat.le_refl _) ?_) | (refine Below.cellAt hbA.out (Nat.le_refl _) ?_) | (refine Below.cellAt hbB.out (Nat.le_refl _) ?_) | (refine Below.cellAt (hmkbH.out _).2 (Nat.le_refl _) ?_))); done)); rintro e w6 ⟨gF, rfl, hZ, hb, hg, hg2⟩; have hbB := Lib.hid hb; have hZB := Lib.hid hZ; have hq : wr.heap.size ≤ gF := Nat.le_trans (Below.size (show Below wr.heap.size wr _ from by (repeat (with_reducible first | exact Below.refl _ _ | refine Below.drew ?_ | refine below_al ?_ _ | refine bseqJ ?_ hbA.out | refine bseqJ ?_ hbB.out | refine bseqJ ?_ (hmkbH.out _).2)))) hg; have hsB : wr.heap.size ≤ w6.heap.size := Nat.le_of_lt (Nat.lt_of_le_of_lt hq hg2); have hgB := Lib.hid hq; clear hZ hb hg hg2 hq))))
        all_goals (
          go_wp2_with (fail)
          go_meet
          refine ⟨_, _, _, rfl, rfl, rfl, hPH.out.pb ?c1 hn1 ?c2 ?c3 ?c4 ?c5 ?c6 ?c7⟩
          case c1 => (repeat (with_reducible first | exact Below.refl _ _ | refine Below.drew ?_ | refine below_al ?_ _ | refine bseqJ ?_ hbA.out | refine bseqJ ?_ hbB.out | refine bseqJ ?_ (hmkbH.out _).2))
          case c2 => refine Blk.later hZA.out ?_; (repeat (with_reducible first | exact Below.refl _ _ | refine Below.drew ?_ | refine below_al ?_ _ | refine bseqJ ?_ hbA.out | refine bseqJ ?_ hbB.out | refine bseqJ ?_ (hmkbH.out _).2))
          case c3 => refine Blk.later hZB.out ?_; (repeat (with_reducible first | exact Below.refl _ _ | refine Below.drew ?_ | refine below_al ?_ _ | refine bseqJ ?_ hbA.out | refine bseqJ ?_ hbB.out | refine bseqJ ?_ (hmkbH.out _).2))
          case c4 =>
            repeat (first
              | (refine bblk_at (hmkbH.out _).1 ?_; first | rfl | (simp; done))
              | (with_reducible refine bblk_later ?_ hbA.out)
              | (with_reducible refine bblk_later ?_ hbB.out)
              | (with_reducible refine bblk_later ?_ (below_al (Below.refl _ _) _))
              | (with_reducible refine bblk_later ?_ (Below.drew (Below.refl _ _))))
          case c5 => exact hgA.out
          case c6 => exact hgB.out
          case c7 => first | omega | (simp; omega))
      case rest =>
      obtain ⟨gD, gF, gB, rfl, rfl, rfl, hPB⟩ := hcut
      have hPBH := Lib.hid hPB
      have hSta := Lib.hid (Sta.start hHunH.out hbn)
      clear hPB hPH hHunH hR1H hmkb hmkbH
      go_wp2_with (fail)
      go_loopg [10, 11] n (fun gk rv av wx => ∃ (R K D F : List Int) (B : List Bool) (full src : List Int) (x : Int) (r : Nat), full = src ++ [x] ∧ rv = .int .i64 (r : Nat) ∧ av = .int .i64 x ∧ ro O b x = r ∧ r < n ∧ B.count false = gk ∧ (-1 : Int) ∈ full ∧ Sta C n b R K O B D F src full ∧ PB w wx gR gK gO gD gF gB R K O D F B)
      case atStart => exact ⟨R, K, _, _, _, [-1], [], -1, b, rfl, rfl, rfl, rfl, hbn, by simp, by simp, hSta.out, hPBH.out⟩
      case round =>
        clear hPBH hSta
        obtain ⟨R, K, D, F, B, full, src, x, r, hful, rfl, rfl, hro, hrn, hcnt, hm1, hS, hPB⟩ := hrel
        subst hful
        obtain ⟨g3, hg3⟩ : ∃ g3, g3 = gk := ⟨_, rfl⟩
        subst hg3
        have hroH := Lib.hid hro
        have hcntH := Lib.hid hcnt
        have hm1H := Lib.hid hm1
        have hSH := Lib.hid hS
        have hPBH := Lib.hid hPB
        have hsm := Lib.hid (hS.h.small hbn (hgH.out.hi hnH.out) (hgH.out.lo hnH.out))
        have hlen := Lib.hid (And.intro hS.h.lR (And.intro hS.h.lK (And.intro hS.h.lO hS.ld)))
        have hfar : Hid (∀ i j, i < n → j < n → slk C R K i j < 1099511627776) := fun i j hi hj => by
          have h1 := hgH.out.hi hnH.out i j hi hj
          have h2 := hS.h.r0 i hi
          have h3 := hsm.out.2 j hj
          unfold slk; omega
        clear hro hcnt hm1 hS hPB
        go_wp2_with (fail)
        go_loopg [12, 13, 41] n (fun gj sv nv jv wy => ∃ (j : Nat) (D' F' : List Int) (st nx : Int), sv = .int .i64 st ∧ nv = .int .i64 nx ∧ jv = .int .i64 (j : Nat) ∧ j + gj = n ∧ ScanI C n b R K O B D F x j D' F' st nx ∧ PB w wy gR gK gO gD gF gB R K O D' F' B)
        case atStart => exact ⟨0, D, F, _, _, rfl, rfl, rfl, by omega, ScanI.start hSH.out.lD hSH.out.lF, hPBH.out⟩
        case round =>
          clear hPBH
          obtain ⟨j, D', F', st, nx, rfl, rfl, rfl, hj, hI, hPB⟩ := hrel
          have hIH := Lib.hid hI
          have hPBH := Lib.hid hPB
          clear hI hPB
          by_cases hjn : j < n
          · obtain ⟨g2, rfl⟩ : ∃ g2, gk = g2 + 1 := ⟨gk - 1, by omega⟩
            have hjI : (j : Int) < (n : Int) := by omega
            have hj0 : (0 : Int) ≤ (j : Int) := by omega
            rcases bool_or (s := B) (j := j) (by rw [hlen.out.2.2.2]; exact hjn) with hd | hd
            · have cB := hPBH.out.zB.at hd
              have hdH := Lib.hid hd
              clear hd
              go_wp2_with (fail)
              go_roundg g2
              case measure => omega
              case rel => exact ⟨j + 1, D', F', st, nx, rfl, rfl, by go_num, by omega, hIH.out.skip hdH.out, hPBH.out⟩
            · have cB := hPBH.out.zB.at hd
              have hdH := Lib.hid hd
              clear hd
              have hrI : (r : Int) < (n : Int) := by omega
              have hr0 : (0 : Int) ≤ (r : Int) := by omega
              obtain ⟨b5, o5, b6, o6, c6, hao, f1, hc6, f2, q0, q1⟩ := (hH.out.below hPBH.out.ps.below).cost hgH.out hnH.out hrn hjn
              have haoH := Lib.hid hao
              have cR := hPBH.out.ps.zR.at (i := r) (by rw [hlen.out.1]; exact hrn)
              have cK := hPBH.out.ps.zK.at (i := j) (by rw [hlen.out.2.1]; exact hjn)
              have u1 := hSH.out.h.r0 r hrn
              have u2 := hsm.out.1 r hrn
              have u3 := hSH.out.h.k0 j hjn
              have u4 := hsm.out.2 j hjn
              have hfj := Lib.hid (hfar.out r j hrn hjn)
              obtain ⟨p, hp⟩ : ∃ p, cst C r j = p := ⟨_, rfl⟩
              obtain ⟨rr, hrr⟩ : ∃ rr, at0 R r = rr := ⟨_, rfl⟩
              obtain ⟨kk, hkk⟩ : ∃ kk, at0 K j = kk := ⟨_, rfl⟩
              obtain ⟨dj, hdj⟩ : ∃ dj, at0 D' j = dj := ⟨_, rfl⟩
              have hslk : Hid (slk C R K (ro O b x) j = p - rr - kk) := by show _ = _; rw [hroH.out]; unfold slk; rw [hp, hrr, hkk]
              have hfj : Hid (slk C R K (ro O b x) j < 1099511627776) := by show _ < _; rw [hroH.out]; exact hfar.out r j hrn hjn
              rw [hp] at f2 q0 q1
              rw [hrr] at cR u1 u2
              rw [hkk] at cK u3 u4
              have hdjH := Lib.hid hdj
              subst hao
              clear hp hrr hkk hdj
              have w1 : IntKind.i64.wrap (p - rr) = p - rr := by rw [IntKind.wrap_i64]; omega
              have w2 : IntKind.i64.wrap (p - rr - kk) = p - rr - kk := by rw [IntKind.wrap_i64]; omega
              go_upto_region 14 with (fail)
              go_quiet (fail)
              obtain ⟨W, hW⟩ : ∃ W, W = wr.drewN nq := ⟨_, rfl⟩
              rw [← hW]
              have hPW : PB w W gR gK gO gD gF gB R K O D' F' B := by rw [hW]; exact hPBH.out.dn nq
              clear hW f1 f2 cR cK cB
              have cD := hPW.zD.at (i := j) (by rw [hIH.out.lD]; exact hjn)
              have cF := hPW.zF.at (i := j) (by rw [hIH.out.lF]; exact hjn)
              have zD := Blk.frozen hPW.zD j
              have zF := Blk.frozen hPW.zF j
              have ne1 := hPW.df
              have ne2 := Ne.symm hPW.df
              have hPWH := Lib.hid hPW
              rw [hdjH.out] at cD
              clear hPW
              obtain ⟨d, hd⟩ : ∃ d, p - rr - kk = d := ⟨_, rfl⟩
              have hd1 : d ≤ 2000 := by omega
              have hd2 : -1000 ≤ d := by omega
              rw [hd]
              have hslk : Hid (slk C R K (ro O b x) j = d) := by show _ = _; rw [hslk.out]; exact hd
              clear hd w1 w2 u1 u2 u3 u4 q0 q1
              by_cases hlt : d < dj
              · have hltB : decide (d < dj) = true := by simpa using hlt
                obtain ⟨V, hV⟩ : ∃ V, V = ((W.setCell ⟨gD, j, none⟩ (.int .i64 d)).setCell ⟨gF, j, none⟩ (.int .i64 x)) := ⟨_, rfl⟩
                have hPV : PB w V gR gK gO gD gF gB R K O (D'.set j d) (F'.set j x) B := by rw [hV]; exact (hPWH.out.setD j _).setF j x
                have cV := hPV.zD.at (i := j) (by rw [List.length_set, hIH.out.lD]; exact hjn)
                rw [at0_set _ _ _ _ (by rw [hIH.out.lD]; exact hjn), if_pos rfl] at cV
                have hPVH := Lib.hid hPV
                have hl2 := Lib.hid (show d < at0 D' j by rw [hdjH.out]; exact hlt)
                clear hPV
                go_upto_region 17 with (fail)
                rw [← hV]
                clear hV cD cF zD zF ne1 ne2
                by_cases h2 : d < st
                · have h2B : decide (d < st) = true := by simpa using h2
                  go_wp2_with (fail)
                  go_roundg g2
                  case measure => omega
                  case rel => exact ⟨j + 1, _, _, d, _, rfl, rfl, by go_num, by omega, hIH.out.less hdH.out hjn hfj.out hslk.out hl2.out (.inl ⟨h2, rfl, rfl⟩), hPVH.out⟩
                · have h2B : decide (d < st) = false := by simpa using h2
                  go_wp2_with (fail)
                  go_roundg g2
                  case measure => omega
                  case rel => exact ⟨j + 1, _, _, st, nx, rfl, rfl, by go_num, by omega, hIH.out.less hdH.out hjn hfj.out hslk.out hl2.out (.inr ⟨Int.not_lt.2 h2, rfl, rfl⟩), hPVH.out⟩
              · have hltB : decide (d < dj) = false := by simpa using hlt
                clear zD zF ne1 ne2
                by_cases h2 : dj < st
                · have h2B : decide (dj < st) = true := by simpa using h2
                  go_wp2_with (fail)
                  go_roundg g2
                  case measure => omega
                  case rel => exact ⟨j + 1, _, _, dj, _, rfl, rfl, by go_num, by omega, hIH.out.more hdH.out hjn hfj.out hslk.out hdjH.out (Int.not_lt.2 hlt) (.inl ⟨h2, rfl, rfl⟩), hPWH.out⟩
                · have h2B : decide (dj < st) = false := by simpa using h2
                  go_wp2_with (fail)
                  go_roundg g2
                  case measure => omega
                  case rel => exact ⟨j + 1, _, _, st, nx, rfl, rfl, by go_num, by omega, hIH.out.more hdH.out hjn hfj.out hslk.out hdjH.out (Int.not_lt.2 hlt) (.inr ⟨Int.not_lt.2 h2, rfl, rfl⟩), hPWH.out⟩
          · have hje : n = j := by omega
            subst hje
            have hnI0 : ¬ (n : Int) < (n : Int) := by omega
            obtain ⟨hS2, nxn, hnx, hnxn, hnxd, hnxs, hmin⟩ := hIH.out.end hSH.out hfar.out
            subst hnx
            have hne : src ++ [x] ≠ [] := by simp
            obtain ⟨s1, s2⟩ := hS2.bound hne (hgH.out.hi hnH.out) hsm.out.2 hnxd
            rw [hnxs] at s1 s2
            have hbd := Lib.hid (fun (j : Nat) (hj : B[j]? = some false) => hS2.bound hne (hgH.out.hi hnH.out) hsm.out.2 hj)
            have hS2H := Lib.hid hS2
            have hnxdH := Lib.hid hnxd
            have hnxsH := Lib.hid hnxs
            have hminH := Lib.hid hmin
            have cR := hPBH.out.ps.zR.at (i := b) (by rw [hlen.out.1]; exact hbn)
            have zR := Blk.frozen hPBH.out.ps.zR b
            have u1 := hSH.out.h.r0 b hbn
            have u2 := hsm.out.1 b hbn
            have hRI := RaiseI.start (step := st) (done := B) (O := O) hbn hlen.out.1 hlen.out.2.1 hIH.out.lD
            obtain ⟨rb, hrb⟩ : ∃ rb, at0 R b = rb := ⟨_, rfl⟩
            rw [hrb] at cR u1 u2 hRI
            have hRIH := Lib.hid hRI
            have v1 : IntKind.i64.wrap (rb + st) = rb + st := by rw [IntKind.wrap_i64]; omega
            obtain ⟨V, hV⟩ : ∃ V, V = wr.setCell ⟨gR, b, none⟩ (.int .i64 (rb + st)) := ⟨_, rfl⟩
            have hPV : Hid (PB w V gR gK gO gD gF gB (R.set b (rb + st)) K O D' F' B) := by show PB _ _ _ _ _ _ _ _ _ _ _ _ _ _; rw [hV]; exact hPBH.out.setR b _
            have hb0 : (0 : Int) ≤ (b : Int) := by omega
            clear hS2 hnxd hnxs hmin hrb hRI hne hPBH
            go_upto_region 21 with (fail)
            rw [← hV]
            clear hV cR zR u1 u2 v1
            go_wp2_with (fail)
            go_loopg [99] n (fun gj jv wz => ∃ (j : Nat) (R' K' D2 : List Int), jv = .int .i64 (j : Nat) ∧ j + gj = n ∧ RaiseI n b R K O B D' st j R' K' D2 ∧ PB w wz gR gK gO gD gF gB R' K' O D2 F' B)
            case atStart => exact ⟨0, _, _, _, rfl, by omega, hRIH.out, hPV.out⟩
            case round =>
              clear hPV hRIH
              obtain ⟨j, R', K', D2, rfl, hj2, hI2, hPB⟩ := hrel
              have hI2H := Lib.hid hI2
              have hPBH := Lib.hid hPB
              clear hI2 hPB
              by_cases hjn : j < n
              · obtain ⟨g2, rfl⟩ : ∃ g2, gk = g2 + 1 := ⟨gk - 1, by omega⟩
                have hjI : (j : Int) < (n : Int) := by omega
                have hj0 : (0 : Int) ≤ (j : Int) := by omega
                rcases bool_or (s := B) (j := j) (by rw [hlen.out.2.2.2]; exact hjn) with hd | hd
                · have cB := hPBH.out.zB.at hd
                  obtain ⟨k, hk⟩ := hS2H.out.own hd
                  obtain ⟨e1, e2, hkn, hnext⟩ := hI2H.out.on hS2H.out.h hbn hd hjn hk
                  have cO := hPBH.out.ps.zO.at (i := j) (by rw [hlen.out.2.2.1]; exact hjn)
                  rw [hk] at cO
                  have cR := hPBH.out.ps.zR.at (i := k) (by rw [hI2H.out.lR]; exact hkn)
                  have zR := Blk.frozen hPBH.out.ps.zR k
                  rw [e1] at cR
                  have u1 := hSH.out.h.r0 k hkn
                  have u2 := hsm.out.1 k hkn
                  have u3 := hSH.out.h.k0 j hjn
                  have u4 := hsm.out.2 j hjn
                  obtain ⟨rk, hrk⟩ : ∃ rk, at0 R k = rk := ⟨_, rfl⟩
                  obtain ⟨kj, hkj⟩ : ∃ kj, at0 K j = kj := ⟨_, rfl⟩
                  rw [hrk] at cR u1 u2 hnext
                  rw [hkj] at e2 u3 u4 hnext
                  have hnextH := Lib.hid hnext
                  have e2H := Lib.hid e2
                  have hkI : (k : Int) < (n : Int) := by omega
                  have hk0 : (0 : Int) ≤ (k : Int) := by omega
                  have v1 : IntKind.i64.wrap (rk + st) = rk + st := by rw [IntKind.wrap_i64]; omega
                  have v2 : IntKind.i64.wrap (kj - st) = kj - st := by rw [IntKind.wrap_i64]; omega
                  obtain ⟨V, hV⟩ : ∃ V, V = wr.setCell ⟨gR, k, none⟩ (.int .i64 (rk + st)) := ⟨_, rfl⟩
                  have hPV : PB w V gR gK gO gD gF gB (R'.set k (rk + st)) K' O D2 F' B := by rw [hV]; exact hPBH.out.setR k _
                  have hPVH := Lib.hid hPV
                  clear hk hrk hkj e1 e2 hnext hd hPV
                  go_upto_region 26 with (fail)
                  rw [← hV]
                  clear hV cR zR cO cB
                  have cK := hPVH.out.ps.zK.at (i := j) (by rw [hI2H.out.lK]; exact hjn)
                  have zK := Blk.frozen hPVH.out.ps.zK j
                  rw [e2H.out] at cK
                  obtain ⟨V2, hV2⟩ : ∃ V2, V2 = V.setCell ⟨gK, j, none⟩ (.int .i64 (kj - st)) := ⟨_, rfl⟩
                  have hPV2 : Hid (PB w V2 gR gK gO gD gF gB (R'.set k (rk + st)) (K'.set j (kj - st)) O D2 F' B) := by show PB _ _ _ _ _ _ _ _ _ _ _ _ _ _; rw [hV2]; exact hPVH.out.setK j _
                  go_upto_region 28 with (fail)
                  rw [← hV2]
                  clear hV2 cK zK
                  go_wp2_with (fail)
                  go_roundg g2
                  case measure => omega
                  case rel => exact ⟨j + 1, _, _, _, by go_num, by omega, hnextH.out, hPV2.out⟩
                · have cB := hPBH.out.zB.at hd
                  obtain ⟨e1, hnext⟩ := hI2H.out.off hd hjn
                  have cD := hPBH.out.zD.at (i := j) (by rw [hI2H.out.lD]; exact hjn)
                  have zD := Blk.frozen hPBH.out.zD j
                  rw [e1] at cD
                  obtain ⟨u1, u2⟩ := hbd.out j hd
                  obtain ⟨dj, hdj⟩ : ∃ dj, at0 D' j = dj := ⟨_, rfl⟩
                  rw [hdj] at cD u1 u2 hnext
                  have hnextH := Lib.hid hnext
                  have v1 : IntKind.i64.wrap (dj - st) = dj - st := by rw [IntKind.wrap_i64]; omega
                  obtain ⟨V, hV⟩ : ∃ V, V = wr.setCell ⟨gD, j, none⟩ (.int .i64 (dj - st)) := ⟨_, rfl⟩
                  have hPV : Hid (PB w V gR gK gO gD gF gB R' K' O (D2.set j (dj - st)) F' B) := by show PB _ _ _ _ _ _ _ _ _ _ _ _ _ _; rw [hV]; exact hPBH.out.setD j _
                  clear hdj e1 hnext hd
                  go_upto_region 28 with (fail)
                  rw [← hV]
                  clear hV cB cD zD
                  go_wp2_with (fail)
                  go_roundg g2
                  case measure => omega
                  case rel => exact ⟨j + 1, _, _, _, by go_num, by omega, hnextH.out, hPV.out⟩
              · have hje : n = j := by omega
                subst hje
                obtain ⟨hH2, hfa, hfs, hnext, hpath⟩ := hI2H.out.end hS2H.out hm1H.out hnxdH.out hnxsH.out hminH.out
                have cB := hPBH.out.zB.at hnxdH.out
                have zB := Blk.frozen hPBH.out.zB nxn
                have hnxI : (nxn : Int) < (n : Int) := by omega
                have hnx0 : (0 : Int) ≤ (nxn : Int) := by omega
                have hH2H := Lib.hid hH2
                have hfaH := Lib.hid hfa
                have hfsH := Lib.hid hfs
                have hnextH := Lib.hid hnext
                have hpathH := Lib.hid hpath
                have hcs := Lib.hid (count_set_true hnxdH.out)
                obtain ⟨V, hV⟩ : ∃ V, V = wr.setCell ⟨gB, nxn, none⟩ (.bool true) := ⟨_, rfl⟩
                have hPV : Hid (PB w V gR gK gO gD gF gB R' K' O D2 F' (B.set nxn true)) := by show PB _ _ _ _ _ _ _ _ _ _ _ _ _ _; rw [hV]; exact hPBH.out.setB nxn _
                clear hH2 hfa hfs hnext hpath hPBH
                go_upto_region 31 with (fail)
                rw [← hV]
                clear hV cB zB
                have cO := hPV.out.ps.zO.at (i := nxn) (by rw [hlen.out.2.2.1]; exact hnxn)
                rcases hH2H.out.on nxn hnxn with hneg | ⟨k, hk, hkb⟩
                · rw [hneg] at cO
                  have hnegH := Lib.hid hneg
                  have hAug := Lib.hid (Aug.start hbn hH2H.out hnxn hneg hpathH.out (fun y hy => by
                    rcases hS2H.out.ful y hy with h1 | ⟨u, h1, h2, _, h3⟩
                    · exact .inl h1
                    · exact .inr ⟨u, h1, h2, h3⟩) hfaH.out hfsH.out)
                  have hlF := Lib.hid hIH.out.lF
                  have hsm2 := Lib.hid (hH2H.out.small hbn (hgH.out.hi hnH.out) (hgH.out.lo hnH.out))
                  clear hneg hnextH hpathH hfaH hfsH hS2H hI2H hIH hSH hbd hminH hnxsH hsm hfar hcntH hroH hcs s1 s2
                  go_wp2_with (fail)
                  go_loopg [11] ((src ++ [x]).length + 1) (fun gk av wz => ∃ (O' : List Int) (a : Int), av = .int .i64 a ∧ PB w wz gR gK gO gD gF gB R' K' O' D2 F' (B.set nxn true) ∧ ((a = -1 ∧ Hun C n (b + 1) (b + 1) R' K' O') ∨ ∃ an pos : Nat, a = (an : Int) ∧ gk = pos + 1 ∧ Aug C n b R' K' O F' (src ++ [x]) O' an pos))
                  case atStart => exact ⟨O, nxn, rfl, hPV.out, .inr ⟨nxn, _, rfl, rfl, hAug.out⟩⟩
                  case round =>
                    clear hPV hAug
                    obtain ⟨O', a, rfl, hPB, hcase⟩ := hrel
                    have hPBH := Lib.hid hPB
                    clear hPB
                    rcases hcase with ⟨rfl, hun⟩ | ⟨an, pos, rfl, hgk, hA⟩
                    · have hunH := Lib.hid hun
                      clear hun
                      go_wp2_with (fail)
                      go_roundg g1
                      case measure => omega
                      case rel => exact ⟨b + 1, R', K', O', by go_num, by omega, hunH.out, hsm2.out.1, hPBH.out.ps⟩
                    · subst hgk
                      have hAH := Lib.hid hA
                      have han := hA.an
                      have hanI : (an : Int) < (n : Int) := by omega
                      have han0 : (0 : Int) ≤ (an : Int) := by omega
                      have cF := hPBH.out.zF.at (i := an) (by rw [hlF.out]; exact han)
                      have cO := hPBH.out.ps.zO.at (i := an) (by rw [hA.lO]; exact han)
                      have zO := Blk.frozen hPBH.out.ps.zO an
                      rcases hA.ful _ hA.fa with hf | ⟨y, hf, hyn, _⟩
                      · rw [hf] at cF
                        have hlast := Lib.hid (hA.last (by omega))
                        clear hA hf
                        obtain ⟨V, hV⟩ : ∃ V, V = wr.setCell ⟨gO, an, none⟩ (.int .i64 (b : Nat)) := ⟨_, rfl⟩
                        have hPV : Hid (PB w V gR gK gO gD gF gB R' K' (O'.set an (b : Nat)) D2 F' (B.set nxn true)) := by show PB _ _ _ _ _ _ _ _ _ _ _ _ _ _; rw [hV]; exact hPBH.out.setO an _
                        go_upto_region 38 with (fail)
                        rw [← hV]
                        clear hV cF cO zO
                        go_wp2_with (fail)
                        go_roundg 0
                        case measure => omega
                        case rel => exact ⟨_, -1, rfl, hPV.out, .inl ⟨rfl, hlast.out⟩⟩
                      · rw [hf] at cF
                        have cY := hPBH.out.ps.zO.at (i := y) (by rw [hA.lO]; exact hyn)
                        obtain ⟨_, hnx2, hlt2⟩ := hA.next hf
                        obtain ⟨v, hv⟩ : ∃ v, at0 O' y = v := ⟨_, rfl⟩
                        rw [hv] at cY hnx2
                        have hnx2H := Lib.hid hnx2
                        have hyI : (y : Int) < (n : Int) := by omega
                        have hy0 : (0 : Int) ≤ (y : Int) := by omega
                        clear hA hf hv hnx2
                        obtain ⟨V, hV⟩ : ∃ V, V = wr.setCell ⟨gO, an, none⟩ (.int .i64 v) := ⟨_, rfl⟩
                        have hPV : Hid (PB w V gR gK gO gD gF gB R' K' (O'.set an v) D2 F' (B.set nxn true)) := by show PB _ _ _ _ _ _ _ _ _ _ _ _ _ _; rw [hV]; exact hPBH.out.setO an _
                        go_upto_region 38 with (fail)
                        rw [← hV]
                        clear hV cF cO cY zO
                        go_wp2_with (fail)
                        go_roundg ((src ++ [x]).idxOf (y : Int) + 1)
                        case measure => omega
                        case rel => exact ⟨_, y, rfl, hPV.out, .inr ⟨y, _, rfl, rfl, hnx2H.out⟩⟩
                · rw [hk] at cO
                  have hkH := Lib.hid hk
                  have hk0 : (0 : Int) ≤ (k : Int) := by omega
                  have hkneg : decide ((k : Int) < 0) = false := by simp
                  clear hk
                  go_wp2_with (fail)
                  go_roundg (g3 - 1)
                  case measure => have := hcs.out; have := hcntH.out; omega
                  case rel => exact ⟨R', K', D2, F', B.set nxn true, src ++ [x] ++ [(nxn : Int)], src ++ [x], nxn, k, rfl, rfl, rfl, ro_nat O b nxn hkH.out, by omega, by have := hcs.out; have := hcntH.out; omega, List.mem_append_left _ hm1H.out, hnextH.out k hkH.out, hPV.out⟩
    · have hbe : b = n := by omega
      subst hbe
      go_wp2_with (fail)
      go_ret2
      exact ⟨R, K, O, b, gR, b, gK, b, hHunH.out, hR1H.out, hHunH.out.end (hgH.out.lo hnH.out) hR1H.out, rfl, hPH.out.zR.iz, hPH.out.zK.iz, Nat.le_refl _, Nat.le_refl _, hPH.out.below⟩
end Go.Proofs.Ytkecdjdggkpdpaa
