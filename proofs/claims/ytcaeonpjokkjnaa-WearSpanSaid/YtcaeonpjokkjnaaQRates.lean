/- Rates -/
import Derived.Test.YtcaeonpjokkjnaaQWj
set_option linter.unusedVariables false
/- Walks of package wear: rates. -/
namespace Go.Proofs.Ytcaeonpjokkjnaa
open Go Go.RowKit Go.Proofs

theorem QV.cap {w : World} {base n c : Nat} {ao : Option Addr} {qs : List Rat} (h : QV w base (.slice ao n c) qs) (hn : qs.length = n) : n ≤ c := by
  obtain ⟨l, _, ho, _⟩ := h
  rcases ho.2 with ⟨h1, h2⟩ | ⟨g', cap', cur, hv, _, _, hc, _⟩
  · injection h1 with _ h3 _; omega
  · injection hv with _ h3 h4; omega

theorem sl_two (w : World) (p f : ByteArray) (T : TypeId) : SL (w.alloc (Obj.cells #[.string p, .string f] T)) (some ⟨w.heap.size, 0, none⟩) [p, f] := fun i s hs => by
  rcases i with _ | _ | i
  · simp at hs; subst hs; exact ⟨w.heap.size, 0, rfl, by simp [go_sem]⟩
  · simp at hs; subst hs; exact ⟨w.heap.size, 0, rfl, by simp [go_sem]⟩
  · simp at hs

theorem Kq.ad (W : World) (o : Obj) : Kq W (W.alloc o).drew := Kq.mk ((Below.refl _ _).alloc (Nat.le_refl _) _).drew
theorem box_new (w : World) (a a' : Option Addr) (c c' : Nat) (q : Rat) (T : TypeId) (hm : RM w a c a' c' q) :
    Box (w.alloc (Obj.cells #[.bool (ng (rn q)), .slice a (LI (rn q)) c, .bool (ng (rd q)), .slice a' (LI (rd q)) c'] T)) w.heap.size ⟨a, c, a', c'⟩ q := (Box.new w ⟨a, c, a', c'⟩ q T hm).1
theorem RM.al {w : World} {a a' : Option Addr} {c c' : Nat} {q : Rat} (h : RM w a c a' c' q) (o : Obj) : RM (w.alloc o) a c a' c' q := RM.up h ((Below.refl _ _).alloc (Nat.le_refl _) _)
/-- The sizes that the walk of rates asks for. -/
structure RatesSz (ps : List Rat) (c0 c1 : Rat) : Prop where
  left : ∀ k, Sz (left ps k)
  own : ∀ q ∈ ps, Sz q
  gone : ∀ k, Sz (psum ps k)
  planned : Sz c0
  failed : Sz c1
  m1 : ∀ k, Sz (c1 * psum ps k)
  m2 : ∀ k, Sz (1 - psum ps k)
  m3 : ∀ k, Sz (c0 * (1 - psum ps k))
  cost : ∀ k, Sz (costQ ps c0 c1 k)
  time : ∀ k, Sz (psum (aboveL ps) k)
  pos : ∀ k, k < ps.length → 0 < rn (psum (aboveL ps) (k + 1))

set_option maxRecDepth 100000 in
set_option maxHeartbeats 3200000 in
theorem rates_good (ao : Option Addr) (c : Nat) (ss : List ByteArray) (pl fl : ByteArray) (ps : List Rat) (w : World) (h : Calls Try.prog 28 #[.slice ao ss.length c] w (RetLives w ps)) (hpl : ps.length ≤ 12)
    (hp : parseOK pl) (hf : parseOK fl) (hsp : pl.size ≤ 4611686018427387904) (hsf : fl.size ≤ 4611686018427387904) (g0 : 0 < sg (rn (parseQ pl))) (g1 : 0 < sg (rn (parseQ fl))) (f0 : fits (parseQ pl) 6 = true) (f1 : fits (parseQ fl) 6 = true)
    (hz : RatesSz ps (parseQ pl) (parseQ fl)) :
    Calls Try.prog 46 #[.slice ao ss.length c, .string pl, .string fl] w (RetLives w (rateL ps (parseQ pl) (parseQ fl))) := by
  have hH := Lib.hid h
  have hzH := Lib.hid hz
  obtain ⟨m, hm⟩ : ∃ m, ps.length = m := ⟨_, rfl⟩
  have hmH := Lib.hid hm
  rw [hm] at hpl
  have hall : Hid (allOK [pl, fl]) := by
    intro s hs
    simp at hs
    rcases hs with rfl | rfl
    · exact hp
    · exact hf
  have hss : Hid (∀ s ∈ [pl, fl], s.size ≤ 4611686018427387904) := by
    intro s hs
    simp at hs
    rcases hs with rfl | rfl
    · exact hsp
    · exact hsf
  obtain ⟨c0, hc0⟩ : ∃ c0, c0 = parseQ pl := ⟨_, rfl⟩
  obtain ⟨c1, hc1⟩ : ∃ c1, c1 = parseQ fl := ⟨_, rfl⟩
  have hcs : Hid ([pl, fl].map parseQ = [c0, c1]) := by show _ = _; rw [hc0, hc1]; rfl
  rw [← hc0] at g0 f0 hzH ⊢
  rw [← hc1] at g1 f1 hzH ⊢
  have hgood : Hid (∀ (k : Nat) (r : Rat), [c0, c1][k]? = some r → 0 < sg (rn r) ∧ fits r 6 = true ∧ Sz r) := by
    intro k r hr
    rcases k with _ | _ | k
    · simp at hr; subst hr; exact ⟨g0, f0, hzH.out.planned⟩
    · simp at hr; subst hr; exact ⟨g1, f1, hzH.out.failed⟩
    · simp at hr
  have hrl : Hid ((rateL ps c0 c1).length = m) := by show _ = _; rw [rateL_length]; exact hm
  have hal : Hid ((aboveL ps).length = m) := by show _ = _; rw [aboveL_length]; exact hm
  clear h hz hm hp hf hsp hsf hc0 hc1 g0 g1 f0 f1
  go_enter Try.func46, Try.ntmps46
  go_wp2_with (first
    | (go_at_call 28; (with_reducible refine hH.out.mono ?_); rintro e w1 ⟨a1, d1, rfl, hV, hb1⟩; have hP := Lib.hid (show QL w1 a1 ps from QV.ql hV); have hb1H := Lib.hid hb1; have hcap := QV.cap hV rfl; rw [hmH.out] at hcap; clear hV hb1)
    | (go_at_call 50; go_loud (with_reducible refine (numbers_at (some ⟨w1.heap.size, 0, none⟩) 2 2 [pl, fl] _ rfl (sl_two w1 pl fl _) (by omega) hss.out hall.out).mono ?_); rintro e w2 ⟨a2, d2, rfl, hV2, hb2⟩; rw [hcs.out] at hV2; have hQ2 := Lib.hid (QV.ql hV2); have hb2H := Lib.hid (bvia (Below.refl w1.heap.size w1) hb2); clear hV2 hb2))
  rw [hmH.out]
  go_loopw [44] (fun i wr => ∃ k, i = .int .i64 (k : Nat) ∧ k ≤ 2 ∧ Below w2.heap.size w2 wr) (fun i _ => 2 - (intOf i).toNat)
  case atStart => exact ⟨0, rfl, by omega, Below.refl _ _⟩
  case round =>
    obtain ⟨k, rfl, hk, hbl⟩ := hrel
    have hblH := Lib.hid hbl
    by_cases hk2 : k < 2
    · obtain ⟨r, hr⟩ : ∃ r, [c0, c1][k]? = some r := ⟨_, List.getElem?_eq_getElem (by simp; omega)⟩
      obtain ⟨b2, o2, p2, rfl, hm2, e0, e1, e2, e3⟩ := (hQ2.out.below hbl) k r hr
      obtain ⟨s0, s1, s2⟩ := hgood.out k r hr
      have hmr := Lib.hid (show RM wr p2.a p2.c p2.a' p2.c' r from hm2)
      have hs2 := Lib.hid s2
      have hkk : (k : Int) < 2 := by omega
      have hs3 : ¬ sg (rn r) ≤ 0 := by omega
      clear hr hm2 hbl s2 s0
      go_wp2_with (first
        | (go_at_call 29; go_loud (with_reducible refine (rsign_any p2.a p2.c p2.a' p2.c' r _).mono ?_); rintro e w6 ⟨rfl, hb6⟩; have d0 := Below.cellAt (b := wr.heap.size) (o := 0) (v := .bool (ng (rn r))) hb6 (Nat.le_refl _) (by simp [go_sem]); have d1 := Below.cellAt (b := wr.heap.size) (o := 1) (v := .slice p2.a (LI (rn r)) p2.c) hb6 (Nat.le_refl _) (by simp [go_sem]); have d2 := Below.cellAt (b := wr.heap.size) (o := 2) (v := .bool (ng (rd r))) hb6 (Nat.le_refl _) (by simp [go_sem]); have d3 := Below.cellAt (b := wr.heap.size) (o := 3) (v := .slice p2.a' (LI (rd r)) p2.c') hb6 (Nat.le_refl _) (by simp [go_sem]); have hb6H := Lib.hid (bvia hblH.out hb6); have hm6 := Lib.hid (show RM w6 p2.a p2.c p2.a' p2.c' r from RM.up (RM.up hmr.out ((Below.refl _ _).alloc (Nat.le_refl _) _)) hb6); clear hb6)
        | (go_at_call 51; go_loud (with_reducible refine (fits6 p2.a p2.c p2.a' p2.c' r _ hm6.out hs2.out).mono ?_); rintro e w7 ⟨rfl, hb7⟩; have hb7H := Lib.hid (bseq hb6H.out hb7); clear hb7))
      go_roundw
      case rel => exact ⟨k + 1, by go_num, by omega, hb7H.out⟩
      case measure => simp [intOf]; omega
    · have hkk : ¬ (k : Int) < 2 := by omega
      have hb12 := Lib.hid (hb2H.out.trans (hbl.mono hb2H.out.size))
      go_wp2_with (first
        | (go_at_call 57; go_loud (with_reducible refine (above_n a1 d1 m ps _ hmH.out (hP.out.below hb12.out) (by omega) hzH.out.left hzH.out.own).mono ?_); rintro e w3 ⟨a3, d3, rfl, hV3, hb3⟩; have hcap3 := QV.cap hV3 rfl; have hQ3 := Lib.hid (QV.ql hV3); have hb3H := Lib.hid (hb12.out.trans (hb3.mono hb12.out.size)); have hb23 := Lib.hid (hblH.out.trans (hb3.mono hblH.out.size)); rw [hal.out] at hcap3; clear hV3 hb3))
      rw [hal.out]
      clear hkk hk2 hk hbl
      go_loopw [14, 16] (fun b i wi => ∃ k : Nat, i = .int .i64 ((k : Int) + 1) ∧ k ≤ m ∧ QV wi w3.heap.size b ((rateL ps c0 c1).take k) ∧ Below w3.heap.size w3 wi) (fun _ i _ => m + 1 - (intOf i).toNat)
      case atStart => exact ⟨0, rfl, by omega, QV.nil _ _, Below.refl _ _⟩
      case round =>
        obtain ⟨k, rfl, hk, hV, hbi⟩ := hrel
        obtain ⟨ab, cb, hbv⟩ := hV.shape
        subst hbv
        have htl : ((rateL ps c0 c1).take k).length = k := by rw [List.length_take, hrl.out]; omega
        have htlH := Lib.hid htl
        rw [htl] at hV ⊢
        have hVH := Lib.hid hV
        have hbiH := Lib.hid hbi
        have hb1i := Lib.hid (hb3H.out.trans (hbi.mono hb3H.out.size))
        have hb2i := Lib.hid (hb23.out.trans (hbi.mono hb23.out.size))
        clear hV htl hbi
        by_cases hkm : k < m
        · have hkk : (k : Int) + 1 ≤ m := by omega
          have hc1' : (k : Int) + 1 ≤ d1 := by omega
          have hc3' : (k : Int) + 1 ≤ d3 := by omega
          have htk : Hid ((ps.take (k + 1)).length = k + 1) := by show _ = _; rw [List.length_take, hmH.out]; omega
          have htk3 : Hid (((aboveL ps).take (k + 1)).length = k + 1) := by show _ = _; rw [List.length_take, hal.out]; omega
          go_wp2_with (first
            | (go_at_call 54; go_loud (with_reducible refine (sum_n a1 d1 (k + 1) (ps.take (k + 1)) _ htk.out ((hP.out.below hb1i.out).take (k + 1)) (by omega) (fun j => by rw [psum_take]; exact hzH.out.gone _) (fun q hq => hzH.out.own q (List.mem_of_mem_take hq))).mono ?_); rintro e w5 ⟨a5, d5, a5', d5', rfl, hm5, hb5⟩; rw [psum_all] at hm5; rw [psum_all]))
          obtain ⟨W, hW⟩ : ∃ W, W = w5.alloc (Obj.cells #[.bool (ng (rn (psum ps (k + 1)))), .slice a5 (LI (rn (psum ps (k + 1)))) d5, .bool (ng (rd (psum ps (k + 1)))), .slice a5' (LI (rd (psum ps (k + 1)))) d5'] 70) := ⟨_, rfl⟩
          have x0 : W.cell? ⟨w5.heap.size, 0, none⟩ = some (.bool (ng (rn (psum ps (k + 1))))) := by rw [hW]; simp [go_sem]
          have x1 : W.cell? ⟨w5.heap.size, 1, none⟩ = some (.slice a5 (LI (rn (psum ps (k + 1)))) d5) := by rw [hW]; simp [go_sem]
          have x2 : W.cell? ⟨w5.heap.size, 2, none⟩ = some (.bool (ng (rd (psum ps (k + 1))))) := by rw [hW]; simp [go_sem]
          have x3 : W.cell? ⟨w5.heap.size, 3, none⟩ = some (.slice a5' (LI (rd (psum ps (k + 1)))) d5') := by rw [hW]; simp [go_sem]
          have hz5 : w5.heap.size < W.heap.size := by rw [hW]; simp
          have hbW : Below wr.heap.size wr W := by rw [hW]; exact hb5.alloc hb5.size _
          have hG := Lib.hid (show RM W a5 d5 a5' d5' (psum ps (k + 1)) by rw [hW]; exact hm5.up ((Below.refl _ _).alloc (Nat.le_refl _) _))
          have hQW := hQ2.out.below (hb2i.out.trans (hbW.mono hb2i.out.size))
          obtain ⟨bq, oq, p0, haq, hm0, y0, y1, y2, y3⟩ := hQW 0 c0 rfl
          obtain ⟨bq', oq', p1, haq', hm1, z0, z1, z2, z3⟩ := hQW 1 c1 rfl
          rw [haq] at haq'
          injection haq' with haq'
          injection haq' with hq1 hq2 hq3
          subst hq1 hq2 haq
          have hzq : bq < W.heap.size := World.block_lt_of_cell? W ⟨bq, oq + 0 * 4, none⟩ y0
          simp at y0 y1 y2 y3 z0 z1 z2 z3
          have hM0 := Lib.hid (show RM W p0.a p0.c p0.a' p0.c' c0 from hm0)
          have hM1 := Lib.hid (show RM W p1.a p1.c p1.a' p1.c' c1 from hm1)
          have hcq : Hid (c1 * psum ps (k + 1) + c0 * (1 - psum ps (k + 1)) = costQ ps c0 c1 k) := rfl
          have hbWH := Lib.hid hbW
          rw [← hW]
          have hWH := Lib.hid hW
          clear hW hQW hm0 hm1 hq3 hm5 hb5 hbW
          go_cut [18] from 69 to 81 (fun s18 wx => ∃ (g : Nat) (p : RP), s18 = .pointer (some ⟨g, 0, none⟩) ∧ Box wx g p (costQ ps c0 c1 k) ∧ Below W.heap.size W wx ∧ W.heap.size ≤ g)
          case first =>
            go_region_held3 (fun w' => Kq W w')
              (first | (with_reducible exact Kq.drew _) | (with_reducible exact Kq.ad _ _) | (with_reducible exact Kq.step (by assumption) (by assumption)) | (with_reducible exact Kq.alloc (by assumption) _) | (with_reducible exact Kq.alloc kk10.out _) | (with_reducible exact kk10.out) | (with_reducible refine Kq.set (Kq.set (Kq.set (Kq.set ?_ ?_ _) ?_ _) ?_ _) ?_ _; all_goals first | exact kk10.out | exact Kq.alloc kk10.out _ | exact s10 | exact s9 | exact s8 | exact s7 | exact s6 | exact Nat.le_refl _))
              (first
                | (go_at_call 68; (with_reducible refine (rmul_any p1.a p1.c p1.a' p1.c' a5 d5 a5' d5' c1 (psum ps (k + 1)) _ (hM1.out.kq (by assumption)) (hG.out.kq (by assumption)) hzH.out.failed (hzH.out.gone _)).mono ?_); rintro e w6 ⟨a6, d6, a6', d6', rfl, hm6, hb6⟩; have hm6H := Lib.hid hm6; clear hm6; have s6 : W.heap.size ≤ w6.heap.size := (Kq.step (by assumption) hb6).2.size)
                | (go_at_call 32; (with_reducible refine (whole_one _).mono ?_); rintro e w7 ⟨a7, d7, a7', d7', rfl, hm7, hb7⟩; have hm67 : Hid (RM w7 a6 d6 a6' d6' (c1 * psum ps (k + 1))) := (by first | exact RM.up hm6H.out hb7 | exact RM.up (RM.al hm6H.out _) hb7); have hm7H := Lib.hid hm7; clear hm7; have s7 : W.heap.size ≤ w7.heap.size := (Kq.step (by assumption) hb7).2.size)
                | (go_at_call 52; (with_reducible refine (rsub_any a7 d7 a7' d7' a5 d5 a5' d5' 1 (psum ps (k + 1)) _ (by first | exact hm7H.out | exact RM.al hm7H.out _) (hG.out.kq (by assumption)) Sz_one (hzH.out.gone _)).mono ?_); rintro e w8 ⟨a8, d8, a8', d8', rfl, hm8, hb8⟩; have hm68 : Hid (RM w8 a6 d6 a6' d6' (c1 * psum ps (k + 1))) := (by first | exact RM.up hm67.out hb8 | exact RM.up (RM.al hm67.out _) hb8); have hm8H := Lib.hid hm8; clear hm8; have s8 : W.heap.size ≤ w8.heap.size := (Kq.step (by assumption) hb8).2.size)
                | (go_at_call 68; (with_reducible refine (rmul_any p0.a p0.c p0.a' p0.c' a8 d8 a8' d8' c0 (1 - psum ps (k + 1)) _ (hM0.out.kq (by assumption)) (by first | exact hm8H.out | exact RM.al hm8H.out _) hzH.out.planned (hzH.out.m2 _)).mono ?_); rintro e w9 ⟨a9, d9, a9', d9', rfl, hm9, hb9⟩; have hm69 : Hid (RM w9 a6 d6 a6' d6' (c1 * psum ps (k + 1))) := (by first | exact RM.up hm68.out hb9 | exact RM.up (RM.al hm68.out _) hb9); have hm9H := Lib.hid hm9; clear hm9; have s9 : W.heap.size ≤ w9.heap.size := (Kq.step (by assumption) hb9).2.size)
                | (go_at_call 69; (with_reducible refine (radd_any a6 d6 a6' d6' a9 d9 a9' d9' (c1 * psum ps (k + 1)) (c0 * (1 - psum ps (k + 1))) _ (by first | exact hm69.out | exact RM.al hm69.out _) (by first | exact hm9H.out | exact RM.al hm9H.out _) (hzH.out.m1 _) (hzH.out.m3 _)).mono ?_); rintro e w10 ⟨a10, d10, a10', d10', rfl, hm10, hb10⟩; have kk10 : Hid (Kq W w10) := Kq.step (by assumption) hb10; rw [hcq.out] at hm10; rw [hcq.out]; have s10 : W.heap.size ≤ w10.heap.size := kk10.out.2.size; have hm10H := Lib.hid hm10; clear hm10; (first
                  | (have r10 := Lib.hid (Rg.self (Rg.step (Rg.new4 w9 70 _ rfl) (by omega) hb10)); obtain ⟨_, t2, t3, t5, _⟩ := r10.out)
                  | (have r10 := Lib.hid (Rg.self (Rg.step (Rg.step (Rg.new4 w8 70 _ rfl) (by omega) hb9) (by omega) hb10)); obtain ⟨_, t2, t3, t5, _⟩ := r10.out)
                  | (have r10 := Lib.hid (Rg.self (Rg.step (Rg.step (Rg.step (Rg.new4 w7 70 _ rfl) (by omega) hb8) (by omega) hb9) (by omega) hb10)); obtain ⟨_, t2, t3, t5, _⟩ := r10.out)
                  | (have r10 := Lib.hid (Rg.self (Rg.step (Rg.step (Rg.step (Rg.step (Rg.new4 w6 70 _ rfl) (by omega) hb7) (by omega) hb8) (by omega) hb9) (by omega) hb10)); obtain ⟨_, t2, t3, t5, _⟩ := r10.out)
                  | (have r10 := Lib.hid (Rg.self (Rg.step (Rg.step (Rg.step (Rg.step (Rg.step (Rg.drew (Rg.new4 W 70 _ rfl)) (by omega) hb6) (by omega) hb7) (by omega) hb8) (by omega) hb9) (by omega) hb10)); obtain ⟨_, t2, t3, t5, _⟩ := r10.out)
                  | skip)))
            all_goals go_wp2_with (fail)
            all_goals go_meet
            all_goals refine ⟨_, ⟨a10, d10, a10', d10'⟩, rfl, ?_, ?_, ?_⟩
            all_goals first
              | (with_reducible exact s10)
              | (with_reducible exact s9)
              | (with_reducible exact s8)
              | (with_reducible exact s7)
              | (with_reducible exact s6)
              | (with_reducible exact Nat.le_refl _)
              | (with_reducible exact kk10.out.2.alloc s10 _)
              | (with_reducible exact box_new w10 a10 a10' d10 d10' _ _ hm10H.out)
              | (with_reducible exact (Rg.box r10.out hm10H.out rfl).1)
              | (with_reducible refine below_set4 kk10.out.2 ?_ _ _ _ _; first | exact s9 | exact s8 | exact s7 | exact s6 | exact Nat.le_refl _)
          case rest =>
            obtain ⟨g, pc, rfl, hBox, hbc, hgW⟩ := hcut
            have hBH := Lib.hid hBox
            have hbcH := Lib.hid hbc
            obtain ⟨bm, _, x0, x1, x2, x3⟩ := hBox
            have hMc := Lib.hid (show RM wc pc.a pc.c pc.a' pc.c' (costQ ps c0 c1 k) from bm)
            have hVc := Lib.hid ((hVH.out.below (hbWH.out)).below hbcH.out)
            have hrq : Hid (costQ ps c0 c1 k / psum (aboveL ps) (k + 1) = rateQ ps c0 c1 k) := rfl
            have hzg : g < wc.heap.size := World.block_lt_of_cell? wc _ x0
            have hown := hVH.out.lt
            clear hbc bm
            have hQs0 := Lib.hid ((hQ3.out.below (hbiH.out.trans (hbWH.out.mono hbiH.out.size))).below hbcH.out)
            have hQs1 := Lib.hid (QL.take (hQs0.out.below (Below.refl _ _).drew) (k + 1))
            have hzs1 := Lib.hid (show ∀ j, Sz (psum ((aboveL ps).take (k + 1)) j) from fun j => by rw [psum_take]; exact hzH.out.time _)
            have hzs2 := Lib.hid (show ∀ q ∈ (aboveL ps).take (k + 1), Sz q from fun q hq => by obtain ⟨j, rfl⟩ := aboveL_mem (List.mem_of_mem_take hq); exact hzH.out.left j)
            have hc0 : Hid (Cells4 wc g (.bool (ng (rn (costQ ps c0 c1 k)))) (.slice pc.a (LI (rn (costQ ps c0 c1 k))) pc.c) (.bool (ng (rd (costQ ps c0 c1 k)))) (.slice pc.a' (LI (rd (costQ ps c0 c1 k))) pc.c')) := ⟨x0, x1, x2, x3⟩
            have hMd := Lib.hid (RM.up hMc.out (Below.refl _ _).drew)
            have hVd := Lib.hid (hVc.out.below (Below.refl _ _).drew)
            have hkmH := Lib.hid (show k < ps.length by rw [hmH.out]; exact hkm)
            have hne : Hid (∀ j, (Value.slice ab k cb).ownBlock = some j → g ≠ j) := fun j hj => by have h1 := (hown j hj).2; have h2 := hbWH.out.size; omega
            have hownH := Lib.hid hown
            have hk00 : (0 : Int) ≤ (k : Int) + 1 := by omega
            have hk01 : (k : Int) + 1 ≤ d3 := by omega
            have hk02 : k + 1 ≤ d3 := by omega
            clear hown
            go_wp2_with (fail)
            go_region_held3 (fun w' => Cells4 w' g (.bool (ng (rn (costQ ps c0 c1 k)))) (.slice pc.a (LI (rn (costQ ps c0 c1 k))) pc.c) (.bool (ng (rd (costQ ps c0 c1 k)))) (.slice pc.a' (LI (rd (costQ ps c0 c1 k))) pc.c'))
              (first | (with_reducible exact hc3.out) | (with_reducible exact Cells4.up hc2.out ((Below.refl _ _).alloc (Nat.le_refl _) _)) | (with_reducible exact hc2.out) | (with_reducible exact hc1.out) | (with_reducible exact hc0.out.up (Below.refl _ _).drew))
              (first
                | (go_at_call 54; go_loud (with_reducible refine (sum_n a3 d3 (k + 1) ((aboveL ps).take (k + 1)) _ htk3.out hQs1.out (by omega) hzs1.out hzs2.out).mono ?_); rintro e w11 ⟨a11, d11, a11', d11', rfl, hm11, hb11⟩; rw [psum_all] at hm11; rw [psum_all]; have hc1 := Lib.hid ((hc0.out.up (Below.refl _ _).drew).up hb11); have hV1 := Lib.hid (hVd.out.below hb11))
                | (go_at_call 70; go_loud (with_reducible refine (rdiv_any pc.a pc.c pc.a' pc.c' a11 d11 a11' d11' (costQ ps c0 c1 k) (psum (aboveL ps) (k + 1)) _ (RM.up hMd.out hb11) hm11 (hzH.out.cost _) (hzH.out.time _) (hzH.out.pos _ hkmH.out)).mono ?_); rintro e w12 ⟨a12, d12, a12', d12', rfl, hm12, hb12⟩; have hc2 := Lib.hid (hc1.out.up hb12); have hV2 := Lib.hid (hV1.out.below hb12); rw [hrq.out] at hm12; rw [hrq.out]; have hb3 := Lib.hid (bseq (bseq (bseq (bseq (bseq hbiH.out hbWH.out) hbcH.out) (Below.refl _ _).drew) hb11) hb12); have hs12 : w3.heap.size ≤ w12.heap.size := hb3.out.size)
                | ((refine step_append_rat rfl (.tmp 82) (.tmp 89) _ rfl Try.underlying62 w3.heap.size k (.slice ab k cb) ((rateL ps c0 c1).take k) (rateQ ps c0 c1 k) ⟨a12, d12, a12', d12'⟩ rfl (hV2.out.below ((Below.refl _ _).alloc (Nat.le_refl _) _)) htlH.out w12.heap.size rfl (by omega) (by simp; omega) (by simp [go_sem]) (by simp [go_sem]) (by simp [go_sem]) (by simp [go_sem]) (RM.al hm12 _) ?_); intro v' w2' hv2' hg2'; have hv2H := Lib.hid hv2'; have hbG := Lib.hid (((hb3.out.alloc hs12 _)).grown hg2' (by simp; omega) (fun j hj => (hownH.out j hj).1)); have hc3 : Hid (Cells4 w2' g (.bool (ng (rn (costQ ps c0 c1 k)))) (.slice pc.a (LI (rn (costQ ps c0 c1 k))) pc.c) (.bool (ng (rd (costQ ps c0 c1 k)))) (.slice pc.a' (LI (rd (costQ ps c0 c1 k))) pc.c')) := ⟨cell_grown hg2' (hc2.out.up ((Below.refl _ _).alloc (Nat.le_refl _) _)).1 hne.out, cell_grown hg2' (hc2.out.up ((Below.refl _ _).alloc (Nat.le_refl _) _)).2.1 hne.out, cell_grown hg2' (hc2.out.up ((Below.refl _ _).alloc (Nat.le_refl _) _)).2.2.1 hne.out, cell_grown hg2' (hc2.out.up ((Below.refl _ _).alloc (Nat.le_refl _) _)).2.2.2 hne.out⟩; clear hv2' hg2'))
            have hnx : Hid (QV w2' w3.heap.size v' ((rateL ps c0 c1).take (k + 1))) := by
              have h := hv2H.out
              rw [rateL_next ps c0 c1 k hkmH.out] at h
              exact h
            go_wp2_with (fail)
            go_roundw
            case rel =>
              exact ⟨k + 1, by go_num, by omega, hnx.out, hbG.out⟩
            case measure => simp [intOf]; omega
        · have hkk : ¬ (k : Int) + 1 ≤ m := by omega
          have hk2 : k = m := by omega
          subst hk2
          have hall2 : Hid ((rateL ps c0 c1).take k = rateL ps c0 c1) := by show _ = _; rw [List.take_of_length_le (by rw [hrl.out]; exact Nat.le_refl _)]
          go_wp2_with (fail)
          go_ret2
          refine ⟨ab, cb, by rw [hrl.out]; rfl, ?_, ?_⟩
          · rw [hrl.out]
            have h := hVH.out
            rw [hall2.out] at h
            exact h.base (Nat.le_trans hb1H.out.size hb3H.out.size)
          · exact bseq (bseq hb1H.out hb3H.out) hbiH.out

end Go.Proofs.Ytcaeonpjokkjnaa
