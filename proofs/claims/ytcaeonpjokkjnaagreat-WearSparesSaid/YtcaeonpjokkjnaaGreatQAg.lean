/- Ag -/
import Derived.Test.YtcaeonpjokkjnaaGreatQQx
import Derived.Test.YtcaeonpjokkjnaaGreatQWs
set_option linter.unusedVariables false
/- Walks of package wear: Ages, Hazards. -/
namespace Go.Proofs.YtcaeonpjokkjnaaGreat
open Go Go.RowKit Go.Proofs

def agesL (ps : List Rat) : List Rat := (aboveL ps).map (· / meanQ ps)
theorem agesL_length (ps : List Rat) : (agesL ps).length = ps.length := by simp [agesL, aboveL]
def hazQ (ps : List Rat) (i : Nat) : Rat := nth ps i / left ps i
def hazL (ps : List Rat) : List Rat := (List.range ps.length).map (hazQ ps)
theorem hazL_length (ps : List Rat) : (hazL ps).length = ps.length := by simp [hazL]
theorem aboveL_at {ps : List Rat} {k : Nat} (hk : k < ps.length) : (aboveL ps)[k]? = some (left ps k) := by
  unfold aboveL; rw [List.getElem?_map, List.getElem?_range hk]; rfl
theorem agesL_at {ps : List Rat} {k : Nat} (hk : k < ps.length) : (agesL ps)[k]? = some (left ps k / meanQ ps) := by
  unfold agesL; rw [List.getElem?_map, aboveL_at hk]; rfl
theorem hazL_at {ps : List Rat} {k : Nat} (hk : k < ps.length) : (hazL ps)[k]? = some (hazQ ps k) := by
  unfold hazL; rw [List.getElem?_map, List.getElem?_range hk]; rfl

structure AgeSz (ps : List Rat) : Prop where
  left : ∀ k, Sz (left ps k)
  own : ∀ q ∈ ps, Sz q
  sums : ∀ k, Sz (psum (aboveL ps) k)
  mean : Sz (meanQ ps)
  mpos : 0 < rn (meanQ ps)
  lpos : ∀ k, k < ps.length → 0 < rn (Go.Proofs.YtcaeonpjokkjnaaGreat.left ps k)
  ages : ∀ q ∈ agesL ps, Sz q ∧ numRes q = (nt q, 0)
  haz : ∀ q ∈ hazL ps, Sz q ∧ numRes q = (nt q, 0)

set_option maxRecDepth 100000 in
set_option maxHeartbeats 800000 in
theorem ages_bad (k : Int) (hk : (k != 0) = true) (ao : Option Addr) (c l : Nat) (w : World) (h : Calls Tryz.prog 49 #[.slice ao l c] w (RetErr w k)) :
    Calls Tryz.prog 27 #[.slice ao l c] w (RetErr w k) := by
  have hH := Lib.hid h
  clear h
  go_enter Tryz.func27, Tryz.ntmps27
  go_wp2_with (first | (go_at_call 49; (with_reducible refine hH.out.mono ?_); rintro e w1 ⟨rfl, hb1⟩))
  go_ret2
  exact ⟨rfl, hb1⟩
set_option maxRecDepth 100000 in
set_option maxHeartbeats 800000 in
theorem hazards_bad (k : Int) (hk : (k != 0) = true) (ao : Option Addr) (c l : Nat) (w : World) (h : Calls Tryz.prog 49 #[.slice ao l c] w (RetErr w k)) :
    Calls Tryz.prog 36 #[.slice ao l c] w (RetErr w k) := by
  have hH := Lib.hid h
  clear h
  go_enter Tryz.func36, Tryz.ntmps36
  go_wp2_with (first | (go_at_call 49; (with_reducible refine hH.out.mono ?_); rintro e w1 ⟨rfl, hb1⟩))
  go_ret2
  exact ⟨rfl, hb1⟩

set_option maxRecDepth 100000 in
set_option maxHeartbeats 1600000 in
theorem ages_good (ao : Option Addr) (c l : Nat) (ps : List Rat) (w : World) (h : Calls Tryz.prog 49 #[.slice ao l c] w (RetLives w ps)) (h0 : 0 < ps.length) (hpl : ps.length ≤ 12) (hz : AgeSz ps) :
    Calls Tryz.prog 27 #[.slice ao l c] w (RetNums w ((agesL ps).map nt)) := by
  have hH := Lib.hid h
  have hzH := Lib.hid hz
  obtain ⟨m, hm⟩ : ∃ m, ps.length = m := ⟨_, rfl⟩
  have hmH := Lib.hid hm
  rw [hm] at hpl h0
  have hal : Hid ((aboveL ps).length = m) := by show _ = _; rw [aboveL_length]; exact hm
  have hgl : Hid ((agesL ps).length = m) := by show _ = _; rw [agesL_length]; exact hm
  clear h hz hm
  go_enter Tryz.func27, Tryz.ntmps27
  go_wp2_with (first
    | (go_at_call 49; (with_reducible refine hH.out.mono ?_); rintro e w1 ⟨a1, c1, rfl, hV, hb1⟩; have hP := Lib.hid (show QL w1 a1 ps from QV.ql hV); have hb1H := Lib.hid hb1; rw [hmH.out]; clear hV hb1)
    | (go_at_call 64; go_loud (with_reducible refine (above_n a1 c1 m ps _ hmH.out hP.out (by omega) hzH.out.left hzH.out.own).mono ?_); rintro e w2 ⟨a2, c2, rfl, hV2, hb2⟩; have hcap := QV.cap hV2 rfl; rw [hal.out] at hcap hV2))
  rw [hal.out]
  obtain ⟨g, rfl, hX, hg1, hg2⟩ := hV2.qx hal.out h0
  have hXH := Lib.hid hX
  have hb2H := Lib.hid hb2
  clear hX hV2 hb2
  go_loopw [20] (fun i wr => ∃ k, i = .int .i64 (k : Nat) ∧ k ≤ m ∧ QX wr g m (mixL (agesL ps) (aboveL ps) k) ∧ Below w1.heap.size w1 wr ∧ w2.heap.size ≤ wr.heap.size) (fun i _ => m - (intOf i).toNat)
  case atStart => exact ⟨0, rfl, by omega, by rw [mixL_zero]; exact hXH.out, hb2H.out, Nat.le_refl _⟩
  case round =>
    obtain ⟨k, rfl, hk, hX, hbl, hsz⟩ := hrel
    have hXr := Lib.hid hX
    have hblH := Lib.hid hbl
    clear hX hbl
    have hgr : g < wr.heap.size := by omega
    by_cases hkm : k < m
    · have hkk : (k : Int) < m := by omega
      have hage := Lib.hid (agesL_at (ps := ps) (k := k) (by rw [hmH.out]; exact hkm))
      obtain ⟨p, hm0, e0, e1, e2, e3⟩ := hXr.out.2.2.2 k (left ps k) (by rw [mixL_at hgl.out hkm]; exact aboveL_at (by rw [hmH.out]; exact hkm))
      have hM := Lib.hid (show RM wr p.a p.c p.a' p.c' (left ps k) from hm0)
      have hXd := Lib.hid (hXr.out.below hgr (Below.refl _ _).drew)
      have hPd := Lib.hid ((hP.out.below hblH.out).below (Below.refl _ _).drew)
      have hMd := Lib.hid (RM.up hM.out (Below.refl _ _).drew)
      have hbd := Lib.hid (bseq hblH.out (Below.refl wr.heap.size wr).drew)
      clear hm0
      go_wp2_with (fail)
      go_region_with (first
        | (go_at_call 66; go_loud (with_reducible refine (mean_any a1 c1 m ps _ hmH.out hPd.out (by omega) hzH.out.left hzH.out.own hzH.out.sums).mono ?_); rintro e w6 ⟨a6, d6, a6', d6', rfl, hm6, hb6⟩; have hX6 := Lib.hid (hXd.out.below hgr hb6); have f0 := Below.cellAt hb6 (Nat.le_refl _) e0; have f1 := Below.cellAt hb6 (Nat.le_refl _) e1; have f2 := Below.cellAt hb6 (Nat.le_refl _) e2; have f3 := Below.cellAt hb6 (Nat.le_refl _) e3; have hM6 := Lib.hid (RM.up hMd.out hb6))
        | (go_at_call 65; go_loud (with_reducible refine (rdiv_any p.a p.c p.a' p.c' a6 d6 a6' d6' (left ps k) (meanQ ps) _ hM6.out hm6 (hzH.out.left k) hzH.out.mean hzH.out.mpos).mono ?_); rintro e w7 ⟨a7, d7, a7', d7', rfl, hm7, hb7⟩; have hX7 := Lib.hid (hX6.out.below (Nat.lt_of_lt_of_le hgr hb6.size) hb7); have y0 := Below.cellAt hb7 (Nat.le_refl _) f0; have y1 := Below.cellAt hb7 (Nat.le_refl _) f1; have y2 := Below.cellAt hb7 (Nat.le_refl _) f2; have y3 := Below.cellAt hb7 (Nat.le_refl _) f3; have x7 := (hX6.out.below (Nat.lt_of_lt_of_le hgr hb6.size) hb7).2.1; have hb7H := Lib.hid (bseq (bseq hbd.out hb6) hb7); have hz7 : wr.heap.size ≤ w7.heap.size := Nat.le_trans hb6.size hb7.size))
      all_goals go_wp2_with (fail)
      all_goals (
        go_roundw
        case rel => exact ⟨k + 1, by go_num, by omega, hX7.out.put (p := ⟨a7, d7, a7', d7'⟩) hkm hm7 (mixL_next hgl.out hkm hage.out), Below.st4 hb7H.out hg1, by simp; omega⟩
        case measure => simp [intOf]; omega)
    · have hke : k = m := by omega
      subst hke
      have hQ := Lib.hid (hXr.out.ql)
      have hmx := Lib.hid (mixL_all hgl.out hal.out)
      go_wp2_with (first
        | (go_at_call 53; go_loud (with_reducible refine (told_n (some ⟨g, 0, none⟩) c2 k (agesL ps) _ hgl.out (by rw [← hmx.out]; exact hQ.out) (by omega) (fun q hq => (hzH.out.ages q hq).1) (fun q hq => (hzH.out.ages q hq).2)).mono ?_); rintro e w9 ⟨a9, c9, rfl, hS9, hb9⟩; have hS9H := Lib.hid hS9; clear hS9))
      go_ret2
      exact ⟨a9, c9, by rw [List.length_map]; rfl, hS9H.out.base (Nat.le_trans hb1H.out.size hblH.out.size), bseq (bseq hb1H.out hblH.out) hb9⟩

set_option maxRecDepth 100000 in
set_option maxHeartbeats 1600000 in
theorem hazards_good (ao : Option Addr) (c l : Nat) (ps : List Rat) (w : World) (h : Calls Tryz.prog 49 #[.slice ao l c] w (RetLives w ps)) (h0 : 0 < ps.length) (hpl : ps.length ≤ 12) (hz : AgeSz ps) :
    Calls Tryz.prog 36 #[.slice ao l c] w (RetNums w ((hazL ps).map nt)) := by
  have hH := Lib.hid h
  have hzH := Lib.hid hz
  obtain ⟨m, hm⟩ : ∃ m, ps.length = m := ⟨_, rfl⟩
  have hmH := Lib.hid hm
  rw [hm] at hpl h0
  have hal : Hid ((aboveL ps).length = m) := by show _ = _; rw [aboveL_length]; exact hm
  have hgl : Hid ((hazL ps).length = m) := by show _ = _; rw [hazL_length]; exact hm
  clear h hz hm
  go_enter Tryz.func36, Tryz.ntmps36
  go_wp2_with (first
    | (go_at_call 49; (with_reducible refine hH.out.mono ?_); rintro e w1 ⟨a1, c1, rfl, hV, hb1⟩; have hP := Lib.hid (show QL w1 a1 ps from QV.ql hV); have hb1H := Lib.hid hb1; rw [hmH.out]; clear hV hb1)
    | (go_at_call 64; go_loud (with_reducible refine (above_n a1 c1 m ps _ hmH.out hP.out (by omega) hzH.out.left hzH.out.own).mono ?_); rintro e w2 ⟨a2, c2, rfl, hV2, hb2⟩; have hcap := QV.cap hV2 rfl; rw [hal.out] at hcap hV2))
  rw [hal.out]
  obtain ⟨g, rfl, hX, hg1, hg2⟩ := hV2.qx hal.out h0
  have hXH := Lib.hid hX
  have hb2H := Lib.hid hb2
  clear hX hV2 hb2
  go_loopw [20] (fun i wr => ∃ k, i = .int .i64 (k : Nat) ∧ k ≤ m ∧ QX wr g m (mixL (hazL ps) (aboveL ps) k) ∧ Below w1.heap.size w1 wr ∧ w2.heap.size ≤ wr.heap.size) (fun i _ => m - (intOf i).toNat)
  case atStart => exact ⟨0, rfl, by omega, by rw [mixL_zero]; exact hXH.out, hb2H.out, Nat.le_refl _⟩
  case round =>
    obtain ⟨k, rfl, hk, hX, hbl, hsz⟩ := hrel
    have hXr := Lib.hid hX
    have hblH := Lib.hid hbl
    clear hX hbl
    have hgr : g < wr.heap.size := by omega
    by_cases hkm : k < m
    · have hkk : (k : Int) < m := by omega
      have hage := Lib.hid (hazL_at (ps := ps) (k := k) (by rw [hmH.out]; exact hkm))
      obtain ⟨p, hm0, e0, e1, e2, e3⟩ := hXr.out.2.2.2 k (left ps k) (by rw [mixL_at hgl.out hkm]; exact aboveL_at (by rw [hmH.out]; exact hkm))
      obtain ⟨q, hq⟩ : ∃ q, ps[k]? = some q := ⟨_, List.getElem?_eq_getElem (by rw [hmH.out]; exact hkm)⟩
      have hqk : Hid (q / left ps k = hazQ ps k) := by show _ = _; unfold hazQ nth; rw [hq]; rfl
      obtain ⟨b1, o1, p1, rfl, hm1, d0, d1, d2, d3⟩ := (hP.out.below hblH.out) k q hq
      have hM := Lib.hid (RM.up (show RM wr p.a p.c p.a' p.c' (left ps k) from hm0) (Below.refl _ _).drew)
      have hM1 := Lib.hid (RM.up (show RM wr p1.a p1.c p1.a' p1.c' q from hm1) (Below.refl _ _).drew)
      have hXd := Lib.hid (hXr.out.below hgr (Below.refl _ _).drew)
      have hbd := Lib.hid (bseq hblH.out (Below.refl wr.heap.size wr).drew)
      have hzq := Lib.hid (hzH.out.own q (List.mem_of_getElem? hq))
      have hzl := Lib.hid (hzH.out.lpos k (by rw [hmH.out]; exact hkm))
      have hb1r : b1 < wr.heap.size := World.block_lt_of_cell? wr _ d0
      clear hm0 hm1 hq
      go_wp2_with (fail)
      go_region_with (first
        | (go_at_call 65; go_loud (with_reducible refine (rdiv_any p1.a p1.c p1.a' p1.c' p.a p.c p.a' p.c' q (left ps k) _ hM1.out hM.out hzq.out (hzH.out.left k) hzl.out).mono ?_); rintro e w7 ⟨a7, d7, a7', d7', rfl, hm7, hb7⟩; rw [hqk.out] at hm7; rw [hqk.out]; have hX7 := Lib.hid (hXd.out.below hgr hb7); have y0 := Below.cellAt hb7 (Nat.le_refl _) e0; have y1 := Below.cellAt hb7 (Nat.le_refl _) e1; have y2 := Below.cellAt hb7 (Nat.le_refl _) e2; have y3 := Below.cellAt hb7 (Nat.le_refl _) e3; have x7 := (hXd.out.below hgr hb7).2.1; have hb7H := Lib.hid (bseq hbd.out hb7); have hz7 : wr.heap.size ≤ w7.heap.size := hb7.size))
      all_goals go_wp2_with (fail)
      all_goals (
        go_roundw
        case rel => exact ⟨k + 1, by go_num, by omega, hX7.out.put (p := ⟨a7, d7, a7', d7'⟩) hkm hm7 (mixL_next hgl.out hkm hage.out), Below.st4 hb7H.out hg1, by simp; omega⟩
        case measure => simp [intOf]; omega)
    · have hke : k = m := by omega
      subst hke
      have hQ := Lib.hid (hXr.out.ql)
      have hmx := Lib.hid (mixL_all hgl.out hal.out)
      go_wp2_with (first
        | (go_at_call 53; go_loud (with_reducible refine (told_n (some ⟨g, 0, none⟩) c2 k (hazL ps) _ hgl.out (by rw [← hmx.out]; exact hQ.out) (by omega) (fun q hq => (hzH.out.haz q hq).1) (fun q hq => (hzH.out.haz q hq).2)).mono ?_); rintro e w9 ⟨a9, c9, rfl, hS9, hb9⟩; have hS9H := Lib.hid hS9; clear hS9))
      go_ret2
      exact ⟨a9, c9, by rw [List.length_map]; rfl, hS9H.out.base (Nat.le_trans hb1H.out.size hblH.out.size), bseq (bseq hb1H.out hblH.out) hb9⟩


end Go.Proofs.YtcaeonpjokkjnaaGreat
