/- Bq -/
import Derived.Test.YtcaeonpjokkjnaaGreatQYn
import Derived.Test.YtcaeonpjokkjnaaGreatQBkp
set_option linter.unusedVariables false
/- Walk of the reference: Back. -/
namespace Go.Proofs.YtcaeonpjokkjnaaGreat
open Go Go.RowKit Go.Proofs

/-- The next number, as far as j of its terms are taken off. -/
def vB (us : List Rat) (k j : Nat) : Rat := nth us (k + 1) - pdot (bkL us k) (segL us k) j
theorem vB_zero {us : List Rat} {k : Nat} {r : Rat} (h : us[k + 1]? = some r) : vB us k 0 = r := by
  unfold vB nth pdot Go.Proofs.YtcaeonpjokkjnaaGreat.psum
  rw [h]
  simp
  grind
theorem vB_next {us : List Rat} {k j : Nat} {p q : Rat} (hp : (bkL us k)[j]? = some p) (hq : (segL us k)[j]? = some q) : vB us k j - p * q = vB us k (j + 1) := by
  unfold vB
  rw [← pdot_next (bkL us k) (segL us k) j p q hp hq]
  grind
theorem vB_full {us : List Rat} {k : Nat} (h : k + 1 ≤ us.length) : vB us k k = nth us (k + 1) - dotl (bkL us k) (segL us k) := by
  unfold vB pdot dotl Go.Proofs.YtcaeonpjokkjnaaGreat.psum
  rw [List.take_of_length_le (by rw [List.length_zipWith, bkL_length, segL_length h]; omega)]
theorem PQ.zz1 {n d : Int} {q : Rat} {B : Nat} (h : PQ n d q B) (hB : B ≤ 1000000 := by omega) : LZ n ≤ 1000000 := by
  have := h.2.2.1; omega
theorem PQ.zz2 {n d : Int} {q : Rat} {B : Nat} (h : PQ n d q B) (hB : B ≤ 1000000 := by omega) : LZ d ≤ 1000000 := by
  have := h.2.2.2; omega
theorem sg_rn {q : Rat} (h : sg (rn q) = 0) : q = 0 := by
  have h1 : rn q = 0 := by
    unfold sg at h
    split at h
    · omega
    · split at h <;> omega
  exact Rat.num_eq_zero.1 h1

set_option maxRecDepth 100000 in
set_option maxHeartbeats 6400000 in
theorem backR_any (n : Nat) (hn : n ≤ 40) (ao : Option Addr) (c m D U : Nat) (us : List Rat) (w : World) (hl : us.length = m) (hmn : n + 1 = m) (h : ZL w ao us) (hc : m ≤ c) (hB : Bs us n D U) (h4 : ∀ q ∈ us, Short4 q) :
    Calls Tryz.prog 39 #[.slice ao m c] w (RetZL w (bkL us n)) := by
  have hlH := Lib.hid hl
  have hP := Lib.hid h
  have hBH := Lib.hid hB
  have h4H := Lib.hid h4
  have hmnH := Lib.hid hmn
  have hm1 : (n : Int) + 1 = m := by omega
  clear h hl hB h4
  go_enter Tryz.func39, Tryz.ntmps39
  go_wp2_with (fail)
  obtain ⟨V, hV⟩ : ∃ V, V = w.alloc (Obj.cells #[] 46) := ⟨_, rfl⟩
  have hV0 : Hid (ZV V w.heap.size (.slice (some ⟨w.heap.size, 0, none⟩) 0 0) []) := by
    rw [hV]
    exact ZV.lit0 w w.heap.size (Nat.le_refl _)
  have hbV' : Below w.heap.size w V := by rw [hV]; go_grown
  have hbV := Lib.hid hbV'
  rw [← hV]
  clear hV hbV' hm1 hmn
  go_loopw [3, 4] (fun b i wr => ∃ k : Nat, i = .int .i64 ((k : Int) + 1) ∧ k ≤ n ∧ ZV wr w.heap.size b (bkL us k) ∧ Below w.heap.size w wr) (fun _ i _ => n + 1 - (intOf i).toNat)
  case atStart => exact ⟨0, rfl, by omega, hV0.out, hbV.out⟩
  case round =>
    obtain ⟨k, rfl, hk, hV, hbl⟩ := hrel
    obtain ⟨ab, cb, hbv⟩ := hV.shape
    subst hbv
    have htlH := Lib.hid (bkL_length us k)
    have hcap : k ≤ cb := by have := ZV.cap hV rfl; rw [bkL_length] at this; exact this
    rw [htlH.out] at hV ⊢
    have hVH := Lib.hid hV
    have hblH := Lib.hid hbl
    clear hV hbl
    have hmm := hmnH.out
    by_cases hkn : k < n
    · obtain ⟨r, hr⟩ : ∃ r, us[k + 1]? = some r := ⟨_, List.getElem?_eq_getElem (by rw [hlH.out]; omega)⟩
      obtain ⟨b1, o1, p1, rfl, hm1, e0, e1, e2, e3⟩ := (hP.out.below hblH.out) (k + 1) r hr
      have hkm : (k : Int) + 1 < (m : Int) := by omega
      have hkc : (k : Int) + 1 < (c : Int) := by omega
      have hk00 : (0 : Int) ≤ (k : Int) + 1 := by omega
      have hv0 := Lib.hid (vB_zero hr)
      have hrH := Lib.hid hr
      have hm1H := Lib.hid (show QM wr p1.a p1.c p1.a' p1.c' (rn r) (rd r) from hm1)
      have hQ0 := Lib.hid (QBox.new hm1)
      clear hm1 hr hmm
      go_wp2_with (fail)
      obtain ⟨V3, hV3e⟩ : ∃ V3, V3 = wr.alloc (Obj.cells #[.bool (ng (rn r)), .slice p1.a (LZ (rn r)) p1.c, .bool (ng (rd r)), .slice p1.a' (LZ (rd r)) p1.c'] 46) := ⟨_, rfl⟩
      rw [← hV3e] at hQ0 ⊢
      clear hV3e e0 e1 e2 e3
      generalize wr = wo at *
      go_loopw [6] (fun i wi => ∃ (j : Nat) (p : RP), i = .int .i64 ((j : Int) + 1) ∧ j ≤ k ∧ QBox wo wi wo.heap.size p (rn (vB us k j)) (rd (vB us k j))) (fun i _ => k + 1 - (intOf i).toNat)
      case atStart => exact ⟨0, p1, rfl, by omega, by rw [hv0.out]; exact hQ0.out⟩
      case round =>
        clear hQ0
        obtain ⟨j, p, rfl, hj, hQ⟩ := hrel
        have hQH := Lib.hid hQ
        obtain ⟨bm, x0, x1, x2, x3, hrg, hbw⟩ := hQ
        clear hrg
        have hbwH := Lib.hid hbw
        have hzg : wo.heap.size < wr.heap.size := World.block_lt_of_cell? wr _ x0
        have hmm := hmnH.out
        clear bm hbw
        by_cases hjk : j < k
        · obtain ⟨q, hq⟩ : ∃ q, (bkL us k)[j]? = some q := ⟨_, List.getElem?_eq_getElem (by rw [htlH.out]; exact hjk)⟩
          obtain ⟨r2, hr2⟩ : ∃ r2, us[k - j]? = some r2 := ⟨_, List.getElem?_eq_getElem (by rw [hlH.out]; omega)⟩
          have hsg : (segL us k)[j]? = some r2 := by rw [segL_at (by rw [hlH.out]; omega) hjk]; exact hr2
          obtain ⟨b2, o2, p2, rfl, hm2, e0, e1, e2, e3⟩ := ((ZV.ql hVH.out).below hbwH.out) j q hq
          obtain ⟨b3, o3, p3, hqe, hm3, f0, f1, f2, f3⟩ := ((hP.out.below hblH.out).below hbwH.out) (k - j) r2 hr2
          cases hqe
          have hnx := Lib.hid (vB_next hq hsg)
          have hM2 := Lib.hid (show QM wr p2.a p2.c p2.a' p2.c' (rn q) (rd q) from hm2)
          have hM3 := Lib.hid (show QM wr p3.a p3.c p3.a' p3.c' (rn r2) (rd r2) from hm3)
          have hb2 : b2 < wr.heap.size := World.block_lt_of_cell? wr _ e0
          have hb1 : b1 < wr.heap.size := World.block_lt_of_cell? wr _ f0
          have hk1 : (j : Int) + 1 < (k : Int) + 1 := by omega
          have hk4 : (k : Int) - (j : Int) = ((k - j : Nat) : Int) := by omega
          have hk5 : ((k - j : Nat) : Int) < (m : Int) := by omega
          have hk6 : (j : Int) < (k : Int) := by omega
          have hk7 : (k : Int) + 1 - ((j : Int) + 1) = ((k - j : Nat) : Int) := by omega
          have hk8 : (j : Int) + 1 - 1 = (j : Int) := by omega
          have hw1 : IntKind.i64.wrap (j : Int) = (j : Int) := by rw [IntKind.wrap_i64]; omega
          have hw2 : IntKind.i64.wrap ((k - j : Nat) : Int) = ((k - j : Nat) : Int) := by rw [IntKind.wrap_i64]; omega
          have hw3 : IntKind.i64.wrap ((k : Int) - (j : Int)) = ((k - j : Nat) : Int) := by rw [hk4]; exact hw2
          have hp4 := Lib.hid (PQ.low (hBH.out.all4 (k := k) (by omega) q (List.mem_of_getElem? hq)))
          have hr4 := Lib.hid (PQ.low (h4H.out r2 (List.mem_of_getElem? hr2)))
          have hv4 := Lib.hid (PQ.low (hBH.out.part4 hkn j))
          clear hm2 hm3 hq hr2 hsg hmm
          by_cases hs0 : sg (rn q) = 0
          · have hs0H := Lib.hid hs0
            have hsk : Hid (vB us k (j + 1) = vB us k j) := by show _ = _; rw [← hnx.out, sg_rn hs0]; grind
            clear hs0
            go_wp2_with (first
              | (go_at_call 48; go_loud (with_reducible refine (sign_z p2.a p2.c (rn q) 0 _ hs0H.out).mono ?_); rintro e w6 ⟨rfl, hb6⟩; have hQ6 := Lib.hid (hQH.out.step hb6)))
            go_roundw
            case rel => exact ⟨j + 1, p, by go_num, by omega, by rw [hsk.out]; exact hQ6.out⟩
            case measure => simp [intOf]; omega
          · obtain ⟨z, hz⟩ : ∃ z, sg (rn q) = z := ⟨_, rfl⟩
            have hzn : (z != 0) = true := by rw [← hz]; simp; exact hs0
            have hzH := Lib.hid hz
            clear hs0 hz
            by_cases hs1 : sg (rn r2) = 0
            · have hs1H := Lib.hid hs1
              have hsk : Hid (vB us k (j + 1) = vB us k j) := by show _ = _; rw [← hnx.out, sg_rn hs1]; grind
              clear hs1
              go_wp2_with (first
                | (go_at_call 48; (with_reducible refine (sign_z p2.a p2.c (rn q) z _ hzH.out).mono ?_); rintro e w6 ⟨rfl, hb6⟩; have hQ6 := Lib.hid (hQH.out.step hb6); have d0 := Below.cellAt hb6 (Nat.le_refl _) f0; have d1 := Below.cellAt hb6 (Nat.le_refl _) f1)
                | (go_at_call 48; go_loud (with_reducible refine (sign_z p3.a p3.c (rn r2) 0 _ hs1H.out).mono ?_); rintro e w7 ⟨rfl, hb7⟩; have hQ7 := Lib.hid (hQ6.out.step hb7)))
              go_roundw
              case rel => exact ⟨j + 1, p, by go_num, by omega, by rw [hsk.out]; exact hQ7.out⟩
              case measure => simp [intOf]; omega
            · obtain ⟨y, hy⟩ : ∃ y, sg (rn r2) = y := ⟨_, rfl⟩
              have hyn : (y != 0) = true := by rw [← hy]; simp; exact hs1
              have hyH := Lib.hid hy
              clear hs1 hy
              have hpm := Lib.hid (hp4.out.mul hr4.out)
              have hps := Lib.hid (hv4.out.sub hpm.out)
              have hz1 := Lib.hid (hp4.out.szq (by omega))
              have hz2 := Lib.hid (hr4.out.szq (by omega))
              have hz3 := Lib.hid (hpm.out.szq (by omega))
              have hz4 := Lib.hid (show SzQ (rn (vB us k j)) (rd (vB us k j)) from hv4.out.szq (by omega))
              have hA := Lib.hid (show Rat.divInt (rn (vB us k j) * (rd q * rd r2) - rn q * rn r2 * rd (vB us k j)) (rd (vB us k j) * (rd q * rd r2)) = vB us k (j + 1) by rw [← hnx.out]; exact hps.out.2.1)
              have hB1 := Lib.hid (show LZ (rn (vB us k j) * (rd q * rd r2) - rn q * rn r2 * rd (vB us k j)) ≤ 1000000 from hps.out.zz1)
              have hB2 := Lib.hid (show LZ (rd (vB us k j) * (rd q * rd r2)) ≤ 1000000 from hps.out.zz2)
              have hB3 := Lib.hid (show 0 < rd (vB us k j) * (rd q * rd r2) from hps.out.1)
              go_wp2_with (first
                | (go_at_call 48; (with_reducible refine (sign_z p2.a p2.c (rn q) z _ hzH.out).mono ?_); rintro e w6 ⟨rfl, hb6⟩; have q6 := Lib.hid (bseqZ (Below.refl wr.heap.size wr) hb6); have d0 := Below.cellAt hb6 (Nat.le_refl _) f0; have d1 := Below.cellAt hb6 (Nat.le_refl _) f1)
                | (go_at_call 48; go_loud (with_reducible refine (sign_z p3.a p3.c (rn r2) y _ hyH.out).mono ?_); rintro e w7 ⟨rfl, hb7⟩; have q7 := Lib.hid (bseqZ q6.out hb7)))
              have hQ7 := Lib.hid (hQH.out.step q7.out)
              obtain ⟨bm7, y0, y1, y2, y3, _, _⟩ := hQ7.out
              have hM7 := Lib.hid (show QM w7 p.a p.c p.a' p.c' (rn (vB us k j)) (rd (vB us k j)) from bm7)
              have g0 := Below.cellAt q7.out (Nat.le_refl _) e0
              have g1 := Below.cellAt q7.out (Nat.le_refl _) e1
              have g2 := Below.cellAt q7.out (Nat.le_refl _) e2
              have g3 := Below.cellAt q7.out (Nat.le_refl _) e3
              have h0 := Below.cellAt q7.out (Nat.le_refl _) f0
              have h1 := Below.cellAt q7.out (Nat.le_refl _) f1
              have h2 := Below.cellAt q7.out (Nat.le_refl _) f2
              have h3 := Below.cellAt q7.out (Nat.le_refl _) f3
              have hN2 := Lib.hid (QM.up hM2.out q7.out)
              have hN3 := Lib.hid (QM.up hM3.out q7.out)
              have hbb1 : b2 < w7.heap.size := by have := q7.out.size; omega
              have hbb2 : b1 < w7.heap.size := by have := q7.out.size; omega
              have hbb3 : wo.heap.size < w7.heap.size := by have := q7.out.size; omega
              clear e0 e1 e2 e3 f0 f1 f2 f3 d0 d1 x0 x1 x2 x3 bm7 hb6 hb7
              go_region_with (first
                | (go_at_call 31; go_loud (with_reducible refine (mulq_any p2.a p2.c p2.a' p2.c' p3.a p3.c p3.a' p3.c' (rn q) (rd q) (rn r2) (rd r2) _ (QM.up hN2.out (Below.refl _ _).drew) (QM.up hN3.out (Below.refl _ _).drew) hz1.out hz2.out).mono ?_); rintro e w8 ⟨a8, d8, a8', d8', rfl, hm8, hb8⟩; have q8 := Lib.hid (bseqZ (Below.refl w7.heap.size w7).drew hb8); have hQ8 := Lib.hid (hQ7.out.step q8.out); obtain ⟨_, v0, v1, v2, v3, _, _⟩ := hQ8.out)
                | (go_at_call 59; go_loud (with_reducible refine (subq_any p.a p.c p.a' p.c' a8 d8 a8' d8' (rn (vB us k j)) (rd (vB us k j)) (rn q * rn r2) (rd q * rd r2) _ (QM.up hM7.out q8.out) hm8 hz4.out hz3.out).mono ?_); rintro e w9 ⟨a9, d9, a9', d9', rfl, hm9, hb9⟩)
                | (go_at_call 33; go_loud (with_reducible refine (lowest_q a9 d9 a9' d9' (rn (vB us k j) * (rd q * rd r2) - rn q * rn r2 * rd (vB us k j)) (rd (vB us k j) * (rd q * rd r2)) (vB us k (j + 1)) _ hm9 hB1.out hB2.out hB3.out hA.out).mono ?_); rintro e w10 ⟨a10, d10, a10', d10', rfl, hm10, hb10⟩; have hQ10 := Lib.hid ((hQ8.out.step hb9).step hb10); obtain ⟨_, t2, t3, t5, _⟩ := hQ10.out.2.2.2.2.2.1))
              all_goals go_wp2_with (fail)
              all_goals (
                go_roundw
                case rel => exact ⟨j + 1, ⟨a10, d10, a10', d10'⟩, by go_num, by omega, hQ10.out.store hm10⟩
                case measure => simp [intOf]; omega)
        · have hjj : ¬ (j : Int) + 1 < (k : Int) + 1 := by omega
          have hje : j = k := by omega
          subst hje
          have hfull : Hid (vB us j j = r - dotl (bkL us j) (segL us j)) := by
            show _ = _
            rw [vB_full (by rw [hlH.out]; omega)]; unfold nth; rw [hrH.out]; rfl
          have hnx : Hid (bkL us j ++ [vB us j j] = bkL us (j + 1)) := by
            show _ = _
            rw [vB_full (by rw [hlH.out]; omega)]; rfl
          have hv4 := Lib.hid (show PQ (rn (vB us j j)) (rd (vB us j j)) (vB us j j) 1000 from PQ.low (hBH.out.part4 hkn j))
          have hA := Lib.hid hv4.out.2.1
          have hB1 := Lib.hid hv4.out.zz1
          have hB2 := Lib.hid hv4.out.zz2
          have hB3 := Lib.hid hv4.out.1
          have hM := Lib.hid (show QM wr p.a p.c p.a' p.c' (rn (vB us j j)) (rd (vB us j j)) from hQH.out.1)
          have hVw := Lib.hid (hVH.out.below hbwH.out)
          have hbx := Lib.hid (bseqZ hblH.out hbwH.out)
          clear hmm
          go_wp2_with (first
            | (go_at_call 33; go_loud (with_reducible refine (lowest_q p.a p.c p.a' p.c' (rn (vB us j j)) (rd (vB us j j)) (vB us j j) _ hM.out hB1.out hB2.out hB3.out hA.out).mono ?_); rintro e w5 ⟨a5, d5, a5', d5', rfl, hm5, hb5⟩; have hb5H := Lib.hid (bseqZ hbx.out hb5); have hV5 := Lib.hid (hVw.out.below hb5); have hM5 := Lib.hid (show ZRp w5 ⟨a5, d5, a5', d5'⟩ (vB us j j) from hm5); have hs5 := hb5H.out.size; clear hm5 hb5)
            | (at_builtin; go_loud (refine wpList_append_q _ rfl (.tmp 57) (.tmp 60) _ rfl Tryz.underlying31 w.heap.size j (.slice ab j cb) (bkL us j) (vB us j j) ⟨a5, d5, a5', d5'⟩ rfl (hV5.out.below ((Below.refl _ _).alloc (Nat.le_refl _) _)) htlH.out w5.heap.size rfl (by omega) (by simp; omega) (by simp [go_sem]) (by simp [go_sem]) (by simp [go_sem]) (by simp [go_sem]) (hM5.out.up ((Below.refl _ _).alloc (Nat.le_refl _) _)) ?_); intro v' w6 hv6 hg6; rw [hnx.out] at hv6; have hb6 := Lib.hid ((hb5H.out.alloc hs5 _).grown hg6 (by simp; omega) (fun g hg => (hVH.out.lt g hg).1)); clear hg6))
          go_roundw
          case rel => exact ⟨j + 1, by go_num, by omega, hv6, hb6.out⟩
          case measure => simp [intOf]; omega
    · have hke : k = n := by omega
      subst hke
      have hkm : ¬ (k : Int) + 1 < (m : Int) := by omega
      clear hmm
      go_wp2_with (fail)
      go_ret
      refine ⟨ab, cb, by rw [htlH.out]; rfl, ?_, hblH.out⟩
      rw [htlH.out]
      exact hVH.out

end Go.Proofs.YtcaeonpjokkjnaaGreat
