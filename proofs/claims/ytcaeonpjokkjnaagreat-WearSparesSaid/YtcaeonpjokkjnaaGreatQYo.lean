/- Yo -/
import Derived.Test.YtcaeonpjokkjnaaGreatQYm
import Derived.Test.YtcaeonpjokkjnaaGreatQAg
import Derived.Test.YtcaeonpjokkjnaaGreatQSte
import Derived.Deep.RegionHeld3
set_option linter.unusedVariables false
/- Walks of the reference: Ages, Hazards. -/
namespace Go.Proofs.YtcaeonpjokkjnaaGreat
open Go Go.RowKit Go.Proofs

theorem take_next {l : List Rat} {k : Nat} {q : Rat} (h : l[k]? = some q) : l.take k ++ [q] = l.take (k + 1) := by
  rw [List.take_add_one, h]; rfl
theorem PQ.z1 {n d : Int} {q : Rat} {B : Nat} (h : PQ n d q B) (hB : B ≤ 1000000 := by omega) : LZ n ≤ 1000000 := by
  have := h.2.2.1; omega
theorem PQ.z2 {n d : Int} {q : Rat} {B : Nat} (h : PQ n d q B) (hB : B ≤ 1000000 := by omega) : LZ d ≤ 1000000 := by
  have := h.2.2.2; omega

set_option maxRecDepth 100000 in
set_option maxHeartbeats 6400000 in
theorem agesR_any (ao : Option Addr) (c m : Nat) (ps : List Rat) (w : World) (hl : ps.length = m) (h : ZL w ao ps) (hm12 : m ≤ 12) (hmc : m ≤ c) (h1 : ps.sum = 1) (h0 : ∀ p ∈ ps, 0 ≤ p) (hp4 : ∀ p ∈ ps, Short4 p) (hm4 : Short4 (meanQ ps)) (hl4 : ∀ j, Short4 (left ps j)) (hmp : 0 < meanQ ps) :
    Calls Tryz.prog 42 #[.slice ao m c] w (RetZL w (agesL ps)) := by
  have hlH := Lib.hid hl
  have hP := Lib.hid h
  have hp4H := Lib.hid hp4
  have h0H := Lib.hid h0
  have h1H := Lib.hid h1
  have hm4H := Lib.hid hm4
  have hl4H := Lib.hid hl4
  have hmpH := Lib.hid hmp
  have hrl : Hid ((agesL ps).length = m) := by show _ = _; rw [agesL_length]; exact hl
  clear h hl h1 h0 hp4 hm4 hl4 hmp
  go_enter Tryz.func42, Tryz.ntmps42
  go_wp2_with (first
    | (go_at_call 41; go_loud (with_reducible refine (meanR_any ao c m ps _ hlH.out hP.out hm12 hmc h1H.out h0H.out hp4H.out hm4H.out).mono ?_); rintro e w1 ⟨a1, d1, a1', d1', rfl, hm1, hb1⟩))
  obtain ⟨V, hV⟩ : ∃ V, V = (w1.alloc (Obj.cells #[.bool (ng (rn (meanQ ps))), .slice a1 (LZ (rn (meanQ ps))) d1, .bool (ng (rd (meanQ ps))), .slice a1' (LZ (rd (meanQ ps))) d1'] 46)).alloc (Obj.cells #[] 46) := ⟨_, rfl⟩
  have hCB : Hid (CB V w1.heap.size ⟨a1, d1, a1', d1'⟩ (rn (meanQ ps)) (rd (meanQ ps))) := by rw [hV]; exact (CB.new hm1).up ((Below.refl _ _).alloc (Nat.le_refl _) _)
  have hV0 : Hid (ZV V (w1.heap.size + 1) (.slice (some ⟨w1.heap.size + 1, 0, none⟩) 0 0) []) := by
    have h2 := ZV.lit0 (w1.alloc (Obj.cells #[.bool (ng (rn (meanQ ps))), .slice a1 (LZ (rn (meanQ ps))) d1, .bool (ng (rd (meanQ ps))), .slice a1' (LZ (rd (meanQ ps))) d1'] 46)) (w1.heap.size + 1) (by simp)
    rw [show (w1.alloc (Obj.cells #[.bool (ng (rn (meanQ ps))), .slice a1 (LZ (rn (meanQ ps))) d1, .bool (ng (rd (meanQ ps))), .slice a1' (LZ (rd (meanQ ps))) d1'] 46)).heap.size = w1.heap.size + 1 by simp] at h2
    rw [hV]
    exact h2
  have hb1V : Below w1.heap.size w1 V := by rw [hV]; go_grown
  have hbV := Lib.hid (bseqZ hb1 hb1V)
  have hb1H := Lib.hid hb1V
  have hm1H := Lib.hid (show QM w1 a1 d1 a1' d1' (rn (meanQ ps)) (rd (meanQ ps)) from hm1)
  have hsV : w1.heap.size + 1 < V.heap.size := by rw [hV]; simp
  have hs1 : w.heap.size ≤ w1.heap.size := hb1.size
  have hVH := Lib.hid hV
  rw [← hV]
  clear hV hb1V hm1 hb1
  go_loopw [5, 6] (fun b i wr => ∃ k : Nat, i = .int .i64 (k : Nat) ∧ k ≤ m ∧ ZV wr (w1.heap.size + 1) b ((agesL ps).take k) ∧ Below (w1.heap.size + 1) V wr ∧ V.heap.size ≤ wr.heap.size) (fun _ i _ => m - (intOf i).toNat)
  case atStart => exact ⟨0, rfl, by omega, hV0.out, Below.refl _ _, Nat.le_refl _⟩
  case round =>
    obtain ⟨k, rfl, hk, hV, hbl, hsz⟩ := hrel
    obtain ⟨ab, cb, hbv⟩ := hV.shape
    subst hbv
    have htl : ((agesL ps).take k).length = k := by rw [List.length_take, hrl.out]; omega
    have htlH := Lib.hid htl
    rw [htl] at hV ⊢
    have hVkH := Lib.hid hV
    have hblH := Lib.hid hbl
    clear hV htl hbl
    have hbw0 := Lib.hid (hbV.out.trans (hblH.out.mono (by omega)))
    by_cases hkm : k < m
    · have hkk : (k : Int) < m := by omega
      have x0 := cell_b hblH.out (by omega) hCB.out.2.1
      have x1 := cell_b hblH.out (by omega) hCB.out.2.2.1
      have x2 := cell_b hblH.out (by omega) hCB.out.2.2.2.1
      have x3 := cell_b hblH.out (by omega) hCB.out.2.2.2.2
      have hPk := Lib.hid (hP.out.below hbw0.out)
      have hM1 := Lib.hid (QM.up hm1H.out (hb1H.out.trans (hblH.out.mono (by omega))))
      have hgb : w1.heap.size < wr.heap.size := by omega
      have pL := Lib.hid (PQ.low (hl4H.out k))
      have pM := Lib.hid (PQ.low hm4H.out)
      have hn0 := Lib.hid (pM.out.numpos hmpH.out)
      have hd0 := Lib.hid pL.out.1
      have hz1 := Lib.hid (pL.out.szq (by omega))
      have hz2 := Lib.hid (pM.out.szq (by omega))
      have hdv := Lib.hid (pL.out.div pM.out hn0.out)
      have hB1 := Lib.hid (hdv.out.z1)
      have hB2 := Lib.hid (hdv.out.z2)
      have hB3 := Lib.hid hdv.out.1
      have hA := Lib.hid hdv.out.2.1
      have hnx := Lib.hid (take_next (agesL_at (ps := ps) (k := k) (by rw [hlH.out]; exact hkm)))
      have hk00 : (0 : Int) ≤ (k : Int) := by omega
      clear hkm
      go_wp2_with (fail)
      have hc0 : Hid (C4 wr w1.heap.size 0 (.bool (ng (rn (meanQ ps)))) (.slice a1 (LZ (rn (meanQ ps))) d1) (.bool (ng (rd (meanQ ps)))) (.slice a1' (LZ (rd (meanQ ps))) d1')) := ⟨x0, x1, x2, x3⟩
      have hownH := Lib.hid hVkH.out.lt
      have hne : Hid (∀ j, (Value.slice ab k cb).ownBlock = some j → w1.heap.size ≠ j) := fun j hj => by have h1 := (hownH.out j hj).1; omega
      go_region_held3 (fun w' => Cells4 w' w1.heap.size (.bool (ng (rn (meanQ ps)))) (.slice a1 (LZ (rn (meanQ ps))) d1) (.bool (ng (rd (meanQ ps)))) (.slice a1' (LZ (rd (meanQ ps))) d1'))
        (((show C4 _ _ 0 _ _ _ _); first | (with_reducible exact hc6.out) | (with_reducible exact hc5.out.al _) | (with_reducible exact hc5.out) | (with_reducible exact hc9.out) | (with_reducible exact hc2.out) | (with_reducible exact hc0.out.drew)))
        (first
        | (go_at_call 32; go_loud (with_reducible refine (above_l k m (k : Int) rfl ao c ps _ hlH.out h1H.out (hPk.out.below (Below.refl _ _).drew) hm12 (by omega) hp4H.out).mono ?_); rintro e w2 ⟨a2, d2, a2', d2', rfl, hm2, hb2⟩; have hM2 := Lib.hid (QM.up (QM.up hM1.out (Below.refl _ _).drew) hb2); have hb2H := Lib.hid (bseqZ (Below.refl _ _).drew hb2); have hc2 := Lib.hid (hc0.out.up hb2H.out))
        | (go_at_call 60; go_loud (with_reducible refine (divq_any a2 d2 a2' d2' a1 d1 a1' d1' (rn (left ps k)) (rd (left ps k)) (rn (meanQ ps)) (rd (meanQ ps)) _ hm2 hM2.out hz1.out hz2.out hn0.out hd0.out).mono ?_); rintro e w9 ⟨a9, d9, a9', d9', rfl, hm9, hb9⟩; have hc9 := Lib.hid (hc2.out.up hb9))
        | (go_at_call 33; go_loud (with_reducible refine (lowest_q a9 d9 a9' d9' (rn (left ps k) * rd (meanQ ps)) (rd (left ps k) * rn (meanQ ps)) (left ps k / meanQ ps) _ hm9 hB1.out hB2.out hB3.out hA.out).mono ?_); rintro e w5 ⟨a5, d5, a5', d5', rfl, hm5, hb5⟩; have hc5 := Lib.hid (hc9.out.up hb5); have hb25 := bseqZ hb2H.out (bseqZ hb9 hb5); have hb5H := Lib.hid (hblH.out.trans (hb25.mono (by omega))); have hV5 := Lib.hid (hVkH.out.below hb25); have hM5 := Lib.hid (show ZRp w5 ⟨a5, d5, a5', d5'⟩ (left ps k / meanQ ps) from hm5); have hs5 := hb25.size; clear hm5 hb5 hm9 hb9 hb25)
        | ((refine step_append_q rfl (.tmp 19) (.tmp 26) _ rfl Tryz.underlying31 (w1.heap.size + 1) k (.slice ab k cb) ((agesL ps).take k) (left ps k / meanQ ps) ⟨a5, d5, a5', d5'⟩ rfl (hV5.out.below ((Below.refl _ _).alloc (Nat.le_refl _) _)) htlH.out w5.heap.size rfl (by omega) (by simp; omega) (by simp [go_sem]) (by simp [go_sem]) (by simp [go_sem]) (by simp [go_sem]) (hM5.out.up ((Below.refl _ _).alloc (Nat.le_refl _) _)) ?_); intro v' w6 hv6 hg6; rw [hnx.out] at hv6; have hv6H := Lib.hid hv6; have hb6 := Lib.hid ((hb5H.out.alloc (by omega) _).grown hg6 (by simp; omega) (fun g hg => (hownH.out g hg).1)); have hc6 := Lib.hid (C4.grown (v := .slice ab k cb) (hc5.out.al _) hg6 hne.out); clear hv6 hg6))
      go_wp2_with (fail)
      go_roundw
      case rel => exact ⟨k + 1, by go_num, by omega, hv6H.out, hb6.out, by have := hb6.out.size; omega⟩
      case measure => simp [intOf]; omega
    · have hkk : ¬ (k : Int) < m := by omega
      have hke : k = m := by omega
      subst hke
      have hall : Hid ((agesL ps).take k = agesL ps) := by show _ = _; rw [List.take_of_length_le (by rw [hrl.out]; exact Nat.le_refl _)]
      go_wp2_with (fail)
      go_ret
      refine ⟨ab, cb, by rw [hrl.out]; rfl, ?_, hbw0.out⟩
      rw [hrl.out]
      have h9 := hVkH.out
      rw [hall.out] at h9
      exact h9.base (by omega)

set_option maxRecDepth 100000 in
set_option maxHeartbeats 6400000 in
theorem hazardsR_any (ao : Option Addr) (c m : Nat) (ps : List Rat) (w : World) (hl : ps.length = m) (h : ZL w ao ps) (hm12 : m ≤ 12) (hmc : m ≤ c) (h1 : ps.sum = 1) (hp4 : ∀ p ∈ ps, Short4 p) (hl4 : ∀ j, Short4 (left ps j)) (hlp : ∀ j, j < m → 0 < left ps j) :
    Calls Tryz.prog 43 #[.slice ao m c] w (RetZL w (hazL ps)) := by
  have hlH := Lib.hid hl
  have hP := Lib.hid h
  have hp4H := Lib.hid hp4
  have h1H := Lib.hid h1
  have hl4H := Lib.hid hl4
  have hlpH := Lib.hid hlp
  have hrl : Hid ((hazL ps).length = m) := by show _ = _; rw [hazL_length]; exact hl
  clear h hl h1 hp4 hl4 hlp
  go_enter Tryz.func43, Tryz.ntmps43
  go_wp2_with (fail)
  obtain ⟨V, hV⟩ : ∃ V, V = w.alloc (Obj.cells #[] 46) := ⟨_, rfl⟩
  have hV0 : Hid (ZV V w.heap.size (.slice (some ⟨w.heap.size, 0, none⟩) 0 0) []) := by
    rw [hV]
    exact ZV.lit0 w w.heap.size (Nat.le_refl _)
  have hbV' : Below w.heap.size w V := by rw [hV]; go_grown
  have hbV := Lib.hid hbV'
  have hsV : w.heap.size < V.heap.size := by rw [hV]; simp
  have hVH := Lib.hid hV
  rw [← hV]
  clear hV hbV'
  go_loopw [3, 4] (fun b i wr => ∃ k : Nat, i = .int .i64 ((k : Int) + 1) ∧ k ≤ m ∧ ZV wr w.heap.size b ((hazL ps).take k) ∧ Below w.heap.size V wr ∧ V.heap.size ≤ wr.heap.size) (fun _ i _ => m + 1 - (intOf i).toNat)
  case atStart => exact ⟨0, rfl, by omega, hV0.out, Below.refl _ _, Nat.le_refl _⟩
  case round =>
    obtain ⟨k, rfl, hk, hV, hbl, hsz⟩ := hrel
    obtain ⟨ab, cb, hbv⟩ := hV.shape
    subst hbv
    have htl : ((hazL ps).take k).length = k := by rw [List.length_take, hrl.out]; omega
    have htlH := Lib.hid htl
    rw [htl] at hV ⊢
    have hVkH := Lib.hid hV
    have hblH := Lib.hid hbl
    clear hV htl hbl
    have hbw0 := Lib.hid (hbV.out.trans (hblH.out.mono (by omega)))
    by_cases hkm : k < m
    · have hkk : (k : Int) + 1 ≤ m := by omega
      have hPk := Lib.hid (hP.out.below hbw0.out)
      obtain ⟨q, hq⟩ : ∃ q, ps[k]? = some q := ⟨_, List.getElem?_eq_getElem (by rw [hlH.out]; exact hkm)⟩
      obtain ⟨b1, o1, p1, rfl, hm1, x0, x1, x2, x3⟩ := hPk.out k q hq
      obtain ⟨b8, o8, p8, hq8, _, f8, _⟩ := hP.out k q hq
      cases hq8
      have hblt : b1 < w.heap.size := World.block_lt_of_cell? w _ f8
      clear f8
      have hk00 : (0 : Int) ≤ (k : Int) := by omega
      have hM1 := Lib.hid (show QM wr p1.a p1.c p1.a' p1.c' (rn q) (rd q) from hm1)
      have hgb : b1 < wr.heap.size := World.block_lt_of_cell? wr _ x0
      have hk2 : (k : Int) < c := by omega
      have hk6 : (k : Int) < m := by omega
      have hk8 : (k : Int) + 1 - 1 = (k : Int) := by omega
      have hw1 : IntKind.i64.wrap (k : Int) = (k : Int) := by rw [IntKind.wrap_i64]; omega
      have pL := Lib.hid (PQ.low (hl4H.out k))
      have pM := Lib.hid (PQ.low (hp4H.out q (List.mem_of_getElem? hq)))
      have hn0 := Lib.hid (pL.out.numpos (hlpH.out k hkm))
      have hd0 := Lib.hid pM.out.1
      have hz1 := Lib.hid (pM.out.szq (by omega))
      have hz2 := Lib.hid (pL.out.szq (by omega))
      have hdv := Lib.hid (pM.out.div pL.out hn0.out)
      have hB1 := Lib.hid (hdv.out.z1)
      have hB2 := Lib.hid (hdv.out.z2)
      have hB3 := Lib.hid hdv.out.1
      have hhz : hazQ ps k = q / left ps k := by unfold hazQ nth; rw [hq]; rfl
      have hA := Lib.hid (show Rat.divInt (rn q * rd (left ps k)) (rd q * rn (left ps k)) = hazQ ps k by rw [hhz]; exact hdv.out.2.1)
      have hnx := Lib.hid (take_next (hazL_at (ps := ps) (k := k) (by rw [hlH.out]; exact hkm)))
      clear hkm hm1 hhz hq
      go_wp2_with (fail)
      have hc0 : Hid (C4 wr b1 (o1 + k * 4) (.bool (ng (rn q))) (.slice p1.a (LZ (rn q)) p1.c) (.bool (ng (rd q))) (.slice p1.a' (LZ (rd q)) p1.c')) := ⟨x0, x1, x2, x3⟩
      have hownH := Lib.hid hVkH.out.lt
      have hne : Hid (∀ j, (Value.slice ab k cb).ownBlock = some j → b1 ≠ j) := fun j hj => by have h1 := (hownH.out j hj).1; omega
      go_region_held3 (fun w' => C4 w' b1 (o1 + k * 4) (.bool (ng (rn q))) (.slice p1.a (LZ (rn q)) p1.c) (.bool (ng (rd q))) (.slice p1.a' (LZ (rd q)) p1.c'))
        (first | (with_reducible exact hc6.out) | (with_reducible exact hc5.out.al _) | (with_reducible exact hc5.out) | (with_reducible exact hc9.out) | (with_reducible exact hc2.out) | (with_reducible exact hc0.out.drew))
        (first
        | (go_at_call 32; go_loud (with_reducible refine (above_l k m (k : Int) rfl _ c ps _ hlH.out h1H.out (hPk.out.below (Below.refl _ _).drew) hm12 (by omega) hp4H.out).mono ?_); rintro e w2 ⟨a2, d2, a2', d2', rfl, hm2, hb2⟩; have hM2 := Lib.hid (QM.up (QM.up hM1.out (Below.refl _ _).drew) hb2); have hb2H := Lib.hid (bseqZ (Below.refl _ _).drew hb2); have hc2 := Lib.hid (hc0.out.up hb2H.out))
        | (go_at_call 60; go_loud (with_reducible refine (divq_any p1.a p1.c p1.a' p1.c' a2 d2 a2' d2' (rn q) (rd q) (rn (left ps k)) (rd (left ps k)) _ hM2.out hm2 hz1.out hz2.out hn0.out hd0.out).mono ?_); rintro e w9 ⟨a9, d9, a9', d9', rfl, hm9, hb9⟩; have hc9 := Lib.hid (hc2.out.up hb9))
        | (go_at_call 33; go_loud (with_reducible refine (lowest_q a9 d9 a9' d9' (rn q * rd (left ps k)) (rd q * rn (left ps k)) (hazQ ps k) _ hm9 hB1.out hB2.out hB3.out hA.out).mono ?_); rintro e w5 ⟨a5, d5, a5', d5', rfl, hm5, hb5⟩; have hc5 := Lib.hid (hc9.out.up hb5); have hb25 := bseqZ hb2H.out (bseqZ hb9 hb5); have hb5H := Lib.hid (hblH.out.trans (hb25.mono (by omega))); have hV5 := Lib.hid (hVkH.out.below hb25); have hM5 := Lib.hid (show ZRp w5 ⟨a5, d5, a5', d5'⟩ (hazQ ps k) from hm5); have hs5 := hb25.size; clear hm5 hb5 hm9 hb9 hb25)
        | ((refine step_append_q rfl (.tmp 12) (.tmp 24) _ rfl Tryz.underlying31 w.heap.size k (.slice ab k cb) ((hazL ps).take k) (hazQ ps k) ⟨a5, d5, a5', d5'⟩ rfl (hV5.out.below ((Below.refl _ _).alloc (Nat.le_refl _) _)) htlH.out w5.heap.size rfl (by omega) (by simp; omega) (by simp [go_sem]) (by simp [go_sem]) (by simp [go_sem]) (by simp [go_sem]) (hM5.out.up ((Below.refl _ _).alloc (Nat.le_refl _) _)) ?_); intro v' w6 hv6 hg6; rw [hnx.out] at hv6; have hv6H := Lib.hid hv6; have hb6 := Lib.hid ((hb5H.out.alloc (by omega) _).grown hg6 (by simp; omega) (fun g hg => (hownH.out g hg).1)); have hc6 := Lib.hid (C4.grown (v := .slice ab k cb) (hc5.out.al _) hg6 hne.out); clear hv6 hg6))
      go_wp2_with (fail)
      go_roundw
      case rel => exact ⟨k + 1, by go_num, by omega, hv6H.out, hb6.out, by have := hb6.out.size; omega⟩
      case measure => simp [intOf]; omega
    · have hkk : ¬ (k : Int) + 1 ≤ m := by omega
      have hke : k = m := by omega
      subst hke
      have hall : Hid ((hazL ps).take k = hazL ps) := by show _ = _; rw [List.take_of_length_le (by rw [hrl.out]; exact Nat.le_refl _)]
      go_wp2_with (fail)
      go_ret
      refine ⟨ab, cb, by rw [hrl.out]; rfl, ?_, hbw0.out⟩
      rw [hrl.out]
      have h9 := hVkH.out
      rw [hall.out] at h9
      exact h9.base (by omega)

end Go.Proofs.YtcaeonpjokkjnaaGreat
