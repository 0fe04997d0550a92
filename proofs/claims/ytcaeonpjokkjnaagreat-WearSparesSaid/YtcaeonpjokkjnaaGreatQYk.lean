/- Yk -/
import Derived.Test.YtcaeonpjokkjnaaGreatQYi
set_option linter.unusedVariables false
/- Walk of the reference: Above. -/
namespace Go.Proofs.YtcaeonpjokkjnaaGreat
open Go Go.RowKit Go.Proofs

set_option maxRecDepth 100000 in
set_option maxHeartbeats 3200000 in
theorem aboveR_any (j m : Nat) (ao : Option Addr) (c : Nat) (ps : List Rat) (w : World) (hl : ps.length = m) (h : ZL w ao ps) (hm12 : m ≤ 12) (hj : j ≤ 1000) (hp4 : ∀ p ∈ ps, Short4 p) :
    Calls Tryz.prog 32 #[.slice ao m c, .int .i64 (j : Nat)] w (RetQ w (rn (ps.drop j).sum) (rd (ps.drop j).sum)) := by
  have hlH := Lib.hid hl
  have hpH := Lib.hid hp4
  obtain ⟨W, hW⟩ : ∃ W, W = w.alloc (Obj.cells #[.bool false, .slice none 0 0, .bool false, .slice none 0 0] 46) := ⟨_, rfl⟩
  have HR : Hid (Rg w.heap.size 4 W W) := by rw [hW]; exact Rg.new4 _ _ _ rfl
  have hbW' : Below w.heap.size w W := by rw [hW]; go_grown
  have hbW := Lib.hid hbW'
  have hH := Lib.hid (h.below hbW')
  have hWH := Lib.hid hW
  have hmx : max 0 (j : Int) = (j : Int) := by omega
  clear hW hbW' h hl hp4
  go_enter Tryz.func32, Tryz.ntmps32
  go_wp2_with (first
    | (go_at_call 29; rw [← hWH.out]; go_loud (with_reducible refine (whole0 _).mono ?_); rintro e w3 ⟨a3, c3, a3', c3', rfl, hm3, hb3⟩; have hz3 : w.heap.size < w3.heap.size := (by have := HR.out.lt (by omega); have := hb3.size; omega)))
  have hQ0 := Lib.hid (QBox.new hm3)
  have hS3 := Lib.hid (hH.out.below hb3)
  have HR3 := Lib.hid (Rg.slf (Rg.step HR.out (by omega) hb3))
  have hb3H := Lib.hid (bseqZ hbW.out hb3)
  obtain ⟨V3, hV3e⟩ : ∃ V3, V3 = w3.alloc (Obj.cells #[.bool (ng 0), .slice a3 (LZ 0) c3, .bool (ng 1), .slice a3' (LZ 1) c3'] 46) := ⟨_, rfl⟩
  rw [← hV3e] at hQ0 ⊢
  clear hV3e hm3 hb3 hmx
  go_loopw [6] (fun i wr => ∃ (t : Nat) (p : RP) (sn sd : Int), i = .int .i64 ((j + t : Nat) : Int) ∧ t ≤ m ∧ (t = 0 ∨ j + t ≤ m) ∧ QBox w3 wr w3.heap.size p sn sd ∧ PQ sn sd (psum (ps.drop j) t) (1 + 1001 * t)) (fun i _ => m - (intOf i).toNat)
  case atStart => exact ⟨0, _, 0, 1, by simp, by omega, Or.inl rfl, hQ0.out, by rw [show psum (ps.drop j) 0 = 0 by simp [psum]]; exact PQ.zero⟩
  case round =>
    obtain ⟨t, p, sn, sd, rfl, ht, ht2, hQ, hPQ⟩ := hrel
    have hQH := Lib.hid hQ
    have hPH := Lib.hid hPQ
    obtain ⟨bm, x0, x1, x2, x3, _, hbw⟩ := hQ
    have hM := Lib.hid (show QM wr p.a p.c p.a' p.c' sn sd from bm)
    have hzg : w3.heap.size < wr.heap.size := World.block_lt_of_cell? wr _ x0
    clear hPQ bm
    by_cases hjt : j + t < m
    · obtain ⟨q, hq⟩ : ∃ q, ps[j + t]? = some q := ⟨_, List.getElem?_eq_getElem (by rw [hlH.out]; exact hjt)⟩
      obtain ⟨b1, o1, p1, rfl, hm1, e0, e1, e2, e3⟩ := (hS3.out.below hbw) (j + t) q hq
      have hnx := Lib.hid (psum_next (ps.drop j) t q (by rw [List.getElem?_drop]; exact hq))
      have hq4 := Lib.hid (PQ.low (hpH.out q (List.mem_of_getElem? hq)))
      have hz2 := Lib.hid (hq4.out.szq (by omega))
      have hz4 := Lib.hid (hPH.out.szq (by omega))
      have hps := Lib.hid (hPH.out.add hq4.out)
      have hM1 := Lib.hid (show QM wr p1.a p1.c p1.a' p1.c' (rn q) (rd q) from hm1)
      have hjj : ((j + t : Nat) : Int) < m := by omega
      have hb1 : b1 < wr.heap.size := World.block_lt_of_cell? wr _ e0
      clear hm1 hq hbw
      go_wp2_with (fail)
      go_region_with (first
        | (go_at_call 30; go_loud (with_reducible refine (addq_any p.a p.c p.a' p.c' p1.a p1.c p1.a' p1.c' sn sd (rn q) (rd q) _ (QM.up hM.out (Below.refl _ _).drew) (QM.up hM1.out (Below.refl _ _).drew) hz4.out hz2.out).mono ?_); rintro e w5 ⟨a5, d5, a5', d5', rfl, hm5, hb5⟩; have hq5 := Lib.hid ((hQH.out.step (Below.refl _ _).drew).step hb5); obtain ⟨_, t2, t3, t5, _⟩ := hq5.out.2.2.2.2.2.1))
      all_goals go_wp2_with (fail)
      all_goals (
        go_roundw
        case rel => exact ⟨t + 1, ⟨a5, d5, a5', d5'⟩, _, _, by go_num, by omega, Or.inr (by omega), hq5.out.store hm5, by have h := hps.out; rw [hnx.out] at h; exact h.mono (by omega)⟩
        case measure => simp [intOf]; omega)
    · have hfull : Hid (psum (ps.drop j) t = (ps.drop j).sum) := by
        show _ = _
        unfold psum
        rw [List.take_of_length_le (by rw [List.length_drop, hlH.out]; omega)]
      have hlow := Lib.hid (show PQ sn sd (ps.drop j).sum 30000 by have h := hPH.out; rw [hfull.out] at h; exact h.mono (by omega))
      have hA := Lib.hid (show Rat.divInt sn sd = (ps.drop j).sum from hlow.out.2.1)
      have hB1 := Lib.hid (show LZ sn ≤ 1000000 by have := hlow.out.2.2.1; omega)
      have hB2 := Lib.hid (show LZ sd ≤ 1000000 by have := hlow.out.2.2.2; omega)
      have hB3 := Lib.hid (show 0 < sd from hlow.out.1)
      have hjj : ¬ ((j + t : Nat) : Int) < m := by omega
      have HRw := Lib.hid (Rg.slf (Rg.over HR3.out hbw hz3))
      have hbx := Lib.hid (hb3H.out.trans (hbw.mono hb3H.out.size))
      clear hbw
      go_wp2_with (first
        | (go_at_call 33; go_loud (with_reducible refine (lowest_q p.a p.c p.a' p.c' sn sd (ps.drop j).sum _ hM.out hB1.out hB2.out hB3.out hA.out).mono ?_); rintro e w5 ⟨a5, d5, a5', d5', rfl, hm5, hb5⟩; have r5 := Lib.hid (Rg.slf (Rg.step HRw.out (by omega) hb5)); obtain ⟨_, t2, t3, t5, _⟩ := r5.out))
      refine bodyPost_ret (v := .agg #[.bool (ng (rn (ps.drop j).sum)), .slice a5 (LZ (rn (ps.drop j).sum)) d5, .bool (ng (rd (ps.drop j).sum)), .slice a5' (LZ (rd (ps.drop j).sum)) d5']) (by simp [results, Tryz.results32, go_sem, t2]) rfl ?_
      exact ⟨a5, d5, a5', d5', rfl, ⟨hm5.1.set4 t5 _ _ _ _ _ _ _ _, hm5.2.set4 t5 _ _ _ _ _ _ _ _⟩, below_set4 (bseqZ hbx.out hb5) (Nat.le_refl _) _ _ _ _⟩

end Go.Proofs.YtcaeonpjokkjnaaGreat
