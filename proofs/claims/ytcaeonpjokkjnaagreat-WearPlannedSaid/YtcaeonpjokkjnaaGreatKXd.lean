/- Ym Ste Yo -/
import Derived.Test.YtcaeonpjokkjnaaGreatQYj
import Derived.Test.YtcaeonpjokkjnaaGreatKXa
import Derived.Test.YtcaeonpjokkjnaaGreatQWj
import Derived.Test.YtcaeonpjokkjnaaGreatQWs
import Derived.Test.YtcaeonpjokkjnaaGreatQWp
import Derived.Test.YtcaeonpjokkjnaaGreatKXb
import Derived.Deep.RegionHeld3
set_option linter.unusedVariables false
/- Walk of the reference: Mean. -/
namespace Go.Proofs.YtcaeonpjokkjnaaGreat
open Go Go.RowKit Go.Proofs

/-- The numbers j times p(j). -/
def wL (ps : List Rat) : List Rat := (List.range ps.length).map fun i => (((i + 1 : Nat) : Int) : Rat) * nth ps i
theorem wL_next {ps : List Rat} {k : Nat} {q : Rat} (hq : ps[k]? = some q) : psum (wL ps) k + (((k + 1 : Nat) : Int) : Rat) * q = psum (wL ps) (k + 1) :=
  psum_next _ _ _ (by
    unfold wL
    rw [List.getElem?_map, List.getElem?_range (List.getElem?_eq_some_iff.1 hq).1]
    unfold nth
    rw [Option.map_some, hq]; rfl)
theorem divInt_one (z : Int) : Rat.divInt z 1 = (z : Rat) := by
  rw [← Rat.num_divInt_den (z : Rat)]
  simp
theorem PQ.whole (k : Nat) (h : k ≤ 1000) : PQ ((k : Nat) : Int) 1 (((k : Nat) : Int) : Rat) 1 := by
  refine ⟨by decide, divInt_one _, ?_, L_12.1⟩
  show L B4 k ≤ 1
  exact L_le_of_lt two_le_B4 1 k (by unfold B4; omega)
theorem whole_z (n : Nat) (z : Int) (hz : ((n : Nat) : Int) = z) (w : World) (hn : n ≤ 4611686018427387904) : Calls Tryz.prog 29 #[.int .i64 z] w (RetQ w z 1) := by subst hz; exact wholeq_any n w hn

/-- The sum of the chances to last longer is the sum of j times p(j). -/
theorem wsum_step (ps : List Rat) : ∀ k, k ≤ ps.length → psum (wL ps) k = psum (aboveL ps) k - (((k : Nat) : Int) : Rat) * left ps k
  | 0, _ => by simp [psum]; grind
  | k + 1, h => by
    have ih := wsum_step ps k (by omega)
    obtain ⟨q, hq⟩ : ∃ q, ps[k]? = some q := ⟨_, List.getElem?_eq_getElem (by omega)⟩
    have h1 := wL_next hq
    have h2 := above_next (ps := ps) (k := k) (by omega)
    have h3 := psum_next ps k q hq
    unfold left at h2 ih ⊢
    have h4 : (((k + 1 : Nat) : Int) : Rat) = ((k : Nat) : Int) + (1 : Rat) := by rw [Int.natCast_add, Rat.intCast_add]; rfl
    rw [h4] at h1 ⊢
    grind
theorem wsum_mean {ps : List Rat} (h : ps.sum = 1) : psum (wL ps) ps.length = meanQ ps := by
  have h1 := wsum_step ps ps.length (Nat.le_refl _)
  have h2 : left ps ps.length = 0 := by
    unfold left psum
    rw [List.take_of_length_le (Nat.le_refl _), h]; grind
  have h3 : psum (aboveL ps) ps.length = meanQ ps := by
    unfold psum meanQ
    rw [List.take_of_length_le (by rw [aboveL_length]; exact Nat.le_refl _)]
  rw [h2, h3] at h1
  rw [h1]
  grind

def RetMeanQ (w : World) (q : Rat) (s : Nat) (e : Ending) (w' : World) : Prop :=
  ∃ a c a' c', e = .returned (.tuple #[.agg #[.bool (ng (rn q)), .slice a (LZ (rn q)) c, .bool (ng (rd q)), .slice a' (LZ (rd q)) c'], .int .i64 (s : Nat)]) ∧ QM w' a c a' c' (rn q) (rd q) ∧ Below w.heap.size w w'

set_option maxRecDepth 100000 in
set_option maxHeartbeats 6400000 in
theorem meanR_any (ao : Option Addr) (c m : Nat) (ps : List Rat) (w : World) (hl : ps.length = m) (h : ZL w ao ps) (hm12 : m ≤ 12) (hmc : m ≤ c) (h1 : ps.sum = 1) (h0 : ∀ p ∈ ps, 0 ≤ p) (hp4 : ∀ p ∈ ps, Short4 p) (hm4 : Short4 (meanQ ps)) :
    Calls Tryz.prog 41 #[.slice ao m c] w (RetMeanQ w (meanQ ps) (spanK ps m)) := by
  have hlH := Lib.hid hl
  have hR : Hid (Rg w.heap.size 4 (w.alloc (Obj.cells #[.bool false, .slice none 0 0, .bool false, .slice none 0 0] 46)) (w.alloc (Obj.cells #[.bool false, .slice none 0 0, .bool false, .slice none 0 0] 46))) := Rg.new4 _ _ _ rfl
  have hbl : Below w.heap.size w (w.alloc (Obj.cells #[.bool false, .slice none 0 0, .bool false, .slice none 0 0] 46)) := by go_grown
  have hblH := Lib.hid hbl
  have hPW := Lib.hid (h.below hbl)
  have hp4H := Lib.hid hp4
  have h0H := Lib.hid h0
  have hm4H := Lib.hid hm4
  have hmq : Hid (psum (wL ps) m = meanQ ps) := by show _ = _; rw [← hl]; exact wsum_mean h1
  clear hbl h hl h1 h0 hp4 hm4
  go_enter Tryz.func41, Tryz.ntmps41
  go_wp2_with (first
    | (go_at_call 29; go_loud (with_reducible refine (whole0 _).mono ?_); rintro e w3 ⟨a3, c3, a3', c3', rfl, hm3, hb3⟩))
  have hQ0 := Lib.hid (QBox.new hm3)
  have hP3 := Lib.hid (hPW.out.below hb3)
  have hR3 := Lib.hid (Rg.slf (Rg.step hR.out (by omega) hb3))
  have hb3H := Lib.hid (bseqZ hblH.out hb3)
  have hw3 : w.heap.size < w3.heap.size := by have := hb3.size; simp at this; omega
  obtain ⟨V3, hV3e⟩ : ∃ V3, V3 = w3.alloc (Obj.cells #[.bool (ng 0), .slice a3 (LZ 0) c3, .bool (ng 1), .slice a3' (LZ 1) c3'] 46) := ⟨_, rfl⟩
  rw [← hV3e] at hQ0 ⊢
  clear hV3e hm3 hb3
  go_loopw [5, 6] (fun sp i wr => ∃ (k : Nat) (p : RP) (sn sd : Int), i = .int .i64 ((k : Int) + 1) ∧ k ≤ m ∧ sp = .int .i64 (spanK ps k : Nat) ∧ QBox w3 wr w3.heap.size p sn sd ∧ PQ sn sd (psum (wL ps) k) (1 + 1002 * k)) (fun _ i _ => m + 1 - (intOf i).toNat)
  case atStart => exact ⟨0, _, 0, 1, rfl, by omega, rfl, hQ0.out, by rw [show psum (wL ps) 0 = 0 by simp [psum]]; exact PQ.zero⟩
  case round =>
    obtain ⟨k, p, sn, sd, rfl, hk, rfl, hQ, hPQ⟩ := hrel
    have hQH := Lib.hid hQ
    have hPH := Lib.hid hPQ
    obtain ⟨bm, x0, x1, x2, x3, _, hbw⟩ := hQ
    have hM := Lib.hid (show QM wr p.a p.c p.a' p.c' sn sd from bm)
    have hzg : w3.heap.size < wr.heap.size := World.block_lt_of_cell? wr _ x0
    have hsp := Lib.hid (spanK_le ps k)
    clear hPQ bm
    by_cases hkm : k < m
    · obtain ⟨q, hq⟩ : ∃ q, ps[k]? = some q := ⟨_, List.getElem?_eq_getElem (by rw [hlH.out]; exact hkm)⟩
      obtain ⟨b1, o1, p1, rfl, hm1, e0, e1, e2, e3⟩ := (hP3.out.below hbw) k q hq
      have hqH : Hid (ps[k]?.getD 0 = q) := by show _ = _; rw [hq]; rfl
      have hnx := Lib.hid (wL_next hq)
      have hq4 := Lib.hid (PQ.low (hp4H.out q (List.mem_of_getElem? hq)))
      have hw4 := Lib.hid (PQ.whole (k + 1) (by omega))
      have hz1 := Lib.hid (hq4.out.szq (by omega))
      have hzw := Lib.hid (hw4.out.szq (by omega))
      have hpm := Lib.hid (hw4.out.mul hq4.out)
      have hz3 := Lib.hid (hpm.out.szq (by omega))
      have hz4 := Lib.hid (hPH.out.szq (by omega))
      have hps := Lib.hid (hPH.out.add hpm.out)
      have hqk := Lib.hid hq
      have hM1 := Lib.hid (show QM wr p1.a p1.c p1.a' p1.c' (rn q) (rd q) from hm1)
      have hq0 := Lib.hid (h0H.out q (List.mem_of_getElem? hq))
      have hk1 : (k : Int) + 1 ≤ (m : Int) := by omega
      have hk2 : (k : Int) < c := by omega
      have hk6 : (k : Int) < m := by omega
      have hk8 : (k : Int) + 1 - 1 = (k : Int) := by omega
      have hw1 : IntKind.i64.wrap (k : Int) = (k : Int) := by rw [IntKind.wrap_i64]; omega
      have hc1 : ((k + 1 : Nat) : Int) = (k : Int) + 1 := by omega
      rw [hc1] at hzw hz3 hpm hps hnx
      rw [Int.one_mul] at hz3 hpm hps
      clear hm1 hq hbw hc1
      go_upto_region 5 with (fail)
      go_cut [25] from 16 to 24 (fun s25 wx => ∃ (p : RP) (sn sd : Int), QBox w3 wx w3.heap.size p sn sd ∧ PQ sn sd (psum (wL ps) (k + 1)) (1 + 1002 * (k + 1)))
      case first =>
        go_region_with (first
          | (go_at_call 29; go_loud (with_reducible refine (whole_z (k + 1) ((k : Int) + 1) (by simp) _ (by omega)).mono ?_); rintro e w4 ⟨a4, d4, a4', d4', rfl, hm4, hb4⟩; have hQ4 := Lib.hid ((hQH.out.step (Below.refl _ _).drew).step hb4); obtain ⟨_, y0, y1, y2, y3, _, _⟩ := hQ4.out; have f0 := Below.cellAt hb4 (Nat.le_refl _) e0; have f1 := Below.cellAt hb4 (Nat.le_refl _) e1; have f2 := Below.cellAt hb4 (Nat.le_refl _) e2; have f3 := Below.cellAt hb4 (Nat.le_refl _) e3)
          | (go_at_call 31; go_loud (with_reducible refine (mulq_any a4 d4 a4' d4' p1.a p1.c p1.a' p1.c' ((k : Int) + 1) 1 (rn q) (rd q) _ hm4 (QM.up (QM.up hM1.out (Below.refl _ _).drew) hb4) hzw.out hz1.out).mono ?_); rintro e w5 ⟨a5, d5, a5', d5', rfl, hm5, hb5⟩; rw [Int.one_mul] at hm5 ⊢; have hQ5 := Lib.hid (hQ4.out.step hb5); obtain ⟨_, v0, v1, v2, v3, _, _⟩ := hQ5.out)
          | (go_at_call 30; go_loud (with_reducible refine (addq_any p.a p.c p.a' p.c' a5 d5 a5' d5' sn sd (((k : Int) + 1) * rn q) (rd q) _ (QM.up (QM.up (QM.up hM.out (Below.refl _ _).drew) hb4) hb5) hm5 hz4.out hz3.out).mono ?_); rintro e w6 ⟨a6, d6, a6', d6', rfl, hm6, hb6⟩; have hQ6 := Lib.hid (hQ5.out.step hb6); obtain ⟨_, t2, t3, t5, _⟩ := hQ6.out.2.2.2.2.2.1))
        all_goals go_wp2_with (fail)
        all_goals go_meet
        all_goals exact ⟨⟨a6, d6, a6', d6'⟩, _, _, hQ6.out.store hm6, by have h := hps.out; rw [hnx.out] at h; exact h.mono (by omega)⟩
      case rest =>
        obtain ⟨px, tn, td, hQx, hPx⟩ := hcut
        have hQxH := Lib.hid hQx
        have hPxH := Lib.hid hPx
        have hbx := Lib.hid hQx.2.2.2.2.2.2
        obtain ⟨b2, o2, p2, hqe, hm2, g0, g1, _, _⟩ := (hP3.out.below hbx.out) k q hqk.out
        cases hqe
        have hsx : sg (rn q) = 0 ∨ sg (rn q) = 1 := by
          have h1 : 0 ≤ (rn q) := Rat.num_nonneg.2 hq0.out
          unfold sg; split <;> (try split) <;> omega
        have hx1 : w3.heap.size < wc.heap.size := World.block_lt_of_cell? wc _ hQx.2.1
        clear hQx hPx hm2 e0 e1 e2 e3 hz1 hzw hpm hz3 hz4 hps hq4 hw4 hM1 hM hQH hPH
        rcases hsx with hs0 | hs0
        · have hs0H := Lib.hid hs0
          have hnx : Hid (spanK ps (k + 1) = spanK ps k) := by show _ = _; rw [spanK, hqH.out, if_pos hs0]
          clear hs0
          go_wp2_with (first
            | (go_at_call 48; go_loud (with_reducible refine (sign_z p2.a p2.c (rn q) 0 _ hs0H.out).mono ?_); rintro e w6 ⟨rfl, hb6⟩; have hQ6 := Lib.hid (hQxH.out.step hb6); clear hb6))
          go_roundw
          case rel => exact ⟨k + 1, px, tn, td, by go_num, by omega, by rw [hnx.out], hQ6.out, hPxH.out⟩
          case measure => simp [intOf]; omega
        · have hs0H := Lib.hid hs0
          have hnx : Hid (spanK ps (k + 1) = Nat.gcd (spanK ps k) (k + 1)) := by show _ = _; rw [spanK, hqH.out, if_neg (by rw [hs0]; decide)]
          have hsk := hsp.out
          clear hs0
          generalize spanK ps k = s0 at *
          go_wp2_with (first
            | (go_at_call 48; go_loud (with_reducible refine (sign_z p2.a p2.c (rn q) 1 _ hs0H.out).mono ?_); rintro e w6 ⟨rfl, hb6⟩; have hQ6 := Lib.hid (hQxH.out.step hb6); clear hb6))
          clear g0 g1
          go_loopw [7, 8] (fun a b wi => ∃ u v : Nat, a = .int .i64 (u : Nat) ∧ b = .int .i64 (v : Nat) ∧ u ≤ 12 ∧ v ≤ 12 ∧ Nat.gcd u v = Nat.gcd s0 (k + 1) ∧ QBox w3 wi w3.heap.size px tn td) (fun _ b _ => (intOf b).toNat)
          case atStart => exact ⟨s0, k + 1, rfl, by go_num, by omega, by omega, rfl, hQ6.out⟩
          case round =>
            obtain ⟨u, v, rfl, rfl, hu, hv, hg, hbi⟩ := hrel
            have hgH := Lib.hid hg
            have hbiH := Lib.hid hbi
            clear hg hbi
            by_cases hv0 : v = 0
            · have hvz : ¬ 0 < (v : Int) := by omega
              have hu2 : Hid (u = Nat.gcd s0 (k + 1)) := by have := hgH.out; rw [hv0, Nat.gcd_zero_right] at this; exact this
              clear hv0
              go_wp2
              go_roundw
              case rel => exact ⟨k + 1, px, tn, td, by go_num, by omega, by rw [hnx.out, ← hu2.out], hbiH.out, hPxH.out⟩
              case measure => simp [intOf]; omega
            · have hvz : 0 < (v : Int) := by omega
              have hvz2 : ((v : Int) == 0) = false := by simp; exact hv0
              have hv1 : v < 13 := by omega
              have hmod : Hid (u % v < v) := Nat.mod_lt u (by omega)
              go_wp2
              go_quiet (fail)
              go_wp2
              go_roundw
              case rel =>
                refine ⟨v, u % v, rfl, by go_num, by omega, by have := hmod.out; omega, ?_, hbiH.out.step (bdn (Below.refl _ _))⟩
                rw [← hgH.out, Nat.gcd_comm u v, Nat.gcd_rec v u, Nat.gcd_comm]
              case measure => have := hmod.out; simp [intOf]; omega
    · have hke : k = m := by omega
      subst hke
      have hkk : ¬ ((k : Int) + 1 ≤ (k : Int)) := by omega
      have hlow := Lib.hid (show PQ sn sd (meanQ ps) 30000 by have h := hPH.out; rw [hmq.out] at h; exact h.mono (by omega))
      have hA := Lib.hid (show Rat.divInt sn sd = meanQ ps from hlow.out.2.1)
      have hB1 := Lib.hid (show LZ sn ≤ 1000000 by have := hlow.out.2.2.1; omega)
      have hB2 := Lib.hid (show LZ sd ≤ 1000000 by have := hlow.out.2.2.2; omega)
      have hB3 := Lib.hid (show 0 < sd from hlow.out.1)
      have HRw := Lib.hid (Rg.slf (Rg.over hR3.out hbw hw3))
      have hbx := Lib.hid (hb3H.out.trans (hbw.mono hb3H.out.size))
      clear hbw
      go_wp2_with (first
        | (go_at_call 33; go_loud (with_reducible refine (lowest_q p.a p.c p.a' p.c' sn sd (meanQ ps) _ hM.out hB1.out hB2.out hB3.out hA.out).mono ?_); rintro e w5 ⟨a5, d5, a5', d5', rfl, hm5, hb5⟩; have r5 := Lib.hid (Rg.slf (Rg.step HRw.out (by omega) hb5)); obtain ⟨_, t2, t3, t5, _⟩ := r5.out))
      refine bodyPost_ret (v := .tuple #[.agg #[.bool (ng (rn (meanQ ps))), .slice a5 (LZ (rn (meanQ ps))) d5, .bool (ng (rd (meanQ ps))), .slice a5' (LZ (rd (meanQ ps))) d5'], .int .i64 (spanK ps k : Nat)]) (by simp [results, Tryz.results41, go_sem, t2]) rfl ?_
      exact ⟨a5, d5, a5', d5', rfl, ⟨hm5.1.set4 t5 _ _ _ _ _ _ _ _, hm5.2.set4 t5 _ _ _ _ _ _ _ _⟩, below_set4 (bseqZ hbx.out hb5) (Nat.le_refl _) _ _ _ _⟩

end Go.Proofs.YtcaeonpjokkjnaaGreat

/- Four cells that stand; appending a lowered fraction as one step of a region that draws its order. -/
namespace Go.Proofs.YtcaeonpjokkjnaaGreat
open Go Go.RowKit Go.Proofs

abbrev C4 (w : World) (b o : Nat) (v0 v1 v2 v3 : Value) : Prop :=
  w.cell? ⟨b, o, none⟩ = some v0 ∧ w.cell? ⟨b, o + 1, none⟩ = some v1 ∧ w.cell? ⟨b, o + 2, none⟩ = some v2 ∧ w.cell? ⟨b, o + 3, none⟩ = some v3
theorem C4.up {w w' : World} {b o : Nat} {v0 v1 v2 v3 : Value} (h : C4 w b o v0 v1 v2 v3) (hb : Below w.heap.size w w') : C4 w' b o v0 v1 v2 v3 :=
  ⟨Below.cellAt hb (Nat.le_refl _) h.1, Below.cellAt hb (Nat.le_refl _) h.2.1, Below.cellAt hb (Nat.le_refl _) h.2.2.1, Below.cellAt hb (Nat.le_refl _) h.2.2.2⟩
theorem C4.al {w : World} {b o : Nat} {v0 v1 v2 v3 : Value} (h : C4 w b o v0 v1 v2 v3) (ob : Obj) : C4 (w.alloc ob) b o v0 v1 v2 v3 := h.up ((Below.refl _ _).alloc (Nat.le_refl _) _)
theorem C4.drew {w : World} {b o : Nat} {v0 v1 v2 v3 : Value} (h : C4 w b o v0 v1 v2 v3) : C4 w.drew b o v0 v1 v2 v3 := h.up (Below.refl _ _).drew
theorem C4.grown {w w' : World} {b o : Nat} {v0 v1 v2 v3 v : Value} (h : C4 w b o v0 v1 v2 v3) (hg : w.grownBy w' v.ownBlock) (hne : ∀ k, v.ownBlock = some k → b ≠ k) : C4 w' b o v0 v1 v2 v3 :=
  ⟨cell_grown hg h.1 hne, cell_grown hg h.2.1 hne, cell_grown hg h.2.2.1 hne, cell_grown hg h.2.2.2 hne⟩

theorem step_append_q {ops : Array Oper} {o : Oper} {a : Act} {w : World} {K : Act → World → Prop} {Q : Exit → Act → World → Prop} {E : Prop} (hg : o.guard = none) (s x : Operand) (t : TypeId)
    (ho : o.op = .call { callee := .builtin .append, args := #[s, x], argTypes := #[t, t] }) (ht : Tryz.prog.underlying t = some (.slice 46)) (base n : Nat) (v : Value) (qs : List Rat) (q : Rat) (p : RP) (hs : a.eval s = v) (hv : ZV w base v qs)
    (hn : qs.length = n) (g0 : Nat) (hx : a.eval x = .slice (some ⟨g0, 0, none⟩) 1 1) (hb : n ≤ 1000000000000) (hbs : base ≤ w.heap.size)
    (c0 : w.cell? ⟨g0, 0, none⟩ = some (.bool (ng (rn q)))) (c1 : w.cell? ⟨g0, 1, none⟩ = some (.slice p.a (LZ (rn q)) p.c)) (c2 : w.cell? ⟨g0, 2, none⟩ = some (.bool (ng (rd q)))) (c3 : w.cell? ⟨g0, 3, none⟩ = some (.slice p.a' (LZ (rd q)) p.c'))
    (hm : ZRp w p q)
    (hK : ∀ v' w', ZV w' base v' (qs ++ [q]) → w.grownBy w' v.ownBlock → K (a.put o.dst v') w') :
    if Region.wanted o (yielded ops a.tmps) = true then Oper.wp Tryz.prog o a w K Q else E := by
  obtain ⟨l, hl, hown, hno, hms⟩ := hv
  obtain ⟨i, h2, h3, h4, h5⟩ := info_parts info_q
  subst hn
  refine step_append_noint hg s x t ho base 46 i _ 4 64 ht h2 h3 h4 h5 rfl (by omega) v qs.length (allZ l) hs hown ⟨g0, 0, none⟩ 1 1 (zCells q p) hx rfl ?_ ?_ (by unfold maxLen; omega) (by omega) hbs (by omega) hno ?_ ?_ ?_
  · intro j u hu
    rw [Addr.add_lit, Nat.zero_add]
    rcases j with _ | _ | _ | _ | j
    · rw [c0]; exact hu
    · rw [c1]; exact hu
    · rw [c2]; exact hu
    · rw [c3]; exact hu
    · simp [zCells] at hu
  · intro u hu
    simp [zCells] at hu
    rcases hu with rfl | rfl | rfl | rfl <;> rfl
  · intro u hu k z
    simp [zCells] at hu
    rcases hu with rfl | rfl | rfl | rfl <;> simp
  · intro u hu k z
    simp [Value.cells] at hu
    rcases hu with rfl | rfl | rfl | rfl <;> simp
  · intro v' w' ho' hg' hn'
    refine hK v' w' ⟨l ++ [(q, p)], by simp [hl], ?_, hn', ?_⟩ hg'
    · rw [allZ_snoc, List.length_append]; exact ho'
    · intro y hy
      rcases List.mem_append.1 hy with hy | hy
      · exact (hms y hy).grown hg' hno
      · rw [List.mem_singleton.1 hy]; exact hm.grown hg' hno

end Go.Proofs.YtcaeonpjokkjnaaGreat

/- Walks of the reference: Ages, Hazards. -/
namespace Go.Proofs.YtcaeonpjokkjnaaGreat
open Go Go.RowKit Go.Proofs

theorem take_next {l : List Rat} {k : Nat} {q : Rat} (h : l[k]? = some q) : l.take k ++ [q] = l.take (k + 1) := by
  rw [List.take_add_one, h]; rfl
theorem PQ.z1 {n d : Int} {q : Rat} {B : Nat} (h : PQ n d q B) (hB : B ≤ 1000000 := by omega) : LZ n ≤ 1000000 := by
  have := h.2.2.1; omega
theorem PQ.z2 {n d : Int} {q : Rat} {B : Nat} (h : PQ n d q B) (hB : B ≤ 1000000 := by omega) : LZ d ≤ 1000000 := by
  have := h.2.2.2; omega

set_option maxRecDepth 100000 in
set_option maxHeartbeats 6400000 in
theorem agesR_any (ao : Option Addr) (c m : Nat) (ps : List Rat) (w : World) (hl : ps.length = m) (h : ZL w ao ps) (hm12 : m ≤ 12) (hmc : m ≤ c) (h1 : ps.sum = 1) (h0 : ∀ p ∈ ps, 0 ≤ p) (hp4 : ∀ p ∈ ps, Short4 p) (hm4 : Short4 (meanQ ps)) (hl4 : ∀ j, Short4 (left ps j)) (hmp : 0 < meanQ ps) :
    Calls Tryz.prog 42 #[.slice ao m c] w (RetZL w (agesL ps)) := by
  have hlH := Lib.hid hl
  have hP := Lib.hid h
  have hp4H := Lib.hid hp4
  have h0H := Lib.hid h0
  have h1H := Lib.hid h1
  have hm4H := Lib.hid hm4
  have hl4H := Lib.hid hl4
  have hmpH := Lib.hid hmp
  have hrl : Hid ((agesL ps).length = m) := by show _ = _; rw [agesL_length]; exact hl
  clear h hl h1 h0 hp4 hm4 hl4 hmp
  go_enter Tryz.func42, Tryz.ntmps42
  go_wp2_with (first
    | (go_at_call 41; go_loud (with_reducible refine (meanR_any ao c m ps _ hlH.out hP.out hm12 hmc h1H.out h0H.out hp4H.out hm4H.out).mono ?_); rintro e w1 ⟨a1, d1, a1', d1', rfl, hm1, hb1⟩))
  obtain ⟨V, hV⟩ : ∃ V, V = (w1.alloc (Obj.cells #[.bool (ng (rn (meanQ ps))), .slice a1 (LZ (rn (meanQ ps))) d1, .bool (ng (rd (meanQ ps))), .slice a1' (LZ (rd (meanQ ps))) d1'] 46)).alloc (Obj.cells #[] 46) := ⟨_, rfl⟩
  have hCB : Hid (CB V w1.heap.size ⟨a1, d1, a1', d1'⟩ (rn (meanQ ps)) (rd (meanQ ps))) := by rw [hV]; exact (CB.new hm1).up ((Below.refl _ _).alloc (Nat.le_refl _) _)
  have hV0 : Hid (ZV V (w1.heap.size + 1) (.slice (some ⟨w1.heap.size + 1, 0, none⟩) 0 0) []) := by
    have h2 := ZV.lit0 (w1.alloc (Obj.cells #[.bool (ng (rn (meanQ ps))), .slice a1 (LZ (rn (meanQ ps))) d1, .bool (ng (rd (meanQ ps))), .slice a1' (LZ (rd (meanQ ps))) d1'] 46)) (w1.heap.size + 1) (by simp)
    rw [show (w1.alloc (Obj.cells #[.bool (ng (rn (meanQ ps))), .slice a1 (LZ (rn (meanQ ps))) d1, .bool (ng (rd (meanQ ps))), .slice a1' (LZ (rd (meanQ ps))) d1'] 46)).heap.size = w1.heap.size + 1 by simp] at h2
    rw [hV]
    exact h2
  have hb1V : Below w1.heap.size w1 V := by rw [hV]; go_grown
  have hbV := Lib.hid (bseqZ hb1 hb1V)
  have hb1H := Lib.hid hb1V
  have hm1H := Lib.hid (show QM w1 a1 d1 a1' d1' (rn (meanQ ps)) (rd (meanQ ps)) from hm1)
  have hsV : w1.heap.size + 1 < V.heap.size := by rw [hV]; simp
  have hs1 : w.heap.size ≤ w1.heap.size := hb1.size
  have hVH := Lib.hid hV
  rw [← hV]
  clear hV hb1V hm1 hb1
  go_loopw [5, 6] (fun b i wr => ∃ k : Nat, i = .int .i64 (k : Nat) ∧ k ≤ m ∧ ZV wr (w1.heap.size + 1) b ((agesL ps).take k) ∧ Below (w1.heap.size + 1) V wr ∧ V.heap.size ≤ wr.heap.size) (fun _ i _ => m - (intOf i).toNat)
  case atStart => exact ⟨0, rfl, by omega, hV0.out, Below.refl _ _, Nat.le_refl _⟩
  case round =>
    obtain ⟨k, rfl, hk, hV, hbl, hsz⟩ := hrel
    obtain ⟨ab, cb, hbv⟩ := hV.shape
    subst hbv
    have htl : ((agesL ps).take k).length = k := by rw [List.length_take, hrl.out]; omega
    have htlH := Lib.hid htl
    rw [htl] at hV ⊢
    have hVkH := Lib.hid hV
    have hblH := Lib.hid hbl
    clear hV htl hbl
    have hbw0 := Lib.hid (hbV.out.trans (hblH.out.mono (by omega)))
    by_cases hkm : k < m
    · have hkk : (k : Int) < m := by omega
      have x0 := cell_b hblH.out (by omega) hCB.out.2.1
      have x1 := cell_b hblH.out (by omega) hCB.out.2.2.1
      have x2 := cell_b hblH.out (by omega) hCB.out.2.2.2.1
      have x3 := cell_b hblH.out (by omega) hCB.out.2.2.2.2
      have hPk := Lib.hid (hP.out.below hbw0.out)
      have hM1 := Lib.hid (QM.up hm1H.out (hb1H.out.trans (hblH.out.mono (by omega))))
      have hgb : w1.heap.size < wr.heap.size := by omega
      have pL := Lib.hid (PQ.low (hl4H.out k))
      have pM := Lib.hid (PQ.low hm4H.out)
      have hn0 := Lib.hid (pM.out.numpos hmpH.out)
      have hd0 := Lib.hid pL.out.1
      have hz1 := Lib.hid (pL.out.szq (by omega))
      have hz2 := Lib.hid (pM.out.szq (by omega))
      have hdv := Lib.hid (pL.out.div pM.out hn0.out)
      have hB1 := Lib.hid (hdv.out.z1)
      have hB2 := Lib.hid (hdv.out.z2)
      have hB3 := Lib.hid hdv.out.1
      have hA := Lib.hid hdv.out.2.1
      have hnx := Lib.hid (take_next (agesL_at (ps := ps) (k := k) (by rw [hlH.out]; exact hkm)))
      have hk00 : (0 : Int) ≤ (k : Int) := by omega
      clear hkm
      go_wp2_with (fail)
      have hc0 : Hid (C4 wr w1.heap.size 0 (.bool (ng (rn (meanQ ps)))) (.slice a1 (LZ (rn (meanQ ps))) d1) (.bool (ng (rd (meanQ ps)))) (.slice a1' (LZ (rd (meanQ ps))) d1')) := ⟨x0, x1, x2, x3⟩
      have hownH := Lib.hid hVkH.out.lt
      have hne : Hid (∀ j, (Value.slice ab k cb).ownBlock = some j → w1.heap.size ≠ j) := fun j hj => by have h1 := (hownH.out j hj).1; omega
      go_region_held3 (fun w' => Cells4 w' w1.heap.size (.bool (ng (rn (meanQ ps)))) (.slice a1 (LZ (rn (meanQ ps))) d1) (.bool (ng (rd (meanQ ps)))) (.slice a1' (LZ (rd (meanQ ps))) d1'))
        (((show C4 _ _ 0 _ _ _ _); first | (with_reducible exact hc6.out) | (with_reducible exact hc5.out.al _) | (with_reducible exact hc5.out) | (with_reducible exact hc9.out) | (with_reducible exact hc2.out) | (with_reducible exact hc0.out.drew)))
        (first
        | (go_at_call 32; go_loud (with_reducible refine (above_l k m (k : Int) rfl ao c ps _ hlH.out h1H.out (hPk.out.below (Below.refl _ _).drew) hm12 (by omega) hp4H.out).mono ?_); rintro e w2 ⟨a2, d2, a2', d2', rfl, hm2, hb2⟩; have hM2 := Lib.hid (QM.up (QM.up hM1.out (Below.refl _ _).drew) hb2); have hb2H := Lib.hid (bseqZ (Below.refl _ _).drew hb2); have hc2 := Lib.hid (hc0.out.up hb2H.out))
        | (go_at_call 60; go_loud (with_reducible refine (divq_any a2 d2 a2' d2' a1 d1 a1' d1' (rn (left ps k)) (rd (left ps k)) (rn (meanQ ps)) (rd (meanQ ps)) _ hm2 hM2.out hz1.out hz2.out hn0.out hd0.out).mono ?_); rintro e w9 ⟨a9, d9, a9', d9', rfl, hm9, hb9⟩; have hc9 := Lib.hid (hc2.out.up hb9))
        | (go_at_call 33; go_loud (with_reducible refine (lowest_q a9 d9 a9' d9' (rn (left ps k) * rd (meanQ ps)) (rd (left ps k) * rn (meanQ ps)) (left ps k / meanQ ps) _ hm9 hB1.out hB2.out hB3.out hA.out).mono ?_); rintro e w5 ⟨a5, d5, a5', d5', rfl, hm5, hb5⟩; have hc5 := Lib.hid (hc9.out.up hb5); have hb25 := bseqZ hb2H.out (bseqZ hb9 hb5); have hb5H := Lib.hid (hblH.out.trans (hb25.mono (by omega))); have hV5 := Lib.hid (hVkH.out.below hb25); have hM5 := Lib.hid (show ZRp w5 ⟨a5, d5, a5', d5'⟩ (left ps k / meanQ ps) from hm5); have hs5 := hb25.size; clear hm5 hb5 hm9 hb9 hb25)
        | ((refine step_append_q rfl (.tmp 19) (.tmp 26) _ rfl Tryz.underlying31 (w1.heap.size + 1) k (.slice ab k cb) ((agesL ps).take k) (left ps k / meanQ ps) ⟨a5, d5, a5', d5'⟩ rfl (hV5.out.below ((Below.refl _ _).alloc (Nat.le_refl _) _)) htlH.out w5.heap.size rfl (by omega) (by simp; omega) (by simp [go_sem]) (by simp [go_sem]) (by simp [go_sem]) (by simp [go_sem]) (hM5.out.up ((Below.refl _ _).alloc (Nat.le_refl _) _)) ?_); intro v' w6 hv6 hg6; rw [hnx.out] at hv6; have hv6H := Lib.hid hv6; have hb6 := Lib.hid ((hb5H.out.alloc (by omega) _).grown hg6 (by simp; omega) (fun g hg => (hownH.out g hg).1)); have hc6 := Lib.hid (C4.grown (v := .slice ab k cb) (hc5.out.al _) hg6 hne.out); clear hv6 hg6))
      go_wp2_with (fail)
      go_roundw
      case rel => exact ⟨k + 1, by go_num, by omega, hv6H.out, hb6.out, by have := hb6.out.size; omega⟩
      case measure => simp [intOf]; omega
    · have hkk : ¬ (k : Int) < m := by omega
      have hke : k = m := by omega
      subst hke
      have hall : Hid ((agesL ps).take k = agesL ps) := by show _ = _; rw [List.take_of_length_le (by rw [hrl.out]; exact Nat.le_refl _)]
      go_wp2_with (fail)
      go_ret
      refine ⟨ab, cb, by rw [hrl.out]; rfl, ?_, hbw0.out⟩
      rw [hrl.out]
      have h9 := hVkH.out
      rw [hall.out] at h9
      exact h9.base (by omega)

set_option maxRecDepth 100000 in
set_option maxHeartbeats 6400000 in
theorem hazardsR_any (ao : Option Addr) (c m : Nat) (ps : List Rat) (w : World) (hl : ps.length = m) (h : ZL w ao ps) (hm12 : m ≤ 12) (hmc : m ≤ c) (h1 : ps.sum = 1) (hp4 : ∀ p ∈ ps, Short4 p) (hl4 : ∀ j, Short4 (left ps j)) (hlp : ∀ j, j < m → 0 < left ps j) :
    Calls Tryz.prog 43 #[.slice ao m c] w (RetZL w (hazL ps)) := by
  have hlH := Lib.hid hl
  have hP := Lib.hid h
  have hp4H := Lib.hid hp4
  have h1H := Lib.hid h1
  have hl4H := Lib.hid hl4
  have hlpH := Lib.hid hlp
  have hrl : Hid ((hazL ps).length = m) := by show _ = _; rw [hazL_length]; exact hl
  clear h hl h1 hp4 hl4 hlp
  go_enter Tryz.func43, Tryz.ntmps43
  go_wp2_with (fail)
  obtain ⟨V, hV⟩ : ∃ V, V = w.alloc (Obj.cells #[] 46) := ⟨_, rfl⟩
  have hV0 : Hid (ZV V w.heap.size (.slice (some ⟨w.heap.size, 0, none⟩) 0 0) []) := by
    rw [hV]
    exact ZV.lit0 w w.heap.size (Nat.le_refl _)
  have hbV' : Below w.heap.size w V := by rw [hV]; go_grown
  have hbV := Lib.hid hbV'
  have hsV : w.heap.size < V.heap.size := by rw [hV]; simp
  have hVH := Lib.hid hV
  rw [← hV]
  clear hV hbV'
  go_loopw [3, 4] (fun b i wr => ∃ k : Nat, i = .int .i64 ((k : Int) + 1) ∧ k ≤ m ∧ ZV wr w.heap.size b ((hazL ps).take k) ∧ Below w.heap.size V wr ∧ V.heap.size ≤ wr.heap.size) (fun _ i _ => m + 1 - (intOf i).toNat)
  case atStart => exact ⟨0, rfl, by omega, hV0.out, Below.refl _ _, Nat.le_refl _⟩
  case round =>
    obtain ⟨k, rfl, hk, hV, hbl, hsz⟩ := hrel
    obtain ⟨ab, cb, hbv⟩ := hV.shape
    subst hbv
    have htl : ((hazL ps).take k).length = k := by rw [List.length_take, hrl.out]; omega
    have htlH := Lib.hid htl
    rw [htl] at hV ⊢
    have hVkH := Lib.hid hV
    have hblH := Lib.hid hbl
    clear hV htl hbl
    have hbw0 := Lib.hid (hbV.out.trans (hblH.out.mono (by omega)))
    by_cases hkm : k < m
    · have hkk : (k : Int) + 1 ≤ m := by omega
      have hPk := Lib.hid (hP.out.below hbw0.out)
      obtain ⟨q, hq⟩ : ∃ q, ps[k]? = some q := ⟨_, List.getElem?_eq_getElem (by rw [hlH.out]; exact hkm)⟩
      obtain ⟨b1, o1, p1, rfl, hm1, x0, x1, x2, x3⟩ := hPk.out k q hq
      obtain ⟨b8, o8, p8, hq8, _, f8, _⟩ := hP.out k q hq
      cases hq8
      have hblt : b1 < w.heap.size := World.block_lt_of_cell? w _ f8
      clear f8
      have hk00 : (0 : Int) ≤ (k : Int) := by omega
      have hM1 := Lib.hid (show QM wr p1.a p1.c p1.a' p1.c' (rn q) (rd q) from hm1)
      have hgb : b1 < wr.heap.size := World.block_lt_of_cell? wr _ x0
      have hk2 : (k : Int) < c := by omega
      have hk6 : (k : Int) < m := by omega
      have hk8 : (k : Int) + 1 - 1 = (k : Int) := by omega
      have hw1 : IntKind.i64.wrap (k : Int) = (k : Int) := by rw [IntKind.wrap_i64]; omega
      have pL := Lib.hid (PQ.low (hl4H.out k))
      have pM := Lib.hid (PQ.low (hp4H.out q (List.mem_of_getElem? hq)))
      have hn0 := Lib.hid (pL.out.numpos (hlpH.out k hkm))
      have hd0 := Lib.hid pM.out.1
      have hz1 := Lib.hid (pM.out.szq (by omega))
      have hz2 := Lib.hid (pL.out.szq (by omega))
      have hdv := Lib.hid (pM.out.div pL.out hn0.out)
      have hB1 := Lib.hid (hdv.out.z1)
      have hB2 := Lib.hid (hdv.out.z2)
      have hB3 := Lib.hid hdv.out.1
      have hhz : hazQ ps k = q / left ps k := by unfold hazQ nth; rw [hq]; rfl
      have hA := Lib.hid (show Rat.divInt (rn q * rd (left ps k)) (rd q * rn (left ps k)) = hazQ ps k by rw [hhz]; exact hdv.out.2.1)
      have hnx := Lib.hid (take_next (hazL_at (ps := ps) (k := k) (by rw [hlH.out]; exact hkm)))
      clear hkm hm1 hhz hq
      go_wp2_with (fail)
      have hc0 : Hid (C4 wr b1 (o1 + k * 4) (.bool (ng (rn q))) (.slice p1.a (LZ (rn q)) p1.c) (.bool (ng (rd q))) (.slice p1.a' (LZ (rd q)) p1.c')) := ⟨x0, x1, x2, x3⟩
      have hownH := Lib.hid hVkH.out.lt
      have hne : Hid (∀ j, (Value.slice ab k cb).ownBlock = some j → b1 ≠ j) := fun j hj => by have h1 := (hownH.out j hj).1; omega
      go_region_held3 (fun w' => C4 w' b1 (o1 + k * 4) (.bool (ng (rn q))) (.slice p1.a (LZ (rn q)) p1.c) (.bool (ng (rd q))) (.slice p1.a' (LZ (rd q)) p1.c'))
        (first | (with_reducible exact hc6.out) | (with_reducible exact hc5.out.al _) | (with_reducible exact hc5.out) | (with_reducible exact hc9.out) | (with_reducible exact hc2.out) | (with_reducible exact hc0.out.drew))
        (first
        | (go_at_call 32; go_loud (with_reducible refine (above_l k m (k : Int) rfl _ c ps _ hlH.out h1H.out (hPk.out.below (Below.refl _ _).drew) hm12 (by omega) hp4H.out).mono ?_); rintro e w2 ⟨a2, d2, a2', d2', rfl, hm2, hb2⟩; have hM2 := Lib.hid (QM.up (QM.up hM1.out (Below.refl _ _).drew) hb2); have hb2H := Lib.hid (bseqZ (Below.refl _ _).drew hb2); have hc2 := Lib.hid (hc0.out.up hb2H.out))
        | (go_at_call 60; go_loud (with_reducible refine (divq_any p1.a p1.c p1.a' p1.c' a2 d2 a2' d2' (rn q) (rd q) (rn (left ps k)) (rd (left ps k)) _ hM2.out hm2 hz1.out hz2.out hn0.out hd0.out).mono ?_); rintro e w9 ⟨a9, d9, a9', d9', rfl, hm9, hb9⟩; have hc9 := Lib.hid (hc2.out.up hb9))
        | (go_at_call 33; go_loud (with_reducible refine (lowest_q a9 d9 a9' d9' (rn q * rd (left ps k)) (rd q * rn (left ps k)) (hazQ ps k) _ hm9 hB1.out hB2.out hB3.out hA.out).mono ?_); rintro e w5 ⟨a5, d5, a5', d5', rfl, hm5, hb5⟩; have hc5 := Lib.hid (hc9.out.up hb5); have hb25 := bseqZ hb2H.out (bseqZ hb9 hb5); have hb5H := Lib.hid (hblH.out.trans (hb25.mono (by omega))); have hV5 := Lib.hid (hVkH.out.below hb25); have hM5 := Lib.hid (show ZRp w5 ⟨a5, d5, a5', d5'⟩ (hazQ ps k) from hm5); have hs5 := hb25.size; clear hm5 hb5 hm9 hb9 hb25)
        | ((refine step_append_q rfl (.tmp 12) (.tmp 24) _ rfl Tryz.underlying31 w.heap.size k (.slice ab k cb) ((hazL ps).take k) (hazQ ps k) ⟨a5, d5, a5', d5'⟩ rfl (hV5.out.below ((Below.refl _ _).alloc (Nat.le_refl _) _)) htlH.out w5.heap.size rfl (by omega) (by simp; omega) (by simp [go_sem]) (by simp [go_sem]) (by simp [go_sem]) (by simp [go_sem]) (hM5.out.up ((Below.refl _ _).alloc (Nat.le_refl _) _)) ?_); intro v' w6 hv6 hg6; rw [hnx.out] at hv6; have hv6H := Lib.hid hv6; have hb6 := Lib.hid ((hb5H.out.alloc (by omega) _).grown hg6 (by simp; omega) (fun g hg => (hownH.out g hg).1)); have hc6 := Lib.hid (C4.grown (v := .slice ab k cb) (hc5.out.al _) hg6 hne.out); clear hv6 hg6))
      go_wp2_with (fail)
      go_roundw
      case rel => exact ⟨k + 1, by go_num, by omega, hv6H.out, hb6.out, by have := hb6.out.size; omega⟩
      case measure => simp [intOf]; omega
    · have hkk : ¬ (k : Int) + 1 ≤ m := by omega
      have hke : k = m := by omega
      subst hke
      have hall : Hid ((hazL ps).take k = hazL ps) := by show _ = _; rw [List.take_of_length_le (by rw [hrl.out]; exact Nat.le_refl _)]
      go_wp2_with (fail)
      go_ret
      refine ⟨ab, cb, by rw [hrl.out]; rfl, ?_, hbw0.out⟩
      rw [hrl.out]
      have h9 := hVkH.out
      rw [hall.out] at h9
      exact h9.base (by omega)

end Go.Proofs.YtcaeonpjokkjnaaGreat
