/- Yk Yn Rtp -/
import Derived.Test.YtcaeonpjokkjnaaGreatQYi
import Derived.Test.YtcaeonpjokkjnaaGreatQWm
import Derived.Test.YtcaeonpjokkjnaaGreatQYj
import Derived.Test.YtcaeonpjokkjnaaGreatQWs
set_option linter.unusedVariables false
/- Walk of the reference: Above. -/
namespace Go.Proofs.YtcaeonpjokkjnaaGreat
open Go Go.RowKit Go.Proofs

set_option maxRecDepth 100000 in
set_option maxHeartbeats 3200000 in
theorem aboveR_any (j m : Nat) (ao : Option Addr) (c : Nat) (ps : List Rat) (w : World) (hl : ps.length = m) (h : ZL w ao ps) (hm12 : m ≤ 12) (hj : j ≤ 1000) (hp4 : ∀ p ∈ ps, Short4 p) :
    Calls Tryz.prog 32 #[.slice ao m c, .int .i64 (j : Nat)] w (RetQ w (rn (ps.drop j).sum) (rd (ps.drop j).sum)) := by
  have hlH := Lib.hid hl
  have hpH := Lib.hid hp4
  obtain ⟨W, hW⟩ : ∃ W, W = w.alloc (Obj.cells #[.bool false, .slice none 0 0, .bool false, .slice none 0 0] 46) := ⟨_, rfl⟩
  have HR : Hid (Rg w.heap.size 4 W W) := by rw [hW]; exact Rg.new4 _ _ _ rfl
  have hbW' : Below w.heap.size w W := by rw [hW]; go_grown
  have hbW := Lib.hid hbW'
  have hH := Lib.hid (h.below hbW')
  have hWH := Lib.hid hW
  have hmx : max 0 (j : Int) = (j : Int) := by omega
  clear hW hbW' h hl hp4
  go_enter Tryz.func32, Tryz.ntmps32
  go_wp2_with (first
    | (go_at_call 29; rw [← hWH.out]; go_loud (with_reducible refine (whole0 _).mono ?_); rintro e w3 ⟨a3, c3, a3', c3', rfl, hm3, hb3⟩; have hz3 : w.heap.size < w3.heap.size := (by have := HR.out.lt (by omega); have := hb3.size; omega)))
  have hQ0 := Lib.hid (QBox.new hm3)
  have hS3 := Lib.hid (hH.out.below hb3)
  have HR3 := Lib.hid (Rg.slf (Rg.step HR.out (by omega) hb3))
  have hb3H := Lib.hid (bseqZ hbW.out hb3)
  obtain ⟨V3, hV3e⟩ : ∃ V3, V3 = w3.alloc (Obj.cells #[.bool (ng 0), .slice a3 (LZ 0) c3, .bool (ng 1), .slice a3' (LZ 1) c3'] 46) := ⟨_, rfl⟩
  rw [← hV3e] at hQ0 ⊢
  clear hV3e hm3 hb3 hmx
  go_loopw [6] (fun i wr => ∃ (t : Nat) (p : RP) (sn sd : Int), i = .int .i64 ((j + t : Nat) : Int) ∧ t ≤ m ∧ (t = 0 ∨ j + t ≤ m) ∧ QBox w3 wr w3.heap.size p sn sd ∧ PQ sn sd (psum (ps.drop j) t) (1 + 1001 * t)) (fun i _ => m - (intOf i).toNat)
  case atStart => exact ⟨0, _, 0, 1, by simp, by omega, Or.inl rfl, hQ0.out, by rw [show psum (ps.drop j) 0 = 0 by simp [psum]]; exact PQ.zero⟩
  case round =>
    obtain ⟨t, p, sn, sd, rfl, ht, ht2, hQ, hPQ⟩ := hrel
    have hQH := Lib.hid hQ
    have hPH := Lib.hid hPQ
    obtain ⟨bm, x0, x1, x2, x3, _, hbw⟩ := hQ
    have hM := Lib.hid (show QM wr p.a p.c p.a' p.c' sn sd from bm)
    have hzg : w3.heap.size < wr.heap.size := World.block_lt_of_cell? wr _ x0
    clear hPQ bm
    by_cases hjt : j + t < m
    · obtain ⟨q, hq⟩ : ∃ q, ps[j + t]? = some q := ⟨_, List.getElem?_eq_getElem (by rw [hlH.out]; exact hjt)⟩
      obtain ⟨b1, o1, p1, rfl, hm1, e0, e1, e2, e3⟩ := (hS3.out.below hbw) (j + t) q hq
      have hnx := Lib.hid (psum_next (ps.drop j) t q (by rw [List.getElem?_drop]; exact hq))
      have hq4 := Lib.hid (PQ.low (hpH.out q (List.mem_of_getElem? hq)))
      have hz2 := Lib.hid (hq4.out.szq (by omega))
      have hz4 := Lib.hid (hPH.out.szq (by omega))
      have hps := Lib.hid (hPH.out.add hq4.out)
      have hM1 := Lib.hid (show QM wr p1.a p1.c p1.a' p1.c' (rn q) (rd q) from hm1)
      have hjj : ((j + t : Nat) : Int) < m := by omega
      have hb1 : b1 < wr.heap.size := World.block_lt_of_cell? wr _ e0
      clear hm1 hq hbw
      go_wp2_with (fail)
      go_region_with (first
        | (go_at_call 30; go_loud (with_reducible refine (addq_any p.a p.c p.a' p.c' p1.a p1.c p1.a' p1.c' sn sd (rn q) (rd q) _ (QM.up hM.out (Below.refl _ _).drew) (QM.up hM1.out (Below.refl _ _).drew) hz4.out hz2.out).mono ?_); rintro e w5 ⟨a5, d5, a5', d5', rfl, hm5, hb5⟩; have hq5 := Lib.hid ((hQH.out.step (Below.refl _ _).drew).step hb5); obtain ⟨_, t2, t3, t5, _⟩ := hq5.out.2.2.2.2.2.1))
      all_goals go_wp2_with (fail)
      all_goals (
        go_roundw
        case rel => exact ⟨t + 1, ⟨a5, d5, a5', d5'⟩, _, _, by go_num, by omega, Or.inr (by omega), hq5.out.store hm5, by have h := hps.out; rw [hnx.out] at h; exact h.mono (by omega)⟩
        case measure => simp [intOf]; omega)
    · have hfull : Hid (psum (ps.drop j) t = (ps.drop j).sum) := by
        show _ = _
        unfold psum
        rw [List.take_of_length_le (by rw [List.length_drop, hlH.out]; omega)]
      have hlow := Lib.hid (show PQ sn sd (ps.drop j).sum 30000 by have h := hPH.out; rw [hfull.out] at h; exact h.mono (by omega))
      have hA := Lib.hid (show Rat.divInt sn sd = (ps.drop j).sum from hlow.out.2.1)
      have hB1 := Lib.hid (show LZ sn ≤ 1000000 by have := hlow.out.2.2.1; omega)
      have hB2 := Lib.hid (show LZ sd ≤ 1000000 by have := hlow.out.2.2.2; omega)
      have hB3 := Lib.hid (show 0 < sd from hlow.out.1)
      have hjj : ¬ ((j + t : Nat) : Int) < m := by omega
      have HRw := Lib.hid (Rg.slf (Rg.over HR3.out hbw hz3))
      have hbx := Lib.hid (hb3H.out.trans (hbw.mono hb3H.out.size))
      clear hbw
      go_wp2_with (first
        | (go_at_call 33; go_loud (with_reducible refine (lowest_q p.a p.c p.a' p.c' sn sd (ps.drop j).sum _ hM.out hB1.out hB2.out hB3.out hA.out).mono ?_); rintro e w5 ⟨a5, d5, a5', d5', rfl, hm5, hb5⟩; have r5 := Lib.hid (Rg.slf (Rg.step HRw.out (by omega) hb5)); obtain ⟨_, t2, t3, t5, _⟩ := r5.out))
      refine bodyPost_ret (v := .agg #[.bool (ng (rn (ps.drop j).sum)), .slice a5 (LZ (rn (ps.drop j).sum)) d5, .bool (ng (rd (ps.drop j).sum)), .slice a5' (LZ (rd (ps.drop j).sum)) d5']) (by simp [results, Tryz.results32, go_sem, t2]) rfl ?_
      exact ⟨a5, d5, a5', d5', rfl, ⟨hm5.1.set4 t5 _ _ _ _ _ _ _ _, hm5.2.set4 t5 _ _ _ _ _ _ _ _⟩, below_set4 (bseqZ hbx.out hb5) (Nat.le_refl _) _ _ _ _⟩

end Go.Proofs.YtcaeonpjokkjnaaGreat

/- Walk of the reference: Rates. -/
namespace Go.Proofs.YtcaeonpjokkjnaaGreat
open Go Go.RowKit Go.Proofs

theorem PQ.sub {n d n2 d2 : Int} {p q : Rat} {B C : Nat} (h : PQ n d p B) (h2 : PQ n2 d2 q C) : PQ (n * d2 - n2 * d) (d * d2) (p - q) (B + C + 1) := by
  obtain ⟨h1, rfl, h3, h4⟩ := h
  obtain ⟨g1, rfl, g3, g4⟩ := h2
  have l1 := LZ_mul n d2
  have l2 := LZ_mul n2 d
  have l3 := LZ_mul d d2
  have l4 := LZ_sub (n * d2) (n2 * d)
  refine ⟨Int.mul_pos h1 g1, ?_, by omega, by omega⟩
  rw [Rat.divInt_sub_divInt _ _ (by omega) (by omega)]
theorem PQ.div {n d n2 d2 : Int} {p q : Rat} {B C : Nat} (h : PQ n d p B) (h2 : PQ n2 d2 q C) (hp : 0 < n2) : PQ (n * d2) (d * n2) (p / q) (B + C) := by
  obtain ⟨h1, rfl, h3, h4⟩ := h
  obtain ⟨g1, rfl, g3, g4⟩ := h2
  have l1 := LZ_mul n d2
  have l3 := LZ_mul d n2
  refine ⟨Int.mul_pos h1 hp, ?_, by omega, by omega⟩
  rw [Rat.div_def, Rat.inv_divInt, Rat.divInt_mul_divInt]
theorem PQ.numpos {n d : Int} {q : Rat} {B : Nat} (h : PQ n d q B) (hq : 0 < q) : 0 < n := by
  obtain ⟨h1, rfl, _, _⟩ := h
  by_cases h2 : 0 < n
  · exact h2
  · have h5 : 0 ≤ Rat.divInt (-n) d := Rat.divInt_nonneg (by omega) (by omega)
    rw [← Rat.neg_divInt] at h5
    grind

/-- The chance of more than j. -/
theorem drop_left {ps : List Rat} (h : ps.sum = 1) (j : Nat) : (ps.drop j).sum = left ps j := by
  have e : ps.sum = psum ps j + (ps.drop j).sum := by
    unfold psum
    rw [← List.sum_append, List.take_append_drop]
  unfold left
  rw [h] at e
  grind

/-- Four cells that hold a fraction, no more lowered. -/
def CB (w : World) (g : Nat) (p : RP) (n d : Int) : Prop :=
  QM w p.a p.c p.a' p.c' n d ∧ w.cell? ⟨g, 0, none⟩ = some (.bool (ng n)) ∧ w.cell? ⟨g, 1, none⟩ = some (.slice p.a (LZ n) p.c) ∧ w.cell? ⟨g, 2, none⟩ = some (.bool (ng d)) ∧ w.cell? ⟨g, 3, none⟩ = some (.slice p.a' (LZ d) p.c')
theorem CB.up {w w' : World} {g : Nat} {p : RP} {n d : Int} (h : CB w g p n d) (hb : Below w.heap.size w w') : CB w' g p n d := by
  obtain ⟨h1, h2, h3, h4, h5⟩ := h
  exact ⟨h1.up hb, Below.cellAt hb (Nat.le_refl _) h2, Below.cellAt hb (Nat.le_refl _) h3, Below.cellAt hb (Nat.le_refl _) h4, Below.cellAt hb (Nat.le_refl _) h5⟩
theorem CB.new {w : World} {a a' : Option Addr} {c c' : Nat} {n d : Int} (hm : QM w a c a' c' n d) : CB (w.alloc (Obj.cells #[.bool (ng n), .slice a (LZ n) c, .bool (ng d), .slice a' (LZ d) c'] 46)) w.heap.size ⟨a, c, a', c'⟩ n d := by
  obtain ⟨h1, h2, h3, h4, h5, _, _⟩ := QBox.new hm
  exact ⟨h1, h2, h3, h4, h5⟩

theorem CB.store {w : World} {g : Nat} {a a' : Option Addr} {c c' : Nat} {n d : Int} (h : Rg g 4 w w) (hm : QM w a c a' c' n d) :
    CB ((((w.setCell ⟨g, 0, none⟩ (.bool (ng n))).setCell ⟨g, 1, none⟩ (.slice a (LZ n) c)).setCell ⟨g, 2, none⟩ (.bool (ng d))).setCell ⟨g, 3, none⟩ (.slice a' (LZ d) c')) g ⟨a, c, a', c'⟩ n d := by
  obtain ⟨_, t2, t3, t5, t4⟩ := h
  refine ⟨⟨hm.1.set4 t5 _ _ _ _ _ _ _ _, hm.2.set4 t5 _ _ _ _ _ _ _ _⟩, ?_, ?_, ?_, ?_⟩
  · simp [go_sem, t2]
  · simp [go_sem, t2]
  · simp [go_sem, t2]
  · simp [go_sem, t2]
theorem QM.al {w : World} {a a' : Option Addr} {c c' : Nat} {n d : Int} (h : QM w a c a' c' n d) (o : Obj) : QM (w.alloc o) a c a' c' n d := QM.up h ((Below.refl _ _).alloc (Nat.le_refl _) _)
theorem PQ.cost {n d : Int} {ps : List Rat} {c0 c1 : Rat} {k B : Nat} (h : PQ n d (c1 * (1 - left ps (k + 1)) + c0 * left ps (k + 1)) B) (hB : B ≤ 10000 := by omega) : PQ n d (costQ ps c0 c1 k) 10000 := by
  have e : c1 * (1 - left ps (k + 1)) + c0 * left ps (k + 1) = costQ ps c0 c1 k := by
    unfold costQ left
    grind
  rw [e] at h
  exact h.mono hB

/-- What the walk asks of lives and costs. -/
structure RateSt (ps : List Rat) (c0 c1 : Rat) : Prop where
  one : ps.sum = 1
  own : ∀ p ∈ ps, Short4 p
  left : ∀ j, Short4 (left ps j)
  planned : Short4 c0
  failed : Short4 c1
  time : ∀ k, 0 < psum (aboveL ps) (k + 1)
  rate : ∀ k, Short4 (rateQ ps c0 c1 k)
theorem sz4 {d m : Nat} {q : Rat} (h : Bd d m q) (hd : 0 < d) (h1 : m < p10 4000) (h2 : d < p10 4000) : Short4 q := by
  obtain ⟨a, b⟩ := h.parts hd
  exact ⟨by omega, by omega⟩

/-- The next chance above. -/
theorem above_next {ps : List Rat} {k : Nat} (hk : k < ps.length) : psum (aboveL ps) k + Go.Proofs.YtcaeonpjokkjnaaGreat.left ps k = psum (aboveL ps) (k + 1) :=
  psum_next _ _ _ (by unfold aboveL; rw [List.getElem?_map, List.getElem?_range hk]; rfl)

theorem above_l (j m : Nat) (z : Int) (hz : ((j : Nat) : Int) = z) (ao : Option Addr) (c : Nat) (ps : List Rat) (w : World) (hl : ps.length = m) (h1 : ps.sum = 1) (h : ZL w ao ps) (hm12 : m ≤ 12) (hj : j ≤ 1000) (hp4 : ∀ p ∈ ps, Short4 p) :
    Calls Tryz.prog 32 #[.slice ao m c, .int .i64 z] w (RetQ w (rn (left ps j)) (rd (left ps j))) := by
  subst hz
  have := aboveR_any j m ao c ps w hl h hm12 hj hp4
  rw [drop_left h1] at this
  exact this

set_option maxRecDepth 100000 in
set_option maxHeartbeats 6400000 in
theorem ratesR_any (ao : Option Addr) (c m : Nat) (ps : List Rat) (c0 c1 : Rat) (b0 b1 b0' b1' : Option Addr) (k0 k1 k0' k1' : Nat) (w : World) (hl : ps.length = m) (h : ZL w ao ps) (hm12 : m ≤ 12) (hst : RateSt ps c0 c1) (h0 : ZR w b0 k0 b0' k0' c0) (h1 : ZR w b1 k1 b1' k1' c1) :
    Calls Tryz.prog 22 #[.slice ao m c, .agg #[.bool (ng (rn c0)), .slice b0 (LZ (rn c0)) k0, .bool (ng (rd c0)), .slice b0' (LZ (rd c0)) k0'], .agg #[.bool (ng (rn c1)), .slice b1 (LZ (rn c1)) k1, .bool (ng (rd c1)), .slice b1' (LZ (rd c1)) k1']] w (RetZL w (rateL ps c0 c1)) := by
  have hlH := Lib.hid hl
  have hsH := Lib.hid hst
  obtain ⟨V, hV⟩ : ∃ V, V = ((w.alloc (Obj.cells #[.bool (ng (rn c0)), .slice b0 (LZ (rn c0)) k0, .bool (ng (rd c0)), .slice b0' (LZ (rd c0)) k0'] 46)).alloc (Obj.cells #[.bool (ng (rn c1)), .slice b1 (LZ (rn c1)) k1, .bool (ng (rd c1)), .slice b1' (LZ (rd c1)) k1'] 46)).alloc (Obj.cells #[] 46) := ⟨_, rfl⟩
  have q0 : Below w.heap.size w (w.alloc (Obj.cells #[.bool (ng (rn c0)), .slice b0 (LZ (rn c0)) k0, .bool (ng (rd c0)), .slice b0' (LZ (rd c0)) k0'] 46)) := (Below.refl _ _).alloc (Nat.le_refl _) _
  have hCB0 : Hid (CB V w.heap.size ⟨b0, k0, b0', k0'⟩ (rn c0) (rd c0)) := by rw [hV]; exact (((CB.new h0).up ((Below.refl _ _).alloc (Nat.le_refl _) _)).up ((Below.refl _ _).alloc (Nat.le_refl _) _))
  have hCB1 : Hid (CB V (w.heap.size + 1) ⟨b1, k1, b1', k1'⟩ (rn c1) (rd c1)) := by
    have h2 := CB.new (QM.up h1 q0)
    rw [show (w.alloc (Obj.cells #[.bool (ng (rn c0)), .slice b0 (LZ (rn c0)) k0, .bool (ng (rd c0)), .slice b0' (LZ (rd c0)) k0'] 46)).heap.size = w.heap.size + 1 by simp] at h2
    rw [hV]
    exact h2.up ((Below.refl _ _).alloc (Nat.le_refl _) _)
  have hV0 : Hid (ZV V (w.heap.size + 2) (.slice (some ⟨w.heap.size + 1 + 1, 0, none⟩) 0 0) []) := by
    have h2 := ZV.lit0 ((w.alloc (Obj.cells #[.bool (ng (rn c0)), .slice b0 (LZ (rn c0)) k0, .bool (ng (rd c0)), .slice b0' (LZ (rd c0)) k0'] 46)).alloc (Obj.cells #[.bool (ng (rn c1)), .slice b1 (LZ (rn c1)) k1, .bool (ng (rd c1)), .slice b1' (LZ (rd c1)) k1'] 46)) (w.heap.size + 2) (by simp)
    rw [show ((w.alloc (Obj.cells #[.bool (ng (rn c0)), .slice b0 (LZ (rn c0)) k0, .bool (ng (rd c0)), .slice b0' (LZ (rd c0)) k0'] 46)).alloc (Obj.cells #[.bool (ng (rn c1)), .slice b1 (LZ (rn c1)) k1, .bool (ng (rd c1)), .slice b1' (LZ (rd c1)) k1'] 46)).heap.size = w.heap.size + 1 + 1 by simp] at h2
    rw [hV]
    exact h2
  have hbV' : Below w.heap.size w V := by rw [hV]; go_grown
  have hbV := Lib.hid hbV'
  have hsV : w.heap.size + 2 < V.heap.size := by rw [hV]; simp
  have hP := Lib.hid h
  have h0H := Lib.hid (show QM w b0 k0 b0' k0' (rn c0) (rd c0) from h0)
  have h1H := Lib.hid (show QM w b1 k1 b1' k1' (rn c1) (rd c1) from h1)
  have hVH := Lib.hid hV
  have hrl : Hid ((rateL ps c0 c1).length = m) := by show _ = _; rw [rateL_length]; exact hl
  clear hV hbV' h hl hst h0 h1 q0
  go_enter Tryz.func22, Tryz.ntmps22
  go_wp2_with (fail)
  rw [← hVH.out]
  go_loopw [7, 8] (fun b i wr => ∃ k : Nat, i = .int .i64 ((k : Int) + 1) ∧ k ≤ m ∧ ZV wr (w.heap.size + 2) b ((rateL ps c0 c1).take k) ∧ Below (w.heap.size + 2) V wr ∧ V.heap.size ≤ wr.heap.size) (fun _ i _ => m + 1 - (intOf i).toNat)
  case atStart => exact ⟨0, rfl, by omega, hV0.out, Below.refl _ _, Nat.le_refl _⟩
  case round =>
    obtain ⟨k, rfl, hk, hV, hbl, hsz⟩ := hrel
    obtain ⟨ab, cb, hbv⟩ := hV.shape
    subst hbv
    have htl : ((rateL ps c0 c1).take k).length = k := by rw [List.length_take, hrl.out]; omega
    have htlH := Lib.hid htl
    rw [htl] at hV ⊢
    have hVkH := Lib.hid hV
    have hblH := Lib.hid hbl
    clear hV htl hbl
    have hbw0 := Lib.hid (hbV.out.trans (hblH.out.mono (by omega)))
    have hPk := Lib.hid (hP.out.below hbw0.out)
    have hM0 := Lib.hid (QM.up h0H.out hbw0.out)
    have hM1 := Lib.hid (QM.up h1H.out hbw0.out)
    by_cases hkm : k < m
    · have hkk : (k : Int) + 1 ≤ m := by omega
      have x0 := cell_b hblH.out (by omega) hCB0.out.2.1
      have x1 := cell_b hblH.out (by omega) hCB0.out.2.2.1
      have x2 := cell_b hblH.out (by omega) hCB0.out.2.2.2.1
      have x3 := cell_b hblH.out (by omega) hCB0.out.2.2.2.2
      have y0 := cell_b hblH.out (by omega) hCB1.out.2.1
      have y1 := cell_b hblH.out (by omega) hCB1.out.2.2.1
      have y2 := cell_b hblH.out (by omega) hCB1.out.2.2.2.1
      have y3 := cell_b hblH.out (by omega) hCB1.out.2.2.2.2
      go_upto_region 6 with (first
        | (go_at_call 32; go_loud (with_reducible refine (above_l (k + 1) m ((k : Int) + 1) (by simp) ao c ps _ hlH.out hsH.out.one hPk.out hm12 (by omega) hsH.out.own).mono ?_); rintro e w2 ⟨a2, d2, a2', d2', rfl, hm2, hb2⟩))
      obtain ⟨W, hW⟩ : ∃ W, W = w2.alloc (Obj.cells #[.bool (ng (rn (left ps (k + 1)))), .slice a2 (LZ (rn (left ps (k + 1)))) d2, .bool (ng (rd (left ps (k + 1)))), .slice a2' (LZ (rd (left ps (k + 1)))) d2'] 46) := ⟨_, rfl⟩
      have hbW : Below wr.heap.size wr W := by rw [hW]; exact hb2.alloc hb2.size _
      have z0 : W.cell? ⟨w2.heap.size, 0, none⟩ = some (.bool (ng (rn (left ps (k + 1))))) := by rw [hW]; simp [go_sem]
      have z1 : W.cell? ⟨w2.heap.size, 1, none⟩ = some (.slice a2 (LZ (rn (left ps (k + 1)))) d2) := by rw [hW]; simp [go_sem]
      have z2 : W.cell? ⟨w2.heap.size, 2, none⟩ = some (.bool (ng (rd (left ps (k + 1))))) := by rw [hW]; simp [go_sem]
      have z3 : W.cell? ⟨w2.heap.size, 3, none⟩ = some (.slice a2' (LZ (rd (left ps (k + 1)))) d2') := by rw [hW]; simp [go_sem]
      have hz2 : w2.heap.size < W.heap.size := by rw [hW]; simp
      have hMA := Lib.hid (show QM W a2 d2 a2' d2' (rn (left ps (k + 1))) (rd (left ps (k + 1))) by rw [hW]; exact hm2.up ((Below.refl _ _).alloc (Nat.le_refl _) _))
      have u0 := Below.cellAt hbW (Nat.le_refl _) x0
      have u1 := Below.cellAt hbW (Nat.le_refl _) x1
      have u2 := Below.cellAt hbW (Nat.le_refl _) x2
      have u3 := Below.cellAt hbW (Nat.le_refl _) x3
      have v0 := Below.cellAt hbW (Nat.le_refl _) y0
      have v1 := Below.cellAt hbW (Nat.le_refl _) y1
      have v2 := Below.cellAt hbW (Nat.le_refl _) y2
      have v3 := Below.cellAt hbW (Nat.le_refl _) y3
      have hs0 : w.heap.size < W.heap.size := by have := hbW.size; omega
      have hs1 : w.heap.size + 1 < W.heap.size := by have := hbW.size; omega
      have hN0 := Lib.hid (QM.up hM0.out hbW)
      have hN1 := Lib.hid (QM.up hM1.out hbW)
      have hbWH := Lib.hid hbW
      have pA := Lib.hid (PQ.low (hsH.out.left (k + 1)))
      have p0 := Lib.hid (PQ.low hsH.out.planned)
      have p1 := Lib.hid (PQ.low hsH.out.failed)
      have pO : Hid (PQ (rn 1) (rd 1) 1 1) := ⟨by decide, rat_eq 1, L_12.1, L_12.1⟩
      have pS := Lib.hid (pO.out.sub pA.out)
      have pF := Lib.hid (p1.out.mul pS.out)
      have pP := Lib.hid (p0.out.mul pA.out)
      have pC := Lib.hid (pF.out.add pP.out)
      rw [← hW]
      clear hW hb2 hm2 x0 x1 x2 x3 y0 y1 y2 y3 hbW
      go_cut [10] from 23 to 31 (fun s10 wx => ∃ (g : Nat) (p : RP) (n d : Int), s10 = .pointer (some ⟨g, 0, none⟩) ∧ CB wx g p n d ∧ PQ n d (costQ ps c0 c1 k) 10000 ∧ Below W.heap.size W wx ∧ W.heap.size ≤ g)
      case first =>
        go_region_held3 (fun w' => Kq W w')
          (first | (with_reducible exact Kq.drew _) | (with_reducible exact Kq.ad _ _) | (with_reducible exact Kq.step (by assumption) (by assumption)) | (with_reducible exact Kq.alloc (by assumption) _) | (with_reducible exact Kq.alloc kk7.out _) | (with_reducible exact kk7.out) | (with_reducible refine Kq.set (Kq.set (Kq.set (Kq.set ?_ ?_ _) ?_ _) ?_ _) ?_ _; all_goals first | exact kk7.out | exact Kq.alloc kk7.out _ | exact s7 | exact s6 | exact s5 | exact s4 | exact s3 | exact Nat.le_refl _))
          (first
            | (go_at_call 29; (with_reducible refine (whole1 _).mono ?_); rintro e w3 ⟨a3, d3, a3', d3', rfl, hm3, hb3⟩; have hm3H := Lib.hid hm3; clear hm3; have s3 : W.heap.size ≤ w3.heap.size := (Kq.step (by assumption) hb3).2.size)
            | (go_at_call 59; (with_reducible refine (subq_any a3 d3 a3' d3' a2 d2 a2' d2' (rn 1) (rd 1) (rn (left ps (k + 1))) (rd (left ps (k + 1))) _ (by first | exact hm3H.out | exact QM.al hm3H.out _) (QM.kq hMA.out (by assumption)) (pO.out.szq (by omega)) (pA.out.szq (by omega))).mono ?_); rintro e w4 ⟨a4, d4, a4', d4', rfl, hm4, hb4⟩; have hm4H := Lib.hid hm4; clear hm4; have s4 : W.heap.size ≤ w4.heap.size := (Kq.step (by assumption) hb4).2.size)
            | (go_at_call 31; (with_reducible refine (mulq_any b1 k1 b1' k1' a4 d4 a4' d4' (rn c1) (rd c1) (rn 1 * rd (left ps (k + 1)) - rn (left ps (k + 1)) * rd 1) (rd 1 * rd (left ps (k + 1))) _ (QM.kq hN1.out (by assumption)) (by first | exact hm4H.out | exact QM.al hm4H.out _) (p1.out.szq (by omega)) (pS.out.szq (by omega))).mono ?_); rintro e w5 ⟨a5, d5, a5', d5', rfl, hm5, hb5⟩; have hm5H := Lib.hid hm5; clear hm5; have s5 : W.heap.size ≤ w5.heap.size := (Kq.step (by assumption) hb5).2.size)
            | (go_at_call 31; (with_reducible refine (mulq_any b0 k0 b0' k0' a2 d2 a2' d2' (rn c0) (rd c0) (rn (left ps (k + 1))) (rd (left ps (k + 1))) _ (QM.kq hN0.out (by assumption)) (QM.kq hMA.out (by assumption)) (p0.out.szq (by omega)) (pA.out.szq (by omega))).mono ?_); rintro e w6 ⟨a6, d6, a6', d6', rfl, hm6, hb6⟩; have hm56 : Hid (QM w6 a5 d5 a5' d5' (rn c1 * (rn 1 * rd (left ps (k + 1)) - rn (left ps (k + 1)) * rd 1)) (rd c1 * (rd 1 * rd (left ps (k + 1))))) := (by first | exact QM.up hm5H.out hb6 | exact QM.up (QM.al hm5H.out _) hb6); have hm6H := Lib.hid hm6; clear hm6; have s6 : W.heap.size ≤ w6.heap.size := (Kq.step (by assumption) hb6).2.size)
            | (go_at_call 30; (with_reducible refine (addq_any a5 d5 a5' d5' a6 d6 a6' d6' (rn c1 * (rn 1 * rd (left ps (k + 1)) - rn (left ps (k + 1)) * rd 1)) (rd c1 * (rd 1 * rd (left ps (k + 1)))) (rn c0 * rn (left ps (k + 1))) (rd c0 * rd (left ps (k + 1))) _ (by first | exact hm56.out | exact QM.al hm56.out _) (by first | exact hm6H.out | exact QM.al hm6H.out _) (pF.out.szq (by omega)) (pP.out.szq (by omega))).mono ?_); rintro e w7 ⟨a7, d7, a7', d7', rfl, hm7, hb7⟩; have kk7 : Hid (Kq W w7) := Kq.step (by assumption) hb7; have s7 : W.heap.size ≤ w7.heap.size := kk7.out.2.size; have hm7H := Lib.hid hm7; clear hm7; (first
              | (have r7 := Lib.hid (Rg.slf (Rg.step (Rg.new4 w6 46 _ rfl) (by omega) hb7)); obtain ⟨_, t2, t3, t5, _⟩ := r7.out)
              | (have r7 := Lib.hid (Rg.slf (Rg.step (Rg.step (Rg.new4 w5 46 _ rfl) (by omega) hb6) (by omega) hb7)); obtain ⟨_, t2, t3, t5, _⟩ := r7.out)
              | (have r7 := Lib.hid (Rg.slf (Rg.step (Rg.step (Rg.step (Rg.new4 w4 46 _ rfl) (by omega) hb5) (by omega) hb6) (by omega) hb7)); obtain ⟨_, t2, t3, t5, _⟩ := r7.out)
              | (have r7 := Lib.hid (Rg.slf (Rg.step (Rg.step (Rg.step (Rg.step (Rg.new4 w3 46 _ rfl) (by omega) hb4) (by omega) hb5) (by omega) hb6) (by omega) hb7)); obtain ⟨_, t2, t3, t5, _⟩ := r7.out)
              | (have r7 := Lib.hid (Rg.slf (Rg.step (Rg.step (Rg.step (Rg.step (Rg.step (Rg.drew (Rg.new4 W 46 _ rfl)) (by omega) hb3) (by omega) hb4) (by omega) hb5) (by omega) hb6) (by omega) hb7)); obtain ⟨_, t2, t3, t5, _⟩ := r7.out)
              | skip)))
        all_goals go_wp2_with (fail)
        all_goals go_meet
        all_goals refine ⟨_, ⟨a7, d7, a7', d7'⟩, rn c1 * (rn 1 * rd (left ps (k + 1)) - rn (left ps (k + 1)) * rd 1) * (rd c0 * rd (left ps (k + 1))) + rn c0 * rn (left ps (k + 1)) * (rd c1 * (rd 1 * rd (left ps (k + 1)))), rd c1 * (rd 1 * rd (left ps (k + 1))) * (rd c0 * rd (left ps (k + 1))), rfl, ?_, ?_, ?_, ?_⟩
        all_goals first
          | (with_reducible exact s7)
          | (with_reducible exact s6)
          | (with_reducible exact s5)
          | (with_reducible exact s4)
          | (with_reducible exact s3)
          | (with_reducible exact Nat.le_refl _)
          | (with_reducible exact kk7.out.2.alloc s7 _)
          | (with_reducible exact CB.new hm7H.out)
          | (with_reducible exact CB.store r7.out hm7H.out)
          | (with_reducible refine below_set4 kk7.out.2 ?_ _ _ _ _; first | exact s6 | exact s5 | exact s4 | exact s3 | exact Nat.le_refl _)
          | (have h := pC.out; exact PQ.cost h)
      case rest =>
        obtain ⟨g, pc, cn, cd, rfl, hCB, hPC, hbc, hgW⟩ := hcut
        have hCBH := Lib.hid hCB
        have hPCH := Lib.hid hPC
        have hbcH := Lib.hid hbc
        have hVc := Lib.hid ((hVkH.out.below hbWH.out).below hbcH.out)
        have hPc := Lib.hid ((hPk.out.below hbWH.out).below hbcH.out)
        have hgc : g < wc.heap.size := World.block_lt_of_cell? wc _ hCB.2.1
        clear hCB hPC hbc z0 z1 z2 z3 u0 u1 u2 u3 v0 v1 v2 v3 hMA hN0 hN1 pA p0 p1 pO pS pF pP pC
        go_wp2_with (first
          | (go_at_call 29; go_loud (with_reducible refine (whole0 _).mono ?_); rintro e w8 ⟨a8, d8, a8', d8', rfl, hm8, hb8⟩))
        have hQ0 := Lib.hid (QBox.new hm8)
        have hb8H := Lib.hid hb8
        have hC8 := Lib.hid (hCBH.out.up hb8)
        have hP8 := Lib.hid (hPc.out.below hb8)
        have hV8 := Lib.hid (hVc.out.below hb8)
        have hg8 : g < w8.heap.size := by have := hb8.size; omega
        obtain ⟨V8, hV8e⟩ : ∃ V8, V8 = w8.alloc (Obj.cells #[.bool (ng 0), .slice a8 (LZ 0) d8, .bool (ng 1), .slice a8' (LZ 1) d8'] 46) := ⟨_, rfl⟩
        rw [← hV8e] at hQ0 ⊢
        have hbV8 : Hid (Below (w.heap.size + 2) V w8) := by
          have l1 := hbWH.out.size
          have l2 := hbcH.out.size
          exact hblH.out.trans ((hbWH.out.mono (by omega)).trans ((hbcH.out.mono (by omega)).trans (hb8.mono (by omega))))
        have hsV8 : V.heap.size ≤ w8.heap.size := hbV8.out.size
        clear hV8e hm8 hb8 hkk
        go_loopw [12] (fun i wr => ∃ (j : Nat) (p : RP) (sn sd : Int), i = .int .i64 (j : Nat) ∧ j ≤ k + 1 ∧ QBox w8 wr w8.heap.size p sn sd ∧ PQ sn sd (psum (aboveL ps) j) (1 + 1001 * j)) (fun i _ => k + 1 - (intOf i).toNat)
        case atStart => exact ⟨0, _, 0, 1, rfl, by omega, hQ0.out, by rw [show psum (aboveL ps) 0 = 0 by simp [psum]]; exact PQ.zero⟩
        case round =>
          obtain ⟨j, p, sn, sd, rfl, hj, hQ, hPQ⟩ := hrel
          have hQH := Lib.hid hQ
          have hPH := Lib.hid hPQ
          obtain ⟨bm, x0, x1, x2, x3, _, hbw⟩ := hQ
          have hM := Lib.hid (show QM wr p.a p.c p.a' p.c' sn sd from bm)
          have hzg : w8.heap.size < wr.heap.size := World.block_lt_of_cell? wr _ x0
          have hP9 := Lib.hid (hP8.out.below hbw)
          clear hPQ bm
          by_cases hjk : j < k + 1
          · have hjj : (j : Int) < (k : Int) + 1 := by omega
            have hnx := Lib.hid (above_next (ps := ps) (k := j) (by rw [hlH.out]; omega))
            have pL := Lib.hid (PQ.low (hsH.out.left j))
            have hz2 := Lib.hid (pL.out.szq (by omega))
            have hz4 := Lib.hid (hPH.out.szq (by omega))
            have hps := Lib.hid (hPH.out.add pL.out)
            clear hbw
            go_wp2_with (fail)
            go_region_with (first
              | (go_at_call 32; go_loud (with_reducible refine (above_l j m (j : Int) rfl ao c ps _ hlH.out hsH.out.one (hP9.out.below (Below.refl _ _).drew) hm12 (by omega) hsH.out.own).mono ?_); rintro e w9 ⟨a9, d9, a9', d9', rfl, hm9, hb9⟩; have hQ9 := Lib.hid ((hQH.out.step (Below.refl _ _).drew).step hb9); have hM9 := Lib.hid (QM.up (QM.up hM.out (Below.refl _ _).drew) hb9); obtain ⟨_, y0, y1, y2, y3, _, _⟩ := hQ9.out)
              | (go_at_call 30; go_loud (with_reducible refine (addq_any p.a p.c p.a' p.c' a9 d9 a9' d9' sn sd (rn (left ps j)) (rd (left ps j)) _ hM9.out hm9 hz4.out hz2.out).mono ?_); rintro e w10 ⟨a10, d10, a10', d10', rfl, hm10, hb10⟩; have hQ10 := Lib.hid (hQ9.out.step hb10); obtain ⟨_, t2, t3, t5, _⟩ := hQ10.out.2.2.2.2.2.1))
            all_goals go_wp2_with (fail)
            all_goals (
              go_roundw
              case rel => exact ⟨j + 1, ⟨a10, d10, a10', d10'⟩, _, _, by go_num, by omega, hQ10.out.store hm10, by have h := hps.out; rw [hnx.out] at h; exact h.mono (by omega)⟩
              case measure => simp [intOf]; omega)
          · have hje : j = k + 1 := by omega
            subst hje
            have hjj : ¬ ((k + 1 : Nat) : Int) < (k : Int) + 1 := by omega
            obtain ⟨hmC, f0, f1, f2, f3⟩ := hC8.out.up hbw
            have hMC := Lib.hid (show QM wr pc.a pc.c pc.a' pc.c' cn cd from hmC)
            have hzc : g < wr.heap.size := World.block_lt_of_cell? wr _ f0
            have hn0 := Lib.hid (hPH.out.numpos (hsH.out.time k))
            have hd0 := Lib.hid hPCH.out.1
            have hz1 := Lib.hid (hPCH.out.szq (by omega))
            have hz2 := Lib.hid (hPH.out.szq (by omega))
            have hdv := Lib.hid (hPCH.out.div hPH.out hn0.out)
            have hB1 := Lib.hid (show LZ (cn * sd) ≤ 1000000 by have := hdv.out.2.2.1; omega)
            have hB2 := Lib.hid (show LZ (cd * sn) ≤ 1000000 by have := hdv.out.2.2.2; omega)
            have hB3 := Lib.hid (show 0 < cd * sn from hdv.out.1)
            have hA := Lib.hid (show Rat.divInt (cn * sd) (cd * sn) = rateQ ps c0 c1 k from hdv.out.2.1)
            have hVw := Lib.hid (hV8.out.below hbw)
            have hbx := Lib.hid (hbV8.out.trans (hbw.mono (by omega)))
            have hxs := hbw.size
            have hnx2 := Lib.hid (rateL_next ps c0 c1 k (by rw [hlH.out]; exact hkm))
            clear hbw hmC hj
            go_wp2_with (first
              | (go_at_call 60; go_loud (with_reducible refine (divq_any pc.a pc.c pc.a' pc.c' p.a p.c p.a' p.c' cn cd sn sd _ hMC.out hM.out hz1.out hz2.out hn0.out hd0.out).mono ?_); rintro e w9 ⟨a9, d9, a9', d9', rfl, hm9, hb9⟩)
              | (go_at_call 33; go_loud (with_reducible refine (lowest_q a9 d9 a9' d9' (cn * sd) (cd * sn) (rateQ ps c0 c1 k) _ hm9 hB1.out hB2.out hB3.out hA.out).mono ?_); rintro e w5 ⟨a5, d5, a5', d5', rfl, hm5, hb5⟩; have hb95 := bseqZ hb9 hb5; have hb5H := Lib.hid (hbx.out.trans (hb95.mono (by omega))); have hV5 := Lib.hid (hVw.out.below hb95); have hM5 := Lib.hid (show ZRp w5 ⟨a5, d5, a5', d5'⟩ (rateQ ps c0 c1 k) from hm5); have hs5 := hb95.size; clear hm5 hb5 hm9 hb9 hb95)
              | (at_builtin; go_loud (refine wpList_append_q _ rfl (.tmp 43) (.tmp 48) _ rfl Tryz.underlying31 (w.heap.size + 2) k (.slice ab k cb) ((rateL ps c0 c1).take k) (rateQ ps c0 c1 k) ⟨a5, d5, a5', d5'⟩ rfl (hV5.out.below ((Below.refl _ _).alloc (Nat.le_refl _) _)) htlH.out w5.heap.size rfl (by omega) (by simp; omega) (by simp [go_sem]) (by simp [go_sem]) (by simp [go_sem]) (by simp [go_sem]) (hM5.out.up ((Below.refl _ _).alloc (Nat.le_refl _) _)) ?_); intro v' w6 hv6 hg6; rw [hnx2.out] at hv6; have hb6 := Lib.hid ((hb5H.out.alloc (by omega) _).grown hg6 (by simp; omega) (fun g hg => (hVkH.out.lt g hg).1)); clear hg6))
            all_goals (
              go_roundw
              case rel => exact ⟨k + 1, by go_num, by omega, hv6, hb6.out, hb6.out.size⟩
              case measure => simp [intOf]; omega)
    · have hkk : ¬ (k : Int) + 1 ≤ m := by omega
      have hke : k = m := by omega
      subst hke
      have hall : Hid ((rateL ps c0 c1).take k = rateL ps c0 c1) := by show _ = _; rw [List.take_of_length_le (by rw [hrl.out]; exact Nat.le_refl _)]
      go_wp2_with (fail)
      go_ret
      refine ⟨ab, cb, by rw [hrl.out]; rfl, ?_, hbw0.out⟩
      rw [hrl.out]
      have h9 := hVkH.out
      rw [hall.out] at h9
      exact h9.base (by omega)

end Go.Proofs.YtcaeonpjokkjnaaGreat

/- Sizes that the reference's walks ask for. Plain. -/
namespace Go.Proofs.YtcaeonpjokkjnaaGreat
open Go

theorem Iz.s4 {d j : Nat} {q : Rat} (h : Iz d q) (hd : 0 < d) (hj : d ≤ p10 j) (hj2 : j ≤ 3990) (h0 : 0 ≤ q) (hk : q ≤ 2000000) : Short4 q := by
  obtain ⟨a, b⟩ := (h.bd (k := 2000000) h0 (by exact hk)).parts hd
  have h1 := small (k := 2000000) hj hj2 (by omega)
  have h2 := small (k := 1) hj hj2 (by omega)
  exact ⟨by omega, by omega⟩
theorem le_2m {q : Rat} (h : q ≤ 1) : q ≤ 2000000 := by grind
theorem Lv.left4 {ps : List Rat} (h : Lv ps) (j : Nat) : Short4 (Go.Proofs.YtcaeonpjokkjnaaGreat.left ps j) := by
  obtain ⟨a, b, c⟩ := h.left j
  exact c.s4 (dens_pos ps) h.dens (by omega) a (le_2m b)
theorem Lv.own4 {ps : List Rat} (h : Lv ps) : ∀ p ∈ ps, Short4 p := fun p hp =>
  (Iz.self p).s4 p.den_pos (mil_p10 (h.den p hp)) (by omega) (h.non p hp) (le_2m (h.le1 p hp))
theorem Cs.s4 {c : Rat} (h : Cs c) : Short4 c := (Iz.self c).s4 c.den_pos (mil_p10 h.den) (by omega) (Rat.le_of_lt h.pos) (by have := h.le; grind)
theorem Lv.timepos {ps : List Rat} (h : Lv ps) (k : Nat) : 0 < Go.Proofs.YtcaeonpjokkjnaaGreat.psum (aboveL ps) (k + 1) := by
  have := h.time1 k
  grind

/-- A quotient whose divisor is at least some lesser part. -/
theorem Iz.quot2 {d e : Nat} {p q : Rat} (hp : Iz d p) (hq : Iz e q) (h0 : 0 < q) (k : Nat) (hk : q ≤ ((k : Int) : Rat)) (he : 0 < e) : ∃ n : Nat, 0 < n ∧ n ≤ k * e ∧ Iz (d * n) (p / q) := by
  obtain ⟨z, hz⟩ := hp
  obtain ⟨y, hy⟩ := hq
  have hD : (0 : Rat) < ((e : Int) : Rat) := by exact_mod_cast he
  have hy0 : (0 : Rat) < (y : Rat) := by rw [← hy]; exact Rat.mul_pos h0 hD
  have hy1 : 0 < y := by exact_mod_cast hy0
  have hyb : y ≤ (k : Int) * (e : Int) := by
    have : (y : Rat) ≤ (((k : Int) * (e : Int) : Int) : Rat) := by
      rw [← hy, Rat.intCast_mul]
      exact Rat.mul_le_mul_of_nonneg_right hk (Rat.le_of_lt hD)
    exact Rat.intCast_le_intCast.1 this
  obtain ⟨n, rfl⟩ : ∃ n : Nat, y = n := ⟨y.toNat, by omega⟩
  refine ⟨n, by omega, by exact_mod_cast hyb, z * e, ?_⟩
  have hq0 : q ≠ 0 := by intro h; rw [h] at h0; exact absurd h0 (by decide)
  have hd : p / q * q = p := Rat.div_mul_cancel hq0
  rw [Int.natCast_mul, Rat.intCast_mul, Rat.intCast_mul, ← hz, ← hy]
  grind
theorem Lv.rate4 {ps : List Rat} (h : Lv ps) {c0 c1 : Rat} (h0 : Cs c0) (h1 : Cs c1) (k : Nat) : Short4 (rateQ ps c0 c1 k) := by
  obtain ⟨a, b, c⟩ := h.cost h0 h1 k
  obtain ⟨d, e⟩ := Cs.dens h h0 h1
  obtain ⟨a2, b2, c2⟩ := h.time (k + 1)
  have t0 := h.timepos k
  have t1 := h.time1 k
  obtain ⟨n, n0, n1, hI⟩ := c.quot2 c2 t0 12 (by exact b2) (dens_pos ps)
  have ht0 : Go.Proofs.YtcaeonpjokkjnaaGreat.psum (aboveL ps) (k + 1) ≠ 0 := by intro e; rw [e] at t1; exact absurd t1 (by decide)
  have hr : rateQ ps c0 c1 k * Go.Proofs.YtcaeonpjokkjnaaGreat.psum (aboveL ps) (k + 1) = costQ ps c0 c1 k := by unfold rateQ; exact Rat.div_mul_cancel ht0
  have hr0 : 0 ≤ rateQ ps c0 c1 k := by
    unfold rateQ
    rw [Rat.div_def]
    exact Rat.mul_nonneg a (Rat.le_of_lt (Rat.inv_pos.2 (by grind)))
  have hr1 : rateQ ps c0 c1 k ≤ 2000000 := by
    have : rateQ ps c0 c1 k * 1 ≤ rateQ ps c0 c1 k * Go.Proofs.YtcaeonpjokkjnaaGreat.psum (aboveL ps) (k + 1) := Rat.mul_le_mul_of_nonneg_left t1 hr0
    rw [hr] at this
    grind
  have hn : n ≤ p10 74 := by
    have h2 : (12 : Nat) * Go.Proofs.YtcaeonpjokkjnaaGreat.dens ps ≤ p10 2 * p10 72 := Nat.mul_le_mul (by decide) h.dens
    rw [← p10_add] at h2
    exact Nat.le_trans n1 h2
  exact Iz.s4 (j := 84 + 74) hI (Nat.mul_pos e n0) (mul_p10 d hn) (by omega) hr0 hr1
theorem Lv.rateSt {ps : List Rat} (h : Lv ps) {c0 c1 : Rat} (h0 : Cs c0) (h1 : Cs c1) : RateSt ps c0 c1 where
  one := h.one
  own := h.own4
  left := h.left4
  planned := h0.s4
  failed := h1.s4
  time := h.timepos
  rate := h.rate4 h0 h1

end Go.Proofs.YtcaeonpjokkjnaaGreat
