/- Yi -/
import Derived.Test.YtcaeonpjokkjnaaGreatQWq
import Derived.Test.YtcaeonpjokkjnaaGreatQWr
import Derived.Test.YtcaeonpjokkjnaaGreatQWp
set_option linter.unusedVariables false
/- Walk of the reference: Renew. -/
namespace Go.Proofs.YtcaeonpjokkjnaaGreat
open Go Go.RowKit Go.Proofs

/-- A box at block g that holds a fraction that is no more lowered, what lies below it as it was. -/
def QBox (w3 wi : World) (g : Nat) (p : RP) (n d : Int) : Prop :=
  QM wi p.a p.c p.a' p.c' n d ∧ wi.cell? ⟨g, 0, none⟩ = some (.bool (ng n)) ∧ wi.cell? ⟨g, 1, none⟩ = some (.slice p.a (LZ n) p.c) ∧ wi.cell? ⟨g, 2, none⟩ = some (.bool (ng d)) ∧ wi.cell? ⟨g, 3, none⟩ = some (.slice p.a' (LZ d) p.c') ∧
  Rg g 4 wi wi ∧ Below g w3 wi
/-- What the pair says. -/
def PQ (n d : Int) (q : Rat) (B : Nat) : Prop := 0 < d ∧ Rat.divInt n d = q ∧ LZ n ≤ B ∧ LZ d ≤ B

theorem QBox.step {w3 wi w' : World} {g : Nat} {p : RP} {n d : Int} (h : QBox w3 wi g p n d) (hb : Below wi.heap.size wi w') : QBox w3 w' g p n d := by
  obtain ⟨h1, h2, h3, h4, h5, h6, h7⟩ := h
  have hg : g < wi.heap.size := h6.lt (by omega)
  exact ⟨h1.up hb, Below.cellAt hb (Nat.le_refl _) h2, Below.cellAt hb (Nat.le_refl _) h3, Below.cellAt hb (Nat.le_refl _) h4, Below.cellAt hb (Nat.le_refl _) h5, Rg.slf (Rg.step h6 (by omega) hb), h7.trans (hb.mono (by omega))⟩
theorem QBox.store {w3 wi : World} {g : Nat} {p : RP} {n d n' d' : Int} {a a' : Option Addr} {c c' : Nat} (h : QBox w3 wi g p n d) (hm : QM wi a c a' c' n' d') :
    QBox w3 ((((wi.setCell ⟨g, 0, none⟩ (.bool (ng n'))).setCell ⟨g, 1, none⟩ (.slice a (LZ n') c)).setCell ⟨g, 2, none⟩ (.bool (ng d'))).setCell ⟨g, 3, none⟩ (.slice a' (LZ d') c')) g ⟨a, c, a', c'⟩ n' d' := by
  obtain ⟨h1, h2, h3, h4, h5, h6, h7⟩ := h
  have h6' := h6
  obtain ⟨_, t2, t3, t5, t4⟩ := h6'
  refine ⟨⟨hm.1.set4 t5 _ _ _ _ _ _ _ _, hm.2.set4 t5 _ _ _ _ _ _ _ _⟩, ?_, ?_, ?_, ?_, Rg.slf (Rg.set (Rg.set (Rg.set (Rg.set h6 _) _) _) _), below_set4 h7 (Nat.le_refl _) _ _ _ _⟩
  · simp [go_sem, t2]
  · simp [go_sem, t2]
  · simp [go_sem, t2]
  · simp [go_sem, t2]
theorem QBox.new {w3 : World} {a a' : Option Addr} {c c' : Nat} {n d : Int} (hm : QM w3 a c a' c' n d) :
    QBox w3 (w3.alloc (Obj.cells #[.bool (ng n), .slice a (LZ n) c, .bool (ng d), .slice a' (LZ d) c'] 46)) w3.heap.size ⟨a, c, a', c'⟩ n d := by
  refine ⟨hm.up ((Below.refl _ _).alloc (Nat.le_refl _) _), ?_, ?_, ?_, ?_, Rg.fill4 _ _ _ _ _ _ _ _ _ _, (Below.refl _ _).alloc (Nat.le_refl _) _⟩
  · simp [go_sem]
  · simp [go_sem]
  · simp [go_sem]
  · simp [go_sem]

theorem PQ.add {n d n2 d2 : Int} {p q : Rat} {B C : Nat} (h : PQ n d p B) (h2 : PQ n2 d2 q C) : PQ (n * d2 + n2 * d) (d * d2) (p + q) (B + C + 1) := by
  obtain ⟨h1, rfl, h3, h4⟩ := h
  obtain ⟨g1, rfl, g3, g4⟩ := h2
  have l1 := LZ_mul n d2
  have l2 := LZ_mul n2 d
  have l3 := LZ_mul d d2
  have l4 := LZ_add (n * d2) (n2 * d)
  refine ⟨Int.mul_pos h1 g1, ?_, by omega, by omega⟩
  rw [Rat.divInt_add_divInt _ _ (by omega) (by omega)]
theorem PQ.mul {n d n2 d2 : Int} {p q : Rat} {B C : Nat} (h : PQ n d p B) (h2 : PQ n2 d2 q C) : PQ (n * n2) (d * d2) (p * q) (B + C) := by
  obtain ⟨h1, rfl, h3, h4⟩ := h
  obtain ⟨g1, rfl, g3, g4⟩ := h2
  have l1 := LZ_mul n n2
  have l3 := LZ_mul d d2
  refine ⟨Int.mul_pos h1 g1, ?_, by omega, by omega⟩
  rw [Rat.divInt_mul_divInt]
theorem PQ.mono {n d : Int} {q : Rat} {B C : Nat} (h : PQ n d q B) (hB : B ≤ C) : PQ n d q C := ⟨h.1, h.2.1, Nat.le_trans h.2.2.1 hB, Nat.le_trans h.2.2.2 hB⟩
theorem PQ.low {q : Rat} (h : Short4 q) : PQ (rn q) (rd q) q 1000 := ⟨rd_pos q, rat_eq q, LZ_small h.1, LZ_small h.2⟩
theorem PQ.szq {n d : Int} {q : Rat} {B : Nat} (h : PQ n d q B) (hB : B ≤ 10000000) : SzQ n d := ⟨by have := h.2.2.1; omega, by have := h.2.2.2; omega⟩
theorem PQ.zero : PQ 0 1 0 1 := ⟨by decide, by show Rat.divInt 0 1 = 0; rfl, by show L B4 0 ≤ 1; rw [L_zero]; omega, L_12.1⟩
theorem whole1 (w : World) : Calls Tryz.prog 29 #[.int .i64 1] w (RetQ w (rn 1) (rd 1)) := wholeq_any 1 w (by omega)
theorem whole0 (w : World) : Calls Tryz.prog 29 #[.int .i64 0] w (RetQ w 0 1) := wholeq_any 0 w (by omega)

set_option maxRecDepth 100000 in
set_option maxHeartbeats 3200000 in
theorem renewR_any (n : Nat) (hn : n ≤ 40) (ao : Option Addr) (c m : Nat) (ps : List Rat) (w : World) (hl : ps.length = m) (h : ZL w ao ps) (hc : m ≤ c) (hm12 : m ≤ 12) (hp4 : ∀ p ∈ ps, Short4 p) (hu4 : ∀ u ∈ uL ps n, Short4 u) :
    Calls Tryz.prog 16 #[.slice ao m c, .int .i64 n] w (RetZL w (uL ps n)) := by
  have hH := Lib.hid h
  have hlH := Lib.hid hl
  have hpH := Lib.hid hp4
  have huH := Lib.hid hu4
  clear h hl hp4 hu4
  go_enter Tryz.func16, Tryz.ntmps16
  go_wp2_with (first
    | (go_at_call 29; go_loud (with_reducible refine (whole1 _).mono ?_); rintro e w2 ⟨a2, c2, a2', c2', rfl, hm2, hb2⟩))
  have hV0 := Lib.hid (ZV.one w2 w.heap.size ⟨a2, c2, a2', c2'⟩ 1 hm2 hb2.size)
  have hbV := Lib.hid (hb2.alloc hb2.size (Obj.cells #[.bool (ng (rn 1)), .slice a2 (LZ (rn 1)) c2, .bool (ng (rd 1)), .slice a2' (LZ (rd 1)) c2'] 46))
  clear hb2 hm2
  obtain ⟨V, hVe⟩ : ∃ V, V = w2.alloc (Obj.cells #[.bool (ng (rn 1)), .slice a2 (LZ (rn 1)) c2, .bool (ng (rd 1)), .slice a2' (LZ (rd 1)) c2'] 46) := ⟨_, rfl⟩
  rw [← hVe]
  rw [← hVe] at hV0 hbV
  clear hVe
  go_loopw [5, 6] (fun b i wr => ∃ k : Nat, i = .int .i64 ((k : Int) + 1) ∧ k ≤ n ∧ ZV wr w.heap.size b (uL ps k) ∧ Below w.heap.size w wr) (fun _ i _ => n + 1 - (intOf i).toNat)
  case atStart => exact ⟨0, rfl, by omega, hV0.out, hbV.out⟩
  case round =>
    obtain ⟨k, rfl, hk, hV, hbl⟩ := hrel
    obtain ⟨ab, cb, hbv⟩ := hV.shape
    subst hbv
    have htlH := Lib.hid (uL_length ps k)
    have hcap : k + 1 ≤ cb := by have := ZV.cap hV rfl; rw [uL_length] at this; exact this
    rw [htlH.out] at hV ⊢
    have hVH := Lib.hid hV
    have hblH := Lib.hid hbl
    clear hV hbl
    by_cases hkn : k < n
    · have hkk : (k : Int) + 1 ≤ n := by omega
      go_wp2_with (first
        | (go_at_call 29; go_loud (with_reducible refine (whole0 _).mono ?_); rintro e w3 ⟨a3, c3, a3', c3', rfl, hm3, hb3⟩))
      have hQ0 := Lib.hid (QBox.new hm3)
      have hb3H := Lib.hid (bseqZ hblH.out hb3)
      have hV3 := Lib.hid (hVH.out.below hb3)
      have hP3 := Lib.hid (hH.out.below hb3H.out)
      obtain ⟨V3, hV3e⟩ : ∃ V3, V3 = w3.alloc (Obj.cells #[.bool (ng 0), .slice a3 (LZ 0) c3, .bool (ng 1), .slice a3' (LZ 1) c3'] 46) := ⟨_, rfl⟩
      rw [← hV3e] at hQ0 ⊢
      clear hV3e hm3 hb3 hkk
      have hrl : Hid ((uL ps k).reverse.length = k + 1) := by show _ = _; rw [List.length_reverse]; exact htlH.out
      have hcap2 : (k : Int) + 1 ≤ cb := by omega
      go_loopw [8] (fun i wi => ∃ (j : Nat) (p : RP) (sn sd : Int), i = .int .i64 ((j : Int) + 1) ∧ j ≤ k + 1 ∧ j ≤ m ∧ QBox w3 wi w3.heap.size p sn sd ∧ PQ sn sd (pdot ps (uL ps k).reverse j) (1 + 2001 * j)) (fun i _ => m + 1 - (intOf i).toNat)
      case atStart => exact ⟨0, _, 0, 1, rfl, by omega, by omega, hQ0.out, by rw [show pdot ps (uL ps k).reverse 0 = 0 by simp [pdot, psum]]; exact PQ.zero⟩
      case round =>
        obtain ⟨j, p, sn, sd, rfl, hj1, hj2, hQ, hPQ⟩ := hrel
        have hQH := Lib.hid hQ
        have hPH := Lib.hid hPQ
        obtain ⟨bm, x0, x1, x2, x3, _, hbw⟩ := hQ
        have hbwH := Lib.hid hbw
        have hM := Lib.hid (show QM wr p.a p.c p.a' p.c' sn sd from bm)
        have hzg : w3.heap.size < wr.heap.size := World.block_lt_of_cell? wr _ x0
        clear hPQ bm
        by_cases hjj : j < k + 1 ∧ j < m
        · obtain ⟨hjk, hjm⟩ := hjj
          obtain ⟨q, hq⟩ : ∃ q, ps[j]? = some q := ⟨_, List.getElem?_eq_getElem (by rw [hlH.out]; exact hjm)⟩
          obtain ⟨r, hr⟩ : ∃ r, (uL ps k).reverse[j]? = some r := ⟨_, List.getElem?_eq_getElem (by rw [hrl.out]; exact hjk)⟩
          have hr2 : (uL ps k)[k - j]? = some r := by
            rw [List.getElem?_reverse (by rw [htlH.out]; exact hjk), htlH.out, show k + 1 - 1 - j = k - j by omega] at hr
            exact hr
          obtain ⟨b1, o1, p1, rfl, hm1, e0, e1, e2, e3⟩ := (hP3.out.below hbw) j q hq
          obtain ⟨b2, o2, p2, rfl, hm2, f0, f1, f2, f3⟩ := ((ZV.ql hV3.out).below hbw) (k - j) r hr2
          have hnx := Lib.hid (pdot_next ps (uL ps k).reverse j q r hq hr)
          have hq4 := Lib.hid (PQ.low (hpH.out q (List.mem_of_getElem? hq)))
          have hr4 := Lib.hid (PQ.low (huH.out r (uL_mem ps r n k hk (List.mem_of_getElem? hr2))))
          have hz1 := Lib.hid (hq4.out.szq (by omega))
          have hz2 := Lib.hid (hr4.out.szq (by omega))
          have hpm := Lib.hid (hq4.out.mul hr4.out)
          have hz3 := Lib.hid (hpm.out.szq (by omega))
          have hz4 := Lib.hid (hPH.out.szq (by omega))
          have hps := Lib.hid (hPH.out.add hpm.out)
          have hM1 := Lib.hid (show QM wr p1.a p1.c p1.a' p1.c' (rn q) (rd q) from hm1)
          have hM2 := Lib.hid (show QM wr p2.a p2.c p2.a' p2.c' (rn r) (rd r) from hm2)
          have hk1 : (j : Int) + 1 ≤ (k : Int) + 1 := by omega
          have hk2 : (j : Int) + 1 ≤ (m : Int) := by omega
          have hk3 : (j : Int) < c := by omega
          have hk4 : (k : Int) - (j : Int) = ((k - j : Nat) : Int) := by omega
          have hk5 : ((k - j : Nat) : Int) < (k : Int) + 1 := by omega
          have hk6 : (j : Int) < m := by omega
          have hk7 : (k : Int) + 1 - ((j : Int) + 1) = ((k - j : Nat) : Int) := by omega
          have hk8 : (j : Int) + 1 - 1 = (j : Int) := by omega
          have hw1 : IntKind.i64.wrap (j : Int) = (j : Int) := by rw [IntKind.wrap_i64]; omega
          have hw2 : IntKind.i64.wrap ((k - j : Nat) : Int) = ((k - j : Nat) : Int) := by rw [IntKind.wrap_i64]; omega
          have hw3 : IntKind.i64.wrap ((k : Int) - (j : Int)) = ((k - j : Nat) : Int) := by rw [hk4]; exact hw2
          clear hm1 hm2 hq hr hr2 hbw
          go_wp2_with (fail)
          go_region_with (first
            | (go_at_call 31; go_loud (with_reducible refine (mulq_any p1.a p1.c p1.a' p1.c' p2.a p2.c p2.a' p2.c' (rn q) (rd q) (rn r) (rd r) _ (QM.up hM1.out (Below.refl _ _).drew) (QM.up hM2.out (Below.refl _ _).drew) hz1.out hz2.out).mono ?_); rintro e w4 ⟨a4, d4, a4', d4', rfl, hm4, hb4⟩; have hq4' := Lib.hid ((hQH.out.step (Below.refl _ _).drew).step hb4); obtain ⟨_, y0, y1, y2, y3, _, _⟩ := hq4'.out)
            | (go_at_call 30; go_loud (with_reducible refine (addq_any p.a p.c p.a' p.c' a4 d4 a4' d4' sn sd (rn q * rn r) (rd q * rd r) _ (QM.up (QM.up hM.out (Below.refl _ _).drew) hb4) hm4 hz4.out hz3.out).mono ?_); rintro e w5 ⟨a5, d5, a5', d5', rfl, hm5, hb5⟩; have hq5 := Lib.hid (hq4'.out.step hb5); obtain ⟨_, t2, t3, t5, _⟩ := hq5.out.2.2.2.2.2.1))
          all_goals go_wp2_with (fail)
          all_goals (
            go_roundw
            case rel => exact ⟨j + 1, ⟨a5, d5, a5', d5'⟩, _, _, by go_num, by omega, by omega, hq5.out.store hm5, by have h := hps.out; rw [hnx.out] at h; exact h.mono (by omega)⟩
            case measure => simp [intOf]; omega)
        · have hfull : Hid (pdot ps (uL ps k).reverse j = dotl ps (uL ps k).reverse) := by
            show _ = _
            unfold pdot psum dotl
            rw [List.take_of_length_le (by rw [List.length_zipWith, hlH.out, hrl.out]; omega)]
          have hnx2 : Hid (uL ps k ++ [dotl ps (uL ps k).reverse] = uL ps (k + 1)) := rfl
          have hlow := Lib.hid (show PQ sn sd (dotl ps (uL ps k).reverse) 30000 by have h := hPH.out; rw [hfull.out] at h; exact h.mono (by omega))
          have hVw := Lib.hid (hV3.out.below hbw)
          have hbx := Lib.hid (hb3H.out.trans (hbw.mono hb3H.out.size))
          have hA := Lib.hid (show Rat.divInt sn sd = dotl ps (uL ps k).reverse from hlow.out.2.1)
          have hB1 := Lib.hid (show LZ sn ≤ 1000000 by have := hlow.out.2.2.1; omega)
          have hB2 := Lib.hid (show LZ sd ≤ 1000000 by have := hlow.out.2.2.2; omega)
          have hB3 := Lib.hid (show 0 < sd from hlow.out.1)
          have hcs : (¬ (j : Int) + 1 ≤ (k : Int) + 1) ∨ ((j : Int) + 1 ≤ (k : Int) + 1 ∧ ¬ (j : Int) + 1 ≤ (m : Int)) := by omega
          clear hbw hjj
          rcases hcs with hc1 | ⟨hc1, hc2⟩
          all_goals go_wp2_with (first
            | (go_at_call 33; go_loud (with_reducible refine (lowest_q p.a p.c p.a' p.c' sn sd (dotl ps (uL ps k).reverse) _ hM.out hB1.out hB2.out hB3.out hA.out).mono ?_); rintro e w5 ⟨a5, d5, a5', d5', rfl, hm5, hb5⟩; have hb5H := Lib.hid (bseqZ hbx.out hb5); have hV5 := Lib.hid (hVw.out.below hb5); have hM5 := Lib.hid (show ZRp w5 ⟨a5, d5, a5', d5'⟩ (dotl ps (uL ps k).reverse) from hm5); have hs5 := hb5H.out.size; clear hm5 hb5)
            | (at_builtin; go_loud (refine wpList_append_q _ rfl (.tmp 42) (.tmp 45) _ rfl Tryz.underlying31 w.heap.size (k + 1) (.slice ab (k + 1) cb) (uL ps k) (dotl ps (uL ps k).reverse) ⟨a5, d5, a5', d5'⟩ rfl (hV5.out.below ((Below.refl _ _).alloc (Nat.le_refl _) _)) htlH.out w5.heap.size rfl (by omega) (by simp; omega) (by simp [go_sem]) (by simp [go_sem]) (by simp [go_sem]) (by simp [go_sem]) (hM5.out.up ((Below.refl _ _).alloc (Nat.le_refl _) _)) ?_); intro v' w6 hv6 hg6; rw [hnx2.out] at hv6; have hb6 := Lib.hid ((hb5H.out.alloc hs5 _).grown hg6 (by simp; omega) (fun g hg => (hVH.out.lt g hg).1)); clear hg6))
          all_goals (
            go_roundw
            case rel => exact ⟨k + 1, by go_num, by omega, hv6, hb6.out⟩
            case measure => simp [intOf]; omega)
    · have hke : k = n := by omega
      subst hke
      have hkk : ¬ (k : Int) + 1 ≤ k := by omega
      go_wp2_with (fail)
      go_ret
      refine ⟨ab, cb, by rw [htlH.out]; rfl, ?_, hblH.out⟩
      rw [htlH.out]
      exact hVH.out

end Go.Proofs.YtcaeonpjokkjnaaGreat
