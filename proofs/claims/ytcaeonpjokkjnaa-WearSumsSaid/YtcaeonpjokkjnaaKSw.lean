/- Sw -/
import Derived.Test.YtcaeonpjokkjnaaKBx
import Derived.Test.YtcaeonpjokkjnaaKEb
import Derived.Test.YtcaeonpjokkjnaaKXc
import Derived.Test.YtcaeonpjokkjnaaKXg
set_option linter.unusedVariables false
/- Walk of the law WearSums. -/
namespace Go.Proofs.Ytcaeonpjokkjnaa
open Go Go.RowKit Go.Proofs

theorem spares_z (n k : Nat) (x y : Int) (hx : ((n : Nat) : Int) = x) (hy : ((k : Nat) : Int) = y) (t : ByteArray) (ps : List Rat) (ht : nt (Fv ps k n) = t) (hn : n ≤ 40) (hk : k ≤ 40) (ao : Option Addr) (c l : Nat) (w : World) (h : Calls Try.prog 28 #[.slice ao l c] w (RetLives w ps)) (hv : Lv ps) :
    Calls Try.prog 26 #[.slice ao l c, .int .i64 x, .int .i64 y] w (RetNumT w t) := by
  subst hx hy ht
  rw [← spL_sum]
  exact spares_good n k hn hk ao c l ps w h hv.len (hv.sparesSz hn hk)
theorem Fv_4 {ps : List Rat} (h : Lv ps) {n k : Nat} (hn : n ≤ 40) (hk : k ≤ 40) : Short4 (Fv ps k n) := by
  rw [← spL_sum]; exact h.spsum4 hn hk
theorem nth_pos {ps : List Rat} (h : Lv ps) (j : Nat) : 0 ≤ nth ps j := by
  unfold nth
  cases e : ps[j]? with
  | none => exact Rat.le_refl
  | some q => exact h.non q (List.mem_of_getElem? e)
theorem rsg_ngt {p q : Rat} (h : p ≤ q) : ¬ 0 < rsg p q := fun h1 => Rat.not_lt.2 h (rsg_gt.1 h1)
theorem rsg_nlt {p q : Rat} (h : q ≤ p) : ¬ rsg p q < 0 := fun h1 => Rat.not_lt.2 h (rsg_neg.1 h1)

theorem FB.newV {w : World} {N : Nat} {b0 b1 : Bool} {x0 x1 : Option Addr} {n0 n1 k0 k1 : Nat} (hN : w.heap.size = N) : FB (w.alloc (Obj.cells #[.bool b0, .slice x0 n0 k0, .bool b1, .slice x1 n1 k1] 37)) N := by
  subst hN; exact Rg.slf (Rg.fill4 w b0 b1 x0 x1 n0 n1 k0 k1 _)

/-- The three boxes of the loop. -/
def S3 (W w : World) (B g1 g2 g3 : Nat) (p1 p2 p3 : RP) (n1 d1 n2 d2 n3 d3 : Int) : Prop :=
  CB w g1 p1 n1 d1 ∧ CB w g2 p2 n2 d2 ∧ CB w g3 p3 n3 d3 ∧ FB w g1 ∧ FB w g2 ∧ FB w g3 ∧ Below W.heap.size W w
theorem S3.step {W w w' : World} {B g1 g2 g3 : Nat} {p1 p2 p3 : RP} {n1 d1 n2 d2 n3 d3 : Int} (h : S3 W w B g1 g2 g3 p1 p2 p3 n1 d1 n2 d2 n3 d3) (hb : Below w.heap.size w w') : S3 W w' B g1 g2 g3 p1 p2 p3 n1 d1 n2 d2 n3 d3 := by
  obtain ⟨a, b, c, d, e, f, g⟩ := h
  exact ⟨a.up hb, b.up hb, c.up hb, d.up hb, e.up hb, f.up hb, bseqZ g hb⟩

/-- Eight cells: a box and an element. -/
abbrev E8 (w : World) (g b o : Nat) (v0 v1 v2 v3 u0 u1 u2 u3 : Value) : Prop :=
  (w.cell? ⟨g, 0, none⟩ = some v0 ∧ w.cell? ⟨g, 1, none⟩ = some v1 ∧ w.cell? ⟨g, 2, none⟩ = some v2 ∧ w.cell? ⟨g, 3, none⟩ = some v3) ∧
  (w.cell? ⟨b, o, none⟩ = some u0 ∧ w.cell? ⟨b, o + 1, none⟩ = some u1 ∧ w.cell? ⟨b, o + 2, none⟩ = some u2 ∧ w.cell? ⟨b, o + 3, none⟩ = some u3)
theorem E8.up {w w' : World} {g b o : Nat} {v0 v1 v2 v3 u0 u1 u2 u3 : Value} (h : E8 w g b o v0 v1 v2 v3 u0 u1 u2 u3) (hb : Below w.heap.size w w') : E8 w' g b o v0 v1 v2 v3 u0 u1 u2 u3 := by
  obtain ⟨⟨a0, a1, a2, a3⟩, c0, c1, c2, c3⟩ := h
  exact ⟨⟨Below.cellAt hb (Nat.le_refl _) a0, Below.cellAt hb (Nat.le_refl _) a1, Below.cellAt hb (Nat.le_refl _) a2, Below.cellAt hb (Nat.le_refl _) a3⟩, Below.cellAt hb (Nat.le_refl _) c0, Below.cellAt hb (Nat.le_refl _) c1, Below.cellAt hb (Nat.le_refl _) c2, Below.cellAt hb (Nat.le_refl _) c3⟩
theorem E8.st {w : World} {g b o h : Nat} {v0 v1 v2 v3 u0 u1 u2 u3 : Value} (hE : E8 w g b o v0 v1 v2 v3 u0 u1 u2 u3) (h1 : h ≠ g) (h2 : h ≠ b) (y0 y1 y2 y3 : Value) :
    E8 ((((w.setCell ⟨h, 0, none⟩ y0).setCell ⟨h, 1, none⟩ y1).setCell ⟨h, 2, none⟩ y2).setCell ⟨h, 3, none⟩ y3) g b o v0 v1 v2 v3 u0 u1 u2 u3 := by
  unfold E8
  simp only [set_far h1, set_far h2]
  exact hE
theorem S3.put {W w : World} {B g1 g2 g3 : Nat} {p1 p2 p3 : RP} {n1 d1 n2 d2 n3 d3 : Int} (h : S3 W w B g1 g2 g3 p1 p2 p3 n1 d1 n2 d2 n3 d3) (h1 : W.heap.size ≤ g1) (h12 : g1 < g2) (h23 : g2 < g3) {a a' : Option Addr} {c c' : Nat} {n d : Int} (hm : QM w a c a' c' n d) :
    S3 W ((((w.setCell ⟨g3, 0, none⟩ (.bool (ng n))).setCell ⟨g3, 1, none⟩ (.slice a (LZ n) c)).setCell ⟨g3, 2, none⟩ (.bool (ng d))).setCell ⟨g3, 3, none⟩ (.slice a' (LZ d) c')) B g1 g2 g3 p1 p2 ⟨a, c, a', c'⟩ n1 d1 n2 d2 n d := by
  obtain ⟨x1, x2, x3, y1, y2, y3, z⟩ := h
  exact ⟨x1.far (by omega) y3 _ _ _ _ _ _ _ _, x2.far (by omega) y3 _ _ _ _ _ _ _ _, CB.store y3 hm, y1.far (by omega) _ _ _ _, y2.far (by omega) _ _ _ _, y3.own _ _ _ _ _ _ _ _, below_set4 z (by omega) _ _ _ _⟩
theorem S3.put1 {W w : World} {B g1 g2 g3 : Nat} {p1 p2 p3 : RP} {n1 d1 n2 d2 n3 d3 : Int} (h : S3 W w B g1 g2 g3 p1 p2 p3 n1 d1 n2 d2 n3 d3) (h1 : W.heap.size ≤ g1) (h12 : g1 < g2) (h23 : g2 < g3) {a a' : Option Addr} {c c' : Nat} {n d : Int} (hm : QM w a c a' c' n d) :
    S3 W ((((w.setCell ⟨g1, 0, none⟩ (.bool (ng n))).setCell ⟨g1, 1, none⟩ (.slice a (LZ n) c)).setCell ⟨g1, 2, none⟩ (.bool (ng d))).setCell ⟨g1, 3, none⟩ (.slice a' (LZ d) c')) B g1 g2 g3 ⟨a, c, a', c'⟩ p2 p3 n d n2 d2 n3 d3 := by
  obtain ⟨x1, x2, x3, y1, y2, y3, z⟩ := h
  exact ⟨CB.store y1 hm, x2.far (by omega) y1 _ _ _ _ _ _ _ _, x3.far (by omega) y1 _ _ _ _ _ _ _ _, y1.own _ _ _ _ _ _ _ _, y2.far (by omega) _ _ _ _, y3.far (by omega) _ _ _ _, below_set4 z (by omega) _ _ _ _⟩
theorem S3.put2 {W w : World} {B g1 g2 g3 : Nat} {p1 p2 p3 : RP} {n1 d1 n2 d2 n3 d3 : Int} (h : S3 W w B g1 g2 g3 p1 p2 p3 n1 d1 n2 d2 n3 d3) (h1 : W.heap.size ≤ g1) (h12 : g1 < g2) (h23 : g2 < g3) {a a' : Option Addr} {c c' : Nat} {n d : Int} (hm : QM w a c a' c' n d) :
    S3 W ((((w.setCell ⟨g2, 0, none⟩ (.bool (ng n))).setCell ⟨g2, 1, none⟩ (.slice a (LZ n) c)).setCell ⟨g2, 2, none⟩ (.bool (ng d))).setCell ⟨g2, 3, none⟩ (.slice a' (LZ d) c')) B g1 g2 g3 p1 ⟨a, c, a', c'⟩ p3 n1 d1 n d n3 d3 := by
  obtain ⟨x1, x2, x3, y1, y2, y3, z⟩ := h
  exact ⟨x1.far (by omega) y2 _ _ _ _ _ _ _ _, CB.store y2 hm, x3.far (by omega) y2 _ _ _ _ _ _ _ _, y1.far (by omega) _ _ _ _, y2.own _ _ _ _ _ _ _ _, y3.far (by omega) _ _ _ _, below_set4 z (by omega) _ _ _ _⟩

set_option maxRecDepth 100000 in
set_option maxHeartbeats 20000000 in
theorem sumsLaw_any (ao : Option Addr) (c l nn : Nat) (xs : List Nat) (w : World) (hl : xs.length = l) (h : Dg .u8 w ao xs) (hl1 : l ≤ 9223372036854775807) (hx : ∀ x ∈ xs, x < 256) (hn : nn < 256) :
    Calls Try.prog 7 #[.slice ao l c, .int .u8 nn] w (RetBool w true) := by
  have hH := Lib.hid h
  have hlH := Lib.hid hl
  have hxH := Lib.hid hx
  obtain ⟨k, hk⟩ : ∃ k : Nat, (nn : Int) % 11 = (k : Int) := ⟨nn % 11, by omega⟩
  have hk10 : k ≤ 10 := by omega
  obtain ⟨ps, hps⟩ : ∃ ps, ps = madeL xs := ⟨_, rfl⟩
  have hpsH := Lib.hid hps
  obtain ⟨ts, hts⟩ : ∃ ts, ts = ps.map nt := ⟨_, rfl⟩
  have htsH := Lib.hid hts
  have hlv := Lib.hid (show Lv ps by rw [hps]; exact made_lv xs)
  have hs4 := Lib.hid (show ∀ q ∈ ps, Short4 q by rw [hps]; exact made_short)
  have hmad : Hid (∀ q ∈ madeL xs, Short4 q) := made_short
  obtain ⟨m, hm⟩ : ∃ m, ps.length = m := ⟨_, rfl⟩
  have htl : Hid (ts.length = m) := by show _ = _; rw [hts, List.length_map]; exact hm
  have hm12 : m ≤ 12 := by have := hlv.out.len; rw [hm] at this; exact this
  have hok := Lib.hid (show allOK ts ∧ ts.map parseQ = ps by rw [hts]; exact texts_ok hs4.out)
  have ht40 := Lib.hid (show ∀ s ∈ ts, s.size ≤ 40 by rw [hts, hps]; exact made_texts xs)
  have hr : Hid (∀ (v : World) (a : Option Addr) (c : Nat), SL v a ts → Calls Try.prog 28 #[.slice a m c] v (RetLives v ps)) := fun v a c hS => by
    have := read_0 a c ts v hS ht40.out hok.out.1 (by rw [hok.out.2, hps]; exact made_good xs)
    rw [hok.out.2, htl.out] at this
    exact this
  obtain ⟨us, hus⟩ : ∃ us, uL ps k = us := ⟨_, rfl⟩
  have hrn : Hid (∀ (v : World) (a : Option Addr) (c : Nat), SL v a ts → Calls Try.prog 10 #[.slice a m c, .int .i64 k] v (RetNums v (us.map nt))) := fun v a c hS => by
    have h1 := hr.out v a c hS
    rw [← htl.out] at h1
    have := renew_good k (by omega) a c ts ps v h1 (by rw [hm]; exact hm12) (hlv.out.renew (by omega))
    rw [htl.out, hus] at this
    exact this
  have husH := Lib.hid hus
  have hu4 : Hid (∀ q ∈ us, Short4 q) := by rw [← hus]; exact hlv.out.u4 (by omega)
  have hul : Hid (us.length = k + 1) := by show _ = _; rw [← hus]; exact uL_length ps k
  have hul2 : Hid ((us.map nt).length = k + 1) := by show _ = _; rw [List.length_map]; exact hul.out
  have hf0 : Hid (nt (Fv ps 0 k) = ⟨#[49]⟩) := by show _ = _; rw [Fv_0]; decide
  have hk0 : ((k : Nat) : Int) = (k : Int) := rfl
  clear h hl hx hps hts hm hus
  go_enter Try.func7, Try.ntmps7
  go_upto_region 7 with (first
    | (go_at_call 8; go_loud (with_reducible refine (madeW_any ao c l xs _ hlH.out hH.out hl1 hxH.out hmad.out).mono ?_); rintro e w1 ⟨a1, c1, rfl, hV1, hb1⟩; rw [← hpsH.out, ← htsH.out] at hV1; have hS1 := Lib.hid (SV.sl hV1); have hb1H := Lib.hid hb1; have r1 := Lib.hid (Below.refl w1.heap.size w1); rw [← hpsH.out, ← htsH.out, htl.out]; clear hV1 hb1)
    | (go_at_call 10; go_loud (with_reducible refine (hrn.out _ a1 c1 (hS1.out.below r1.out)).mono ?_); rintro e w2 ⟨a2, c2, rfl, hV2, hb2⟩; have hS2 := Lib.hid (SV.sl hV2); have r2 := Lib.hid (bseq r1.out hb2); rw [hul2.out]; clear hV2 hb2)
    | (go_at_call 22; (with_reducible refine (lqs_any a2 c2 (k + 1) us _ hul.out hS2.out (by omega) hu4.out).mono ?_); rintro e w4 ⟨a4, c4, rfl, hV4, hb4⟩; have hcap4 := ZV.cap hV4 rfl; have hS4 := Lib.hid (ZV.ql hV4); have r4 := Lib.hid (bseq r2.out hb4); rw [hul.out] at hcap4 ⊢; clear hV4 hb4)
    | (go_at_call 16; go_loud (with_reducible refine (lives_any _).mono ?_); rintro e w6 ⟨rfl, hb6⟩; have r6 := Lib.hid (bseq r4.out hb6); have hU6 := Lib.hid (hS4.out.below hb6); have hT6 := Lib.hid (hS1.out.below r6.out); clear hb6))
  go_cut [11, 12, 13] from 54 to 56 (fun s11 s12 s13 wx => ∃ (g1 g2 g3 : Nat) (p1 p2 p3 : RP), s11 = .pointer (some ⟨g1, 0, none⟩) ∧ s12 = .pointer (some ⟨g2, 0, none⟩) ∧ s13 = .pointer (some ⟨g3, 0, none⟩) ∧ w6.heap.size ≤ g1 ∧ g1 < g2 ∧ g2 < g3 ∧ S3 w6 wx w6.heap.size g1 g2 g3 p1 p2 p3 0 1 0 1 (rn 1) (rd 1))
  case first =>
    go_wp2_with (first
      | (go_at_call 15; go_loud (with_reducible refine (whole1 _).mono ?_); rintro e w9 ⟨a9, d9, a9', d9', rfl, hm9, hb9⟩; have hm9H := Lib.hid hm9; have hm8' := Lib.hid (QM.up hm8H.out hb9); have hm7' := Lib.hid (QM.up (QM.up hm7H.out hb8H.out) hb9); have r9 := Lib.hid (bseq (bseq hb7H.out hb8H.out) hb9); clear hm9 hb9)
      | (go_at_call 15; revert hb7H; intro hb7H; go_loud (with_reducible refine (whole0 _).mono ?_); rintro e w8 ⟨a8, d8, a8', d8', rfl, hm8, hb8⟩; have hm8H := Lib.hid hm8; have hb8H := Lib.hid hb8; clear hm8 hb8)
      | (go_at_call 15; go_loud (with_reducible refine (whole0 _).mono ?_); rintro e w7 ⟨a7, d7, a7', d7', rfl, hm7, hb7⟩; have hm7H := Lib.hid hm7; have hb7H := Lib.hid hb7; clear hm7 hb7))
    go_meet
    refine ⟨_, _, _, ⟨a7, d7, a7', d7'⟩, ⟨a8, d8, a8', d8'⟩, ⟨a9, d9, a9', d9'⟩, rfl, rfl, rfl, ?_, ?_, ?_, ⟨?_, ?_, ?_, ?_, ?_, ?_, ?_⟩⟩
    all_goals (with_reducible (repeat' (first
      | exact hm7'.out | exact hm8'.out | exact hm9H.out | exact r9.out | refine CB.newN ?_ ?_ | refine CB.al ?_ _ | refine CB.store ?_ ?_ | refine CB.far ?_ ?_ ?_ _ _ _ _ _ _ _ _
      | refine QM.al ?_ _ | refine QM.st ?_ ?_ _ _ _ _ _ _ _ _ | (refine FB.newV ?_; first | rfl | (simp; done)) | exact FB.new _ | refine FB.own ?_ _ _ _ _ _ _ _ _ | refine FB.far ?_ ?_ _ _ _ _ | refine FB.al ?_ _
      | refine below_set4 ?_ ?_ _ _ _ _ | refine Below.alloc ?_ ?_ _)))
    all_goals (have l9 := r9.out.size; first | omega | (simp <;> omega))
  case rest =>
    obtain ⟨g1, g2, g3, p1, p2, p3, rfl, rfl, rfl, hg1, hg12, hg23, hB3⟩ := hcut
    have hBH := Lib.hid hB3
    have hr1H : Hid (∀ (v : World) (a : Option Addr) (c : Nat) (x y : Int) (n j : Nat) (t : ByteArray), ((n : Nat) : Int) = x → ((j : Nat) : Int) = y → n ≤ 40 → j ≤ 40 → nt (Fv ps j n) = t → SL v a ts → Calls Try.prog 26 #[.slice a m c, .int .i64 x, .int .i64 y] v (RetNumT v t)) :=
      fun v a c x y n j t h1 h2 hn hj ht hS => spares_z n j x y h1 h2 t ps ht hn hj a c m v (hr.out v a c hS) hlv.out
    have hk1I : Hid (((k + 1 : Nat) : Int) = (k : Int) + 1) := by show _ = _; omega
    clear hB3
    go_wp2_with (fail)
    go_loopw [14] (fun i wr => ∃ (i' : Nat) (q1 q2 q3 : RP) (n1 d1 n2 d2 : Int), i = .int .i64 (i' : Nat) ∧ 1 ≤ i' ∧ i' ≤ k + 1 ∧ S3 w6 wr 0 g1 g2 g3 q1 q2 q3 n1 d1 n2 d2 (rn (Fv ps (i' - 1) k)) (rd (Fv ps (i' - 1) k)) ∧ PQ n1 d1 (sumTo (fun j => Fv ps (j + 1) k) (i' - 1)) (1 + 1001 * i') ∧ PQ n2 d2 (sumTo (fun j => uf ps (j + 1)) (i' - 1)) (1 + 1001 * i')) (fun i _ => k + 2 - (intOf i).toNat)
    case atStart => exact ⟨1, p1, p2, p3, 0, 1, 0, 1, rfl, Nat.le_refl _, by omega, by rw [Fv_0]; exact hBH.out, PQ.zero.mono (by omega), PQ.zero.mono (by omega)⟩
    case round =>
      obtain ⟨i, q1, q2, q3, n1, d1, n2, d2, rfl, hi1, hik, hB3, hP1, hP2⟩ := hrel
      have hBI := Lib.hid hB3
      have hP1H := Lib.hid hP1
      have hP2H := Lib.hid hP2
      obtain ⟨j, hj⟩ : ∃ j, i = j + 1 := ⟨i - 1, by omega⟩
      have hbl := hB3.2.2.2.2.2.2
      clear hP1 hP2
      by_cases hlt : i ≤ k
      · have hltI : (i : Int) ≤ (k : Int) := by omega
        have hi0 : (0 : Int) ≤ (i : Int) := by omega
        have hikI : (i : Int) < (k : Int) + 1 := by omega
        obtain ⟨L, hL⟩ : ∃ L, Fv ps (i - 1) k = L := ⟨_, rfl⟩
        obtain ⟨F, hF⟩ : ∃ F, Fv ps i k = F := ⟨_, rfl⟩
        obtain ⟨G, hG⟩ : ∃ G, Fv ps i (k + 1) = G := ⟨_, rfl⟩
        obtain ⟨u, hu⟩ : ∃ u, us[i]? = some u := ⟨_, List.getElem?_eq_getElem (by rw [hul.out]; omega)⟩
        have huE : uf ps i = u := by
          have := uL_at ps i k hlt
          rw [husH.out, hu] at this
          exact (Option.some.inj this).symm
        have hnn := nth_pos hlv.out
        have hFL : F ≤ L := by
          rw [← hF, ← hL, hj, Nat.add_sub_cancel]
          exact Fv_down hnn (fun n => (hlv.out.psum n).2.1) j k
        have hFG : F ≤ G := by rw [← hF, ← hG]; exact Fv_up hnn i k
        have hL4 : Short4 L := by rw [← hL]; exact Fv_4 hlv.out (by omega) (by omega)
        have hF4 : Short4 F := by rw [← hF]; exact Fv_4 hlv.out (by omega) (by omega)
        have hG4 : Short4 G := by rw [← hG]; exact Fv_4 hlv.out (by omega) (by omega)
        obtain ⟨z1, hz1⟩ : ∃ z, rsg F L = z := ⟨_, rfl⟩
        obtain ⟨z2, hz2⟩ : ∃ z, rsg G F = z := ⟨_, rfl⟩
        have hz1b : decide (0 < z1) = false := by have := rsg_ngt hFL; rw [hz1] at this; simp; omega
        have hz2b : decide (z2 < 0) = false := by have := rsg_nlt hFG; rw [hz2] at this; simp; omega
        have hn1 : sumTo (fun j => Fv ps (j + 1) k) (i - 1) + F = sumTo (fun j => Fv ps (j + 1) k) (i + 1 - 1) := by
          rw [hj, Nat.add_sub_cancel, Nat.add_sub_cancel, sumTo, ← hj, hF]
        have hn2 : sumTo (fun j => uf ps (j + 1)) (i - 1) + u = sumTo (fun j => uf ps (j + 1)) (i + 1 - 1) := by
          rw [hj, Nat.add_sub_cancel, Nat.add_sub_cancel, sumTo, ← hj, huE]
        have pF := Lib.hid (PQ.low hF4)
        have pu := Lib.hid (PQ.low (hu4.out u (List.mem_of_getElem? hu)))
        have pA := hP1H.out.add pF.out
        have pB := hP2H.out.add pu.out
        rw [hn1] at pA
        rw [hn2] at pB
        have pAH := Lib.hid pA
        have pBH := Lib.hid pB
        obtain ⟨tF, htF⟩ : ∃ t, nt F = t := ⟨_, rfl⟩
        obtain ⟨tG, htG⟩ : ∃ t, nt G = t := ⟨_, rfl⟩
        have hsF := Lib.hid (show nt (Fv ps i k) = tF by rw [hF]; exact htF)
        have hsG := Lib.hid (show nt (Fv ps i (k + 1)) = tG by rw [hG]; exact htG)
        have hvF := Lib.hid (show vok tF = true by rw [← htF]; exact vok_iff.2 (parse_nt hF4).1)
        have hvG := Lib.hid (show vok tG = true by rw [← htG]; exact vok_iff.2 (parse_nt hG4).1)
        have hlF : Hid (tF.size ≤ 4611686018427387904) := by show _ ≤ _; rw [← htF]; exact nt_len hF4
        have hlG : Hid (tG.size ≤ 4611686018427387904) := by show _ ≤ _; rw [← htG]; exact nt_len hG4
        have hoF : Hid (∀ (v : World), Calls Try.prog 14 #[.string tF] v (RetQ v (rn F) (rd F))) := fun v => by rw [← htF]; exact of_t F v hF4
        have hoG : Hid (∀ (v : World), Calls Try.prog 14 #[.string tG] v (RetQ v (rn G) (rd G))) := fun v => by rw [← htG]; exact of_t G v hG4
        have sF := Lib.hid (pF.out.szq (by omega))
        have sL := Lib.hid ((PQ.low hL4).szq (by omega))
        have sG := Lib.hid ((PQ.low hG4).szq (by omega))
        have su := Lib.hid (pu.out.szq (by omega))
        have sA := Lib.hid (hP1H.out.szq (by omega))
        have sB := Lib.hid (hP2H.out.szq (by omega))
        have hz1H := Lib.hid hz1
        have hz2H := Lib.hid hz2
        have hTr := Lib.hid (hT6.out.below hbl)
        have hUr := Lib.hid (hU6.out.below hbl)
        rw [hL] at hBI
        have huH := Lib.hid hu
        have hLH := Lib.hid hL
        have hFH := Lib.hid hF
        clear hFL hFG hL4 hF4 hG4 hz1 hz2 hn1 hn2 pA pB htF htG hnn huE hu hL hF hG hB3 hbl hj
        go_upto_region 13 with (first
          | (go_at_call 26; go_loud (with_reducible refine (hr1H.out _ a1 c1 _ _ k i tF rfl rfl (by omega) (by omega) hsF.out hTr.out).mono ?_); rintro e w7 ⟨rfl, hb7⟩; have hB7 := Lib.hid (hBI.out.step hb7); have hT7 := Lib.hid (hTr.out.below hb7); have hU7 := Lib.hid (hUr.out.below hb7); clear hb7)
          | (go_at_call 26; go_loud (with_reducible refine (hr1H.out _ a1 c1 _ _ (k + 1) i tG hk1I.out rfl (by omega) (by omega) hsG.out hT7.out).mono ?_); rintro e w8 ⟨rfl, hb8⟩; have hB8 := Lib.hid (hB7.out.step hb8); have hU8 := Lib.hid (hU7.out.below hb8); clear hb8))
        have hC3 := hB8.out.2.2.1
        obtain ⟨M3, x0, x1, x2, x3⟩ := hC3
        have hM3 := Lib.hid M3
        have zg3 : g3 < w8.heap.size := World.block_lt_of_cell? w8 _ x0
        clear M3
        go_region_held3 (fun w' => Kq w8 w')
          (first | (with_reducible exact Kq.drew _) | assumption)
          (first
            | (go_at_call 11; (with_reducible refine (valid_b tF true _ hvF.out hlF.out).mono ?_); rintro e y1 ⟨rfl, hc1⟩; have kq1 : Kq w8 y1 := Kq.step (by assumption) hc1)
            | (go_at_call 11; (with_reducible refine (valid_b tG true _ hvG.out hlG.out).mono ?_); rintro e y2 ⟨rfl, hc2⟩; have kq2 : Kq w8 y2 := Kq.step (by assumption) hc2)
            | (go_at_call 12; go_loud (with_reducible refine (cmp_z z1 b3 d3 b3' d3' q3.a q3.c q3.a' q3.c' F L _ hz1H.out hm3H.out (QM.kq hM3.out (by assumption)) sF.out sL.out).mono ?_); rintro e y4 ⟨rfl, hc4⟩; have kq4 : Kq w8 y4 := Kq.step (by assumption) hc4)
            | (go_at_call 14; (with_reducible refine (hoG.out _).mono ?_); rintro e y5 ⟨b5, d5, b5', d5', rfl, hm5, hc5⟩; have hm5H := Lib.hid hm5; have kq5 : Kq w8 y5 := Kq.step (by assumption) hc5; clear hm5)
            | (go_at_call 14; (revert hm5H; intro hm5H); (with_reducible refine (hoF.out _).mono ?_); rintro e y6 ⟨b6, d6, b6', d6', rfl, hm6, hc6⟩; have hm6H := Lib.hid hm6; have hm56 := Lib.hid (QM.up hm5H.out hc6); have kq6 : Kq w8 y6 := Kq.step (by assumption) hc6; clear hm6)
            | (go_at_call 14; (with_reducible refine (hoF.out _).mono ?_); rintro e y3 ⟨b3, d3, b3', d3', rfl, hm3, hc3⟩; have hm3H := Lib.hid hm3; have kq3 : Kq w8 y3 := Kq.step (by assumption) hc3; clear hm3)
            | (go_at_call 12; (with_reducible refine (cmp_z z2 b5 d5 b5' d5' b6 d6 b6' d6' G F _ hz2H.out hm56.out hm6H.out sG.out sF.out).mono ?_); rintro e y7 ⟨rfl, hc7⟩; have kq7 : Kq w8 y7 := Kq.step (by assumption) hc7))
        have hbc := kq7.2
        have hBc := Lib.hid (hB8.out.step hbc)
        have hUc := Lib.hid (hU8.out.below hbc)
        clear x0 x1 x2 x3 hM3 zg3 hbc kq1 kq2 kq3 kq4 kq5 kq6 kq7
        go_upto_region 16 with (first
          | (go_at_call 14; go_loud (with_reducible refine (hoF.out _).mono ?_); rintro e w9 ⟨a9, d9, a9', d9', rfl, hm9, hb9⟩; have hm9H := Lib.hid hm9; have hB9 := Lib.hid (hBc.out.step hb9); have hU9 := Lib.hid (hUc.out.below hb9); have hF3 := hB9.out.2.2.2.2.2.1; have t3 := hF3.2.1; have u3 := hF3.2.2.1; have l3 := FB.lt hF3; clear hm9 hb9 hF3))
        obtain ⟨X, hX⟩ : ∃ X, X = ((((w9.setCell ⟨g3, 0, none⟩ (.bool (ng (rn F)))).setCell ⟨g3, 1, none⟩ (.slice a9 (LZ (rn F)) d9)).setCell ⟨g3, 2, none⟩ (.bool (ng (rd F)))).setCell ⟨g3, 3, none⟩ (.slice a9' (LZ (rd F)) d9')) := ⟨_, rfl⟩
        have hBX : S3 w6 X 0 g1 g2 g3 q1 q2 ⟨a9, d9, a9', d9'⟩ n1 d1 n2 d2 (rn F) (rd F) := by rw [hX]; exact S3.put hB9.out hg1 hg12 hg23 hm9H.out
        have hUX : Hid (ZL X a4 us) := hU6.out.below hBX.2.2.2.2.2.2
        rw [← hX]
        clear hX t3 u3 l3
        have hBXH := Lib.hid hBX
        obtain ⟨⟨M1, e0, e1, e2, e3⟩, ⟨M2, f0, f1, f2, f3⟩, ⟨M3, x0, x1, x2, x3⟩, hF1, hF2, hF3, hbX⟩ := hBX
        obtain ⟨b, oo, pu', rfl, hmu, v0, v1, v2, v3⟩ := (hUX.out) i u huH.out
        have hN1 := Lib.hid M1
        have hN2 := Lib.hid M2
        have hN3 := Lib.hid M3
        have hNu := Lib.hid (show QM X pu'.a pu'.c pu'.a' pu'.c' (rn u) (rd u) from hmu)
        have lb := World.block_lt_of_cell? X _ v0
        have l1 := FB.lt hF1
        have l2 := FB.lt hF2
        have l3 : g3 < X.heap.size := World.block_lt_of_cell? X _ x0
        have hb6 : Hid (b < w6.heap.size) := by
          obtain ⟨b', oo', p', hab, _, v0', _⟩ := hU6.out i u huH.out
          injection hab with hab
          injection hab with h1 h2 h3
          subst h1
          exact World.block_lt_of_cell? w6 _ v0'
        have hb6' := hb6.out
        simp at lb
        have hE : Hid (E8 X g3 b (oo + i * 4) (.bool (ng (rn F))) (.slice a9 (LZ (rn F)) d9) (.bool (ng (rd F))) (.slice a9' (LZ (rd F)) d9') (.bool (ng (rn u))) (.slice pu'.a (LZ (rn u)) pu'.c) (.bool (ng (rd u))) (.slice pu'.a' (LZ (rd u)) pu'.c')) := ⟨⟨x0, x1, x2, x3⟩, v0, v1, v2, v3⟩
        have hED := Lib.hid (hE.out.up (Below.refl _ _).drew)
        clear M1 M2 M3 hmu hF1 hF2 hF3 hbX x0 x1 x2 x3 v0 v1 v2 v3
        -- region 16
        refine wp_region_held_drew (S := (fun w' => E8 w' g3 b (oo + i * 4) (.bool (ng (rn F))) (.slice a9 (LZ (rn F)) d9) (.bool (ng (rd F))) (.slice a9' (LZ (rd F)) d9') (.bool (ng (rn u))) (.slice pu'.a (LZ (rn u)) pu'.c) (.bool (ng (rd u))) (.slice pu'.a' (LZ (rd u)) pu'.c'))) (by kernel_rfl) hED.out (fun hHeld => ?_)
        refine wpAnyH_take (i := 1) (oi := ?oi1) (v := ?v1) ?ho1 (by kernel_rfl) (by kernel_rfl) (by kernel_rfl) ?hq1 (Or.inl ⟨?hw1, ?hy1⟩) (by assumption) ?_
        case ho1 => rfl
        case hw1 => rfl
        case hy1 => (intro w hSw; (try dsimp only at hSw); go_simp; (try (with_reducible rfl)))
        case hq1 => exact fun _ _ _ h => h
        simp only [Act.put, List.getElem_toArray, List.getElem_cons_succ, List.getElem_cons_zero, List.setIfInBounds_toArray, List.set_cons_zero, List.set_cons_succ]
        refine wpAnyH_take (i := 4) (oi := ?oi4) (v := ?v4) ?ho4 (by kernel_rfl) (by kernel_rfl) (by kernel_rfl) ?hq4 (Or.inl ⟨?hw4, ?hy4⟩) (by assumption) ?_
        case ho4 => rfl
        case hw4 => rfl
        case hy4 => (intro w hSw; (try dsimp only at hSw); go_simp; (try (with_reducible rfl)))
        case hq4 => exact fun _ _ _ h => h
        simp only [Act.put, List.getElem_toArray, List.getElem_cons_succ, List.getElem_cons_zero, List.setIfInBounds_toArray, List.set_cons_zero, List.set_cons_succ]
        refine wpAnyH_take (i := 5) (oi := ?oi5) (v := ?v5) ?ho5 (by kernel_rfl) (by kernel_rfl) (by kernel_rfl) ?hq5 (Or.inl ⟨?hw5, ?hy5⟩) (by assumption) ?_
        case ho5 => rfl
        case hw5 => rfl
        case hy5 => (intro w hSw; (try dsimp only at hSw); go_simp; (try (with_reducible rfl)))
        case hq5 => exact fun _ _ _ h => h
        simp only [Act.put, List.getElem_toArray, List.getElem_cons_succ, List.getElem_cons_zero, List.setIfInBounds_toArray, List.set_cons_zero, List.set_cons_succ]
        refine wpAnyH_take (i := 6) (oi := ?oi6) (v := ?v6) ?ho6 (by kernel_rfl) (by kernel_rfl) (by kernel_rfl) ?hq6 (Or.inl ⟨?hw6, ?hy6⟩) (by assumption) ?_
        case ho6 => rfl
        case hw6 => rfl
        case hy6 => (intro w hSw; (try dsimp only at hSw); go_simp; (try (with_reducible rfl)))
        case hq6 => exact fun _ _ _ h => h
        simp only [Act.put, List.getElem_toArray, List.getElem_cons_succ, List.getElem_cons_zero, List.setIfInBounds_toArray, List.set_cons_zero, List.set_cons_succ]
        refine wpAnyH_take (i := 7) (oi := ?oi7) (v := ?v7) ?ho7 (by kernel_rfl) (by kernel_rfl) (by kernel_rfl) ?hq7 (Or.inl ⟨?hw7, ?hy7⟩) (by assumption) ?_
        case ho7 => rfl
        case hw7 => rfl
        case hy7 => (intro w hSw; (try dsimp only at hSw); go_simp; (try (with_reducible rfl)))
        case hq7 => exact fun _ _ _ h => h
        simp only [Act.put, List.getElem_toArray, List.getElem_cons_succ, List.getElem_cons_zero, List.setIfInBounds_toArray, List.set_cons_zero, List.set_cons_succ]
        refine wpAnyH_ready (rs := [0, 3]) (by kernel_rfl) (by simp) ?_
        refine AllReadyH.cons rfl (fun K hK => ?_) (AllReadyH.cons rfl (fun K hK => ?_) AllReadyH.nil)
        · go_simp
          refine hK.out _ _ hED.out (fun hHeld => ?_)
          clear hK K
          refine wpAnyH_ready (rs := [2, 3]) (by kernel_rfl) (by simp) ?_
          refine AllReadyH.cons rfl (fun K hK => ?_) (AllReadyH.cons rfl (fun K hK => ?_) AllReadyH.nil)
          · go_simp
            (go_at_call 27; (with_reducible refine (addq_any q1.a q1.c q1.a' q1.c' a9 d9 a9' d9' n1 d1 (rn F) (rd F) _ (QM.up hN1.out (Below.refl _ _).drew) (QM.up hN3.out (Below.refl _ _).drew) sA.out sF.out).mono ?_); rintro e y10 ⟨a10, d10, a10', d10', rfl, hm10, hc10⟩; have hm10H := Lib.hid hm10; have hd10 := Lib.hid (bseqZ (Below.refl X.heap.size X).drew hc10); have hE10 := Lib.hid (hE.out.up hd10.out); have hB10 := Lib.hid (hBXH.out.step hd10.out); obtain ⟨M20, s0', s1', s2', s3'⟩ := hB10.out.2.1; clear hm10 M20)
            (try go_wp2_with (fail))
            refine hK.out _ _ hE10.out (fun hHeld => ?_)
            clear hK K
            refine wpAnyH_ready (rs := [3]) (by kernel_rfl) (by simp) ?_
            refine AllReadyH.cons rfl (fun K hK => ?_) AllReadyH.nil
            go_simp
            refine hK.out _ _ hE10.out (fun hHeld => ?_)
            clear hK K
            refine wpAnyH_ready (rs := [8]) (by kernel_rfl) (by simp) ?_
            refine AllReadyH.cons rfl (fun K hK => ?_) AllReadyH.nil
            go_simp
            (go_at_call 27; (with_reducible refine (addq_any q2.a q2.c q2.a' q2.c' pu'.a pu'.c pu'.a' pu'.c' n2 d2 (rn u) (rd u) _ (QM.up hN2.out hd10.out) (QM.up hNu.out hd10.out) sB.out su.out).mono ?_); rintro e y11 ⟨a11, d11, a11', d11', rfl, hm11, hc11⟩; have hm11H := Lib.hid hm11; have hm10' := Lib.hid (QM.up hm10H.out hc11); have hE11 := Lib.hid (hE10.out.up hc11); have hB11 := Lib.hid (hB10.out.step hc11); have t1 := hB11.out.2.2.2.1.2.1; have u1 := hB11.out.2.2.2.1.2.2.1; have t2 := hB11.out.2.2.2.2.1.2.1; have u2 := hB11.out.2.2.2.2.1.2.2.1; have m1 := FB.lt hB11.out.2.2.2.1; have m2 := FB.lt hB11.out.2.2.2.2.1; clear hm11)
            (try go_wp2_with (fail))
            refine hK.out _ _ hE11.out (fun hHeld => ?_)
            clear hK K
            refine wpAnyH_ready (rs := [9]) (by kernel_rfl) (by simp) ?_
            refine AllReadyH.cons rfl (fun K hK => ?_) AllReadyH.nil
            go_simp
            refine hK.out _ _ (E8.st hE11.out (by omega) (by omega) _ _ _ _) (fun hHeld => ?_)
            clear hK K
            refine wpAnyH_ready (rs := [10]) (by kernel_rfl) (by simp) ?_
            refine AllReadyH.cons rfl (fun K hK => ?_) AllReadyH.nil
            go_simp
            refine hK.out _ _ (E8.st (E8.st hE11.out (by omega) (by omega) _ _ _ _) (by omega) (by omega) _ _ _ _) (fun hHeld => ?_)
            clear hK K
            refine wpAnyH_done (by kernel_rfl) ?_ _
            go_wp2_with (fail)
            go_roundw
            case rel => exact ⟨i + 1, ⟨a10, d10, a10', d10'⟩, ⟨a11, d11, a11', d11'⟩, ⟨a9, d9, a9', d9'⟩, _, _, _, _, by go_num, by omega, by omega, by rw [Nat.add_sub_cancel, hFH.out]; exact S3.put2 (S3.put1 hB11.out hg1 hg12 hg23 hm10'.out) hg1 hg12 hg23 (QM.st hm11H.out hB11.out.2.2.2.1 _ _ _ _ _ _ _ _), pAH.out.mono (by omega), pBH.out.mono (by omega)⟩
            case measure => simp [intOf]; omega
          · go_simp
            refine hK.out _ _ hED.out (fun hHeld => ?_)
            clear hK K
            refine wpAnyH_ready (rs := [2]) (by kernel_rfl) (by simp) ?_
            refine AllReadyH.cons rfl (fun K hK => ?_) AllReadyH.nil
            go_simp
            (go_at_call 27; (with_reducible refine (addq_any q1.a q1.c q1.a' q1.c' a9 d9 a9' d9' n1 d1 (rn F) (rd F) _ (QM.up hN1.out (Below.refl _ _).drew) (QM.up hN3.out (Below.refl _ _).drew) sA.out sF.out).mono ?_); rintro e y10 ⟨a10, d10, a10', d10', rfl, hm10, hc10⟩; have hm10H := Lib.hid hm10; have hd10 := Lib.hid (bseqZ (Below.refl X.heap.size X).drew hc10); have hE10 := Lib.hid (hE.out.up hd10.out); have hB10 := Lib.hid (hBXH.out.step hd10.out); obtain ⟨M20, s0', s1', s2', s3'⟩ := hB10.out.2.1; clear hm10 M20)
            (try go_wp2_with (fail))
            refine hK.out _ _ hE10.out (fun hHeld => ?_)
            clear hK K
            refine wpAnyH_ready (rs := [8]) (by kernel_rfl) (by simp) ?_
            refine AllReadyH.cons rfl (fun K hK => ?_) AllReadyH.nil
            go_simp
            (go_at_call 27; (with_reducible refine (addq_any q2.a q2.c q2.a' q2.c' pu'.a pu'.c pu'.a' pu'.c' n2 d2 (rn u) (rd u) _ (QM.up hN2.out hd10.out) (QM.up hNu.out hd10.out) sB.out su.out).mono ?_); rintro e y11 ⟨a11, d11, a11', d11', rfl, hm11, hc11⟩; have hm11H := Lib.hid hm11; have hm10' := Lib.hid (QM.up hm10H.out hc11); have hE11 := Lib.hid (hE10.out.up hc11); have hB11 := Lib.hid (hB10.out.step hc11); have t1 := hB11.out.2.2.2.1.2.1; have u1 := hB11.out.2.2.2.1.2.2.1; have t2 := hB11.out.2.2.2.2.1.2.1; have u2 := hB11.out.2.2.2.2.1.2.2.1; have m1 := FB.lt hB11.out.2.2.2.1; have m2 := FB.lt hB11.out.2.2.2.2.1; clear hm11)
            (try go_wp2_with (fail))
            refine hK.out _ _ hE11.out (fun hHeld => ?_)
            clear hK K
            refine wpAnyH_ready (rs := [9]) (by kernel_rfl) (by simp) ?_
            refine AllReadyH.cons rfl (fun K hK => ?_) AllReadyH.nil
            go_simp
            refine hK.out _ _ (E8.st hE11.out (by omega) (by omega) _ _ _ _) (fun hHeld => ?_)
            clear hK K
            refine wpAnyH_ready (rs := [10]) (by kernel_rfl) (by simp) ?_
            refine AllReadyH.cons rfl (fun K hK => ?_) AllReadyH.nil
            go_simp
            refine hK.out _ _ (E8.st (E8.st hE11.out (by omega) (by omega) _ _ _ _) (by omega) (by omega) _ _ _ _) (fun hHeld => ?_)
            clear hK K
            refine wpAnyH_done (by kernel_rfl) ?_ _
            go_wp2_with (fail)
            go_roundw
            case rel => exact ⟨i + 1, ⟨a10, d10, a10', d10'⟩, ⟨a11, d11, a11', d11'⟩, ⟨a9, d9, a9', d9'⟩, _, _, _, _, by go_num, by omega, by omega, by rw [Nat.add_sub_cancel, hFH.out]; exact S3.put2 (S3.put1 hB11.out hg1 hg12 hg23 hm10'.out) hg1 hg12 hg23 (QM.st hm11H.out hB11.out.2.2.2.1 _ _ _ _ _ _ _ _), pAH.out.mono (by omega), pBH.out.mono (by omega)⟩
            case measure => simp [intOf]; omega
        · go_simp
          refine hK.out _ _ hED.out (fun hHeld => ?_)
          clear hK K
          refine wpAnyH_ready (rs := [0]) (by kernel_rfl) (by simp) ?_
          refine AllReadyH.cons rfl (fun K hK => ?_) AllReadyH.nil
          go_simp
          refine hK.out _ _ hED.out (fun hHeld => ?_)
          clear hK K
          refine wpAnyH_ready (rs := [2]) (by kernel_rfl) (by simp) ?_
          refine AllReadyH.cons rfl (fun K hK => ?_) AllReadyH.nil
          go_simp
          (go_at_call 27; (with_reducible refine (addq_any q1.a q1.c q1.a' q1.c' a9 d9 a9' d9' n1 d1 (rn F) (rd F) _ (QM.up hN1.out (Below.refl _ _).drew) (QM.up hN3.out (Below.refl _ _).drew) sA.out sF.out).mono ?_); rintro e y10 ⟨a10, d10, a10', d10', rfl, hm10, hc10⟩; have hm10H := Lib.hid hm10; have hd10 := Lib.hid (bseqZ (Below.refl X.heap.size X).drew hc10); have hE10 := Lib.hid (hE.out.up hd10.out); have hB10 := Lib.hid (hBXH.out.step hd10.out); obtain ⟨M20, s0', s1', s2', s3'⟩ := hB10.out.2.1; clear hm10 M20)
          (try go_wp2_with (fail))
          refine hK.out _ _ hE10.out (fun hHeld => ?_)
          clear hK K
          refine wpAnyH_ready (rs := [8]) (by kernel_rfl) (by simp) ?_
          refine AllReadyH.cons rfl (fun K hK => ?_) AllReadyH.nil
          go_simp
          (go_at_call 27; (with_reducible refine (addq_any q2.a q2.c q2.a' q2.c' pu'.a pu'.c pu'.a' pu'.c' n2 d2 (rn u) (rd u) _ (QM.up hN2.out hd10.out) (QM.up hNu.out hd10.out) sB.out su.out).mono ?_); rintro e y11 ⟨a11, d11, a11', d11', rfl, hm11, hc11⟩; have hm11H := Lib.hid hm11; have hm10' := Lib.hid (QM.up hm10H.out hc11); have hE11 := Lib.hid (hE10.out.up hc11); have hB11 := Lib.hid (hB10.out.step hc11); have t1 := hB11.out.2.2.2.1.2.1; have u1 := hB11.out.2.2.2.1.2.2.1; have t2 := hB11.out.2.2.2.2.1.2.1; have u2 := hB11.out.2.2.2.2.1.2.2.1; have m1 := FB.lt hB11.out.2.2.2.1; have m2 := FB.lt hB11.out.2.2.2.2.1; clear hm11)
          (try go_wp2_with (fail))
          refine hK.out _ _ hE11.out (fun hHeld => ?_)
          clear hK K
          refine wpAnyH_ready (rs := [9]) (by kernel_rfl) (by simp) ?_
          refine AllReadyH.cons rfl (fun K hK => ?_) AllReadyH.nil
          go_simp
          refine hK.out _ _ (E8.st hE11.out (by omega) (by omega) _ _ _ _) (fun hHeld => ?_)
          clear hK K
          refine wpAnyH_ready (rs := [10]) (by kernel_rfl) (by simp) ?_
          refine AllReadyH.cons rfl (fun K hK => ?_) AllReadyH.nil
          go_simp
          refine hK.out _ _ (E8.st (E8.st hE11.out (by omega) (by omega) _ _ _ _) (by omega) (by omega) _ _ _ _) (fun hHeld => ?_)
          clear hK K
          refine wpAnyH_done (by kernel_rfl) ?_ _
          go_wp2_with (fail)
          go_roundw
          case rel => exact ⟨i + 1, ⟨a10, d10, a10', d10'⟩, ⟨a11, d11, a11', d11'⟩, ⟨a9, d9, a9', d9'⟩, _, _, _, _, by go_num, by omega, by omega, by rw [Nat.add_sub_cancel, hFH.out]; exact S3.put2 (S3.put1 hB11.out hg1 hg12 hg23 hm10'.out) hg1 hg12 hg23 (QM.st hm11H.out hB11.out.2.2.2.1 _ _ _ _ _ _ _ _), pAH.out.mono (by omega), pBH.out.mono (by omega)⟩
          case measure => simp [intOf]; omega
        -- region 16, end
      · have hltI : ¬ (i : Int) ≤ (k : Int) := by omega
        have hik2 : i = k + 1 := by omega
        have hP1k := hP1H.out
        have hP2k := hP2H.out
        rw [hik2, Nat.add_sub_cancel] at hP1k hP2k
        rw [e4_sum] at hP1k
        have hcz := Lib.hid (pq_eq hP1k hP2k)
        have sA := Lib.hid (hP1H.out.szq (by omega))
        have sB := Lib.hid (hP2H.out.szq (by omega))
        have hTr := Lib.hid (hT6.out.below hbl)
        clear hP1k hP2k hB3
        go_wp2_with (first
          | (go_at_call 26; go_loud (with_reducible refine (hr1H.out _ a1 c1 _ _ k 0 ⟨#[49]⟩ rfl Int.natCast_zero (by omega) (by omega) hf0.out hTr.out).mono ?_); rintro e w7 ⟨rfl, hb7⟩; have hB7 := Lib.hid (hBI.out.step hb7); obtain ⟨M1, e0, e1, e2, e3⟩ := hB7.out.1; obtain ⟨M2, f0, f1, f2, f3⟩ := hB7.out.2.1; have hM1 := Lib.hid M1; have hM2 := Lib.hid M2; clear M1 M2 hb7)
          | (go_at_call 12; go_loud (with_reducible refine (cmpq_z q1.a q1.c q1.a' q1.c' q2.a q2.c q2.a' q2.c' n1 d1 n2 d2 0 _ hcz.out hM1.out hM2.out sA.out sB.out).mono ?_); rintro e w8 ⟨rfl, hb8⟩; have hB8 := Lib.hid (hB7.out.step hb8); clear hb8))
        go_ret
        exact ⟨rfl, bseq hb1H.out (bseq r6.out hB8.out.2.2.2.2.2.2)⟩

end Go.Proofs.Ytcaeonpjokkjnaa
