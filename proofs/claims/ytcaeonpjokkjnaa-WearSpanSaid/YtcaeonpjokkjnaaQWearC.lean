/- WearC -/
import Derived.Test.YtcaeonpjokkjnaaQWe
set_option linter.unusedVariables false
/- Walks of package wear: dot. -/
namespace Go.Proofs.Ytcaeonpjokkjnaa
open Go Go.RowKit Go.Proofs

theorem Rg.self {N n : Nat} {V w : World} (h : Rg N n V w) : Rg N n w w := Rg.mk (Below.refl _ _) (fun o ho => by rw [h.2.1 o ho]; rfl) h.2.2.1 h.2.2.2.1
theorem Rg.far {N n g k : Nat} {w : World} (h : Rg N n w w) (hN : g ≠ N) (v : Value) : Rg N n (w.setCell ⟨g, k, none⟩ v) (w.setCell ⟨g, k, none⟩ v) := by
  refine Rg.mk (Below.refl _ _) (fun o ho => ?_) (fun o => ?_) (fun o k' z hc => ?_)
  · rw [World.cell?_setCell_far _ _ _ _ hN, h.2.1 o ho]; rfl
  · have := h.2.2.1 o; simp; simpa using this
  · rw [World.cell?_setCell_far _ _ _ _ hN] at hc; exact h.noInt o k' z hc

/-- A box that is kept from round to round at block N, the result's block behind it. -/
def Loop2 (w wr : World) (p : RP) (q : Rat) : Prop := Box wr w.heap.size p q ∧ Rg w.heap.size 4 wr wr ∧ Rg (w.heap.size + 1) 4 wr wr ∧ Below w.heap.size w wr
theorem Loop2.step {w wr w' : World} {p : RP} {q : Rat} (h : Loop2 w wr p q) (hb : Below wr.heap.size wr w') : Loop2 w w' p q :=
  ⟨h.1.up hb, (Rg.step h.2.1 (by omega) hb).self, (Rg.step h.2.2.1 (by omega) hb).self, h.2.2.2.trans (hb.mono h.2.2.2.size)⟩
theorem Loop2.store {w wr : World} {p : RP} {q r r' : Rat} {a a' : Option Addr} {c c' : Nat} (h : Loop2 w wr p q) (hm : RM wr a c a' c' r) (hr : r = r') :
    Loop2 w ((((wr.setCell ⟨w.heap.size, 0, none⟩ (.bool (ng (rn r)))).setCell ⟨w.heap.size, 1, none⟩ (.slice a (LI (rn r)) c)).setCell ⟨w.heap.size, 2, none⟩ (.bool (ng (rd r)))).setCell ⟨w.heap.size, 3, none⟩ (.slice a' (LI (rd r)) c')) ⟨a, c, a', c'⟩ r' := by
  obtain ⟨b1, b2⟩ := Rg.box h.2.1 hm hr
  have hN : w.heap.size ≠ w.heap.size + 1 := by omega
  exact ⟨b1, b2.self, (((h.2.2.1.far hN _).far hN _).far hN _).far hN _, below_set4 h.2.2.2 (Nat.le_refl _) _ _ _ _⟩

def dotl (xs ys : List Rat) : Rat := (List.zipWith (· * ·) xs ys).sum
/-- The sum of the first k products. -/
def pdot (xs ys : List Rat) (k : Nat) : Rat := psum (List.zipWith (· * ·) xs ys) k

theorem pdot_next (xs ys : List Rat) (k : Nat) (p q : Rat) (hp : xs[k]? = some p) (hq : ys[k]? = some q) : pdot xs ys k + p * q = pdot xs ys (k + 1) :=
  psum_next _ _ _ (by rw [List.getElem?_zipWith, hp, hq])

set_option maxRecDepth 100000 in
set_option maxHeartbeats 800000 in
theorem dot_any (a1 a1' : Option Addr) (c1 c1' : Nat) (ao bo : Option Addr) (c d : Nat) (xs ys : List Rat) (w : World) (h0 : RM w a1 c1 a1' c1' 0) (hA : QL w ao xs) (hB : QL w bo ys) (hn : xs.length ≤ 1000000000) (hn2 : ys.length ≤ 1000000000)
    (hz : ∀ k, Sz (pdot xs ys k)) (hz1 : ∀ q ∈ xs, Sz q) (hz2 : ∀ q ∈ ys, Sz q) (hz3 : ∀ p ∈ xs, ∀ q ∈ ys, Sz (p * q)) :
    Calls Try.prog 33 #[.agg #[.bool (ng (rn 0)), .slice a1 (LI (rn 0)) c1, .bool (ng (rd 0)), .slice a1' (LI (rd 0)) c1'], .slice ao xs.length c, .slice bo ys.length d] w (RetRat w (dotl xs ys)) := by
  have hAH := Lib.hid hA
  have hBH := Lib.hid hB
  obtain ⟨n, hnl⟩ : ∃ n, n = xs.length := ⟨_, rfl⟩
  obtain ⟨m, hml⟩ : ∃ m, m = ys.length := ⟨_, rfl⟩
  have hnH := Lib.hid hnl
  have hmH := Lib.hid hml
  rw [← hnl] at hn ⊢
  rw [← hml] at hn2 ⊢
  clear hnl hml hA hB
  have hp0 : pdot xs ys 0 = 0 := by simp [pdot, psum]
  have hbx : Hid (Loop2 w ((w.alloc (Obj.cells #[.bool (ng (rn 0)), .slice a1 (LI (rn 0)) c1, .bool (ng (rd 0)), .slice a1' (LI (rd 0)) c1'] 70)).alloc (Obj.cells #[.bool false, .slice none 0 0, .bool false, .slice none 0 0] 70)) ⟨a1, c1, a1', c1'⟩ (pdot xs ys 0)) := by
    rw [hp0]
    obtain ⟨b1, b2⟩ := Box.new w ⟨a1, c1, a1', c1'⟩ 0 70 h0
    have hb : ∀ w0 : World, Below w0.heap.size w0 (w0.alloc (Obj.cells #[.bool false, .slice none 0 0, .bool false, .slice none 0 0] 70)) := fun w0 => (Below.refl _ _).alloc (Nat.le_refl _) _
    refine ⟨b1.up (hb _), (Rg.step b2 (by omega) (hb _)).self, Rg.new4 _ _ _ (by simp), by go_grown⟩
  obtain ⟨V, hV⟩ : ∃ V, V = ((w.alloc (Obj.cells #[.bool (ng (rn 0)), .slice a1 (LI (rn 0)) c1, .bool (ng (rd 0)), .slice a1' (LI (rd 0)) c1'] 70)).alloc (Obj.cells #[.bool false, .slice none 0 0, .bool false, .slice none 0 0] 70)) := ⟨_, rfl⟩
  rw [← hV] at hbx
  have hVH := Lib.hid hV
  clear hV hp0 h0
  go_enter Try.func33, Try.ntmps33
  go_wp2_with (fail)
  rw [← hVH.out]
  go_loopw [13] (fun i wr => ∃ k p, i = .int .i64 (k : Nat) ∧ k ≤ n ∧ k ≤ m ∧ Loop2 w wr p (pdot xs ys k)) (fun i _ => n - (intOf i).toNat)
  case atStart => exact ⟨0, _, rfl, by omega, by omega, hbx.out⟩
  case round =>
    obtain ⟨k, p, rfl, hk, hk2, hL⟩ := hrel
    have hLH := Lib.hid hL
    have hBr := Lib.hid (show RM wr p.a p.c p.a' p.c' (pdot xs ys k) from hL.1.1)
    obtain ⟨_, _, B0, B1, B2, B3⟩ := hL.1
    have hbl := hL.2.2.2
    clear hL
    by_cases hkn : k < n ∧ k < m
    · obtain ⟨hkn, hkm⟩ := hkn
      obtain ⟨q, hq⟩ : ∃ q, xs[k]? = some q := ⟨_, List.getElem?_eq_getElem (by rw [← hnH.out]; omega)⟩
      obtain ⟨r, hr⟩ : ∃ r, ys[k]? = some r := ⟨_, List.getElem?_eq_getElem (by rw [← hmH.out]; omega)⟩
      obtain ⟨b, o, p2, rfl, hm, e0, e1, e2, e3⟩ := (hAH.out.below hbl) k q hq
      obtain ⟨b', o', p3, rfl, hm', f0, f1, f2, f3⟩ := (hBH.out.below hbl) k r hr
      have hnx := Lib.hid (pdot_next xs ys k q r hq hr)
      have hzq := Lib.hid (hz1 q (List.mem_of_getElem? hq))
      have hzr := Lib.hid (hz2 r (List.mem_of_getElem? hr))
      have hzqr := Lib.hid (hz3 q (List.mem_of_getElem? hq) r (List.mem_of_getElem? hr))
      have hzk := Lib.hid (hz k)
      have hmH2 := Lib.hid (show RM wr p2.a p2.c p2.a' p2.c' q from hm)
      have hmH3 := Lib.hid (show RM wr p3.a p3.c p3.a' p3.c' r from hm')
      have hks : (k : Int) < min (n : Int) (m : Int) := by omega
      clear hq hr hm hm' hbl
      go_wp2_with (fail)
      go_region_with (first
        | (go_at_call 68; go_loud (with_reducible refine (rmul_any p2.a p2.c p2.a' p2.c' p3.a p3.c p3.a' p3.c' q r _ (RM.up hmH2.out (Below.refl _ _).drew) (RM.up hmH3.out (Below.refl _ _).drew) hzq.out hzr.out).mono ?_); rintro e w3 ⟨a3, k3, a3', k3', rfl, hm3, hb3⟩; have hl3 := Lib.hid ((hLH.out.step (Below.refl _ _).drew).step hb3); obtain ⟨_, _, q0, q1, q2, q3⟩ := hl3.out.1)
        | (go_at_call 69; go_loud (with_reducible refine (radd_any p.a p.c p.a' p.c' a3 k3 a3' k3' (pdot xs ys k) (q * r) _ (RM.up (RM.up hBr.out (Below.refl _ _).drew) hb3) hm3 hzk.out hzqr.out).mono ?_); rintro e w4 ⟨a4, k4, a4', k4', rfl, hm4, hb4⟩; have hl4 := Lib.hid ((hLH.out.step (Below.refl _ _).drew).step hb3 |>.step hb4); obtain ⟨g1, g2, g3, g5, g4⟩ := hl4.out.2.1; clear g1 g5 g4))
      all_goals go_wp2_with (fail)
      all_goals (
        go_roundw
        case rel => exact ⟨k + 1, ⟨a4, k4, a4', k4'⟩, by go_num, by omega, by omega, Loop2.store hl4.out hm4 hnx.out⟩
        case measure => simp [intOf]; omega)
    · have hks : ¬ (k : Int) < min (n : Int) (m : Int) := by omega
      have hps : Hid (pdot xs ys k = dotl xs ys) := by show _ = _; unfold pdot psum dotl; rw [List.take_of_length_le (by rw [List.length_zipWith, ← hnH.out, ← hmH.out]; omega)]
      obtain ⟨g1, g2, g3, g5, g4⟩ := hLH.out.2.2.1
      clear g1
      go_wp2_with (fail)
      refine bodyPost_ret (v := .agg #[.bool (ng (rn (pdot xs ys k))), .slice p.a (LI (rn (pdot xs ys k))) p.c, .bool (ng (rd (pdot xs ys k))), .slice p.a' (LI (rd (pdot xs ys k))) p.c']) (by simp [results, Try.results33, go_sem, g2]) rfl ?_
      exact RetRat.fin (N := w.heap.size + 1) (by rw [hps.out]) (by rw [hps.out]) (hBr.out.1.set4 g5 _ _ _ _ _ _ _ _) (hBr.out.2.set4 g5 _ _ _ _ _ _ _ _) hbl (below_set4 (Below.refl _ _) (Nat.le_refl _) _ _ _ _) (by omega)

end Go.Proofs.Ytcaeonpjokkjnaa
