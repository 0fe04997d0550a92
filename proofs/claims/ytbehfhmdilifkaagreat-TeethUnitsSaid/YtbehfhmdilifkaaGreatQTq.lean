/- Tq -/
import Derived.Test.YtbehfhmdilifkaaGreatQTp
import Derived.Test.YtbehfhmdilifkaaGreatQWl
set_option linter.unusedVariables false
/- The reference's integers: -1; boxes of them. -/
namespace Go.Proofs.YtbehfhmdilifkaaGreat
open Go Go.RowKit Go.Proofs

theorem boxedV (w : World) (N : Nat) (x y : Value) (V : TypeId) (hN : w.heap.size = N) (hx : ∀ k z, x ≠ .int k z) (hy : ∀ k z, y ≠ .int k z) : Rg N 2 (w.alloc (Obj.cells #[x, y] V)) (w.alloc (Obj.cells #[x, y] V)) := by
  subst hN
  refine Rg.mk (Below.refl _ _) (fun o ho => ?_) (fun o => ?_) (noInt2 (heap_alloc_new _ _) hx hy)
  · rcases o with _ | _ | o
    · simp [go_sem]
    · simp [go_sem]
    · omega
  · simp [go_sem]
set_option maxRecDepth 100000 in
set_option maxHeartbeats 1600000 in
theorem zint_m1 (N : Nat) (w : World) (hN : N = 1) :
    Calls Tryz.prog 34 #[.int .i64 (-1)] w (RetZ w (-(N : Nat))) := by
  obtain ⟨V, hV⟩ : ∃ V, V = (w.alloc (Obj.cells #[.bool false, .slice none 0 0] 34)).alloc (Obj.cells #[.bool true, .slice none 0 0] 34) := ⟨_, rfl⟩
  have e0 : Hid (V.cell? ⟨w.heap.size + 1, 0, none⟩ = some (.bool true)) := by show _ = _; rw [hV]; simp [go_sem]
  have e1 : Hid (V.cell? ⟨w.heap.size + 1, 1, none⟩ = some (.slice none 0 0)) := by show _ = _; rw [hV]; simp [go_sem]
  have hbl' : Below w.heap.size w V := by rw [hV]; go_grown
  have hbl := Lib.hid hbl'
  clear hbl'
  have R1 : Hid (Rg (w.heap.size + 1) 2 V V) := by rw [hV]; exact boxedV _ _ _ _ _ (by simp) (by intro _ _ h; cases h) (by intro _ _ h; cases h)
  have R0 : Hid (Rg w.heap.size 2 V V) := by rw [hV]; exact Rg.old2 _ _ _ _ _ (by intro _ _ h; cases h) (by intro _ _ h; cases h)
  have hV2 : Hid (V.heap.size = w.heap.size + 2) := by show _ = _; rw [hV]; simp
  have hVH := Lib.hid hV
  clear hV
  go_enter Tryz.func34, Tryz.ntmps34
  go_wp2_with (fail)
  rw [← hVH.out]
  go_loopw [0] (fun v wr => ∃ cur k ab cb, v = .int .i64 (-(cur : Nat)) ∧ cur ≤ 1 ∧ wr.cell? ⟨w.heap.size + 1, 0, none⟩ = some (.bool true) ∧ wr.cell? ⟨w.heap.size + 1, 1, none⟩ = some (.slice ab k cb) ∧ IntInv w wr N cur k ab cb) (fun v _ => (-(intOf v)).toNat)
  case atStart => exact ⟨N, 0, none, 0, by rw [hN]; rfl, by omega, e0.out, e1.out, [], rfl, rfl, World.ownsRow_nil _ _ _ _, R1.out, R0.out, hbl.out⟩
  case round =>
    obtain ⟨cur, k, ab, cb, rfl, hcur, f0, f1, os, hol, hdg, hV, hR1, hR0, hbl2⟩ := hrel
    have hVH2 := Lib.hid hV
    have holH := Lib.hid hol
    have hdgH := Lib.hid hdg
    have hR1H := Lib.hid hR1
    have hR0H := Lib.hid hR0
    have hblH := Lib.hid hbl2
    have hz1 : w.heap.size + 1 < wr.heap.size := World.block_lt_of_cell? wr ⟨w.heap.size + 1, 0, none⟩ f0
    have hk : k ≤ 16 := by
      have h1 : (digs B4 N).length ≤ 16 := L_le_of_lt two_le_B4 16 N (by unfold B4; omega)
      rw [hdg, List.length_append] at h1
      omega
    clear hV hol hdg hR1 hR0 hbl2
    by_cases hc0 : cur = 0
    · have hdN : Hid (digs B4 N = os) := by have := hdgH.out; rw [hc0, digs_zero, List.append_nil] at this; exact this
      have hLk : Hid (L B4 N = k) := by show (digs B4 N).length = k; rw [hdN.out]; exact holH.out
      have hM : Hid (MagZ wr ab cb N) := by
        obtain ⟨h1, h2⟩ := hVH2.out.dg holH.out
        exact ⟨by rw [hLk.out]; exact h2, by rw [hdN.out]; exact h1⟩
      subst hc0
      obtain ⟨g1, g2, g3, g5, g4⟩ := hR0H.out
      clear g1
      go_wp2_with (fail)
      have m1 := hM.out.setN g5 0 (.bool true)
      have n1 := g5.set ⟨w.heap.size, 0, none⟩ (.bool true) (by intro _ _ h; cases h)
      have m2 := m1.setN n1 1 (.slice ab k cb)
      refine bodyPost_ret (v := .agg #[.bool true, .slice ab k cb]) (by simp [results, Tryz.results34, go_sem, g2]) rfl ?_
      refine ⟨ab, cb, ?_, by show MagZ _ _ _ (-((N : Nat) : Int)).natAbs; rw [Int.natAbs_neg]; exact m2, (hblH.out.setCell (Nat.le_refl _) _).setCell (Nat.le_refl _) _⟩
      rw [show LZ (-((N : Nat) : Int)) = k by rw [LZ_neg]; exact hLk.out, show ng (-((N : Nat) : Int)) = true by rw [hN]; rfl]
    · obtain rfl : cur = 1 := by omega
      go_wp2_with (first
        | (at_builtin; go_loud (refine wpList_append_int _ rfl (.tmp 17) (.tmp 19) _ rfl Tryz.underlying23 (w.heap.size + 1 + 1) k (.slice ab k cb) os 1 1 rfl (hVH2.out.below ((Below.refl _ _).alloc (Nat.le_refl _) _)) holH.out wr.heap.size rfl (by omega) (by simp; omega) (by simp [go_sem]) (by omega) ?_); intro v' w2 hv2 hg2; have hbG := Lib.hid (((Below.refl (w.heap.size + 1 + 1) wr).alloc (by omega) _).grown hg2 (by simp; omega) (fun g hg => (hVH2.out.lt g hg).1)); have hl : (os ++ [1]).length = k + 1 := (by rw [List.length_append, holH.out]; rfl); obtain ⟨ab2, cb2, hvv⟩ := hv2.shape; rw [hl] at hvv; subst hvv; have f0' := cell_b hbG.out (by omega) f0; have f1' := cell_b hbG.out (by omega) f1; have r1 := Lib.hid (Rg.over hR1H.out hbG.out (by omega)).slf; have r0 := Lib.hid (Rg.over hR0H.out hbG.out (by omega)).slf; obtain ⟨_, _, t1, _, _⟩ := r1.out; have hv2H := Lib.hid hv2; have hlH := Lib.hid hl; clear hg2 hl hv2))
      go_roundw
      case rel =>
        refine ⟨0, k + 1, ab2, cb2, by first | rfl | go_num, by omega, by simp [f0', go_sem], by simp [f1', go_sem], os ++ [1], hlH.out, ?_, hv2H.out.set (by omega) _, Rg.slf (Rg.set r1.out _), r0.out.farS (by omega) _, (hblH.out.trans (hbG.out.mono (by omega))).setCell (by show w.heap.size ≤ w.heap.size + 1; omega) _⟩
        rw [hdgH.out, show digs B4 1 = [1] by decide, digs_zero]; simp
      case measure => simp [intOf]
theorem zint_minus (w : World) : Calls Tryz.prog 34 #[.int .i64 (-1)] w (RetZ w (-1)) := zint_m1 1 w rfl
/-- A box holds a number of the reference. -/
structure PZ (W : World) (b : Nat) (z : Int) (a : Option Addr) (c : Nat) : Prop where
  blk : Blk W b 34 [.bool (ng z), .slice a (LZ z) c]
  zm : ZM W a c z
def PZs (W : World) (b : Nat) (z : Int) : Prop := ∃ a c, PZ W b z a c
theorem PZ.noInt {W : World} {b : Nat} {z : Int} {a : Option Addr} {c : Nat} (h : PZ W b z a c) : NoInt W b := fun o k z hc => by
  rw [h.blk.cell] at hc
  rcases o with _ | _ | o
  · simp at hc
  · simp at hc
  · simp at hc
theorem PZs.below {W W' : World} {b : Nat} {z : Int} (h : PZs W b z) (hb : Below W.heap.size W W') : PZs W' b z := by
  obtain ⟨a, c, h1, h2⟩ := h
  exact ⟨a, c, h1.later hb, h2.up hb⟩
theorem PZs.lt {W : World} {b : Nat} {z : Int} (h : PZs W b z) : b < W.heap.size := by
  obtain ⟨a, c, h1, _⟩ := h
  exact h1.lt
def putZ (W : World) (b : Nat) (z : Int) (a : Option Addr) (c : Nat) : World := (W.setCell ⟨b, 0, none⟩ (.bool (ng z))).setCell ⟨b, 1, none⟩ (.slice a (LZ z) c)
theorem PZs.zmPut {W : World} {b c : Nat} {n m : Int} {a a' : Option Addr} {c' : Nat} {z : Int} (h : PZs W b n) (hi : ZM W a' c' z) : ZM (putZ W b m a c) a' c' z := by
  obtain ⟨a0, c0, h0⟩ := h
  have n0 := h0.noInt
  exact (hi.setN n0 0 _).setN (n0.set ⟨b, 0, none⟩ (.bool (ng m)) (by intro _ _ h; cases h)) 1 _
theorem PZs.put {W : World} {b c : Nat} {n m : Int} {a : Option Addr} (h : PZs W b n) (hi : ZM W a c m) : PZs (putZ W b m a c) b m := by
  obtain ⟨a0, c0, h0⟩ := h
  refine ⟨a, c, ?_, PZs.zmPut (b := b) (n := n) ⟨a0, c0, h0⟩ hi⟩
  exact Blk.set (Blk.set h0.blk 0 _) 1 _
theorem PZs.other {W : World} {b b' c : Nat} {n k m : Int} {a : Option Addr} (h : PZs W b n) (h' : PZs W b' k) (hne : b' ≠ b) : PZs (putZ W b m a c) b' k := by
  obtain ⟨a0, c0, h0⟩ := h'
  exact ⟨a0, c0, (Blk.far (Blk.far h0.blk (by exact hne) _) (by exact hne) _), h.zmPut h0.zm⟩
theorem PZs.izPut {W : World} {b c : Nat} {n m : Int} {a : Option Addr} {ao : Option Addr} {xs : List Int} (h : PZs W b n) (hi : IZ W ao xs) : IZ (putZ W b m a c) ao xs := by
  obtain ⟨a0, c0, h0⟩ := h
  have n0 := h0.noInt
  exact (hi.setN n0 0 _).setN (n0.set ⟨b, 0, none⟩ (.bool (ng m)) (by intro _ _ h; cases h)) 1 _
theorem putZ_below {B : Nat} {W0 W : World} {b c : Nat} {m : Int} {a : Option Addr} (h : Below B W0 W) (hb : B ≤ b) : Below B W0 (putZ W b m a c) := (h.setCell hb _).setCell hb _
theorem PZs.new {w : World} {z : Int} {a : Option Addr} {c : Nat} (h : ZM w a c z) : PZs (w.alloc (Obj.cells #[.bool (ng z), .slice a (LZ z) c] 34)) w.heap.size z :=
  ⟨a, c, World.alloc_heap_new w _, h.up (below_al (Below.refl _ _) _)⟩
theorem PZs.new0 (w : World) : PZs (w.alloc (Obj.cells #[.bool false, .slice none 0 0] 34)) w.heap.size 0 := PZs.new (z := 0) (a := none) (c := 0) (MagZ.zero _ _ _)
/-- Six boxes: a convergent's numerator, the one before it, both denominators, and the results. -/
structure P6 (W : World) (b1 b2 b3 b4 b5 b6 : Nat) (s : Cv) : Prop where
  x : PZs W b1 (s.1 : Nat)
  e : PZs W b2 (s.2.1 : Nat)
  y : PZs W b3 (s.2.2.1 : Nat)
  f : PZs W b4 (s.2.2.2 : Nat)
  u : PZs W b5 0
  v : PZs W b6 0
theorem P6.below {W W' : World} {b1 b2 b3 b4 b5 b6 : Nat} {s : Cv} (h : P6 W b1 b2 b3 b4 b5 b6 s) (hb : Below W.heap.size W W') : P6 W' b1 b2 b3 b4 b5 b6 s := ⟨h.x.below hb, h.e.below hb, h.y.below hb, h.f.below hb, h.u.below hb, h.v.below hb⟩
structure N6 (b1 b2 b3 b4 b5 b6 : Nat) : Prop where
  n4 : N4 b1 b2 b3 b4
  u1 : b5 ≠ b1
  u2 : b5 ≠ b2
  u3 : b5 ≠ b3
  u4 : b5 ≠ b4
  v1 : b6 ≠ b1
  v2 : b6 ≠ b2
  v3 : b6 ≠ b3
  v4 : b6 ≠ b4
  uv : b5 ≠ b6
theorem P6.put1 {W : World} {b1 b2 b3 b4 b5 b6 : Nat} {s : Cv} (h : P6 W b1 b2 b3 b4 b5 b6 s) (hn : N6 b1 b2 b3 b4 b5 b6) {z : Nat} {a1 a2 : Option Addr} {c1 c2 : Nat} (h1 : ZM W a1 c1 (z : Int)) (h2 : ZM W a2 c2 (s.1 : Int)) :
    P6 (putZ (putZ W b1 z a1 c1) b2 s.1 a2 c2) b1 b2 b3 b4 b5 b6 (z, s.1, s.2.2.1, s.2.2.2) := by
  have e1 := h.x.other h.e (m := z) (a := a1) (c := c1) hn.n4.n12.symm
  exact ⟨e1.other (h.x.put h1) hn.n4.n12, e1.put (h.x.zmPut h2), e1.other (h.x.other h.y hn.n4.n13.symm) hn.n4.n23.symm, e1.other (h.x.other h.f hn.n4.n14.symm) hn.n4.n24.symm, e1.other (h.x.other h.u hn.u1) hn.u2, e1.other (h.x.other h.v hn.v1) hn.v2⟩
theorem P6.put2 {W : World} {b1 b2 b3 b4 b5 b6 : Nat} {s : Cv} (h : P6 W b1 b2 b3 b4 b5 b6 s) (hn : N6 b1 b2 b3 b4 b5 b6) {z : Nat} {a1 a2 : Option Addr} {c1 c2 : Nat} (h1 : ZM W a1 c1 (z : Int)) (h2 : ZM W a2 c2 (s.2.2.1 : Int)) :
    P6 (putZ (putZ W b3 z a1 c1) b4 s.2.2.1 a2 c2) b1 b2 b3 b4 b5 b6 (s.1, s.2.1, z, s.2.2.1) := by
  have e1 := h.y.other h.f (m := z) (a := a1) (c := c1) hn.n4.n34.symm
  exact ⟨e1.other (h.y.other h.x hn.n4.n13) hn.n4.n14, e1.other (h.y.other h.e hn.n4.n23) hn.n4.n24, e1.other (h.y.put h1) hn.n4.n34, e1.put (h.y.zmPut h2), e1.other (h.y.other h.u hn.u3) hn.u4, e1.other (h.y.other h.v hn.v3) hn.v4⟩
theorem LZ_cvB {n : Nat} (h : n < cvB) : LZ (n : Int) ≤ 26 := by
  show L B4 _ ≤ _
  refine Nat.le_trans (L_mono two_le_B4 (Nat.le_of_lt h)) ?_
  decide
theorem zmulN (a1 a2 : Option Addr) (c1 c2 : Nat) (x y z : Nat) (w : World) (h1 : ZM w a1 c1 (x : Int)) (h2 : ZM w a2 c2 (y : Int)) (hb1 : LZ (x : Int) ≤ 1000) (hb2 : LZ (y : Int) ≤ 1000) (hz : x * y = z) :
    Calls Tryz.prog 36 #[.agg #[.bool (ng (x : Int)), .slice a1 (LZ (x : Int)) c1], .agg #[.bool (ng (y : Int)), .slice a2 (LZ (y : Int)) c2]] w (RetZ w (z : Int)) := by
  have := zmul_any a1 a2 c1 c2 x y w h1 h2 (by omega) (by omega)
  rw [mulN hz] at this
  exact this
theorem zaddN (a1 a2 : Option Addr) (c1 c2 : Nat) (x y z : Nat) (w : World) (h1 : ZM w a1 c1 (x : Int)) (h2 : ZM w a2 c2 (y : Int)) (hb1 : LZ (x : Int) ≤ 1000) (hb2 : LZ (y : Int) ≤ 1000) (hz : x + y = z) :
    Calls Tryz.prog 38 #[.agg #[.bool (ng (x : Int)), .slice a1 (LZ (x : Int)) c1], .agg #[.bool (ng (y : Int)), .slice a2 (LZ (y : Int)) c2]] w (RetZ w (z : Int)) := by
  have := zadd_any a1 a2 c1 c2 x y w h1 h2 (by omega) (by omega)
  rw [show (x : Int) + (y : Int) = (z : Int) by omega] at this
  exact this
theorem zsubI (a1 a2 : Option Addr) (c1 c2 : Nat) (x y z : Int) (w : World) (h1 : ZM w a1 c1 x) (h2 : ZM w a2 c2 y) (hb1 : LZ x ≤ 1000) (hb2 : LZ y ≤ 1000) (hz : x - y = z) :
    Calls Tryz.prog 37 #[.agg #[.bool (ng x), .slice a1 (LZ x) c1], .agg #[.bool (ng y), .slice a2 (LZ y) c2]] w (RetZ w z) := by
  rw [← hz]
  exact zsub_any a1 a2 c1 c2 x y w h1 h2 (by omega) (by omega)
theorem zcmpI (a1 a2 : Option Addr) (c1 c2 : Nat) (x y z : Int) (w : World) (h1 : ZM w a1 c1 x) (h2 : ZM w a2 c2 y) (hb1 : LZ x ≤ 1000) (hb2 : LZ y ≤ 1000) (hz : sg (x - y) = z) :
    Calls Tryz.prog 35 #[.agg #[.bool (ng x), .slice a1 (LZ x) c1], .agg #[.bool (ng y), .slice a2 (LZ y) c2]] w (RetNum w z) := by
  rw [← hz]
  exact zcmp_any a1 a2 c1 c2 x y w h1 h2 (by omega) (by omega)
theorem zsignI (a : Option Addr) (c : Nat) (x z : Int) (w : World) (hz : sg x = z) :
    Calls Tryz.prog 12 #[.agg #[.bool (ng x), .slice a (LZ x) c]] w (RetNum w z) := by
  rw [← hz]
  exact zsign_any a c x w
end Go.Proofs.YtbehfhmdilifkaaGreat
