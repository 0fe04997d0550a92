/- WearD WearE Parse2 WearF WearG -/
import Derived.Test.YtcaeonpjokkjnaaQWearC
import Derived.Test.YtcaeonpjokkjnaaQWe
import Derived.Test.YtcaeonpjokkjnaaQWf
import Derived.Test.YtcaeonpjokkjnaaQWg
import Derived.Test.YtcaeonpjokkjnaaQWh
set_option linter.unusedVariables false
/- Walks of package wear: above. -/
namespace Go.Proofs.Ytcaeonpjokkjnaa
open Go Go.RowKit Go.Proofs

theorem cell_grown {w w' : World} {v : Value} {b o : Nat} {z : Value} (hg : w.grownBy w' v.ownBlock) (hc : w.cell? ⟨b, o, none⟩ = some z) (hne : ∀ k, v.ownBlock = some k → b ≠ k) : w'.cell? ⟨b, o, none⟩ = some z := by
  rw [World.cell?_of_block (w := w) (a := ⟨b, o, none⟩) (hg.block b (World.block_lt_of_cell? w ⟨b, o, none⟩ hc) (fun e => hne b e.symm rfl))]
  exact hc

theorem Box.grown {w w' : World} {v : Value} {g : Nat} {p : RP} {q : Rat} (h : Box w g p q) (hg : w.grownBy w' v.ownBlock) (hv : NoIntV w v) (hne : ∀ k, v.ownBlock = some k → g ≠ k) : Box w' g p q := by
  obtain ⟨h1, h2, h3, h4, h5, h6⟩ := h
  have hlt : g < w.heap.size := World.block_lt_of_cell? w ⟨g, 0, none⟩ h3
  refine ⟨h1.grown hg hv, fun o k z hc => ?_, cell_grown hg h3 hne, cell_grown hg h4 hne, cell_grown hg h5 hne, cell_grown hg h6 hne⟩
  rw [World.cell?_of_block (w := w) (a := ⟨g, o, none⟩) (hg.block g hlt (fun e => hne g e.symm rfl))] at hc
  exact h2 o k z hc

theorem QV.noInt {w : World} {base : Nat} {v : Value} {qs : List Rat} (h : QV w base v qs) : NoIntV w v := by
  obtain ⟨l, _, _, hn, _⟩ := h
  exact hn

theorem heap_setCell_far (w : World) {N k g : Nat} (v : Value) (h : N ≠ g) : (w.setCell ⟨N, k, none⟩ v).heap[g]? = w.heap[g]? := by
  simp only [World.setCell, Array.getElem?_modify]
  rw [if_neg h]

theorem QV.setN {w : World} {base N : Nat} {v : Value} {qs : List Rat} (h : QV w base v qs) (hN : NoInt w N) (hlt : N < base) (k : Nat) (x : Value) : QV (w.setCell ⟨N, k, none⟩ x) base v qs := by
  obtain ⟨l, hl, ho, hn, hm⟩ := h
  have hown : ∀ g, v.ownBlock = some g → N ≠ g := fun g hg => by have := (World.ownsRow.lt ho g hg).1; omega
  refine ⟨l, hl, ⟨ho.1, ?_⟩, fun g hg o k' z hc => ?_, fun y hy => ?_⟩
  · rcases ho.2 with h' | ⟨g', cap', cur, hv, h1, hg, h2⟩
    · exact .inl h'
    · refine .inr ⟨g', cap', cur, hv, h1, ?_, h2⟩
      rw [heap_setCell_far w x (hown g' (by rw [hv]; rfl))]; exact hg
  · rw [World.cell?_setCell_far _ _ _ _ (hown g hg)] at hc
    exact hn g hg o k' z hc
  · exact ⟨Mag.setN (hm y hy).1 hN k x, Mag.setN (hm y hy).2 hN k x⟩

theorem QV.base {w : World} {base base' : Nat} {v : Value} {qs : List Rat} (h : QV w base v qs) (hb : base' ≤ base) : QV w base' v qs := by
  obtain ⟨l, hl, ho, hn, hm⟩ := h
  refine ⟨l, hl, ⟨ho.1, ?_⟩, hn, hm⟩
  rcases ho.2 with h' | ⟨g', cap', cur, hv, h1, hg, h2⟩
  · exact .inl h'
  · exact .inr ⟨g', cap', cur, hv, Nat.le_trans hb h1, hg, h2⟩

/-- What is kept from round to round: a box at block g, and an own list behind it. -/
def LoopQ (w : World) (g : Nat) (wr : World) (p : RP) (q : Rat) (b : Value) (qs : List Rat) : Prop :=
  Box wr g p q ∧ Rg g 4 wr wr ∧ QV wr (g + 1) b qs ∧ Below w.heap.size w wr ∧ g < wr.heap.size ∧ w.heap.size ≤ g
theorem LoopQ.step {w wr w' : World} {g : Nat} {p : RP} {q : Rat} {b : Value} {qs : List Rat} (h : LoopQ w g wr p q b qs) (hb : Below wr.heap.size wr w') : LoopQ w g w' p q b qs := by
  obtain ⟨h1, h2, h3, h4, h5, h6⟩ := h
  have := hb.size
  exact ⟨h1.up hb, (Rg.step h2 (by omega) hb).self, h3.below hb, h4.trans (hb.mono h4.size), by omega, h6⟩
theorem LoopQ.store {w wr : World} {g : Nat} {p : RP} {q r r' : Rat} {b : Value} {qs : List Rat} {a a' : Option Addr} {c c' : Nat} (h : LoopQ w g wr p q b qs) (hm : RM wr a c a' c' r) (hr : r = r') :
    LoopQ w g ((((wr.setCell ⟨g, 0, none⟩ (.bool (ng (rn r)))).setCell ⟨g, 1, none⟩ (.slice a (LI (rn r)) c)).setCell ⟨g, 2, none⟩ (.bool (ng (rd r)))).setCell ⟨g, 3, none⟩ (.slice a' (LI (rd r)) c')) ⟨a, c, a', c'⟩ r' b qs := by
  obtain ⟨h1, h2, h3, h4, h5, h6⟩ := h
  obtain ⟨b1, b2⟩ := Rg.box h2 hm hr
  have n0 := h2.noInt
  have n1 := n0.set ⟨g, 0, none⟩ (.bool (ng (rn r))) (by intro _ _ h; cases h)
  have n2 := n1.set ⟨g, 1, none⟩ (.slice a (LI (rn r)) c) (by intro _ _ h; cases h)
  have n3 := n2.set ⟨g, 2, none⟩ (.bool (ng (rd r))) (by intro _ _ h; cases h)
  refine ⟨b1, b2.self, (((h3.setN n0 (by omega) _ _).setN n1 (by omega) _ _).setN n2 (by omega) _ _).setN n3 (by omega) _ _, below_set4 h4 h6 _ _ _ _, by simpa using h5, h6⟩
/-- The list has grown. -/
theorem LoopQ.grown {w wr w' : World} {g : Nat} {p : RP} {q : Rat} {b v' : Value} {qs qs' : List Rat} (h : LoopQ w g wr p q b qs) (hg : wr.grownBy w' b.ownBlock) (hv : QV w' (g + 1) v' qs') : LoopQ w g w' p q v' qs' := by
  obtain ⟨h1, h2, h3, h4, h5, h6⟩ := h
  have hown : ∀ k, b.ownBlock = some k → g + 1 ≤ k := fun k hk => (h3.lt k hk).1
  have hb : Below (g + 1) wr w' := (Below.refl _ _).grown hg (by omega) hown
  have := hb.size
  exact ⟨h1.grown hg h3.noInt (fun k hk => by have := hown k hk; omega), (Rg.over h2 hb (by omega)).self, hv, h4.trans (hb.mono (by omega)), by omega, h6⟩

/-- What is left of 1. -/
def left (qs : List Rat) (k : Nat) : Rat := 1 - psum qs k
def aboveL (qs : List Rat) : List Rat := (List.range qs.length).map (left qs)

theorem left_zero (qs : List Rat) : left qs 0 = 1 := by simp [left, psum]; grind
theorem left_next (qs : List Rat) (k : Nat) (q : Rat) (h : qs[k]? = some q) : left qs k - q = left qs (k + 1) := by
  unfold left
  rw [← psum_next qs k q h]; grind
theorem aboveL_next (qs : List Rat) (k : Nat) (h : k < qs.length) : (aboveL qs).take k ++ [left qs k] = (aboveL qs).take (k + 1) := by
  rw [List.take_add_one]
  unfold aboveL
  rw [List.getElem?_map, List.getElem?_range h]; rfl

set_option maxRecDepth 100000 in
set_option maxHeartbeats 800000 in
theorem above_any (ao : Option Addr) (c : Nat) (qs : List Rat) (w : World) (h : QL w ao qs) (hn : qs.length ≤ 1000000000) (hz : ∀ k, Sz (left qs k)) (hz2 : ∀ q ∈ qs, Sz q) :
    Calls Try.prog 57 #[.slice ao qs.length c] w (RetList w (aboveL qs)) := by
  have hH := Lib.hid h
  obtain ⟨n, hnl⟩ : ∃ n, n = qs.length := ⟨_, rfl⟩
  have hnH := Lib.hid hnl
  have hal : Hid ((aboveL qs).length = n) := by show _ = _; rw [hnl]; simp [aboveL]
  rw [← hnl] at hn ⊢
  clear hnl h
  go_enter Try.func57, Try.ntmps57
  go_wp2_with (first | (go_at_call 32; (with_reducible refine (whole_one _).mono ?_); rintro e w1 ⟨a1, c1, a1', c1', rfl, hm1, hb1⟩; have z1 := hb1.size))
  have hbn := Lib.hid (Box.new w1 ⟨a1, c1, a1', c1'⟩ 1 70 hm1)
  obtain ⟨V, hVe⟩ : ∃ V, V = w1.alloc (Obj.cells #[.bool (ng (rn 1)), .slice a1 (LI (rn 1)) c1, .bool (ng (rd 1)), .slice a1' (LI (rd 1)) c1'] 70) := ⟨_, rfl⟩
  have hL0 : Hid (LoopQ w w1.heap.size V ⟨a1, c1, a1', c1'⟩ (left qs 0) (.slice none 0 0) ((aboveL qs).take 0)) := by
    rw [left_zero, List.take_zero]
    rw [← hVe] at hbn
    exact ⟨hbn.out.1, hbn.out.2, QV.nil _ _, by rw [hVe]; exact hb1.alloc (by omega) _, by rw [hVe]; simp, by omega⟩
  rw [← hVe]
  clear hbn hVe hm1 hb1 z1
  generalize w1.heap.size = g at hL0
  go_loopw [3, 10] (fun b i wr => ∃ k p, i = .int .i64 (k : Nat) ∧ k ≤ n ∧ LoopQ w g wr p (left qs k) b ((aboveL qs).take k)) (fun _ i _ => n - (intOf i).toNat)
  case atStart => exact ⟨0, _, rfl, by omega, hL0.out⟩
  case round =>
    obtain ⟨k, p, rfl, hk, hL⟩ := hrel
    obtain ⟨ab, cb, hbv⟩ := hL.2.2.1.shape
    subst hbv
    have htl : ((aboveL qs).take k).length = k := by rw [List.length_take, hal.out]; omega
    have htlH := Lib.hid htl
    rw [htl] at hL ⊢
    have hLH := Lib.hid hL
    have hbl := Lib.hid hL.2.2.2.1
    obtain ⟨⟨_, _, B0, B1, B2, B3⟩, _, _, _, zg, zw⟩ := hL
    clear htl
    by_cases hkn : k < n
    · obtain ⟨q, hq⟩ : ∃ q, qs[k]? = some q := ⟨_, List.getElem?_eq_getElem (by rw [← hnH.out]; omega)⟩
      obtain ⟨b, o, p2, rfl, hm, e0, e1, e2, e3⟩ := (hH.out.below hbl.out) k q hq
      have hnx := Lib.hid (left_next qs k q hq)
      have hax := Lib.hid (aboveL_next qs k (by rw [← hnH.out]; omega))
      have hzq := Lib.hid (hz2 q (List.mem_of_getElem? hq))
      have hzk := Lib.hid (hz k)
      have hmH := Lib.hid (show RM wr p2.a p2.c p2.a' p2.c' q from hm)
      clear hq hm
      go_wp2_with (first
        | (at_builtin; go_loud (refine wpList_append_rat _ rfl (.tmp 14) (.tmp 16) _ rfl Try.underlying62 (g + 1) k (.slice ab k cb) ((aboveL qs).take k) (left qs k) p rfl (hLH.out.2.2.1.below (((Below.refl _ _).alloc (Nat.le_refl _) _).alloc (by simp) _)) htlH.out (wr.heap.size + 1) (by simp [go_sem]) (by omega) (by simp; omega) (by simp [go_sem]) (by simp [go_sem]) (by simp [go_sem]) (by simp [go_sem]) (hLH.out.1.1.up (((Below.refl _ _).alloc (Nat.le_refl _) _).alloc (by simp) _)) ?_); intro v' w2 hv2 hg2; rw [hax.out] at hv2; have hLB := Lib.hid ((hLH.out.step ((Below.refl _ _).alloc (Nat.le_refl _) (Obj.cells #[Value.bool (ng (rn q)), Value.slice p2.a (LI (rn q)) p2.c, Value.bool (ng (rd q)), Value.slice p2.a' (LI (rd q)) p2.c'] 70))).step ((Below.refl _ _).alloc (Nat.le_refl _) (Obj.cells #[Value.bool (ng (rn (left qs k))), Value.slice p.a (LI (rn (left qs k))) p.c, Value.bool (ng (rd (left qs k))), Value.slice p.a' (LI (rd (left qs k))) p.c'] 70))); have hL2 := Lib.hid (hLB.out.grown hg2 hv2); have hmB := Lib.hid (show RM w2 p.a p.c p.a' p.c' (left qs k) from hL2.out.1.1); obtain ⟨_, _, C0, C1, C2, C3⟩ := hL2.out.1; have hne := Lib.hid (show ∀ j, (Value.slice ab k cb).ownBlock = some j → wr.heap.size ≠ j from fun j hj => Nat.ne_of_gt (hLH.out.2.2.1.lt j hj).2); have D0 := cell_grown (b := wr.heap.size) (o := 0) (z := .bool (ng (rn q))) hg2 (by simp [go_sem]) hne.out; have D1 := cell_grown (b := wr.heap.size) (o := 1) (z := .slice p2.a (LI (rn q)) p2.c) hg2 (by simp [go_sem]) hne.out; have D2 := cell_grown (b := wr.heap.size) (o := 2) (z := .bool (ng (rd q))) hg2 (by simp [go_sem]) hne.out; have D3 := cell_grown (b := wr.heap.size) (o := 3) (z := .slice p2.a' (LI (rd q)) p2.c') hg2 (by simp [go_sem]) hne.out; have hm2 := Lib.hid (show RM w2 p2.a p2.c p2.a' p2.c' q from RMp.grown (p := p2) (RMp.up (RMp.up hmH.out ((Below.refl _ _).alloc (Nat.le_refl _) _)) ((Below.refl _ _).alloc (Nat.le_refl _) _)) hg2 hLB.out.2.2.1.noInt); clear hg2)
        | (go_at_call 52; go_loud (with_reducible refine (rsub_any p.a p.c p.a' p.c' p2.a p2.c p2.a' p2.c' (left qs k) q _ hmB.out hm2.out hzk.out hzq.out).mono ?_); rintro e w3 ⟨a3, k3, a3', k3', rfl, hm3, hb3⟩; have hl3 := Lib.hid (hL2.out.step hb3); obtain ⟨g1, g2, g3, g5, g4⟩ := hl3.out.2.1; clear g1 g5 g4))
      go_roundw
      case rel => exact ⟨k + 1, ⟨a3, k3, a3', k3'⟩, by go_num, by omega, LoopQ.store hl3.out hm3 hnx.out⟩
      case measure => simp [intOf]; omega
    · have hke : k = n := by omega
      subst hke
      have hfull : (aboveL qs).take k = aboveL qs := List.take_of_length_le (by rw [hal.out]; exact Nat.le_refl _)
      have hfH := Lib.hid hfull
      clear hfull
      go_wp2
      go_ret
      refine ⟨ab, cb, by rw [hal.out]; rfl, ?_, hbl.out⟩
      rw [hal.out, ← hfH.out]
      exact hLH.out.2.2.1.base (by omega)

end Go.Proofs.Ytcaeonpjokkjnaa

/- Walks of package wear: told. -/
namespace Go.Proofs.Ytcaeonpjokkjnaa
open Go Go.RowKit Go.Proofs

/-- The slice holds texts. -/
def SL (w : World) (ao : Option Addr) (ss : List ByteArray) : Prop := ∀ i s, ss[i]? = some s → ∃ b o, ao = some ⟨b, o, none⟩ ∧ w.cell? ⟨b, o + i, none⟩ = some (.string s)
/-- An own list of texts. -/
def SV (w : World) (base : Nat) (v : Value) (ss : List ByteArray) : Prop := w.ownsRow base 25 1 v ss.length (ss.map Value.string) ∧ NoIntV w v

theorem SL.below {w w' : World} {ao : Option Addr} {ss : List ByteArray} (h : SL w ao ss) (hb : Below w.heap.size w w') : SL w' ao ss := by
  intro i s hs
  obtain ⟨b, o, ha, hc⟩ := h i s hs
  exact ⟨b, o, ha, Below.cellAt hb (Nat.le_refl _) hc⟩
theorem SV.nil (w : World) (base : Nat) : SV w base (.slice none 0 0) [] := ⟨World.ownsRow_nil _ _ _ _, fun g hg => by simp [Value.ownBlock] at hg⟩
theorem SV.shape {w : World} {base : Nat} {v : Value} {ss : List ByteArray} (h : SV w base v ss) : ∃ ao c, v = .slice ao ss.length c := by
  rcases h.1.2 with ⟨h1, h2⟩ | ⟨g', cap', cur, hv, _⟩
  · exact ⟨none, 0, by rw [h1, h2]⟩
  · exact ⟨_, _, hv⟩
theorem SV.lt {w : World} {base : Nat} {v : Value} {ss : List ByteArray} (h : SV w base v ss) : ∀ k, v.ownBlock = some k → base ≤ k ∧ k < w.heap.size := World.ownsRow.lt h.1
theorem SV.sl {w : World} {base n c : Nat} {ao : Option Addr} {ss : List ByteArray} (h : SV w base (.slice ao n c) ss) : SL w ao ss := by
  intro i s hs
  have hi : i < ss.length := (List.getElem?_eq_some_iff.1 hs).1
  rcases h.1.2 with ⟨h1, h2⟩ | ⟨g', cap', cur, hv, _⟩
  · omega
  · have ho := h.1
    injection hv with e1 e2 e3
    subst e1 e3
    refine ⟨g', 0, rfl, ?_⟩
    rw [e2] at ho
    have := ho.cellAt i (by simpa using hi)
    rw [Nat.zero_add, this, List.getElem?_map, hs]; rfl
theorem SV.below {w w' : World} {base : Nat} {v : Value} {ss : List ByteArray} (h : SV w base v ss) (hb : Below w.heap.size w w') : SV w' base v ss := by
  refine ⟨⟨h.1.1, ?_⟩, fun g hg o k z hc => ?_⟩
  · rcases h.1.2 with h' | ⟨g', cap', cur, hv, h1, hg, h2⟩
    · exact .inl h'
    · exact .inr ⟨g', cap', cur, hv, h1, by rw [hb.block g' (Array.getElem?_eq_some_iff.1 hg).1]; exact hg, h2⟩
  · have hlt := (World.ownsRow.lt h.1 g hg).2
    rw [World.cell?_of_block (w := w) (a := ⟨g, o, none⟩) (hb.block g hlt)] at hc
    exact h.2 g hg o k z hc

theorem info_num : (Try.prog.info? 25).map (fun i => (i.zero, i.size, i.bytes)) = some (some (.string ⟨#[]⟩), 1, 16) := by kernel_rfl

/-- 'append(l, s)', l a list of texts of the call's own. -/
theorem wpList_append_num (w : World) {ops : Array Oper} {rest : List Oper} {o : Oper} {a : Act} {Q : Exit → Act → World → Prop} (hg : o.guard = none) (s x : Operand) (t : TypeId)
    (ho : o.op = .call { callee := .builtin .append, args := #[s, x], argTypes := #[t, t] }) (ht : Try.prog.underlying t = some (.slice 25)) (base n : Nat) (v : Value) (ss : List ByteArray) (q : ByteArray) (hs : a.eval s = v) (hv : SV w base v ss)
    (hn : ss.length = n) (g0 : Nat) (hx : a.eval x = .slice (some ⟨g0, 0, none⟩) 1 1) (hb : n ≤ 1000000000000) (hbs : base ≤ w.heap.size) (c0 : w.cell? ⟨g0, 0, none⟩ = some (.string q))
    (hK : ∀ v' w', SV w' base v' (ss ++ [q]) → w.grownBy w' v.ownBlock → wpList Try.prog ops Q rest (a.put o.dst v') w') : wpList Try.prog ops Q (o :: rest) a w := by
  obtain ⟨i, h2, h3, h4, h5⟩ := info_parts info_num
  subst hn
  refine wpList_append_noint w hg s x t ho base 25 i _ 1 16 ht h2 h3 h4 h5 rfl (by omega) v ss.length (ss.map Value.string) hs hv.1 ⟨g0, 0, none⟩ 1 1 [.string q] hx rfl ?_ ?_ (by unfold maxLen; omega) (by omega) hbs (by omega) hv.2 ?_ ?_ ?_
  · intro j u hu
    rw [Addr.add_lit, Nat.zero_add]
    rcases j with _ | j
    · rw [c0]; exact hu
    · simp at hu
  · intro u hu
    simp at hu
    subst hu; rfl
  · intro u hu k z
    simp at hu
    subst hu; simp
  · intro u hu k z
    simp [Value.cells] at hu
    subst hu; simp
  · intro v' w' ho' hg' hn'
    refine hK v' w' ⟨?_, hn'⟩ hg'
    rw [List.map_append, List.length_append]; exact ho'

theorem rnum_ok (a : Option Addr) (c : Nat) (a' : Option Addr) (c' : Nat) (q : Rat) (w : World) (h1 : RM w a c a' c' q) (hp : Sz q) (h : numRes q = (nt q, 0)) :
    Calls Try.prog 31 #[.agg #[.bool (ng (rn q)), .slice a (LI (rn q)) c, .bool (ng (rd q)), .slice a' (LI (rd q)) c']] w (RetNumS w (nt q, 0)) := by
  rw [← h]; exact rnum_any a c a' c' q w h1 hp

def RetNums (w : World) (ss : List ByteArray) (e : Ending) (w' : World) : Prop :=
  ∃ ao c, e = .returned (.tuple #[.slice ao ss.length c, .int .i64 0]) ∧ SV w' w.heap.size (.slice ao ss.length c) ss ∧ Below w.heap.size w w'

theorem nts_next (qs : List Rat) (k : Nat) (q : Rat) (h : qs[k]? = some q) : (qs.map nt).take k ++ [nt q] = (qs.map nt).take (k + 1) := by
  rw [List.take_add_one, List.getElem?_map, h]; rfl

set_option maxRecDepth 100000 in
set_option maxHeartbeats 800000 in
theorem told_any (ao : Option Addr) (c : Nat) (qs : List Rat) (w : World) (h : QL w ao qs) (hn : qs.length ≤ 1000000000) (hz2 : ∀ q ∈ qs, Sz q) (hr : ∀ q ∈ qs, numRes q = (nt q, 0)) :
    Calls Try.prog 35 #[.slice ao qs.length c] w (RetNums w (qs.map nt)) := by
  have hH := Lib.hid h
  obtain ⟨n, hnl⟩ : ∃ n, n = qs.length := ⟨_, rfl⟩
  have hnH := Lib.hid hnl
  rw [← hnl] at hn ⊢
  clear hnl h
  go_enter Try.func35, Try.ntmps35
  go_wp2_with (fail)
  go_loopw [4, 11] (fun b i wr => ∃ k, i = .int .i64 (k : Nat) ∧ k ≤ n ∧ SV wr w.heap.size b ((qs.map nt).take k) ∧ Below w.heap.size w wr) (fun _ i _ => n - (intOf i).toNat)
  case atStart => exact ⟨0, rfl, by omega, SV.nil _ _, Below.refl _ _⟩
  case round =>
    obtain ⟨k, rfl, hk, hV, hbl⟩ := hrel
    obtain ⟨ab, cb, hbv⟩ := hV.shape
    subst hbv
    have htl : ((qs.map nt).take k).length = k := by rw [List.length_take, List.length_map, ← hnH.out]; omega
    have htlH := Lib.hid htl
    rw [htl] at hV ⊢
    have hVH := Lib.hid hV
    have hblH := Lib.hid hbl
    have hbs := hbl.size
    clear hV htl
    by_cases hkn : k < n
    · obtain ⟨q, hq⟩ : ∃ q, qs[k]? = some q := ⟨_, List.getElem?_eq_getElem (by rw [← hnH.out]; omega)⟩
      obtain ⟨b, o, p, rfl, hm, e0, e1, e2, e3⟩ := (hH.out.below hbl) k q hq
      have hnx := Lib.hid (nts_next qs k q hq)
      have hzq := Lib.hid (hz2 q (List.mem_of_getElem? hq))
      have hrq := Lib.hid (hr q (List.mem_of_getElem? hq))
      have hmH := Lib.hid (show RM wr p.a p.c p.a' p.c' q from hm)
      clear hq hm hbl
      go_wp2_with (first
        | (go_at_call 31; go_loud (with_reducible refine (rnum_ok p.a p.c p.a' p.c' q _ (RM.up hmH.out ((Below.refl _ _).alloc (Nat.le_refl _) _)) hzq.out hrq.out).mono ?_); rintro e w3 ⟨rfl, hb3⟩; have hb4 := Lib.hid ((hblH.out.alloc hbs _).trans (hb3.mono (Nat.le_trans hbs (by simp)))); have hV3 := Lib.hid (hVH.out.below (((Below.refl _ _).alloc (Nat.le_refl _) _).trans (hb3.mono (by simp)))); have hs3 := hb4.out.size)
        | (at_builtin; go_loud (refine wpList_append_num _ rfl (.tmp 23) (.tmp 25) _ rfl Try.underlying23 w.heap.size k (.slice ab k cb) ((qs.map nt).take k) (nt q) rfl (hV3.out.below ((Below.refl _ _).alloc (Nat.le_refl _) _)) htlH.out w3.heap.size rfl (by omega) (by simp; omega) (by simp [go_sem]) ?_); intro v' w4 hv4 hg4; rw [hnx.out] at hv4; have hb5 := Lib.hid ((hb4.out.alloc hs3 _).grown hg4 (by simp; omega) (fun g hg => (hVH.out.lt g hg).1)); clear hg4))
      go_roundw
      case rel => exact ⟨k + 1, by go_num, by omega, hv4, hb5.out⟩
      case measure => simp [intOf]; omega
    · have hke : k = n := by omega
      subst hke
      have hfull : (qs.map nt).take k = qs.map nt := List.take_of_length_le (by rw [List.length_map, ← hnH.out]; exact Nat.le_refl _)
      have hfH := Lib.hid hfull
      clear hfull
      go_wp2
      go_ret2
      refine ⟨ab, cb, by rw [List.length_map, ← hnH.out]; rfl, ?_, hblH.out⟩
      rw [List.length_map, ← hnH.out, ← hfH.out]
      exact hVH.out

end Go.Proofs.Ytcaeonpjokkjnaa

/- Walk of num.Parse: all cases. (Printed by wip/tools/gen_parse.py.) -/
namespace Go.Proofs.Ytcaeonpjokkjnaa
open Go Go.RowKit Go.Proofs

theorem parse_any (s : ByteArray) (w : World) (hs : s.size ≤ 4611686018427387904) : Calls Try.prog 73 #[.string s] w (ParsePost w s) := by
  by_cases hb : readOK (bare s)
  · cases hst : stroke s
    · cases hmi : minus s
      · exact parse_a4 s w hs hst hb hmi
      · by_cases hz : pn s = 0
        · exact parse_a2 s w hs hst hb hmi hz
        · exact parse_a3 s w hs hst hb hmi hz
    · by_cases hu : readOK (under s)
      · by_cases h1 : 1 < pd s
        · cases hmi : minus s
          · by_cases hq : sq s = 0
            · exact parse_b9 s w hs hst hb hu h1 hmi hq
            · exact parse_b8 s w hs hst hb hu h1 hmi hq
          · by_cases hz : pn s = 0
            · exact parse_b5 s w hs hst hb hu h1 hmi hz
            · by_cases hq : sq s = 0
              · exact parse_b7 s w hs hst hb hu h1 hmi hz hq
              · exact parse_b6 s w hs hst hb hu h1 hmi hz hq
        · exact parse_b4 s w hs hst hb hu h1
      · exact parse_b3 s w hs hst hb hu
  · cases hst : stroke s
    · exact parse_a1 s w hs hst hb
    · by_cases hu : readOK (under s)
      · exact parse_b2 s w hs hst hb hu
      · exact parse_b1 s w hs hst hb hu

end Go.Proofs.Ytcaeonpjokkjnaa

/- Walks of package wear: numbers. -/
namespace Go.Proofs.Ytcaeonpjokkjnaa
open Go Go.RowKit Go.Proofs

def ParsePost1 (w : World) (s : ByteArray) (e : Ending) (w' : World) : Prop :=
  ∃ a c a' c', e = .returned (.tuple #[.agg #[.bool (ng (rn (parseQ s))), .slice a (LI (rn (parseQ s))) c, .bool (ng (rd (parseQ s))), .slice a' (LI (rd (parseQ s))) c'], .bool true]) ∧ RM w' a c a' c' (parseQ s) ∧ Below w.heap.size w w'
def ParsePost0 (w : World) (e : Ending) (w' : World) : Prop :=
  ∃ b0 b1 x0 x1 n0 n1 k0 k1, e = .returned (.tuple #[.agg #[.bool b0, .slice x0 n0 k0, .bool b1, .slice x1 n1 k1], .bool false]) ∧ Below w.heap.size w w'
theorem parse_good (s : ByteArray) (w : World) (hs : s.size ≤ 4611686018427387904) (h : parseOK s) : Calls Try.prog 73 #[.string s] w (ParsePost1 w s) := by
  refine (parse_any s w hs).mono ?_
  rintro e w' (⟨_, ⟨a, c, a', c', h1, h2⟩, h3⟩ | ⟨h', _⟩)
  · exact ⟨a, c, a', c', h1, h2, h3⟩
  · exact absurd h h'
theorem parse_bad (s : ByteArray) (w : World) (hs : s.size ≤ 4611686018427387904) (h : ¬ parseOK s) : Calls Try.prog 73 #[.string s] w (ParsePost0 w) := by
  refine (parse_any s w hs).mono ?_
  rintro e w' (⟨h', _⟩ | ⟨_, ⟨b0, b1, x0, x1, n0, n1, k0, k1, h1⟩, h3⟩)
  · exact absurd h' h
  · exact ⟨b0, b1, x0, x1, n0, n1, k0, k1, h1, h3⟩

/-- Are all texts numbers'? -/
def allOK (ss : List ByteArray) : Prop := ∀ s ∈ ss, parseOK s
def NumbersPost (w : World) (ss : List ByteArray) (e : Ending) (w' : World) : Prop :=
  (allOK ss ∧ (∃ ao c, e = .returned (.tuple #[.slice ao ss.length c, .bool true]) ∧ QV w' w.heap.size (.slice ao ss.length c) (ss.map parseQ)) ∧ Below w.heap.size w w') ∨
  (¬ allOK ss ∧ e = .returned (.tuple #[.slice none 0 0, .bool false]) ∧ Below w.heap.size w w')

theorem qs_next (ss : List ByteArray) (k : Nat) (s : ByteArray) (h : ss[k]? = some s) : (ss.map parseQ).take k ++ [parseQ s] = (ss.map parseQ).take (k + 1) := by
  rw [List.take_add_one, List.getElem?_map, h]; rfl
def okTo (ss : List ByteArray) (k : Nat) : Prop := ∀ i s, i < k → ss[i]? = some s → parseOK s
theorem okTo.next {ss : List ByteArray} {k : Nat} {s : ByteArray} (h : okTo ss k) (hs : ss[k]? = some s) (h1 : parseOK s) : okTo ss (k + 1) := fun i t hi ht => by
  by_cases e : i = k
  · subst e; rw [hs] at ht; injection ht with ht; rw [← ht]; exact h1
  · exact h i t (by omega) ht
theorem okTo.all {ss : List ByteArray} (h : okTo ss ss.length) : allOK ss := fun s hs => by
  obtain ⟨i, hi, he⟩ := List.getElem_of_mem hs
  exact h i s hi (by rw [List.getElem?_eq_getElem hi, he])

set_option maxRecDepth 100000 in
set_option maxHeartbeats 1600000 in
theorem numbers_any (ao : Option Addr) (c : Nat) (ss : List ByteArray) (w : World) (h : SL w ao ss) (hn : ss.length ≤ 1000000000) (hsz : ∀ s ∈ ss, s.size ≤ 4611686018427387904) :
    Calls Try.prog 50 #[.slice ao ss.length c] w (NumbersPost w ss) := by
  have hH := Lib.hid h
  obtain ⟨n, hnl⟩ : ∃ n, n = ss.length := ⟨_, rfl⟩
  have hnH := Lib.hid hnl
  rw [← hnl] at hn ⊢
  clear hnl h
  go_enter Try.func50, Try.ntmps50
  go_wp2_with (fail)
  go_loopw [4, 11] (fun b i wr => ∃ k, i = .int .i64 (k : Nat) ∧ k ≤ n ∧ okTo ss k ∧ QV wr w.heap.size b ((ss.map parseQ).take k) ∧ Below w.heap.size w wr) (fun _ i _ => n - (intOf i).toNat)
  case atStart => exact ⟨0, rfl, by omega, fun i _ hi => absurd hi (by omega), QV.nil _ _, Below.refl _ _⟩
  case round =>
    obtain ⟨k, rfl, hk, hO, hV, hbl⟩ := hrel
    obtain ⟨ab, cb, hbv⟩ := hV.shape
    subst hbv
    have htl : ((ss.map parseQ).take k).length = k := by rw [List.length_take, List.length_map, ← hnH.out]; omega
    have htlH := Lib.hid htl
    rw [htl] at hV ⊢
    have hVH := Lib.hid hV
    have hOH := Lib.hid hO
    have hblH := Lib.hid hbl
    have hbs := hbl.size
    clear hV htl hO
    by_cases hkn : k < n
    · obtain ⟨s, hs⟩ : ∃ s, ss[k]? = some s := ⟨_, List.getElem?_eq_getElem (by rw [← hnH.out]; omega)⟩
      obtain ⟨b, o, rfl, e0⟩ := (hH.out.below hbl) k s hs
      have hnx := Lib.hid (qs_next ss k s hs)
      have hss := Lib.hid (hsz s (List.mem_of_getElem? hs))
      have hmem := Lib.hid (List.mem_of_getElem? hs)
      have hsH := Lib.hid hs
      clear hs hbl
      by_cases hok : parseOK s
      · have hokH := Lib.hid hok
        clear hok
        go_wp2_with (first
          | (go_at_call 73; go_loud (with_reducible refine (parse_good s _ hss.out hokH.out).mono ?_); rintro e w3 ⟨a3, c3, a3', c3', rfl, hm3, hb3⟩; have hb4 := Lib.hid (hblH.out.trans (hb3.mono hbs)); have hV3 := Lib.hid (hVH.out.below hb3); have hs3 := hb4.out.size; have hmH := Lib.hid (show RMp w3 ⟨a3, c3, a3', c3'⟩ (parseQ s) from hm3))
          | (at_builtin; go_loud (refine wpList_append_rat _ rfl (.tmp 22) (.tmp 24) _ rfl Try.underlying62 w.heap.size k (.slice ab k cb) ((ss.map parseQ).take k) (parseQ s) ⟨a3, c3, a3', c3'⟩ rfl (hV3.out.below (((Below.refl _ _).alloc (Nat.le_refl _) _).alloc (by simp) _)) htlH.out (w3.heap.size + 1) (by simp [go_sem]) (by omega) (by simp; omega) (by simp [go_sem]) (by simp [go_sem]) (by simp [go_sem]) (by simp [go_sem]) (hmH.out.up (((Below.refl _ _).alloc (Nat.le_refl _) _).alloc (by simp) _)) ?_); intro v' w4 hv4 hg4; rw [hnx.out] at hv4; have hb5 := Lib.hid (((hb4.out.alloc hs3 _).alloc (by simp; omega) _).grown hg4 (by simp; omega) (fun g hg => (hVH.out.lt g hg).1)); clear hg4))
        go_roundw
        case rel => exact ⟨k + 1, by go_num, by omega, hOH.out.next hsH.out hokH.out, hv4, hb5.out⟩
        case measure => simp [intOf]; omega
      · have hno : Hid (¬ allOK ss) := fun h => hok (h s hmem.out)
        have hokH := Lib.hid hok
        clear hok
        go_wp2_with (first
          | (go_at_call 73; go_loud (with_reducible refine (parse_bad s _ hss.out hokH.out).mono ?_); rintro e w3 ⟨b0, b1, x0, x1, n0, n1, k0, k1, rfl, hb3⟩; have hb4 := Lib.hid (hblH.out.trans (hb3.mono hbs)); have hs3 := hb4.out.size))
        go_ret2
        exact Or.inr ⟨hno.out, rfl, hb4.out.alloc hs3 _⟩
    · have hke : k = n := by omega
      subst hke
      have hfull : (ss.map parseQ).take k = ss.map parseQ := List.take_of_length_le (by rw [List.length_map, ← hnH.out]; exact Nat.le_refl _)
      have hfH := Lib.hid hfull
      have hall : Hid (allOK ss) := by have := hOH.out; rw [hnH.out] at this; exact this.all
      clear hfull
      go_wp2
      go_ret2
      refine Or.inl ⟨hall.out, ⟨ab, cb, by rw [← hnH.out]; rfl, ?_⟩, hblH.out⟩
      rw [← hnH.out, ← hfH.out]
      exact hVH.out

end Go.Proofs.Ytcaeonpjokkjnaa

/- Walks of package wear: read. -/
namespace Go.Proofs.Ytcaeonpjokkjnaa
open Go Go.RowKit Go.Proofs

def NumsPost1 (w : World) (ss : List ByteArray) (e : Ending) (w' : World) : Prop :=
  ∃ ao c, e = .returned (.tuple #[.slice ao ss.length c, .bool true]) ∧ QV w' w.heap.size (.slice ao ss.length c) (ss.map parseQ) ∧ Below w.heap.size w w'
def NumsPost0 (w : World) (e : Ending) (w' : World) : Prop := e = .returned (.tuple #[.slice none 0 0, .bool false]) ∧ Below w.heap.size w w'
theorem numbers_good (ao : Option Addr) (c : Nat) (ss : List ByteArray) (w : World) (h : SL w ao ss) (hn : ss.length ≤ 1000000000) (hsz : ∀ s ∈ ss, s.size ≤ 4611686018427387904) (hok : allOK ss) :
    Calls Try.prog 50 #[.slice ao ss.length c] w (NumsPost1 w ss) := by
  refine (numbers_any ao c ss w h hn hsz).mono ?_
  rintro e w' (⟨_, ⟨a, c, h1, h2⟩, h3⟩ | ⟨h', _⟩)
  · exact ⟨a, c, h1, h2, h3⟩
  · exact absurd hok h'
theorem numbers_bad (ao : Option Addr) (c : Nat) (ss : List ByteArray) (w : World) (h : SL w ao ss) (hn : ss.length ≤ 1000000000) (hsz : ∀ s ∈ ss, s.size ≤ 4611686018427387904) (hok : ¬ allOK ss) :
    Calls Try.prog 50 #[.slice ao ss.length c] w (NumsPost0 w) := by
  refine (numbers_any ao c ss w h hn hsz).mono ?_
  rintro e w' (⟨h', _⟩ | ⟨_, h1, h2⟩)
  · exact absurd h' hok
  · exact ⟨h1, h2⟩

/-- What read asks of the numbers, but for their form. -/
def lastQ (qs : List Rat) : Rat := qs[qs.length - 1]?.getD 0
def livesGood (qs : List Rat) : Prop :=
  1 ≤ qs.length ∧ qs.length ≤ 12 ∧ sg (rn (lastQ qs)) ≠ 0 ∧ rsg qs.sum 1 = 0 ∧ ∀ q ∈ qs, 0 ≤ sg (rn q) ∧ fits q 6 = true

def RetErr (w : World) (k : Int) (e : Ending) (w' : World) : Prop := e = .returned (.tuple #[.slice none 0 0, .int .i64 k]) ∧ Below w.heap.size w w'
def RetLives (w : World) (qs : List Rat) (e : Ending) (w' : World) : Prop :=
  ∃ ao c, e = .returned (.tuple #[.slice ao qs.length c, .int .i64 0]) ∧ QV w' w.heap.size (.slice ao qs.length c) qs ∧ Below w.heap.size w w'

set_option maxRecDepth 100000 in
set_option maxHeartbeats 800000 in
theorem read_form (ao : Option Addr) (c : Nat) (ss : List ByteArray) (w : World) (h : SL w ao ss) (hn : ss.length ≤ 1000000000) (hsz : ∀ s ∈ ss, s.size ≤ 4611686018427387904) (hok : ¬ allOK ss) :
    Calls Try.prog 28 #[.slice ao ss.length c] w (RetErr w 2) := by
  have hH := Lib.hid h
  have hszH := Lib.hid hsz
  have hokH := Lib.hid hok
  clear h hsz hok
  go_enter Try.func28, Try.ntmps28
  go_wp2_with (first | (go_at_call 50; go_loud (with_reducible refine (numbers_bad ao c ss _ hH.out hn hszH.out hokH.out).mono ?_); rintro e w1 ⟨rfl, hb1⟩))
  go_ret2
  exact ⟨rfl, hb1⟩

set_option maxRecDepth 100000 in
set_option maxHeartbeats 800000 in
theorem read_len (ao : Option Addr) (c : Nat) (ss : List ByteArray) (w : World) (h : SL w ao ss) (hn : ss.length ≤ 1000000000) (hsz : ∀ s ∈ ss, s.size ≤ 4611686018427387904) (hok : allOK ss) (hl : ss.length < 1 ∨ 12 < ss.length) :
    Calls Try.prog 28 #[.slice ao ss.length c] w (RetErr w 1) := by
  have hH := Lib.hid h
  have hszH := Lib.hid hsz
  have hokH := Lib.hid hok
  clear h hsz hok
  by_cases h1 : ss.length < 1
  · have h2 : (ss.length : Int) < 1 := by omega
    clear hl h1
    go_enter Try.func28, Try.ntmps28
    go_wp2_with (first | (go_at_call 50; go_loud (with_reducible refine (numbers_good ao c ss _ hH.out hn hszH.out hokH.out).mono ?_); rintro e w1 ⟨a1, c1, rfl, hV, hb1⟩; have hVH := Lib.hid hV; clear hV))
    go_ret2
    exact ⟨rfl, hb1⟩
  · have h2 : ¬ (ss.length : Int) < 1 := by omega
    have h3 : (12 : Int) < (ss.length : Int) := by omega
    clear hl h1
    go_enter Try.func28, Try.ntmps28
    go_wp2_with (first | (go_at_call 50; go_loud (with_reducible refine (numbers_good ao c ss _ hH.out hn hszH.out hokH.out).mono ?_); rintro e w1 ⟨a1, c1, rfl, hV, hb1⟩; have hVH := Lib.hid hV; clear hV))
    go_ret2
    exact ⟨rfl, hb1⟩

end Go.Proofs.Ytcaeonpjokkjnaa
