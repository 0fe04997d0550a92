/- WearD WearE -/
import Derived.Test.YtkecdjdggkpdpabQWearC
import Derived.Test.YtkecdjdggkpdpabQWe
set_option linter.unusedVariables false
/- Walks of package wear: above. -/
namespace Go.Proofs.Ytkecdjdggkpdpab
open Go Go.RowKit Go.Proofs

theorem cell_grown {w w' : World} {v : Value} {b o : Nat} {z : Value} (hg : w.grownBy w' v.ownBlock) (hc : w.cell? ⟨b, o, none⟩ = some z) (hne : ∀ k, v.ownBlock = some k → b ≠ k) : w'.cell? ⟨b, o, none⟩ = some z := by
  rw [World.cell?_of_block (w := w) (a := ⟨b, o, none⟩) (hg.block b (World.block_lt_of_cell? w ⟨b, o, none⟩ hc) (fun e => hne b e.symm rfl))]
  exact hc

theorem Box.grown {w w' : World} {v : Value} {g : Nat} {p : RP} {q : Rat} (h : Box w g p q) (hg : w.grownBy w' v.ownBlock) (hv : NoIntV w v) (hne : ∀ k, v.ownBlock = some k → g ≠ k) : Box w' g p q := by
  obtain ⟨h1, h2, h3, h4, h5, h6⟩ := h
  have hlt : g < w.heap.size := World.block_lt_of_cell? w ⟨g, 0, none⟩ h3
  refine ⟨h1.grown hg hv, fun o k z hc => ?_, cell_grown hg h3 hne, cell_grown hg h4 hne, cell_grown hg h5 hne, cell_grown hg h6 hne⟩
  rw [World.cell?_of_block (w := w) (a := ⟨g, o, none⟩) (hg.block g hlt (fun e => hne g e.symm rfl))] at hc
  exact h2 o k z hc

theorem QV.noInt {w : World} {base : Nat} {v : Value} {qs : List Rat} (h : QV w base v qs) : NoIntV w v := by
  obtain ⟨l, _, _, hn, _⟩ := h
  exact hn

theorem heap_setCell_far (w : World) {N k g : Nat} (v : Value) (h : N ≠ g) : (w.setCell ⟨N, k, none⟩ v).heap[g]? = w.heap[g]? := by
  simp only [World.setCell, Array.getElem?_modify]
  rw [if_neg h]

theorem QV.setN {w : World} {base N : Nat} {v : Value} {qs : List Rat} (h : QV w base v qs) (hN : NoInt w N) (hlt : N < base) (k : Nat) (x : Value) : QV (w.setCell ⟨N, k, none⟩ x) base v qs := by
  obtain ⟨l, hl, ho, hn, hm⟩ := h
  have hown : ∀ g, v.ownBlock = some g → N ≠ g := fun g hg => by have := (World.ownsRow.lt ho g hg).1; omega
  refine ⟨l, hl, ⟨ho.1, ?_⟩, fun g hg o k' z hc => ?_, fun y hy => ?_⟩
  · rcases ho.2 with h' | ⟨g', cap', cur, hv, h1, hg, h2⟩
    · exact .inl h'
    · refine .inr ⟨g', cap', cur, hv, h1, ?_, h2⟩
      rw [heap_setCell_far w x (hown g' (by rw [hv]; rfl))]; exact hg
  · rw [World.cell?_setCell_far _ _ _ _ (hown g hg)] at hc
    exact hn g hg o k' z hc
  · exact ⟨Mag.setN (hm y hy).1 hN k x, Mag.setN (hm y hy).2 hN k x⟩

theorem QV.base {w : World} {base base' : Nat} {v : Value} {qs : List Rat} (h : QV w base v qs) (hb : base' ≤ base) : QV w base' v qs := by
  obtain ⟨l, hl, ho, hn, hm⟩ := h
  refine ⟨l, hl, ⟨ho.1, ?_⟩, hn, hm⟩
  rcases ho.2 with h' | ⟨g', cap', cur, hv, h1, hg, h2⟩
  · exact .inl h'
  · exact .inr ⟨g', cap', cur, hv, Nat.le_trans hb h1, hg, h2⟩

/-- What is kept from round to round: a box at block g, and an own list behind it. -/
def LoopQ (w : World) (g : Nat) (wr : World) (p : RP) (q : Rat) (b : Value) (qs : List Rat) : Prop :=
  Box wr g p q ∧ Rg g 4 wr wr ∧ QV wr (g + 1) b qs ∧ Below w.heap.size w wr ∧ g < wr.heap.size ∧ w.heap.size ≤ g
theorem LoopQ.step {w wr w' : World} {g : Nat} {p : RP} {q : Rat} {b : Value} {qs : List Rat} (h : LoopQ w g wr p q b qs) (hb : Below wr.heap.size wr w') : LoopQ w g w' p q b qs := by
  obtain ⟨h1, h2, h3, h4, h5, h6⟩ := h
  have := hb.size
  exact ⟨h1.up hb, (Rg.step h2 (by omega) hb).self, h3.below hb, h4.trans (hb.mono h4.size), by omega, h6⟩
theorem LoopQ.store {w wr : World} {g : Nat} {p : RP} {q r r' : Rat} {b : Value} {qs : List Rat} {a a' : Option Addr} {c c' : Nat} (h : LoopQ w g wr p q b qs) (hm : RM wr a c a' c' r) (hr : r = r') :
    LoopQ w g ((((wr.setCell ⟨g, 0, none⟩ (.bool (ng (rn r)))).setCell ⟨g, 1, none⟩ (.slice a (LI (rn r)) c)).setCell ⟨g, 2, none⟩ (.bool (ng (rd r)))).setCell ⟨g, 3, none⟩ (.slice a' (LI (rd r)) c')) ⟨a, c, a', c'⟩ r' b qs := by
  obtain ⟨h1, h2, h3, h4, h5, h6⟩ := h
  obtain ⟨b1, b2⟩ := Rg.box h2 hm hr
  have n0 := h2.noInt
  have n1 := n0.set ⟨g, 0, none⟩ (.bool (ng (rn r))) (by intro _ _ h; cases h)
  have n2 := n1.set ⟨g, 1, none⟩ (.slice a (LI (rn r)) c) (by intro _ _ h; cases h)
  have n3 := n2.set ⟨g, 2, none⟩ (.bool (ng (rd r))) (by intro _ _ h; cases h)
  refine ⟨b1, b2.self, (((h3.setN n0 (by omega) _ _).setN n1 (by omega) _ _).setN n2 (by omega) _ _).setN n3 (by omega) _ _, below_set4 h4 h6 _ _ _ _, by simpa using h5, h6⟩
/-- The list has grown. -/
theorem LoopQ.grown {w wr w' : World} {g : Nat} {p : RP} {q : Rat} {b v' : Value} {qs qs' : List Rat} (h : LoopQ w g wr p q b qs) (hg : wr.grownBy w' b.ownBlock) (hv : QV w' (g + 1) v' qs') : LoopQ w g w' p q v' qs' := by
  obtain ⟨h1, h2, h3, h4, h5, h6⟩ := h
  have hown : ∀ k, b.ownBlock = some k → g + 1 ≤ k := fun k hk => (h3.lt k hk).1
  have hb : Below (g + 1) wr w' := (Below.refl _ _).grown hg (by omega) hown
  have := hb.size
  exact ⟨h1.grown hg h3.noInt (fun k hk => by have := hown k hk; omega), (Rg.over h2 hb (by omega)).self, hv, h4.trans (hb.mono (by omega)), by omega, h6⟩

/-- What is left of 1. -/
def left (qs : List Rat) (k : Nat) : Rat := 1 - psum qs k
def aboveL (qs : List Rat) : List Rat := (List.range qs.length).map (left qs)

theorem left_zero (qs : List Rat) : left qs 0 = 1 := by simp [left, psum]; grind
theorem left_next (qs : List Rat) (k : Nat) (q : Rat) (h : qs[k]? = some q) : left qs k - q = left qs (k + 1) := by
  unfold left
  rw [← psum_next qs k q h]; grind
theorem aboveL_next (qs : List Rat) (k : Nat) (h : k < qs.length) : (aboveL qs).take k ++ [left qs k] = (aboveL qs).take (k + 1) := by
  rw [List.take_add_one]
  unfold aboveL
  rw [List.getElem?_map, List.getElem?_range h]; rfl

end Go.Proofs.Ytkecdjdggkpdpab

/- Walks of package wear: told. -/
namespace Go.Proofs.Ytkecdjdggkpdpab
open Go Go.RowKit Go.Proofs

/-- The slice holds texts. -/
def SL (w : World) (ao : Option Addr) (ss : List ByteArray) : Prop := ∀ i s, ss[i]? = some s → ∃ b o, ao = some ⟨b, o, none⟩ ∧ w.cell? ⟨b, o + i, none⟩ = some (.string s)
/-- An own list of texts. -/
def SV (w : World) (base : Nat) (v : Value) (ss : List ByteArray) : Prop := w.ownsRow base 33 1 v ss.length (ss.map Value.string) ∧ NoIntV w v

theorem SL.below {w w' : World} {ao : Option Addr} {ss : List ByteArray} (h : SL w ao ss) (hb : Below w.heap.size w w') : SL w' ao ss := by
  intro i s hs
  obtain ⟨b, o, ha, hc⟩ := h i s hs
  exact ⟨b, o, ha, Below.cellAt hb (Nat.le_refl _) hc⟩
theorem SV.nil (w : World) (base : Nat) : SV w base (.slice none 0 0) [] := ⟨World.ownsRow_nil _ _ _ _, fun g hg => by simp [Value.ownBlock] at hg⟩
theorem SV.shape {w : World} {base : Nat} {v : Value} {ss : List ByteArray} (h : SV w base v ss) : ∃ ao c, v = .slice ao ss.length c := by
  rcases h.1.2 with ⟨h1, h2⟩ | ⟨g', cap', cur, hv, _⟩
  · exact ⟨none, 0, by rw [h1, h2]⟩
  · exact ⟨_, _, hv⟩
theorem SV.lt {w : World} {base : Nat} {v : Value} {ss : List ByteArray} (h : SV w base v ss) : ∀ k, v.ownBlock = some k → base ≤ k ∧ k < w.heap.size := World.ownsRow.lt h.1
theorem SV.sl {w : World} {base n c : Nat} {ao : Option Addr} {ss : List ByteArray} (h : SV w base (.slice ao n c) ss) : SL w ao ss := by
  intro i s hs
  have hi : i < ss.length := (List.getElem?_eq_some_iff.1 hs).1
  rcases h.1.2 with ⟨h1, h2⟩ | ⟨g', cap', cur, hv, _⟩
  · omega
  · have ho := h.1
    injection hv with e1 e2 e3
    subst e1 e3
    refine ⟨g', 0, rfl, ?_⟩
    rw [e2] at ho
    have := ho.cellAt i (by simpa using hi)
    rw [Nat.zero_add, this, List.getElem?_map, hs]; rfl
theorem SV.below {w w' : World} {base : Nat} {v : Value} {ss : List ByteArray} (h : SV w base v ss) (hb : Below w.heap.size w w') : SV w' base v ss := by
  refine ⟨⟨h.1.1, ?_⟩, fun g hg o k z hc => ?_⟩
  · rcases h.1.2 with h' | ⟨g', cap', cur, hv, h1, hg, h2⟩
    · exact .inl h'
    · exact .inr ⟨g', cap', cur, hv, h1, by rw [hb.block g' (Array.getElem?_eq_some_iff.1 hg).1]; exact hg, h2⟩
  · have hlt := (World.ownsRow.lt h.1 g hg).2
    rw [World.cell?_of_block (w := w) (a := ⟨g, o, none⟩) (hb.block g hlt)] at hc
    exact h.2 g hg o k z hc

theorem info_num : (Try.prog.info? 33).map (fun i => (i.zero, i.size, i.bytes)) = some (some (.string ⟨#[]⟩), 1, 16) := by kernel_rfl

/-- 'append(l, s)', l a list of texts of the call's own. -/
theorem wpList_append_num (w : World) {ops : Array Oper} {rest : List Oper} {o : Oper} {a : Act} {Q : Exit → Act → World → Prop} (hg : o.guard = none) (s x : Operand) (t : TypeId)
    (ho : o.op = .call { callee := .builtin .append, args := #[s, x], argTypes := #[t, t] }) (ht : Try.prog.underlying t = some (.slice 33)) (base n : Nat) (v : Value) (ss : List ByteArray) (q : ByteArray) (hs : a.eval s = v) (hv : SV w base v ss)
    (hn : ss.length = n) (g0 : Nat) (hx : a.eval x = .slice (some ⟨g0, 0, none⟩) 1 1) (hb : n ≤ 1000000000000) (hbs : base ≤ w.heap.size) (c0 : w.cell? ⟨g0, 0, none⟩ = some (.string q))
    (hK : ∀ v' w', SV w' base v' (ss ++ [q]) → w.grownBy w' v.ownBlock → wpList Try.prog ops Q rest (a.put o.dst v') w') : wpList Try.prog ops Q (o :: rest) a w := by
  obtain ⟨i, h2, h3, h4, h5⟩ := info_parts info_num
  subst hn
  refine wpList_append_noint w hg s x t ho base 33 i _ 1 16 ht h2 h3 h4 h5 rfl (by omega) v ss.length (ss.map Value.string) hs hv.1 ⟨g0, 0, none⟩ 1 1 [.string q] hx rfl ?_ ?_ (by unfold maxLen; omega) (by omega) hbs (by omega) hv.2 ?_ ?_ ?_
  · intro j u hu
    rw [Addr.add_lit, Nat.zero_add]
    rcases j with _ | j
    · rw [c0]; exact hu
    · simp at hu
  · intro u hu
    simp at hu
    subst hu; rfl
  · intro u hu k z
    simp at hu
    subst hu; simp
  · intro u hu k z
    simp [Value.cells] at hu
    subst hu; simp
  · intro v' w' ho' hg' hn'
    refine hK v' w' ⟨?_, hn'⟩ hg'
    rw [List.map_append, List.length_append]; exact ho'

theorem rnum_ok (a : Option Addr) (c : Nat) (a' : Option Addr) (c' : Nat) (q : Rat) (w : World) (h1 : RM w a c a' c' q) (hp : Sz q) (h : numRes q = (nt q, 0)) :
    Calls Try.prog 24 #[.agg #[.bool (ng (rn q)), .slice a (LI (rn q)) c, .bool (ng (rd q)), .slice a' (LI (rd q)) c']] w (RetNumS w (nt q, 0)) := by
  rw [← h]; exact rnum_any a c a' c' q w h1 hp

def RetNums (w : World) (ss : List ByteArray) (e : Ending) (w' : World) : Prop :=
  ∃ ao c, e = .returned (.tuple #[.slice ao ss.length c, .int .i64 0]) ∧ SV w' w.heap.size (.slice ao ss.length c) ss ∧ Below w.heap.size w w'

theorem nts_next (qs : List Rat) (k : Nat) (q : Rat) (h : qs[k]? = some q) : (qs.map nt).take k ++ [nt q] = (qs.map nt).take (k + 1) := by
  rw [List.take_add_one, List.getElem?_map, h]; rfl

end Go.Proofs.Ytkecdjdggkpdpab
