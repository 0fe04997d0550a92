/- Zr Yd -/
import Derived.Test.YtkecdjdggkpdpabQZq
import Derived.Test.YtkecdjdggkpdpabQWe
import Derived.Test.YtkecdjdggkpdpabQWi
import Derived.Test.YtkecdjdggkpdpabQWo
set_option linter.unusedVariables false
/- Lists of the reference's fractions that the call owns. (Printed by wip/tools/gen_zr.py out of XList and others.) -/
namespace Go.Proofs.Ytkecdjdggkpdpab
open Go Go.RowKit Go.Proofs

/-- A fraction in lowest terms, in memory. -/
def ZR (w : World) (a : Option Addr) (c : Nat) (a' : Option Addr) (c' : Nat) (q : Rat) : Prop := QM w a c a' c' (rn q) (rd q)
def ZRp (w : World) (p : RP) (q : Rat) : Prop := ZR w p.a p.c p.a' p.c' q
def zCells (q : Rat) (p : RP) : List Value := [.bool (ng (rn q)), .slice p.a (LZ (rn q)) p.c, .bool (ng (rd q)), .slice p.a' (LZ (rd q)) p.c']
def allZ (l : List (Rat × RP)) : List Value := (l.map fun x => zCells x.1 x.2).flatten

theorem allZ_length (l : List (Rat × RP)) : (allZ l).length = 4 * l.length := by
  induction l with
  | nil => rfl
  | cons x l ih => simp only [allZ, List.map_cons, List.flatten_cons, List.length_append] at ih ⊢; rw [ih]; simp [zCells]; omega
theorem allZ_snoc (l : List (Rat × RP)) (x : Rat × RP) : allZ (l ++ [x]) = allZ l ++ zCells x.1 x.2 := by simp [allZ]
theorem allZ_at (l : List (Rat × RP)) (i j : Nat) (x : Rat × RP) (h : l[i]? = some x) (hj : j < 4) : (allZ l)[4 * i + j]? = (zCells x.1 x.2)[j]? := by
  induction l generalizing i with
  | nil => simp at h
  | cons y l ih =>
    simp only [allZ, List.map_cons, List.flatten_cons]
    rcases i with _ | i
    · simp at h; subst h
      rw [List.getElem?_append_left (by simp [zCells]; omega)]
      simp
    · rw [List.getElem?_append_right (by simp [zCells]; omega)]
      have := ih i (by simpa using h)
      rw [← this]
      congr 1
      simp [zCells]; omega

/-- The slice holds fractions. -/
def ZL (w : World) (ao : Option Addr) (qs : List Rat) : Prop :=
  ∀ i q, qs[i]? = some q → ∃ b o p, ao = some ⟨b, o, none⟩ ∧ ZRp w p q ∧ w.cell? ⟨b, o + i * 4, none⟩ = some (.bool (ng (rn q))) ∧ w.cell? ⟨b, o + i * 4 + 1, none⟩ = some (.slice p.a (LZ (rn q)) p.c) ∧
    w.cell? ⟨b, o + i * 4 + 2, none⟩ = some (.bool (ng (rd q))) ∧ w.cell? ⟨b, o + i * 4 + 3, none⟩ = some (.slice p.a' (LZ (rd q)) p.c')

/-- An own list of fractions. -/
def ZV (w : World) (base : Nat) (v : Value) (qs : List Rat) : Prop :=
  ∃ l : List (Rat × RP), l.map (·.1) = qs ∧ w.ownsRow base 42 4 v qs.length (allZ l) ∧ NoIntV w v ∧ ∀ x ∈ l, ZRp w x.2 x.1

theorem ZRp.grown {w w' : World} {p : RP} {q : Rat} {v : Value} (h : ZRp w p q) (hg : w.grownBy w' v.ownBlock) (hv : NoIntV w v) : ZRp w' p q :=
  ⟨⟨h.1.1, Dg.grown h.1.2 hg hv⟩, ⟨h.2.1, Dg.grown h.2.2 hg hv⟩⟩
theorem ZRp.up {w w' : World} {p : RP} {q : Rat} (h : ZRp w p q) (hb : Below w.heap.size w w') : ZRp w' p q := QM.up h hb

theorem ZV.nil (w : World) (base : Nat) : ZV w base (.slice none 0 0) [] :=
  ⟨[], rfl, World.ownsRow_nil _ _ _ _, fun g hg => by simp [Value.ownBlock] at hg, fun x hx => by cases hx⟩

theorem ZV.ql {w : World} {base n c : Nat} {ao : Option Addr} {qs : List Rat} (h : ZV w base (.slice ao n c) qs) : ZL w ao qs := by
  obtain ⟨l, rfl, ho, _, hm⟩ := h
  intro i q hq
  rw [List.getElem?_map] at hq
  obtain ⟨x, hx, rfl⟩ := Option.map_eq_some_iff.1 hq
  have hi : i < l.length := (List.getElem?_eq_some_iff.1 hx).1
  rcases ho.2 with ⟨h1, h2⟩ | ⟨g', cap', cur, hv, _⟩
  · rw [List.length_map] at h2; omega
  · injection hv with e1 e2 e3
    subst e1 e3
    refine ⟨g', 0, x.2, rfl, hm x (List.mem_of_getElem? hx), ?_⟩
    have hc : ∀ j, j < 4 → w.cell? ⟨g', 0 + i * 4 + j, none⟩ = (zCells x.1 x.2)[j]? := by
      intro j hj
      rw [← allZ_at l i j x hx hj, Nat.zero_add, Nat.mul_comm i 4]
      rw [e2] at ho
      exact ho.cellAt (4 * i + j) (by simp; omega)
    exact ⟨hc 0 (by omega), hc 1 (by omega), hc 2 (by omega), hc 3 (by omega)⟩

theorem ZL.below {w w' : World} {ao : Option Addr} {qs : List Rat} (h : ZL w ao qs) (hb : Below w.heap.size w w') : ZL w' ao qs := by
  intro i q hq
  obtain ⟨b, o, p, ha, hm, c0, c1, c2, c3⟩ := h i q hq
  exact ⟨b, o, p, ha, hm.up hb, Below.cellAt hb (Nat.le_refl _) c0, Below.cellAt hb (Nat.le_refl _) c1, Below.cellAt hb (Nat.le_refl _) c2, Below.cellAt hb (Nat.le_refl _) c3⟩

theorem ZV.below {w w' : World} {base : Nat} {v : Value} {qs : List Rat} (h : ZV w base v qs) (hb : Below w.heap.size w w') : ZV w' base v qs := by
  obtain ⟨l, hl, ho, hn, hm⟩ := h
  refine ⟨l, hl, ⟨ho.1, ?_⟩, fun g hg o k z hc => ?_, fun x hx => (hm x hx).up hb⟩
  · rcases ho.2 with h' | ⟨g', cap', cur, hv, h1, hg, h2⟩
    · exact .inl h'
    · exact .inr ⟨g', cap', cur, hv, h1, by rw [hb.block g' (Array.getElem?_eq_some_iff.1 hg).1]; exact hg, h2⟩
  · have hlt := (World.ownsRow.lt ho g hg).2
    rw [World.cell?_of_block (w := w) (a := ⟨g, o, none⟩) (hb.block g hlt)] at hc
    exact hn g hg o k z hc

theorem info_q : (Try.prog.info? 42).map (fun i => (i.zero, i.size, i.bytes)) = some (some (.agg #[.bool false, .slice none 0 0, .bool false, .slice none 0 0]), 4, 64) := by kernel_rfl

/-- 'append(l, q)', l a list of fractions of the call's own. -/
theorem wpList_append_q (w : World) {ops : Array Oper} {rest : List Oper} {o : Oper} {a : Act} {Q : Exit → Act → World → Prop} (hg : o.guard = none) (s x : Operand) (t : TypeId)
    (ho : o.op = .call { callee := .builtin .append, args := #[s, x], argTypes := #[t, t] }) (ht : Try.prog.underlying t = some (.slice 42)) (base n : Nat) (v : Value) (qs : List Rat) (q : Rat) (p : RP) (hs : a.eval s = v) (hv : ZV w base v qs)
    (hn : qs.length = n) (g0 : Nat) (hx : a.eval x = .slice (some ⟨g0, 0, none⟩) 1 1) (hb : n ≤ 1000000000000) (hbs : base ≤ w.heap.size)
    (c0 : w.cell? ⟨g0, 0, none⟩ = some (.bool (ng (rn q)))) (c1 : w.cell? ⟨g0, 1, none⟩ = some (.slice p.a (LZ (rn q)) p.c)) (c2 : w.cell? ⟨g0, 2, none⟩ = some (.bool (ng (rd q)))) (c3 : w.cell? ⟨g0, 3, none⟩ = some (.slice p.a' (LZ (rd q)) p.c'))
    (hm : ZRp w p q)
    (hK : ∀ v' w', ZV w' base v' (qs ++ [q]) → w.grownBy w' v.ownBlock → wpList Try.prog ops Q rest (a.put o.dst v') w') : wpList Try.prog ops Q (o :: rest) a w := by
  obtain ⟨l, hl, hown, hno, hms⟩ := hv
  obtain ⟨i, h2, h3, h4, h5⟩ := info_parts info_q
  subst hn
  refine wpList_append_noint w hg s x t ho base 42 i _ 4 64 ht h2 h3 h4 h5 rfl (by omega) v qs.length (allZ l) hs hown ⟨g0, 0, none⟩ 1 1 (zCells q p) hx rfl ?_ ?_ (by unfold maxLen; omega) (by omega) hbs (by omega) hno ?_ ?_ ?_
  · intro j u hu
    rw [Addr.add_lit, Nat.zero_add]
    rcases j with _ | _ | _ | _ | j
    · rw [c0]; exact hu
    · rw [c1]; exact hu
    · rw [c2]; exact hu
    · rw [c3]; exact hu
    · simp [zCells] at hu
  · intro u hu
    simp [zCells] at hu
    rcases hu with rfl | rfl | rfl | rfl <;> rfl
  · intro u hu k z
    simp [zCells] at hu
    rcases hu with rfl | rfl | rfl | rfl <;> simp
  · intro u hu k z
    simp [Value.cells] at hu
    rcases hu with rfl | rfl | rfl | rfl <;> simp
  · intro v' w' ho' hg' hn'
    refine hK v' w' ⟨l ++ [(q, p)], by simp [hl], ?_, hn', ?_⟩ hg'
    · rw [allZ_snoc, List.length_append]; exact ho'
    · intro y hy
      rcases List.mem_append.1 hy with hy | hy
      · exact (hms y hy).grown hg' hno
      · rw [List.mem_singleton.1 hy]; exact hm.grown hg' hno

theorem ZV.shape {w : World} {base : Nat} {v : Value} {qs : List Rat} (h : ZV w base v qs) : ∃ ao c, v = .slice ao qs.length c := by
  obtain ⟨l, _, ho, _⟩ := h
  rcases ho.2 with ⟨h1, h2⟩ | ⟨g', cap', cur, hv, _⟩
  · exact ⟨none, 0, by rw [h1, h2]⟩
  · exact ⟨_, _, hv⟩

theorem ZV.lt {w : World} {base : Nat} {v : Value} {qs : List Rat} (h : ZV w base v qs) : ∀ k, v.ownBlock = some k → base ≤ k ∧ k < w.heap.size := by
  obtain ⟨l, _, ho, _⟩ := h
  exact World.ownsRow.lt ho

theorem ZV.noInt {w : World} {base : Nat} {v : Value} {qs : List Rat} (h : ZV w base v qs) : NoIntV w v := by
  obtain ⟨l, _, _, hn, _⟩ := h
  exact hn

theorem ZV.setN {w : World} {base N : Nat} {v : Value} {qs : List Rat} (h : ZV w base v qs) (hN : NoInt w N) (hlt : N < base) (k : Nat) (x : Value) : ZV (w.setCell ⟨N, k, none⟩ x) base v qs := by
  obtain ⟨l, hl, ho, hn, hm⟩ := h
  have hown : ∀ g, v.ownBlock = some g → N ≠ g := fun g hg => by have := (World.ownsRow.lt ho g hg).1; omega
  refine ⟨l, hl, ⟨ho.1, ?_⟩, fun g hg o k' z hc => ?_, fun y hy => ?_⟩
  · rcases ho.2 with h' | ⟨g', cap', cur, hv, h1, hg, h2⟩
    · exact .inl h'
    · refine .inr ⟨g', cap', cur, hv, h1, ?_, h2⟩
      rw [heap_setCell_far w x (hown g' (by rw [hv]; rfl))]; exact hg
  · rw [World.cell?_setCell_far _ _ _ _ (hown g hg)] at hc
    exact hn g hg o k' z hc
  · exact ⟨MagZ.setN (hm y hy).1 hN k x, MagZ.setN (hm y hy).2 hN k x⟩

theorem ZV.base {w : World} {base base' : Nat} {v : Value} {qs : List Rat} (h : ZV w base v qs) (hb : base' ≤ base) : ZV w base' v qs := by
  obtain ⟨l, hl, ho, hn, hm⟩ := h
  refine ⟨l, hl, ⟨ho.1, ?_⟩, hn, hm⟩
  rcases ho.2 with h' | ⟨g', cap', cur, hv, h1, hg, h2⟩
  · exact .inl h'
  · exact .inr ⟨g', cap', cur, hv, Nat.le_trans hb h1, hg, h2⟩

theorem ZV.cap {w : World} {base n c : Nat} {ao : Option Addr} {qs : List Rat} (h : ZV w base (.slice ao n c) qs) (hn : qs.length = n) : n ≤ c := by
  obtain ⟨l, _, ho, _⟩ := h
  rcases ho.2 with ⟨h1, h2⟩ | ⟨g', cap', cur, hv, _, _, hc, _⟩
  · injection h1 with _ h3 _; omega
  · injection hv with _ h3 h4; omega

/-- A box of four cells that holds a fraction. -/
def ZBox (w : World) (g : Nat) (p : RP) (q : Rat) : Prop :=
  ZRp w p q ∧ NoInt w g ∧ w.cell? ⟨g, 0, none⟩ = some (.bool (ng (rn q))) ∧ w.cell? ⟨g, 1, none⟩ = some (.slice p.a (LZ (rn q)) p.c) ∧ w.cell? ⟨g, 2, none⟩ = some (.bool (ng (rd q))) ∧ w.cell? ⟨g, 3, none⟩ = some (.slice p.a' (LZ (rd q)) p.c')

theorem ZBox.up {g : Nat} {w w' : World} {p : RP} {q : Rat} (h : ZBox w g p q) (hb : Below w.heap.size w w') : ZBox w' g p q := by
  obtain ⟨h1, h2, h3, h4, h5, h6⟩ := h
  refine ⟨h1.up hb, fun o k z hc => ?_, Below.cellAt hb (Nat.le_refl _) h3, Below.cellAt hb (Nat.le_refl _) h4, Below.cellAt hb (Nat.le_refl _) h5, Below.cellAt hb (Nat.le_refl _) h6⟩
  have hg : g < w.heap.size := World.block_lt_of_cell? w ⟨g, 0, none⟩ h3
  rw [World.cell?_of_block (w := w) (a := ⟨g, o, none⟩) (hb.block g hg)] at hc
  exact h2 o k z hc

theorem ZBox.new (w : World) (p : RP) (q : Rat) (T : TypeId) (hm : ZRp w p q) :
    ZBox (w.alloc (Obj.cells #[.bool (ng (rn q)), .slice p.a (LZ (rn q)) p.c, .bool (ng (rd q)), .slice p.a' (LZ (rd q)) p.c'] T)) w.heap.size p q ∧
    Rg w.heap.size 4 (w.alloc (Obj.cells #[.bool (ng (rn q)), .slice p.a (LZ (rn q)) p.c, .bool (ng (rd q)), .slice p.a' (LZ (rd q)) p.c'] T)) (w.alloc (Obj.cells #[.bool (ng (rn q)), .slice p.a (LZ (rn q)) p.c, .bool (ng (rd q)), .slice p.a' (LZ (rd q)) p.c'] T)) := by
  have hN : NoInt (w.alloc (Obj.cells #[.bool (ng (rn q)), .slice p.a (LZ (rn q)) p.c, .bool (ng (rd q)), .slice p.a' (LZ (rd q)) p.c'] T)) w.heap.size := by
    refine noInt_cells (heap_alloc_new w _) fun u hu k z => ?_
    simp at hu
    rcases hu with rfl | rfl | rfl | rfl <;> simp
  refine ⟨⟨QM.up hm ((Below.refl _ _).alloc (Nat.le_refl _) _), hN, ?_, ?_, ?_, ?_⟩, Rg.mk (Below.refl _ _) (fun o ho => ?_) (fun o => ?_) hN⟩
  · simp [go_sem]
  · simp [go_sem]
  · simp [go_sem]
  · simp [go_sem]
  · rcases o with _ | _ | _ | _ | o
    · simp [go_sem]
    · simp [go_sem]
    · simp [go_sem]
    · simp [go_sem]
    · omega
  · simp [go_sem]

theorem ZV.one (w : World) (base : Nat) (p : RP) (q : Rat) (hm : ZRp w p q) (hb : base ≤ w.heap.size) :
    ZV (w.alloc (Obj.cells #[.bool (ng (rn q)), .slice p.a (LZ (rn q)) p.c, .bool (ng (rd q)), .slice p.a' (LZ (rd q)) p.c'] 42)) base (.slice (some ⟨w.heap.size, 0, none⟩) 1 1) [q] := by
  refine ⟨[(q, p)], rfl, ?_, ?_, ?_⟩
  · have := World.ownsRow_lit (base := base) (size := 4) (e := 42) w #[.bool (ng (rn q)), .slice p.a (LZ (rn q)) p.c, .bool (ng (rd q)), .slice p.a' (LZ (rd q)) p.c'] 1 hb (by unfold maxLen; omega) rfl
    exact this
  · intro g hg
    simp [Value.ownBlock] at hg
    subst hg
    exact (ZBox.new w p q 42 hm).1.2.1
  · intro x hx
    rw [List.mem_singleton.1 hx]
    exact hm.up ((Below.refl _ _).alloc (Nat.le_refl _) _)

theorem ZV.lit0 (w : World) (base : Nat) (hb : base ≤ w.heap.size) : ZV (w.alloc (.cells #[] 42)) base (.slice (some ⟨w.heap.size, 0, none⟩) 0 0) [] := by
  refine ⟨[], rfl, World.ownsRow_lit (base := base) (size := 4) (e := 42) w #[] 0 hb (by unfold maxLen; omega) rfl, fun g hg => ?_, fun x hx => by cases hx⟩
  simp [Value.ownBlock] at hg
  subst hg
  exact noInt_cells (heap_alloc_new w _) (fun u hu => by simp at hu)

end Go.Proofs.Ytkecdjdggkpdpab

/- Walks of the reference's words: Is, Are. -/
namespace Go.Proofs.Ytkecdjdggkpdpab
open Go Go.RowKit Go.Proofs

/-- A fraction whose parts have at most 4000 digits. -/
def Short4 (q : Rat) : Prop := (rn q).natAbs < p10 4000 ∧ (rd q).natAbs < p10 4000
theorem Short4.sz {q : Rat} (h : Short4 q) : LZ (rn q) ≤ 1000000 ∧ LZ (rd q) ≤ 1000000 := by
  have h1 := LZ_small h.1
  have h2 := LZ_small h.2
  exact ⟨by omega, by omega⟩
theorem ZR.kq {W w' : World} {a a' : Option Addr} {c c' : Nat} {q : Rat} (h : ZR W a c a' c' q) (hk : Kq W w') : ZR w' a c a' c' q := QM.up h hk.2
theorem num_l (a : Option Addr) (c : Nat) (a' : Option Addr) (c' : Nat) (q : Rat) (w : World) (h : ZR w a c a' c' q) (hq : Short4 q) :
    Calls Try.prog 26 #[.agg #[.bool (ng (rn q)), .slice a (LZ (rn q)) c, .bool (ng (rd q)), .slice a' (LZ (rd q)) c']] w (RetNumQ w (nt q)) :=
  num_q a c a' c' (rn q) (rd q) q w h hq.sz.1 hq.sz.2 (rd_pos q) (rat_eq q) hq.1 hq.2

theorem num_s (a : Option Addr) (c : Nat) (a' : Option Addr) (c' : Nat) (n d : Int) (q : Rat) (w : World) (h : QM w a c a' c' n d) (hs1 : LZ n ≤ 1000000) (hs2 : LZ d ≤ 1000000) (hd : 0 < d) (hq : Rat.divInt n d = q) (h4 : Short4 q) :
    Calls Try.prog 26 #[.agg #[.bool (ng n), .slice a (LZ n) c, .bool (ng d), .slice a' (LZ d) c']] w (RetNumQ w (nt q)) := num_q a c a' c' n d q w h hs1 hs2 hd hq h4.1 h4.2

set_option maxRecDepth 100000 in
set_option maxHeartbeats 1600000 in
theorem is_any (s : ByteArray) (a : Option Addr) (c : Nat) (a' : Option Addr) (c' : Nat) (n d : Int) (q : Rat) (w : World) (h : QM w a c a' c' n d) (hs1 : LZ n ≤ 1000000) (hs2 : LZ d ≤ 1000000) (hd : 0 < d) (hq : Rat.divInt n d = q) (h4 : Short4 q) :
    Calls Try.prog 7 #[.string s, .agg #[.bool (ng n), .slice a (LZ n) c, .bool (ng d), .slice a' (LZ d) c']] w (RetBool w (decide (s = nt q))) := by
  have hH := Lib.hid (h.up ((Below.refl w.heap.size w).alloc (Nat.le_refl _) (Obj.cells #[.bool (ng n), .slice a (LZ n) c, .bool (ng d), .slice a' (LZ d) c'] 42)))
  have hqH := Lib.hid hq
  have h4H := Lib.hid h4
  clear h hq h4
  obtain ⟨t, ht⟩ : ∃ t, t = nt q := ⟨_, rfl⟩
  have htH := Lib.hid ht
  rw [← ht]
  clear ht
  by_cases hst : s = t
  · have hres : Hid (decide (s = t) = true) := by show _ = _; exact decide_eq_true hst
    subst hst
    go_enter Try.func7, Try.ntmps7
    go_wp2_with (first
      | (go_at_call 26; go_loud (with_reducible refine (num_s a c a' c' n d q _ hH.out hs1 hs2 hd hqH.out h4H.out).mono ?_); rintro e w1 ⟨rfl, hb1⟩; rw [← htH.out]))
    go_ret
    exact ⟨by rw [hres.out]; rfl, bvia (Below.refl _ _) hb1⟩
  · have hres : Hid (decide (s = t) = false) := by show _ = _; exact decide_eq_false hst
    have hne := toList_ne_of hst
    clear hst
    go_enter Try.func7, Try.ntmps7
    go_wp2_with (first
      | (go_at_call 26; go_loud (with_reducible refine (num_s a c a' c' n d q _ hH.out hs1 hs2 hd hqH.out h4H.out).mono ?_); rintro e w1 ⟨rfl, hb1⟩; rw [← htH.out]))
    go_ret
    exact ⟨by rw [hres.out]; rfl, bvia (Below.refl _ _) hb1⟩

theorem is_l (s : ByteArray) (a : Option Addr) (c : Nat) (a' : Option Addr) (c' : Nat) (q : Rat) (w : World) (h : ZR w a c a' c' q) (hq : Short4 q) :
    Calls Try.prog 7 #[.string s, .agg #[.bool (ng (rn q)), .slice a (LZ (rn q)) c, .bool (ng (rd q)), .slice a' (LZ (rd q)) c']] w (RetBool w (decide (s = nt q))) :=
  is_any s a c a' c' (rn q) (rd q) q w h hq.sz.1 hq.sz.2 (rd_pos q) (rat_eq q) hq

theorem is_b (s : ByteArray) (a : Option Addr) (c : Nat) (a' : Option Addr) (c' : Nat) (q : Rat) (b : Bool) (w : World) (hb : decide (s = nt q) = b) (h : ZR w a c a' c' q) (hq : Short4 q) :
    Calls Try.prog 7 #[.string s, .agg #[.bool (ng (rn q)), .slice a (LZ (rn q)) c, .bool (ng (rd q)), .slice a' (LZ (rd q)) c']] w (RetBool w b) := by
  subst hb; exact is_l s a c a' c' q w h hq

end Go.Proofs.Ytkecdjdggkpdpab
