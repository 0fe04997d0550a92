/- Jm -/
import Derived.Test.YtkecdjdggkpdpabProg
import Derived.Test.YtkecdjdggkpdpabQJo
import Derived.Test.YtkecdjdggkpdpabQPa
import Derived.Maps.AppendAt
set_option linter.unusedVariables false
/- What values mean in a world: slices of ints, slices of such slices; own ones. -/
namespace Go.Proofs.Ytkecdjdggkpdpab
open Go Go.RowKit Go.Proofs

/-- The slice with this address holds these numbers. -/
def IZ (w : World) (ao : Option Addr) (xs : List Int) : Prop := ∀ (i : Nat) (x : Int), xs[i]? = some x → ∃ b o, ao = some ⟨b, o, none⟩ ∧ w.cell? ⟨b, o + i, none⟩ = some (.int .i64 x)
theorem IZ.nil (w : World) (ao : Option Addr) : IZ w ao [] := fun i x h => by simp at h
theorem IZ.upto {w w' : World} {B : Nat} {ao : Option Addr} {xs : List Int} (h : IZ w ao xs) (hb : Below B w w') (hB : w.heap.size ≤ B) : IZ w' ao xs := fun i x hx => by
  obtain ⟨b, o, ha, hc⟩ := h i x hx
  exact ⟨b, o, ha, Below.cellAt hb hB hc⟩
theorem IZ.below {w w' : World} {ao : Option Addr} {xs : List Int} (h : IZ w ao xs) (hb : Below w.heap.size w w') : IZ w' ao xs := h.upto hb (Nat.le_refl _)
theorem IZ.at {w : World} {ao : Option Addr} {xs : List Int} (h : IZ w ao xs) {i : Nat} (hi : i < xs.length) : ∃ b o, ao = some ⟨b, o, none⟩ ∧ w.cell? ⟨b, o + i, none⟩ = some (.int .i64 (at0 xs i)) := h i _ (at0_get hi)
theorem IZ.take {w : World} {ao : Option Addr} {xs : List Int} (h : IZ w ao xs) (k : Nat) : IZ w ao (xs.take k) := fun i x hx => by
  rw [List.getElem?_take] at hx
  split at hx
  · exact h i x hx
  · cases hx
theorem IZ.drop {w : World} {b o : Nat} {xs : List Int} (h : IZ w (some ⟨b, o, none⟩) xs) (k : Nat) : IZ w (some ⟨b, o + k, none⟩) (xs.drop k) := fun i x hx => by
  rw [List.getElem?_drop] at hx
  obtain ⟨b', o', ha, hc⟩ := h (k + i) x hx
  injection ha with ha
  injection ha with h1 h2
  subst h1 h2
  exact ⟨_, _, rfl, by rw [Nat.add_assoc]; exact hc⟩
theorem IZ.setN {w : World} {ao : Option Addr} {xs : List Int} {N : Nat} (h : IZ w ao xs) (hN : NoInt w N) (k : Nat) (v : Value) : IZ (w.setCell ⟨N, k, none⟩ v) ao xs := fun i x hx => by
  obtain ⟨b, o, ha, hc⟩ := h i x hx
  refine ⟨b, o, ha, ?_⟩
  rw [World.cell?_setCell_other _ _ _ _ ?_]
  · exact hc
  · intro e
    injection e with e1 e2
    subst e1
    exact hN _ _ _ hc
theorem IZ.grown {w w' : World} {ao : Option Addr} {xs : List Int} {v : Value} (h : IZ w ao xs) (hg : w.grownBy w' v.ownBlock) (hv : NoIntV w v) : IZ w' ao xs := fun i x hx => by
  obtain ⟨b, o, ha, hc⟩ := h i x hx
  refine ⟨b, o, ha, ?_⟩
  rw [World.cell?_of_block (w := w) (a := ⟨b, o + i, none⟩) (hg.block b (World.block_lt_of_cell? w ⟨b, o + i, none⟩ hc) (fun e => hv b e.symm _ _ _ hc))]
  exact hc

/-- The value is a slice of these numbers. -/
def RowV (w : World) (v : Value) (xs : List Int) : Prop := ∃ a c, v = .slice a xs.length c ∧ xs.length ≤ c ∧ IZ w a xs
theorem RowV.below {w w' : World} {v : Value} {xs : List Int} (h : RowV w v xs) (hb : Below w.heap.size w w') : RowV w' v xs := by
  obtain ⟨a, c, h1, h2, h3⟩ := h
  exact ⟨a, c, h1, h2, h3.below hb⟩
def Rows2 (w : World) (vs : List Value) (C : List (List Int)) : Prop := vs.length = C.length ∧ ∀ (i : Nat) (v : Value) (xs : List Int), vs[i]? = some v → C[i]? = some xs → RowV w v xs
theorem Rows2.below {w w' : World} {vs : List Value} {C : List (List Int)} (h : Rows2 w vs C) (hb : Below w.heap.size w w') : Rows2 w' vs C := ⟨h.1, fun i v xs h1 h2 => (h.2 i v xs h1 h2).below hb⟩
theorem Rows2.append {w : World} {vs us : List Value} {C D : List (List Int)} (h : Rows2 w vs C) (h' : Rows2 w us D) : Rows2 w (vs ++ us) (C ++ D) := by
  refine ⟨by rw [List.length_append, List.length_append, h.1, h'.1], fun i v xs h1 h2 => ?_⟩
  by_cases hi : i < vs.length
  · rw [List.getElem?_append_left hi] at h1
    rw [List.getElem?_append_left (by rw [← h.1]; exact hi)] at h2
    exact h.2 i v xs h1 h2
  · rw [List.getElem?_append_right (by omega)] at h1
    rw [List.getElem?_append_right (by rw [← h.1]; omega), ← h.1] at h2
    exact h'.2 _ v xs h1 h2
theorem Rows2.grown {w w' : World} {vs : List Value} {C : List (List Int)} {v : Value} (h : Rows2 w vs C) (hg : w.grownBy w' v.ownBlock) (hv : NoIntV w v) : Rows2 w' vs C := ⟨h.1, fun i u xs h1 h2 => by
  obtain ⟨a, c, e1, e2, e3⟩ := h.2 i u xs h1 h2
  exact ⟨a, c, e1, e2, e3.grown hg hv⟩⟩
/-- The slice with this address holds these rows. -/
def IMx (w : World) (ao : Option Addr) (C : List (List Int)) : Prop := ∃ vs, Cells w ao vs ∧ Rows2 w vs C
theorem IMx.below {w w' : World} {ao : Option Addr} {C : List (List Int)} (h : IMx w ao C) (hb : Below w.heap.size w w') : IMx w' ao C := by
  obtain ⟨vs, h1, h2⟩ := h
  exact ⟨vs, h1.below hb, h2.below hb⟩
theorem IMx.row {w : World} {ao : Option Addr} {C : List (List Int)} (h : IMx w ao C) {i : Nat} {xs : List Int} (hi : C[i]? = some xs) : ∃ b o a c, ao = some ⟨b, o, none⟩ ∧ w.cell? ⟨b, o + i, none⟩ = some (.slice a xs.length c) ∧ xs.length ≤ c ∧ IZ w a xs := by
  obtain ⟨vs, h1, h2, h3⟩ := h
  have hlt : i < vs.length := by rw [h2]; exact (List.getElem?_eq_some_iff.1 hi).1
  obtain ⟨b, o, ha, hc⟩ := h1 i _ (List.getElem?_eq_getElem hlt)
  obtain ⟨a, c, e1, e2, e3⟩ := h3 i _ xs (List.getElem?_eq_getElem hlt) hi
  exact ⟨b, o, a, c, ha, by rw [hc, e1], e2, e3⟩
theorem IMx.take {w : World} {ao : Option Addr} {C : List (List Int)} (h : IMx w ao C) (k : Nat) : IMx w ao (C.take k) := by
  obtain ⟨vs, h1, h2, h3⟩ := h
  refine ⟨vs.take k, fun i v hv => ?_, by rw [List.length_take, List.length_take, h2], fun i v xs hv hx => ?_⟩
  · rw [List.getElem?_take] at hv
    split at hv
    · exact h1 i v hv
    · cases hv
  · rw [List.getElem?_take] at hv hx
    split at hv
    · rename_i hik
      rw [if_pos hik] at hx
      exact h3 i v xs hv hx
    · cases hv

/-- An own list of ints. -/
def ZI (w : World) (base : Nat) (v : Value) (xs : List Int) : Prop := w.ownsRow base 3 1 v xs.length (xs.map fun x : Int => Value.int .i64 x)
theorem ZI.nil (w : World) (base : Nat) : ZI w base (.slice none 0 0) [] := World.ownsRow_nil _ _ _ _
theorem ZI.shape {w : World} {base : Nat} {v : Value} {xs : List Int} (h : ZI w base v xs) : ∃ ao c, v = .slice ao xs.length c := own_shape h
theorem ZI.iz {w : World} {base n c : Nat} {ao : Option Addr} {xs : List Int} (h : ZI w base (.slice ao n c) xs) : IZ w ao xs ∧ n ≤ c := by
  refine ⟨fun i x hx => ?_, ?_⟩
  · have hi : i < xs.length := (List.getElem?_eq_some_iff.1 hx).1
    rcases h.2 with ⟨h1, h2⟩ | ⟨g', cap', cur, hv, _, hh, hn, _⟩
    · omega
    · injection hv with h1 h2 h3
      refine ⟨g', 0, h1, ?_⟩
      have := World.ownsRow.cells h (g := g') (by rw [h1]; rfl) i (.int .i64 x) (by simp [hx])
      rwa [Addr.add_lit] at this
  · rcases h.2 with ⟨h1, _⟩ | ⟨g', cap', cur, hv, _, hh, hn, _⟩
    · injection h1 with h1 h2 h3; omega
    · injection hv with h1 h2 h3; omega
theorem ZI.lt {w : World} {base : Nat} {v : Value} {xs : List Int} (h : ZI w base v xs) : ∀ k, v.ownBlock = some k → base ≤ k ∧ k < w.heap.size := World.ownsRow.lt h
theorem ZI.below {w w' : World} {base : Nat} {v : Value} {xs : List Int} (h : ZI w base v xs) (hb : Below w.heap.size w w') : ZI w' base v xs := by
  refine ⟨h.1, ?_⟩
  rcases h.2 with h' | ⟨g', cap', cur, hv, h1, hg, h2⟩
  · exact .inl h'
  · exact .inr ⟨g', cap', cur, hv, h1, by rw [hb.block g' (Array.getElem?_eq_some_iff.1 hg).1]; exact hg, h2⟩
theorem ZI.lit0 (w : World) (base : Nat) (hb : base ≤ w.heap.size) : ZI (w.alloc (.cells #[] 3)) base (.slice (some ⟨w.heap.size, 0, none⟩) 0 0) [] :=
  World.ownsRow_lit (base := base) (size := 1) (e := 3) w #[] 0 hb (by unfold maxLen; omega) rfl
theorem info_intJ : (Try.prog.info? 3).map (fun i => (i.zero, i.size, i.bytes)) = some (some (.int .i64 0), 1, 8) := by kernel_rfl
theorem info_rowJ : (Try.prog.info? 25).map (fun i => (i.zero, i.size, i.bytes)) = some (some (.slice none 0 0), 1, 24) := by kernel_rfl
/-- 'append(l, nil..)': nothing. -/
theorem run_append_nothing {P : Program} {w : World} {t ty e : TypeId} {i : TypeInfo} (ht : P.underlying t = some (.slice e)) (hi : P.info? e = some i) {base size n : Nat} {v : Value} {xs : List Value} (hown : w.ownsRow base e size v n xs) (c : Nat) :
    (Builtin.append_ #[t, t] ty #[v, .slice none 0 c]).run P w = .ok v w := by
  rcases hown.2 with ⟨h1, h2⟩ | ⟨g', cap', cur, hv, h1, hg, h2, h3, _⟩
  · subst h1
    simp [Builtin.append_, run_underlying ht, sizeOf, typeInfo, hi, Builtin.lenOf, Builtin.firstCells]
  · subst hv
    have hn : n ≤ cap' := by omega
    simp [Builtin.append_, run_underlying ht, sizeOf, typeInfo, hi, Builtin.lenOf, Builtin.firstCells, storeCells, Result.andThen, hn]
theorem wpList_append_nothing {P : Program} {w : World} {ops : Array Oper} {rest : List Oper} {o : Oper} {a : Act} {Q : Exit → Act → World → Prop} (hgd : o.guard = none) (s x : Operand) (t : TypeId)
    (ho : o.op = .call { callee := .builtin .append, args := #[s, x], argTypes := #[t, t] }) {e : TypeId} {i : TypeInfo} (ht : P.underlying t = some (.slice e)) (hi : P.info? e = some i) {base size n : Nat} {v : Value} {xs : List Value} (hs : a.eval s = v) (hown : w.ownsRow base e size v n xs) (c : Nat) (hx : a.eval x = .slice none 0 c)
    (h : wpList P ops Q rest (a.put o.dst v) w) : wpList P ops Q (o :: rest) a w := by
  refine wpList_plain hgd fun K hK => ?_
  have hrun := run_append_nothing (P := P) (ty := o.type) ht hi hown c
  unfold Oper.wp
  simp [execOp, ho, resolve, invoke, builtin, hs, hx, hrun, Result.andThen]
  exact hK _ _ h
set_option maxRecDepth 100000 in
/-- 'append(l, x..)', l a list of ints of the call's own. -/
theorem wpList_append_zs (w : World) {ops : Array Oper} {rest : List Oper} {o : Oper} {a : Act} {Q : Exit → Act → World → Prop} (hg : o.guard = none) (s x : Operand) (t : TypeId)
    (ho : o.op = .call { callee := .builtin .append, args := #[s, x], argTypes := #[t, t] }) (ht : Try.prog.underlying t = some (.slice 3)) (base n : Nat) (v : Value) (xs : List Int) (hs : a.eval s = v) (hv : ZI w base v xs)
    (hn : xs.length = n) (ad : Option Addr) (m c : Nat) (ys : List Int) (hx : a.eval x = .slice ad m c) (hy : IZ w ad ys) (hm : ys.length = m) (hb : n ≤ 1000000000000) (hbm : m ≤ 1000000000000) (hbs : base ≤ w.heap.size)
    (hK : ∀ v' w', ZI w' base v' (xs ++ ys) → w.grownBy w' v.ownBlock → (v'.ownBlock = v.ownBlock ∨ v'.ownBlock = some w.heap.size) → wpList Try.prog ops Q rest (a.put o.dst v') w') : wpList Try.prog ops Q (o :: rest) a w := by
  obtain ⟨i, h2, h3, h4, h5⟩ := info_parts info_intJ
  subst hn hm
  rcases ad with _ | ad
  · have he : ys = [] := by
      rcases ys with _ | ⟨y, ys⟩
      · rfl
      · obtain ⟨b, o', ha, _⟩ := hy 0 y rfl
        cases ha
    subst he
    refine wpList_append_nothing hg s x t ho ht h2 hs hv c hx (hK v w ?_ ⟨rfl, rfl, rfl, Nat.le_refl _, fun _ _ _ => rfl⟩ (.inl rfl))
    rw [List.append_nil]; exact hv
  · refine wpList_append_own_at w hg s x t ho base 3 i _ 1 8 ht h2 h3 h4 h5 rfl (by omega) v xs.length _ hs hv ad ys.length c (ys.map fun y : Int => Value.int .i64 y) hx (by simp) ?_ ?_ (by unfold maxLen; omega) (by omega) hbs ?_
    · intro j u hu
      rw [List.getElem?_map] at hu
      obtain ⟨y, hy', rfl⟩ := Option.map_eq_some_iff.1 hu
      obtain ⟨b, o', hae, hc⟩ := hy j y hy'
      injection hae with hae
      subst hae
      rw [Addr.add_lit]
      exact hc
    · intro u hu
      obtain ⟨y, _, rfl⟩ := List.mem_map.1 hu
      rfl
    · intro v' w' h6 h7 _ h8
      refine hK v' w' ?_ h7 h8
      unfold ZI
      rw [List.map_append, List.length_append]; exact h6
/-- One number. -/
theorem wpList_append_z (w : World) {ops : Array Oper} {rest : List Oper} {o : Oper} {a : Act} {Q : Exit → Act → World → Prop} (hg : o.guard = none) (s x : Operand) (t : TypeId)
    (ho : o.op = .call { callee := .builtin .append, args := #[s, x], argTypes := #[t, t] }) (ht : Try.prog.underlying t = some (.slice 3)) (base n : Nat) (v : Value) (xs : List Int) (z : Int) (hs : a.eval s = v) (hv : ZI w base v xs)
    (hn : xs.length = n) (g0 : Nat) (hx : a.eval x = .slice (some ⟨g0, 0, none⟩) 1 1) (hb : n ≤ 1000000000000) (hbs : base ≤ w.heap.size) (c0 : w.cell? ⟨g0, 0, none⟩ = some (.int .i64 z))
    (hK : ∀ v' w', ZI w' base v' (xs ++ [z]) → w.grownBy w' v.ownBlock → (v'.ownBlock = v.ownBlock ∨ v'.ownBlock = some w.heap.size) → wpList Try.prog ops Q rest (a.put o.dst v') w') : wpList Try.prog ops Q (o :: rest) a w :=
  wpList_append_zs w hg s x t ho ht base n v xs hs hv hn _ 1 1 [z] hx (fun i y hy => by
    rcases i with _ | i
    · simp at hy; subst hy; exact ⟨g0, 0, rfl, c0⟩
    · simp at hy) rfl hb (by omega) hbs hK

/-- An own list of rows. -/
def MI (w : World) (base : Nat) (v : Value) (C : List (List Int)) : Prop := ∃ vs, w.ownsRow base 25 1 v C.length vs ∧ NoIntV w v ∧ Rows2 w vs C
theorem MI.nil (w : World) (base : Nat) : MI w base (.slice none 0 0) [] := ⟨[], World.ownsRow_nil _ _ _ _, fun g hg => by simp [Value.ownBlock] at hg, rfl, fun i v xs h => by simp at h⟩
theorem MI.shape {w : World} {base : Nat} {v : Value} {C : List (List Int)} (h : MI w base v C) : ∃ ao c, v = .slice ao C.length c := by
  obtain ⟨vs, h1, _⟩ := h
  exact own_shape h1
theorem MI.imx {w : World} {base n c : Nat} {ao : Option Addr} {C : List (List Int)} (h : MI w base (.slice ao n c) C) : IMx w ao C ∧ n ≤ c := by
  obtain ⟨vs, h1, _, h3⟩ := h
  refine ⟨⟨vs, fun i v hv => ?_, h3⟩, ?_⟩
  · have hi : i < vs.length := (List.getElem?_eq_some_iff.1 hv).1
    have hl := h1.1
    rcases h1.2 with ⟨h4, h5⟩ | ⟨g', cap', cur, hv', _, hh, hn, _⟩
    · rw [h5] at hl; simp at hl; subst hl; simp at hi
    · injection hv' with e1 e2 e3
      refine ⟨g', 0, e1, ?_⟩
      have := World.ownsRow.cells h1 (g := g') (by rw [e1]; rfl) i v hv
      rwa [Addr.add_lit] at this
  · rcases h1.2 with ⟨h4, _⟩ | ⟨g', cap', cur, hv', _, hh, hn, _⟩
    · injection h4 with e1 e2 e3; omega
    · injection hv' with e1 e2 e3; omega
theorem MI.lt {w : World} {base : Nat} {v : Value} {C : List (List Int)} (h : MI w base v C) : ∀ k, v.ownBlock = some k → base ≤ k ∧ k < w.heap.size := by
  obtain ⟨vs, h1, _⟩ := h
  exact World.ownsRow.lt h1
theorem MI.below {w w' : World} {base : Nat} {v : Value} {C : List (List Int)} (h : MI w base v C) (hb : Below w.heap.size w w') : MI w' base v C := by
  obtain ⟨vs, ho, hn, hr⟩ := h
  refine ⟨vs, ⟨ho.1, ?_⟩, fun g hg o k z hc => ?_, hr.below hb⟩
  · rcases ho.2 with h' | ⟨g', cap', cur, hv, h1, hg, h2⟩
    · exact .inl h'
    · exact .inr ⟨g', cap', cur, hv, h1, by rw [hb.block g' (Array.getElem?_eq_some_iff.1 hg).1]; exact hg, h2⟩
  · have hlt := (World.ownsRow.lt ho g hg).2
    rw [World.cell?_of_block (w := w) (a := ⟨g, o, none⟩) (hb.block g hlt)] at hc
    exact hn g hg o k z hc
theorem MI.lit0 (w : World) (base : Nat) (hb : base ≤ w.heap.size) : MI (w.alloc (.cells #[] 25)) base (.slice (some ⟨w.heap.size, 0, none⟩) 0 0) [] :=
  ⟨[], World.ownsRow_lit (base := base) (size := 1) (e := 25) w #[] 0 hb (by unfold maxLen; omega) rfl, fun g hg => by
    simp [Value.ownBlock] at hg
    subst hg
    exact noInt_cells (heap_alloc_new w _) fun u hu => by simp at hu, rfl, fun i v xs h => by simp at h⟩
set_option maxRecDepth 100000 in
/-- 'append(l, rows..)', l a list of rows of the call's own; at least one row. -/
theorem wpList_append_rows (w : World) {ops : Array Oper} {rest : List Oper} {o : Oper} {a : Act} {Q : Exit → Act → World → Prop} (hg : o.guard = none) (s x : Operand) (t : TypeId)
    (ho : o.op = .call { callee := .builtin .append, args := #[s, x], argTypes := #[t, t] }) (ht : Try.prog.underlying t = some (.slice 25)) (base n : Nat) (v : Value) (C : List (List Int)) (hs : a.eval s = v) (hv : MI w base v C)
    (hn : C.length = n) (ad : Option Addr) (m c : Nat) (D : List (List Int)) (hx : a.eval x = .slice ad m c) (hy : IMx w ad D) (hm : D.length = m) (hm0 : 0 < m) (hb : n ≤ 1000000000000) (hbm : m ≤ 1000000000000) (hbs : base ≤ w.heap.size)
    (hK : ∀ v' w', MI w' base v' (C ++ D) → w.grownBy w' v.ownBlock → wpList Try.prog ops Q rest (a.put o.dst v') w') : wpList Try.prog ops Q (o :: rest) a w := by
  obtain ⟨i, h2, h3, h4, h5⟩ := info_parts info_rowJ
  obtain ⟨vs, hown, hno, hr⟩ := hv
  obtain ⟨us, hcs, hu⟩ := hy
  subst hn hm
  have hul := hu.1
  obtain ⟨b0, o0, had, _⟩ := hcs 0 _ (List.getElem?_eq_getElem (by omega))
  have hrow : ∀ u ∈ us, ∃ a n c, u = Value.slice a n c := fun u hm => by
    obtain ⟨j, hj, rfl⟩ := List.mem_iff_getElem.1 hm
    obtain ⟨a', c', e1, _⟩ := hu.2 j _ _ (List.getElem?_eq_getElem hj) (List.getElem?_eq_getElem (by omega))
    exact ⟨_, _, _, e1⟩
  subst had
  refine wpList_append_noint w hg s x t ho base 25 i _ 1 24 ht h2 h3 h4 h5 rfl (by omega) v C.length vs hs hown _ D.length c us hx (by omega) ?_ ?_ (by unfold maxLen; omega) (by omega) hbs hm0 hno ?_ ?_ ?_
  · intro j u hj
    obtain ⟨b, o', hae, hc⟩ := hcs j u hj
    injection hae with hae
    rw [hae, Addr.add_lit]
    exact hc
  · intro u hm
    obtain ⟨_, _, _, rfl⟩ := hrow u hm
    rfl
  · intro u hm k z
    obtain ⟨_, _, _, rfl⟩ := hrow u hm
    simp
  · intro u hm k z
    simp [Value.cells] at hm
    subst hm; simp
  · intro v' w' ho' hg' hn'
    refine hK v' w' ⟨vs ++ us, ?_, hn', (hr.append hu).grown hg' hno⟩ hg'
    rw [List.length_append]; exact ho'
/-- One row. -/
theorem wpList_append_row (w : World) {ops : Array Oper} {rest : List Oper} {o : Oper} {a : Act} {Q : Exit → Act → World → Prop} (hg : o.guard = none) (s x : Operand) (t : TypeId)
    (ho : o.op = .call { callee := .builtin .append, args := #[s, x], argTypes := #[t, t] }) (ht : Try.prog.underlying t = some (.slice 25)) (base n : Nat) (v : Value) (C : List (List Int)) (xs : List Int) (hs : a.eval s = v) (hv : MI w base v C)
    (hn : C.length = n) (g0 : Nat) (hx : a.eval x = .slice (some ⟨g0, 0, none⟩) 1 1) (b : Option Addr) (k d : Nat) (hb : n ≤ 1000000000000) (hbs : base ≤ w.heap.size) (c0 : w.cell? ⟨g0, 0, none⟩ = some (.slice b k d)) (hk : xs.length = k) (hd : k ≤ d) (hz : IZ w b xs)
    (hK : ∀ v' w', MI w' base v' (C ++ [xs]) → w.grownBy w' v.ownBlock → wpList Try.prog ops Q rest (a.put o.dst v') w') : wpList Try.prog ops Q (o :: rest) a w := by
  subst hk
  refine wpList_append_rows w hg s x t ho ht base n v C hs hv hn _ 1 1 [xs] hx ⟨[.slice b xs.length d], fun i u hu => ?_, rfl, fun i u ys hu hys => ?_⟩ rfl (by omega) hb (by omega) hbs hK
  · rcases i with _ | i
    · simp at hu; subst hu; exact ⟨g0, 0, rfl, c0⟩
    · simp at hu
  · rcases i with _ | i
    · simp at hu hys
      subst hu hys
      exact ⟨b, d, rfl, hd, hz⟩
    · simp at hu
/-- What calls return. -/
def RetJZ (w : World) (xs : List Int) (e : Ending) (w' : World) : Prop := ∃ a c, e = .returned (.slice a xs.length c) ∧ IZ w' a xs ∧ xs.length ≤ c ∧ Below w.heap.size w w'
def RetM (w : World) (C : List (List Int)) (e : Ending) (w' : World) : Prop := ∃ a c, e = .returned (.slice a C.length c) ∧ IMx w' a C ∧ C.length ≤ c ∧ Below w.heap.size w w'
def RetB (w : World) (b : Bool) (e : Ending) (w' : World) : Prop := e = .returned (.bool b) ∧ Below w.heap.size w w'
def RetI (w : World) (z : Int) (e : Ending) (w' : World) : Prop := e = .returned (.int .i64 z) ∧ Below w.heap.size w w'
/-- Blocks known whole, of numbers, of Booleans. -/
def ZBlk (w : World) (g : Nat) (xs : List Int) : Prop := Blk w g 3 (xs.map fun x : Int => Value.int .i64 x)
def BBlk (w : World) (g : Nat) (bs : List Bool) : Prop := Blk w g 4 (bs.map fun b : Bool => Value.bool b)
theorem ZBlk.set {w : World} {g : Nat} {xs : List Int} (h : ZBlk w g xs) (i : Nat) (x : Int) : ZBlk (w.setCell ⟨g, i, none⟩ (.int .i64 x)) g (xs.set i x) := by
  have := Blk.set h i (.int .i64 x)
  unfold ZBlk
  rwa [← List.map_set] at this
theorem BBlk.set {w : World} {g : Nat} {bs : List Bool} (h : BBlk w g bs) (i : Nat) (x : Bool) : BBlk (w.setCell ⟨g, i, none⟩ (.bool x)) g (bs.set i x) := by
  have := Blk.set h i (.bool x)
  unfold BBlk
  rwa [← List.map_set] at this
theorem ZBlk.at {w : World} {g : Nat} {xs : List Int} (h : ZBlk w g xs) {i : Nat} (hi : i < xs.length) : w.cell? ⟨g, i, none⟩ = some (.int .i64 (at0 xs i)) := by
  rw [Blk.cell h]; simp [at0_get hi]
theorem BBlk.at {w : World} {g : Nat} {bs : List Bool} (h : BBlk w g bs) {i : Nat} {b : Bool} (hi : bs[i]? = some b) : w.cell? ⟨g, i, none⟩ = some (.bool b) := by
  rw [Blk.cell h]; simp [hi]
theorem Blk.far {w : World} {g T : Nat} {cs : List Value} (h : Blk w g T cs) {p : Addr} (hp : g ≠ p.block) (u : Value) : Blk (w.setCell p u) g T cs := (Below.heap_setCell w p u g hp).trans h
theorem ZBlk.iz {w : World} {g : Nat} {xs : List Int} (h : ZBlk w g xs) : IZ w (some ⟨g, 0, none⟩) xs := fun i x hx => ⟨g, 0, rfl, by rw [Nat.zero_add, Blk.cell h]; simp [hx]⟩
end Go.Proofs.Ytkecdjdggkpdpab
