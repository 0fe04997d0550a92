/- Js -/
import Derived.Test.YtkecdjdggkpdpabQJm
import Derived.Deep.RegionLaw
import Derived.Deep.CutRange
set_option linter.unusedVariables false
/- Lists of ints that are own, or a literal without elements: append, in order and in a region that draws. -/
namespace Go.Proofs.Ytkecdjdggkpdpab
open Go Go.RowKit Go.Proofs

/-- An own list of ints, or a literal without elements. -/
def ZE (w : World) (base : Nat) (v : Value) (xs : List Int) : Prop := ZI w base v xs ∨ (xs = [] ∧ ∃ g, v = .slice (some ⟨g, 0, none⟩) 0 0)
theorem ZE.lit (w : World) (base g : Nat) : ZE w base (.slice (some ⟨g, 0, none⟩) 0 0) [] := .inr ⟨rfl, g, rfl⟩
theorem ZE.nil (w : World) (base : Nat) : ZE w base (.slice none 0 0) [] := .inl (ZI.nil w base)
theorem ZE.shape {w : World} {base : Nat} {v : Value} {xs : List Int} (h : ZE w base v xs) : ∃ ao c, v = .slice ao xs.length c := by
  rcases h with h | ⟨rfl, g, rfl⟩
  · exact h.shape
  · exact ⟨_, _, rfl⟩
theorem ZE.iz {w : World} {base n c : Nat} {ao : Option Addr} {xs : List Int} (h : ZE w base (.slice ao n c) xs) : IZ w ao xs ∧ n ≤ c := by
  rcases h with h | ⟨rfl, g, h⟩
  · exact h.iz
  · injection h with h1 h2 h3
    subst h2 h3
    exact ⟨IZ.nil _ _, Nat.le_refl _⟩
theorem ZE.below {w w' : World} {base : Nat} {v : Value} {xs : List Int} (h : ZE w base v xs) (hb : Below w.heap.size w w') : ZE w' base v xs := by
  rcases h with h | h
  · exact .inl (h.below hb)
  · exact .inr h
theorem ZE.mono {w : World} {base base' : Nat} {v : Value} {xs : List Int} (h : ZE w base v xs) (hb : base' ≤ base) : ZE w base' v xs := by
  rcases h with h | h
  · refine .inl ⟨h.1, ?_⟩
    rcases h.2 with h' | ⟨g', cap', cur, hv, h1, hg, h2⟩
    · exact .inl h'
    · exact .inr ⟨g', cap', cur, hv, by omega, hg, h2⟩
  · exact .inr h
/-- What one append does. -/
def AppZ (w : World) (base : Nat) (v : Value) (zs : List Int) (v' : Value) (w' : World) : Prop :=
  ZE w' base v' zs ∧ Below base w w' ∧ (v'.ownBlock = v.ownBlock ∨ v'.ownBlock = some w.heap.size) ∧ (v' = .slice none 0 0 → zs = []) ∧ w.grownBy w' v.ownBlock
set_option maxRecDepth 100000 in
theorem run_append_ze (w : World) (base : Nat) (t ty : TypeId) (ht : Try.prog.underlying t = some (.slice 3)) (v : Value) (xs : List Int) (hv : ZE w base v xs) (ad : Option Addr) (m c : Nat) (ys : List Int) (hy : IZ w ad ys) (hm : ys.length = m) (hb : xs.length ≤ 1000000000000) (hbm : m ≤ 1000000000000) (hbs : base ≤ w.heap.size) :
    ∃ v' w', (Builtin.append_ #[t, t] ty #[v, .slice ad m c]).run Try.prog w = .ok v' w' ∧ AppZ w base v (xs ++ ys) v' w' := by
  obtain ⟨i, h2, h3, h4, h5⟩ := info_parts info_intJ
  subst hm
  rcases ad with _ | ad
  · have he : ys = [] := by
      rcases ys with _ | ⟨y, ys⟩
      · rfl
      · obtain ⟨b, o', ha, _⟩ := hy 0 y rfl
        cases ha
    subst he
    rw [List.append_nil]
    refine ⟨v, w, ?_, hv, (Below.refl _ _).mono hbs, .inl rfl, fun h => ?_, ⟨rfl, rfl, rfl, Nat.le_refl _, fun _ _ _ => rfl⟩⟩
    · rcases hv with hv | ⟨rfl, g, rfl⟩
      · exact run_append_nothing ht h2 hv c
      · simp [Builtin.append_, run_underlying ht, sizeOf, typeInfo, h2, Builtin.lenOf, Builtin.firstCells, storeCells, Result.andThen]
    · rcases hv with hv | ⟨rfl, _⟩
      · have := hv.shape
        obtain ⟨ao, c', e⟩ := this
        rw [h] at e
        injection e with e1 e2 e3
        exact List.length_eq_zero_iff.1 e2.symm
      · rfl
  · have hnews : ∀ (j : Nat) (u : Value), (ys.map fun y : Int => Value.int .i64 y)[j]? = some u → w.cell? (ad.add j) = some u := by
      intro j u hu
      rw [List.getElem?_map] at hu
      obtain ⟨y, hy', rfl⟩ := Option.map_eq_some_iff.1 hu
      obtain ⟨b, o', hae, hc⟩ := hy j y hy'
      injection hae with hae
      subst hae
      rw [Addr.add_lit]
      exact hc
    have hone : ∀ u ∈ (ys.map fun y : Int => Value.int .i64 y), u.oneCell' = true := by
      intro u hu
      obtain ⟨y, _, rfl⟩ := List.mem_map.1 hu
      rfl
    rcases hv with hv | ⟨rfl, g, rfl⟩
    · obtain ⟨v', w', hr, h6, h7, h8, h9⟩ := run_append_own_at (P := Try.prog) w base t ty 3 i _ 1 8 ht h2 h3 h4 h5 rfl (by omega) v xs.length _ hv ad ys.length c _ (by simp) hnews hone (by unfold maxLen; omega) (by omega) hbs
      refine ⟨v', w', hr, .inl ?_, ((Below.refl _ _).mono hbs).grown h7 hbs (fun k hk => (hv.lt k hk).1), h9, fun h => ?_, h7⟩
      · unfold ZI
        rw [List.map_append, List.length_append]; exact h6
      · obtain ⟨e1, e2⟩ := h8.1 h
        have : xs = [] := by
          obtain ⟨ao, c', e⟩ := hv.shape
          rw [e1] at e
          injection e with e1 e2 e3
          exact List.length_eq_zero_iff.1 e2.symm
        rw [this, List.length_eq_zero_iff.1 e2]; rfl
    · rcases Nat.eq_zero_or_pos ys.length with h0 | h0
      · have he := List.length_eq_zero_iff.1 h0
        subst he
        refine ⟨.slice (some ⟨g, 0, none⟩) 0 0, w, ?_, .inr ⟨rfl, g, rfl⟩, (Below.refl _ _).mono hbs, .inl rfl, fun _ => rfl, ⟨rfl, rfl, rfl, Nat.le_refl _, fun _ _ _ => rfl⟩⟩
        simp [Builtin.append_, run_underlying ht, sizeOf, typeInfo, h2, Builtin.lenOf, Builtin.firstCells, storeCells, loadCells, loadCellsFrom, Result.andThen]
      · have hr1 := run_append_grow (P := Try.prog) w t ty 3 i _ ht h2 h3 ⟨g, 0, none⟩ 0 0 [] (by simp) (fun j u h => by simp at h) ad ys.length c _ (by rw [h4]; simp) hnews (by omega) (by omega) (growslice_fits (by omega) (by rw [h5]; omega))
        have hr2 := run_append_nil (P := Try.prog) w t ty 3 i _ ht h2 h3 ad ys.length c _ (by rw [h4]; simp) hnews h0 (by omega) (by rw [h5]; omega)
        obtain ⟨v', w', hr, h6, h7, _, h9⟩ := run_append_own_at (P := Try.prog) w base t ty 3 i _ 1 8 ht h2 h3 h4 h5 rfl (by omega) (.slice none 0 0) 0 [] (World.ownsRow_nil _ _ _ _) ad ys.length c _ (by simp) hnews hone (by unfold maxLen; omega) (by omega) hbs
        rw [hr2] at hr
        injection hr with e1 e2
        refine ⟨_, _, hr1, ?_⟩
        have ew : ([] : List Value).toArray ++ (ys.map fun y : Int => Value.int .i64 y).toArray = (ys.map fun y : Int => Value.int .i64 y).toArray := by simp
        rw [ew]
        simp only [Nat.zero_add]
        rw [e1, e2]
        refine ⟨.inl ?_, ((Below.refl _ _).mono hbs).grown h7 hbs (fun k hk => by simp [Value.ownBlock] at hk), ?_, fun h => ?_, ⟨h7.os, h7.tape, h7.output, h7.size, fun k hk _ => h7.block k hk (by simp [Value.ownBlock])⟩⟩
        · unfold ZI
          rw [List.nil_append, Nat.zero_add] at h6
          rw [List.nil_append]; exact h6
        · rcases h9 with h9 | h9
          · rw [← e1] at h9
            simp [Value.ownBlock] at h9
          · exact .inr h9
        · rw [← e1] at h; cases h
/-- 'append(l, x..)' on such a list. -/
theorem wpList_append_ze (w : World) {ops : Array Oper} {rest : List Oper} {o : Oper} {a : Act} {Q : Exit → Act → World → Prop} (hgd : o.guard = none) (s x : Operand) (t : TypeId)
    (ho : o.op = .call { callee := .builtin .append, args := #[s, x], argTypes := #[t, t] }) (ht : Try.prog.underlying t = some (.slice 3)) (base n : Nat) (v : Value) (xs : List Int) (hs : a.eval s = v) (hv : ZE w base v xs) (hn : xs.length = n)
    (ad : Option Addr) (m c : Nat) (ys : List Int) (hx : a.eval x = .slice ad m c) (hy : IZ w ad ys) (hm : ys.length = m) (hb : n ≤ 1000000000000) (hbm : m ≤ 1000000000000) (hbs : base ≤ w.heap.size)
    (hK : ∀ v' w', AppZ w base v (xs ++ ys) v' w' → wpList Try.prog ops Q rest (a.put o.dst v') w') : wpList Try.prog ops Q (o :: rest) a w := by
  refine wpList_plain hgd fun K hK' => ?_
  obtain ⟨v', w', hr, h⟩ := run_append_ze w base t o.type ht v xs hv ad m c ys hy hm (by omega) hbm hbs
  unfold Oper.wp execOp
  simp only [ho, resolve, invoke, builtin, Sem.run_bind, Sem.run_pure, Result.andThen_ok, List.map_toArray, List.map_cons, List.map_nil, hs, hx, hr]
  exact hK' _ _ (hK v' w' h)
theorem step_append_ze {ops : Array Oper} {o : Oper} {a : Act} {w : World} {K : Act → World → Prop} {Q : Exit → Act → World → Prop} {E : Prop} (hgd : o.guard = none) (s x : Operand) (t : TypeId)
    (ho : o.op = .call { callee := .builtin .append, args := #[s, x], argTypes := #[t, t] }) (ht : Try.prog.underlying t = some (.slice 3)) (base n : Nat) (v : Value) (xs : List Int) (hs : a.eval s = v) (hv : ZE w base v xs) (hn : xs.length = n)
    (ad : Option Addr) (m c : Nat) (ys : List Int) (hx : a.eval x = .slice ad m c) (hy : IZ w ad ys) (hm : ys.length = m) (hb : n ≤ 1000000000000) (hbm : m ≤ 1000000000000) (hbs : base ≤ w.heap.size)
    (hK : ∀ v' w', AppZ w base v (xs ++ ys) v' w' → K (a.put o.dst v') w') :
    if Region.wanted o (yielded ops a.tmps) = true then Oper.wp Try.prog o a w K Q else E := by
  have hw : Region.wanted o (yielded ops a.tmps) = true := by simp [Region.wanted, hgd]
  rw [if_pos hw]
  obtain ⟨v', w', hr, h⟩ := run_append_ze w base t o.type ht v xs hv ad m c ys hy hm (by omega) hbm hbs
  unfold Oper.wp execOp
  simp only [ho, resolve, invoke, builtin, Sem.run_bind, Sem.run_pure, Result.andThen_ok, List.map_toArray, List.map_cons, List.map_nil, hs, hx, hr]
  exact hK v' w' h
theorem below_al {w W : World} (h : Below w.heap.size w W) (o : Obj) : Below w.heap.size w (W.alloc o) := h.alloc h.size _
theorem IZ.one {w : World} {g : Nat} {z : Int} (c0 : w.cell? ⟨g, 0, none⟩ = some (.int .i64 z)) : IZ w (some ⟨g, 0, none⟩) [z] := fun i y hy => by
  rcases i with _ | i
  · simp at hy; subst hy; exact ⟨g, 0, rfl, c0⟩
  · simp at hy
/-- Below a block, all is as it was: slices too. -/
theorem IZ.app {w w' : World} {base : Nat} {v v' : Value} {zs : List Int} {ao : Option Addr} {xs : List Int} (h : IZ w ao xs) (ha : AppZ w base v zs v' w') (hb : w.heap.size ≤ base) : IZ w' ao xs := h.upto ha.2.1 hb
theorem ZE.some {w : World} {base : Nat} {v : Value} {xs : List Int} (h : ZE w base v xs) (hne : xs ≠ []) : ∃ g c, v = .slice (some ⟨g, 0, none⟩) xs.length c := by
  rcases h with h | ⟨h, _⟩
  · rcases h.2 with ⟨_, h2⟩ | ⟨g', cap', cur, hv, _⟩
    · exact absurd (List.length_eq_zero_iff.1 h2) hne
    · exact ⟨g', cap', hv⟩
  · exact absurd h hne
theorem AppZ.cell {w w' : World} {base : Nat} {v v' : Value} {zs : List Int} (h : AppZ w base v zs v' w') {b o : Nat} (hb : b < w.heap.size) (hne : some b ≠ v.ownBlock) : w'.cell? ⟨b, o, none⟩ = w.cell? ⟨b, o, none⟩ :=
  World.cell?_of_block (w := w) (a := ⟨b, o, none⟩) (h.2.2.2.2.block b hb hne)
theorem AppZ.size {w w' : World} {base : Nat} {v v' : Value} {zs : List Int} (h : AppZ w base v zs v' w') : w.heap.size ≤ w'.heap.size := h.2.2.2.2.size
/-- A slice against nil. -/
theorem eql_nil0 (W : World) : (binOp .eql 25 (.slice none 0 0) (.slice none 0 0)).run Try.prog W = .ok (.bool true) W := Lib.run_eql_slice_nil W _ _ none 0 0 0 0 Try.underlying25
theorem eql_nil1 (W : World) (a : Addr) (n c : Nat) : (binOp .eql 25 (.slice (some a) n c) (.slice none 0 0)).run Try.prog W = .ok (.bool false) W := Lib.run_eql_slice_nil W _ _ (some a) n c 0 0 Try.underlying25
theorem neq_nil0 (W : World) : (binOp .neq 25 (.slice none 0 0) (.slice none 0 0)).run Try.prog W = .ok (.bool false) W := run_neq_slice_nil_any W _ _ none 0 0 0 0 Try.underlying25
theorem neq_nil1 (W : World) (a : Addr) (n c : Nat) : (binOp .neq 25 (.slice (some a) n c) (.slice none 0 0)).run Try.prog W = .ok (.bool true) W := run_neq_slice_nil_any W _ _ (some a) n c 0 0 Try.underlying25
end Go.Proofs.Ytkecdjdggkpdpab
