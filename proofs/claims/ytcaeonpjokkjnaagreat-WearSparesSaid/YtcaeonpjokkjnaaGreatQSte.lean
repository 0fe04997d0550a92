/- Ste -/
import Derived.Test.YtcaeonpjokkjnaaGreatQWj
import Derived.Test.YtcaeonpjokkjnaaGreatQWp
set_option linter.unusedVariables false
/- Four cells that stand; appending a lowered fraction as one step of a region that draws its order. -/
namespace Go.Proofs.YtcaeonpjokkjnaaGreat
open Go Go.RowKit Go.Proofs

abbrev C4 (w : World) (b o : Nat) (v0 v1 v2 v3 : Value) : Prop :=
  w.cell? ⟨b, o, none⟩ = some v0 ∧ w.cell? ⟨b, o + 1, none⟩ = some v1 ∧ w.cell? ⟨b, o + 2, none⟩ = some v2 ∧ w.cell? ⟨b, o + 3, none⟩ = some v3
theorem C4.up {w w' : World} {b o : Nat} {v0 v1 v2 v3 : Value} (h : C4 w b o v0 v1 v2 v3) (hb : Below w.heap.size w w') : C4 w' b o v0 v1 v2 v3 :=
  ⟨Below.cellAt hb (Nat.le_refl _) h.1, Below.cellAt hb (Nat.le_refl _) h.2.1, Below.cellAt hb (Nat.le_refl _) h.2.2.1, Below.cellAt hb (Nat.le_refl _) h.2.2.2⟩
theorem C4.al {w : World} {b o : Nat} {v0 v1 v2 v3 : Value} (h : C4 w b o v0 v1 v2 v3) (ob : Obj) : C4 (w.alloc ob) b o v0 v1 v2 v3 := h.up ((Below.refl _ _).alloc (Nat.le_refl _) _)
theorem C4.drew {w : World} {b o : Nat} {v0 v1 v2 v3 : Value} (h : C4 w b o v0 v1 v2 v3) : C4 w.drew b o v0 v1 v2 v3 := h.up (Below.refl _ _).drew
theorem C4.grown {w w' : World} {b o : Nat} {v0 v1 v2 v3 v : Value} (h : C4 w b o v0 v1 v2 v3) (hg : w.grownBy w' v.ownBlock) (hne : ∀ k, v.ownBlock = some k → b ≠ k) : C4 w' b o v0 v1 v2 v3 :=
  ⟨cell_grown hg h.1 hne, cell_grown hg h.2.1 hne, cell_grown hg h.2.2.1 hne, cell_grown hg h.2.2.2 hne⟩

theorem step_append_q {ops : Array Oper} {o : Oper} {a : Act} {w : World} {K : Act → World → Prop} {Q : Exit → Act → World → Prop} {E : Prop} (hg : o.guard = none) (s x : Operand) (t : TypeId)
    (ho : o.op = .call { callee := .builtin .append, args := #[s, x], argTypes := #[t, t] }) (ht : Tryz.prog.underlying t = some (.slice 46)) (base n : Nat) (v : Value) (qs : List Rat) (q : Rat) (p : RP) (hs : a.eval s = v) (hv : ZV w base v qs)
    (hn : qs.length = n) (g0 : Nat) (hx : a.eval x = .slice (some ⟨g0, 0, none⟩) 1 1) (hb : n ≤ 1000000000000) (hbs : base ≤ w.heap.size)
    (c0 : w.cell? ⟨g0, 0, none⟩ = some (.bool (ng (rn q)))) (c1 : w.cell? ⟨g0, 1, none⟩ = some (.slice p.a (LZ (rn q)) p.c)) (c2 : w.cell? ⟨g0, 2, none⟩ = some (.bool (ng (rd q)))) (c3 : w.cell? ⟨g0, 3, none⟩ = some (.slice p.a' (LZ (rd q)) p.c'))
    (hm : ZRp w p q)
    (hK : ∀ v' w', ZV w' base v' (qs ++ [q]) → w.grownBy w' v.ownBlock → K (a.put o.dst v') w') :
    if Region.wanted o (yielded ops a.tmps) = true then Oper.wp Tryz.prog o a w K Q else E := by
  obtain ⟨l, hl, hown, hno, hms⟩ := hv
  obtain ⟨i, h2, h3, h4, h5⟩ := info_parts info_q
  subst hn
  refine step_append_noint hg s x t ho base 46 i _ 4 64 ht h2 h3 h4 h5 rfl (by omega) v qs.length (allZ l) hs hown ⟨g0, 0, none⟩ 1 1 (zCells q p) hx rfl ?_ ?_ (by unfold maxLen; omega) (by omega) hbs (by omega) hno ?_ ?_ ?_
  · intro j u hu
    rw [Addr.add_lit, Nat.zero_add]
    rcases j with _ | _ | _ | _ | j
    · rw [c0]; exact hu
    · rw [c1]; exact hu
    · rw [c2]; exact hu
    · rw [c3]; exact hu
    · simp [zCells] at hu
  · intro u hu
    simp [zCells] at hu
    rcases hu with rfl | rfl | rfl | rfl <;> rfl
  · intro u hu k z
    simp [zCells] at hu
    rcases hu with rfl | rfl | rfl | rfl <;> simp
  · intro u hu k z
    simp [Value.cells] at hu
    rcases hu with rfl | rfl | rfl | rfl <;> simp
  · intro v' w' ho' hg' hn'
    refine hK v' w' ⟨l ++ [(q, p)], by simp [hl], ?_, hn', ?_⟩ hg'
    · rw [allZ_snoc, List.length_append]; exact ho'
    · intro y hy
      rcases List.mem_append.1 hy with hy | hy
      · exact (hms y hy).grown hg' hno
      · rw [List.mem_singleton.1 hy]; exact hm.grown hg' hno

end Go.Proofs.YtcaeonpjokkjnaaGreat
