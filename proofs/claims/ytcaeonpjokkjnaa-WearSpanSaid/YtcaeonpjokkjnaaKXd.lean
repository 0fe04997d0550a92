/- Ym Ste Yo -/
import Derived.Test.YtcaeonpjokkjnaaQYj
import Derived.Test.YtcaeonpjokkjnaaKXa
import Derived.Test.YtcaeonpjokkjnaaQWj
import Derived.Test.YtcaeonpjokkjnaaQWs
import Derived.Test.YtcaeonpjokkjnaaQWp
import Derived.Test.YtcaeonpjokkjnaaKXb
import Derived.Deep.RegionHeld3
set_option linter.unusedVariables false
/- Walk of the reference: Mean. -/
namespace Go.Proofs.Ytcaeonpjokkjnaa
open Go Go.RowKit Go.Proofs

/-- The numbers j times p(j). -/
def wL (ps : List Rat) : List Rat := (List.range ps.length).map fun i => (((i + 1 : Nat) : Int) : Rat) * nth ps i
theorem wL_next {ps : List Rat} {k : Nat} {q : Rat} (hq : ps[k]? = some q) : psum (wL ps) k + (((k + 1 : Nat) : Int) : Rat) * q = psum (wL ps) (k + 1) :=
  psum_next _ _ _ (by
    unfold wL
    rw [List.getElem?_map, List.getElem?_range (List.getElem?_eq_some_iff.1 hq).1]
    unfold nth
    rw [Option.map_some, hq]; rfl)
theorem divInt_one (z : Int) : Rat.divInt z 1 = (z : Rat) := by
  rw [← Rat.num_divInt_den (z : Rat)]
  simp
theorem PQ.whole (k : Nat) (h : k ≤ 1000) : PQ ((k : Nat) : Int) 1 (((k : Nat) : Int) : Rat) 1 := by
  refine ⟨by decide, divInt_one _, ?_, L_12.1⟩
  show L B4 k ≤ 1
  exact L_le_of_lt two_le_B4 1 k (by unfold B4; omega)
theorem whole_z (n : Nat) (z : Int) (hz : ((n : Nat) : Int) = z) (w : World) (hn : n ≤ 4611686018427387904) : Calls Try.prog 15 #[.int .i64 z] w (RetQ w z 1) := by subst hz; exact wholeq_any n w hn

/-- The sum of the chances to last longer is the sum of j times p(j). -/
theorem wsum_step (ps : List Rat) : ∀ k, k ≤ ps.length → psum (wL ps) k = psum (aboveL ps) k - (((k : Nat) : Int) : Rat) * left ps k
  | 0, _ => by simp [psum]; grind
  | k + 1, h => by
    have ih := wsum_step ps k (by omega)
    obtain ⟨q, hq⟩ : ∃ q, ps[k]? = some q := ⟨_, List.getElem?_eq_getElem (by omega)⟩
    have h1 := wL_next hq
    have h2 := above_next (ps := ps) (k := k) (by omega)
    have h3 := psum_next ps k q hq
    unfold left at h2 ih ⊢
    have h4 : (((k + 1 : Nat) : Int) : Rat) = ((k : Nat) : Int) + (1 : Rat) := by rw [Int.natCast_add, Rat.intCast_add]; rfl
    rw [h4] at h1 ⊢
    grind
theorem wsum_mean {ps : List Rat} (h : ps.sum = 1) : psum (wL ps) ps.length = meanQ ps := by
  have h1 := wsum_step ps ps.length (Nat.le_refl _)
  have h2 : left ps ps.length = 0 := by
    unfold left psum
    rw [List.take_of_length_le (Nat.le_refl _), h]; grind
  have h3 : psum (aboveL ps) ps.length = meanQ ps := by
    unfold psum meanQ
    rw [List.take_of_length_le (by rw [aboveL_length]; exact Nat.le_refl _)]
  rw [h2, h3] at h1
  rw [h1]
  grind

def RetMeanQ (w : World) (q : Rat) (s : Nat) (e : Ending) (w' : World) : Prop :=
  ∃ a c a' c', e = .returned (.tuple #[.agg #[.bool (ng (rn q)), .slice a (LZ (rn q)) c, .bool (ng (rd q)), .slice a' (LZ (rd q)) c'], .int .i64 (s : Nat)]) ∧ QM w' a c a' c' (rn q) (rd q) ∧ Below w.heap.size w w'

end Go.Proofs.Ytcaeonpjokkjnaa

/- Four cells that stand; appending a lowered fraction as one step of a region that draws its order. -/
namespace Go.Proofs.Ytcaeonpjokkjnaa
open Go Go.RowKit Go.Proofs

abbrev C4 (w : World) (b o : Nat) (v0 v1 v2 v3 : Value) : Prop :=
  w.cell? ⟨b, o, none⟩ = some v0 ∧ w.cell? ⟨b, o + 1, none⟩ = some v1 ∧ w.cell? ⟨b, o + 2, none⟩ = some v2 ∧ w.cell? ⟨b, o + 3, none⟩ = some v3
theorem C4.up {w w' : World} {b o : Nat} {v0 v1 v2 v3 : Value} (h : C4 w b o v0 v1 v2 v3) (hb : Below w.heap.size w w') : C4 w' b o v0 v1 v2 v3 :=
  ⟨Below.cellAt hb (Nat.le_refl _) h.1, Below.cellAt hb (Nat.le_refl _) h.2.1, Below.cellAt hb (Nat.le_refl _) h.2.2.1, Below.cellAt hb (Nat.le_refl _) h.2.2.2⟩
theorem C4.al {w : World} {b o : Nat} {v0 v1 v2 v3 : Value} (h : C4 w b o v0 v1 v2 v3) (ob : Obj) : C4 (w.alloc ob) b o v0 v1 v2 v3 := h.up ((Below.refl _ _).alloc (Nat.le_refl _) _)
theorem C4.drew {w : World} {b o : Nat} {v0 v1 v2 v3 : Value} (h : C4 w b o v0 v1 v2 v3) : C4 w.drew b o v0 v1 v2 v3 := h.up (Below.refl _ _).drew
theorem C4.grown {w w' : World} {b o : Nat} {v0 v1 v2 v3 v : Value} (h : C4 w b o v0 v1 v2 v3) (hg : w.grownBy w' v.ownBlock) (hne : ∀ k, v.ownBlock = some k → b ≠ k) : C4 w' b o v0 v1 v2 v3 :=
  ⟨cell_grown hg h.1 hne, cell_grown hg h.2.1 hne, cell_grown hg h.2.2.1 hne, cell_grown hg h.2.2.2 hne⟩

theorem step_append_q {ops : Array Oper} {o : Oper} {a : Act} {w : World} {K : Act → World → Prop} {Q : Exit → Act → World → Prop} {E : Prop} (hg : o.guard = none) (s x : Operand) (t : TypeId)
    (ho : o.op = .call { callee := .builtin .append, args := #[s, x], argTypes := #[t, t] }) (ht : Try.prog.underlying t = some (.slice 37)) (base n : Nat) (v : Value) (qs : List Rat) (q : Rat) (p : RP) (hs : a.eval s = v) (hv : ZV w base v qs)
    (hn : qs.length = n) (g0 : Nat) (hx : a.eval x = .slice (some ⟨g0, 0, none⟩) 1 1) (hb : n ≤ 1000000000000) (hbs : base ≤ w.heap.size)
    (c0 : w.cell? ⟨g0, 0, none⟩ = some (.bool (ng (rn q)))) (c1 : w.cell? ⟨g0, 1, none⟩ = some (.slice p.a (LZ (rn q)) p.c)) (c2 : w.cell? ⟨g0, 2, none⟩ = some (.bool (ng (rd q)))) (c3 : w.cell? ⟨g0, 3, none⟩ = some (.slice p.a' (LZ (rd q)) p.c'))
    (hm : ZRp w p q)
    (hK : ∀ v' w', ZV w' base v' (qs ++ [q]) → w.grownBy w' v.ownBlock → K (a.put o.dst v') w') :
    if Region.wanted o (yielded ops a.tmps) = true then Oper.wp Try.prog o a w K Q else E := by
  obtain ⟨l, hl, hown, hno, hms⟩ := hv
  obtain ⟨i, h2, h3, h4, h5⟩ := info_parts info_q
  subst hn
  refine step_append_noint hg s x t ho base 37 i _ 4 64 ht h2 h3 h4 h5 rfl (by omega) v qs.length (allZ l) hs hown ⟨g0, 0, none⟩ 1 1 (zCells q p) hx rfl ?_ ?_ (by unfold maxLen; omega) (by omega) hbs (by omega) hno ?_ ?_ ?_
  · intro j u hu
    rw [Addr.add_lit, Nat.zero_add]
    rcases j with _ | _ | _ | _ | j
    · rw [c0]; exact hu
    · rw [c1]; exact hu
    · rw [c2]; exact hu
    · rw [c3]; exact hu
    · simp [zCells] at hu
  · intro u hu
    simp [zCells] at hu
    rcases hu with rfl | rfl | rfl | rfl <;> rfl
  · intro u hu k z
    simp [zCells] at hu
    rcases hu with rfl | rfl | rfl | rfl <;> simp
  · intro u hu k z
    simp [Value.cells] at hu
    rcases hu with rfl | rfl | rfl | rfl <;> simp
  · intro v' w' ho' hg' hn'
    refine hK v' w' ⟨l ++ [(q, p)], by simp [hl], ?_, hn', ?_⟩ hg'
    · rw [allZ_snoc, List.length_append]; exact ho'
    · intro y hy
      rcases List.mem_append.1 hy with hy | hy
      · exact (hms y hy).grown hg' hno
      · rw [List.mem_singleton.1 hy]; exact hm.grown hg' hno

end Go.Proofs.Ytcaeonpjokkjnaa

/- Walks of the reference: Ages, Hazards. -/
namespace Go.Proofs.Ytcaeonpjokkjnaa
open Go Go.RowKit Go.Proofs

theorem take_next {l : List Rat} {k : Nat} {q : Rat} (h : l[k]? = some q) : l.take k ++ [q] = l.take (k + 1) := by
  rw [List.take_add_one, h]; rfl
theorem PQ.z1 {n d : Int} {q : Rat} {B : Nat} (h : PQ n d q B) (hB : B ≤ 1000000 := by omega) : LZ n ≤ 1000000 := by
  have := h.2.2.1; omega
theorem PQ.z2 {n d : Int} {q : Rat} {B : Nat} (h : PQ n d q B) (hB : B ≤ 1000000 := by omega) : LZ d ≤ 1000000 := by
  have := h.2.2.2; omega

end Go.Proofs.Ytcaeonpjokkjnaa
