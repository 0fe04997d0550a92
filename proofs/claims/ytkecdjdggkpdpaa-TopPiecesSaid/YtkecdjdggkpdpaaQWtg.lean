/- Wtg -/
import Derived.Test.YtkecdjdggkpdpaaQWb
import Derived.Test.YtkecdjdggkpdpaaQUs
import Derived.OneCell
set_option linter.unusedVariables false
/- The frame of the law TopPieces' walk: five own lists beside each other; rows of small numbers; the table of costs. -/
namespace Go.Proofs.Ytkecdjdggkpdpaa
open Go Go.RowKit Go.Proofs

/-- The five lists, all of the call's own. -/
structure FV (w0 w : World) (vf vg vp vs vl : Value) (F : List Int) (R : List Value) (C : List (List Int)) (P : List Int) (S : List (Nat × Nat)) (L : List Int) : Prop where
  five : Five w w0.heap.size vf vg vp vs vl F R C P S L
  rr : ∀ r ∈ R, ∀ k, r.ownBlock = some k → k < w.heap.size
  bl : Below w0.heap.size w0 w
section
variable {w0 w w' : World} {vf vg vp vs vl v' : Value} {F : List Int} {R : List Value} {C : List (List Int)} {P : List Int} {S : List (Nat × Nat)} {L : List Int}
theorem FV.below (h : FV w0 w vf vg vp vs vl F R C P S L) (hb : Below w.heap.size w w') : FV w0 w' vf vg vp vs vl F R C P S L :=
  ⟨h.five.below hb, fun r hr k hk => Nat.lt_of_lt_of_le (h.rr r hr k hk) hb.size, h.bl.trans (hb.mono h.bl.size)⟩
theorem FV.al (h : FV w0 w vf vg vp vs vl F R C P S L) (o : Obj) : FV w0 (w.alloc o) vf vg vp vs vl F R C P S L := h.below (below_al (Below.refl _ _) o)
theorem FV.fresh (h : FV w0 w vf vg vp vs vl F R C P S L) : FV w0 (w.alloc (.cells #[] 3)) vf vg vp vs (.slice (some ⟨w.heap.size, 0, none⟩) 0 0) F R C P S [] :=
  ⟨h.five.fresh h.rr h.bl.size, (h.al _).rr, (h.al _).bl⟩
theorem FV.putP {P' : List Int} (h : FV w0 w vf vg vp vs vl F R C P S L) (hZ : ZI w' w0.heap.size v' P') (hg : w.grownBy w' vp.ownBlock) (ho : v'.ownBlock = vp.ownBlock ∨ v'.ownBlock = some w.heap.size) : FV w0 w' vf vg v' vs vl F R C P' S L :=
  ⟨h.five.putP h.rr hZ hg ho, fun r hr k hk => Nat.lt_of_lt_of_le (h.rr r hr k hk) hg.size, h.bl.grown hg h.bl.size fun k hk => (World.ownsRow.lt h.five.p k hk).1⟩
theorem FV.putF {F' : List Int} (h : FV w0 w vf vg vp vs vl F R C P S L) (hZ : ZI w' w0.heap.size v' F') (hg : w.grownBy w' vf.ownBlock) (ho : v'.ownBlock = vf.ownBlock ∨ v'.ownBlock = some w.heap.size) : FV w0 w' v' vg vp vs vl F' R C P S L :=
  ⟨h.five.putF h.rr hZ hg ho, fun r hr k hk => Nat.lt_of_lt_of_le (h.rr r hr k hk) hg.size, h.bl.grown hg h.bl.size fun k hk => (World.ownsRow.lt h.five.f k hk).1⟩
theorem FV.putL {L' : List Int} (h : FV w0 w vf vg vp vs vl F R C P S L) (hZ : ZI w' w0.heap.size v' L') (hg : w.grownBy w' vl.ownBlock) (ho : v'.ownBlock = vl.ownBlock ∨ v'.ownBlock = some w.heap.size) : FV w0 w' vf vg vp vs v' F R C P S L' :=
  ⟨h.five.putL h.rr hZ hg ho, fun r hr k hk => Nat.lt_of_lt_of_le (h.rr r hr k hk) hg.size, h.bl.grown hg h.bl.size fun k hk => (World.ownsRow.lt h.five.l k hk).1⟩
theorem FV.putS {S' : List (Nat × Nat)} (h : FV w0 w vf vg vp vs vl F R C P S L) (hZ : SVW w' w0.heap.size v' S') (hg : w.grownBy w' vs.ownBlock) (ho : v'.ownBlock = vs.ownBlock ∨ v'.ownBlock = some w.heap.size) : FV w0 w' vf vg vp v' vl F R C P S' L :=
  ⟨h.five.putS h.rr hZ hg ho, fun r hr k hk => Nat.lt_of_lt_of_le (h.rr r hr k hk) hg.size, h.bl.grown hg h.bl.size fun k hk => (World.ownsRow.lt h.five.s k hk).1⟩
theorem FV.rowL (h : FV w0 w vf vg vp vs vl F R C P S L) : RowV w vl L := by
  obtain ⟨a, c, e⟩ := h.five.l.shape
  have h1 := h.five.l
  rw [e] at h1 ⊢
  exact ⟨a, c, rfl, (ZI.iz h1).2, (ZI.iz h1).1⟩
theorem FV.putG (h : FV w0 w vf vg vp vs vl F R C P S L) (hO : w'.ownsRow w0.heap.size 24 1 v' (C ++ [L]).length (R ++ [vl])) (hg : w.grownBy w' vg.ownBlock) (ho : v'.ownBlock = vg.ownBlock ∨ v'.ownBlock = some w.heap.size) : FV w0 w' vf v' vp vs (.slice none 0 0) F (R ++ [vl]) (C ++ [L]) P S [] := by
  refine ⟨h.five.putG h.rr hO hg ho h.rowL, fun r hr k hk => ?_, h.bl.grown hg h.bl.size fun k hk => (World.ownsRow.lt h.five.g k hk).1⟩
  rcases List.mem_append.1 hr with h1 | h1
  · exact Nat.lt_of_lt_of_le (h.rr r h1 k hk) hg.size
  · rw [List.mem_singleton] at h1
    subst h1
    exact Nat.lt_of_lt_of_le (own_lt h.five.l k hk) hg.size
end
/-- The list of rows can be read. -/
theorem rows_imx {w : World} {base n c : Nat} {ao : Option Addr} {vs : List Value} {C : List (List Int)} (h1 : w.ownsRow base 24 1 (.slice ao n c) C.length vs) (h3 : Rows2 w vs C) : IMx w ao C ∧ n ≤ c := by
  refine ⟨⟨vs, fun i v hv => ?_, h3⟩, ?_⟩
  · have hi : i < vs.length := (List.getElem?_eq_some_iff.1 hv).1
    have hl := h1.1
    rcases h1.2 with ⟨h4, h5⟩ | ⟨g', cap', cur, hv', _, hh, hn, _⟩
    · rw [h5] at hl; simp at hl; subst hl; simp at hi
    · injection hv' with e1 e2 e3
      refine ⟨g', 0, e1, ?_⟩
      have := World.ownsRow.cells h1 (g := g') (by rw [e1]; rfl) i v hv
      rwa [Addr.add_lit] at this
  · rcases h1.2 with ⟨h4, _⟩ | ⟨g', cap', cur, hv', _, hh, hn, _⟩
    · injection h4 with e1 e2 e3; omega
    · injection hv' with e1 e2 e3; omega
section
variable {ops : Array Oper} {rest : List Oper} {o : Oper} {a : Act} {Q : Exit → Act → World → Prop} {w0 : World} {vf vg vp vs vl : Value} {F : List Int} {R : List Value} {C : List (List Int)} {P : List Int} {S : List (Nat × Nat)} {L : List Int}
theorem fv_appP (w : World) (hg : o.guard = none) (s x : Operand) (t : TypeId) (ho : o.op = .call { callee := .builtin .append, args := #[s, x], argTypes := #[t, t] }) (ht : Try.prog.underlying t = some (.slice 3)) (T : FV w0 w vf vg vp vs vl F R C P S L) (n : Nat) (z : Int)
    (hs : a.eval s = vp) (hn : P.length = n) (g0 : Nat) (hx : a.eval x = .slice (some ⟨g0, 0, none⟩) 1 1) (hb : n ≤ 1000000000000) (c0 : w.cell? ⟨g0, 0, none⟩ = some (.int .i64 z))
    (hK : ∀ v' w', FV w0 w' vf vg v' vs vl F R C (P ++ [z]) S L → wpList Try.prog ops Q rest (a.put o.dst v') w') : wpList Try.prog ops Q (o :: rest) a w :=
  wpList_append_z w hg s x t ho ht w0.heap.size n vp P z hs T.five.p hn g0 hx hb T.bl.size c0 fun v' w' h1 h2 h3 => hK v' w' (T.putP h1 h2 h3)
theorem fv_appF (w : World) (hg : o.guard = none) (s x : Operand) (t : TypeId) (ho : o.op = .call { callee := .builtin .append, args := #[s, x], argTypes := #[t, t] }) (ht : Try.prog.underlying t = some (.slice 3)) (T : FV w0 w vf vg vp vs vl F R C P S L) (n : Nat) (z : Int)
    (hs : a.eval s = vf) (hn : F.length = n) (g0 : Nat) (hx : a.eval x = .slice (some ⟨g0, 0, none⟩) 1 1) (hb : n ≤ 1000000000000) (c0 : w.cell? ⟨g0, 0, none⟩ = some (.int .i64 z))
    (hK : ∀ v' w', FV w0 w' v' vg vp vs vl (F ++ [z]) R C P S L → wpList Try.prog ops Q rest (a.put o.dst v') w') : wpList Try.prog ops Q (o :: rest) a w :=
  wpList_append_z w hg s x t ho ht w0.heap.size n vf F z hs T.five.f hn g0 hx hb T.bl.size c0 fun v' w' h1 h2 h3 => hK v' w' (T.putF h1 h2 h3)
theorem fv_appL (w : World) (hg : o.guard = none) (s x : Operand) (t : TypeId) (ho : o.op = .call { callee := .builtin .append, args := #[s, x], argTypes := #[t, t] }) (ht : Try.prog.underlying t = some (.slice 3)) (T : FV w0 w vf vg vp vs vl F R C P S L) (n : Nat) (z : Int)
    (hs : a.eval s = vl) (hn : L.length = n) (g0 : Nat) (hx : a.eval x = .slice (some ⟨g0, 0, none⟩) 1 1) (hb : n ≤ 1000000000000) (c0 : w.cell? ⟨g0, 0, none⟩ = some (.int .i64 z))
    (hK : ∀ v' w', FV w0 w' vf vg vp vs v' F R C P S (L ++ [z]) → wpList Try.prog ops Q rest (a.put o.dst v') w') : wpList Try.prog ops Q (o :: rest) a w :=
  wpList_append_z w hg s x t ho ht w0.heap.size n vl L z hs T.five.l hn g0 hx hb T.bl.size c0 fun v' w' h1 h2 h3 => hK v' w' (T.putL h1 h2 h3)
theorem fv_appS (w : World) (hg : o.guard = none) (s x : Operand) (t : TypeId) (ho : o.op = .call { callee := .builtin .append, args := #[s, x], argTypes := #[t, t] }) (ht : Try.prog.underlying t = some (.slice 29)) (T : FV w0 w vf vg vp vs vl F R C P S L) (n p q : Nat)
    (hs : a.eval s = vs) (hn : S.length = n) (g0 : Nat) (hx : a.eval x = .slice (some ⟨g0, 0, none⟩) 1 1) (hb : n ≤ 1000000000000) (c0 : w.cell? ⟨g0, 0, none⟩ = some (.int .i64 (p : Nat))) (c1 : w.cell? ⟨g0, 1, none⟩ = some (.int .i64 (q : Nat)))
    (hK : ∀ v' w', FV w0 w' vf vg vp v' vl F R C P (S ++ [(p, q)]) L → wpList Try.prog ops Q rest (a.put o.dst v') w') : wpList Try.prog ops Q (o :: rest) a w :=
  wpList_append_sl w hg s x t ho ht w0.heap.size n vs S p q hs T.five.s hn g0 hx hb T.bl.size c0 c1 fun v' w' h1 h2 h3 => hK v' w' (T.putS h1 h2 h3)
theorem fv_appG (w : World) (hg : o.guard = none) (s x : Operand) (t : TypeId) (ho : o.op = .call { callee := .builtin .append, args := #[s, x], argTypes := #[t, t] }) (ht : Try.prog.underlying t = some (.slice 24)) {al : Option Addr} {k d : Nat} (T : FV w0 w vf vg vp vs (.slice al k d) F R C P S L) (n : Nat)
    (hs : a.eval s = vg) (hn : C.length = n) (g0 : Nat) (hx : a.eval x = .slice (some ⟨g0, 0, none⟩) 1 1) (hb : n ≤ 1000000000000) (c0 : w.cell? ⟨g0, 0, none⟩ = some (.slice al k d))
    (hK : ∀ v' w', FV w0 w' vf v' vp vs (.slice none 0 0) F (R ++ [.slice al k d]) (C ++ [L]) P S [] → wpList Try.prog ops Q rest (a.put o.dst v') w') : wpList Try.prog ops Q (o :: rest) a w :=
  wpList_append_rv w hg s x t ho ht w0.heap.size n vg R al k d hs (by rw [← hn]; exact T.five.g) g0 hx hb T.bl.size c0 fun v' w' h1 h2 h3 => hK v' w' (T.putG (by rw [List.length_append, List.length_singleton, hn]; exact h1) h2 h3)
end
/-- Rows of small numbers, as the law is given them. -/
def RowU (w : World) (v : Value) (xs : List Nat) : Prop := ∃ a c, v = .slice a xs.length c ∧ xs.length ≤ c ∧ Dg .u16 w a xs
def UMx (w : World) (ao : Option Addr) (G : List (List Nat)) : Prop := ∃ vs, Cells w ao vs ∧ vs.length = G.length ∧ ∀ (i : Nat) (v : Value) (xs : List Nat), vs[i]? = some v → G[i]? = some xs → RowU w v xs
theorem UMx.below {w w' : World} {ao : Option Addr} {G : List (List Nat)} (h : UMx w ao G) (hb : Below w.heap.size w w') : UMx w' ao G := by
  obtain ⟨vs, h1, h2, h3⟩ := h
  refine ⟨vs, h1.below hb, h2, fun i v xs hv hx => ?_⟩
  obtain ⟨a, c, e, h4, h5⟩ := h3 i v xs hv hx
  exact ⟨a, c, e, h4, h5.below hb⟩
theorem UMx.row {w : World} {ao : Option Addr} {G : List (List Nat)} (h : UMx w ao G) {i : Nat} {xs : List Nat} (hi : G[i]? = some xs) : ∃ b o a c, ao = some ⟨b, o, none⟩ ∧ w.cell? ⟨b, o + i, none⟩ = some (.slice a xs.length c) ∧ xs.length ≤ c ∧ Dg .u16 w a xs := by
  obtain ⟨vs, h1, h2, h3⟩ := h
  have hl := (List.getElem?_eq_some_iff.1 hi).1
  obtain ⟨v, hv⟩ : ∃ v, vs[i]? = some v := ⟨_, List.getElem?_eq_getElem (by omega)⟩
  obtain ⟨a, c, rfl, h4, h5⟩ := h3 i v xs hv hi
  obtain ⟨b, o, ha, hc⟩ := h1 i _ hv
  exact ⟨b, o, a, c, ha, hc, h4, h5⟩
/-- The table of costs. -/
def costRow (P : List Nat) (S : List (Nat × Nat)) (i m : Nat) : List Int := (List.range m).map fun j => 1000 - (gnW P S i j : Int)
def costTab (P : List Nat) (S : List (Nat × Nat)) (K m : Nat) : List (List Int) := (List.range m).map fun i => costRow P S i K
theorem costRow_len (P : List Nat) (S : List (Nat × Nat)) (i m : Nat) : (costRow P S i m).length = m := by unfold costRow; simp
theorem costTab_len (P : List Nat) (S : List (Nat × Nat)) (K m : Nat) : (costTab P S K m).length = m := by unfold costTab; simp
theorem costRow_next (P : List Nat) (S : List (Nat × Nat)) (i m : Nat) : costRow P S i (m + 1) = costRow P S i m ++ [1000 - (gnW P S i m : Int)] := by unfold costRow; rw [List.range_succ, List.map_append]; rfl
theorem costTab_next (P : List Nat) (S : List (Nat × Nat)) (K m : Nat) : costTab P S K (m + 1) = costTab P S K m ++ [costRow P S m K] := by unfold costTab; rw [List.range_succ, List.map_append]; rfl
theorem costTab_cst {P : List Nat} {S : List (Nat × Nat)} {K i j : Nat} (hi : i < K) (hj : j < K) : cst (costTab P S K K) i j = 1000 - (gnW P S i j : Int) := by
  unfold cst costTab
  rw [List.getElem?_map, List.getElem?_range hi]
  show at0 (costRow P S i K) j = _
  unfold at0 costRow
  rw [List.getElem?_map, List.getElem?_range hj]; rfl
theorem gn_le {P : List Nat} {S : List (Nat × Nat)} (hS : ∀ s ∈ S, s.2 ≤ 1000) (i j : Nat) : gnW P S i j ≤ 1000 := by
  unfold gnW
  split
  · rename_i a s h1 h2
    split
    · exact hS _ (List.mem_of_getElem? h2)
    · omega
  · omega
theorem costTab_good {P : List Nat} {S : List (Nat × Nat)} {K : Nat} (h1 : 1 ≤ K) (h8 : K ≤ 8) (hS : ∀ s ∈ S, s.2 ≤ 1000) : goodC (costTab P S K K) := by
  refine ⟨by rw [costTab_len]; exact h1, by rw [costTab_len]; exact h8, fun xs hx => ?_⟩
  obtain ⟨i, _, rfl⟩ := List.mem_map.1 hx
  refine ⟨by rw [costRow_len, costTab_len], fun x hx => ?_⟩
  obtain ⟨j, _, rfl⟩ := List.mem_map.1 hx
  have := gn_le (P := P) hS i j
  omega
theorem slots_le {gs : List (List Nat)} (h : okG gs) (m : Nat) : ∀ s ∈ slotsW (fnG gs) m, s.2 ≤ 1000 := by
  induction m with
  | zero => intro s hs; simp [slotsW] at hs
  | succ m ih =>
    intro s hs
    have hs' : s ∈ slotsW (fnG gs) m ++ (fnG gs m).map fun x => (m, x) := hs
    rcases List.mem_append.1 hs' with h1 | h1
    · exact ih s h1
    · obtain ⟨x, hx, rfl⟩ := List.mem_map.1 h1
      exact (h.at m).2 x hx
theorem repl_next (i : Nat) : List.replicate (i + 1) (0 : Int) = List.replicate i 0 ++ [0] := List.replicate_succ'
theorem okG.snoc {gs : List (List Nat)} {l : List Nat} (h : okG gs) (h1 : l.length ≤ 20) (h2 : ∀ x ∈ l, x ≤ 1000) : okG (gs ++ [l]) := fun r hr => by
  rcases List.mem_append.1 hr with h3 | h3
  · exact h r h3
  · rw [List.mem_singleton] at h3; subst h3; exact ⟨h1, h2⟩
theorem fallG_snoc {gs : List (List Nat)} {l : List Nat} (h : ∀ k, Fall (fnG gs k)) (hl : Fall l) : ∀ k, Fall (fnG (gs ++ [l]) k) := fun k => by
  unfold fnG
  by_cases h1 : k < gs.length
  · rw [List.getElem?_append_left h1]; exact h k
  · rw [List.getElem?_append_right (by omega)]
    rcases hk : k - gs.length with _ | j
    · simpa using hl
    · simp
      exact List.Pairwise.nil
/-- The counts in their block, the other lists beside it. -/
structure SV (w0 w : World) (gf : Nat) (vg vp vs : Value) (F : List Int) (R : List Value) (C : List (List Int)) (P : List Int) (S : List (Nat × Nat)) : Prop where
  zp : ZP w gf F
  gge : w0.heap.size ≤ gf
  g : w.ownsRow w0.heap.size 24 1 vg C.length R
  rows : Rows2 w R C
  p : ZI w w0.heap.size vp P
  s : SVW w w0.heap.size vs S
  ng : vg.ownBlock ≠ some gf
  nr : ∀ r ∈ R, r.ownBlock ≠ some gf
  np : vp.ownBlock ≠ some gf
  ns : vs.ownBlock ≠ some gf
  bl : Below w0.heap.size w0 w
theorem FV.sv {w0 w : World} {gf n c : Nat} {vg vp vs vl : Value} {F : List Int} {R : List Value} {C : List (List Int)} {P : List Int} {S : List (Nat × Nat)} {L : List Int} (h : FV w0 w (.slice (some ⟨gf, 0, none⟩) n c) vg vp vs vl F R C P S L) (h0 : 0 < F.length) : SV w0 w gf vg vp vs F R C P S where
  zp := ZP.of h.five.f h0
  gge := (ZI.lt h.five.f gf rfl).1
  g := h.five.g
  rows := h.five.rows
  p := h.five.p
  s := h.five.s
  ng := fun e => h.five.fg gf rfl e.symm
  nr := fun r hr e => h.five.rf r hr gf e rfl
  np := fun e => h.five.fp gf rfl e.symm
  ns := fun e => h.five.fs gf rfl e.symm
  bl := h.bl
theorem RowV.apart {w : World} {r : Value} {xs : List Int} {g i : Nat} (h : RowV w r xs) (hne : r.ownBlock ≠ some g) (u : Value) : RowV (w.setCell ⟨g, i, none⟩ u) r xs := by
  obtain ⟨a, c, h1, h2, h3⟩ := h
  refine ⟨a, c, h1, h2, fun j x hx => ?_⟩
  obtain ⟨b, o, ha, hc⟩ := h3 j x hx
  refine ⟨b, o, ha, ?_⟩
  rw [cell_far (fun e => hne (by rw [h1, ha, e]; rfl))]
  exact hc
theorem SV.set {w0 w : World} {gf : Nat} {vg vp vs : Value} {F : List Int} {R : List Value} {C : List (List Int)} {P : List Int} {S : List (Nat × Nat)} (h : SV w0 w gf vg vp vs F R C P S) {i : Nat} (hi : i < F.length) (x : Int) : SV w0 (w.setCell ⟨gf, i, none⟩ (.int .i64 x)) gf vg vp vs (F.set i x) R C P S where
  zp := h.zp.set hi x
  gge := h.gge
  g := ownsRow_setCell_other h.g h.ng _
  rows := ⟨h.rows.1, fun j v xs h1 h2 => (h.rows.2 j v xs h1 h2).apart (h.nr v (List.mem_of_getElem? h1)) _⟩
  p := ownsRow_setCell_other h.p h.np _
  s := ownsRow_setCell_other h.s h.ns _
  ng := h.ng
  nr := h.nr
  np := h.np
  ns := h.ns
  bl := h.bl.setCell h.gge _
theorem own_some {w : World} {base size n c : Nat} {e : TypeId} {a : Option Addr} {xs : List Value} (h : w.ownsRow base e size (.slice a n c) n xs) (h0 : 0 < n) : ∃ g, a = some ⟨g, 0, none⟩ := by
  rcases h.2 with ⟨_, h2⟩ | ⟨g', cap', cur, hv, _⟩
  · omega
  · injection hv with e1 _ _
    exact ⟨g', e1⟩
end Go.Proofs.Ytkecdjdggkpdpaa
