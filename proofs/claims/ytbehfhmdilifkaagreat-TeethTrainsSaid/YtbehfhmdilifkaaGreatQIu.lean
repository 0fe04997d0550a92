/- Iu -/
import Derived.Test.YtbehfhmdilifkaaGreatQIs
import Derived.WalkSmall
import Derived.OneCell
set_option linter.unusedVariables false
/- The memory of the reference's trainer; its closer. -/
namespace Go.Proofs.YtbehfhmdilifkaaGreat
open Go Go.RowKit Go.Proofs

/-- 'append(l, xs..)': a list of slices that the call owns. -/
theorem wpList_append_vs (w : World) {ops : Array Oper} {rest : List Oper} {o : Oper} {a : Act} {Q : Exit → Act → World → Prop} (hgd : o.guard = none) (s x : Operand) (t : TypeId)
    (ho : o.op = .call { callee := .builtin .append, args := #[s, x], argTypes := #[t, t] }) (ht : Tryz.prog.underlying t = some (.slice 23)) (base n : Nat) (v : Value) (vs : List Value) (hs : a.eval s = v) (hown : w.ownsRow base 23 1 v n vs)
    (g0 m c : Nat) (news : List Value) (hx : a.eval x = .slice (some ⟨g0, 0, none⟩) m c) (hl : news.length = m) (hnews : ∀ j u, news[j]? = some u → w.cell? ⟨g0, j, none⟩ = some u) (h1 : ∀ u ∈ news, u.oneCell' = true) (hn : n ≤ 1000000) (hm : m ≤ 1000000) (hbs : base ≤ w.heap.size)
    (hK : ∀ v' w', w'.ownsRow base 23 1 v' (n + m) (vs ++ news) → w.grownBy w' v.ownBlock → (v'.ownBlock = v.ownBlock ∨ v'.ownBlock = some w.heap.size) → wpList Tryz.prog ops Q rest (a.put o.dst v') w') : wpList Tryz.prog ops Q (o :: rest) a w := by
  obtain ⟨i, h2, h3, h4, h5⟩ := info_parts info_rowJ
  refine wpList_plain hgd fun K hK' => ?_
  obtain ⟨v', w', hrun, e2, e3, _, e5⟩ := run_append_own_at (P := Tryz.prog) w base t o.type 23 i _ 1 24 ht h2 h3 h4 h5 rfl (by omega) v n vs hown ⟨g0, 0, none⟩ m c news (by omega) (fun j u hu => by rw [Addr.add_lit, Nat.zero_add]; exact hnews j u hu) h1 (by unfold maxLen; omega) (by omega) hbs
  unfold Oper.wp execOp
  simp only [ho, resolve, invoke, builtin, Sem.run_bind, Sem.run_pure, Result.andThen_ok, List.map_toArray, List.map_cons, List.map_nil, hs, hx, hrun]
  exact hK' _ _ (hK v' w' e2 e3 e5)
/-- All blocks of ints stand. -/
def KI (W W' : World) : Prop := ∀ b cs, Blk W b 3 cs → Blk W' b 3 cs
theorem KI.refl (W : World) : KI W W := fun _ _ h => h
theorem KI.trans {a b c : World} (h : KI a b) (k : KI b c) : KI a c := fun x cs hx => k x cs (h x cs hx)
theorem KI.below {W W' : World} (h : Below W.heap.size W W') : KI W W' := fun _ _ hx => hx.later h
theorem blk_ty {W : World} {g T U : Nat} {cs ds : List Value} (h : Blk W g T cs) (k : Blk W g U ds) : T = U := by
  have h1 : some (Obj.cells cs.toArray T (0, 0)) = some (Obj.cells ds.toArray U (0, 0)) := by
    rw [← (show W.heap[g]? = _ from h), ← (show W.heap[g]? = _ from k)]
  injection h1 with h1
  injection h1
theorem KI.set {W : World} {g T : Nat} {cs : List Value} (h : Blk W g T cs) (hT : T ≠ 3) (i : Nat) (u : Value) : KI W (W.setCell ⟨g, i, none⟩ u) := fun b ds hb =>
  Blk.far hb (by intro e; have : b = g := e; subst this; exact hT (blk_ty h hb)) u
theorem KI.grown {W W' : World} {row : Option Nat} (hg : W.grownBy W' row) (hr : ∀ g, row = some g → ∃ cur, W.heap[g]? = some (.cells cur 23 (0, 0))) : KI W W' := fun b cs hb => by
  refine (hg.block b hb.lt fun e => ?_).trans hb
  obtain ⟨cur, hc⟩ := hr b e.symm
  have h1 : some (Obj.cells cs.toArray 3 (0, 0)) = some (Obj.cells cur 23 (0, 0)) := by rw [← (show W.heap[b]? = _ from hb), hc]
  injection h1 with h1
  injection h1 with _ h1
  exact absurd h1 (by decide)
theorem own_ty {w : World} {base n : Nat} {v : Value} {vs : List Value} (h : w.ownsRow base 23 1 v n vs) : ∀ g, v.ownBlock = some g → ∃ cur, w.heap[g]? = some (.cells cur 23 (0, 0)) := fun g hg => by
  rcases h.2 with ⟨h0, _⟩ | ⟨g', cap, cur, hv, _, hh, _⟩
  · subst h0; cases hg
  · subst hv
    injection hg with hg
    have : g' = g := hg
    subst this
    exact ⟨cur, hh⟩
/-- These slices are the pairs. -/
def RV (W : World) (vs : List Value) (t : Tr) : Prop := vs.length = t.length ∧ ∀ (i : Nat) (v : Value) (x : Nat × Nat), vs[i]? = some v → t[i]? = some x → ∃ b, v = .slice (some ⟨b, 0, none⟩) 2 2 ∧ Blk W b 3 [.int .i64 (x.1 : Nat), .int .i64 (x.2 : Nat)]
theorem RV.keep {W W' : World} {vs : List Value} {t : Tr} (h : RV W vs t) (k : KI W W') : RV W' vs t := ⟨h.1, fun i v x hv hx => by
  obtain ⟨b, e, hb⟩ := h.2 i v x hv hx
  exact ⟨b, e, k b _ hb⟩⟩
theorem RV.nil (W : World) : RV W [] [] := ⟨rfl, fun i v x h => by simp at h⟩
theorem RV.snoc {W : World} {vs : List Value} {t : Tr} (h : RV W vs t) {b i k : Nat} (hb : Blk W b 3 [.int .i64 (i : Nat), .int .i64 (k : Nat)]) : RV W (vs ++ [.slice (some ⟨b, 0, none⟩) 2 2]) (t ++ [(i, k)]) := by
  refine ⟨by rw [List.length_append, List.length_append, h.1]; rfl, fun j v x hv hx => ?_⟩
  by_cases hj : j < vs.length
  · rw [List.getElem?_append_left hj] at hv
    rw [List.getElem?_append_left (by rw [← h.1]; exact hj)] at hx
    exact h.2 j v x hv hx
  · rw [List.getElem?_append_right (by omega)] at hv
    rw [List.getElem?_append_right (by rw [← h.1]; omega), ← h.1] at hx
    rcases hn : j - vs.length with _ | m
    · rw [hn] at hv hx
      simp at hv hx
      subst hv hx
      exact ⟨b, rfl, hb⟩
    · rw [hn] at hv
      simp at hv
theorem RV.pop {W : World} {vs : List Value} {t : Tr} {u : Value} {x : Nat × Nat} (h : RV W (vs ++ [u]) (t ++ [x])) : RV W vs t := by
  have hl : vs.length = t.length := by have := h.1; simp at this; exact this
  refine ⟨hl, fun i v y hv hy => h.2 i v y ?_ ?_⟩
  · rw [List.getElem?_append_left (List.getElem?_eq_some_iff.1 hv).1]; exact hv
  · rw [List.getElem?_append_left (List.getElem?_eq_some_iff.1 hy).1]; exact hy
theorem RV.one {W : World} {vs : List Value} {t : Tr} (h : RV W vs t) : ∀ u ∈ vs, u.oneCell' = true := fun u hu => by
  obtain ⟨i, hi, rfl⟩ := List.mem_iff_getElem.1 hu
  obtain ⟨b, e, _⟩ := h.2 i _ _ (List.getElem?_eq_getElem hi) (List.getElem?_eq_getElem (by rw [← h.1]; exact hi))
  rw [e]
  rfl
/-- The rows of an own list of pairs. -/
theorem RV.imx {W : World} {base g n c : Nat} {vs : List Value} {t : Tr} (h : RV W vs t) (ho : W.ownsRow base 23 1 (.slice (some ⟨g, 0, none⟩) n c) n vs) : IMx W (some ⟨g, 0, none⟩) (rowsT t) := by
  refine ⟨vs, fun i v hv => ⟨g, 0, rfl, ?_⟩, by rw [rowsT_length]; exact h.1, fun i v xs hv hx => ?_⟩
  · have := ho.cellAt i (by rw [← ho.1]; exact (List.getElem?_eq_some_iff.1 hv).1)
    rw [Nat.zero_add, this]
    exact hv
  · unfold rowsT at hx
    rw [List.getElem?_map] at hx
    obtain ⟨x, hx1, rfl⟩ := Option.map_eq_some_iff.1 hx
    obtain ⟨b, e, hb⟩ := h.2 i v x hv hx1
    refine ⟨_, 2, e, Nat.le_refl _, fun m y hy => ⟨b, 0, rfl, ?_⟩⟩
    rw [hb.cell]
    rcases m with _ | _ | m
    · simp at hy ⊢; exact hy
    · simp at hy ⊢; exact hy
    · simp at hy
/-- Which wheels are used. -/
def usL (n : Nat) (t : Tr) : List Bool := (List.range n).map fun i => decide (i ∈ ixT t)
theorem usL_get {n : Nat} {t : Tr} {i : Nat} (h : i < n) : (usL n t)[i]? = some (decide (i ∈ ixT t)) := by
  unfold usL
  rw [List.getElem?_map, List.getElem?_range h]
  rfl
theorem usL_len (n : Nat) (t : Tr) : (usL n t).length = n := by unfold usL; rw [List.length_map, List.length_range]
theorem usL_put {n : Nat} {t : Tr} {i k : Nat} : ((usL n t).set i true).set k true = usL n (t ++ [(i, k)]) := by
  apply List.ext_getElem?
  intro j
  by_cases hj : j < n
  · rw [usL_get hj, List.getElem?_set, List.getElem?_set, List.length_set, usL_len, ixT_snoc]
    by_cases h1 : k = j
    · subst h1; simp [hj]
    · rw [if_neg h1]
      by_cases h2 : i = j
      · subst h2; simp [hj]
      · rw [if_neg h2, usL_get hj]
        simp [Ne.symm h1, Ne.symm h2]
  · rw [List.getElem?_eq_none (by rw [List.length_set, List.length_set, usL_len]; omega), List.getElem?_eq_none (by rw [usL_len]; omega)]
theorem usL_back {n : Nat} {t : Tr} {i k : Nat} (hi : i ∉ ixT t) (hk : k ∉ ixT t) : ((usL n (t ++ [(i, k)])).set i false).set k false = usL n t := by
  apply List.ext_getElem?
  intro j
  by_cases hj : j < n
  · rw [usL_get hj, List.getElem?_set, List.getElem?_set, List.length_set, usL_len]
    by_cases h1 : k = j
    · subst h1; simp [hj, hk]
    · rw [if_neg h1]
      by_cases h2 : i = j
      · subst h2; simp [hj, hi]
      · rw [if_neg h2, usL_get hj, ixT_snoc]
        simp [Ne.symm h1, Ne.symm h2]
  · rw [List.getElem?_eq_none (by rw [List.length_set, List.length_set, usL_len]; omega), List.getElem?_eq_none (by rw [usL_len]; omega)]
/-- The best train in the trainer's fields. -/
def BV (W : World) (N : Nat) (v bv : Value) (nu de : Int) : Bt → Prop
  | none => bv = .slice none 0 0
  | some (t, p, q) => ∃ (g c : Nat) (vs : List Value), bv = .slice (some ⟨g, 0, none⟩) t.length c ∧ W.ownsRow N 23 1 bv t.length vs ∧ RV W vs t ∧ v.ownBlock ≠ some g ∧ nu = (p : Nat) ∧ de = (q : Nat)
/-- The trainer: in block bt; the used wheels: in block bu. -/
structure TI (w0 W : World) (n o u : Nat) (aw : Option Addr) (cw bt bu : Nat) (t : Tr) (s : Bt) (v bv : Value) (vs : List Value) (nu de : Int) : Prop where
  own : W.ownsRow w0.heap.size 23 1 v t.length vs
  rv : RV W vs t
  tb : Blk W bt 87 [.int .i64 (o : Nat), .int .i64 (u : Nat), .slice aw n cw, v, bv, .int .i64 nu, .int .i64 de]
  ub : BBlk W bu (usL n t)
  bv : BV W w0.heap.size v bv nu de s
  bl : Below w0.heap.size w0 W
theorem BV.keep {W W' : World} {N : Nat} {v bv : Value} {nu de : Int} {s : Bt} (h : BV W N v bv nu de s) (hk : KI W W') (ho : ∀ g, bv.ownBlock = some g → v.ownBlock ≠ some g → W'.heap[g]? = W.heap[g]?) : BV W' N v bv nu de s := by
  rcases s with _ | ⟨t, p, q⟩
  · exact h
  · obtain ⟨g, c, vs, h1, h2, h3, h4, h5, h6⟩ := h
    refine ⟨g, c, vs, h1, ?_, h3.keep hk, h4, h5, h6⟩
    have hg := ho g (by rw [h1]; rfl) h4
    refine ⟨h2.1, ?_⟩
    rcases h2.2 with ⟨e, _⟩ | ⟨g', cap, cur, hv, hb, hh, hrest⟩
    · rw [h1] at e; cases e
    · have : g' = g := by rw [h1] at hv; injection hv with hv; injection hv with hv; injection hv with hv; exact hv.symm
      subst this
      exact .inr ⟨g', cap, cur, hv, hb, hg.trans hh, hrest⟩
theorem TI.below {w0 W W' : World} {n o u : Nat} {aw : Option Addr} {cw bt bu : Nat} {t : Tr} {s : Bt} {v bv : Value} {vs : List Value} {nu de : Int} (h : TI w0 W n o u aw cw bt bu t s v bv vs nu de) (hb : Below W.heap.size W W') : TI w0 W' n o u aw cw bt bu t s v bv vs nu de :=
  ⟨h.own.kept ⟨hb.os, hb.tape, hb.output, hb.size, fun k hk _ => hb.block k hk⟩ (row := none) (by cases hv : v.ownBlock with | none => exact .inl rfl | some g => exact .inr (by simp)), h.rv.keep (KI.below hb), h.tb.later hb, h.ub.later hb, h.bv.keep (KI.below hb) (fun g hg _ => hb.block g (by
    rcases s with _ | ⟨t', p', q'⟩
    · have := h.bv; unfold BV at this; rw [this] at hg; cases hg
    · obtain ⟨g', c, vs', h1, h2, _⟩ := h.bv
      exact (h2.lt g hg).2)), h.bl.trans (hb.mono h.bl.size)⟩
set_option maxRecDepth 100000 in
set_option maxHeartbeats 3200000 in
theorem tcloser_any (w0 W : World) (n o u : Nat) (aw : Option Addr) (cw bt bu : Nat) (t t' : Tr) (p' q' : Nat) (v bv : Value) (vs : List Value) (nu de : Int) (h : TI w0 W n o u aw cw bt bu t (some (t', p', q')) v bv vs nu de) (p q : Nat) (ho : o ≤ 1000000) (hu : u ≤ 1000000) (hp : p ≤ 1000000000) (hq : q ≤ 1000000000) (hp' : p' ≤ 1000000000) (hq' : q' ≤ 1000000000) (b : Bool) (hb : closerB o u p q p' q' = b) :
    Calls Tryz.prog 82 #[.pointer (some ⟨bt, 0, none⟩), .int .i64 (p : Nat), .int .i64 (q : Nat)] W (RetB W b) := by
  obtain ⟨g', c', vs', _, _, _, _, hnu, hde⟩ := h.bv
  have b1 := offN_le ho hu hp hq
  have b2 := offN_le ho hu hp' hq'
  have hc := Lib.hid (fun W => closer_any o u p q p' q' b W (by omega) (by omega) (by omega) (by omega) (by omega) (by omega) hb)
  have x0 : W.cell? ⟨bt, 0, none⟩ = some (.int .i64 (o : Nat)) := by rw [h.tb.cell]; rfl
  have x1 : W.cell? ⟨bt, 1, none⟩ = some (.int .i64 (u : Nat)) := by rw [h.tb.cell]; rfl
  have x5 : W.cell? ⟨bt, 5, none⟩ = some (.int .i64 (p' : Nat)) := by rw [h.tb.cell, hnu]; rfl
  have x6 : W.cell? ⟨bt, 6, none⟩ = some (.int .i64 (q' : Nat)) := by rw [h.tb.cell, hde]; rfl
  have hB0 : Below W.heap.size W W := Below.refl _ _
  have hup : Hid (∀ w', Below W.heap.size W w' → w'.cell? ⟨bt, 0, none⟩ = some (.int .i64 (o : Nat)) ∧ w'.cell? ⟨bt, 1, none⟩ = some (.int .i64 (u : Nat)) ∧ w'.cell? ⟨bt, 5, none⟩ = some (.int .i64 (p' : Nat)) ∧ w'.cell? ⟨bt, 6, none⟩ = some (.int .i64 (q' : Nat))) := fun w' hW => ⟨Below.cellAt hW (Nat.le_refl _) x0, Below.cellAt hW (Nat.le_refl _) x1, Below.cellAt hW (Nat.le_refl _) x5, Below.cellAt hW (Nat.le_refl _) x6⟩
  clear h hb hnu hde b1 b2
  go_enter Tryz.func82, Tryz.ntmps82
  go_upto_region 1 with (fail)
  -- tail S: fun w' => w'.cell? ⟨bt, 0, none⟩ = some (.int .i64 (o : Nat)) ∧ w'.cell? ⟨bt, 1, none⟩ = some (.int .i64 (u : Nat)) ∧ w'.cell? ⟨bt, 5, none⟩ = some (.int .i64 (p' : Nat)) ∧ w'.cell? ⟨bt, 6, none⟩ = some (.int .i64 (q' : Nat))
  -- tail s0: hup.out _ (Below.drew hB0)
  -- arm 18: go_at_call 105; (with_reducible refine (hc.out _).mono ?_); rintro e w5 ⟨rfl, hw⟩; have hq5 : Below W.heap.size W w5 := (by rw [← hw]; exact Below.drew hB0); clear hw
  -- arm 18 s: hup.out _ hq5
  -- tail cl 0 1 2 3 4 5 6 7 8 9 10 11 12 13 14 15 16 17 c18 19
  refine wp_region_tail (fun w' => w'.cell? ⟨bt, 0, none⟩ = some (.int .i64 (o : Nat)) ∧ w'.cell? ⟨bt, 1, none⟩ = some (.int .i64 (u : Nat)) ∧ w'.cell? ⟨bt, 5, none⟩ = some (.int .i64 (p' : Nat)) ∧ w'.cell? ⟨bt, 6, none⟩ = some (.int .i64 (q' : Nat))) (fun j => decide (1000 ≤ j)) (by kernel_rfl) (hup.out _ (Below.drew hB0)) (fun hHeld => ?_)
  refine wpAnyT_take (i := 0) (oi := ?oicl0) (v := ?vcl0) ?hocl0 (by kernel_rfl) (by kernel_rfl) (by kernel_rfl) (by kernel_rfl) ?hqcl0 (Or.inl ⟨?hwcl0, ?hycl0⟩) (by assumption) ?_
  case hocl0 => rfl
  case hwcl0 => rfl
  case hycl0 => (intro w hSw; (try dsimp only at hSw); go_split_ands; go_simp; (try (with_reducible rfl)))
  case hqcl0 => exact fun _ _ _ h => h
  simp only [Act.put, List.getElem_toArray, List.getElem_cons_zero, List.setIfInBounds_toArray, List.set_cons_zero, List.set_cons_succ]
  refine wpAnyT_take (i := 1) (oi := ?oicl1) (v := ?vcl1) ?hocl1 (by kernel_rfl) (by kernel_rfl) (by kernel_rfl) (by kernel_rfl) ?hqcl1 (Or.inl ⟨?hwcl1, ?hycl1⟩) (by assumption) ?_
  case hocl1 => rfl
  case hwcl1 => rfl
  case hycl1 => (intro w hSw; (try dsimp only at hSw); go_split_ands; go_simp; (try (with_reducible rfl)))
  case hqcl1 => exact fun _ _ _ h => h
  simp only [Act.put, List.getElem_toArray, List.getElem_cons_succ, List.getElem_cons_zero, List.setIfInBounds_toArray, List.set_cons_zero, List.set_cons_succ]
  refine wpAnyT_take (i := 2) (oi := ?oicl2) (v := ?vcl2) ?hocl2 (by kernel_rfl) (by kernel_rfl) (by kernel_rfl) (by kernel_rfl) ?hqcl2 (Or.inl ⟨?hwcl2, ?hycl2⟩) (by assumption) ?_
  case hocl2 => rfl
  case hwcl2 => rfl
  case hycl2 => (intro w hSw; (try dsimp only at hSw); go_split_ands; go_simp; (try (with_reducible rfl)))
  case hqcl2 => exact fun _ _ _ h => h
  simp only [Act.put, List.getElem_toArray, List.getElem_cons_succ, List.getElem_cons_zero, List.setIfInBounds_toArray, List.set_cons_zero, List.set_cons_succ]
  refine wpAnyT_take (i := 3) (oi := ?oicl3) (v := ?vcl3) ?hocl3 (by kernel_rfl) (by kernel_rfl) (by kernel_rfl) (by kernel_rfl) ?hqcl3 (Or.inl ⟨?hwcl3, ?hycl3⟩) (by assumption) ?_
  case hocl3 => rfl
  case hwcl3 => rfl
  case hycl3 => (intro w hSw; (try dsimp only at hSw); go_split_ands; go_simp; (try (with_reducible rfl)))
  case hqcl3 => exact fun _ _ _ h => h
  simp only [Act.put, List.getElem_toArray, List.getElem_cons_succ, List.getElem_cons_zero, List.setIfInBounds_toArray, List.set_cons_zero, List.set_cons_succ]
  refine wpAnyT_take (i := 4) (oi := ?oicl4) (v := ?vcl4) ?hocl4 (by kernel_rfl) (by kernel_rfl) (by kernel_rfl) (by kernel_rfl) ?hqcl4 (Or.inl ⟨?hwcl4, ?hycl4⟩) (by assumption) ?_
  case hocl4 => rfl
  case hwcl4 => rfl
  case hycl4 => (intro w hSw; (try dsimp only at hSw); go_split_ands; go_simp; (try (with_reducible rfl)))
  case hqcl4 => exact fun _ _ _ h => h
  simp only [Act.put, List.getElem_toArray, List.getElem_cons_succ, List.getElem_cons_zero, List.setIfInBounds_toArray, List.set_cons_zero, List.set_cons_succ]
  refine wpAnyT_take (i := 5) (oi := ?oicl5) (v := ?vcl5) ?hocl5 (by kernel_rfl) (by kernel_rfl) (by kernel_rfl) (by kernel_rfl) ?hqcl5 (Or.inl ⟨?hwcl5, ?hycl5⟩) (by assumption) ?_
  case hocl5 => rfl
  case hwcl5 => rfl
  case hycl5 => (intro w hSw; (try dsimp only at hSw); go_split_ands; go_simp; (try (with_reducible rfl)))
  case hqcl5 => exact fun _ _ _ h => h
  simp only [Act.put, List.getElem_toArray, List.getElem_cons_succ, List.getElem_cons_zero, List.setIfInBounds_toArray, List.set_cons_zero, List.set_cons_succ]
  refine wpAnyT_take (i := 6) (oi := ?oicl6) (v := ?vcl6) ?hocl6 (by kernel_rfl) (by kernel_rfl) (by kernel_rfl) (by kernel_rfl) ?hqcl6 (Or.inl ⟨?hwcl6, ?hycl6⟩) (by assumption) ?_
  case hocl6 => rfl
  case hwcl6 => rfl
  case hycl6 => (intro w hSw; (try dsimp only at hSw); go_split_ands; go_simp; (try (with_reducible rfl)))
  case hqcl6 => exact fun _ _ _ h => h
  simp only [Act.put, List.getElem_toArray, List.getElem_cons_succ, List.getElem_cons_zero, List.setIfInBounds_toArray, List.set_cons_zero, List.set_cons_succ]
  refine wpAnyT_take (i := 7) (oi := ?oicl7) (v := ?vcl7) ?hocl7 (by kernel_rfl) (by kernel_rfl) (by kernel_rfl) (by kernel_rfl) ?hqcl7 (Or.inl ⟨?hwcl7, ?hycl7⟩) (by assumption) ?_
  case hocl7 => rfl
  case hwcl7 => rfl
  case hycl7 => (intro w hSw; (try dsimp only at hSw); go_split_ands; go_simp; (try (with_reducible rfl)))
  case hqcl7 => exact fun _ _ _ h => h
  simp only [Act.put, List.getElem_toArray, List.getElem_cons_succ, List.getElem_cons_zero, List.setIfInBounds_toArray, List.set_cons_zero, List.set_cons_succ]
  refine wpAnyT_take (i := 8) (oi := ?oicl8) (v := ?vcl8) ?hocl8 (by kernel_rfl) (by kernel_rfl) (by kernel_rfl) (by kernel_rfl) ?hqcl8 (Or.inl ⟨?hwcl8, ?hycl8⟩) (by assumption) ?_
  case hocl8 => rfl
  case hwcl8 => rfl
  case hycl8 => (intro w hSw; (try dsimp only at hSw); go_split_ands; go_simp; (try (with_reducible rfl)))
  case hqcl8 => exact fun _ _ _ h => h
  simp only [Act.put, List.getElem_toArray, List.getElem_cons_succ, List.getElem_cons_zero, List.setIfInBounds_toArray, List.set_cons_zero, List.set_cons_succ]
  refine wpAnyT_take (i := 9) (oi := ?oicl9) (v := ?vcl9) ?hocl9 (by kernel_rfl) (by kernel_rfl) (by kernel_rfl) (by kernel_rfl) ?hqcl9 (Or.inl ⟨?hwcl9, ?hycl9⟩) (by assumption) ?_
  case hocl9 => rfl
  case hwcl9 => rfl
  case hycl9 => (intro w hSw; (try dsimp only at hSw); go_split_ands; go_simp; (try (with_reducible rfl)))
  case hqcl9 => exact fun _ _ _ h => h
  simp only [Act.put, List.getElem_toArray, List.getElem_cons_succ, List.getElem_cons_zero, List.setIfInBounds_toArray, List.set_cons_zero, List.set_cons_succ]
  refine wpAnyT_take (i := 10) (oi := ?oicl10) (v := ?vcl10) ?hocl10 (by kernel_rfl) (by kernel_rfl) (by kernel_rfl) (by kernel_rfl) ?hqcl10 (Or.inl ⟨?hwcl10, ?hycl10⟩) (by assumption) ?_
  case hocl10 => rfl
  case hwcl10 => rfl
  case hycl10 => (intro w hSw; (try dsimp only at hSw); go_split_ands; go_simp; (try (with_reducible rfl)))
  case hqcl10 => exact fun _ _ _ h => h
  simp only [Act.put, List.getElem_toArray, List.getElem_cons_succ, List.getElem_cons_zero, List.setIfInBounds_toArray, List.set_cons_zero, List.set_cons_succ]
  refine wpAnyT_take (i := 11) (oi := ?oicl11) (v := ?vcl11) ?hocl11 (by kernel_rfl) (by kernel_rfl) (by kernel_rfl) (by kernel_rfl) ?hqcl11 (Or.inl ⟨?hwcl11, ?hycl11⟩) (by assumption) ?_
  case hocl11 => rfl
  case hwcl11 => rfl
  case hycl11 => (intro w hSw; (try dsimp only at hSw); go_split_ands; go_simp; (try (with_reducible rfl)))
  case hqcl11 => exact fun _ _ _ h => h
  simp only [Act.put, List.getElem_toArray, List.getElem_cons_succ, List.getElem_cons_zero, List.setIfInBounds_toArray, List.set_cons_zero, List.set_cons_succ]
  refine wpAnyT_take (i := 12) (oi := ?oicl12) (v := ?vcl12) ?hocl12 (by kernel_rfl) (by kernel_rfl) (by kernel_rfl) (by kernel_rfl) ?hqcl12 (Or.inl ⟨?hwcl12, ?hycl12⟩) (by assumption) ?_
  case hocl12 => rfl
  case hwcl12 => rfl
  case hycl12 => (intro w hSw; (try dsimp only at hSw); go_split_ands; go_simp; (try (with_reducible rfl)))
  case hqcl12 => exact fun _ _ _ h => h
  simp only [Act.put, List.getElem_toArray, List.getElem_cons_succ, List.getElem_cons_zero, List.setIfInBounds_toArray, List.set_cons_zero, List.set_cons_succ]
  refine wpAnyT_take (i := 13) (oi := ?oicl13) (v := ?vcl13) ?hocl13 (by kernel_rfl) (by kernel_rfl) (by kernel_rfl) (by kernel_rfl) ?hqcl13 (Or.inl ⟨?hwcl13, ?hycl13⟩) (by assumption) ?_
  case hocl13 => rfl
  case hwcl13 => rfl
  case hycl13 => (intro w hSw; (try dsimp only at hSw); go_split_ands; go_simp; (try (with_reducible rfl)))
  case hqcl13 => exact fun _ _ _ h => h
  simp only [Act.put, List.getElem_toArray, List.getElem_cons_succ, List.getElem_cons_zero, List.setIfInBounds_toArray, List.set_cons_zero, List.set_cons_succ]
  refine wpAnyT_take (i := 14) (oi := ?oicl14) (v := ?vcl14) ?hocl14 (by kernel_rfl) (by kernel_rfl) (by kernel_rfl) (by kernel_rfl) ?hqcl14 (Or.inl ⟨?hwcl14, ?hycl14⟩) (by assumption) ?_
  case hocl14 => rfl
  case hwcl14 => rfl
  case hycl14 => (intro w hSw; (try dsimp only at hSw); go_split_ands; go_simp; (try (with_reducible rfl)))
  case hqcl14 => exact fun _ _ _ h => h
  simp only [Act.put, List.getElem_toArray, List.getElem_cons_succ, List.getElem_cons_zero, List.setIfInBounds_toArray, List.set_cons_zero, List.set_cons_succ]
  refine wpAnyT_take (i := 15) (oi := ?oicl15) (v := ?vcl15) ?hocl15 (by kernel_rfl) (by kernel_rfl) (by kernel_rfl) (by kernel_rfl) ?hqcl15 (Or.inl ⟨?hwcl15, ?hycl15⟩) (by assumption) ?_
  case hocl15 => rfl
  case hwcl15 => rfl
  case hycl15 => (intro w hSw; (try dsimp only at hSw); go_split_ands; go_simp; (try (with_reducible rfl)))
  case hqcl15 => exact fun _ _ _ h => h
  simp only [Act.put, List.getElem_toArray, List.getElem_cons_succ, List.getElem_cons_zero, List.setIfInBounds_toArray, List.set_cons_zero, List.set_cons_succ]
  refine wpAnyT_take (i := 16) (oi := ?oicl16) (v := ?vcl16) ?hocl16 (by kernel_rfl) (by kernel_rfl) (by kernel_rfl) (by kernel_rfl) ?hqcl16 (Or.inl ⟨?hwcl16, ?hycl16⟩) (by assumption) ?_
  case hocl16 => rfl
  case hwcl16 => rfl
  case hycl16 => (intro w hSw; (try dsimp only at hSw); go_split_ands; go_simp; (try (with_reducible rfl)))
  case hqcl16 => exact fun _ _ _ h => h
  simp only [Act.put, List.getElem_toArray, List.getElem_cons_succ, List.getElem_cons_zero, List.setIfInBounds_toArray, List.set_cons_zero, List.set_cons_succ]
  refine wpAnyT_take (i := 17) (oi := ?oicl17) (v := ?vcl17) ?hocl17 (by kernel_rfl) (by kernel_rfl) (by kernel_rfl) (by kernel_rfl) ?hqcl17 (Or.inl ⟨?hwcl17, ?hycl17⟩) (by assumption) ?_
  case hocl17 => rfl
  case hwcl17 => rfl
  case hycl17 => (intro w hSw; (try dsimp only at hSw); go_split_ands; go_simp; (try (with_reducible rfl)))
  case hqcl17 => exact fun _ _ _ h => h
  simp only [Act.put, List.getElem_toArray, List.getElem_cons_succ, List.getElem_cons_zero, List.setIfInBounds_toArray, List.set_cons_zero, List.set_cons_succ]
  refine wpAnyT_one (i := 18) (o := ?oicl18) (by kernel_rfl) ?hocl18 (fun K hK => ?_)
  case hocl18 => rfl
  rw [if_pos (by rfl)]
  go_simp
  go_at_call 105; (with_reducible refine (hc.out _).mono ?_); rintro e w5 ⟨rfl, hw⟩; have hq5 : Below W.heap.size W w5 := (by rw [← hw]; exact Below.drew hB0); clear hw
  (try go_wp2_with (fail))
  refine hK.out _ _ (fun _ => hup.out _ hq5) (fun hHeld => ?_)
  replace hHeld := hHeld rfl
  clear hK K
  refine wpAnyT_take (i := 19) (oi := ?oicl19) (v := ?vcl19) ?hocl19 (by kernel_rfl) (by kernel_rfl) (by kernel_rfl) (by kernel_rfl) ?hqcl19 (Or.inl ⟨?hwcl19, ?hycl19⟩) (by assumption) ?_
  case hocl19 => rfl
  case hwcl19 => rfl
  case hycl19 => (intro w hSw; (try dsimp only at hSw); go_split_ands; go_simp; (try (with_reducible rfl)))
  case hqcl19 => exact fun _ _ _ h => h
  simp only [Act.put, List.getElem_toArray, List.getElem_cons_succ, List.getElem_cons_zero, List.setIfInBounds_toArray, List.set_cons_zero, List.set_cons_succ]
  refine wpAnyT_done (by kernel_rfl) ?_ _
  -- tail end
  go_wp2_with (fail)
  go_ret
  exact ⟨rfl, hq5⟩
end Go.Proofs.YtbehfhmdilifkaaGreat
