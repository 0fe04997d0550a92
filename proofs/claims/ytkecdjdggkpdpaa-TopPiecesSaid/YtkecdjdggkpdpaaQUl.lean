/- Ul -/
import Derived.Test.YtkecdjdggkpdpaaQPd
import Derived.Test.YtkecdjdggkpdpaaQPe
set_option linter.unusedVariables false
/- Walk of the reference's Allowed. -/
namespace Go.Proofs.Ytkecdjdggkpdpaa
open Go Go.RowKit Go.Proofs

/-- All cells that hold something hold it still. -/
def Keep (w w' : World) : Prop := ∀ b o v, w.cell? ⟨b, o, none⟩ = some v → w'.cell? ⟨b, o, none⟩ = some v
theorem Keep.refl (w : World) : Keep w w := fun _ _ _ h => h
theorem Keep.trans {w w1 w2 : World} (h : Keep w w1) (h' : Keep w1 w2) : Keep w w2 := fun b o v hc => h' b o v (h b o v hc)
theorem Keep.below {w w' : World} (h : Below w.heap.size w w') : Keep w w' := fun _ _ _ hc => Below.cellAt h (Nat.le_refl _) hc
theorem IZ.keep {w w' : World} {ao : Option Addr} {xs : List Int} (h : IZ w ao xs) (hk : Keep w w') : IZ w' ao xs := fun i x hx => by
  obtain ⟨b, o, ha, hc⟩ := h i x hx
  exact ⟨b, o, ha, hk _ _ _ hc⟩
theorem IMx.keep {w w' : World} {ao : Option Addr} {C : List (List Int)} (h : IMx w ao C) (hk : Keep w w') : IMx w' ao C := by
  obtain ⟨vs, h1, h2, h3⟩ := h
  refine ⟨vs, fun i v hv => ?_, h2, fun i v xs hv hx => ?_⟩
  · obtain ⟨b, o, ha, hc⟩ := h1 i v hv
    exact ⟨b, o, ha, hk _ _ _ hc⟩
  · obtain ⟨a, c, e1, e2, e3⟩ := h3 i v xs hv hx
    exact ⟨a, c, e1, e2, e3.keep hk⟩
/-- One row more, and where the new list lies. -/
theorem wpList_append_row_at (w : World) {ops : Array Oper} {rest : List Oper} {o : Oper} {a : Act} {Q : Exit → Act → World → Prop} (hgd : o.guard = none) (s x : Operand) (t : TypeId)
    (ho : o.op = .call { callee := .builtin .append, args := #[s, x], argTypes := #[t, t] }) (ht : Try.prog.underlying t = some (.slice 24)) (base n : Nat) (v : Value) (C : List (List Int)) (xs : List Int) (hs : a.eval s = v) (hv : MI w base v C)
    (hn : C.length = n) (g0 : Nat) (hx : a.eval x = .slice (some ⟨g0, 0, none⟩) 1 1) (b : Option Addr) (k d : Nat) (hb : n ≤ 1000000000000) (hbs : base ≤ w.heap.size) (c0 : w.cell? ⟨g0, 0, none⟩ = some (.slice b k d)) (hk : xs.length = k) (hd : k ≤ d) (hz : IZ w b xs)
    (hK : ∀ v' w', MI w' base v' (C ++ [xs]) → w.grownBy w' v.ownBlock → (v'.ownBlock = v.ownBlock ∨ v'.ownBlock = some w.heap.size) → wpList Try.prog ops Q rest (a.put o.dst v') w') : wpList Try.prog ops Q (o :: rest) a w := by
  subst hk hn
  obtain ⟨i, h2, h3, h4, h5⟩ := info_parts info_rowJ
  obtain ⟨vs, hown, hno, hr⟩ := hv
  have hnews : ∀ (j : Nat) (u : Value), [Value.slice b xs.length d][j]? = some u → w.cell? ((⟨g0, 0, none⟩ : Addr).add j) = some u := fun j u hu => by
    rcases j with _ | j
    · simp at hu; subst hu
      rw [Addr.add_lit]; exact c0
    · simp at hu
  have hone : ∀ u ∈ [Value.slice b xs.length d], u.oneCell' = true := fun u hu => by rw [List.mem_singleton] at hu; subst hu; rfl
  have hnew : ∀ u ∈ [Value.slice b xs.length d], ∀ k z, u ≠ .int k z := fun u hu k z => by rw [List.mem_singleton] at hu; subst hu; simp
  have hzn : ∀ u ∈ (Value.slice none 0 0).cells.toList, ∀ k z, u ≠ .int k z := fun u hm k z => by
    simp [Value.cells] at hm
    subst hm; simp
  refine wpList_plain hgd fun K hK' => ?_
  obtain ⟨v', w', hrun, e2, e3, _, e5⟩ := run_append_own_at (P := Try.prog) w base t o.type 24 i _ 1 24 ht h2 h3 h4 h5 rfl (by omega) v C.length vs hown ⟨g0, 0, none⟩ 1 1 _ (by simp) hnews hone (by unfold maxLen; omega) (by omega) hbs
  obtain ⟨v2, w2, hrun2, e6⟩ := run_append_noint (P := Try.prog) w base t o.type 24 i _ 1 24 ht h2 h3 h4 h5 rfl (by omega) v C.length vs hown ⟨g0, 0, none⟩ 1 1 _ (by simp) hnews hone (by unfold maxLen; omega) (by omega) (by omega) hno hnew hzn
  rw [hrun] at hrun2
  injection hrun2 with q1 q2
  subst q1 q2
  unfold Oper.wp execOp
  simp only [ho, resolve, invoke, builtin, Sem.run_bind, Sem.run_pure, Result.andThen_ok, List.map_toArray, List.map_cons, List.map_nil, hs, hx, hrun]
  refine hK' _ _ (hK v' w' ⟨vs ++ [.slice b xs.length d], ?_, e6, ?_⟩ e3 e5)
  · rw [List.length_append]; exact e2
  · refine (hr.append (us := [.slice b xs.length d]) (D := [xs]) ⟨rfl, fun j u ys hu hy => ?_⟩).grown e3 hno
    rcases j with _ | j
    · simp at hu hy
      subst hu hy
      exact ⟨b, d, rfl, hd, hz⟩
    · simp at hu
/-- The list lies in the literal's block, or in new memory. -/
def AtG (wB : World) (g0 : Nat) (v : Value) : Prop := v.ownBlock = some g0 ∨ ∀ g, v.ownBlock = some g → wB.heap.size ≤ g
theorem AtG.next {wB wr : World} {g0 : Nat} {v v' : Value} (h : AtG wB g0 v) (ho : v'.ownBlock = v.ownBlock ∨ v'.ownBlock = some wr.heap.size) (hs : wB.heap.size ≤ wr.heap.size) : AtG wB g0 v' := by
  rcases ho with e | e
  · unfold AtG; rw [e]; exact h
  · exact .inr fun g hg => by rw [e] at hg; injection hg with hg; omega
theorem Keep.grown {wB wr w' : World} {g0 : Nat} {v : Value} (h : Keep wB wr) (hg0 : ∀ o u, wB.cell? ⟨g0, o, none⟩ ≠ some u) (ha : AtG wB g0 v) (hg : wr.grownBy w' v.ownBlock) : Keep wB w' := fun b o u hc => by
  have hlt := World.block_lt_of_cell? wB ⟨b, o, none⟩ hc
  have hc2 := h b o u hc
  have hlt2 := World.block_lt_of_cell? wr ⟨b, o, none⟩ hc2
  rw [World.cell?_of_block (w := wr) (a := ⟨b, o, none⟩) (hg.block b hlt2 fun e => ?_)]
  · exact hc2
  · rcases ha with e1 | e1
    · rw [e1] at e
      injection e with e
      subst e
      exact hg0 _ _ hc
    · have := e1 b e.symm
      have h9 : b < wB.heap.size := hlt
      omega
def alP (C : List (List Int)) (z : Int) (p : List Nat) : Bool := decide (mxP C p ≤ z)
theorem alP_filter {C : List (List Int)} {n : Nat} {z : Int} (hn : 0 < n) : (allN n).filter (alP C z) = alwN (upA C z) n := alwN_filter _ fun p hp => by
  rw [ok_up (hp.ne hn)]
  unfold alP mxP
  exact decide_eq_true_iff
theorem best_exJ (m : List Nat → Int) (n : Nat) : ∃ p, Best (byI m) (allN n) p := by
  obtain ⟨L, hL⟩ : ∃ L, allN n = L := ⟨_, rfl⟩
  have hs : L.Pairwise (· < ·) := hL ▸ allN_sorted n
  have hne : L ≠ [] := hL ▸ allN_ne n
  rw [hL]
  have key : ∀ k, k + 1 ≤ L.length → ∃ p, Best (byI m) (L.take (k + 1)) p := by
    intro k
    induction k with
    | zero =>
      intro hk
      have e := take_last (List.getElem?_eq_getElem (show 0 < L.length by omega))
      rw [e]
      exact ⟨_, Best.one _ _ (fun h => Int.lt_irrefl _ h)⟩
    | succ k ih =>
      intro hk
      obtain ⟨p, hp⟩ := ih (by omega)
      have hq := List.getElem?_eq_getElem (show k + 1 < L.length by omega)
      have e := take_last hq
      have hst := sorted_take hs hq
      rw [e]
      by_cases hlt : m L[k + 1] < m p
      · exact ⟨_, hp.better hlt (fun a b c h1 h2 => Int.lt_trans h1 h2) (fun a h => Int.lt_irrefl _ h) (fun a b c h1 h2 => by unfold byI at *; omega)⟩
      · exact ⟨p, hp.keep hlt hst⟩
  have hl := List.length_pos_iff.2 hne
  obtain ⟨p, hp⟩ := key (L.length - 1) (by omega)
  rw [show L.length - 1 + 1 = L.length by omega, List.take_length] at hp
  exact ⟨p, hp⟩
end Go.Proofs.Ytkecdjdggkpdpaa
