/- Jo -/
import Derived.Test.YtkecdjdggkpdpabQWa
set_option linter.unusedVariables false
/- Appending onto a list of the call's own whose block holds no numbers (so no digit slice lies in it). No function of the program. -/
namespace Go.Proofs.Ytkecdjdggkpdpab
open Go Go.RowKit Go.Proofs

/-- The block of an own slice holds no numbers. -/
def NoIntV (w : World) (v : Value) : Prop := ∀ g, v.ownBlock = some g → NoInt w g

theorem noInt_cells {w : World} {g : Nat} {cs : Array Value} {e : TypeId} {f : Nat × Nat} (h : w.heap[g]? = some (.cells cs e f)) (hc : ∀ u ∈ cs.toList, ∀ k z, u ≠ .int k z) : NoInt w g := fun o k z hx => by
  rw [cell_of_row w g o cs e f h] at hx
  exact hc _ (by rw [Array.getElem?_eq_some_iff] at hx; obtain ⟨h1, h2⟩ := hx; rw [← h2]; simp) k z rfl

theorem run_append_noint {P : Program} (w : World) (base : Nat) (t ty e : TypeId) (i : TypeInfo) (z : Value) (size bytes : Nat) (ht : P.underlying t = some (.slice e)) (hi : P.info? e = some i) (hz : i.zero = some z)
    (hsize : i.size = size) (hby : i.bytes = bytes) (hzs : z.cells.size = size) (hsz : 0 < size)
    (v : Value) (n : Nat) (xs : List Value) (hown : w.ownsRow base e size v n xs)
    (a : Addr) (m c : Nat) (news : List Value) (hl : news.length = m * size) (hnews : ∀ j u, news[j]? = some u → w.cell? (a.add j) = some u) (h1 : ∀ u ∈ news, u.oneCell' = true)
    (h63 : n + m ≤ maxLen) (hbytes : (n + m) * bytes ≤ 140737488355328) (hm : 0 < m)
    (hv : NoIntV w v) (hnew : ∀ u ∈ news, ∀ k z, u ≠ .int k z) (hzn : ∀ u ∈ z.cells.toList, ∀ k z, u ≠ .int k z) :
    ∃ v' w', (Builtin.append_ #[t, t] ty #[v, .slice (some a) m c]).run P w = .ok v' w' ∧ NoIntV w' v' := by
  subst hsize
  subst hby
  have hsmall : n + m ≤ 9223372036854775807 := by simp only [maxLen] at h63; omega
  have zc : ∀ k, ∀ u ∈ (Builtin.zeroCells z.cells k).toList, ∀ k z, u ≠ .int k z := by
    intro k u hu
    unfold Builtin.zeroCells at hu
    rw [Array.toList_map] at hu
    obtain ⟨j, hj, rfl⟩ := List.mem_map.1 hu
    have hp : 0 < z.cells.size := by omega
    refine hzn _ ?_
    have hlt : j % z.cells.size < z.cells.size := Nat.mod_lt _ hp
    rw [getElem!_pos z.cells _ hlt]
    simp
  have newB : ∀ (ys : List Value) (k : Nat), (∀ u ∈ ys, ∀ k z, u ≠ .int k z) → NoInt (w.drew.alloc (.cells (ys.toArray ++ news.toArray ++ Builtin.zeroCells z.cells k) e)) w.heap.size := by
    intro ys k hys
    refine noInt_cells (heap_alloc_new w.drew _) fun u hu => ?_
    simp only [Array.toList_append, List.mem_append] at hu
    rcases hu with (hu | hu) | hu
    · exact hys u hu
    · exact hnew u hu
    · exact zc k u hu
  have blk : ∀ (s k : Nat) (w' : World) (g : Nat), NoInt w' g → NoIntV w' (.slice (some ⟨g, 0, none⟩) s k) := by
    intro s k w' g h g' hg'
    simp [Value.ownBlock] at hg'
    subst hg'; exact h
  rcases hown.2 with ⟨rfl, rfl⟩ | ⟨g, cap, cur, rfl, hbg, hg, hnc, hcm, hcs, htake⟩
  · have hr := run_append_nil (P := P) w t ty e i z ht hi hz a m c news hl hnews (by omega) (by omega) (by have hb := hbytes; simp only [Nat.zero_add] at hb; omega)
    refine ⟨_, _, hr, blk _ _ _ _ ?_⟩
    have := newB [] (grownCap w m 0 e - m) (fun u hu => by cases hu)
    simpa using this
  · have hcur : ∀ u ∈ cur.toList, ∀ k z, u ≠ .int k z := by
      intro u hu k' z' he
      obtain ⟨j, hj, hju⟩ := List.getElem_of_mem hu
      refine hv g rfl j k' z' ?_
      rw [cell_of_row w g j cur e (0, 0) hg, ← he, ← hju]
      simp at hj
      simp [hj]
    by_cases hroom : n + m ≤ cap
    · have hfit : n * i.size + news.length ≤ cur.size := by rw [hl, hcs, ← Nat.add_mul]; exact Nat.mul_le_mul_right _ hroom
      have hr := run_append_room (P := P) w t ty e i ht hi g n cap cur hg a m c news hl hnews h1 hroom hfit
      refine ⟨_, _, hr, blk _ _ _ _ (noInt_cells (setRow_heap w g cur _ e _ hg) fun u hu => ?_)⟩
      simp only [List.mem_append] at hu
      rcases hu with (hu | hu) | hu
      · exact hcur u (List.mem_of_mem_take hu)
      · exact hnew u hu
      · exact hcur u (List.mem_of_mem_drop hu)
    · have holds : ∀ j u, xs[j]? = some u → w.cell? ((⟨g, 0, none⟩ : Addr).add j) = some u := hown.cells (g := g) rfl
      have hr := run_append_grow (P := P) w t ty e i z ht hi hz ⟨g, 0, none⟩ n cap xs hown.1 holds a m c news hl hnews (by omega) (by omega) (growslice_fits (by omega) hbytes)
      refine ⟨_, _, hr, blk _ _ _ _ (newB xs _ fun u hu => ?_)⟩
      rw [← htake] at hu
      exact hcur u (List.mem_of_mem_take hu)

/-- Both at once. -/
theorem wpList_append_noint {P : Program} (w : World) {ops : Array Oper} {rest : List Oper} {o : Oper} {a : Act} {Q : Exit → Act → World → Prop} (hgd : o.guard = none) (s x : Operand) (t : TypeId)
    (ho : o.op = .call { callee := .builtin .append, args := #[s, x], argTypes := #[t, t] })
    (base : Nat) (e : TypeId) (i : TypeInfo) (z : Value) (size bytes : Nat) (ht : P.underlying t = some (.slice e)) (hi : P.info? e = some i) (hz : i.zero = some z)
    (hsize : i.size = size) (hby : i.bytes = bytes) (hzs : z.cells.size = size) (hsz : 0 < size)
    (v : Value) (n : Nat) (xs : List Value) (hs : a.eval s = v) (hown : w.ownsRow base e size v n xs)
    (ad : Addr) (m c : Nat) (news : List Value) (hx : a.eval x = .slice (some ad) m c) (hl : news.length = m * size) (hnews : ∀ j u, news[j]? = some u → w.cell? (ad.add j) = some u) (h1 : ∀ u ∈ news, u.oneCell' = true)
    (h63 : n + m ≤ maxLen) (hbytes : (n + m) * bytes ≤ 140737488355328) (hbase : base ≤ w.heap.size) (hm : 0 < m)
    (hv : NoIntV w v) (hnew : ∀ u ∈ news, ∀ k z, u ≠ .int k z) (hzn : ∀ u ∈ z.cells.toList, ∀ k z, u ≠ .int k z)
    (h : ∀ v' w', w'.ownsRow base e size v' (n + m) (xs ++ news) → w.grownBy w' v.ownBlock → NoIntV w' v' → wpList P ops Q rest (a.put o.dst v') w') : wpList P ops Q (o :: rest) a w := by
  refine wpList_plain hgd fun K hK => ?_
  obtain ⟨v', w', hr, h2, h3, _⟩ := run_append_own (P := P) w base t o.type e i z size bytes ht hi hz hsize hby hzs hsz v n xs hown ad m c news hl hnews h1 h63 hbytes hbase
  obtain ⟨v2, w2, hr2, h4⟩ := run_append_noint (P := P) w base t o.type e i z size bytes ht hi hz hsize hby hzs hsz v n xs hown ad m c news hl hnews h1 h63 hbytes hm hv hnew hzn
  rw [hr] at hr2
  injection hr2 with e1 e2
  subst e1 e2
  unfold Oper.wp execOp
  simp only [ho, resolve, invoke, builtin, Sem.run_bind, Sem.run_pure, Result.andThen_ok, List.map_toArray, List.map_cons, List.map_nil, hs, hx, hr]
  exact hK _ _ (h v' w' h2 h3 h4)

end Go.Proofs.Ytkecdjdggkpdpab
