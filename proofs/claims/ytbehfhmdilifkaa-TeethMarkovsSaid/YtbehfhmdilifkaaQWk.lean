/- Za -/
import Derived.Test.YtbehfhmdilifkaaQWa
import Derived.Test.YtbehfhmdilifkaaQWc
import Derived.Test.YtbehfhmdilifkaaQWe
set_option linter.unusedVariables false
/- Walks of the reference's integers: sizes, lean. -/
namespace Go.Proofs.Ytbehfhmdilifkaa
open Go Go.RowKit Go.Proofs

/-- The base of the reference's digits; kept from the walk. -/
def B4 : Nat := 10000
theorem two_le_B4 : 2 ≤ B4 := by unfold B4; omega

/-- The slice holds a size in the reference's form: digits without zeros at the end. -/
def MagZ (w : World) (ao : Option Addr) (cap n : Nat) : Prop := L B4 n ≤ cap ∧ Dg .i64 w ao (digs B4 n)
theorem MagZ.below {w w' : World} {a : Option Addr} {c n B : Nat} (h : MagZ w a c n) (hb : Below B w w') (hB : w.heap.size ≤ B := by exact Nat.le_refl _) : MagZ w' a c n := ⟨h.1, h.2.below hb hB⟩
theorem MagZ.up {w w' : World} {a : Option Addr} {c n : Nat} (h : MagZ w a c n) (hb : Below w.heap.size w w') : MagZ w' a c n := h.below hb
theorem MagZ.zero (w : World) (a : Option Addr) (c : Nat) : MagZ w a c 0 := ⟨by simp [L_zero], by rw [digs_zero]; exact Dg.nil _ _ _⟩
theorem MagZ.setN {w : World} {a : Option Addr} {c n N : Nat} (h : MagZ w a c n) (hN : NoInt w N) (k : Nat) (v : Value) : MagZ (w.setCell ⟨N, k, none⟩ v) a c n := ⟨h.1, h.2.setN hN k v⟩

/-- How many digits an integer has; the slice holds an integer's size. -/
def LZ (z : Int) : Nat := L B4 z.natAbs
def ZM (w : World) (a : Option Addr) (c : Nat) (z : Int) : Prop := MagZ w a c z.natAbs
theorem ZM.up {w w' : World} {a : Option Addr} {c : Nat} {z : Int} (h : ZM w a c z) (hb : Below w.heap.size w w') : ZM w' a c z := MagZ.up h hb
theorem ZM.setN {w : World} {a : Option Addr} {c N : Nat} {z : Int} (h : ZM w a c z) (hN : NoInt w N) (k : Nat) (v : Value) : ZM (w.setCell ⟨N, k, none⟩ v) a c z := MagZ.setN h hN k v
def RetZ (w : World) (z : Int) (e : Ending) (w' : World) : Prop :=
  ∃ a c, e = .returned (.agg #[.bool (ng z), .slice a (LZ z) c]) ∧ ZM w' a c z ∧ Below w.heap.size w w'

set_option maxHeartbeats 400000 in
theorem sizes_any (a1 a2 : Option Addr) (c1 c2 x y : Nat) (w : World) (h1 : MagZ w a1 c1 x) (h2 : MagZ w a2 c2 y) (hb1 : L B4 x ≤ 1000000000) (hb2 : L B4 y ≤ 1000000000) :
    Calls Try.prog 95 #[.slice a1 (L B4 x) c1, .slice a2 (L B4 y) c2] w (CmpPost w x y) := by
  by_cases hlt : L B4 x < L B4 y
  · have ht : ((L B4 x : Int) != L B4 y) = true := by simp; omega
    have := lt_of_L_lt two_le_B4 hlt
    go_enter Try.func95, Try.ntmps95
    go_wp2
    go_ret
    exact ⟨ret_int (by simp [cmpN, this]), Below.refl _ _⟩
  by_cases hgt : L B4 y < L B4 x
  · have ht : ((L B4 x : Int) != L B4 y) = true := by simp; omega
    have := lt_of_L_lt two_le_B4 hgt
    go_enter Try.func95, Try.ntmps95
    go_wp2
    go_ret
    exact ⟨ret_int (by simp [cmpN, show ¬ x < y by omega, show ¬ x = y by omega]), Below.refl _ _⟩
  have heq : L B4 x = L B4 y := by omega
  have vx := val_digs two_le_B4 x
  have vy := val_digs two_le_B4 y
  have lx : (digs B4 x).length = L B4 x := rfl
  have ly : (digs B4 y).length = L B4 y := rfl
  have dx : Lt B4 (digs B4 x) := digs_lt two_le_B4 x
  have dy : Lt B4 (digs B4 y) := digs_lt two_le_B4 y
  have h1' := h1.2
  have h2' := h2.2
  generalize digs B4 x = xs at *
  generalize digs B4 y = ys at *
  rw [← heq] at ly ⊢
  have ht : ((L B4 x : Int) != L B4 x) = false := by simp
  have heH := Lib.hid heq
  have vxH := Lib.hid vx
  have vyH := Lib.hid vy
  have lxH := Lib.hid lx
  have lyH := Lib.hid ly
  generalize L B4 x = n at *
  clear heq vx vy lx ly h1 h2 hlt hgt
  go_enter Try.func95, Try.ntmps95
  go_wp2
  go_loopw [5] (fun s wr => ∃ k : Nat, k ≤ n ∧ s = .int .i64 ((k : Int) - 1) ∧ val B4 (xs.drop k) = val B4 (ys.drop k) ∧ Below w.heap.size w wr) (fun s _ => (intOf s + 1).toNat)
  case atStart => exact ⟨n, Nat.le_refl _, rfl, by rw [List.drop_of_length_le (by have := lxH.out; omega), List.drop_of_length_le (by have := lyH.out; omega)], Below.refl _ _⟩
  case round =>
    obtain ⟨k, hk, rfl, hr, hbl⟩ := hrel
    have hrH := Lib.hid hr
    clear hr
    by_cases hk0 : 0 < k
    · obtain ⟨b1, o1, p, hp, rfl, hc1⟩ := (h1'.below hbl).at (i := k - 1) (by have := lxH.out; omega)
      obtain ⟨b2, o2, q, hq, rfl, hc2⟩ := (h2'.below hbl).at (i := k - 1) (by have := lyH.out; omega)
      have hpH := Lib.hid hp
      have hqH := Lib.hid hq
      clear hp hq
      obtain ⟨wo, rfl⟩ : ∃ wo : World, wo = wr := ⟨_, rfl⟩
      have hsub : k - 1 + 1 = k := by omega
      have hsH := Lib.hid hsub
      clear hsub
      have i0 : (0 : Int) ≤ (k : Int) - 1 := by omega
      have i1 : (k : Int) - 1 < n := by omega
      by_cases hpq : p = q
      · subst hpq
        have ht2 : ¬ (p : Int) < p := by omega
        go_wp2
        go_quiet (fail)
        go_wp2
        go_quiet (fail)
        go_wp2
        all_goals
          go_roundw
          case rel => exact ⟨k - 1, by omega, by go_num, by rw [val_drop B4 xs (k - 1) p hpH.out, val_drop B4 ys (k - 1) p hqH.out, hsH.out, hrH.out], (by first | exact bdn hbl | exact bdn (bdn hbl))⟩
          case measure => simp [intOf]; omega
      · have e2 := hrH.out
        rw [← hsH.out] at e2
        by_cases hlt : p < q
        · have hfin := cmp_digit xs ys (by rw [lxH.out, lyH.out]) dx dy (k - 1) p q hpH.out hqH.out e2 hlt
          clear e2
          have hfH := Lib.hid hfin
          clear hfin
          go_wp2
          go_quiet (fail)
          go_wp2
          go_ret
          exact ⟨ret_int (by have := hfH.out; rw [vxH.out, vyH.out] at this; simp [cmpN, this]), (by first | exact bdn hbl | exact bdn (bdn hbl))⟩
        · have hfin := cmp_digit ys xs (by rw [lxH.out, lyH.out]) dy dx (k - 1) q p hqH.out hpH.out e2.symm (by omega)
          clear e2
          have hfH := Lib.hid hfin
          clear hfin
          go_wp2
          go_quiet (fail)
          go_wp2
          go_quiet (fail)
          go_wp2
          go_ret
          exact ⟨ret_int (by have := hfH.out; rw [vxH.out, vyH.out] at this; simp [cmpN, show ¬ x < y by omega, show ¬ x = y by omega]), (by first | exact bdn hbl | exact bdn (bdn hbl))⟩
    · go_wp2
      go_ret
      have hk00 : k = 0 := by omega
      exact ⟨ret_int (by have := hrH.out; rw [hk00, List.drop_zero, List.drop_zero, vxH.out, vyH.out] at this; simp [cmpN, this]), hbl⟩

theorem Rg.slf {N n : Nat} {V w : World} (h : Rg N n V w) : Rg N n w w := Rg.mk (Below.refl _ _) (fun o ho => by rw [h.2.1 o ho]; rfl) h.2.2.1 h.2.2.2.1

theorem info_int : (Try.prog.info? 3).map (fun i => (i.zero, i.size, i.bytes)) = some (some (.int .i64 0), 1, 8) := by kernel_rfl

/-- 'append([]int{}, x...)': a copy. -/
theorem wpList_append_copy0 {P : Program} (w : World) {ops : Array Oper} {rest : List Oper} {o : Oper} {a : Act} {Q : Exit → Act → World → Prop} (hg : o.guard = none) (s x : Operand) (t : TypeId)
    (ho : o.op = .call { callee := .builtin .append, args := #[s, x], argTypes := #[t, t] }) (e : TypeId) (K : IntKind) (bytes : Nat) (h1 : P.underlying t = some (.slice e))
    (hinfo : (P.info? e).map (fun i => (i.zero, i.size, i.bytes)) = some (some (.int K 0), 1, bytes)) (hby : bytes ≤ 8) (w0 : World) (hw : w = w0.alloc (.cells #[] e))
    (hs : a.eval s = .slice (some ⟨w0.heap.size, 0, none⟩) 0 0) (ao : Option Addr) (n c : Nat) (xs : List Nat) (hx : a.eval x = .slice ao n c) (hd : Dg K w ao xs) (hn : xs.length = n) (hb : n ≤ 4000000000)
    (hK : ∀ ao' c' w', n ≤ c' → Dg K w' ao' xs → Below w0.heap.size w w' → (∀ ad, ao' = some ad → w0.heap.size ≤ ad.block) → wpList P ops Q rest (a.put o.dst (.slice ao' n c')) w') : wpList P ops Q (o :: rest) a w := by
  obtain ⟨i, h2, h3, h4, h5⟩ := info_parts hinfo
  have hz : w0.heap.size ≤ w.heap.size := by rw [hw]; simp
  rcases ao with _ | ad
  · have hn0 : n = 0 := by
      rcases Nat.eq_zero_or_pos n with h0 | h0
      · exact h0
      · obtain ⟨b, o', x, _, hae, _⟩ := hd.at (i := 0) (by omega)
        cases hae
    subst hn0
    have hxs : xs = [] := List.eq_nil_of_length_eq_zero hn
    subst hxs
    refine wpList_plain hg fun K' hK' => ?_
    have hrun : (Builtin.append_ #[t, t] o.type #[.slice (some ⟨w0.heap.size, 0, none⟩) 0 0, .slice none 0 c]).run P w = .ok (.slice (some ⟨w0.heap.size, 0, none⟩) 0 0) w := by
      simp [Builtin.append_, run_underlying h1, sizeOf, typeInfo, h2, Builtin.lenOf, Builtin.firstCells, storeCells, Result.andThen]
    unfold Oper.wp
    simp [execOp, ho, resolve, invoke, builtin, hs, hx, hrun, Result.andThen]
    exact hK' _ _ (hK _ 0 w (Nat.le_refl _) (Dg.nil _ _ _) ((Below.refl _ _).mono hz) (fun ad h => by injection h with h; subst h; exact Nat.le_refl _))
  · have hlit : w.ownsRow w0.heap.size e 1 (.slice (some ⟨w0.heap.size, 0, none⟩) 0 0) 0 [] := by
      rw [hw]
      exact World.ownsRow_lit (base := w0.heap.size) (size := 1) (e := e) w0 #[] 0 (Nat.le_refl _) (by unfold maxLen; omega) rfl
    refine wpList_append_own w hg s x t ho w0.heap.size e i (.int K 0) 1 bytes h1 h2 h3 h4 h5 rfl (by omega) (.slice (some ⟨w0.heap.size, 0, none⟩) 0 0) 0 [] hs hlit ad n c
      (xs.map fun x : Nat => Value.int K x) hx (by simp [hn]) ?_ ?_ (by unfold maxLen; omega) ?_ hz ?_
    · intro j u hu
      rw [List.getElem?_map] at hu
      obtain ⟨y, hy, rfl⟩ := Option.map_eq_some_iff.1 hu
      obtain ⟨b, o', hae, hc⟩ := hd j y hy
      injection hae with hae
      subst hae
      rw [Addr.add_lit]
      exact hc
    · intro u hu
      obtain ⟨y, _, rfl⟩ := List.mem_map.1 hu
      rfl
    · have : (0 + n) * bytes ≤ 4000000000 * 8 := Nat.mul_le_mul (by omega) hby
      omega
    · intro v' w' hown hgr _
      obtain ⟨ao', c', hv⟩ := own_shape hown
      have hlt := World.ownsRow.lt hown
      rw [Nat.zero_add] at hv
      subst hv
      rw [List.nil_append, Nat.zero_add] at hown
      obtain ⟨_, e2, e3⟩ := dg_of_own hown
      exact hK ao' c' w' e2 e3 ((Below.refl _ _).grown hgr hz (fun k hk => by simp [Value.ownBlock] at hk; omega)) (fun ad h => (hlt ad.block (by rw [h]; rfl)).1)

/-- 'append([]int{x}, xs...)': a copy with one more ahead. -/
theorem wpList_append_cons {P : Program} (w : World) {ops : Array Oper} {rest : List Oper} {o : Oper} {a : Act} {Q : Exit → Act → World → Prop} (hg : o.guard = none) (s x : Operand) (t : TypeId)
    (ho : o.op = .call { callee := .builtin .append, args := #[s, x], argTypes := #[t, t] }) (e : TypeId) (K : IntKind) (bytes : Nat) (h1 : P.underlying t = some (.slice e))
    (hinfo : (P.info? e).map (fun i => (i.zero, i.size, i.bytes)) = some (some (.int K 0), 1, bytes)) (hby : bytes ≤ 8) (w0 : World) (y : Nat) (hw : w = w0.alloc (.cells #[.int K (y : Nat)] e))
    (hs : a.eval s = .slice (some ⟨w0.heap.size, 0, none⟩) 1 1) (ao : Option Addr) (n c : Nat) (xs : List Nat) (hx : a.eval x = .slice ao n c) (hd : Dg K w ao xs) (hn : xs.length = n) (hb : n ≤ 2000000000)
    (hK : ∀ ao' c' w', n + 1 ≤ c' → Dg K w' ao' (y :: xs) → Below w0.heap.size w w' → wpList P ops Q rest (a.put o.dst (.slice ao' (n + 1) c')) w') : wpList P ops Q (o :: rest) a w := by
  obtain ⟨i, h2, h3, h4, h5⟩ := info_parts hinfo
  have hz : w0.heap.size ≤ w.heap.size := by rw [hw]; simp
  have hlit : w.ownsRow w0.heap.size e 1 (.slice (some ⟨w0.heap.size, 0, none⟩) 1 1) 1 [.int K (y : Nat)] := by
    rw [hw]
    exact World.ownsRow_lit (base := w0.heap.size) (size := 1) (e := e) w0 #[.int K (y : Nat)] 1 (Nat.le_refl _) (by unfold maxLen; omega) rfl
  rcases ao with _ | ad
  · have hn0 : n = 0 := by
      rcases Nat.eq_zero_or_pos n with h0 | h0
      · exact h0
      · obtain ⟨b, o', x, _, hae, _⟩ := hd.at (i := 0) (by omega)
        cases hae
    subst hn0
    have hxs : xs = [] := List.eq_nil_of_length_eq_zero hn
    subst hxs
    obtain ⟨_, _, hd1⟩ := dg_of_own (K := K) (xs := [y]) hlit
    refine wpList_plain hg fun K' hK' => ?_
    have hrun : (Builtin.append_ #[t, t] o.type #[.slice (some ⟨w0.heap.size, 0, none⟩) 1 1, .slice none 0 c]).run P w = .ok (.slice (some ⟨w0.heap.size, 0, none⟩) 1 1) w := by
      simp [Builtin.append_, run_underlying h1, sizeOf, typeInfo, h2, Builtin.lenOf, Builtin.firstCells, storeCells, Result.andThen]
    unfold Oper.wp
    simp [execOp, ho, resolve, invoke, builtin, hs, hx, hrun, Result.andThen]
    exact hK' _ _ (hK _ 1 w (Nat.le_refl _) hd1 ((Below.refl _ _).mono hz))
  · refine wpList_append_own w hg s x t ho w0.heap.size e i (.int K 0) 1 bytes h1 h2 h3 h4 h5 rfl (by omega) (.slice (some ⟨w0.heap.size, 0, none⟩) 1 1) 1 [.int K (y : Nat)] hs hlit ad n c
      (xs.map fun x : Nat => Value.int K x) hx (by simp [hn]) ?_ ?_ (by unfold maxLen; omega) ?_ hz ?_
    · intro j u hu
      rw [List.getElem?_map] at hu
      obtain ⟨y, hy, rfl⟩ := Option.map_eq_some_iff.1 hu
      obtain ⟨b, o', hae, hc⟩ := hd j y hy
      injection hae with hae
      subst hae
      rw [Addr.add_lit]
      exact hc
    · intro u hu
      obtain ⟨y, _, rfl⟩ := List.mem_map.1 hu
      rfl
    · have : (1 + n) * bytes ≤ 4000000000 * 8 := Nat.mul_le_mul (by omega) hby
      omega
    · intro v' w' hown hgr _
      obtain ⟨ao', c', hv⟩ := own_shape hown
      rw [Nat.add_comm] at hv
      subst hv
      rw [Nat.add_comm] at hown
      obtain ⟨_, e2, e3⟩ := dg_of_own (K := K) (xs := y :: xs) hown
      exact hK ao' c' w' (by omega) e3 ((Below.refl _ _).grown hgr hz (fun k hk => by simp [Value.ownBlock] at hk; omega))

end Go.Proofs.Ytbehfhmdilifkaa
