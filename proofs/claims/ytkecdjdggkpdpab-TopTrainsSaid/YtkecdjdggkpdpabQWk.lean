/- Za Zb Zc Zd -/
import Derived.Test.YtkecdjdggkpdpabQWa
import Derived.Test.YtkecdjdggkpdpabQWc
import Derived.Test.YtkecdjdggkpdpabQWe
set_option linter.unusedVariables false
/- Walks of the reference's integers: sizes, lean. -/
namespace Go.Proofs.Ytkecdjdggkpdpab
open Go Go.RowKit Go.Proofs

/-- The base of the reference's digits; kept from the walk. -/
def B4 : Nat := 10000
theorem two_le_B4 : 2 ≤ B4 := by unfold B4; omega

/-- The slice holds a size in the reference's form: digits without zeros at the end. -/
def MagZ (w : World) (ao : Option Addr) (cap n : Nat) : Prop := L B4 n ≤ cap ∧ Dg .i64 w ao (digs B4 n)
theorem MagZ.below {w w' : World} {a : Option Addr} {c n B : Nat} (h : MagZ w a c n) (hb : Below B w w') (hB : w.heap.size ≤ B := by exact Nat.le_refl _) : MagZ w' a c n := ⟨h.1, h.2.below hb hB⟩
theorem MagZ.up {w w' : World} {a : Option Addr} {c n : Nat} (h : MagZ w a c n) (hb : Below w.heap.size w w') : MagZ w' a c n := h.below hb
theorem MagZ.zero (w : World) (a : Option Addr) (c : Nat) : MagZ w a c 0 := ⟨by simp [L_zero], by rw [digs_zero]; exact Dg.nil _ _ _⟩
theorem MagZ.setN {w : World} {a : Option Addr} {c n N : Nat} (h : MagZ w a c n) (hN : NoInt w N) (k : Nat) (v : Value) : MagZ (w.setCell ⟨N, k, none⟩ v) a c n := ⟨h.1, h.2.setN hN k v⟩

/-- How many digits an integer has; the slice holds an integer's size. -/
def LZ (z : Int) : Nat := L B4 z.natAbs
def ZM (w : World) (a : Option Addr) (c : Nat) (z : Int) : Prop := MagZ w a c z.natAbs
theorem ZM.up {w w' : World} {a : Option Addr} {c : Nat} {z : Int} (h : ZM w a c z) (hb : Below w.heap.size w w') : ZM w' a c z := MagZ.up h hb
theorem ZM.setN {w : World} {a : Option Addr} {c N : Nat} {z : Int} (h : ZM w a c z) (hN : NoInt w N) (k : Nat) (v : Value) : ZM (w.setCell ⟨N, k, none⟩ v) a c z := MagZ.setN h hN k v
def RetZ (w : World) (z : Int) (e : Ending) (w' : World) : Prop :=
  ∃ a c, e = .returned (.agg #[.bool (ng z), .slice a (LZ z) c]) ∧ ZM w' a c z ∧ Below w.heap.size w w'

set_option maxHeartbeats 400000 in
theorem sizes_any (a1 a2 : Option Addr) (c1 c2 x y : Nat) (w : World) (h1 : MagZ w a1 c1 x) (h2 : MagZ w a2 c2 y) (hb1 : L B4 x ≤ 1000000000) (hb2 : L B4 y ≤ 1000000000) :
    Calls Try.prog 66 #[.slice a1 (L B4 x) c1, .slice a2 (L B4 y) c2] w (CmpPost w x y) := by
  by_cases hlt : L B4 x < L B4 y
  · have ht : ((L B4 x : Int) != L B4 y) = true := by simp; omega
    have := lt_of_L_lt two_le_B4 hlt
    go_enter Try.func66, Try.ntmps66
    go_wp2
    go_ret
    exact ⟨ret_int (by simp [cmpN, this]), Below.refl _ _⟩
  by_cases hgt : L B4 y < L B4 x
  · have ht : ((L B4 x : Int) != L B4 y) = true := by simp; omega
    have := lt_of_L_lt two_le_B4 hgt
    go_enter Try.func66, Try.ntmps66
    go_wp2
    go_ret
    exact ⟨ret_int (by simp [cmpN, show ¬ x < y by omega, show ¬ x = y by omega]), Below.refl _ _⟩
  have heq : L B4 x = L B4 y := by omega
  have vx := val_digs two_le_B4 x
  have vy := val_digs two_le_B4 y
  have lx : (digs B4 x).length = L B4 x := rfl
  have ly : (digs B4 y).length = L B4 y := rfl
  have dx : Lt B4 (digs B4 x) := digs_lt two_le_B4 x
  have dy : Lt B4 (digs B4 y) := digs_lt two_le_B4 y
  have h1' := h1.2
  have h2' := h2.2
  generalize digs B4 x = xs at *
  generalize digs B4 y = ys at *
  rw [← heq] at ly ⊢
  have ht : ((L B4 x : Int) != L B4 x) = false := by simp
  have heH := Lib.hid heq
  have vxH := Lib.hid vx
  have vyH := Lib.hid vy
  have lxH := Lib.hid lx
  have lyH := Lib.hid ly
  generalize L B4 x = n at *
  clear heq vx vy lx ly h1 h2 hlt hgt
  go_enter Try.func66, Try.ntmps66
  go_wp2
  go_loopw [5] (fun s wr => ∃ k : Nat, k ≤ n ∧ s = .int .i64 ((k : Int) - 1) ∧ val B4 (xs.drop k) = val B4 (ys.drop k) ∧ Below w.heap.size w wr) (fun s _ => (intOf s + 1).toNat)
  case atStart => exact ⟨n, Nat.le_refl _, rfl, by rw [List.drop_of_length_le (by have := lxH.out; omega), List.drop_of_length_le (by have := lyH.out; omega)], Below.refl _ _⟩
  case round =>
    obtain ⟨k, hk, rfl, hr, hbl⟩ := hrel
    have hrH := Lib.hid hr
    clear hr
    by_cases hk0 : 0 < k
    · obtain ⟨b1, o1, p, hp, rfl, hc1⟩ := (h1'.below hbl).at (i := k - 1) (by have := lxH.out; omega)
      obtain ⟨b2, o2, q, hq, rfl, hc2⟩ := (h2'.below hbl).at (i := k - 1) (by have := lyH.out; omega)
      have hpH := Lib.hid hp
      have hqH := Lib.hid hq
      clear hp hq
      obtain ⟨wo, rfl⟩ : ∃ wo : World, wo = wr := ⟨_, rfl⟩
      have hsub : k - 1 + 1 = k := by omega
      have hsH := Lib.hid hsub
      clear hsub
      have i0 : (0 : Int) ≤ (k : Int) - 1 := by omega
      have i1 : (k : Int) - 1 < n := by omega
      by_cases hpq : p = q
      · subst hpq
        have ht2 : ¬ (p : Int) < p := by omega
        go_wp2
        go_quiet (fail)
        go_wp2
        go_quiet (fail)
        go_wp2
        all_goals
          go_roundw
          case rel => exact ⟨k - 1, by omega, by go_num, by rw [val_drop B4 xs (k - 1) p hpH.out, val_drop B4 ys (k - 1) p hqH.out, hsH.out, hrH.out], (by first | exact bdn hbl | exact bdn (bdn hbl))⟩
          case measure => simp [intOf]; omega
      · have e2 := hrH.out
        rw [← hsH.out] at e2
        by_cases hlt : p < q
        · have hfin := cmp_digit xs ys (by rw [lxH.out, lyH.out]) dx dy (k - 1) p q hpH.out hqH.out e2 hlt
          clear e2
          have hfH := Lib.hid hfin
          clear hfin
          go_wp2
          go_quiet (fail)
          go_wp2
          go_ret
          exact ⟨ret_int (by have := hfH.out; rw [vxH.out, vyH.out] at this; simp [cmpN, this]), (by first | exact bdn hbl | exact bdn (bdn hbl))⟩
        · have hfin := cmp_digit ys xs (by rw [lxH.out, lyH.out]) dy dx (k - 1) q p hqH.out hpH.out e2.symm (by omega)
          clear e2
          have hfH := Lib.hid hfin
          clear hfin
          go_wp2
          go_quiet (fail)
          go_wp2
          go_quiet (fail)
          go_wp2
          go_ret
          exact ⟨ret_int (by have := hfH.out; rw [vxH.out, vyH.out] at this; simp [cmpN, show ¬ x < y by omega, show ¬ x = y by omega]), (by first | exact bdn hbl | exact bdn (bdn hbl))⟩
    · go_wp2
      go_ret
      have hk00 : k = 0 := by omega
      exact ⟨ret_int (by have := hrH.out; rw [hk00, List.drop_zero, List.drop_zero, vxH.out, vyH.out] at this; simp [cmpN, this]), hbl⟩

theorem Rg.slf {N n : Nat} {V w : World} (h : Rg N n V w) : Rg N n w w := Rg.mk (Below.refl _ _) (fun o ho => by rw [h.2.1 o ho]; rfl) h.2.2.1 h.2.2.2.1

theorem info_int : (Try.prog.info? 3).map (fun i => (i.zero, i.size, i.bytes)) = some (some (.int .i64 0), 1, 8) := by kernel_rfl

/-- 'append([]int{}, x...)': a copy. -/
theorem wpList_append_copy0 {P : Program} (w : World) {ops : Array Oper} {rest : List Oper} {o : Oper} {a : Act} {Q : Exit → Act → World → Prop} (hg : o.guard = none) (s x : Operand) (t : TypeId)
    (ho : o.op = .call { callee := .builtin .append, args := #[s, x], argTypes := #[t, t] }) (e : TypeId) (K : IntKind) (bytes : Nat) (h1 : P.underlying t = some (.slice e))
    (hinfo : (P.info? e).map (fun i => (i.zero, i.size, i.bytes)) = some (some (.int K 0), 1, bytes)) (hby : bytes ≤ 8) (w0 : World) (hw : w = w0.alloc (.cells #[] e))
    (hs : a.eval s = .slice (some ⟨w0.heap.size, 0, none⟩) 0 0) (ao : Option Addr) (n c : Nat) (xs : List Nat) (hx : a.eval x = .slice ao n c) (hd : Dg K w ao xs) (hn : xs.length = n) (hb : n ≤ 4000000000)
    (hK : ∀ ao' c' w', n ≤ c' → Dg K w' ao' xs → Below w0.heap.size w w' → (∀ ad, ao' = some ad → w0.heap.size ≤ ad.block) → wpList P ops Q rest (a.put o.dst (.slice ao' n c')) w') : wpList P ops Q (o :: rest) a w := by
  obtain ⟨i, h2, h3, h4, h5⟩ := info_parts hinfo
  have hz : w0.heap.size ≤ w.heap.size := by rw [hw]; simp
  rcases ao with _ | ad
  · have hn0 : n = 0 := by
      rcases Nat.eq_zero_or_pos n with h0 | h0
      · exact h0
      · obtain ⟨b, o', x, _, hae, _⟩ := hd.at (i := 0) (by omega)
        cases hae
    subst hn0
    have hxs : xs = [] := List.eq_nil_of_length_eq_zero hn
    subst hxs
    refine wpList_plain hg fun K' hK' => ?_
    have hrun : (Builtin.append_ #[t, t] o.type #[.slice (some ⟨w0.heap.size, 0, none⟩) 0 0, .slice none 0 c]).run P w = .ok (.slice (some ⟨w0.heap.size, 0, none⟩) 0 0) w := by
      simp [Builtin.append_, run_underlying h1, sizeOf, typeInfo, h2, Builtin.lenOf, Builtin.firstCells, storeCells, Result.andThen]
    unfold Oper.wp
    simp [execOp, ho, resolve, invoke, builtin, hs, hx, hrun, Result.andThen]
    exact hK' _ _ (hK _ 0 w (Nat.le_refl _) (Dg.nil _ _ _) ((Below.refl _ _).mono hz) (fun ad h => by injection h with h; subst h; exact Nat.le_refl _))
  · have hlit : w.ownsRow w0.heap.size e 1 (.slice (some ⟨w0.heap.size, 0, none⟩) 0 0) 0 [] := by
      rw [hw]
      exact World.ownsRow_lit (base := w0.heap.size) (size := 1) (e := e) w0 #[] 0 (Nat.le_refl _) (by unfold maxLen; omega) rfl
    refine wpList_append_own w hg s x t ho w0.heap.size e i (.int K 0) 1 bytes h1 h2 h3 h4 h5 rfl (by omega) (.slice (some ⟨w0.heap.size, 0, none⟩) 0 0) 0 [] hs hlit ad n c
      (xs.map fun x : Nat => Value.int K x) hx (by simp [hn]) ?_ ?_ (by unfold maxLen; omega) ?_ hz ?_
    · intro j u hu
      rw [List.getElem?_map] at hu
      obtain ⟨y, hy, rfl⟩ := Option.map_eq_some_iff.1 hu
      obtain ⟨b, o', hae, hc⟩ := hd j y hy
      injection hae with hae
      subst hae
      rw [Addr.add_lit]
      exact hc
    · intro u hu
      obtain ⟨y, _, rfl⟩ := List.mem_map.1 hu
      rfl
    · have : (0 + n) * bytes ≤ 4000000000 * 8 := Nat.mul_le_mul (by omega) hby
      omega
    · intro v' w' hown hgr _
      obtain ⟨ao', c', hv⟩ := own_shape hown
      have hlt := World.ownsRow.lt hown
      rw [Nat.zero_add] at hv
      subst hv
      rw [List.nil_append, Nat.zero_add] at hown
      obtain ⟨_, e2, e3⟩ := dg_of_own hown
      exact hK ao' c' w' e2 e3 ((Below.refl _ _).grown hgr hz (fun k hk => by simp [Value.ownBlock] at hk; omega)) (fun ad h => (hlt ad.block (by rw [h]; rfl)).1)

/-- 'append([]int{x}, xs...)': a copy with one more ahead. -/
theorem wpList_append_cons {P : Program} (w : World) {ops : Array Oper} {rest : List Oper} {o : Oper} {a : Act} {Q : Exit → Act → World → Prop} (hg : o.guard = none) (s x : Operand) (t : TypeId)
    (ho : o.op = .call { callee := .builtin .append, args := #[s, x], argTypes := #[t, t] }) (e : TypeId) (K : IntKind) (bytes : Nat) (h1 : P.underlying t = some (.slice e))
    (hinfo : (P.info? e).map (fun i => (i.zero, i.size, i.bytes)) = some (some (.int K 0), 1, bytes)) (hby : bytes ≤ 8) (w0 : World) (y : Nat) (hw : w = w0.alloc (.cells #[.int K (y : Nat)] e))
    (hs : a.eval s = .slice (some ⟨w0.heap.size, 0, none⟩) 1 1) (ao : Option Addr) (n c : Nat) (xs : List Nat) (hx : a.eval x = .slice ao n c) (hd : Dg K w ao xs) (hn : xs.length = n) (hb : n ≤ 2000000000)
    (hK : ∀ ao' c' w', n + 1 ≤ c' → Dg K w' ao' (y :: xs) → Below w0.heap.size w w' → wpList P ops Q rest (a.put o.dst (.slice ao' (n + 1) c')) w') : wpList P ops Q (o :: rest) a w := by
  obtain ⟨i, h2, h3, h4, h5⟩ := info_parts hinfo
  have hz : w0.heap.size ≤ w.heap.size := by rw [hw]; simp
  have hlit : w.ownsRow w0.heap.size e 1 (.slice (some ⟨w0.heap.size, 0, none⟩) 1 1) 1 [.int K (y : Nat)] := by
    rw [hw]
    exact World.ownsRow_lit (base := w0.heap.size) (size := 1) (e := e) w0 #[.int K (y : Nat)] 1 (Nat.le_refl _) (by unfold maxLen; omega) rfl
  rcases ao with _ | ad
  · have hn0 : n = 0 := by
      rcases Nat.eq_zero_or_pos n with h0 | h0
      · exact h0
      · obtain ⟨b, o', x, _, hae, _⟩ := hd.at (i := 0) (by omega)
        cases hae
    subst hn0
    have hxs : xs = [] := List.eq_nil_of_length_eq_zero hn
    subst hxs
    obtain ⟨_, _, hd1⟩ := dg_of_own (K := K) (xs := [y]) hlit
    refine wpList_plain hg fun K' hK' => ?_
    have hrun : (Builtin.append_ #[t, t] o.type #[.slice (some ⟨w0.heap.size, 0, none⟩) 1 1, .slice none 0 c]).run P w = .ok (.slice (some ⟨w0.heap.size, 0, none⟩) 1 1) w := by
      simp [Builtin.append_, run_underlying h1, sizeOf, typeInfo, h2, Builtin.lenOf, Builtin.firstCells, storeCells, Result.andThen]
    unfold Oper.wp
    simp [execOp, ho, resolve, invoke, builtin, hs, hx, hrun, Result.andThen]
    exact hK' _ _ (hK _ 1 w (Nat.le_refl _) hd1 ((Below.refl _ _).mono hz))
  · refine wpList_append_own w hg s x t ho w0.heap.size e i (.int K 0) 1 bytes h1 h2 h3 h4 h5 rfl (by omega) (.slice (some ⟨w0.heap.size, 0, none⟩) 1 1) 1 [.int K (y : Nat)] hs hlit ad n c
      (xs.map fun x : Nat => Value.int K x) hx (by simp [hn]) ?_ ?_ (by unfold maxLen; omega) ?_ hz ?_
    · intro j u hu
      rw [List.getElem?_map] at hu
      obtain ⟨y, hy, rfl⟩ := Option.map_eq_some_iff.1 hu
      obtain ⟨b, o', hae, hc⟩ := hd j y hy
      injection hae with hae
      subst hae
      rw [Addr.add_lit]
      exact hc
    · intro u hu
      obtain ⟨y, _, rfl⟩ := List.mem_map.1 hu
      rfl
    · have : (1 + n) * bytes ≤ 4000000000 * 8 := Nat.mul_le_mul (by omega) hby
      omega
    · intro v' w' hown hgr _
      obtain ⟨ao', c', hv⟩ := own_shape hown
      rw [Nat.add_comm] at hv
      subst hv
      rw [Nat.add_comm] at hown
      obtain ⟨_, e2, e3⟩ := dg_of_own (K := K) (xs := y :: xs) hown
      exact hK ao' c' w' (by omega) e3 ((Below.refl _ _).grown hgr hz (fun k hk => by simp [Value.ownBlock] at hk; omega))

end Go.Proofs.Ytkecdjdggkpdpab

/- Walks of the reference's integers: lean. -/
namespace Go.Proofs.Ytkecdjdggkpdpab
open Go Go.RowKit Go.Proofs

theorem MagZ.raw {w : World} {a : Option Addr} {c : Nat} {xs : List Nat} (hl : Lt B4 xs) (k : Nat) (hk : k ≤ xs.length) (hv : val B4 (xs.take k) = val B4 xs)
    (hz : k = 0 ∨ ∃ x, xs[k - 1]? = some x ∧ x ≠ 0) (h : Dg .i64 w a (xs.take k)) (hc : k ≤ c) : L B4 (val B4 xs) = k ∧ MagZ w a c (val B4 xs) := by
  obtain ⟨e1, e2⟩ := trimmed two_le_B4 xs hl k hk hv hz
  exact ⟨e2, by rw [e2]; omega, by rw [e1]; exact h⟩

theorem LZ_sgn (s : Bool) (n : Nat) : LZ (sgn s n) = L B4 n := by unfold LZ; rw [natAbs_sgn]

/-- .. and where the digits lie: in new memory. -/
def RetZA (w : World) (z : Int) (e : Ending) (w' : World) : Prop :=
  ∃ a c, e = .returned (.agg #[.bool (ng z), .slice a (LZ z) c]) ∧ ZM w' a c z ∧ Below w.heap.size w w' ∧ ∀ ad, a = some ad → w.heap.size ≤ ad.block
theorem RetZA.ret {w w' : World} {z : Int} {e : Ending} (h : RetZA w z e w') : RetZ w z e w' := by
  obtain ⟨a, c, h1, h2, h3, _⟩ := h
  exact ⟨a, c, h1, h2, h3⟩

theorem RetZ.fin {w w' : World} {a : Option Addr} {c k n : Nat} {s b : Bool} (hL : L B4 n = k) (hM : MagZ w' a c n) (hb : b = (s && decide (0 < k))) (hbl : Below w.heap.size w w') (hat : ∀ ad, a = some ad → w.heap.size ≤ ad.block) :
    RetZA w (sgn s n) (.returned (.agg #[.bool b, .slice a k c])) w' := by
  subst hL
  refine ⟨a, c, ?_, ?_, hbl, hat⟩
  · rw [LZ_sgn, ng_sgn, hb]
    have : decide (0 < L B4 n) = decide (0 < n) := by
      have := @L_eq_zero B4 n two_le_B4
      by_cases h : n = 0
      · subst h; simp [L_zero]
      · have h1 : 0 < n := by omega
        have h2 : 0 < L B4 n := by omega
        simp [h1, h2]
    rw [this]
  · unfold ZM; rw [natAbs_sgn]; exact hM

theorem Rg.old2 (w : World) (x y : Value) (T : TypeId) (o : Obj) (hx : ∀ k z, x ≠ .int k z) (hy : ∀ k z, y ≠ .int k z) :
    Rg w.heap.size 2 ((w.alloc (Obj.cells #[x, y] T)).alloc o) ((w.alloc (Obj.cells #[x, y] T)).alloc o) := by
  have hb : Below (w.alloc (Obj.cells #[x, y] T)).heap.size (w.alloc (Obj.cells #[x, y] T)) ((w.alloc (Obj.cells #[x, y] T)).alloc o) := (Below.refl _ _).alloc (Nat.le_refl _) o
  refine Rg.slf (V := w.alloc (Obj.cells #[x, y] T)) (Rg.step (Rg.mk (Below.refl _ _) (fun i hi => ?_) (fun i => by simp [go_sem]) (noInt2 (heap_alloc_new w _) hx hy)) (by omega) hb)
  rcases i with _ | _ | i
  · simp [go_sem]
  · simp [go_sem]
  · omega

theorem MagZ.chain {w : World} {a : Option Addr} {c n g g' : Nat} (h : MagZ w a c n) (n0 : NoInt w g) (n1 : NoInt w g') (b b' : Bool) (x x' : Option Addr) (m m' d d' : Nat) :
    MagZ ((((w.setCell ⟨g, 1, none⟩ (.slice x m d)).setCell ⟨g, 0, none⟩ (.bool b)).setCell ⟨g', 0, none⟩ (.bool b')).setCell ⟨g', 1, none⟩ (.slice x' m' d')) a c n := by
  have s1 := n0.set ⟨g, 1, none⟩ (.slice x m d) (by intro _ _ h; cases h)
  have t1 := n1.set ⟨g, 1, none⟩ (.slice x m d) (by intro _ _ h; cases h)
  have t2 := t1.set ⟨g, 0, none⟩ (.bool b) (by intro _ _ h; cases h)
  have t3 := t2.set ⟨g', 0, none⟩ (.bool b') (by intro _ _ h; cases h)
  exact (((h.setN n0 1 _).setN s1 0 _).setN t2 0 _).setN t3 1 _

theorem cell_b {B : Nat} {W w : World} {b o : Nat} {v : Value} (hb : Below B W w) (hB : b < B) (h : W.cell? ⟨b, o, none⟩ = some v) : w.cell? ⟨b, o, none⟩ = some v := by
  rw [hb.cell (p := ⟨b, o, none⟩) hB]; exact h

set_option maxRecDepth 100000 in
set_option maxHeartbeats 1600000 in
theorem lean_true (a1 : Option Addr) (c : Nat) (xs : List Nat) (w : World) (h : Dg .i64 w a1 xs) (hx : Lt B4 xs) (hc : xs.length ≤ c) (hb : xs.length ≤ 4000000000) :
    Calls Try.prog 65 #[.agg #[.bool true, .slice a1 xs.length c]] w (RetZA w (sgn true (val B4 xs))) := by
  obtain ⟨n, hn⟩ : ∃ n, n = xs.length := ⟨_, rfl⟩
  rw [← hn] at hb hc ⊢
  obtain ⟨V, hV⟩ : ∃ V, V = (w.alloc (Obj.cells #[.bool true, .slice a1 n c] 40)).alloc (Obj.cells #[.bool false, .slice none 0 0] 40) := ⟨_, rfl⟩
  have e0 : V.cell? ⟨w.heap.size, 0, none⟩ = some (.bool true) := by rw [hV]; simp [go_sem]
  have e1 : V.cell? ⟨w.heap.size, 1, none⟩ = some (.slice a1 n c) := by rw [hV]; simp [go_sem]
  have e2 : V.cell? ⟨w.heap.size + 1, 0, none⟩ = some (.bool false) := by rw [hV]; simp [go_sem]
  have e3 : V.cell? ⟨w.heap.size + 1, 1, none⟩ = some (.slice none 0 0) := by rw [hV]; simp [go_sem]
  have hbl : Below w.heap.size w V := by rw [hV]; go_grown
  have R1 : Hid (Rg (w.heap.size + 1) 2 V V) := by rw [hV]; exact Rg.new2 _ _ _ (by simp)
  have R0 : Hid (Rg w.heap.size 2 V V) := by rw [hV]; exact Rg.old2 _ _ _ _ _ (by intro _ _ h; cases h) (by intro _ _ h; cases h)
  have hsz : V.heap.size = w.heap.size + 2 := by rw [hV]; simp
  have h0s : w.heap.size < V.heap.size := by omega
  have h1s : w.heap.size + 1 < V.heap.size := by omega
  have hD2 : Hid (Dg .i64 (V.alloc (Obj.cells #[] 3)) a1 xs) := (h.below hbl).below ((Below.refl _ _).alloc (Nat.le_refl _) _)
  have hD := Lib.hid (h.below hbl)
  have hVH := Lib.hid hV
  have hblH := Lib.hid hbl
  have hxH := Lib.hid hx
  have hnH := Lib.hid hn
  clear hV hbl hsz hn hx h
  go_enter Try.func65, Try.ntmps65
  go_wp2_with (fail)
  rw [← hVH.out]
  go_wp2_with (fail)
  go_loopw [3] (fun i wr => ∃ k, i = .int .i64 (k : Nat) ∧ k ≤ n ∧ V = wr ∧ val B4 (xs.take k) = val B4 xs) (fun i _ => (intOf i).toNat)
  case atStart => exact ⟨n, rfl, by omega, rfl, by rw [List.take_of_length_le (by rw [hnH.out]; exact Nat.le_refl _)]⟩
  case round =>
    obtain ⟨k, rfl, hk, rfl, hr⟩ := hrel
    have hrH := Lib.hid hr
    clear hr
    have hkc : (k : Int) ≤ c := by omega
    by_cases hk0 : 0 < k
    · obtain ⟨b, o, x, hxx, rfl, hcx⟩ := hD.out.at (i := k - 1) (by rw [← hnH.out]; omega)
      have hxxH := Lib.hid hxx
      clear hxx
      have i0 : (0 : Int) ≤ (k : Int) - 1 := by omega
      have i1 : (k : Int) - 1 < n := by omega
      by_cases h0 : x = 0
      · subst h0
        have hcut := Lib.hid (val_cut B4 xs k hk0 hxxH.out)
        go_wp2
        go_roundw
        case rel => exact ⟨k - 1, by go_num, by omega, by first | rfl | trivial, by rw [hcut.out]; exact hrH.out⟩
        case measure => simp [intOf]; omega
      · have h0' : ((x : Int) == 0) = false := by simpa using h0
        have hzH : Hid (k = 0 ∨ ∃ x, xs[k - 1]? = some x ∧ x ≠ 0) := Or.inr ⟨x, hxxH.out, h0⟩
        clear h0
        go_wp2_with (first
          | (at_builtin; go_loud (refine wpList_append_copy0 _ rfl (.tmp 20) (.tmp 24) _ rfl 3 .i64 8 Try.underlying25 info_int (by omega) V rfl rfl (some ⟨b, o, none⟩) k c (xs.take k) rfl (hD2.out.take k) (by rw [List.length_take, ← hnH.out]; omega) (by omega) ?_); intro a3 c3 w3 hc3 hd3 hb3 hat3; have hat3H := Lib.hid hat3; clear hat3; have hb4 := Lib.hid (((Below.refl V.heap.size V).alloc (Nat.le_refl _) (Obj.cells #[] 3)).trans hb3); have f0 := Below.cellAt hb4.out (Nat.le_refl _) e0; have f1 := Below.cellAt hb4.out (Nat.le_refl _) e1; have f2 := Below.cellAt hb4.out (Nat.le_refl _) e2; have f3 := Below.cellAt hb4.out (Nat.le_refl _) e3; have k0 := Lib.hid (Rg.over R0.out hb4.out h0s).slf; have k1 := Lib.hid (Rg.over R1.out hb4.out h1s).slf; obtain ⟨_, _, r0, _, _⟩ := k0.out; obtain ⟨_, _, r1, _, _⟩ := k1.out; have hd3H := Lib.hid hd3; have hc3H := Lib.hid hc3; clear hb3 hd3 hc3))
        obtain ⟨hL, hM⟩ := MagZ.raw (a := a3) (c := c3) hxH.out k (by rw [← hnH.out]; exact hk) hrH.out hzH.out hd3H.out hc3H.out
        have n0 := k0.out.noInt
        have n1 := k1.out.noInt
        refine bodyPost_ret (v := .agg #[.bool true, .slice a3 k c3]) (by simp [results, Try.results65, go_sem, f2, f3]) rfl ?_
        refine RetZ.fin hL ?_ (by simp; omega) ?_ (fun ad h => Nat.le_trans (by omega) (hat3H.out ad h))
        · exact hM.chain n0 n1 _ _ _ _ _ _ _ _
        · exact ((((hblH.out.trans (hb4.out.mono (by omega))).setCell (Nat.le_refl _) _).setCell (Nat.le_refl _) _).setCell (Nat.le_succ _) _).setCell (Nat.le_succ _) _
    · have hzH : Hid (k = 0 ∨ ∃ x, xs[k - 1]? = some x ∧ x ≠ 0) := Or.inl (by omega)
      go_wp2_with (first
        | (at_builtin; go_loud (refine wpList_append_copy0 _ rfl (.tmp 20) (.tmp 24) _ rfl 3 .i64 8 Try.underlying25 info_int (by omega) V rfl rfl a1 k c (xs.take k) rfl (hD2.out.take k) (by rw [List.length_take, ← hnH.out]; omega) (by omega) ?_); intro a3 c3 w3 hc3 hd3 hb3 hat3; have hat3H := Lib.hid hat3; clear hat3; have hb4 := Lib.hid (((Below.refl V.heap.size V).alloc (Nat.le_refl _) (Obj.cells #[] 3)).trans hb3); have f0 := Below.cellAt hb4.out (Nat.le_refl _) e0; have f1 := Below.cellAt hb4.out (Nat.le_refl _) e1; have f2 := Below.cellAt hb4.out (Nat.le_refl _) e2; have f3 := Below.cellAt hb4.out (Nat.le_refl _) e3; have k0 := Lib.hid (Rg.over R0.out hb4.out h0s).slf; have k1 := Lib.hid (Rg.over R1.out hb4.out h1s).slf; obtain ⟨_, _, r0, _, _⟩ := k0.out; obtain ⟨_, _, r1, _, _⟩ := k1.out; have hd3H := Lib.hid hd3; have hc3H := Lib.hid hc3; clear hb3 hd3 hc3))
      obtain ⟨hL, hM⟩ := MagZ.raw (a := a3) (c := c3) hxH.out k (by rw [← hnH.out]; exact hk) hrH.out hzH.out hd3H.out hc3H.out
      have n0 := k0.out.noInt
      have n1 := k1.out.noInt
      refine bodyPost_ret (v := .agg #[.bool false, .slice a3 k c3]) (by simp [results, Try.results65, go_sem, f2, f3]) rfl ?_
      refine RetZ.fin hL ?_ (by simp; omega) ?_ (fun ad h => Nat.le_trans (by omega) (hat3H.out ad h))
      · exact hM.chain n0 n1 _ _ _ _ _ _ _ _
      · exact ((((hblH.out.trans (hb4.out.mono (by omega))).setCell (Nat.le_refl _) _).setCell (Nat.le_refl _) _).setCell (Nat.le_succ _) _).setCell (Nat.le_succ _) _

set_option maxRecDepth 100000 in
set_option maxHeartbeats 1600000 in
theorem lean_false (a1 : Option Addr) (c : Nat) (xs : List Nat) (w : World) (h : Dg .i64 w a1 xs) (hx : Lt B4 xs) (hc : xs.length ≤ c) (hb : xs.length ≤ 4000000000) :
    Calls Try.prog 65 #[.agg #[.bool false, .slice a1 xs.length c]] w (RetZA w (sgn false (val B4 xs))) := by
  obtain ⟨n, hn⟩ : ∃ n, n = xs.length := ⟨_, rfl⟩
  rw [← hn] at hb hc ⊢
  obtain ⟨V, hV⟩ : ∃ V, V = (w.alloc (Obj.cells #[.bool false, .slice a1 n c] 40)).alloc (Obj.cells #[.bool false, .slice none 0 0] 40) := ⟨_, rfl⟩
  have e0 : V.cell? ⟨w.heap.size, 0, none⟩ = some (.bool false) := by rw [hV]; simp [go_sem]
  have e1 : V.cell? ⟨w.heap.size, 1, none⟩ = some (.slice a1 n c) := by rw [hV]; simp [go_sem]
  have e2 : V.cell? ⟨w.heap.size + 1, 0, none⟩ = some (.bool false) := by rw [hV]; simp [go_sem]
  have e3 : V.cell? ⟨w.heap.size + 1, 1, none⟩ = some (.slice none 0 0) := by rw [hV]; simp [go_sem]
  have hbl : Below w.heap.size w V := by rw [hV]; go_grown
  have R1 : Hid (Rg (w.heap.size + 1) 2 V V) := by rw [hV]; exact Rg.new2 _ _ _ (by simp)
  have R0 : Hid (Rg w.heap.size 2 V V) := by rw [hV]; exact Rg.old2 _ _ _ _ _ (by intro _ _ h; cases h) (by intro _ _ h; cases h)
  have hsz : V.heap.size = w.heap.size + 2 := by rw [hV]; simp
  have h0s : w.heap.size < V.heap.size := by omega
  have h1s : w.heap.size + 1 < V.heap.size := by omega
  have hD2 : Hid (Dg .i64 (V.alloc (Obj.cells #[] 3)) a1 xs) := (h.below hbl).below ((Below.refl _ _).alloc (Nat.le_refl _) _)
  have hD := Lib.hid (h.below hbl)
  have hVH := Lib.hid hV
  have hblH := Lib.hid hbl
  have hxH := Lib.hid hx
  have hnH := Lib.hid hn
  clear hV hbl hsz hn hx h
  go_enter Try.func65, Try.ntmps65
  go_wp2_with (fail)
  rw [← hVH.out]
  go_wp2_with (fail)
  go_loopw [3] (fun i wr => ∃ k, i = .int .i64 (k : Nat) ∧ k ≤ n ∧ V = wr ∧ val B4 (xs.take k) = val B4 xs) (fun i _ => (intOf i).toNat)
  case atStart => exact ⟨n, rfl, by omega, rfl, by rw [List.take_of_length_le (by rw [hnH.out]; exact Nat.le_refl _)]⟩
  case round =>
    obtain ⟨k, rfl, hk, rfl, hr⟩ := hrel
    have hrH := Lib.hid hr
    clear hr
    have hkc : (k : Int) ≤ c := by omega
    by_cases hk0 : 0 < k
    · obtain ⟨b, o, x, hxx, rfl, hcx⟩ := hD.out.at (i := k - 1) (by rw [← hnH.out]; omega)
      have hxxH := Lib.hid hxx
      clear hxx
      have i0 : (0 : Int) ≤ (k : Int) - 1 := by omega
      have i1 : (k : Int) - 1 < n := by omega
      by_cases h0 : x = 0
      · subst h0
        have hcut := Lib.hid (val_cut B4 xs k hk0 hxxH.out)
        go_wp2
        go_roundw
        case rel => exact ⟨k - 1, by go_num, by omega, by first | rfl | trivial, by rw [hcut.out]; exact hrH.out⟩
        case measure => simp [intOf]; omega
      · have h0' : ((x : Int) == 0) = false := by simpa using h0
        have hzH : Hid (k = 0 ∨ ∃ x, xs[k - 1]? = some x ∧ x ≠ 0) := Or.inr ⟨x, hxxH.out, h0⟩
        clear h0
        go_wp2_with (first
          | (at_builtin; go_loud (refine wpList_append_copy0 _ rfl (.tmp 20) (.tmp 24) _ rfl 3 .i64 8 Try.underlying25 info_int (by omega) V rfl rfl (some ⟨b, o, none⟩) k c (xs.take k) rfl (hD2.out.take k) (by rw [List.length_take, ← hnH.out]; omega) (by omega) ?_); intro a3 c3 w3 hc3 hd3 hb3 hat3; have hat3H := Lib.hid hat3; clear hat3; have hb4 := Lib.hid (((Below.refl V.heap.size V).alloc (Nat.le_refl _) (Obj.cells #[] 3)).trans hb3); have f0 := Below.cellAt hb4.out (Nat.le_refl _) e0; have f1 := Below.cellAt hb4.out (Nat.le_refl _) e1; have f2 := Below.cellAt hb4.out (Nat.le_refl _) e2; have f3 := Below.cellAt hb4.out (Nat.le_refl _) e3; have k0 := Lib.hid (Rg.over R0.out hb4.out h0s).slf; have k1 := Lib.hid (Rg.over R1.out hb4.out h1s).slf; obtain ⟨_, _, r0, _, _⟩ := k0.out; obtain ⟨_, _, r1, _, _⟩ := k1.out; have hd3H := Lib.hid hd3; have hc3H := Lib.hid hc3; clear hb3 hd3 hc3))
        obtain ⟨hL, hM⟩ := MagZ.raw (a := a3) (c := c3) hxH.out k (by rw [← hnH.out]; exact hk) hrH.out hzH.out hd3H.out hc3H.out
        have n0 := k0.out.noInt
        have n1 := k1.out.noInt
        refine bodyPost_ret (v := .agg #[.bool false, .slice a3 k c3]) (by simp [results, Try.results65, go_sem, f2, f3]) rfl ?_
        refine RetZ.fin hL ?_ (by simp) ?_ (fun ad h => Nat.le_trans (by omega) (hat3H.out ad h))
        · exact hM.chain n0 n1 _ _ _ _ _ _ _ _
        · exact ((((hblH.out.trans (hb4.out.mono (by omega))).setCell (Nat.le_refl _) _).setCell (Nat.le_refl _) _).setCell (Nat.le_succ _) _).setCell (Nat.le_succ _) _
    · have hzH : Hid (k = 0 ∨ ∃ x, xs[k - 1]? = some x ∧ x ≠ 0) := Or.inl (by omega)
      go_wp2_with (first
        | (at_builtin; go_loud (refine wpList_append_copy0 _ rfl (.tmp 20) (.tmp 24) _ rfl 3 .i64 8 Try.underlying25 info_int (by omega) V rfl rfl a1 k c (xs.take k) rfl (hD2.out.take k) (by rw [List.length_take, ← hnH.out]; omega) (by omega) ?_); intro a3 c3 w3 hc3 hd3 hb3 hat3; have hat3H := Lib.hid hat3; clear hat3; have hb4 := Lib.hid (((Below.refl V.heap.size V).alloc (Nat.le_refl _) (Obj.cells #[] 3)).trans hb3); have f0 := Below.cellAt hb4.out (Nat.le_refl _) e0; have f1 := Below.cellAt hb4.out (Nat.le_refl _) e1; have f2 := Below.cellAt hb4.out (Nat.le_refl _) e2; have f3 := Below.cellAt hb4.out (Nat.le_refl _) e3; have k0 := Lib.hid (Rg.over R0.out hb4.out h0s).slf; have k1 := Lib.hid (Rg.over R1.out hb4.out h1s).slf; obtain ⟨_, _, r0, _, _⟩ := k0.out; obtain ⟨_, _, r1, _, _⟩ := k1.out; have hd3H := Lib.hid hd3; have hc3H := Lib.hid hc3; clear hb3 hd3 hc3))
      obtain ⟨hL, hM⟩ := MagZ.raw (a := a3) (c := c3) hxH.out k (by rw [← hnH.out]; exact hk) hrH.out hzH.out hd3H.out hc3H.out
      have n0 := k0.out.noInt
      have n1 := k1.out.noInt
      refine bodyPost_ret (v := .agg #[.bool false, .slice a3 k c3]) (by simp [results, Try.results65, go_sem, f2, f3]) rfl ?_
      refine RetZ.fin hL ?_ (by simp) ?_ (fun ad h => Nat.le_trans (by omega) (hat3H.out ad h))
      · exact hM.chain n0 n1 _ _ _ _ _ _ _ _
      · exact ((((hblH.out.trans (hb4.out.mono (by omega))).setCell (Nat.le_refl _) _).setCell (Nat.le_refl _) _).setCell (Nat.le_succ _) _).setCell (Nat.le_succ _) _

theorem lean_at (s : Bool) (a1 : Option Addr) (c : Nat) (xs : List Nat) (w : World) (h : Dg .i64 w a1 xs) (hx : Lt B4 xs) (hc : xs.length ≤ c) (hb : xs.length ≤ 4000000000) :
    Calls Try.prog 65 #[.agg #[.bool s, .slice a1 xs.length c]] w (RetZA w (sgn s (val B4 xs))) := by
  cases s
  · exact lean_false a1 c xs w h hx hc hb
  · exact lean_true a1 c xs w h hx hc hb

theorem lean_any (s : Bool) (a1 : Option Addr) (c : Nat) (xs : List Nat) (w : World) (h : Dg .i64 w a1 xs) (hx : Lt B4 xs) (hc : xs.length ≤ c) (hb : xs.length ≤ 4000000000) :
    Calls Try.prog 65 #[.agg #[.bool s, .slice a1 xs.length c]] w (RetZ w (sgn s (val B4 xs))) :=
  (lean_at s a1 c xs w h hx hc hb).mono fun _ _ h => h.ret

end Go.Proofs.Ytkecdjdggkpdpab

/- Walks of the reference's integers: plus. -/
namespace Go.Proofs.Ytkecdjdggkpdpab
open Go Go.RowKit Go.Proofs

/-- An own list of ints. -/
def IV (w : World) (base : Nat) (v : Value) (xs : List Nat) : Prop := w.ownsRow base 3 1 v xs.length (xs.map fun x : Nat => Value.int .i64 x)
theorem IV.shape {w : World} {base : Nat} {v : Value} {xs : List Nat} (h : IV w base v xs) : ∃ ao c, v = .slice ao xs.length c := own_shape h
theorem IV.dg {w : World} {base n c : Nat} {ao : Option Addr} {xs : List Nat} (h : IV w base (.slice ao n c) xs) (hn : xs.length = n) : Dg .i64 w ao xs ∧ n ≤ c := by
  subst hn
  obtain ⟨_, h2, h3⟩ := dg_of_own h
  exact ⟨h3, h2⟩
theorem IV.lt {w : World} {base : Nat} {v : Value} {xs : List Nat} (h : IV w base v xs) : ∀ k, v.ownBlock = some k → base ≤ k ∧ k < w.heap.size := World.ownsRow.lt h
theorem IV.below {w w' : World} {base : Nat} {v : Value} {xs : List Nat} (h : IV w base v xs) (hb : Below w.heap.size w w') : IV w' base v xs := by
  refine ⟨h.1, ?_⟩
  rcases h.2 with h' | ⟨g', cap', cur, hv, h1, hg, h2⟩
  · exact .inl h'
  · exact .inr ⟨g', cap', cur, hv, h1, by rw [hb.block g' (Array.getElem?_eq_some_iff.1 hg).1]; exact hg, h2⟩
theorem IV.lit0 (w : World) (base : Nat) (hb : base ≤ w.heap.size) : IV (w.alloc (.cells #[] 3)) base (.slice (some ⟨w.heap.size, 0, none⟩) 0 0) [] :=
  World.ownsRow_lit (base := base) (size := 1) (e := 3) w #[] 0 hb (by unfold maxLen; omega) rfl

/-- 'append(l, x)', l a list of ints of the call's own. -/
theorem wpList_append_int (w : World) {ops : Array Oper} {rest : List Oper} {o : Oper} {a : Act} {Q : Exit → Act → World → Prop} (hg : o.guard = none) (s x : Operand) (t : TypeId)
    (ho : o.op = .call { callee := .builtin .append, args := #[s, x], argTypes := #[t, t] }) (ht : Try.prog.underlying t = some (.slice 3)) (base n : Nat) (v : Value) (xs : List Nat) (q : Nat) (z : Int) (hs : a.eval s = v) (hv : IV w base v xs)
    (hn : xs.length = n) (g0 : Nat) (hx : a.eval x = .slice (some ⟨g0, 0, none⟩) 1 1) (hb : n ≤ 1000000000000) (hbs : base ≤ w.heap.size) (c0 : w.cell? ⟨g0, 0, none⟩ = some (.int .i64 z)) (hz : z = (q : Nat))
    (hK : ∀ v' w', IV w' base v' (xs ++ [q]) → w.grownBy w' v.ownBlock → wpList Try.prog ops Q rest (a.put o.dst v') w') : wpList Try.prog ops Q (o :: rest) a w := by
  obtain ⟨i, h2, h3, h4, h5⟩ := info_parts info_int
  subst hn
  subst hz
  refine wpList_append_own w hg s x t ho base 3 i _ 1 8 ht h2 h3 h4 h5 rfl (by omega) v xs.length _ hs hv ⟨g0, 0, none⟩ 1 1 [.int .i64 (q : Nat)] hx rfl ?_ ?_ (by unfold maxLen; omega) (by omega) hbs ?_
  · intro j u hu
    rw [Addr.add_lit, Nat.zero_add]
    rcases j with _ | j
    · rw [c0]; exact hu
    · simp at hu
  · intro u hu
    simp at hu
    subst hu; rfl
  · intro v' w' ho' hg' _
    refine hK v' w' ?_ hg'
    unfold IV
    rw [List.map_append, List.length_append]; exact ho'

/-- What plus and less leave: digits, maybe with zeros at the end. -/
def RetD (w : World) (n m : Nat) (e : Ending) (w' : World) : Prop :=
  ∃ a c k xs, e = .returned (.slice a k c) ∧ xs.length = k ∧ Dg .i64 w' a xs ∧ k ≤ c ∧ Lt B4 xs ∧ val B4 xs = n ∧ k ≤ m ∧ Below w.heap.size w w'

/-- What has been added after k digits. -/
def PInv (xs ys os : List Nat) (k c : Nat) : Prop :=
  os.length = k ∧ Lt B4 os ∧ c ≤ 1 ∧ val B4 os + B4 ^ k * c = val B4 (xs.take k) + val B4 (ys.take k)
/-- A digit, or 0 beyond the end. -/
def gd (xs : List Nat) (k : Nat) : Nat := xs[k]?.getD 0
theorem gd_or (xs : List Nat) (k : Nat) : xs[k]? = some (gd xs k) ∨ (xs.length ≤ k ∧ gd xs k = 0) := by
  unfold gd
  by_cases h : k < xs.length
  · left; rw [List.getElem?_eq_getElem h]; rfl
  · right; rw [List.getElem?_eq_none (by omega)]; exact ⟨by omega, rfl⟩
theorem gd_lt {xs : List Nat} (h : Lt B4 xs) (k : Nat) : gd xs k < 10000 := by
  rcases gd_or xs k with h1 | ⟨_, h1⟩
  · exact h.at h1
  · omega
theorem val_gd (xs : List Nat) (k : Nat) : val B4 (xs.take (k + 1)) = val B4 (xs.take k) + B4 ^ k * gd xs k := val_take_get B4 xs k _ (gd_or xs k)
/-- The sum of a place. -/
def pls (xs ys : List Nat) (k c : Nat) : Nat := c + gd xs k + gd ys k
theorem PInv.step {xs ys os : List Nat} {k c : Nat} (h : PInv xs ys os k c) (hx : Lt B4 xs) (hy : Lt B4 ys) : PInv xs ys (os ++ [pls xs ys k c % 10000]) (k + 1) (pls xs ys k c / 10000) := by
  obtain ⟨h1, h2, h3, h4⟩ := h
  have a1 := gd_lt hx k
  have a2 := gd_lt hy k
  refine ⟨by simp [h1], ?_, ?_, ?_⟩
  · intro z hz
    rcases List.mem_append.1 hz with hz | hz
    · exact h2 z hz
    · rw [List.mem_singleton.1 hz]; unfold B4; omega
  · have : pls xs ys k c < 20000 := by unfold pls; omega
    omega
  · rw [val_snoc, h1, val_gd, val_gd, Nat.pow_succ]
    have := plus_step B4 (B4 ^ k) (val B4 os) (gd xs k) (gd ys k) c _ _ h4
    have e : pls xs ys k c = gd xs k + gd ys k + c := by unfold pls; omega
    rw [e]; exact this
theorem PInv.done {xs ys os : List Nat} {k : Nat} (h : PInv xs ys os k 0) (h1 : xs.length ≤ k) (h2 : ys.length ≤ k) : val B4 os = val B4 xs + val B4 ys := by
  have := h.2.2.2
  rw [List.take_of_length_le h1, List.take_of_length_le h2] at this
  simpa using this

set_option maxRecDepth 100000 in
set_option maxHeartbeats 1600000 in
theorem zplus_any (a1 a2 : Option Addr) (c1 c2 x y : Nat) (w : World) (h1 : MagZ w a1 c1 x) (h2 : MagZ w a2 c2 y) (hb1 : L B4 x ≤ 1000000000) (hb2 : L B4 y ≤ 1000000000) :
    Calls Try.prog 83 #[.slice a1 (L B4 x) c1, .slice a2 (L B4 y) c2] w (RetD w (x + y) (max (L B4 x) (L B4 y) + 1)) := by
  have hA := Lib.hid h1.2
  have hC := Lib.hid h2.2
  have vA := Lib.hid (val_digs two_le_B4 x)
  have vC := Lib.hid (val_digs two_le_B4 y)
  have lA : Hid ((digs B4 x).length = L B4 x) := rfl
  have lC : Hid ((digs B4 y).length = L B4 y) := rfl
  have dA := Lib.hid (show Lt B4 (digs B4 x) from digs_lt two_le_B4 x)
  have dC := Lib.hid (show Lt B4 (digs B4 y) from digs_lt two_le_B4 y)
  generalize digs B4 x = xs at *
  generalize digs B4 y = ys at *
  generalize L B4 x = n at *
  generalize L B4 y = m at *
  clear h1 h2
  go_enter Try.func83, Try.ntmps83
  go_wp2_with (fail)
  go_loopw [5, 6, 7] (fun b c i wr => ∃ k cr os, i = .int .i64 (k : Nat) ∧ c = .int .i64 (cr : Nat) ∧ PInv xs ys os k cr ∧ k ≤ max n m + 1 ∧ (k = max n m + 1 → cr = 0) ∧ IV wr w.heap.size b os ∧ Below w.heap.size w wr) (fun _ c i _ => 2 * (max n m + 1 - (intOf i).toNat) + (intOf c).toNat)
  case atStart => exact ⟨0, 0, [], rfl, rfl, ⟨rfl, (fun x hx => by cases hx), by omega, by simp [val]⟩, by omega, by omega, IV.lit0 _ _ (Nat.le_refl _), (Below.refl _ _).alloc (Nat.le_refl _) _⟩
  case round =>
    obtain ⟨k, cr, os, rfl, rfl, hP, hk, hk1, hV, hbl⟩ := hrel
    obtain ⟨ab, cb, hbv⟩ := hV.shape
    subst hbv
    have hol := hP.1
    have hcr := hP.2.2.1
    have holH := Lib.hid hol
    rw [hol] at hV ⊢
    have hVH := Lib.hid hV
    have hblH := Lib.hid hbl
    have hPH := Lib.hid hP
    have hbs := hbl.size
    obtain ⟨p, hp⟩ : ∃ p, p = gd xs k := ⟨_, rfl⟩
    obtain ⟨q, hq⟩ : ∃ q, q = gd ys k := ⟨_, rfl⟩
    have gx : p < 10000 := by rw [hp]; exact gd_lt dA.out k
    have gy : q < 10000 := by rw [hq]; exact gd_lt dC.out k
    have hnx := Lib.hid (hP.step dA.out dC.out)
    rw [show pls xs ys k cr = cr + p + q by unfold pls; rw [hp, hq]] at hnx
    have hpH := Lib.hid hp
    have hqH := Lib.hid hq
    clear hV hbl hP hol hp hq
    by_cases hkn : k < n
    · obtain ⟨b1, o1, p', hp', rfl, e1⟩ := (hA.out.below hblH.out).at (i := k) (by rw [lA.out]; exact hkn)
      have hpp : p = p' := by rw [hpH.out]; unfold gd; rw [hp']; rfl
      subst hpp
      clear hp'
      by_cases hkm : k < m
      · obtain ⟨b2, o2, q', hq', rfl, e2⟩ := (hC.out.below hblH.out).at (i := k) (by rw [lC.out]; exact hkm)
        have hqq : q = q' := by rw [hqH.out]; unfold gd; rw [hq']; rfl
        subst hqq
        clear hq'
        go_wp2_with (first | (at_builtin; go_loud (refine wpList_append_int _ rfl (.tmp 47) (.tmp 50) _ rfl Try.underlying25 w.heap.size k (.slice ab k cb) os ((cr + p + q) % 10000) (((cr : Int) + p + q) % 10000) rfl (hVH.out.below ((Below.refl _ _).alloc (Nat.le_refl _) _)) holH.out wr.heap.size rfl (by omega) (by simp; omega) (by simp [go_sem]) (by omega) ?_); intro v' w2 hv2 hg2; have hb2 := Lib.hid ((hblH.out.alloc hbs _).grown hg2 (by simp; omega) (fun g hg => (hVH.out.lt g hg).1)); clear hg2))
        go_roundw
        case rel => exact ⟨k + 1, _, _, by go_num, (by go_num), hnx.out, (by omega), (by omega), hv2, hb2.out⟩
        case measure => simp [intOf]; omega
      · have hq0 : q = 0 := by rw [hqH.out]; unfold gd; rw [List.getElem?_eq_none (by rw [lC.out]; omega)]; rfl
        have hq0H := Lib.hid hq0
        clear hq0
        go_wp2_with (first | (at_builtin; go_loud (refine wpList_append_int _ rfl (.tmp 47) (.tmp 50) _ rfl Try.underlying25 w.heap.size k (.slice ab k cb) os ((cr + p + q) % 10000) (((cr : Int) + p) % 10000) rfl (hVH.out.below ((Below.refl _ _).alloc (Nat.le_refl _) _)) holH.out wr.heap.size rfl (by omega) (by simp; omega) (by simp [go_sem]) (by have := hq0H.out; omega) ?_); intro v' w2 hv2 hg2; have hb2 := Lib.hid ((hblH.out.alloc hbs _).grown hg2 (by simp; omega) (fun g hg => (hVH.out.lt g hg).1)); clear hg2))
        go_roundw
        case rel => exact ⟨k + 1, _, _, by go_num, (by have := hq0H.out; go_num), hnx.out, (by omega), (by have := hq0H.out; omega), hv2, hb2.out⟩
        case measure => simp [intOf]; omega
    · have hp0 : p = 0 := by rw [hpH.out]; unfold gd; rw [List.getElem?_eq_none (by rw [lA.out]; omega)]; rfl
      have hp0H := Lib.hid hp0
      clear hp0
      by_cases hkm : k < m
      · obtain ⟨b2, o2, q', hq', rfl, e2⟩ := (hC.out.below hblH.out).at (i := k) (by rw [lC.out]; exact hkm)
        have hqq : q = q' := by rw [hqH.out]; unfold gd; rw [hq']; rfl
        subst hqq
        clear hq'
        go_wp2_with (first | (at_builtin; go_loud (refine wpList_append_int _ rfl (.tmp 47) (.tmp 50) _ rfl Try.underlying25 w.heap.size k (.slice ab k cb) os ((cr + p + q) % 10000) (((cr : Int) + q) % 10000) rfl (hVH.out.below ((Below.refl _ _).alloc (Nat.le_refl _) _)) holH.out wr.heap.size rfl (by omega) (by simp; omega) (by simp [go_sem]) (by have := hp0H.out; omega) ?_); intro v' w2 hv2 hg2; have hb2 := Lib.hid ((hblH.out.alloc hbs _).grown hg2 (by simp; omega) (fun g hg => (hVH.out.lt g hg).1)); clear hg2))
        go_roundw
        case rel => exact ⟨k + 1, _, _, by go_num, (by have := hp0H.out; go_num), hnx.out, (by omega), (by have := hp0H.out; omega), hv2, hb2.out⟩
        case measure => simp [intOf]; omega
      · have hq0 : q = 0 := by rw [hqH.out]; unfold gd; rw [List.getElem?_eq_none (by rw [lC.out]; omega)]; rfl
        have hq0H := Lib.hid hq0
        clear hq0
        by_cases hc0 : 0 < cr
        · have hc1 : cr = 1 := by omega
          have hkM : k ≠ max n m + 1 := fun h => by have := hk1 h; omega
          have hc1H := Lib.hid hc1
          have hkMH := Lib.hid hkM
          clear hc1 hkM
          go_wp2_with (first | (at_builtin; go_loud (refine wpList_append_int _ rfl (.tmp 47) (.tmp 50) _ rfl Try.underlying25 w.heap.size k (.slice ab k cb) os ((cr + p + q) % 10000) ((cr : Int) % 10000) rfl (hVH.out.below ((Below.refl _ _).alloc (Nat.le_refl _) _)) holH.out wr.heap.size rfl (by omega) (by simp; omega) (by simp [go_sem]) (by have := hq0H.out; have := hp0H.out; omega) ?_); intro v' w2 hv2 hg2; have hb2 := Lib.hid ((hblH.out.alloc hbs _).grown hg2 (by simp; omega) (fun g hg => (hVH.out.lt g hg).1)); clear hg2))
          go_roundw
          case rel => have := hkMH.out; have := hc1H.out; exact ⟨k + 1, _, _, by go_num, (by have := hq0H.out; have := hp0H.out; go_num), hnx.out, (by omega), (by have := hq0H.out; have := hp0H.out; omega), hv2, hb2.out⟩
          case measure => simp [intOf]; omega
        · have hc1 : cr = 0 := by omega
          have hfin : Hid (val B4 os = x + y) := by
            have := hPH.out
            rw [hc1] at this
            have h9 := this.done (by rw [lA.out]; omega) (by rw [lC.out]; omega)
            rw [vA.out, vC.out] at h9
            exact h9
          obtain ⟨hd1, hd2⟩ := hVH.out.dg holH.out
          have hd1H := Lib.hid hd1
          clear hd1
          go_wp2
          go_ret
          exact ⟨ab, cb, k, os, rfl, holH.out, hd1H.out, hd2, hPH.out.2.1, hfin.out, hk, hblH.out⟩

end Go.Proofs.Ytkecdjdggkpdpab

/- Walks of the reference's integers: less. -/
namespace Go.Proofs.Ytkecdjdggkpdpab
open Go Go.RowKit Go.Proofs

/-- What has been taken away after k digits. -/
def MInv (xs ys os : List Nat) (k c : Nat) : Prop :=
  os.length = k ∧ Lt B4 os ∧ c ≤ 1 ∧ val B4 os + val B4 (ys.take k) = val B4 (xs.take k) + B4 ^ k * c
theorem MInv.step {xs ys os : List Nat} {k c s d : Nat} (h : MInv xs ys os k c) (hs : s + gd ys k + c = gd xs k + B4 * d) (h1 : s < 10000) (hd : d ≤ 1) : MInv xs ys (os ++ [s]) (k + 1) d := by
  obtain ⟨a1, a2, a3, a4⟩ := h
  refine ⟨by simp [a1], ?_, hd, ?_⟩
  · intro z hz
    rcases List.mem_append.1 hz with hz | hz
    · exact a2 z hz
    · rw [List.mem_singleton.1 hz]; unfold B4; exact h1
  · rw [val_snoc, a1, val_gd, val_gd, Nat.pow_succ]
    exact minus_step B4 (B4 ^ k) (val B4 os) (gd xs k) (gd ys k) c s d _ _ a4 hs
theorem MInv.done {xs ys os : List Nat} {k c x y : Nat} (h : MInv xs ys os k c) (h1 : xs.length ≤ k) (h2 : ys.length ≤ k) (hx : val B4 xs = x) (hy : val B4 ys = y) (hle : y ≤ x) : val B4 os = x - y := by
  obtain ⟨a1, a2, a3, a4⟩ := h
  rw [List.take_of_length_le h1, List.take_of_length_le h2, hx, hy] at a4
  have a5 := val_lt (B := B4) os a2
  rw [a1] at a5
  rcases (show c = 0 ∨ c = 1 by omega) with rfl | rfl
  · omega
  · omega

set_option maxRecDepth 100000 in
set_option maxHeartbeats 1600000 in
theorem zless_any (a1 a2 : Option Addr) (c1 c2 x y : Nat) (w : World) (h1 : MagZ w a1 c1 x) (h2 : MagZ w a2 c2 y) (hb1 : L B4 x ≤ 1000000000) (hle : y ≤ x) :
    Calls Try.prog 68 #[.slice a1 (L B4 x) c1, .slice a2 (L B4 y) c2] w (RetD w (x - y) (L B4 x)) := by
  have hnm : L B4 y ≤ L B4 x := L_mono two_le_B4 hle
  have hleH := Lib.hid hle
  have hA := Lib.hid h1.2
  have hC := Lib.hid h2.2
  have vA := Lib.hid (val_digs two_le_B4 x)
  have vC := Lib.hid (val_digs two_le_B4 y)
  have lA : Hid ((digs B4 x).length = L B4 x) := rfl
  have lC : Hid ((digs B4 y).length = L B4 y) := rfl
  have dA := Lib.hid (show Lt B4 (digs B4 x) from digs_lt two_le_B4 x)
  have dC := Lib.hid (show Lt B4 (digs B4 y) from digs_lt two_le_B4 y)
  generalize digs B4 x = xs at *
  generalize digs B4 y = ys at *
  generalize L B4 x = n at *
  generalize L B4 y = m at *
  clear h1 h2 hle
  go_enter Try.func68, Try.ntmps68
  go_wp2_with (fail)
  go_loopw [5, 6, 7] (fun b c i wr => ∃ k cr os, i = .int .i64 (k : Nat) ∧ c = .int .i64 (cr : Nat) ∧ MInv xs ys os k cr ∧ k ≤ n ∧ IV wr w.heap.size b os ∧ Below w.heap.size w wr) (fun _ _ i _ => n - (intOf i).toNat)
  case atStart => exact ⟨0, 0, [], rfl, rfl, ⟨rfl, (fun x hx => by cases hx), by omega, by simp [val]⟩, by omega, IV.lit0 _ _ (Nat.le_refl _), (Below.refl _ _).alloc (Nat.le_refl _) _⟩
  case round =>
    obtain ⟨k, cr, os, rfl, rfl, hP, hk, hV, hbl⟩ := hrel
    obtain ⟨ab, cb, hbv⟩ := hV.shape
    subst hbv
    have hol := hP.1
    have hcr := hP.2.2.1
    have holH := Lib.hid hol
    rw [hol] at hV ⊢
    have hVH := Lib.hid hV
    have hblH := Lib.hid hbl
    have hPH := Lib.hid hP
    have hbs := hbl.size
    obtain ⟨p, hp⟩ : ∃ p, p = gd xs k := ⟨_, rfl⟩
    obtain ⟨q, hq⟩ : ∃ q, q = gd ys k := ⟨_, rfl⟩
    have gx : p < 10000 := by rw [hp]; exact gd_lt dA.out k
    have gy : q < 10000 := by rw [hq]; exact gd_lt dC.out k
    have hpH := Lib.hid hp
    have hqH := Lib.hid hq
    clear hV hbl hP hol hp hq
    by_cases hkn : k < n
    · obtain ⟨b1, o1, p', hp', rfl, e1⟩ := (hA.out.below hblH.out).at (i := k) (by rw [lA.out]; exact hkn)
      have hpp : p = p' := by rw [hpH.out]; unfold gd; rw [hp']; rfl
      subst hpp
      clear hp'
      by_cases hkm : k < m
      · obtain ⟨b2, o2, q', hq', rfl, e2⟩ := (hC.out.below hblH.out).at (i := k) (by rw [lC.out]; exact hkm)
        have hqq : q = q' := by rw [hqH.out]; unfold gd; rw [hq']; rfl
        subst hqq
        clear hq'
        by_cases hs : (p : Int) - cr - q < 0
        · have hnx : Hid (MInv xs ys (os ++ [p + 10000 - cr - q]) (k + 1) 1) := hPH.out.step (by rw [← hpH.out, ← hqH.out]; unfold B4; omega) (by omega) (by omega)
          go_wp2_with (first | (at_builtin; go_loud (refine wpList_append_int _ rfl (.tmp 36) (.tmp 38) _ rfl Try.underlying25 w.heap.size k (.slice ab k cb) os (p + 10000 - cr - q) ((p : Int) - cr - q + 10000) rfl (hVH.out.below ((Below.refl _ _).alloc (Nat.le_refl _) _)) holH.out wr.heap.size rfl (by omega) (by simp; omega) (by simp [go_sem]) (by omega) ?_); intro v' w2 hv2 hg2; have hb2 := Lib.hid ((hblH.out.alloc hbs _).grown hg2 (by simp; omega) (fun g hg => (hVH.out.lt g hg).1)); clear hg2))
          go_roundw
          case rel => exact ⟨k + 1, 1, _, by go_num, rfl, hnx.out, (by omega), hv2, hb2.out⟩
          case measure => simp [intOf]; omega
        · have hnx : Hid (MInv xs ys (os ++ [p - cr - q]) (k + 1) 0) := hPH.out.step (by rw [← hpH.out, ← hqH.out]; unfold B4; omega) (by omega) (by omega)
          go_wp2_with (first | (at_builtin; go_loud (refine wpList_append_int _ rfl (.tmp 36) (.tmp 38) _ rfl Try.underlying25 w.heap.size k (.slice ab k cb) os (p - cr - q) ((p : Int) - cr - q) rfl (hVH.out.below ((Below.refl _ _).alloc (Nat.le_refl _) _)) holH.out wr.heap.size rfl (by omega) (by simp; omega) (by simp [go_sem]) (by omega) ?_); intro v' w2 hv2 hg2; have hb2 := Lib.hid ((hblH.out.alloc hbs _).grown hg2 (by simp; omega) (fun g hg => (hVH.out.lt g hg).1)); clear hg2))
          go_roundw
          case rel => exact ⟨k + 1, 0, _, by go_num, rfl, hnx.out, (by omega), hv2, hb2.out⟩
          case measure => simp [intOf]; omega
      · have hq0 : q = 0 := by rw [hqH.out]; unfold gd; rw [List.getElem?_eq_none (by rw [lC.out]; omega)]; rfl
        have hq0H := Lib.hid hq0
        clear hq0
        by_cases hs : (p : Int) - cr < 0
        · have hnx : Hid (MInv xs ys (os ++ [p + 10000 - cr]) (k + 1) 1) := hPH.out.step (by rw [← hpH.out, ← hqH.out]; unfold B4; have := hq0H.out; omega) (by have := hq0H.out; omega) (by omega)
          go_wp2_with (first | (at_builtin; go_loud (refine wpList_append_int _ rfl (.tmp 36) (.tmp 38) _ rfl Try.underlying25 w.heap.size k (.slice ab k cb) os (p + 10000 - cr) ((p : Int) - cr + 10000) rfl (hVH.out.below ((Below.refl _ _).alloc (Nat.le_refl _) _)) holH.out wr.heap.size rfl (by omega) (by simp; omega) (by simp [go_sem]) (by have := hq0H.out; omega) ?_); intro v' w2 hv2 hg2; have hb2 := Lib.hid ((hblH.out.alloc hbs _).grown hg2 (by simp; omega) (fun g hg => (hVH.out.lt g hg).1)); clear hg2))
          go_roundw
          case rel => exact ⟨k + 1, 1, _, by go_num, rfl, hnx.out, (by omega), hv2, hb2.out⟩
          case measure => simp [intOf]; omega
        · have hnx : Hid (MInv xs ys (os ++ [p - cr]) (k + 1) 0) := hPH.out.step (by rw [← hpH.out, ← hqH.out]; unfold B4; have := hq0H.out; omega) (by have := hq0H.out; omega) (by omega)
          go_wp2_with (first | (at_builtin; go_loud (refine wpList_append_int _ rfl (.tmp 36) (.tmp 38) _ rfl Try.underlying25 w.heap.size k (.slice ab k cb) os (p - cr) ((p : Int) - cr) rfl (hVH.out.below ((Below.refl _ _).alloc (Nat.le_refl _) _)) holH.out wr.heap.size rfl (by omega) (by simp; omega) (by simp [go_sem]) (by have := hq0H.out; omega) ?_); intro v' w2 hv2 hg2; have hb2 := Lib.hid ((hblH.out.alloc hbs _).grown hg2 (by simp; omega) (fun g hg => (hVH.out.lt g hg).1)); clear hg2))
          go_roundw
          case rel => exact ⟨k + 1, 0, _, by go_num, rfl, hnx.out, (by omega), hv2, hb2.out⟩
          case measure => simp [intOf]; omega
    · have hke : k = n := by omega
      have hfin : Hid (val B4 os = x - y) := hPH.out.done (by rw [lA.out]; omega) (by rw [lC.out]; omega) vA.out vC.out hleH.out
      obtain ⟨hd1, hd2⟩ := hVH.out.dg holH.out
      have hd1H := Lib.hid hd1
      clear hd1
      go_wp2
      go_ret
      exact ⟨ab, cb, k, os, rfl, holH.out, hd1H.out, hd2, hPH.out.2.1, hfin.out, hk, hblH.out⟩

end Go.Proofs.Ytkecdjdggkpdpab
