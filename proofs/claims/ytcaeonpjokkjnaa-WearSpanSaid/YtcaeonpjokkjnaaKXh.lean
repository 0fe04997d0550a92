/- Pl Ap Rpq Rpr -/
import Derived.Test.YtcaeonpjokkjnaaKXf
import Derived.Test.YtcaeonpjokkjnaaKXd
import Derived.Test.YtcaeonpjokkjnaaKRa
import Derived.Deep.RegionHeld3
import Derived.Deep.CutRange
import Derived.Test.YtcaeonpjokkjnaaKXg
set_option linter.unusedVariables false
/- Lives whose hazards never fall; E5: no rate is above both of its neighbours. Plain. -/
namespace Go.Proofs.Ytcaeonpjokkjnaa
open Go

/-- The hazards, in twentieths; the chances above; the lives. -/
def hF (n : Nat) (xs : List Nat) : Nat → Nat
  | 0 => 0
  | k + 1 => if k + 1 = n ∨ k = 6 then 20 else min 20 (hF n xs k + (xs[k]?.getD 0) % 6)
def q20 (h : Nat) : Rat := Rat.divInt ((h : Nat) : Int) ((20 : Nat) : Int)
def aF (n : Nat) (xs : List Nat) : Nat → Rat
  | 0 => 1
  | k + 1 => aF n xs k * q20 (20 - hF n xs (k + 1))
def fF (n : Nat) (xs : List Nat) (k : Nat) : Rat := aF n xs k * q20 (hF n xs (k + 1))
def fL (n : Nat) (xs : List Nat) (k : Nat) : List Rat := (List.range k).map (fF n xs)
theorem hF_le (n : Nat) (xs : List Nat) : ∀ k, hF n xs k ≤ 20
  | 0 => by simp [hF]
  | k + 1 => by
    rw [hF]
    split
    · exact Nat.le_refl _
    · exact Nat.min_le_left _ _
theorem hF_mono (n : Nat) (xs : List Nat) (k : Nat) : hF n xs k ≤ hF n xs (k + 1) := by
  have h := hF_le n xs k
  rw [hF]
  split <;> omega
theorem q20_mul (h : Nat) : q20 h * 20 = ((h : Int) : Rat) := divInt_s h 20 (by omega)
theorem q20_one {h : Nat} (hh : h ≤ 20) : q20 h + q20 (20 - h) = 1 := by
  have a := q20_mul h
  have b := q20_mul (20 - h)
  have c : (((20 - h : Nat) : Int) : Rat) = 20 - ((h : Int) : Rat) := by
    rw [show ((20 - h : Nat) : Int) = 20 - (h : Int) by omega, Rat.intCast_sub]; rfl
  rw [c] at b
  grind
theorem q20_nonneg (h : Nat) : 0 ≤ q20 h := Rat.divInt_nonneg (by omega) (by omega)
theorem q20_le {h : Nat} (hh : h ≤ 20) : q20 h ≤ 1 := by have := q20_one hh; have := q20_nonneg (20 - h); grind
theorem q20_mono {a b : Nat} (h : a ≤ b) : q20 a ≤ q20 b := by
  have h1 := q20_mul a
  have h2 := q20_mul b
  have h3 : ((a : Int) : Rat) ≤ ((b : Int) : Rat) := Rat.intCast_le_intCast.2 (by omega)
  grind
theorem q20_pos {h : Nat} (hh : 0 < h) : 0 < q20 h := by
  have h1 := q20_mul h
  have h3 : ((1 : Int) : Rat) ≤ ((h : Int) : Rat) := Rat.intCast_le_intCast.2 (by omega)
  have h4 : ((1 : Int) : Rat) = 1 := rfl
  grind
theorem aF_split (n : Nat) (xs : List Nat) (k : Nat) : aF n xs k = fF n xs k + aF n xs (k + 1) := by
  have := q20_one (hF_le n xs (k + 1))
  unfold fF
  rw [aF]
  grind
theorem aF_ok (n : Nat) (xs : List Nat) : ∀ k, 0 ≤ aF n xs k ∧ aF n xs k ≤ 1 ∧ Iz (20 ^ k) (aF n xs k)
  | 0 => ⟨by show (0 : Rat) ≤ 1; decide, by show (1 : Rat) ≤ 1; decide, Iz.one _⟩
  | k + 1 => by
    obtain ⟨a, b, c⟩ := aF_ok n xs k
    have p := q20_nonneg (20 - hF n xs (k + 1))
    have q := q20_le (h := 20 - hF n xs (k + 1)) (by omega)
    rw [aF]
    have h1 : aF n xs k * q20 (20 - hF n xs (k + 1)) ≤ aF n xs k * 1 := Rat.mul_le_mul_of_nonneg_left q a
    refine ⟨Rat.mul_nonneg a p, by grind, ?_⟩
    rw [Nat.pow_succ]
    exact c.mul ⟨_, q20_mul _⟩
theorem fF_ok (n : Nat) (xs : List Nat) (k : Nat) : 0 ≤ fF n xs k ∧ fF n xs k ≤ 1 ∧ Iz (20 ^ (k + 1)) (fF n xs k) := by
  obtain ⟨a, b, c⟩ := aF_ok n xs k
  have p := q20_nonneg (hF n xs (k + 1))
  have q := q20_le (hF_le n xs (k + 1))
  unfold fF
  have h1 : aF n xs k * q20 (hF n xs (k + 1)) ≤ aF n xs k * 1 := Rat.mul_le_mul_of_nonneg_left q a
  refine ⟨Rat.mul_nonneg a p, by grind, ?_⟩
  rw [Nat.pow_succ]
  exact c.mul ⟨_, q20_mul _⟩
theorem aF_pos (n : Nat) (xs : List Nat) : ∀ k, (∀ j, j < k → hF n xs (j + 1) < 20) → 0 < aF n xs k
  | 0, _ => by rw [aF]; decide
  | k + 1, h => by
    rw [aF]
    exact Rat.mul_pos (aF_pos n xs k fun j hj => h j (by omega)) (q20_pos (by have := h k (by omega); omega))
theorem fL_length (n : Nat) (xs : List Nat) (k : Nat) : (fL n xs k).length = k := by simp [fL]
theorem fL_at (n : Nat) (xs : List Nat) {k j : Nat} (h : j < k) : (fL n xs k)[j]? = some (fF n xs j) := by
  unfold fL; rw [List.getElem?_map, List.getElem?_range h]; rfl
theorem fL_next (n : Nat) (xs : List Nat) (k : Nat) : fL n xs k ++ [fF n xs k] = fL n xs (k + 1) := by
  unfold fL; rw [List.range_succ, List.map_append]; rfl
theorem left_fL (n : Nat) (xs : List Nat) (k : Nat) : ∀ j, j ≤ k → left (fL n xs k) j = aF n xs j
  | 0, _ => left_0 _
  | j + 1, h => by
    have e : nth (fL n xs k) j = fF n xs j := by unfold nth; rw [fL_at n xs (by omega)]; rfl
    rw [left_nx, left_fL n xs k j (by omega), e, aF_split n xs j]
    grind
theorem haz_fL (n : Nat) (xs : List Nat) {k j : Nat} (h : j < k) (hp : 0 < aF n xs j) : hazQ (fL n xs k) j = q20 (hF n xs (j + 1)) := by
  have e : nth (fL n xs k) j = fF n xs j := by unfold nth; rw [fL_at n xs h]; rfl
  unfold hazQ
  rw [e, left_fL n xs k j (by omega)]
  unfold fF
  have hne : aF n xs j ≠ 0 := by intro e; rw [e] at hp; exact absurd hp (by decide)
  rw [Rat.div_def, Rat.mul_comm (aF n xs j), Rat.mul_assoc, Rat.mul_inv_cancel _ hne, Rat.mul_one]

/-- One peak can't be. -/
theorem peak {R0 R1 R2 T0 g1 g2 D h1 h2 : Rat} (hT0 : 0 < T0) (hg1 : 0 < g1) (hg2 : 0 < g2) (e1 : R1 * (T0 + g1) = R0 * T0 + D * h1 * g1) (e2 : R2 * (T0 + g1 + g2) = R1 * (T0 + g1) + D * h2 * g2)
    (h10 : 0 ≤ h1) (hh : h1 ≤ h2) (hR1 : 0 ≤ R1) (a : R0 < R1) (b : R2 < R1) : False := by
  have a1 : R0 * T0 < R1 * T0 := Rat.mul_lt_mul_of_pos_right a hT0
  have b1 : R2 * (T0 + g1 + g2) < R1 * (T0 + g1 + g2) := Rat.mul_lt_mul_of_pos_right b (by grind)
  have a2 : R1 * g1 < D * h1 * g1 := by grind
  have b2 : D * h2 * g2 < R1 * g2 := by grind
  have a3 : R1 < D * h1 := by
    refine Rat.not_le.1 fun hc => ?_
    have := Rat.mul_le_mul_of_nonneg_right hc (Rat.le_of_lt hg1)
    grind
  have b3 : D * h2 < R1 := by
    refine Rat.not_le.1 fun hc => ?_
    have := Rat.mul_le_mul_of_nonneg_right hc (Rat.le_of_lt hg2)
    grind
  by_cases hD : 0 ≤ D
  · have := Rat.mul_le_mul_of_nonneg_left hh hD
    grind
  · have := Rat.mul_nonneg (a := -D) (b := h1) (by grind) h10
    grind
/-- E5. -/
theorem no_peak {ps : List Rat} (h : Lv ps) {c0 c1 : Rat} (h0 : Cs c0) (h1 : Cs c1) {i : Nat} (hi : i + 2 < ps.length) (hh : hazQ ps (i + 1) ≤ hazQ ps (i + 2)) :
    ¬ (rateQ ps c0 c1 i < rateQ ps c0 c1 (i + 1) ∧ rateQ ps c0 c1 (i + 2) < rateQ ps c0 c1 (i + 1)) := by
  have hr : ∀ k, rateQ ps c0 c1 k * psum (aboveL ps) (k + 1) = costQ ps c0 c1 k := fun k => by
    have t1 := h.time1 k
    unfold rateQ
    exact Rat.div_mul_cancel (by intro e; rw [e] at t1; exact absurd t1 (by decide))
  have hg : ∀ k, k < ps.length → hazQ ps k * left ps k = nth ps k := fun k hk => by
    have hp := h.left_pos hk
    unfold hazQ
    exact Rat.div_mul_cancel (by intro e; rw [e] at hp; exact absurd hp (by decide))
  have hc : ∀ k, k + 1 < ps.length → costQ ps c0 c1 (k + 1) = costQ ps c0 c1 k + (c1 - c0) * hazQ ps (k + 1) * left ps (k + 1) := fun k hk => by
    have e1 := hg (k + 1) hk
    have e2 := psum_nth ps (k + 1)
    unfold costQ
    rw [← e2, ← e1]
    grind
  have ht : ∀ k, k + 1 < ps.length → psum (aboveL ps) (k + 2) = psum (aboveL ps) (k + 1) + left ps (k + 1) := fun k hk => (above_next (ps := ps) (k := k + 1) hk).symm
  have hR : 0 ≤ rateQ ps c0 c1 (i + 1) := by
    obtain ⟨a, _, _⟩ := h.cost h0 h1 (i + 1)
    have t1 := h.time1 (i + 1)
    unfold rateQ
    rw [Rat.div_def]
    exact Rat.mul_nonneg a (Rat.le_of_lt (Rat.inv_pos.2 (by grind)))
  have hz : 0 ≤ hazQ ps (i + 1) := by
    have hp := h.left_pos (k := i + 1) (by omega)
    unfold hazQ
    rw [Rat.div_def]
    exact Rat.mul_nonneg (h.nth_le (by omega)).1 (Rat.le_of_lt (Rat.inv_pos.2 hp))
  rintro ⟨a, b⟩
  have E1 := hr (i + 1)
  have E2 := hr (i + 2)
  have E0 := hr i
  rw [hc i (by omega), ht i (by omega), ← E0] at E1
  rw [hc (i + 1) (by omega), ht (i + 1) (by omega), ht i (by omega), hc i (by omega), ← E0] at E2
  refine peak (T0 := psum (aboveL ps) (i + 1)) (g1 := left ps (i + 1)) (g2 := left ps (i + 2)) (D := c1 - c0) (h1 := hazQ ps (i + 1)) (h2 := hazQ ps (i + 2)) (h.timepos i) (h.left_pos (by omega)) (h.left_pos (by omega)) E1 ?_ hz hh hR a b
  rw [E1]
  exact E2

end Go.Proofs.Ytcaeonpjokkjnaa

/- Where an append puts its slice; an own list beside a box that is stored. -/
namespace Go.Proofs.Ytcaeonpjokkjnaa
open Go Go.RowKit Go.Proofs

theorem run_append_where {P : Program} (w : World) (base : Nat) (t ty e : TypeId) (i : TypeInfo) (z : Value) (size bytes : Nat) (ht : P.underlying t = some (.slice e)) (hi : P.info? e = some i) (hz : i.zero = some z)
    (hsize : i.size = size) (hby : i.bytes = bytes)
    (v : Value) (n : Nat) (xs : List Value) (hown : w.ownsRow base e size v n xs)
    (a : Addr) (m c : Nat) (news : List Value) (hl : news.length = m * size) (hnews : ∀ j u, news[j]? = some u → w.cell? (a.add j) = some u) (h1 : ∀ u ∈ news, u.oneCell' = true)
    (h63 : n + m ≤ maxLen) (hbytes : (n + m) * bytes ≤ 140737488355328) (hm : 0 < m) :
    ∃ v' w', (Builtin.append_ #[t, t] ty #[v, .slice (some a) m c]).run P w = .ok v' w' ∧ (v'.ownBlock = v.ownBlock ∨ v'.ownBlock = some w.heap.size) := by
  subst hsize
  subst hby
  have hsmall : n + m ≤ 9223372036854775807 := by simp only [maxLen] at h63; omega
  rcases hown.2 with ⟨rfl, rfl⟩ | ⟨g, cap, cur, rfl, hbg, hg, hnc, hcm, hcs, htake⟩
  · have hr := run_append_nil (P := P) w t ty e i z ht hi hz a m c news hl hnews (by omega) (by omega) (by have hb := hbytes; simp only [Nat.zero_add] at hb; omega)
    exact ⟨_, _, hr, Or.inr rfl⟩
  · by_cases hroom : n + m ≤ cap
    · have hfit : n * i.size + news.length ≤ cur.size := by rw [hl, hcs, ← Nat.add_mul]; exact Nat.mul_le_mul_right _ hroom
      have hr := run_append_room (P := P) w t ty e i ht hi g n cap cur hg a m c news hl hnews h1 hroom hfit
      exact ⟨_, _, hr, Or.inl rfl⟩
    · have holds : ∀ j u, xs[j]? = some u → w.cell? ((⟨g, 0, none⟩ : Addr).add j) = some u := hown.cells (g := g) rfl
      have hr := run_append_grow (P := P) w t ty e i z ht hi hz ⟨g, 0, none⟩ n cap xs hown.1 holds a m c news hl hnews (by omega) (by omega) (growslice_fits (by omega) hbytes)
      exact ⟨_, _, hr, Or.inr rfl⟩

theorem step_append_qw {ops : Array Oper} {o : Oper} {a : Act} {w : World} {K : Act → World → Prop} {Q : Exit → Act → World → Prop} {E : Prop} (hgd : o.guard = none) (s x : Operand) (t : TypeId)
    (ho : o.op = .call { callee := .builtin .append, args := #[s, x], argTypes := #[t, t] }) (ht : Try.prog.underlying t = some (.slice 37)) (base n : Nat) (v : Value) (qs : List Rat) (q : Rat) (p : RP) (hs : a.eval s = v) (hv : ZV w base v qs)
    (hn : qs.length = n) (g0 : Nat) (hx : a.eval x = .slice (some ⟨g0, 0, none⟩) 1 1) (hb : n ≤ 1000000000000) (hbs : base ≤ w.heap.size)
    (c0 : w.cell? ⟨g0, 0, none⟩ = some (.bool (ng (rn q)))) (c1 : w.cell? ⟨g0, 1, none⟩ = some (.slice p.a (LZ (rn q)) p.c)) (c2 : w.cell? ⟨g0, 2, none⟩ = some (.bool (ng (rd q)))) (c3 : w.cell? ⟨g0, 3, none⟩ = some (.slice p.a' (LZ (rd q)) p.c'))
    (hm : ZRp w p q)
    (hK : ∀ v' w', ZV w' base v' (qs ++ [q]) → w.grownBy w' v.ownBlock → (v'.ownBlock = v.ownBlock ∨ v'.ownBlock = some w.heap.size) → K (a.put o.dst v') w') :
    if Region.wanted o (yielded ops a.tmps) = true then Oper.wp Try.prog o a w K Q else E := by
  obtain ⟨l, hl, hown, hno, hms⟩ := hv
  obtain ⟨i, h2, h3, h4, h5⟩ := info_parts info_q
  subst hn
  have hw : Region.wanted o (yielded ops a.tmps) = true := by simp [Region.wanted, hgd]
  rw [if_pos hw]
  have hnews : ∀ j u, (zCells q p)[j]? = some u → w.cell? ((⟨g0, 0, none⟩ : Addr).add j) = some u := by
    intro j u hu
    rw [Addr.add_lit, Nat.zero_add]
    rcases j with _ | _ | _ | _ | j
    · rw [c0]; exact hu
    · rw [c1]; exact hu
    · rw [c2]; exact hu
    · rw [c3]; exact hu
    · simp [zCells] at hu
  have hone : ∀ u ∈ zCells q p, u.oneCell' = true := by
    intro u hu
    simp [zCells] at hu
    rcases hu with rfl | rfl | rfl | rfl <;> rfl
  have hni : ∀ u ∈ zCells q p, ∀ k z, u ≠ .int k z := by
    intro u hu k z
    simp [zCells] at hu
    rcases hu with rfl | rfl | rfl | rfl <;> simp
  have hzn : ∀ u ∈ (Value.agg #[.bool false, .slice none 0 0, .bool false, .slice none 0 0]).cells.toList, ∀ k z, u ≠ .int k z := by
    intro u hu k z
    simp [Value.cells] at hu
    rcases hu with rfl | rfl | rfl | rfl <;> simp
  have b1 : qs.length + 1 ≤ maxLen := by unfold maxLen; omega
  have b2 : (qs.length + 1) * 64 ≤ 140737488355328 := by omega
  obtain ⟨v', w', hr, e1, e2, _⟩ := run_append_own (P := Try.prog) w base t o.type 37 i _ 4 64 ht h2 h3 h4 h5 rfl (by omega) v qs.length (allZ l) hown ⟨g0, 0, none⟩ 1 1 (zCells q p) rfl hnews hone b1 b2 hbs
  obtain ⟨v2, w2, hr2, e3⟩ := run_append_noint (P := Try.prog) w base t o.type 37 i _ 4 64 ht h2 h3 h4 h5 rfl (by omega) v qs.length (allZ l) hown ⟨g0, 0, none⟩ 1 1 (zCells q p) rfl hnews hone b1 b2 (by omega) hno hni hzn
  obtain ⟨v3, w3, hr3, e4⟩ := run_append_where (P := Try.prog) w base t o.type 37 i _ 4 64 ht h2 h3 h4 h5 v qs.length (allZ l) hown ⟨g0, 0, none⟩ 1 1 (zCells q p) rfl hnews hone b1 b2 (by omega)
  rw [hr] at hr2 hr3
  injection hr2 with f1 f2
  injection hr3 with f3 f4
  subst f1 f2 f3 f4
  unfold Oper.wp execOp
  simp only [ho, resolve, invoke, builtin, Sem.run_bind, Sem.run_pure, Result.andThen_ok, List.map_toArray, List.map_cons, List.map_nil, hs, hx, hr]
  refine hK v' w' ⟨l ++ [(q, p)], by simp [hl], ?_, e3, ?_⟩ e2 e4
  · rw [allZ_snoc, List.length_append]; exact e1
  · intro y hy
    rcases List.mem_append.1 hy with hy | hy
    · exact (hms y hy).grown e2 hno
    · rw [List.mem_singleton.1 hy]; exact hm.grown e2 hno

theorem ZV.setOff {w : World} {base N : Nat} {v : Value} {qs : List Rat} (h : ZV w base v qs) (hN : NoInt w N) (hown : ∀ g, v.ownBlock = some g → N ≠ g) (k : Nat) (x : Value) : ZV (w.setCell ⟨N, k, none⟩ x) base v qs := by
  obtain ⟨l, hl, ho, hn, hm⟩ := h
  refine ⟨l, hl, ⟨ho.1, ?_⟩, fun g hg o k' z hc => ?_, fun y hy => ?_⟩
  · rcases ho.2 with h' | ⟨g', cap', cur, hv, h1, hg, h2⟩
    · exact .inl h'
    · refine .inr ⟨g', cap', cur, hv, h1, ?_, h2⟩
      rw [heap_setCell_far w x (hown g' (by rw [hv]; rfl))]; exact hg
  · rw [World.cell?_setCell_far _ _ _ _ (hown g hg)] at hc
    exact hn g hg o k' z hc
  · exact ⟨MagZ.setN (hm y hy).1 hN k x, MagZ.setN (hm y hy).2 hN k x⟩

/-- A box at block g and an own list elsewhere, both above block B. -/
def BL (w0 wr : World) (B g : Nat) (p : RP) (q : Rat) (b : Value) (qs : List Rat) : Prop :=
  QM wr p.a p.c p.a' p.c' (rn q) (rd q) ∧ C4 wr g 0 (.bool (ng (rn q))) (.slice p.a (LZ (rn q)) p.c) (.bool (ng (rd q))) (.slice p.a' (LZ (rd q)) p.c') ∧ Rg g 4 wr wr ∧ ZV wr B b qs ∧ (∀ k, b.ownBlock = some k → g ≠ k) ∧ Below B w0 wr ∧ g < wr.heap.size ∧ B ≤ g
theorem BL.step {w0 wr w' : World} {B g : Nat} {p : RP} {q : Rat} {b : Value} {qs : List Rat} (h : BL w0 wr B g p q b qs) (hb : Below wr.heap.size wr w') : BL w0 w' B g p q b qs := by
  obtain ⟨h1, h2, h3, h4, h5, h6, h7, h8⟩ := h
  have := hb.size
  exact ⟨h1.up hb, h2.up hb, Rg.slf (Rg.step h3 (by omega) hb), h4.below hb, h5, h6.trans (hb.mono (by omega)), by omega, h8⟩
theorem BL.store {w0 wr : World} {B g : Nat} {p : RP} {q r : Rat} {b : Value} {qs : List Rat} {a a' : Option Addr} {c c' : Nat} (h : BL w0 wr B g p q b qs) (hm : QM wr a c a' c' (rn r) (rd r)) :
    BL w0 ((((wr.setCell ⟨g, 0, none⟩ (.bool (ng (rn r)))).setCell ⟨g, 1, none⟩ (.slice a (LZ (rn r)) c)).setCell ⟨g, 2, none⟩ (.bool (ng (rd r)))).setCell ⟨g, 3, none⟩ (.slice a' (LZ (rd r)) c')) B g ⟨a, c, a', c'⟩ r b qs := by
  obtain ⟨h1, h2, h3, h4, h5, h6, h7, h8⟩ := h
  have h3' := h3
  obtain ⟨_, t2, t3, t5, t4⟩ := h3'
  have n1 := t5.set ⟨g, 0, none⟩ (.bool (ng (rn r))) (by intro _ _ h; cases h)
  have n2 := n1.set ⟨g, 1, none⟩ (.slice a (LZ (rn r)) c) (by intro _ _ h; cases h)
  have n3 := n2.set ⟨g, 2, none⟩ (.bool (ng (rd r))) (by intro _ _ h; cases h)
  refine ⟨⟨hm.1.set4 t5 _ _ _ _ _ _ _ _, hm.2.set4 t5 _ _ _ _ _ _ _ _⟩, ⟨?_, ?_, ?_, ?_⟩, Rg.slf (Rg.set (Rg.set (Rg.set (Rg.set h3 _) _) _) _), (((h4.setOff t5 h5 _ _).setOff n1 h5 _ _).setOff n2 h5 _ _).setOff n3 h5 _ _, h5, below_set4 h6 h8 _ _ _ _, by simpa using h7, h8⟩
  · simp [go_sem, t2]
  · simp [go_sem, t2]
  · simp [go_sem, t2]
  · simp [go_sem, t2]
theorem BL.grown {w0 wr w' : World} {B g : Nat} {p : RP} {q : Rat} {b v' : Value} {qs qs' : List Rat} (h : BL w0 wr B g p q b qs) (hg : wr.grownBy w' b.ownBlock) (hv : ZV w' B v' qs') (hw : v'.ownBlock = b.ownBlock ∨ v'.ownBlock = some wr.heap.size) : BL w0 w' B g p q v' qs' := by
  obtain ⟨h1, h2, h3, h4, h5, h6, h7, h8⟩ := h
  have hne : some g ≠ b.ownBlock := fun e => h5 g e.symm rfl
  have hbk := hg.block g h7 hne
  have hs := hg.size
  have hno := h4.noInt
  have hbb : Below B wr w' := (Below.refl _ _).grown hg (by omega) (fun k hk => (h4.lt k hk).1)
  refine ⟨⟨⟨h1.1.1, Dg.grown h1.1.2 hg hno⟩, ⟨h1.2.1, Dg.grown h1.2.2 hg hno⟩⟩, h2.grown hg h5, Rg.mk (Below.refl _ _) (fun o ho => ?_) (fun o => ?_) (fun o k z hc => ?_), hv, fun k hk => ?_, h6.trans hbb, by omega, h8⟩
  · rw [World.cell?_of_block (w := wr) (a := ⟨g, o, none⟩) hbk, h3.2.1 o ho]; rfl
  · rw [World.frozen?_of_block (w := wr) (a := ⟨g, o, none⟩) hbk]; exact h3.2.2.1 o
  · rw [World.cell?_of_block (w := wr) (a := ⟨g, o, none⟩) hbk] at hc
    exact h3.2.2.2.1 o k z hc
  · rcases hw with hw | hw
    · rw [hw] at hk; exact h5 k hk
    · rw [hw] at hk
      injection hk with hk
      omega

end Go.Proofs.Ytcaeonpjokkjnaa

/- Walk of the law WearPlanned. -/
namespace Go.Proofs.Ytcaeonpjokkjnaa
open Go Go.RowKit Go.Proofs

theorem make20 (n : Nat) (z : Int) (w : World) (hz : ((n : Nat) : Int) = z) (hn : n ≤ 20) : Calls Try.prog 17 #[.int .i64 z, .int .i64 20] w (RetQ w (rn (q20 n)) (rd (q20 n))) := by
  subst hz; exact make_any n 20 (by omega) (by omega) (by omega) w
theorem q20_parts {n : Nat} (hn : n ≤ 20) : PQ (rn (q20 n)) (rd (q20 n)) (q20 n) 1000 := by
  refine PQ.low ?_
  have hb : Bd 20 20 (q20 n) := ⟨(n : Int), q20_mul n, by omega⟩
  obtain ⟨b1, b2⟩ := hb.parts (by omega)
  exact ⟨lt_p10 (by omega) (by omega), lt_p10 (by omega) (by omega)⟩
theorem aF_short {n : Nat} {xs : List Nat} {k : Nat} (hk : k ≤ 7) : Short4 (aF n xs k) := by
  obtain ⟨a, b, c⟩ := aF_ok n xs k
  have h20 : 20 ^ k ≤ p10 10 := Nat.le_trans (Nat.pow_le_pow_right (by omega) hk) (by decide)
  exact c.s4 (Nat.pow_pos (by omega)) h20 (by omega) a (le_2m b)
theorem fF_short {n : Nat} {xs : List Nat} {k : Nat} (hk : k < 7) : Short4 (fF n xs k) := by
  obtain ⟨a, b, c⟩ := fF_ok n xs k
  have h20 : 20 ^ (k + 1) ≤ p10 10 := Nat.le_trans (Nat.pow_le_pow_right (by omega) (show k + 1 ≤ 7 by omega)) (by decide)
  exact c.s4 (Nat.pow_pos (by omega)) h20 (by omega) a (le_2m b)
theorem BL.cells {w0 wr : World} {B g : Nat} {p : RP} {q : Rat} {b : Value} {qs : List Rat} (h : BL w0 wr B g p q b qs) :
    wr.cell? ⟨g, 0, none⟩ = some (.bool (ng (rn q))) ∧ wr.cell? ⟨g, 1, none⟩ = some (.slice p.a (LZ (rn q)) p.c) ∧ wr.cell? ⟨g, 2, none⟩ = some (.bool (ng (rd q))) ∧ wr.cell? ⟨g, 3, none⟩ = some (.slice p.a' (LZ (rd q)) p.c') := h.2.1
theorem BL.qm {w0 wr : World} {B g : Nat} {p : RP} {q : Rat} {b : Value} {qs : List Rat} (h : BL w0 wr B g p q b qs) : QM wr p.a p.c p.a' p.c' (rn q) (rd q) := h.1
theorem BL.zv {w0 wr : World} {B g : Nat} {p : RP} {q : Rat} {b : Value} {qs : List Rat} (h : BL w0 wr B g p q b qs) : ZV wr B b qs := h.2.2.2.1

theorem nt_small10 {q : Rat} (h1 : (rn q).natAbs < p10 10) (h2 : (rd q).natAbs < p10 10) : (nt q).size ≤ 40 := by
  have hd : ∀ n : Nat, n < p10 10 → (dec n).data.toList.length ≤ 10 := fun n hn => by
    rw [size_list, dec_size]
    split
    · omega
    · exact L_of_p10 hn
  have a := hd _ h1
  have b := hd _ h2
  rw [← size_list, nt_list]
  unfold sdec
  rw [List.length_append, List.length_append]
  have c : (if ng (rn q) then [(45 : UInt8)] else []).length ≤ 1 := by split <;> simp
  have d : (if !isInt q then 47 :: (dec (rd q).natAbs).data.toList else []).length ≤ 11 := by
    split
    · rw [List.length_cons]; omega
    · simp
  omega
theorem fF_nt {n : Nat} {xs : List Nat} {k : Nat} (hk : k < 7) : (nt (fF n xs k)).size ≤ 40 := by
  obtain ⟨a, b, c⟩ := fF_ok n xs k
  obtain ⟨b1, b2⟩ := (c.bd (k := 1) a (by exact b)).parts (Nat.pow_pos (by omega))
  have h20 : 20 ^ (k + 1) ≤ 20 ^ 7 := Nat.pow_le_pow_right (by omega) (by omega)
  have h7 : (20 : Nat) ^ 7 < p10 10 := by decide
  exact nt_small10 (by omega) (by omega)
theorem fL_mem {n : Nat} {xs : List Nat} {k : Nat} {q : Rat} (h : q ∈ fL n xs k) : ∃ j, j < k ∧ q = fF n xs j := by
  unfold fL at h
  obtain ⟨j, hj, rfl⟩ := List.mem_map.1 h
  exact ⟨j, List.mem_range.1 hj, rfl⟩
theorem int_parts {n : Nat} (hn : n ≤ 100) : Short4 (((n : Nat) : Int) : Rat) ∧ (nt (((n : Nat) : Int) : Rat)).size ≤ 40 := by
  have e1 : rn (((n : Nat) : Int) : Rat) = (n : Int) := rfl
  have e2 : rd (((n : Nat) : Int) : Rat) = 1 := rfl
  have h4 : (n : Nat) < p10 10 := Nat.lt_of_le_of_lt hn (by decide)
  have h1 : (1 : Nat) < p10 10 := by decide
  refine ⟨⟨?_, ?_⟩, nt_small10 ?_ ?_⟩
  · rw [e1, Int.natAbs_natCast]; exact lt_p10 (by omega) (by omega)
  · rw [e2]; exact lt_p10 (n := 1) (by omega) (by omega)
  · rw [e1, Int.natAbs_natCast]; exact h4
  · rw [e2]; exact h1

end Go.Proofs.Ytcaeonpjokkjnaa

/- What WearPlanned's last loop asks. Plain. -/
namespace Go.Proofs.Ytcaeonpjokkjnaa
open Go Go.RowKit Go.Proofs

theorem sg_neg {x : Int} : sg x < 0 ↔ x < 0 := by
  unfold sg; split <;> (try split) <;> omega
theorem sg_gt {x : Int} : 0 < sg x ↔ 0 < x := by
  unfold sg; split <;> (try split) <;> omega
theorem rsg_neg {p q : Rat} : rsg p q < 0 ↔ p < q := by
  unfold rsg
  rw [sg_neg, Rat.lt_iff]
  show p.num * (q.den : Int) - q.num * (p.den : Int) < 0 ↔ _
  omega
theorem rsg_gt {p q : Rat} : 0 < rsg p q ↔ q < p := by
  unfold rsg
  rw [sg_gt, Rat.lt_iff]
  show 0 < p.num * (q.den : Int) - q.num * (p.den : Int) ↔ _
  omega
theorem bestK_min (qs : List Rat) : ∀ k j, j < k → nth qs (bestK qs k) ≤ nth qs j
  | 0, j, h => by omega
  | k + 1, j, h => by
    rw [bestK]
    by_cases hc : rsg (nth qs k) (nth qs (bestK qs k)) < 0
    · rw [if_pos hc]
      have hlt := rsg_neg.1 hc
      by_cases hj : j < k
      · have h2 := bestK_min qs k j hj
        grind
      · have : j = k := by omega
        subst this
        exact Rat.le_refl
    · rw [if_neg hc]
      by_cases hj : j < k
      · exact bestK_min qs k j hj
      · have : j = k := by omega
        subst this
        exact Rat.not_lt.1 fun h9 => hc (rsg_neg.2 h9)
def planP (rs hs : List Rat) (t k : Nat) : Prop := ∀ i, 1 ≤ i → i < k →
  ¬ rsg (nth hs i) (nth hs (i - 1)) < 0 ∧ ¬ rsg (nth rs i) (nth rs t) < 0 ∧ (i + 1 < k → ¬ (0 < rsg (nth rs i) (nth rs (i - 1)) ∧ 0 < rsg (nth rs i) (nth rs (i + 1))))
theorem nth_of {l : List Rat} {i : Nat} {q : Rat} (h : l[i]? = some q) : nth l i = q := by unfold nth; rw [h]; rfl
theorem nth_rate {ps : List Rat} {c0 c1 : Rat} {i : Nat} (h : i < ps.length) : nth (rateL ps c0 c1) i = rateQ ps c0 c1 i := by
  refine nth_of ?_
  unfold rateL
  rw [List.getElem?_map, List.getElem?_range h]; rfl
theorem nth_haz {ps : List Rat} {i : Nat} (h : i < ps.length) : nth (hazL ps) i = hazQ ps i := nth_of (hazL_at h)
theorem plan_ok {n : Nat} {xs : List Nat} {k : Nat} {ps : List Rat} {c0 c1 : Rat} (hp : ps = fL n xs k) (hlt : ∀ j, j < k → hF n xs j < 20) (h : Lv ps) (h0 : Cs c0) (h1 : Cs c1) :
    planP (rateL ps c0 c1) (hazL ps) (bestK (rateL ps c0 c1) k) k := by
  intro i hi hik
  have hlen : ps.length = k := by rw [hp, fL_length]
  have hz : ∀ j, j < k → hazQ ps j = q20 (hF n xs (j + 1)) := fun j hj => by
    rw [hp]
    exact haz_fL n xs hj (aF_pos n xs j fun t ht => hlt (t + 1) (by omega))
  have hm : ∀ j, j + 1 < k → hazQ ps j ≤ hazQ ps (j + 1) := fun j hj => by
    rw [hz j (by omega), hz (j + 1) hj]
    exact q20_mono (hF_mono n xs (j + 1))
  have e1 : i - 1 + 1 = i := by omega
  refine ⟨fun hc => ?_, fun hc => ?_, fun hk2 hc => ?_⟩
  · rw [nth_haz (by omega), nth_haz (by omega)] at hc
    have h2 := hm (i - 1) (by omega)
    rw [e1] at h2
    exact Rat.not_lt.2 h2 (rsg_neg.1 hc)
  · exact Rat.not_lt.2 (bestK_min _ k i hik) (rsg_neg.1 hc)
  · rw [nth_rate (by omega), nth_rate (by omega), nth_rate (by omega)] at hc
    have h2 := hm i hk2
    have h3 := no_peak h h0 h1 (i := i - 1) (by omega) (by rw [e1, show i - 1 + 2 = i + 1 by omega]; exact h2)
    rw [e1, show i - 1 + 2 = i + 1 by omega] at h3
    exact h3 ⟨rsg_gt.1 hc.1, rsg_gt.1 hc.2⟩

theorem cmp_z (z : Int) (a : Option Addr) (c : Nat) (a' : Option Addr) (c' : Nat) (b : Option Addr) (d : Nat) (b' : Option Addr) (d' : Nat) (q r : Rat) (w : World) (hz : rsg q r = z) (h1 : QM w a c a' c' (rn q) (rd q)) (h2 : QM w b d b' d' (rn r) (rd r)) (hp : SzQ (rn q) (rd q)) (hq : SzQ (rn r) (rd r)) :
    Calls Try.prog 12 #[.agg #[Value.bool (ng (rn q)), Value.slice a (LZ (rn q)) c, Value.bool (ng (rd q)), Value.slice a' (LZ (rd q)) c'], .agg #[Value.bool (ng (rn r)), Value.slice b (LZ (rn r)) d, Value.bool (ng (rd r)), Value.slice b' (LZ (rd r)) d']] w (RetNum w z) := by
  subst hz; exact cmpq_any a c a' c' b d b' d' (rn q) (rd q) (rn r) (rd r) w h1 h2 hp hq
theorem of_t (q : Rat) (w : World) (h : Short4 q) : Calls Try.prog 14 #[.string (nt q)] w (RetQ w (rn q) (rd q)) := by
  obtain ⟨a, b⟩ := parse_nt h
  have := of_any (nt q) w a (nt_len h)
  rw [b] at this
  exact this

end Go.Proofs.Ytcaeonpjokkjnaa
