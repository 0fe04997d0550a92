/- Wh -/
import Derived.Test.YteiipfajoikfpaaQWl
import Derived.Test.YteiipfajoikfpaaQPg
set_option linter.unusedVariables false
/- The law PairMoved, walked. -/
namespace Go.Proofs.Yteiipfajoikfpaa
open Go Go.RowKit Go.Proofs

/-- Two own lists of rows apart from each other. -/
structure TwoM (w : World) (base : Nat) (v1 : Value) (R : List (List Int)) (v2 : Value) (S : List (List Int)) : Prop where
  z1 : MI w base v1 R
  z2 : MI w base v2 S
  ne : ∀ g, v1.ownBlock = some g → v2.ownBlock ≠ some g
theorem TwoM.below {w w' : World} {base : Nat} {v1 v2 : Value} {R S : List (List Int)} (h : TwoM w base v1 R v2 S) (hb : Below w.heap.size w w') : TwoM w' base v1 R v2 S := ⟨h.z1.below hb, h.z2.below hb, h.ne⟩
theorem MI.apart {w w' : World} {base : Nat} {v v2 : Value} {R : List (List Int)} (h : MI w base v R) (hno : NoIntV w v2) (hg : w.grownBy w' v2.ownBlock) (hne : ∀ g, v.ownBlock = some g → v2.ownBlock ≠ some g) : MI w' base v R := by
  obtain ⟨vs, ho, hn, hr⟩ := h
  refine ⟨vs, ⟨ho.1, ?_⟩, fun g hg1 o k z hc => ?_, hr.grown hg hno⟩
  · rcases ho.2 with h' | ⟨g', cap', cur, hv, h1, hh, h2⟩
    · exact .inl h'
    · refine .inr ⟨g', cap', cur, hv, h1, ?_, h2⟩
      rw [hg.block g' (Array.getElem?_eq_some_iff.1 hh).1 (fun e => hne g' (by rw [hv]; rfl) e.symm)]
      exact hh
  · have hlt := (World.ownsRow.lt ho g hg1).2
    rw [World.cell?_of_block (w := w) (a := ⟨g, o, none⟩) (hg.block g hlt fun e => hne g hg1 e.symm)] at hc
    exact hn g hg1 o k z hc
theorem MI.no {w : World} {base : Nat} {v : Value} {C : List (List Int)} (h : MI w base v C) : NoIntV w v := h.choose_spec.2.1
theorem TwoM.put2 {w w' : World} {base : Nat} {v1 v2 v' : Value} {R S T : List (List Int)} (h : TwoM w base v1 R v2 S) (hz : MI w' base v' T) (hg : w.grownBy w' v2.ownBlock) (ho : v'.ownBlock = v2.ownBlock ∨ v'.ownBlock = some w.heap.size) : TwoM w' base v1 R v' T := by
  refine ⟨h.z1.apart h.z2.no hg h.ne, hz, fun g hg1 e => ?_⟩
  rcases ho with h1 | h1
  · exact h.ne g hg1 (by rw [← h1]; exact e)
  · rw [h1] at e
    injection e with e
    have := (h.z1.lt g hg1).2
    omega
theorem TwoM.put1 {w w' : World} {base : Nat} {v1 v2 v' : Value} {R S T : List (List Int)} (h : TwoM w base v1 R v2 S) (hz : MI w' base v' T) (hg : w.grownBy w' v1.ownBlock) (ho : v'.ownBlock = v1.ownBlock ∨ v'.ownBlock = some w.heap.size) : TwoM w' base v' T v2 S := by
  refine ⟨hz, h.z2.apart h.z1.no hg (fun g h2 h1 => h.ne g h1 h2), fun g hg1 e => ?_⟩
  rcases ho with h1 | h1
  · exact h.ne g (by rw [← h1]; exact hg1) e
  · rw [h1] at hg1
    injection hg1 with hg1
    have := (h.z2.lt g e).2
    omega
/-- One row more, in a region that draws its order. -/
theorem step_append_rowM {ops : Array Oper} {o : Oper} {a : Act} {w : World} {K : Act → World → Prop} {Q : Exit → Act → World → Prop} {E : Prop} (hgd : o.guard = none) (s x : Operand) (t : TypeId)
    (ho : o.op = .call { callee := .builtin .append, args := #[s, x], argTypes := #[t, t] }) (ht : Try.prog.underlying t = some (.slice 24)) (base n : Nat) (v : Value) (C : List (List Int)) (xs : List Int) (hs : a.eval s = v) (hv : MI w base v C)
    (hn : C.length = n) (g0 : Nat) (hx : a.eval x = .slice (some ⟨g0, 0, none⟩) 1 1) (b : Option Addr) (k d : Nat) (hb : n ≤ 1000000000000) (hbs : base ≤ w.heap.size) (c0 : w.cell? ⟨g0, 0, none⟩ = some (.slice b k d)) (hk : xs.length = k) (hd : k ≤ d) (hz : IZ w b xs)
    (hK : ∀ v' w', MI w' base v' (C ++ [xs]) → w.grownBy w' v.ownBlock → (v'.ownBlock = v.ownBlock ∨ v'.ownBlock = some w.heap.size) → K (a.put o.dst v') w') :
    if Region.wanted o (yielded ops a.tmps) = true then Oper.wp Try.prog o a w K Q else E := by
  have hw : Region.wanted o (yielded ops a.tmps) = true := by simp [Region.wanted, hgd]
  rw [if_pos hw]
  subst hk hn
  obtain ⟨i, h2, h3, h4, h5⟩ := info_parts info_rowJ
  obtain ⟨vs, hown, hno, hr⟩ := hv
  have hnews : ∀ (j : Nat) (u : Value), [Value.slice b xs.length d][j]? = some u → w.cell? ((⟨g0, 0, none⟩ : Addr).add j) = some u := fun j u hu => by
    rcases j with _ | j
    · simp at hu; subst hu
      rw [Addr.add_lit]; exact c0
    · simp at hu
  have hone : ∀ u ∈ [Value.slice b xs.length d], u.oneCell' = true := fun u hu => by rw [List.mem_singleton] at hu; subst hu; rfl
  have hnew : ∀ u ∈ [Value.slice b xs.length d], ∀ k z, u ≠ .int k z := fun u hu k z => by rw [List.mem_singleton] at hu; subst hu; simp
  have hzn : ∀ u ∈ (Value.slice none 0 0).cells.toList, ∀ k z, u ≠ .int k z := fun u hm k z => by
    simp [Value.cells] at hm
    subst hm; simp
  obtain ⟨v', w', hrun, e2, e3, _, e5⟩ := run_append_own_at (P := Try.prog) w base t o.type 24 i _ 1 24 ht h2 h3 h4 h5 rfl (by omega) v C.length vs hown ⟨g0, 0, none⟩ 1 1 _ (by simp) hnews hone (by unfold maxLen; omega) (by omega) hbs
  obtain ⟨v2, w2, hrun2, e6⟩ := run_append_noint (P := Try.prog) w base t o.type 24 i _ 1 24 ht h2 h3 h4 h5 rfl (by omega) v C.length vs hown ⟨g0, 0, none⟩ 1 1 _ (by simp) hnews hone (by unfold maxLen; omega) (by omega) (by omega) hno hnew hzn
  rw [hrun] at hrun2
  injection hrun2 with q1 q2
  subst q1 q2
  unfold Oper.wp execOp
  simp only [ho, resolve, invoke, builtin, Sem.run_bind, Sem.run_pure, Result.andThen_ok, List.map_toArray, List.map_cons, List.map_nil, hs, hx, hrun]
  refine hK v' w' ⟨vs ++ [.slice b xs.length d], ?_, e6, ?_⟩ e3 e5
  · rw [List.length_append]; exact e2
  · refine (hr.append (us := [.slice b xs.length d]) (D := [xs]) ⟨rfl, fun j u ys hu hy => ?_⟩).grown e3 hno
    rcases j with _ | j
    · simp at hu hy
      subst hu hy
      exact ⟨b, d, rfl, hd, hz⟩
    · simp at hu
theorem sum_in {l : List Int} (h : ∀ x ∈ l, 0 ≤ x ∧ x ≤ 1000) : 0 ≤ l.sum ∧ l.sum ≤ 1000 * (l.length : Int) := by
  induction l with
  | nil => simp
  | cons x l ih =>
    have h1 := h x (List.mem_cons_self ..)
    have h2 := ih fun y hy => h y (List.mem_cons_of_mem _ hy)
    rw [List.sum_cons, List.length_cons]
    omega
theorem sum_bd {C : List (List Int)} {n : Nat} {p : List Nat} (hg : goodC C) (hn : C.length = n) (hp : Pr n p) : 0 ≤ sumC C p ∧ sumC C p ≤ 8000 := by
  have h := sum_in (l := pcs C p) fun x hx => pc_in hg hn hp hx
  rw [pcs_length, hp.len] at h
  have := hg.2.1
  unfold sumC
  omega
/-- What a round of the copying holds. -/
structure Mv (W0 w : World) (v1 : Value) (R : List (List Int)) (v2 : Value) (S : List (List Int)) (ro : Option Addr) (row : List Int) (co : Option Addr) (crow : List Int) : Prop where
  t : TwoM w W0.heap.size v1 R v2 S
  ir : IZ w ro row
  ic : IZ w co crow
  bl : Below W0.heap.size W0 w
theorem Mv.below {W0 w w' : World} {v1 v2 : Value} {R S : List (List Int)} {ro co : Option Addr} {row crow : List Int} (h : Mv W0 w v1 R v2 S ro row co crow) (hb : Below w.heap.size w w') : Mv W0 w' v1 R v2 S ro row co crow :=
  ⟨h.t.below hb, h.ir.below hb, h.ic.below hb, h.bl.trans (hb.mono h.bl.size)⟩
theorem Mv.al {W0 w : World} {v1 v2 : Value} {R S : List (List Int)} {ro co : Option Addr} {row crow : List Int} (h : Mv W0 w v1 R v2 S ro row co crow) (o : Obj) : Mv W0 (w.alloc o) v1 R v2 S ro row co crow := h.below (below_al (Below.refl _ _) o)
theorem Mv.dr {W0 w : World} {v1 v2 : Value} {R S : List (List Int)} {ro co : Option Addr} {row crow : List Int} (h : Mv W0 w v1 R v2 S ro row co crow) : Mv W0 w.drew v1 R v2 S ro row co crow := h.below (Below.drew (Below.refl _ _))
theorem grown_cell {w w' : World} {v : Value} (hg : w.grownBy w' v.ownBlock) (b o : Nat) (u : Value) (hne : v.ownBlock ≠ some b) (hc : w.cell? ⟨b, o, none⟩ = some u) : w'.cell? ⟨b, o, none⟩ = some u := by
  rw [World.cell?_of_block (w := w) (a := ⟨b, o, none⟩) (hg.block b (World.block_lt_of_cell? w ⟨b, o, none⟩ hc) fun e => hne e.symm)]
  exact hc
theorem step_mv1 {ops : Array Oper} {o : Oper} {a : Act} {w : World} {K : Act → World → Prop} {Q : Exit → Act → World → Prop} {E : Prop} (hgd : o.guard = none) (s x : Operand) (t : TypeId)
    (ho : o.op = .call { callee := .builtin .append, args := #[s, x], argTypes := #[t, t] }) (ht : Try.prog.underlying t = some (.slice 24)) {W0 : World} {v1 v2 : Value} {R S : List (List Int)} {ro co : Option Addr} {row crow : List Int} (T : Mv W0 w v1 R v2 S ro row co crow)
    (n k d : Nat) (hs : a.eval s = v1) (hn : R.length = n) (g0 : Nat) (hx : a.eval x = .slice (some ⟨g0, 0, none⟩) 1 1) (hb : n ≤ 1000000000000) (c0 : w.cell? ⟨g0, 0, none⟩ = some (.slice ro k d)) (hk : row.length = k) (hd : k ≤ d)
    (hK : ∀ v' w', Mv W0 w' v' (R ++ [row]) v2 S ro row co crow → (∀ b o u, v1.ownBlock ≠ some b → w.cell? ⟨b, o, none⟩ = some u → w'.cell? ⟨b, o, none⟩ = some u) → K (a.put o.dst v') w') :
    if Region.wanted o (yielded ops a.tmps) = true then Oper.wp Try.prog o a w K Q else E :=
  step_append_rowM hgd s x t ho ht W0.heap.size n v1 R row hs T.t.z1 hn g0 hx ro k d hb T.bl.size c0 hk hd T.ir fun v' w' h1 h2 h3 =>
    hK v' w' ⟨T.t.put1 h1 h2 h3, T.ir.grown h2 T.t.z1.no, T.ic.grown h2 T.t.z1.no, T.bl.grown h2 T.bl.size fun k hk => (T.t.z1.lt k hk).1⟩ fun b o u hne hc => grown_cell h2 b o u hne hc
theorem step_mv2 {ops : Array Oper} {o : Oper} {a : Act} {w : World} {K : Act → World → Prop} {Q : Exit → Act → World → Prop} {E : Prop} (hgd : o.guard = none) (s x : Operand) (t : TypeId)
    (ho : o.op = .call { callee := .builtin .append, args := #[s, x], argTypes := #[t, t] }) (ht : Try.prog.underlying t = some (.slice 24)) {W0 : World} {v1 v2 : Value} {R S : List (List Int)} {ro co : Option Addr} {row crow : List Int} (T : Mv W0 w v1 R v2 S ro row co crow)
    (n k d : Nat) (hs : a.eval s = v2) (hn : S.length = n) (g0 : Nat) (hx : a.eval x = .slice (some ⟨g0, 0, none⟩) 1 1) (hb : n ≤ 1000000000000) (c0 : w.cell? ⟨g0, 0, none⟩ = some (.slice co k d)) (hk : crow.length = k) (hd : k ≤ d)
    (hK : ∀ v' w', Mv W0 w' v1 R v' (S ++ [crow]) ro row co crow → (∀ b o u, v2.ownBlock ≠ some b → w.cell? ⟨b, o, none⟩ = some u → w'.cell? ⟨b, o, none⟩ = some u) → K (a.put o.dst v') w') :
    if Region.wanted o (yielded ops a.tmps) = true then Oper.wp Try.prog o a w K Q else E :=
  step_append_rowM hgd s x t ho ht W0.heap.size n v2 S crow hs T.t.z2 hn g0 hx co k d hb T.bl.size c0 hk hd T.ic fun v' w' h1 h2 h3 =>
    hK v' w' ⟨T.t.put2 h1 h2 h3, T.ir.grown h2 T.t.z2.no, T.ic.grown h2 T.t.z2.no, T.bl.grown h2 T.bl.size fun k hk => (T.t.z2.lt k hk).1⟩ fun b o u hne hc => grown_cell h2 b o u hne hc
set_option maxRecDepth 100000 in
set_option maxHeartbeats 25600000 in
theorem movedLaw_any (n0 lx cx y0 y1 y2 : Nat) (ax : Option Addr) (xs : List Nat) (w : World) (hx : Dg .u16 w ax xs) (hl : xs.length = lx) (hl2 : lx ≤ 9223372036854775807) (hb : ∀ x ∈ xs, x < 65536) (hn : n0 < 256) (hy0 : y0 < 256) (hy1 : y1 < 256) (hy2 : y2 < 256) :
    Calls Try.prog 15 #[.int .u8 (n0 : Nat), .slice ax lx cx, .agg #[.int .u8 (y0 : Nat), .int .u8 (y1 : Nat), .int .u8 (y2 : Nat)]] w (RetB w true) := by
  have hmade := Lib.hid (fun W (hbW : Below w.heap.size w W) => made8_any n0 lx cx 60 ax xs W (hx.below hbW) hl hl2 hb hn (by omega))
  clear hx hl hl2 hb hn
  go_enter Try.func15, Try.ntmps15
  go_upto_region 1 with (fail)
  obtain ⟨V, hV⟩ : ∃ V, V = w.alloc (Obj.cells #[.int .u8 (y0 : Nat), .int .u8 (y1 : Nat), .int .u8 (y2 : Nat)] 68) := ⟨_, rfl⟩
  rw [← hV]
  have c0 : V.cell? ⟨w.heap.size, 0, none⟩ = some (.int .u8 (y0 : Nat)) := by rw [hV, al_new rfl]; rfl
  have c1 : V.cell? ⟨w.heap.size, 1, none⟩ = some (.int .u8 (y1 : Nat)) := by rw [hV, al_new rfl]; rfl
  have c2 : V.cell? ⟨w.heap.size, 2, none⟩ = some (.int .u8 (y2 : Nat)) := by rw [hV, al_new rfl]; rfl
  have hbV : Hid (Below w.heap.size w V) := by show Below _ _ _; rw [hV]; exact below_al (Below.refl _ _) _
  have c0H := Lib.hid c0
  have c1H := Lib.hid c1
  have c2H := Lib.hid c2
  clear hV c0 c1 c2
  go_upto_region 2 with (first
    | (go_at_call 29; go_loud (with_reducible refine (hmade.out _ hbV.out).mono ?_); rintro e w1 ⟨C, a1, d1, k, rfl, hC, hg, hk8, hmo, hM, hd1, hb1⟩; have hCH := Lib.hid hC; have hgH := Lib.hid hg; have hmoH := Lib.hid hmo; have hMH := Lib.hid hM; have hb1H := Lib.hid hb1; clear hmo hM hb1))
  have hk1 : 0 < k := by rw [← hC]; exact hg.1
  have c0 := Below.cellAt hb1H.out (Nat.le_refl _) c0H.out
  have c1 := Below.cellAt hb1H.out (Nat.le_refl _) c1H.out
  have c2 := Below.cellAt hb1H.out (Nat.le_refl _) c2H.out
  have hs1 : ¬ (k : Int) = 0 := by omega
  have hs2 : ((k : Int) == 0) = false := by simp; omega
  obtain ⟨i, hi⟩ : ∃ i, y0 % k = i := ⟨_, rfl⟩
  obtain ⟨j, hj⟩ : ∃ j, y1 % k = j := ⟨_, rfl⟩
  have hik : i < k := by rw [← hi]; exact Nat.mod_lt _ hk1
  have hjk : j < k := by rw [← hj]; exact Nat.mod_lt _ hk1
  have t1 : ((y0 : Int)).tmod (k : Int) = (i : Int) := by rw [← hi]; exact (Int.ofNat_tmod y0 k).symm
  have t2 : ((y0 : Int)) % (k : Int) = (i : Int) := by rw [← hi]; exact (Int.natCast_emod y0 k).symm
  have t3 : ((y1 : Int)).tmod (k : Int) = (j : Int) := by rw [← hj]; exact (Int.ofNat_tmod y1 k).symm
  have t4 : ((y1 : Int)) % (k : Int) = (j : Int) := by rw [← hj]; exact (Int.natCast_emod y1 k).symm
  clear hC hg c0H c1H c2H hmade hi hj
  go_region
  obtain ⟨W0, hW0⟩ : ∃ W0, W0 = w1.drew := ⟨_, rfl⟩
  rw [← hW0]
  have hM0 : Hid (IMx W0 a1 C) := by show IMx _ _ _; rw [hW0]; exact hMH.out.below (Below.drew (Below.refl _ _))
  have hbW : Hid (Below w.heap.size w W0) := by show Below _ _ _; rw [hW0]; exact Below.drew (bseqJ hbV.out hb1H.out)
  clear hW0 c0 c1 c2 hMH hbV hb1H
  go_upto_region 4 with (fail)
  have hTwo : Hid (TwoM ((W0.alloc (.cells #[] 24)).alloc (.cells #[] 24)) W0.heap.size (.slice (some ⟨W0.heap.size, 0, none⟩) 0 0) [] (.slice (some ⟨W0.heap.size + 1, 0, none⟩) 0 0) []) := by
    refine ⟨(MI.lit0 W0 W0.heap.size (Nat.le_refl _)).below (below_al (Below.refl _ _) _), ?_, fun g h1 h2 => ?_⟩
    · have h1 := MI.lit0 (W0.alloc (.cells #[] 24)) W0.heap.size (by simp)
      have h2 : (W0.alloc (.cells #[] 24)).heap.size = W0.heap.size + 1 := by simp
      rw [h2] at h1
      exact h1
    · injection h1 with h1
      injection h2 with h2
      simp at h1 h2; omega
  have hba : Hid (Below W0.heap.size W0 ((W0.alloc (.cells #[] 24)).alloc (.cells #[] 24))) := by show Below _ _ _; exact below_al (below_al (Below.refl _ _) _) _
  go_wp2_with (fail)
  go_loopg [11, 12, 13] k (fun gk rv sv iv wr => ∃ (r : Nat) (v1 v2 : Value), v1 = rv ∧ v2 = sv ∧ iv = .int .i64 (r : Nat) ∧ r + gk = k ∧ TwoM wr W0.heap.size v1 ((dearL C i (y2 : Nat)).take r) v2 (C.take r) ∧ Below W0.heap.size W0 wr)
  case atStart => exact ⟨0, _, _, rfl, rfl, rfl, by omega, hTwo.out, hba.out⟩
  case round =>
    clear hTwo hba
    obtain ⟨r, v1, v2, rfl, rfl, rfl, hr, hT, hbl⟩ := hrel
    obtain ⟨b1, e1, hv1⟩ := hT.z1.shape
    obtain ⟨b2, e2, hv2⟩ := hT.z2.shape
    have hl1 : ((dearL C i (y2 : Nat)).take r).length = r := by rw [List.length_take, dearL_len, hCH.out]; omega
    have hl2 : (C.take r).length = r := by rw [List.length_take, hCH.out]; omega
    rw [hl1] at hv1
    rw [hl2] at hv2
    subst hv1 hv2
    have hn1 := Lib.hid hl1
    have hn2 := Lib.hid hl2
    have hTH := Lib.hid hT
    have hblH := Lib.hid hbl
    clear hl1 hl2 hT hbl
    by_cases hrk : r < k
    · obtain ⟨g1, rfl⟩ : ∃ g1, gk = g1 + 1 := ⟨gk - 1, by omega⟩
      have hrI : (r : Int) < (k : Int) := by omega
      have hr0 : (0 : Int) ≤ (r : Int) := by omega
      obtain ⟨row, hrow⟩ : ∃ row, C[r]? = some row := ⟨_, List.getElem?_eq_getElem (by rw [hCH.out]; exact hrk)⟩
      obtain ⟨bc, oc, ac, cc, hac, hcc0, hccn, hIc⟩ := hM0.out.row hrow
      have hrl : row.length = k := by rw [← hCH.out]; exact (hgH.out.2.2 row (List.mem_of_getElem? hrow)).1
      have hlo := Lib.hid (fun x hx => ((hgH.out.2.2 row (List.mem_of_getElem? hrow)).2 x hx).1)
      have hhi := Lib.hid (fun x hx => hmoH.out row (List.mem_of_getElem? hrow) x hx)
      have hacH := Lib.hid hac
      subst hac
      rw [hrl] at hcc0 hccn
      have hcc := Below.cellAt hblH.out (Nat.le_refl _) hcc0
      have hcc1 := cell_alJ hcc (Obj.cells #[] 3)
      have hcC0 := Lib.hid hcc0
      have hcC0 := hcC0.out
      have hIcH := Lib.hid (hIc.below hblH.out)
      have hrlH := Lib.hid hrl
      have hnx1 := Lib.hid (dear_next (i := i) (d := (y2 : Nat)) hrow)
      have hnx2 := Lib.hid (take_lastX hrow)
      have hrow1 : row ≠ [] := fun e => by rw [e] at hrl; simp at hrl; omega
      clear hIc hrl hrow
      go_upto_region 8 with (at_builtin; (refine wpList_append_ze _ rfl (.tmp 60) (.tmp 64) _ rfl Try.underlying24 wr.heap.size 0 _ [] (by rfl) (ZE.lit _ _ _) rfl ac k cc row (by rfl) (hIcH.out.below (below_al (Below.refl _ _) _)) hrlH.out (by omega) (by omega) (by simp) ?_); intro va x1 hA1; rw [List.nil_append] at hA1; have hAa := Lib.hid hA1; have hba := Lib.hid (Below.trans (below_al (Below.refl _ _) _) hA1.2.1); clear hA1)
      obtain ⟨a2, c2, hva⟩ := hAa.out.1.some hrow1
      rw [hrlH.out] at hva
      subst hva
      have hc2 : k ≤ c2 := hAa.out.1.iz.2
      obtain ⟨hzR, hgR⟩ := ze_ownP hAa.out.1 (List.length_pos_iff.2 hrow1)
      have hzRH := Lib.hid hzR
      clear hAa hzR hcc1
      obtain ⟨wq, hwq⟩ : ∃ wq, wq = wr := ⟨_, rfl⟩
      subst hwq
      by_cases hri : r = i
      · subst hri
        have hriB : ((r : Int) == (r : Int)) = true := by simp
        have hnx3 : Hid ((dearL C r (y2 : Nat)).take (r + 1) = (dearL C r (y2 : Nat)).take r ++ [addT (y2 : Nat) k row]) := by
          show _ = _
          rw [hnx1.out, if_pos rfl, ← hrlH.out, addT_full]
        go_wp2_with (fail)
        go_loopg [15] k (fun gc cv wx => ∃ c : Nat, cv = .int .i64 (c : Nat) ∧ c + gc = k ∧ ZP wx a2 (addT (y2 : Nat) c row) ∧ Below wq.heap.size wq wx)
        case atStart => exact ⟨0, rfl, by omega, by rw [addT_zero]; exact hzRH.out, hba.out⟩
        case round =>
          clear hzRH hba
          obtain ⟨c, rfl, hc, hZ, hbx⟩ := hrel
          have hZH := Lib.hid hZ
          have hbxH := Lib.hid hbx
          clear hZ hbx
          by_cases hck : c < k
          · obtain ⟨g2, rfl⟩ : ∃ g2, gk = g2 + 1 := ⟨gk - 1, by omega⟩
            have hcI : (c : Int) < (k : Int) := by omega
            have hc0 : (0 : Int) ≤ (c : Int) := by omega
            have cR := hZH.out.at (i := c) (by rw [addT_len, hrlH.out]; exact hck)
            rw [addT_at (by rw [hrlH.out]; exact hck)] at cR
            have zR := hZH.out.frozen c
            have hmem : at0 row c ∈ row := List.mem_of_getElem? (at0_get (by rw [hrlH.out]; exact hck))
            have q0 := hlo.out _ hmem
            have q1 := hhi.out _ hmem
            have hset : Hid ((addT (y2 : Nat) c row).set c (at0 row c + (y2 : Nat)) = addT (y2 : Nat) (c + 1) row) := addT_set (by rw [hrlH.out]; exact hck)
            have hstep := Lib.hid (hZH.out.set (i := c) (by rw [addT_len, hrlH.out]; exact hck) (at0 row c + (y2 : Nat)))
            obtain ⟨q, hq⟩ : ∃ q, at0 row c = q := ⟨_, rfl⟩
            rw [hq] at cR q0 q1
            have hqH := Lib.hid hq
            have wr1 : IntKind.i64.wrap (q + (y2 : Int)) = q + (y2 : Int) := by rw [IntKind.wrap_i64]; omega
            clear hq hmem
            go_wp2_with (fail)
            go_roundg g2
            case measure => omega
            case rel => exact ⟨c + 1, by go_num, by omega, by rw [← hset.out, ← hqH.out]; exact hstep.out, hbxH.out.setCell hgR _⟩
          · have hce : k = c := by omega
            subst hce
            have hcI : ¬ (k : Int) < (k : Int) := by omega
            have hro : Hid ((addT (y2 : Nat) k row).length = k) := by show _ = _; rw [addT_len]; exact hrlH.out
            have hMv0 : Hid (Mv W0 wr (.slice b1 r e1) ((dearL C r (y2 : Nat)).take r) (.slice b2 r e2) (C.take r) (some ⟨a2, 0, none⟩) (addT (y2 : Nat) k row) ac row) := by
              show Mv _ _ _ _ _ _ _ _ _ _
              exact ⟨hTH.out.below hbxH.out, hZH.out.iz, hIcH.out.below hbxH.out, bseqJ hblH.out hbxH.out⟩
            have hcC : wr.cell? ⟨bc, oc + r, none⟩ = some (.slice ac k cc) := Below.cellAt hbxH.out (Nat.le_refl _) hcc
            have hszx := (hbxH.out).size
            have hf1 : ∀ g, wr.heap.size ≤ g → (Value.slice b1 r e1).ownBlock ≠ some g := fun g hg e => by have := (hTH.out.z1.lt g e).2; omega
            have hf2 : ∀ g, wr.heap.size ≤ g → (Value.slice b2 r e2).ownBlock ≠ some g := fun g hg e => by have := (hTH.out.z2.lt g e).2; omega
            go_wp2_with (fail)
            go_region_held3 (fun w' => w'.cell? ⟨bc, oc + r, none⟩ = some (.slice ac k cc))
              (repeat (first | assumption | (with_reducible refine cell_drJ ?_) | (with_reducible refine cell_alJ ?_ _)))
              (first
                | ((refine step_mv1 rfl (.tmp 84) (.tmp 86) _ rfl Try.underlying22 (W0 := W0) (v1 := .slice b1 r e1) (v2 := v4) (R := (dearL C r (y2 : Nat)).take r) (S := C.take r ++ [row]) (ro := some ⟨a2, 0, none⟩) (row := addT (y2 : Nat) k row) (co := ac) (crow := row) (by repeat (first | exact hM4H.out | (with_reducible refine Mv.dr ?_) | (with_reducible refine Mv.al ?_ _))) r k c2 (by rfl) hn1.out _ (by rfl) (by omega) (by repeat (first | (simp; done) | (exact hc4H.out _ _ _ (hf1 _ (by simp)) (by repeat (first | (simp; done) | (with_reducible refine cell_drJ ?_) | (with_reducible refine cell_alJ ?_ _)))) | (exact hc4H.out _ _ _ (hf2 _ (by simp)) (by repeat (first | (simp; done) | (with_reducible refine cell_drJ ?_) | (with_reducible refine cell_alJ ?_ _)))) | (with_reducible refine cell_drJ ?_) | (with_reducible refine cell_alJ ?_ _))) hro.out hc2 ?_); intro v6 w6 hM6 hc6; have hM6H := Lib.hid hM6; have hc6H := Lib.hid hc6; have hk6 : w6.cell? ⟨bc, oc + r, none⟩ = some (.slice ac k cc) := Below.cellAt hM6.bl (Nat.le_refl _) hcC0; clear hM6 hc6)
                | ((refine step_mv2 rfl (.tmp 88) (.tmp 93) _ rfl Try.underlying22 (W0 := W0) (v1 := v4) (v2 := .slice b2 r e2) (R := (dearL C r (y2 : Nat)).take r ++ [addT (y2 : Nat) k row]) (S := C.take r) (ro := some ⟨a2, 0, none⟩) (row := addT (y2 : Nat) k row) (co := ac) (crow := row) (by repeat (first | exact hM4H.out | (with_reducible refine Mv.dr ?_) | (with_reducible refine Mv.al ?_ _))) r k cc (by rfl) hn2.out _ (by rfl) (by omega) (by repeat (first | (simp; done) | (exact hc4H.out _ _ _ (hf1 _ (by simp)) (by repeat (first | (simp; done) | (with_reducible refine cell_drJ ?_) | (with_reducible refine cell_alJ ?_ _)))) | (exact hc4H.out _ _ _ (hf2 _ (by simp)) (by repeat (first | (simp; done) | (with_reducible refine cell_drJ ?_) | (with_reducible refine cell_alJ ?_ _)))) | (with_reducible refine cell_drJ ?_) | (with_reducible refine cell_alJ ?_ _))) hrlH.out hccn ?_); intro v6 w6 hM6 hc6; have hM6H := Lib.hid hM6; have hc6H := Lib.hid hc6; have hk6 : w6.cell? ⟨bc, oc + r, none⟩ = some (.slice ac k cc) := Below.cellAt hM6.bl (Nat.le_refl _) hcC0; clear hM6 hc6)
                | ((refine step_mv1 rfl (.tmp 84) (.tmp 86) _ rfl Try.underlying22 (W0 := W0) (v1 := .slice b1 r e1) (v2 := .slice b2 r e2) (R := (dearL C r (y2 : Nat)).take r) (S := C.take r) (ro := some ⟨a2, 0, none⟩) (row := addT (y2 : Nat) k row) (co := ac) (crow := row) (by repeat (first | exact hMv0.out | (with_reducible refine Mv.dr ?_) | (with_reducible refine Mv.al ?_ _))) r k c2 (by rfl) hn1.out _ (by rfl) (by omega) (by repeat (first | (simp; done) | (exact hc4H.out _ _ _ (hf1 _ (by simp)) (by repeat (first | (simp; done) | (with_reducible refine cell_drJ ?_) | (with_reducible refine cell_alJ ?_ _)))) | (exact hc4H.out _ _ _ (hf2 _ (by simp)) (by repeat (first | (simp; done) | (with_reducible refine cell_drJ ?_) | (with_reducible refine cell_alJ ?_ _)))) | (with_reducible refine cell_drJ ?_) | (with_reducible refine cell_alJ ?_ _))) hro.out hc2 ?_); intro v4 w4 hM4 hc4; have hM4H := Lib.hid hM4; have hc4H := Lib.hid hc4; have hk4 : w4.cell? ⟨bc, oc + r, none⟩ = some (.slice ac k cc) := Below.cellAt hM4.bl (Nat.le_refl _) hcC0; clear hM4 hc4)
                | ((refine step_mv2 rfl (.tmp 88) (.tmp 93) _ rfl Try.underlying22 (W0 := W0) (v1 := .slice b1 r e1) (v2 := .slice b2 r e2) (R := (dearL C r (y2 : Nat)).take r) (S := C.take r) (ro := some ⟨a2, 0, none⟩) (row := addT (y2 : Nat) k row) (co := ac) (crow := row) (by repeat (first | exact hMv0.out | (with_reducible refine Mv.dr ?_) | (with_reducible refine Mv.al ?_ _))) r k cc (by rfl) hn2.out _ (by rfl) (by omega) (by repeat (first | (simp; done) | (exact hc4H.out _ _ _ (hf1 _ (by simp)) (by repeat (first | (simp; done) | (with_reducible refine cell_drJ ?_) | (with_reducible refine cell_alJ ?_ _)))) | (exact hc4H.out _ _ _ (hf2 _ (by simp)) (by repeat (first | (simp; done) | (with_reducible refine cell_drJ ?_) | (with_reducible refine cell_alJ ?_ _)))) | (with_reducible refine cell_drJ ?_) | (with_reducible refine cell_alJ ?_ _))) hrlH.out hccn ?_); intro v4 w4 hM4 hc4; have hM4H := Lib.hid hM4; have hc4H := Lib.hid hc4; have hk4 : w4.cell? ⟨bc, oc + r, none⟩ = some (.slice ac k cc) := Below.cellAt hM4.bl (Nat.le_refl _) hcC0; clear hM4 hc4))
            all_goals (
              go_wp2_with (fail)
              go_roundg g1
              case measure => omega
              case rel => exact ⟨r + 1, _, _, rfl, rfl, by go_num, by omega, by rw [hnx3.out, hnx2.out]; exact hM6H.out.t, hM6H.out.bl⟩)
      · have hriB : ((r : Int) == (i : Int)) = false := by simp; omega
        have hnx3 : Hid ((dearL C i (y2 : Nat)).take (r + 1) = (dearL C i (y2 : Nat)).take r ++ [row]) := by
          show _ = _
          rw [hnx1.out, if_neg hri]
        have hkI0 : (0 : Int) < (k : Int) := by omega
        go_wp2_with (fail)
        go_loopg [15] 0 (fun gc cv wx => cv = .int .i64 0 ∧ ZP wx a2 row ∧ Below wq.heap.size wq wx)
        case atStart => exact ⟨rfl, hzRH.out, hba.out⟩
        case round =>
          clear hzRH hba
          obtain ⟨rfl, hZ, hbx⟩ := hrel
          have hZH := Lib.hid hZ
          have hbxH := Lib.hid hbx
          clear hZ hbx
          have hMv0 : Hid (Mv W0 wr (.slice b1 r e1) ((dearL C i (y2 : Nat)).take r) (.slice b2 r e2) (C.take r) (some ⟨a2, 0, none⟩) (row) ac row) := by
            show Mv _ _ _ _ _ _ _ _ _ _
            exact ⟨hTH.out.below hbxH.out, hZH.out.iz, hIcH.out.below hbxH.out, bseqJ hblH.out hbxH.out⟩
          have hcC : wr.cell? ⟨bc, oc + r, none⟩ = some (.slice ac k cc) := Below.cellAt hbxH.out (Nat.le_refl _) hcc
          have hszx := (hbxH.out).size
          have hf1 : ∀ g, wr.heap.size ≤ g → (Value.slice b1 r e1).ownBlock ≠ some g := fun g hg e => by have := (hTH.out.z1.lt g e).2; omega
          have hf2 : ∀ g, wr.heap.size ≤ g → (Value.slice b2 r e2).ownBlock ≠ some g := fun g hg e => by have := (hTH.out.z2.lt g e).2; omega
          go_wp2_with (fail)
          go_region_held3 (fun w' => w'.cell? ⟨bc, oc + r, none⟩ = some (.slice ac k cc))
            (repeat (first | assumption | (with_reducible refine cell_drJ ?_) | (with_reducible refine cell_alJ ?_ _)))
            (first
              | ((refine step_mv1 rfl (.tmp 84) (.tmp 86) _ rfl Try.underlying22 (W0 := W0) (v1 := .slice b1 r e1) (v2 := v4) (R := (dearL C i (y2 : Nat)).take r) (S := C.take r ++ [row]) (ro := some ⟨a2, 0, none⟩) (row := row) (co := ac) (crow := row) (by repeat (first | exact hM4H.out | (with_reducible refine Mv.dr ?_) | (with_reducible refine Mv.al ?_ _))) r k c2 (by rfl) hn1.out _ (by rfl) (by omega) (by repeat (first | (simp; done) | (exact hc4H.out _ _ _ (hf1 _ (by simp)) (by repeat (first | (simp; done) | (with_reducible refine cell_drJ ?_) | (with_reducible refine cell_alJ ?_ _)))) | (exact hc4H.out _ _ _ (hf2 _ (by simp)) (by repeat (first | (simp; done) | (with_reducible refine cell_drJ ?_) | (with_reducible refine cell_alJ ?_ _)))) | (with_reducible refine cell_drJ ?_) | (with_reducible refine cell_alJ ?_ _))) hrlH.out hc2 ?_); intro v6 w6 hM6 hc6; have hM6H := Lib.hid hM6; have hc6H := Lib.hid hc6; have hk6 : w6.cell? ⟨bc, oc + r, none⟩ = some (.slice ac k cc) := Below.cellAt hM6.bl (Nat.le_refl _) hcC0; clear hM6 hc6)
              | ((refine step_mv2 rfl (.tmp 88) (.tmp 93) _ rfl Try.underlying22 (W0 := W0) (v1 := v4) (v2 := .slice b2 r e2) (R := (dearL C i (y2 : Nat)).take r ++ [row]) (S := C.take r) (ro := some ⟨a2, 0, none⟩) (row := row) (co := ac) (crow := row) (by repeat (first | exact hM4H.out | (with_reducible refine Mv.dr ?_) | (with_reducible refine Mv.al ?_ _))) r k cc (by rfl) hn2.out _ (by rfl) (by omega) (by repeat (first | (simp; done) | (exact hc4H.out _ _ _ (hf1 _ (by simp)) (by repeat (first | (simp; done) | (with_reducible refine cell_drJ ?_) | (with_reducible refine cell_alJ ?_ _)))) | (exact hc4H.out _ _ _ (hf2 _ (by simp)) (by repeat (first | (simp; done) | (with_reducible refine cell_drJ ?_) | (with_reducible refine cell_alJ ?_ _)))) | (with_reducible refine cell_drJ ?_) | (with_reducible refine cell_alJ ?_ _))) hrlH.out hccn ?_); intro v6 w6 hM6 hc6; have hM6H := Lib.hid hM6; have hc6H := Lib.hid hc6; have hk6 : w6.cell? ⟨bc, oc + r, none⟩ = some (.slice ac k cc) := Below.cellAt hM6.bl (Nat.le_refl _) hcC0; clear hM6 hc6)
              | ((refine step_mv1 rfl (.tmp 84) (.tmp 86) _ rfl Try.underlying22 (W0 := W0) (v1 := .slice b1 r e1) (v2 := .slice b2 r e2) (R := (dearL C i (y2 : Nat)).take r) (S := C.take r) (ro := some ⟨a2, 0, none⟩) (row := row) (co := ac) (crow := row) (by repeat (first | exact hMv0.out | (with_reducible refine Mv.dr ?_) | (with_reducible refine Mv.al ?_ _))) r k c2 (by rfl) hn1.out _ (by rfl) (by omega) (by repeat (first | (simp; done) | (exact hc4H.out _ _ _ (hf1 _ (by simp)) (by repeat (first | (simp; done) | (with_reducible refine cell_drJ ?_) | (with_reducible refine cell_alJ ?_ _)))) | (exact hc4H.out _ _ _ (hf2 _ (by simp)) (by repeat (first | (simp; done) | (with_reducible refine cell_drJ ?_) | (with_reducible refine cell_alJ ?_ _)))) | (with_reducible refine cell_drJ ?_) | (with_reducible refine cell_alJ ?_ _))) hrlH.out hc2 ?_); intro v4 w4 hM4 hc4; have hM4H := Lib.hid hM4; have hc4H := Lib.hid hc4; have hk4 : w4.cell? ⟨bc, oc + r, none⟩ = some (.slice ac k cc) := Below.cellAt hM4.bl (Nat.le_refl _) hcC0; clear hM4 hc4)
              | ((refine step_mv2 rfl (.tmp 88) (.tmp 93) _ rfl Try.underlying22 (W0 := W0) (v1 := .slice b1 r e1) (v2 := .slice b2 r e2) (R := (dearL C i (y2 : Nat)).take r) (S := C.take r) (ro := some ⟨a2, 0, none⟩) (row := row) (co := ac) (crow := row) (by repeat (first | exact hMv0.out | (with_reducible refine Mv.dr ?_) | (with_reducible refine Mv.al ?_ _))) r k cc (by rfl) hn2.out _ (by rfl) (by omega) (by repeat (first | (simp; done) | (exact hc4H.out _ _ _ (hf1 _ (by simp)) (by repeat (first | (simp; done) | (with_reducible refine cell_drJ ?_) | (with_reducible refine cell_alJ ?_ _)))) | (exact hc4H.out _ _ _ (hf2 _ (by simp)) (by repeat (first | (simp; done) | (with_reducible refine cell_drJ ?_) | (with_reducible refine cell_alJ ?_ _)))) | (with_reducible refine cell_drJ ?_) | (with_reducible refine cell_alJ ?_ _))) hrlH.out hccn ?_); intro v4 w4 hM4 hc4; have hM4H := Lib.hid hM4; have hc4H := Lib.hid hc4; have hk4 : w4.cell? ⟨bc, oc + r, none⟩ = some (.slice ac k cc) := Below.cellAt hM4.bl (Nat.le_refl _) hcC0; clear hM4 hc4))
          all_goals (
            go_wp2_with (fail)
            go_roundg g1
            case measure => omega
            case rel => exact ⟨r + 1, _, _, rfl, rfl, by go_num, by omega, by rw [hnx3.out, hnx2.out]; exact hM6H.out.t, hM6H.out.bl⟩)
    · have hre : k = r := by omega
      subst hre
      have hrI : ¬ (k : Int) < (k : Int) := by omega
      have hfull : C.take k = C := List.take_of_length_le (by rw [hCH.out]; exact Nat.le_refl _)
      have hfull1 : (dearL C i (y2 : Nat)).take k = dearL C i (y2 : Nat) := List.take_of_length_le (by rw [dearL_len, hCH.out]; exact Nat.le_refl _)
      have hT := hTH.out
      rw [hfull, hfull1] at hT
      have hkC : 0 < C.length := by rw [hCH.out]; exact hk1
      obtain ⟨g2, c2, hg2⟩ := hT.z2.headJ hkC
      injection hg2 with q1 q2 q3
      subst q1
      obtain ⟨vs, t, hB, hR, hN⟩ := hT.z2.blk hkC
      have hlv : vs.length = k := by rw [hR.1]; exact hCH.out
      obtain ⟨vi, hvi⟩ : ∃ v, vs[i]? = some v := ⟨_, List.getElem?_eq_getElem (by rw [hlv]; exact hik)⟩
      obtain ⟨vj, hvj⟩ : ∃ v, vs[j]? = some v := ⟨_, List.getElem?_eq_getElem (by rw [hlv]; exact hjk)⟩
      obtain ⟨xi, hxi⟩ : ∃ x, C[i]? = some x := ⟨_, List.getElem?_eq_getElem (by rw [hCH.out]; exact hik)⟩
      obtain ⟨xj, hxj⟩ : ∃ x, C[j]? = some x := ⟨_, List.getElem?_eq_getElem (by rw [hCH.out]; exact hjk)⟩
      obtain ⟨ai, ki, rfl, _, _⟩ := hR.2 i vi xi hvi hxi
      obtain ⟨aj, kj, rfl, _, _⟩ := hR.2 j vj xj hvj hxj
      clear hxi hxj
      have ci : wr.cell? ⟨g2, i, none⟩ = some (.slice ai xi.length ki) := by rw [Blk.cell hB, List.getElem?_append_left (by rw [hlv]; exact hik)]; exact hvi
      have cj : wr.cell? ⟨g2, j, none⟩ = some (.slice aj xj.length kj) := by rw [Blk.cell hB, List.getElem?_append_left (by rw [hlv]; exact hjk)]; exact hvj
      have fi := Blk.frozen hB i
      have fj := Blk.frozen hB j
      have fij := Blk.frozen (Blk.set hB i (.slice aj xj.length kj)) j
      have hBd : Blk wr.drew g2 24 (vs ++ t) := Blk.later hB (Below.drew (Below.refl _ _))
      have ci1 : wr.drew.cell? ⟨g2, i, none⟩ = some (.slice ai xi.length ki) := ci
      have cj1 : wr.drew.cell? ⟨g2, j, none⟩ = some (.slice aj xj.length kj) := cj
      have fi1 := Blk.frozen hBd i
      have fj1 := Blk.frozen hBd j
      have fij1 := Blk.frozen (Blk.set hBd i (.slice aj xj.length kj)) j
      obtain ⟨vx, cij1⟩ := cell?_setCell_some (p := ⟨g2, i, none⟩) (x := .slice aj xj.length kj) cj1
      obtain ⟨vy, cij⟩ := cell?_setCell_some (p := ⟨g2, i, none⟩) (x := .slice aj xj.length kj) cj
      have hiI : (i : Int) < (k : Int) := by omega
      have hjI : (j : Int) < (k : Int) := by omega
      have hi0 : (0 : Int) ≤ (i : Int) := by omega
      have hj0 : (0 : Int) ≤ (j : Int) := by omega
      have hBH := Lib.hid hB
      have hRH := Lib.hid hR
      have hNH := Lib.hid hN
      have hviH := Lib.hid hvi
      have hvjH := Lib.hid hvj
      have hT2 := Lib.hid hT
      clear hB hBd hR hN hvi hvj hT hTH hn1 hn2 hfull hfull1 q2 q3
      go_wp2_with (fail)
      go_region
      obtain ⟨W2, hW2⟩ : ∃ W2, W2 = ((wr.setCell ⟨g2, i, none⟩ (Value.slice aj xj.length kj)).setCell ⟨g2, j, none⟩ (Value.slice ai xi.length ki)).drew := ⟨_, rfl⟩
      rw [← hW2]
      have hdr : Below ((wr.setCell ⟨g2, i, none⟩ (Value.slice aj xj.length kj)).setCell ⟨g2, j, none⟩ (Value.slice ai xi.length ki)).heap.size ((wr.setCell ⟨g2, i, none⟩ (Value.slice aj xj.length kj)).setCell ⟨g2, j, none⟩ (Value.slice ai xi.length ki)) W2 := by rw [hW2]; exact Below.drew (Below.refl _ _)
      have hg2 : W0.heap.size ≤ g2 := (hT2.out.z2.lt g2 rfl).1
      have hsw : IMx W2 (some ⟨g2, 0, none⟩) (swapL C i j) := (blk_swap hBH.out hRH.out hNH.out (by rw [hCH.out]; exact hik) (by rw [hCH.out]; exact hjk) hviH.out hvjH.out).below hdr
      have hkD : 0 < (dearL C i (y2 : Nat)).length := by rw [dearL_len]; exact hkC
      obtain ⟨g1, c1', hg1⟩ := hT2.out.z1.headJ hkD
      injection hg1 with q1 q2 q3
      subst q1
      clear q2 q3
      have hne1 : g1 ≠ g2 := fun e => hT2.out.ne g1 rfl (by rw [e]; rfl)
      have hdm : IMx W2 (some ⟨g1, 0, none⟩) (dearL C i (y2 : Nat)) := (hT2.out.z1.imx.1.set2 hNH.out hne1).below hdr
      obtain ⟨ba, oa, hba⟩ : ∃ b o, a1 = some ⟨b, o, none⟩ := by
        obtain ⟨r0, hr0⟩ : ∃ r, C[0]? = some r := ⟨_, List.getElem?_eq_getElem hkC⟩
        obtain ⟨b, o, _, _, h1, _⟩ := hM0.out.row hr0
        exact ⟨b, o, h1⟩
      have hnea : ba ≠ g2 := fun e => by
        obtain ⟨r0, hr0⟩ : ∃ r, C[0]? = some r := ⟨_, List.getElem?_eq_getElem hkC⟩
        obtain ⟨b, o, _, _, h1, h2, _⟩ := hM0.out.row hr0
        rw [hba] at h1
        injection h1 with h1
        injection h1 with h1 _
        have h3 : b < W0.heap.size := World.block_lt_of_cell? _ _ h2
        subst h1 e
        omega
      have hMC : IMx W2 a1 C := by
        have := hM0.out.below hblH.out
        rw [hba] at this ⊢
        exact (this.set2 hNH.out hnea).below hdr
      have hbel : Below w.heap.size w W2 := bseqJ hbW.out (bseqJ (((hblH.out.setCell (by exact hg2) _).setCell (by exact hg2) _)) hdr)
      have hgC := hgH.out
      obtain ⟨p, hp⟩ := best_exJ (sumC C) k
      obtain ⟨q, hq⟩ := best_exJ (mxP C) k
      obtain ⟨q2, hq2⟩ := best_exJ (mxP (swapL C i j)) k
      obtain ⟨r, hr⟩ := best_exJ (spr C) k
      obtain ⟨r2, hr2⟩ := best_exJ (spr (swapL C i j)) k
      have hgS := swap_good hgC hCH.out hik hjk
      have hgD := dear_good hgC hmoH.out i (d := (y2 : Nat)) (by omega) (by omega)
      have hlS : Hid ((swapL C i j).length = k) := by show _ = _; rw [swapL_len (by rw [hCH.out]; exact hik) (by rw [hCH.out]; exact hjk)]; exact hCH.out
      have hlD : Hid ((dearL C i (y2 : Nat)).length = k) := by show _ = _; rw [dearL_len]; exact hCH.out
      have eqa := swap_worst hCH.out hik hjk hq hq2
      have eqb := swap_spr hCH.out hik hjk hr hr2
      have hpD := dear_best hgC hCH.out hik (y2 : Nat) hp
      have eqc := dear_sum hgC hCH.out hik (y2 : Nat) (mem_allN.1 hp.mem)
      obtain ⟨v1, hv1⟩ : ∃ v, sumC C p = v := ⟨_, rfl⟩
      obtain ⟨v2, hv2⟩ : ∃ v, mxP C q = v := ⟨_, rfl⟩
      obtain ⟨v3, hv3⟩ : ∃ v, spr C r = v := ⟨_, rfl⟩
      rw [hv2] at eqa
      rw [hv3] at eqb
      rw [hv1] at eqc
      have hlp := Lib.hid (mem_allN.1 hp.mem).len
      have hlq := Lib.hid (mem_allN.1 hq.mem).len
      have b1v := sum_bd hgC hCH.out (mem_allN.1 hp.mem)
      rw [hv1] at b1v
      obtain ⟨b1v, b2v⟩ := b1v
      have hpH := Lib.hid hp
      have hqH := Lib.hid hq
      have hq2H := Lib.hid hq2
      have hrH := Lib.hid hr
      have hr2H := Lib.hid hr2
      have hgSH := Lib.hid hgS
      have hgDH := Lib.hid hgD
      have hpDH := Lib.hid hpD
      have e1H := Lib.hid eqa
      have e2H := Lib.hid eqb
      have e3H := Lib.hid eqc
      have hv1H := Lib.hid hv1
      have hv2H := Lib.hid hv2
      have hv3H := Lib.hid hv3
      have hswH := Lib.hid hsw
      have hdmH := Lib.hid hdm
      have hMCH := Lib.hid hMC
      have hbelH := Lib.hid hbel
      clear hW2 hdr hsw hdm hMC hbel hgC hp hq hq2 hr hr2 hgS hgD hpD eqa eqb eqc hv1 hv2 hv3 hba hnea hBH hRH hNH hviH hvjH hT2 hblH hM0 hbW ci cj fi fj fij ci1 cj1 fi1 fj1 fij1 cij1 cij hrk hkD hlv 
      have wsum : IntKind.i64.wrap (v1 + (y2 : Nat)) = v1 + (y2 : Nat) := by rw [IntKind.wrap_i64]; omega
      go_wp2_with (first
        | (go_at_call 19; (with_reducible refine (cheap_at a1 d1 k C _ hMCH.out hgH.out hCH.out hpH.out hv1H.out).mono ?_); rintro e w2 ⟨g3, o3, c3, rfl, hc3, hI3, hb2⟩; have hM2 := Lib.hid (hdmH.out.below hb2); have hI3H := Lib.hid hI3; have hb2H := Lib.hid hb2; clear hb2 hI3)
        | (go_at_call 19; go_loud (with_reducible refine (cheap_at (some ⟨g1, 0, none⟩) e1 k (dearL C i (y2 : Nat)) _ hM2.out hgDH.out hlD.out hpDH.out e3H.out).mono ?_); rintro e w3 ⟨g4, o4, c4, rfl, hc4, hI4, hb3⟩; have hM3 := Lib.hid (hMCH.out.below (bseqJ hb2H.out hb3)); have hI4H := Lib.hid hI4; have hb3H := Lib.hid hb3; clear hb3 hI4)
        | (go_at_call 30; (with_reducible refine (worst_at a1 d1 k C _ hM3.out hgH.out hCH.out hqH.out hv2H.out).mono ?_); rintro e w4 ⟨g5, o5, c5, rfl, hc5, hI5, hb4⟩; have hM4 := Lib.hid (hswH.out.below (bseqJ hb2H.out (bseqJ hb3H.out hb4))); have hb4H := Lib.hid hb4; clear hb4 hI5)
        | (go_at_call 30; go_loud (with_reducible refine (worst_at (some ⟨g2, 0, none⟩) e2 k (swapL C i j) _ hM4.out hgSH.out hlS.out hq2H.out e1H.out).mono ?_); rintro e w5 ⟨g6, o6, c6, rfl, hc6, hI6, hb5⟩; have hM5 := Lib.hid (hM3.out.below (bseqJ hb4H.out hb5)); have hb5H := Lib.hid hb5; clear hb5 hI6)
        | (go_at_call 43; (with_reducible refine (even_at a1 d1 k C _ hM5.out hgH.out hCH.out hrH.out hv3H.out).mono ?_); rintro e w6 ⟨g7, o7, c7, rfl, hc7, hI7, hb6⟩; have hM6 := Lib.hid (hM4.out.below (bseqJ hb5H.out hb6)); have hb6H := Lib.hid hb6; clear hb6 hI7)
        | (go_at_call 43; go_loud (with_reducible refine (even_at (some ⟨g2, 0, none⟩) e2 k (swapL C i j) _ hM6.out hgSH.out hlS.out hr2H.out e2H.out).mono ?_); rintro e w7 ⟨g8, o8, c8, rfl, hc8, hI8, hb7⟩; have hb7H := Lib.hid hb7; clear hb7 hI8)
        | (go_at_call 23; (with_reducible refine (same_nz (some ⟨g3, o3, none⟩) (some ⟨g4, o4, none⟩) c3 c4 k p _ (hI3H.out.below (bseqJ hb3H.out (bseqJ hb4H.out (bseqJ hb5H.out (bseqJ hb6H.out hb7H.out))))) (hI4H.out.below (bseqJ hb4H.out (bseqJ hb5H.out (bseqJ hb6H.out hb7H.out)))) hlp.out (by omega)).mono ?_); rintro e w8 ⟨rfl, hb8⟩; have hb8H := Lib.hid hb8; clear hb8)
        | (go_at_call 21; go_loud (with_reducible refine (lives_any _).mono ?_); rintro e w9 ⟨rfl, hb9⟩; have hb9H := Lib.hid hb9; clear hb9))
      go_ret
      exact ⟨rfl, bseqJ hbelH.out (bseqJ hb2H.out (bseqJ hb3H.out (bseqJ hb4H.out (bseqJ hb5H.out (bseqJ hb6H.out (bseqJ hb7H.out (bseqJ hb8H.out hb9H.out)))))))⟩
end Go.Proofs.Yteiipfajoikfpaa
