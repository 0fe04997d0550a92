/- Ul -/
import Derived.Test.YteiipfajoikfpaaQPd
import Derived.Test.YteiipfajoikfpaaQPe
set_option linter.unusedVariables false
/- Walk of the reference's Allowed. -/
namespace Go.Proofs.Yteiipfajoikfpaa
open Go Go.RowKit Go.Proofs

/-- All cells that hold something hold it still. -/
def Keep (w w' : World) : Prop := ∀ b o v, w.cell? ⟨b, o, none⟩ = some v → w'.cell? ⟨b, o, none⟩ = some v
theorem Keep.refl (w : World) : Keep w w := fun _ _ _ h => h
theorem Keep.trans {w w1 w2 : World} (h : Keep w w1) (h' : Keep w1 w2) : Keep w w2 := fun b o v hc => h' b o v (h b o v hc)
theorem Keep.below {w w' : World} (h : Below w.heap.size w w') : Keep w w' := fun _ _ _ hc => Below.cellAt h (Nat.le_refl _) hc
theorem IZ.keep {w w' : World} {ao : Option Addr} {xs : List Int} (h : IZ w ao xs) (hk : Keep w w') : IZ w' ao xs := fun i x hx => by
  obtain ⟨b, o, ha, hc⟩ := h i x hx
  exact ⟨b, o, ha, hk _ _ _ hc⟩
theorem IMx.keep {w w' : World} {ao : Option Addr} {C : List (List Int)} (h : IMx w ao C) (hk : Keep w w') : IMx w' ao C := by
  obtain ⟨vs, h1, h2, h3⟩ := h
  refine ⟨vs, fun i v hv => ?_, h2, fun i v xs hv hx => ?_⟩
  · obtain ⟨b, o, ha, hc⟩ := h1 i v hv
    exact ⟨b, o, ha, hk _ _ _ hc⟩
  · obtain ⟨a, c, e1, e2, e3⟩ := h3 i v xs hv hx
    exact ⟨a, c, e1, e2, e3.keep hk⟩
/-- One row more, and where the new list lies. -/
theorem wpList_append_row_at (w : World) {ops : Array Oper} {rest : List Oper} {o : Oper} {a : Act} {Q : Exit → Act → World → Prop} (hgd : o.guard = none) (s x : Operand) (t : TypeId)
    (ho : o.op = .call { callee := .builtin .append, args := #[s, x], argTypes := #[t, t] }) (ht : Try.prog.underlying t = some (.slice 24)) (base n : Nat) (v : Value) (C : List (List Int)) (xs : List Int) (hs : a.eval s = v) (hv : MI w base v C)
    (hn : C.length = n) (g0 : Nat) (hx : a.eval x = .slice (some ⟨g0, 0, none⟩) 1 1) (b : Option Addr) (k d : Nat) (hb : n ≤ 1000000000000) (hbs : base ≤ w.heap.size) (c0 : w.cell? ⟨g0, 0, none⟩ = some (.slice b k d)) (hk : xs.length = k) (hd : k ≤ d) (hz : IZ w b xs)
    (hK : ∀ v' w', MI w' base v' (C ++ [xs]) → w.grownBy w' v.ownBlock → (v'.ownBlock = v.ownBlock ∨ v'.ownBlock = some w.heap.size) → wpList Try.prog ops Q rest (a.put o.dst v') w') : wpList Try.prog ops Q (o :: rest) a w := by
  subst hk hn
  obtain ⟨i, h2, h3, h4, h5⟩ := info_parts info_rowJ
  obtain ⟨vs, hown, hno, hr⟩ := hv
  have hnews : ∀ (j : Nat) (u : Value), [Value.slice b xs.length d][j]? = some u → w.cell? ((⟨g0, 0, none⟩ : Addr).add j) = some u := fun j u hu => by
    rcases j with _ | j
    · simp at hu; subst hu
      rw [Addr.add_lit]; exact c0
    · simp at hu
  have hone : ∀ u ∈ [Value.slice b xs.length d], u.oneCell' = true := fun u hu => by rw [List.mem_singleton] at hu; subst hu; rfl
  have hnew : ∀ u ∈ [Value.slice b xs.length d], ∀ k z, u ≠ .int k z := fun u hu k z => by rw [List.mem_singleton] at hu; subst hu; simp
  have hzn : ∀ u ∈ (Value.slice none 0 0).cells.toList, ∀ k z, u ≠ .int k z := fun u hm k z => by
    simp [Value.cells] at hm
    subst hm; simp
  refine wpList_plain hgd fun K hK' => ?_
  obtain ⟨v', w', hrun, e2, e3, _, e5⟩ := run_append_own_at (P := Try.prog) w base t o.type 24 i _ 1 24 ht h2 h3 h4 h5 rfl (by omega) v C.length vs hown ⟨g0, 0, none⟩ 1 1 _ (by simp) hnews hone (by unfold maxLen; omega) (by omega) hbs
  obtain ⟨v2, w2, hrun2, e6⟩ := run_append_noint (P := Try.prog) w base t o.type 24 i _ 1 24 ht h2 h3 h4 h5 rfl (by omega) v C.length vs hown ⟨g0, 0, none⟩ 1 1 _ (by simp) hnews hone (by unfold maxLen; omega) (by omega) (by omega) hno hnew hzn
  rw [hrun] at hrun2
  injection hrun2 with q1 q2
  subst q1 q2
  unfold Oper.wp execOp
  simp only [ho, resolve, invoke, builtin, Sem.run_bind, Sem.run_pure, Result.andThen_ok, List.map_toArray, List.map_cons, List.map_nil, hs, hx, hrun]
  refine hK' _ _ (hK v' w' ⟨vs ++ [.slice b xs.length d], ?_, e6, ?_⟩ e3 e5)
  · rw [List.length_append]; exact e2
  · refine (hr.append (us := [.slice b xs.length d]) (D := [xs]) ⟨rfl, fun j u ys hu hy => ?_⟩).grown e3 hno
    rcases j with _ | j
    · simp at hu hy
      subst hu hy
      exact ⟨b, d, rfl, hd, hz⟩
    · simp at hu
/-- The list lies in the literal's block, or in new memory. -/
def AtG (wB : World) (g0 : Nat) (v : Value) : Prop := v.ownBlock = some g0 ∨ ∀ g, v.ownBlock = some g → wB.heap.size ≤ g
theorem AtG.next {wB wr : World} {g0 : Nat} {v v' : Value} (h : AtG wB g0 v) (ho : v'.ownBlock = v.ownBlock ∨ v'.ownBlock = some wr.heap.size) (hs : wB.heap.size ≤ wr.heap.size) : AtG wB g0 v' := by
  rcases ho with e | e
  · unfold AtG; rw [e]; exact h
  · exact .inr fun g hg => by rw [e] at hg; injection hg with hg; omega
theorem Keep.grown {wB wr w' : World} {g0 : Nat} {v : Value} (h : Keep wB wr) (hg0 : ∀ o u, wB.cell? ⟨g0, o, none⟩ ≠ some u) (ha : AtG wB g0 v) (hg : wr.grownBy w' v.ownBlock) : Keep wB w' := fun b o u hc => by
  have hlt := World.block_lt_of_cell? wB ⟨b, o, none⟩ hc
  have hc2 := h b o u hc
  have hlt2 := World.block_lt_of_cell? wr ⟨b, o, none⟩ hc2
  rw [World.cell?_of_block (w := wr) (a := ⟨b, o, none⟩) (hg.block b hlt2 fun e => ?_)]
  · exact hc2
  · rcases ha with e1 | e1
    · rw [e1] at e
      injection e with e
      subst e
      exact hg0 _ _ hc
    · have := e1 b e.symm
      have h9 : b < wB.heap.size := hlt
      omega
def alP (C : List (List Int)) (z : Int) (p : List Nat) : Bool := decide (mxP C p ≤ z)
theorem alP_filter {C : List (List Int)} {n : Nat} {z : Int} (hn : 0 < n) : (allN n).filter (alP C z) = alwN (upA C z) n := alwN_filter _ fun p hp => by
  rw [ok_up (hp.ne hn)]
  unfold alP mxP
  exact decide_eq_true_iff
theorem best_exJ (m : List Nat → Int) (n : Nat) : ∃ p, Best (byI m) (allN n) p := by
  obtain ⟨L, hL⟩ : ∃ L, allN n = L := ⟨_, rfl⟩
  have hs : L.Pairwise (· < ·) := hL ▸ allN_sorted n
  have hne : L ≠ [] := hL ▸ allN_ne n
  rw [hL]
  have key : ∀ k, k + 1 ≤ L.length → ∃ p, Best (byI m) (L.take (k + 1)) p := by
    intro k
    induction k with
    | zero =>
      intro hk
      have e := take_last (List.getElem?_eq_getElem (show 0 < L.length by omega))
      rw [e]
      exact ⟨_, Best.one _ _ (fun h => Int.lt_irrefl _ h)⟩
    | succ k ih =>
      intro hk
      obtain ⟨p, hp⟩ := ih (by omega)
      have hq := List.getElem?_eq_getElem (show k + 1 < L.length by omega)
      have e := take_last hq
      have hst := sorted_take hs hq
      rw [e]
      by_cases hlt : m L[k + 1] < m p
      · exact ⟨_, hp.better hlt (fun a b c h1 h2 => Int.lt_trans h1 h2) (fun a h => Int.lt_irrefl _ h) (fun a b c h1 h2 => by unfold byI at *; omega)⟩
      · exact ⟨p, hp.keep hlt hst⟩
  have hl := List.length_pos_iff.2 hne
  obtain ⟨p, hp⟩ := key (L.length - 1) (by omega)
  rw [show L.length - 1 + 1 = L.length by omega, List.take_length] at hp
  exact ⟨p, hp⟩
set_option maxRecDepth 100000 in
set_option maxHeartbeats 6400000 in
theorem allowed_any (ao : Option Addr) (c n : Nat) (C : List (List Int)) (z : Int) (w : World) (h : IMx w ao C) (hg : goodC C) (hn : C.length = n) :
    Calls Try.prog 28 #[.slice ao n c, .int .i64 z] w (RetM w (rowsP (alwN (upA C z) n))) := by
  have hn8 : n ≤ 8 := by rw [← hn]; exact hg.2.1
  have hn1 : 0 < n := by rw [← hn]; exact hg.1
  obtain ⟨L, hL⟩ : ∃ L, allN n = L := ⟨_, rfl⟩
  obtain ⟨N, hN⟩ : ∃ N, (rowsP L).length = N := ⟨_, rfl⟩
  have hNs : N ≤ 16777216 := by rw [← hN, rowsP_length, ← hL]; exact Nat.le_trans (allP_le n n []) (pow_small hn8 hn8)
  have hNL : Hid (L.length = N) := by show _ = _; rw [← hN, rowsP_length]
  have hmem : Hid (∀ q ∈ L, Pr n q) := fun q hq => mem_allN.1 (by rw [hL]; exact hq)
  have hal : Hid (∀ v, Calls Try.prog 53 #[.slice none 0 0, .int .i64 (n : Nat)] v (RetM v (rowsP L))) := fun v => by
    rw [← hL]; exact all_any n hn8 n 0 [] none 0 v rfl (by omega) (by simp) (by simp) (IZ.nil _ _)
  have hfin : Hid (L.filter (alP C z) = alwN (upA C z) n) := by show _ = _; rw [← hL]; exact alP_filter hn1
  have hHH := Lib.hid h
  have hgH := Lib.hid hg
  have hnH := Lib.hid hn
  have hNH := Lib.hid hN
  clear h hg hn hL hN
  go_enter Try.func28, Try.ntmps28
  go_upto_region 2 with (fail)
  obtain ⟨V, hV⟩ : ∃ V, V = w.alloc (Obj.cells #[] 24) := ⟨_, rfl⟩
  rw [← hV]
  have hMI := Lib.hid (show MI V w.heap.size (.slice (some ⟨w.heap.size, 0, none⟩) 0 0) (rowsP []) by rw [hV]; exact MI.lit0 _ _ (Nat.le_refl _))
  have hbV := Lib.hid (show Below w.heap.size w V by rw [hV]; exact below_al (Below.refl _ _) _)
  have hg0 := Lib.hid (show ∀ o u, V.cell? ⟨w.heap.size, o, none⟩ ≠ some u by
    intro o u e
    rw [hV, al_new rfl] at e
    simp at e)
  have hsV : w.heap.size < V.heap.size := by rw [hV]; simp
  clear hV
  go_wp2_with (first
    | (go_at_call 53; go_loud (with_reducible refine (hal.out _).mono ?_); rintro e w1 hR; obtain ⟨a1, d1, rfl, hM1, hd1, hb1⟩ := hR.out hNH.out; have hM1H := Lib.hid hM1; have hb1H := Lib.hid hb1; clear hR hM1 hb1))
  have hg1 := Lib.hid (show ∀ o u, w1.cell? ⟨w.heap.size, o, none⟩ ≠ some u by
    intro o u e
    rw [World.cell?_of_block (w := V) (a := ⟨w.heap.size, o, none⟩) (hb1H.out.block _ hsV)] at e
    exact hg0.out o u e)
  have hMI1 := Lib.hid (hMI.out.below hb1H.out)
  have hs1 : w.heap.size ≤ w1.heap.size := Nat.le_trans (Nat.le_of_lt hsV) hb1H.out.size
  have hbw1 := Lib.hid (bseqJ hbV.out hb1H.out)
  clear hMI hbV hg0 hb1H
  go_loopg [5, 13] N (fun gk bv iv wr => ∃ (k : Nat) (v : Value), v = bv ∧ iv = .int .i64 (k : Nat) ∧ k + gk = N ∧ MI wr w.heap.size v (rowsP ((L.take k).filter (alP C z))) ∧ AtG w1 w.heap.size v ∧ Keep w1 wr ∧ Below w.heap.size w wr ∧ w1.heap.size ≤ wr.heap.size)
  case atStart => exact ⟨0, _, rfl, rfl, by omega, by simpa using hMI1.out, .inl rfl, Keep.refl _, hbw1.out, Nat.le_refl _⟩
  case round =>
    clear hMI1
    obtain ⟨k, v, rfl, rfl, hk, hM, hA, hKp, hbl, hsz⟩ := hrel
    obtain ⟨ab, cb, hbv⟩ := hM.shape
    subst hbv
    obtain ⟨u, hu⟩ : ∃ u, (rowsP ((L.take k).filter (alP C z))).length = u := ⟨_, rfl⟩
    have hus : u ≤ 16777216 := by
      rw [← hu, rowsP_length]
      exact Nat.le_trans (List.length_filter_le ..) (by rw [List.length_take, hNL.out]; omega)
    rw [hu] at hM hA ⊢
    have huH := Lib.hid hu
    have hMH := Lib.hid hM
    have hAH := Lib.hid hA
    have hKH := Lib.hid hKp
    have hblH := Lib.hid hbl
    clear hu hM hA hKp hbl
    by_cases hkN : k < N
    · obtain ⟨g1, rfl⟩ : ∃ g1, gk = g1 + 1 := ⟨gk - 1, by omega⟩
      obtain ⟨q, hq⟩ : ∃ q, L[k]? = some q := ⟨_, List.getElem?_eq_getElem (by rw [hNL.out]; exact hkN)⟩
      have hpq := Lib.hid (hmem.out q (List.mem_of_getElem? hq))
      obtain ⟨b2, o2, g2, o3, c3, rfl, e1, hc3, hI⟩ := row_nz (hM1H.out.keep hKH.out) hq hpq.out.len hn1
      have hIH := Lib.hid hI
      have hCr := Lib.hid (hHH.out.below hblH.out)
      obtain ⟨x, hx⟩ : ∃ x, mxP C q = x := ⟨_, rfl⟩
      have htk := Lib.hid (take_last hq)
      obtain ⟨fs, hfs'⟩ : ∃ fs, fall (pcs C q) = fs := ⟨_, rfl⟩
      have hfl : Hid (fs.length = n) := by show _ = _; rw [← hfs', fall_length, pcs_length]; exact hpq.out.len
      have hf0 : Hid (at0 fs 0 = x) := by show _ = _; rw [← hx, ← hfs']; rfl
      have hfs := Lib.hid hfs'
      have hnI : (0 : Int) < (n : Int) := by omega
      have hzl : Hid ((nz q).length = n) := by show _ = _; rw [nz_length]; exact hpq.out.len
      have hkI : (k : Int) < (N : Int) := by omega
      have hk0 : (0 : Int) ≤ (k : Int) := by omega
      by_cases hle : x ≤ z
      · have hleB : decide (x ≤ z) = true := by simpa using hle
        have hnx : Hid (rowsP ((L.take k).filter (alP C z)) ++ [nz q] = rowsP ((L.take (k + 1)).filter (alP C z))) := by
          show _ = _
          rw [htk.out, List.filter_append, show [q].filter (alP C z) = [q] by simp [alP, hx, hle]]
          rw [← rowsP_append]; rfl
        clear hfs' hI hx hq
        go_wp2_with (first
          | (go_at_call 32; go_loud (with_reducible refine (falling_any ao _ c c3 n C q fs _ hCr.out hIH.out hgH.out hnH.out hpq.out hfs.out).mono ?_); rintro e w9 hR; go_loud (obtain ⟨a9, d9, rfl, hI9, hd9, hb9'⟩ := hR); go_loud (rw [hfl.out]); have hb9 := Lib.hid hb9'; go_loud (obtain ⟨g9, o9, rfl, e9⟩ := hI9.at (i := 0) (by rw [hfl.out]; exact hn1)); rw [hf0.out, Nat.add_zero] at e9; go_loud (clear hI9 hb9'))
          | (at_builtin; go_loud (refine wpList_append_row_at _ rfl (.tmp 24) (.tmp 26) _ rfl Try.underlying22 w.heap.size u (.slice ab u cb) (rowsP ((L.take k).filter (alP C z))) (nz q) (by rfl) (hMH.out.below (hb9.out.alloc hb9.out.size _)) huH.out w9.heap.size (by rfl) (some ⟨g2, o3, none⟩) n c3 (by omega) (by have := hblH.out.size; have := hb9.out.size; simp; omega) (by simp) hzl.out hc3 (hIH.out.below (hb9.out.alloc hb9.out.size _)) ?_); intro v' w4 hv4 hg4 ho4; rw [hnx.out] at hv4; have hv4H := Lib.hid hv4; have hg4H := Lib.hid hg4; have ho4H := Lib.hid ho4; clear hv4 hg4 ho4))
        have hb10 := Lib.hid (hb9.out.alloc hb9.out.size (Obj.cells #[.slice (some ⟨g2, o3, none⟩) n c3] 24))
        have hs10 : w1.heap.size ≤ (w9.alloc (Obj.cells #[.slice (some ⟨g2, o3, none⟩) n c3] 24)).heap.size := by have := hb10.out.size; omega
        go_roundg g1
        case measure => omega
        case rel => exact ⟨k + 1, _, rfl, by go_num, by omega, hv4H.out, hAH.out.next ho4H.out hs10, (hKH.out.trans (Keep.below hb10.out)).grown hg1.out hAH.out hg4H.out, (bseqJ hblH.out hb10.out).grown hg4H.out (by have := hblH.out.size; have := hb10.out.size; omega) (fun g hg => (hMH.out.lt g hg).1), Nat.le_trans hs10 hg4H.out.size⟩
      · have hleB : decide (x ≤ z) = false := by simpa using hle
        have hnx : Hid ((L.take (k + 1)).filter (alP C z) = (L.take k).filter (alP C z)) := by
          show _ = _
          rw [htk.out, List.filter_append, show [q].filter (alP C z) = [] by simp [alP, hx]; omega, List.append_nil]
        clear hfs' hI hx hq
        go_wp2_with (first
          | (go_at_call 32; go_loud (with_reducible refine (falling_any ao _ c c3 n C q fs _ hCr.out hIH.out hgH.out hnH.out hpq.out hfs.out).mono ?_); rintro e w9 hR; go_loud (obtain ⟨a9, d9, rfl, hI9, hd9, hb9'⟩ := hR); go_loud (rw [hfl.out]); have hb9 := Lib.hid hb9'; go_loud (obtain ⟨g9, o9, rfl, e9⟩ := hI9.at (i := 0) (by rw [hfl.out]; exact hn1)); rw [hf0.out, Nat.add_zero] at e9; go_loud (clear hI9 hb9')))
        go_roundg g1
        case measure => omega
        case rel => exact ⟨k + 1, _, rfl, by go_num, by omega, by rw [hnx.out]; exact hMH.out.below hb9.out, hAH.out, hKH.out.trans (Keep.below hb9.out), bseqJ hblH.out hb9.out, by have := hb9.out.size; omega⟩
    · have hke : N = k := by omega
      subst hke
      have hkI : ¬ (N : Int) < (N : Int) := by omega
      have hfull : L.take N = L := List.take_of_length_le (by rw [hNL.out]; exact Nat.le_refl _)
      have hM2 := hMH.out
      have hu2 := huH.out
      rw [hfull, hfin.out] at hM2 hu2
      have hM2H := Lib.hid hM2
      have hu2H := Lib.hid hu2
      clear hM2 hu2 hfull
      go_wp2_with (fail)
      go_ret
      exact ⟨ab, cb, by rw [hu2H.out]; rfl, hM2H.out.imx.1, by rw [hu2H.out]; exact hM2H.out.imx.2, hblH.out⟩
end Go.Proofs.Yteiipfajoikfpaa
