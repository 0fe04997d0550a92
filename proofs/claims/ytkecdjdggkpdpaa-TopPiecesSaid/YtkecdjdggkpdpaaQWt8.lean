/- Wt8 -/
import Derived.Test.YtkecdjdggkpdpaaQWa
import Derived.Test.YtkecdjdggkpdpaaQTo
set_option linter.unusedVariables false
/- Walk of water's best: the greedy use. -/
namespace Go.Proofs.Ytkecdjdggkpdpaa
open Go Go.RowKit Go.Proofs

/-- The best candidate of the first places. -/
def AtW (F : Nat → Nat) (G : Nat → List Nat) (m : Nat) (u : Nat → Nat) (i : Nat) (a : Int) : Prop :=
  (a = -1 ∧ ∀ j y, j < i → ¬ CandW m F G u j y) ∨ ∃ n x : Nat, a = (n : Int) ∧ n < i ∧ CandW m F G u n x ∧ ∀ j y, j < i → CandW m F G u j y → y ≤ x
theorem CandW.val {m : Nat} {F : Nat → Nat} {G : Nat → List Nat} {u : Nat → Nat} {i x y : Nat} (h : CandW m F G u i x) (h' : CandW m F G u i y) : y = x := by
  have h1 := h.2.1
  have h2 := h'.2.1
  rw [h1] at h2
  injection h2 with h2
  exact h2.symm
theorem AtW.skip {F : Nat → Nat} {G : Nat → List Nat} {m : Nat} {u : Nat → Nat} {i : Nat} {a : Int} (h : AtW F G m u i a) (hn : ∀ y, ¬ CandW m F G u i y) : AtW F G m u (i + 1) a := by
  rcases h with ⟨h1, h2⟩ | ⟨n, x, h1, h2, h3, h4⟩
  · refine .inl ⟨h1, fun j y hj hc => ?_⟩
    by_cases e : j = i
    · subst e; exact hn y hc
    · exact h2 j y (by omega) hc
  · refine .inr ⟨n, x, h1, by omega, h3, fun j y hj hc => ?_⟩
    by_cases e : j = i
    · subst e; exact absurd hc (hn y)
    · exact h4 j y (by omega) hc
theorem AtW.first {F : Nat → Nat} {G : Nat → List Nat} {m : Nat} {u : Nat → Nat} {i x : Nat} (h : ∀ j y, j < i → ¬ CandW m F G u j y) (hc : CandW m F G u i x) : AtW F G m u (i + 1) (i : Nat) := by
  refine .inr ⟨i, x, rfl, by omega, hc, fun j y hj hj2 => ?_⟩
  by_cases e : j = i
  · subst e; exact Nat.le_of_eq (hc.val hj2)
  · exact absurd hj2 (h j y (by omega))
theorem AtW.turn {F : Nat → Nat} {G : Nat → List Nat} {m : Nat} {u : Nat → Nat} {i x z : Nat} (h : ∀ j y, j < i → CandW m F G u j y → y ≤ z) (hz : z ≤ x) (hc : CandW m F G u i x) : AtW F G m u (i + 1) (i : Nat) := by
  refine .inr ⟨i, x, rfl, by omega, hc, fun j y hj hj2 => ?_⟩
  by_cases e : j = i
  · subst e; exact Nat.le_of_eq (hc.val hj2)
  · exact Nat.le_trans (h j y (by omega) hj2) hz
theorem AtW.keep {F : Nat → Nat} {G : Nat → List Nat} {m : Nat} {u : Nat → Nat} {i n x z : Nat} (hn : n < i) (hcn : CandW m F G u n z) (h : ∀ j y, j < i → CandW m F G u j y → y ≤ z) (hz : x ≤ z) (hc : CandW m F G u i x) : AtW F G m u (i + 1) (n : Nat) := by
  refine .inr ⟨n, z, rfl, by omega, hcn, fun j y hj hj2 => ?_⟩
  by_cases e : j = i
  · subst e; exact Nat.le_trans (Nat.le_of_eq (hc.val hj2)) hz
  · exact h j y (by omega) hj2
theorem RunW.len {m : Nat} {F : Nat → Nat} {G : Nat → List Nat} {u w : Nat → Nat} (h : RunW m F G u w) (hu : ∀ i, i < m → u i ≤ (G i).length) : ∀ i, i < m → w i ≤ (G i).length := by
  induction h with
  | done _ => exact hu
  | step hc _ _ ih =>
    refine ih fun j hj => ?_
    unfold oneM
    split
    · rename_i e
      subst e
      exact (List.getElem?_eq_some_iff.1 hc.2.1).1
    · exact hu j hj
theorem fnN_zero (m : Nat) : fnN (List.replicate m 0) = fun _ => 0 := by
  funext k
  unfold fnN
  rw [List.getElem?_replicate]
  split <;> rfl
theorem pre_zero : ∀ k, pre (fun _ => 0) k = 0
  | 0 => rfl
  | k + 1 => by show pre (fun _ => 0) k + 0 = 0; rw [pre_zero k]
theorem nblk_nz {w : World} {g : Nat} {l : List Nat} (h : Nblk .i64 w g 3 l) : ZBlk w g (nz l) := by
  unfold ZBlk nz
  rw [List.map_map]
  exact h
theorem ZBlk.up {w w' : World} {g : Nat} {xs : List Int} (h : ZBlk w g xs) (hb : Below w.heap.size w w') : ZBlk w' g xs := Blk.below h hb (Blk.lt h)
theorem withP_ex (ao : Option Addr) (c m : Nat) (us : List Nat) (i : Nat) (w : World) (h : IZ w ao (nz us)) (hl : us.length = m) (hm : m ≤ 8) (hi : i < m) (hb : fnN us i ≤ 100000) :
    Calls Try.prog 22 #[.slice ao m c, .int .i64 (i : Nat)] w (fun e w' => ∃ g, e = .returned (.slice (some ⟨g, 0, none⟩) m m) ∧ ZBlk w' g (nz (addU us i)) ∧ Below w.heap.size w w') :=
  (withP_any ao c m us i w h hl hm hi hb).mono fun _ _ ⟨h1, h2, h3⟩ => ⟨_, h1, h2, h3⟩
def BestPost (fl : List Nat) (gs : List (List Nat)) (m : Nat) (w : World) (e : Ending) (w' : World) : Prop := ∃ (g : Nat) (us : List Nat), e = .returned (.slice (some ⟨g, 0, none⟩) m m) ∧ us.length = m ∧ RunW m (fnN fl) (fnG gs) (fun _ => 0) (fnN us) ∧ ZBlk w' g (nz us) ∧ Below w.heap.size w w'
section
attribute [local go_sem] undef
set_option maxRecDepth 100000 in
set_option maxHeartbeats 6400000 in
theorem bestP_any (af ag : Option Addr) (cf cg m : Nat) (fl : List Nat) (gs : List (List Nat)) (w : World) (hf : IZ w af (nz fl)) (hg : IMx w ag (gs.map nz)) (hfl : fl.length = m) (hgl : gs.length = m) (hm : m ≤ 8) (hm1 : 1 ≤ m) (hfb : ∀ x ∈ fl, x ≤ 30) (hok : okG gs) :
    Calls Try.prog 10 #[.agg #[.slice af m cf, .slice ag m cg]] w (BestPost fl gs m w) := by
  have hfH := Lib.hid hf
  have hgH := Lib.hid hg
  have hflH := Lib.hid hfl
  have hglH := Lib.hid hgl
  have hfbH := Lib.hid hfb
  have hokH := Lib.hid hok
  clear hf hg hfl hgl hfb hok
  go_enter Try.func10, Try.ntmps10
  go_wp2_with (at_make; go_loud (refine wpList_make_zero _ rfl (.tmp 9) _ rfl 3 .i64 8 Try.underlying24 info_intJ (by omega) .i64 (m : Nat) m (by rfl) rfl (by omega) ?_); intro w2 hN2 hb2; have hR2 := Lib.hid hN2; have hb2H := Lib.hid hb2; clear hN2 hb2)
  go_loopg [3] 241 (fun gk uv wr => ∃ (g : Nat) (us : List Nat), uv = .slice (some ⟨g, 0, none⟩) m m ∧ us.length = m ∧ pre (fnN us) m + gk = 241 ∧ Poss m (fnN fl) (fnN us) ∧ (∀ i, i < m → fnN us i ≤ (fnG gs i).length) ∧ (∀ v, RunW m (fnN fl) (fnG gs) (fnN us) v → RunW m (fnN fl) (fnG gs) (fun _ => 0) v) ∧ ZBlk wr g (nz us) ∧ Below w.heap.size w wr ∧ wr.cell? ⟨w.heap.size, 0, none⟩ = some (.slice af m cf) ∧ wr.cell? ⟨w.heap.size, 1, none⟩ = some (.slice ag m cg))
  case atStart =>
    refine ⟨w.heap.size + 1, List.replicate m 0, rfl, by simp, ?_, ?_, ?_, ?_, ?_, ?_, ?_, ?_⟩
    · rw [fnN_zero, pre_zero]
    · rw [fnN_zero]; exact fun k _ => by rw [pre_zero]; exact Nat.zero_le _
    · rw [fnN_zero]; exact fun _ _ => Nat.zero_le _
    · rw [fnN_zero]; exact fun _ h => h
    · have := nblk_nz hR2.out
      simpa using this
    · exact bseqJ (below_al (Below.refl _ _) _) hb2H.out
    · exact Below.cellAt hb2H.out (Nat.le_refl _) (al_new rfl)
    · exact Below.cellAt hb2H.out (Nat.le_refl _) (al_new rfl)
  case round =>
    obtain ⟨g, us, rfl, hul, hgk, hpo, hle, hrun, hZ, hbl, c0, c1⟩ := hrel
    have hpb : pre (fnN us) m ≤ 240 := by
      have h1 := hpo m (Nat.le_refl _)
      have h2 := pre_bound (fnN_le hfbH.out) m
      omega
    obtain ⟨g2, rfl⟩ : ∃ g2, gk = g2 + 1 := ⟨gk - 1, by omega⟩
    have hulH := Lib.hid hul
    have hgkH := Lib.hid hgk
    have hpoH := Lib.hid hpo
    have hleH := Lib.hid hle
    have hrunH := Lib.hid hrun
    have hZH := Lib.hid hZ
    have hblH := Lib.hid hbl
    have c0H := Lib.hid c0
    have c1H := Lib.hid c1
    clear hul hgk hpo hle hrun hpb hZ hR2 hb2H
    obtain ⟨wq, hwq⟩ : ∃ wq, wq = wr := ⟨_, rfl⟩
    subst hwq
    obtain ⟨b1, o1, rfl⟩ : ∃ b1 o1, ag = some ⟨b1, o1, none⟩ := by
      obtain ⟨b1, o1, _, _, e, _⟩ := (hgH.out.below hbl).rowN (k := 0) (by rw [hglH.out]; omega)
      exact ⟨b1, o1, e⟩
    obtain ⟨bf, of, rfl⟩ : ∃ bf of, af = some ⟨bf, of, none⟩ := by
      obtain ⟨bf, of, e, _⟩ := (hfH.out.below hbl) 0 _ (nz_fn (by rw [hflH.out]; omega))
      exact ⟨bf, of, e⟩
    clear hbl
    have hg1H := Lib.hid (show IMx wq (some ⟨b1, o1, none⟩) (gs.map nz) from hgH.out.below hblH.out)
    have hf1H := Lib.hid (show IZ wq (some ⟨bf, of, none⟩) (nz fl) from hfH.out.below hblH.out)
    have hu1H := Lib.hid (show IZ wq (some ⟨g, 0, none⟩) (nz us) from hZH.out.iz)
    go_wp2_with (fail)
    clear c0 c1
    go_loopg [4, 14] m (fun gj av jv wx => ∃ (i : Nat) (a : Int), av = .int .i64 a ∧ jv = .int .i64 (i : Nat) ∧ i + gj = m ∧ AtW (fnN fl) (fnG gs) m (fnN us) i a ∧ Below wq.heap.size wq wx)
    case atStart => exact ⟨0, -1, rfl, rfl, by omega, .inl ⟨rfl, fun j y hj => absurd hj (Nat.not_lt_zero j)⟩, Below.refl _ _⟩
    case round =>
      obtain ⟨i, a, rfl, rfl, hi, hat, hbx⟩ := hrel
      have hatH := Lib.hid hat
      have hbxH := Lib.hid hbx
      have c0 : wr.cell? ⟨w.heap.size, 0, none⟩ = some (.slice (some ⟨bf, of, none⟩) m cf) := Below.cellAt hbx (Nat.le_refl _) c0H.out
      have c1 : wr.cell? ⟨w.heap.size, 1, none⟩ = some (.slice (some ⟨b1, o1, none⟩) m cg) := Below.cellAt hbx (Nat.le_refl _) c1H.out
      clear hat hbx
      by_cases him : i < m
      · obtain ⟨g3, rfl⟩ : ∃ g3, gk = g3 + 1 := ⟨gk - 1, by omega⟩
        obtain ⟨b2, o2, ar, cr, e0, c2, hrc, hrI⟩ := (hg1H.out.below hbxH.out).rowN (k := i) (by rw [hglH.out]; exact him)
        injection e0 with e0
        injection e0 with e1 e2
        subst e1 e2
        obtain ⟨b2, o2, e0, c3⟩ := (hu1H.out.below hbxH.out) i _ (nz_fn (by rw [hulH.out]; exact him))
        injection e0 with e0
        injection e0 with e1 e2
        subst e1 e2
        rw [Nat.zero_add] at c3
        obtain ⟨u, hu⟩ : ∃ u, fnN us i = u := ⟨_, rfl⟩
        obtain ⟨L, hL⟩ : ∃ L, fnG gs i = L := ⟨_, rfl⟩
        obtain ⟨n, hn⟩ : ∃ n, L.length = n := ⟨_, rfl⟩
        have hun := hleH.out i him
        have hn20 := (hokH.out.at i).1
        rw [hL, hn] at c2 hrc hn20
        rw [hL, hn, hu] at hun
        rw [hL] at hrI
        rw [hu] at c3
        have hk0 : (0 : Int) ≤ (i : Int) := by omega
        have hkI : (i : Int) < (m : Int) := by omega
        have hrIH := Lib.hid hrI
        have huH := Lib.hid hu
        have hLH := Lib.hid hL
        have hnH := Lib.hid hn
        clear hrI hu hL hn
        by_cases hu1 : u < n
        · have d1 : decide ((u : Int) < (n : Int)) = true := by simp; omega
          have hu0 : (0 : Int) ≤ (u : Int) := by omega
          have huI : (u : Int) < (n : Int) := by omega
          obtain ⟨x, hx⟩ : ∃ x, L[u]? = some x := ⟨_, List.getElem?_eq_getElem (by rw [hnH.out]; exact hu1)⟩
          obtain ⟨b3, o3, rfl, c4⟩ := hrIH.out u _ (nz_get hx)
          have hxH := Lib.hid hx
          clear hx
          by_cases hx0 : 0 < x
          · have d2 : decide ((0 : Int) < (x : Int)) = true := by simp; omega
            have hub : Hid (fnN us i ≤ 100000) := by show _ ≤ _; rw [huH.out]; omega
            have hul2 : Hid ((addU us i).length = m) := by show _ = _; rw [addU_len, hulH.out]
            have hIuH := Lib.hid (hu1H.out.below hbxH.out)
            have hIfH := Lib.hid (hf1H.out.below hbxH.out)
            have hone := Lib.hid (addU_fn (us := us) (i := i) (by rw [hulH.out]; exact him))
            rcases hpoT : possB fl (addU us i) with _ | _
            · have hpoB := Lib.hid hpoT
              have hno : Hid (∀ y, ¬ CandW m (fnN fl) (fnG gs) (fnN us) i y) := fun y hc => by
                have h1 := (possB_iff (fl := fl) hul2.out).2 (by rw [hone.out]; exact hc.2.2.2)
                rw [hpoB.out] at h1
                cases h1
              clear hpoT c1
              go_wp2_with (fail)
              have hB0 : Below wr.heap.size wr wr := Below.refl _ _
              have hup : Hid (∀ W, Below wr.heap.size wr W → W.cell? ⟨w.heap.size, 0, none⟩ = some (.slice (some ⟨bf, of, none⟩) m cf) ∧ W.cell? ⟨g, i, none⟩ = some (.int .i64 (u : Nat)) ∧ W.cell? ⟨b3, o3 + u, none⟩ = some (.int .i64 (x : Nat))) := fun W hbW => ⟨Below.cellAt hbW (Nat.le_refl _) c0, Below.cellAt hbW (Nat.le_refl _) c3, Below.cellAt hbW (Nat.le_refl _) c4⟩
              clear c2
              -- tail S: fun W => Below wr.heap.size wr W ∧ W.cell? ⟨w.heap.size, 0, none⟩ = some (.slice (some ⟨bf, of, none⟩) m cf) ∧ W.cell? ⟨g, i, none⟩ = some (.int .i64 (u : Nat)) ∧ W.cell? ⟨b3, o3 + u, none⟩ = some (.int .i64 (x : Nat))
              -- tail s0: ⟨Below.drew hB0, hup.out _ (Below.drew hB0)⟩
              -- arm 22: go_at_call 22; (with_reducible refine (withP_ex (some ⟨g, 0, none⟩) m m us i _ (hIuH.out.below hHeld.1) hulH.out hm him hub.out).mono ?_); rintro e w4 ⟨gw, rfl, hZ4, hb4⟩; have hZ4H := Lib.hid hZ4.iz; have hq4 : Below wr.heap.size wr w4 := bseqJ hHeld.1 hb4; clear hZ4
              -- arm 22 s: ⟨hq4, hup.out _ hq4⟩
              -- arm 23: go_at_call 21; (with_reducible refine (possP_any (some ⟨bf, of, none⟩) (some ⟨gw, 0, none⟩) cf m m fl (addU us i) false _ (hIfH.out.below hHeld.1) hZ4H.out hflH.out hul2.out hm hfbH.out hpoB.out).mono ?_); rintro e w5 ⟨rfl, hb5⟩; have hbw3 : Below wr.heap.size wr w5 := bseqJ hq4 hb5
              -- arm 23 s: ⟨hbw3, hup.out _ hbw3⟩
              -- tail va 0 1 2 3 4 5 6 7 8 9 10 11 12 13 14 15 16 17 18 19 20 21 c22 c23 24 25 s26 s27 s28 s29 s30 s31 s32 s33 s34 s35 s36 s37 s38 s39 s40 s41 s42 s43 s44 s45 s46 s47 s48 49
              refine wp_region_tail (fun W => Below wr.heap.size wr W ∧ W.cell? ⟨w.heap.size, 0, none⟩ = some (.slice (some ⟨bf, of, none⟩) m cf) ∧ W.cell? ⟨g, i, none⟩ = some (.int .i64 (u : Nat)) ∧ W.cell? ⟨b3, o3 + u, none⟩ = some (.int .i64 (x : Nat))) (fun j => decide (1000 ≤ j)) (by kernel_rfl) (⟨Below.drew hB0, hup.out _ (Below.drew hB0)⟩) (fun hHeld => ?_)
              refine wpAnyT_take (i := 0) (oi := ?oiva0) (v := ?vva0) ?hova0 (by kernel_rfl) (by kernel_rfl) (by kernel_rfl) (by kernel_rfl) ?hqva0 (Or.inl ⟨?hwva0, ?hyva0⟩) (by assumption) ?_
              case hova0 => rfl
              case hwva0 => rfl
              case hyva0 => (intro w hSw; (try dsimp only at hSw); go_split_ands; go_simp; (try (with_reducible rfl)))
              case hqva0 => exact fun _ _ _ h => h
              simp only [Act.put, List.getElem_toArray, List.getElem_cons_zero, List.setIfInBounds_toArray, List.set_cons_zero, List.set_cons_succ]
              refine wpAnyT_take (i := 1) (oi := ?oiva1) (v := ?vva1) ?hova1 (by kernel_rfl) (by kernel_rfl) (by kernel_rfl) (by kernel_rfl) ?hqva1 (Or.inl ⟨?hwva1, ?hyva1⟩) (by assumption) ?_
              case hova1 => rfl
              case hwva1 => rfl
              case hyva1 => (intro w hSw; (try dsimp only at hSw); go_split_ands; go_simp; (try (with_reducible rfl)))
              case hqva1 => exact fun _ _ _ h => h
              simp only [Act.put, List.getElem_toArray, List.getElem_cons_succ, List.getElem_cons_zero, List.setIfInBounds_toArray, List.set_cons_zero, List.set_cons_succ]
              refine wpAnyT_take (i := 2) (oi := ?oiva2) (v := ?vva2) ?hova2 (by kernel_rfl) (by kernel_rfl) (by kernel_rfl) (by kernel_rfl) ?hqva2 (Or.inl ⟨?hwva2, ?hyva2⟩) (by assumption) ?_
              case hova2 => rfl
              case hwva2 => rfl
              case hyva2 => (intro w hSw; (try dsimp only at hSw); go_split_ands; go_simp; (try (with_reducible rfl)))
              case hqva2 => exact fun _ _ _ h => h
              simp only [Act.put, List.getElem_toArray, List.getElem_cons_succ, List.getElem_cons_zero, List.setIfInBounds_toArray, List.set_cons_zero, List.set_cons_succ]
              refine wpAnyT_take (i := 3) (oi := ?oiva3) (v := ?vva3) ?hova3 (by kernel_rfl) (by kernel_rfl) (by kernel_rfl) (by kernel_rfl) ?hqva3 (Or.inl ⟨?hwva3, ?hyva3⟩) (by assumption) ?_
              case hova3 => rfl
              case hwva3 => rfl
              case hyva3 => (intro w hSw; (try dsimp only at hSw); go_split_ands; go_simp; (try (with_reducible rfl)))
              case hqva3 => exact fun _ _ _ h => h
              simp only [Act.put, List.getElem_toArray, List.getElem_cons_succ, List.getElem_cons_zero, List.setIfInBounds_toArray, List.set_cons_zero, List.set_cons_succ]
              refine wpAnyT_take (i := 4) (oi := ?oiva4) (v := ?vva4) ?hova4 (by kernel_rfl) (by kernel_rfl) (by kernel_rfl) (by kernel_rfl) ?hqva4 (Or.inl ⟨?hwva4, ?hyva4⟩) (by assumption) ?_
              case hova4 => rfl
              case hwva4 => rfl
              case hyva4 => (intro w hSw; (try dsimp only at hSw); go_split_ands; go_simp; (try (with_reducible rfl)))
              case hqva4 => exact fun _ _ _ h => h
              simp only [Act.put, List.getElem_toArray, List.getElem_cons_succ, List.getElem_cons_zero, List.setIfInBounds_toArray, List.set_cons_zero, List.set_cons_succ]
              refine wpAnyT_take (i := 5) (oi := ?oiva5) (v := ?vva5) ?hova5 (by kernel_rfl) (by kernel_rfl) (by kernel_rfl) (by kernel_rfl) ?hqva5 (Or.inl ⟨?hwva5, ?hyva5⟩) (by assumption) ?_
              case hova5 => rfl
              case hwva5 => rfl
              case hyva5 => (intro w hSw; (try dsimp only at hSw); go_split_ands; go_simp; (try (with_reducible rfl)))
              case hqva5 => exact fun _ _ _ h => h
              simp only [Act.put, List.getElem_toArray, List.getElem_cons_succ, List.getElem_cons_zero, List.setIfInBounds_toArray, List.set_cons_zero, List.set_cons_succ]
              refine wpAnyT_take (i := 6) (oi := ?oiva6) (v := ?vva6) ?hova6 (by kernel_rfl) (by kernel_rfl) (by kernel_rfl) (by kernel_rfl) ?hqva6 (Or.inl ⟨?hwva6, ?hyva6⟩) (by assumption) ?_
              case hova6 => rfl
              case hwva6 => rfl
              case hyva6 => (intro w hSw; (try dsimp only at hSw); go_split_ands; go_simp; (try (with_reducible rfl)))
              case hqva6 => exact fun _ _ _ h => h
              simp only [Act.put, List.getElem_toArray, List.getElem_cons_succ, List.getElem_cons_zero, List.setIfInBounds_toArray, List.set_cons_zero, List.set_cons_succ]
              refine wpAnyT_take (i := 7) (oi := ?oiva7) (v := ?vva7) ?hova7 (by kernel_rfl) (by kernel_rfl) (by kernel_rfl) (by kernel_rfl) ?hqva7 (Or.inl ⟨?hwva7, ?hyva7⟩) (by assumption) ?_
              case hova7 => rfl
              case hwva7 => rfl
              case hyva7 => (intro w hSw; (try dsimp only at hSw); go_split_ands; go_simp; (try (with_reducible rfl)))
              case hqva7 => exact fun _ _ _ h => h
              simp only [Act.put, List.getElem_toArray, List.getElem_cons_succ, List.getElem_cons_zero, List.setIfInBounds_toArray, List.set_cons_zero, List.set_cons_succ]
              refine wpAnyT_take (i := 8) (oi := ?oiva8) (v := ?vva8) ?hova8 (by kernel_rfl) (by kernel_rfl) (by kernel_rfl) (by kernel_rfl) ?hqva8 (Or.inl ⟨?hwva8, ?hyva8⟩) (by assumption) ?_
              case hova8 => rfl
              case hwva8 => rfl
              case hyva8 => (intro w hSw; (try dsimp only at hSw); go_split_ands; go_simp; (try (with_reducible rfl)))
              case hqva8 => exact fun _ _ _ h => h
              simp only [Act.put, List.getElem_toArray, List.getElem_cons_succ, List.getElem_cons_zero, List.setIfInBounds_toArray, List.set_cons_zero, List.set_cons_succ]
              refine wpAnyT_take (i := 9) (oi := ?oiva9) (v := ?vva9) ?hova9 (by kernel_rfl) (by kernel_rfl) (by kernel_rfl) (by kernel_rfl) ?hqva9 (Or.inl ⟨?hwva9, ?hyva9⟩) (by assumption) ?_
              case hova9 => rfl
              case hwva9 => rfl
              case hyva9 => (intro w hSw; (try dsimp only at hSw); go_split_ands; go_simp; (try (with_reducible rfl)))
              case hqva9 => exact fun _ _ _ h => h
              simp only [Act.put, List.getElem_toArray, List.getElem_cons_succ, List.getElem_cons_zero, List.setIfInBounds_toArray, List.set_cons_zero, List.set_cons_succ]
              refine wpAnyT_take (i := 10) (oi := ?oiva10) (v := ?vva10) ?hova10 (by kernel_rfl) (by kernel_rfl) (by kernel_rfl) (by kernel_rfl) ?hqva10 (Or.inl ⟨?hwva10, ?hyva10⟩) (by assumption) ?_
              case hova10 => rfl
              case hwva10 => rfl
              case hyva10 => (intro w hSw; (try dsimp only at hSw); go_split_ands; go_simp; (try (with_reducible rfl)))
              case hqva10 => exact fun _ _ _ h => h
              simp only [Act.put, List.getElem_toArray, List.getElem_cons_succ, List.getElem_cons_zero, List.setIfInBounds_toArray, List.set_cons_zero, List.set_cons_succ]
              refine wpAnyT_take (i := 11) (oi := ?oiva11) (v := ?vva11) ?hova11 (by kernel_rfl) (by kernel_rfl) (by kernel_rfl) (by kernel_rfl) ?hqva11 (Or.inl ⟨?hwva11, ?hyva11⟩) (by assumption) ?_
              case hova11 => rfl
              case hwva11 => rfl
              case hyva11 => (intro w hSw; (try dsimp only at hSw); go_split_ands; go_simp; (try (with_reducible rfl)))
              case hqva11 => exact fun _ _ _ h => h
              simp only [Act.put, List.getElem_toArray, List.getElem_cons_succ, List.getElem_cons_zero, List.setIfInBounds_toArray, List.set_cons_zero, List.set_cons_succ]
              refine wpAnyT_take (i := 12) (oi := ?oiva12) (v := ?vva12) ?hova12 (by kernel_rfl) (by kernel_rfl) (by kernel_rfl) (by kernel_rfl) ?hqva12 (Or.inl ⟨?hwva12, ?hyva12⟩) (by assumption) ?_
              case hova12 => rfl
              case hwva12 => rfl
              case hyva12 => (intro w hSw; (try dsimp only at hSw); go_split_ands; go_simp; (try (with_reducible rfl)))
              case hqva12 => exact fun _ _ _ h => h
              simp only [Act.put, List.getElem_toArray, List.getElem_cons_succ, List.getElem_cons_zero, List.setIfInBounds_toArray, List.set_cons_zero, List.set_cons_succ]
              refine wpAnyT_take (i := 13) (oi := ?oiva13) (v := ?vva13) ?hova13 (by kernel_rfl) (by kernel_rfl) (by kernel_rfl) (by kernel_rfl) ?hqva13 (Or.inl ⟨?hwva13, ?hyva13⟩) (by assumption) ?_
              case hova13 => rfl
              case hwva13 => rfl
              case hyva13 => (intro w hSw; (try dsimp only at hSw); go_split_ands; go_simp; (try (with_reducible rfl)))
              case hqva13 => exact fun _ _ _ h => h
              simp only [Act.put, List.getElem_toArray, List.getElem_cons_succ, List.getElem_cons_zero, List.setIfInBounds_toArray, List.set_cons_zero, List.set_cons_succ]
              refine wpAnyT_take (i := 14) (oi := ?oiva14) (v := ?vva14) ?hova14 (by kernel_rfl) (by kernel_rfl) (by kernel_rfl) (by kernel_rfl) ?hqva14 (Or.inl ⟨?hwva14, ?hyva14⟩) (by assumption) ?_
              case hova14 => rfl
              case hwva14 => rfl
              case hyva14 => (intro w hSw; (try dsimp only at hSw); go_split_ands; go_simp; (try (with_reducible rfl)))
              case hqva14 => exact fun _ _ _ h => h
              simp only [Act.put, List.getElem_toArray, List.getElem_cons_succ, List.getElem_cons_zero, List.setIfInBounds_toArray, List.set_cons_zero, List.set_cons_succ]
              refine wpAnyT_take (i := 15) (oi := ?oiva15) (v := ?vva15) ?hova15 (by kernel_rfl) (by kernel_rfl) (by kernel_rfl) (by kernel_rfl) ?hqva15 (Or.inl ⟨?hwva15, ?hyva15⟩) (by assumption) ?_
              case hova15 => rfl
              case hwva15 => rfl
              case hyva15 => (intro w hSw; (try dsimp only at hSw); go_split_ands; go_simp; (try (with_reducible rfl)))
              case hqva15 => exact fun _ _ _ h => h
              simp only [Act.put, List.getElem_toArray, List.getElem_cons_succ, List.getElem_cons_zero, List.setIfInBounds_toArray, List.set_cons_zero, List.set_cons_succ]
              refine wpAnyT_take (i := 16) (oi := ?oiva16) (v := ?vva16) ?hova16 (by kernel_rfl) (by kernel_rfl) (by kernel_rfl) (by kernel_rfl) ?hqva16 (Or.inl ⟨?hwva16, ?hyva16⟩) (by assumption) ?_
              case hova16 => rfl
              case hwva16 => rfl
              case hyva16 => (intro w hSw; (try dsimp only at hSw); go_split_ands; go_simp; (try (with_reducible rfl)))
              case hqva16 => exact fun _ _ _ h => h
              simp only [Act.put, List.getElem_toArray, List.getElem_cons_succ, List.getElem_cons_zero, List.setIfInBounds_toArray, List.set_cons_zero, List.set_cons_succ]
              refine wpAnyT_take (i := 17) (oi := ?oiva17) (v := ?vva17) ?hova17 (by kernel_rfl) (by kernel_rfl) (by kernel_rfl) (by kernel_rfl) ?hqva17 (Or.inl ⟨?hwva17, ?hyva17⟩) (by assumption) ?_
              case hova17 => rfl
              case hwva17 => rfl
              case hyva17 => (intro w hSw; (try dsimp only at hSw); go_split_ands; go_simp; (try (with_reducible rfl)))
              case hqva17 => exact fun _ _ _ h => h
              simp only [Act.put, List.getElem_toArray, List.getElem_cons_succ, List.getElem_cons_zero, List.setIfInBounds_toArray, List.set_cons_zero, List.set_cons_succ]
              refine wpAnyT_take (i := 18) (oi := ?oiva18) (v := ?vva18) ?hova18 (by kernel_rfl) (by kernel_rfl) (by kernel_rfl) (by kernel_rfl) ?hqva18 (Or.inl ⟨?hwva18, ?hyva18⟩) (by assumption) ?_
              case hova18 => rfl
              case hwva18 => rfl
              case hyva18 => (intro w hSw; (try dsimp only at hSw); go_split_ands; go_simp; (try (with_reducible rfl)))
              case hqva18 => exact fun _ _ _ h => h
              simp only [Act.put, List.getElem_toArray, List.getElem_cons_succ, List.getElem_cons_zero, List.setIfInBounds_toArray, List.set_cons_zero, List.set_cons_succ]
              refine wpAnyT_take (i := 19) (oi := ?oiva19) (v := ?vva19) ?hova19 (by kernel_rfl) (by kernel_rfl) (by kernel_rfl) (by kernel_rfl) ?hqva19 (Or.inl ⟨?hwva19, ?hyva19⟩) (by assumption) ?_
              case hova19 => rfl
              case hwva19 => rfl
              case hyva19 => (intro w hSw; (try dsimp only at hSw); go_split_ands; go_simp; (try (with_reducible rfl)))
              case hqva19 => exact fun _ _ _ h => h
              simp only [Act.put, List.getElem_toArray, List.getElem_cons_succ, List.getElem_cons_zero, List.setIfInBounds_toArray, List.set_cons_zero, List.set_cons_succ]
              refine wpAnyT_take (i := 20) (oi := ?oiva20) (v := ?vva20) ?hova20 (by kernel_rfl) (by kernel_rfl) (by kernel_rfl) (by kernel_rfl) ?hqva20 (Or.inl ⟨?hwva20, ?hyva20⟩) (by assumption) ?_
              case hova20 => rfl
              case hwva20 => rfl
              case hyva20 => (intro w hSw; (try dsimp only at hSw); go_split_ands; go_simp; (try (with_reducible rfl)))
              case hqva20 => exact fun _ _ _ h => h
              simp only [Act.put, List.getElem_toArray, List.getElem_cons_succ, List.getElem_cons_zero, List.setIfInBounds_toArray, List.set_cons_zero, List.set_cons_succ]
              refine wpAnyT_take (i := 21) (oi := ?oiva21) (v := ?vva21) ?hova21 (by kernel_rfl) (by kernel_rfl) (by kernel_rfl) (by kernel_rfl) ?hqva21 (Or.inl ⟨?hwva21, ?hyva21⟩) (by assumption) ?_
              case hova21 => rfl
              case hwva21 => rfl
              case hyva21 => (intro w hSw; (try dsimp only at hSw); go_split_ands; go_simp; (try (with_reducible rfl)))
              case hqva21 => exact fun _ _ _ h => h
              simp only [Act.put, List.getElem_toArray, List.getElem_cons_succ, List.getElem_cons_zero, List.setIfInBounds_toArray, List.set_cons_zero, List.set_cons_succ]
              refine wpAnyT_one (i := 22) (o := ?oiva22) (by kernel_rfl) ?hova22 (fun K hK => ?_)
              case hova22 => rfl
              rw [if_pos (by rfl)]
              go_simp
              go_at_call 22; (with_reducible refine (withP_ex (some ⟨g, 0, none⟩) m m us i _ (hIuH.out.below hHeld.1) hulH.out hm him hub.out).mono ?_); rintro e w4 ⟨gw, rfl, hZ4, hb4⟩; have hZ4H := Lib.hid hZ4.iz; have hq4 : Below wr.heap.size wr w4 := bseqJ hHeld.1 hb4; clear hZ4
              (try go_wp2_with (fail))
              refine hK.out _ _ (fun _ => ⟨hq4, hup.out _ hq4⟩) (fun hHeld => ?_)
              replace hHeld := hHeld rfl
              clear hK K
              refine wpAnyT_one (i := 23) (o := ?oiva23) (by kernel_rfl) ?hova23 (fun K hK => ?_)
              case hova23 => rfl
              rw [if_pos (by rfl)]
              go_simp
              go_at_call 21; (with_reducible refine (possP_any (some ⟨bf, of, none⟩) (some ⟨gw, 0, none⟩) cf m m fl (addU us i) false _ (hIfH.out.below hHeld.1) hZ4H.out hflH.out hul2.out hm hfbH.out hpoB.out).mono ?_); rintro e w5 ⟨rfl, hb5⟩; have hbw3 : Below wr.heap.size wr w5 := bseqJ hq4 hb5
              (try go_wp2_with (fail))
              refine hK.out _ _ (fun _ => ⟨hbw3, hup.out _ hbw3⟩) (fun hHeld => ?_)
              replace hHeld := hHeld rfl
              clear hK K
              refine wpAnyT_take (i := 24) (oi := ?oiva24) (v := ?vva24) ?hova24 (by kernel_rfl) (by kernel_rfl) (by kernel_rfl) (by kernel_rfl) ?hqva24 (Or.inl ⟨?hwva24, ?hyva24⟩) (by assumption) ?_
              case hova24 => rfl
              case hwva24 => rfl
              case hyva24 => (intro w hSw; (try dsimp only at hSw); go_split_ands; go_simp; (try (with_reducible rfl)))
              case hqva24 => exact fun _ _ _ h => h
              simp only [Act.put, List.getElem_toArray, List.getElem_cons_succ, List.getElem_cons_zero, List.setIfInBounds_toArray, List.set_cons_zero, List.set_cons_succ]
              refine wpAnyT_take (i := 25) (oi := ?oiva25) (v := ?vva25) ?hova25 (by kernel_rfl) (by kernel_rfl) (by kernel_rfl) (by kernel_rfl) ?hqva25 (Or.inl ⟨?hwva25, ?hyva25⟩) (by assumption) ?_
              case hova25 => rfl
              case hwva25 => rfl
              case hyva25 => (intro w hSw; (try dsimp only at hSw); go_split_ands; go_simp; (try (with_reducible rfl)))
              case hqva25 => exact fun _ _ _ h => h
              simp only [Act.put, List.getElem_toArray, List.getElem_cons_succ, List.getElem_cons_zero, List.setIfInBounds_toArray, List.set_cons_zero, List.set_cons_succ]
              refine wpAnyT_take (i := 26) (oi := ?oiva26) (v := undef) ?hova26 (by kernel_rfl) (by kernel_rfl) (by kernel_rfl) (by kernel_rfl) ?hqva26 (Or.inr ⟨?hwva26, rfl⟩) (by assumption) ?_
              case hova26 => rfl
              case hwva26 => rfl
              case hqva26 => exact fun _ _ _ h => h
              simp only [Act.put, List.getElem_toArray, List.getElem_cons_succ, List.getElem_cons_zero, List.setIfInBounds_toArray, List.set_cons_zero, List.set_cons_succ]
              refine wpAnyT_take (i := 27) (oi := ?oiva27) (v := undef) ?hova27 (by kernel_rfl) (by kernel_rfl) (by kernel_rfl) (by kernel_rfl) ?hqva27 (Or.inr ⟨?hwva27, rfl⟩) (by assumption) ?_
              case hova27 => rfl
              case hwva27 => rfl
              case hqva27 => exact fun _ _ _ h => h
              simp only [Act.put, List.getElem_toArray, List.getElem_cons_succ, List.getElem_cons_zero, List.setIfInBounds_toArray, List.set_cons_zero, List.set_cons_succ]
              refine wpAnyT_take (i := 28) (oi := ?oiva28) (v := undef) ?hova28 (by kernel_rfl) (by kernel_rfl) (by kernel_rfl) (by kernel_rfl) ?hqva28 (Or.inr ⟨?hwva28, rfl⟩) (by assumption) ?_
              case hova28 => rfl
              case hwva28 => rfl
              case hqva28 => exact fun _ _ _ h => h
              simp only [Act.put, List.getElem_toArray, List.getElem_cons_succ, List.getElem_cons_zero, List.setIfInBounds_toArray, List.set_cons_zero, List.set_cons_succ]
              refine wpAnyT_take (i := 29) (oi := ?oiva29) (v := undef) ?hova29 (by kernel_rfl) (by kernel_rfl) (by kernel_rfl) (by kernel_rfl) ?hqva29 (Or.inr ⟨?hwva29, rfl⟩) (by assumption) ?_
              case hova29 => rfl
              case hwva29 => rfl
              case hqva29 => exact fun _ _ _ h => h
              simp only [Act.put, List.getElem_toArray, List.getElem_cons_succ, List.getElem_cons_zero, List.setIfInBounds_toArray, List.set_cons_zero, List.set_cons_succ]
              refine wpAnyT_take (i := 30) (oi := ?oiva30) (v := undef) ?hova30 (by kernel_rfl) (by kernel_rfl) (by kernel_rfl) (by kernel_rfl) ?hqva30 (Or.inr ⟨?hwva30, rfl⟩) (by assumption) ?_
              case hova30 => rfl
              case hwva30 => rfl
              case hqva30 => exact fun _ _ _ h => h
              simp only [Act.put, List.getElem_toArray, List.getElem_cons_succ, List.getElem_cons_zero, List.setIfInBounds_toArray, List.set_cons_zero, List.set_cons_succ]
              refine wpAnyT_take (i := 31) (oi := ?oiva31) (v := undef) ?hova31 (by kernel_rfl) (by kernel_rfl) (by kernel_rfl) (by kernel_rfl) ?hqva31 (Or.inr ⟨?hwva31, rfl⟩) (by assumption) ?_
              case hova31 => rfl
              case hwva31 => rfl
              case hqva31 => exact fun _ _ _ h => h
              simp only [Act.put, List.getElem_toArray, List.getElem_cons_succ, List.getElem_cons_zero, List.setIfInBounds_toArray, List.set_cons_zero, List.set_cons_succ]
              refine wpAnyT_take (i := 32) (oi := ?oiva32) (v := undef) ?hova32 (by kernel_rfl) (by kernel_rfl) (by kernel_rfl) (by kernel_rfl) ?hqva32 (Or.inr ⟨?hwva32, rfl⟩) (by assumption) ?_
              case hova32 => rfl
              case hwva32 => rfl
              case hqva32 => exact fun _ _ _ h => h
              simp only [Act.put, List.getElem_toArray, List.getElem_cons_succ, List.getElem_cons_zero, List.setIfInBounds_toArray, List.set_cons_zero, List.set_cons_succ]
              refine wpAnyT_take (i := 33) (oi := ?oiva33) (v := undef) ?hova33 (by kernel_rfl) (by kernel_rfl) (by kernel_rfl) (by kernel_rfl) ?hqva33 (Or.inr ⟨?hwva33, rfl⟩) (by assumption) ?_
              case hova33 => rfl
              case hwva33 => rfl
              case hqva33 => exact fun _ _ _ h => h
              simp only [Act.put, List.getElem_toArray, List.getElem_cons_succ, List.getElem_cons_zero, List.setIfInBounds_toArray, List.set_cons_zero, List.set_cons_succ]
              refine wpAnyT_take (i := 34) (oi := ?oiva34) (v := undef) ?hova34 (by kernel_rfl) (by kernel_rfl) (by kernel_rfl) (by kernel_rfl) ?hqva34 (Or.inr ⟨?hwva34, rfl⟩) (by assumption) ?_
              case hova34 => rfl
              case hwva34 => rfl
              case hqva34 => exact fun _ _ _ h => h
              simp only [Act.put, List.getElem_toArray, List.getElem_cons_succ, List.getElem_cons_zero, List.setIfInBounds_toArray, List.set_cons_zero, List.set_cons_succ]
              refine wpAnyT_take (i := 35) (oi := ?oiva35) (v := undef) ?hova35 (by kernel_rfl) (by kernel_rfl) (by kernel_rfl) (by kernel_rfl) ?hqva35 (Or.inr ⟨?hwva35, rfl⟩) (by assumption) ?_
              case hova35 => rfl
              case hwva35 => rfl
              case hqva35 => exact fun _ _ _ h => h
              simp only [Act.put, List.getElem_toArray, List.getElem_cons_succ, List.getElem_cons_zero, List.setIfInBounds_toArray, List.set_cons_zero, List.set_cons_succ]
              refine wpAnyT_take (i := 36) (oi := ?oiva36) (v := undef) ?hova36 (by kernel_rfl) (by kernel_rfl) (by kernel_rfl) (by kernel_rfl) ?hqva36 (Or.inr ⟨?hwva36, rfl⟩) (by assumption) ?_
              case hova36 => rfl
              case hwva36 => rfl
              case hqva36 => exact fun _ _ _ h => h
              simp only [Act.put, List.getElem_toArray, List.getElem_cons_succ, List.getElem_cons_zero, List.setIfInBounds_toArray, List.set_cons_zero, List.set_cons_succ]
              refine wpAnyT_take (i := 37) (oi := ?oiva37) (v := undef) ?hova37 (by kernel_rfl) (by kernel_rfl) (by kernel_rfl) (by kernel_rfl) ?hqva37 (Or.inr ⟨?hwva37, rfl⟩) (by assumption) ?_
              case hova37 => rfl
              case hwva37 => rfl
              case hqva37 => exact fun _ _ _ h => h
              simp only [Act.put, List.getElem_toArray, List.getElem_cons_succ, List.getElem_cons_zero, List.setIfInBounds_toArray, List.set_cons_zero, List.set_cons_succ]
              refine wpAnyT_take (i := 38) (oi := ?oiva38) (v := undef) ?hova38 (by kernel_rfl) (by kernel_rfl) (by kernel_rfl) (by kernel_rfl) ?hqva38 (Or.inr ⟨?hwva38, rfl⟩) (by assumption) ?_
              case hova38 => rfl
              case hwva38 => rfl
              case hqva38 => exact fun _ _ _ h => h
              simp only [Act.put, List.getElem_toArray, List.getElem_cons_succ, List.getElem_cons_zero, List.setIfInBounds_toArray, List.set_cons_zero, List.set_cons_succ]
              refine wpAnyT_take (i := 39) (oi := ?oiva39) (v := undef) ?hova39 (by kernel_rfl) (by kernel_rfl) (by kernel_rfl) (by kernel_rfl) ?hqva39 (Or.inr ⟨?hwva39, rfl⟩) (by assumption) ?_
              case hova39 => rfl
              case hwva39 => rfl
              case hqva39 => exact fun _ _ _ h => h
              simp only [Act.put, List.getElem_toArray, List.getElem_cons_succ, List.getElem_cons_zero, List.setIfInBounds_toArray, List.set_cons_zero, List.set_cons_succ]
              refine wpAnyT_take (i := 40) (oi := ?oiva40) (v := undef) ?hova40 (by kernel_rfl) (by kernel_rfl) (by kernel_rfl) (by kernel_rfl) ?hqva40 (Or.inr ⟨?hwva40, rfl⟩) (by assumption) ?_
              case hova40 => rfl
              case hwva40 => rfl
              case hqva40 => exact fun _ _ _ h => h
              simp only [Act.put, List.getElem_toArray, List.getElem_cons_succ, List.getElem_cons_zero, List.setIfInBounds_toArray, List.set_cons_zero, List.set_cons_succ]
              refine wpAnyT_take (i := 41) (oi := ?oiva41) (v := undef) ?hova41 (by kernel_rfl) (by kernel_rfl) (by kernel_rfl) (by kernel_rfl) ?hqva41 (Or.inr ⟨?hwva41, rfl⟩) (by assumption) ?_
              case hova41 => rfl
              case hwva41 => rfl
              case hqva41 => exact fun _ _ _ h => h
              simp only [Act.put, List.getElem_toArray, List.getElem_cons_succ, List.getElem_cons_zero, List.setIfInBounds_toArray, List.set_cons_zero, List.set_cons_succ]
              refine wpAnyT_take (i := 42) (oi := ?oiva42) (v := undef) ?hova42 (by kernel_rfl) (by kernel_rfl) (by kernel_rfl) (by kernel_rfl) ?hqva42 (Or.inr ⟨?hwva42, rfl⟩) (by assumption) ?_
              case hova42 => rfl
              case hwva42 => rfl
              case hqva42 => exact fun _ _ _ h => h
              simp only [Act.put, List.getElem_toArray, List.getElem_cons_succ, List.getElem_cons_zero, List.setIfInBounds_toArray, List.set_cons_zero, List.set_cons_succ]
              refine wpAnyT_take (i := 43) (oi := ?oiva43) (v := undef) ?hova43 (by kernel_rfl) (by kernel_rfl) (by kernel_rfl) (by kernel_rfl) ?hqva43 (Or.inr ⟨?hwva43, rfl⟩) (by assumption) ?_
              case hova43 => rfl
              case hwva43 => rfl
              case hqva43 => exact fun _ _ _ h => h
              simp only [Act.put, List.getElem_toArray, List.getElem_cons_succ, List.getElem_cons_zero, List.setIfInBounds_toArray, List.set_cons_zero, List.set_cons_succ]
              refine wpAnyT_take (i := 44) (oi := ?oiva44) (v := undef) ?hova44 (by kernel_rfl) (by kernel_rfl) (by kernel_rfl) (by kernel_rfl) ?hqva44 (Or.inr ⟨?hwva44, rfl⟩) (by assumption) ?_
              case hova44 => rfl
              case hwva44 => rfl
              case hqva44 => exact fun _ _ _ h => h
              simp only [Act.put, List.getElem_toArray, List.getElem_cons_succ, List.getElem_cons_zero, List.setIfInBounds_toArray, List.set_cons_zero, List.set_cons_succ]
              refine wpAnyT_take (i := 45) (oi := ?oiva45) (v := undef) ?hova45 (by kernel_rfl) (by kernel_rfl) (by kernel_rfl) (by kernel_rfl) ?hqva45 (Or.inr ⟨?hwva45, rfl⟩) (by assumption) ?_
              case hova45 => rfl
              case hwva45 => rfl
              case hqva45 => exact fun _ _ _ h => h
              simp only [Act.put, List.getElem_toArray, List.getElem_cons_succ, List.getElem_cons_zero, List.setIfInBounds_toArray, List.set_cons_zero, List.set_cons_succ]
              refine wpAnyT_take (i := 46) (oi := ?oiva46) (v := undef) ?hova46 (by kernel_rfl) (by kernel_rfl) (by kernel_rfl) (by kernel_rfl) ?hqva46 (Or.inr ⟨?hwva46, rfl⟩) (by assumption) ?_
              case hova46 => rfl
              case hwva46 => rfl
              case hqva46 => exact fun _ _ _ h => h
              simp only [Act.put, List.getElem_toArray, List.getElem_cons_succ, List.getElem_cons_zero, List.setIfInBounds_toArray, List.set_cons_zero, List.set_cons_succ]
              refine wpAnyT_take (i := 47) (oi := ?oiva47) (v := undef) ?hova47 (by kernel_rfl) (by kernel_rfl) (by kernel_rfl) (by kernel_rfl) ?hqva47 (Or.inr ⟨?hwva47, rfl⟩) (by assumption) ?_
              case hova47 => rfl
              case hwva47 => rfl
              case hqva47 => exact fun _ _ _ h => h
              simp only [Act.put, List.getElem_toArray, List.getElem_cons_succ, List.getElem_cons_zero, List.setIfInBounds_toArray, List.set_cons_zero, List.set_cons_succ]
              refine wpAnyT_take (i := 48) (oi := ?oiva48) (v := undef) ?hova48 (by kernel_rfl) (by kernel_rfl) (by kernel_rfl) (by kernel_rfl) ?hqva48 (Or.inr ⟨?hwva48, rfl⟩) (by assumption) ?_
              case hova48 => rfl
              case hwva48 => rfl
              case hqva48 => exact fun _ _ _ h => h
              simp only [Act.put, List.getElem_toArray, List.getElem_cons_succ, List.getElem_cons_zero, List.setIfInBounds_toArray, List.set_cons_zero, List.set_cons_succ]
              refine wpAnyT_take (i := 49) (oi := ?oiva49) (v := ?vva49) ?hova49 (by kernel_rfl) (by kernel_rfl) (by kernel_rfl) (by kernel_rfl) ?hqva49 (Or.inl ⟨?hwva49, ?hyva49⟩) (by assumption) ?_
              case hova49 => rfl
              case hwva49 => rfl
              case hyva49 => (intro w hSw; (try dsimp only at hSw); go_split_ands; go_simp; (try (with_reducible rfl)))
              case hqva49 => exact fun _ _ _ h => h
              simp only [Act.put, List.getElem_toArray, List.getElem_cons_succ, List.getElem_cons_zero, List.setIfInBounds_toArray, List.set_cons_zero, List.set_cons_succ]
              refine wpAnyT_done (by kernel_rfl) ?_ _
              -- tail end
              clear hHeld
              all_goals (
                go_wp2_with (fail)
                go_roundg g3
                case measure => omega
                case rel => exact ⟨i + 1, a, rfl, by go_num, by omega, hatH.out.skip hno.out, bseqJ hbxH.out hbw3⟩)
            · have hpoB := Lib.hid hpoT
              have hcan : Hid (CandW m (fnN fl) (fnG gs) (fnN us) i x) := ⟨him, by rw [huH.out, hLH.out]; exact hxH.out, hx0, by have := (possB_iff (fl := fl) hul2.out).1 hpoB.out; rwa [hone.out] at this⟩
              clear hpoT
              rcases hatH.out with ⟨rfl, hnone⟩ | ⟨p, z, rfl, hpi, hcp, hmax⟩
              · have hnoneH := Lib.hid hnone
                clear hnone c1
                go_wp2_with (fail)
                have hB0 : Below wr.heap.size wr wr := Below.refl _ _
                have hup : Hid (∀ W, Below wr.heap.size wr W → W.cell? ⟨w.heap.size, 0, none⟩ = some (.slice (some ⟨bf, of, none⟩) m cf) ∧ W.cell? ⟨g, i, none⟩ = some (.int .i64 (u : Nat)) ∧ W.cell? ⟨b3, o3 + u, none⟩ = some (.int .i64 (x : Nat))) := fun W hbW => ⟨Below.cellAt hbW (Nat.le_refl _) c0, Below.cellAt hbW (Nat.le_refl _) c3, Below.cellAt hbW (Nat.le_refl _) c4⟩
                clear c2
                -- tail S: fun W => Below wr.heap.size wr W ∧ W.cell? ⟨w.heap.size, 0, none⟩ = some (.slice (some ⟨bf, of, none⟩) m cf) ∧ W.cell? ⟨g, i, none⟩ = some (.int .i64 (u : Nat)) ∧ W.cell? ⟨b3, o3 + u, none⟩ = some (.int .i64 (x : Nat))
                -- tail s0: ⟨Below.drew hB0, hup.out _ (Below.drew hB0)⟩
                -- arm 22: go_at_call 22; (with_reducible refine (withP_ex (some ⟨g, 0, none⟩) m m us i _ (hIuH.out.below hHeld.1) hulH.out hm him hub.out).mono ?_); rintro e w4 ⟨gw, rfl, hZ4, hb4⟩; have hZ4H := Lib.hid hZ4.iz; have hq4 : Below wr.heap.size wr w4 := bseqJ hHeld.1 hb4; clear hZ4
                -- arm 22 s: ⟨hq4, hup.out _ hq4⟩
                -- arm 23: go_at_call 21; (with_reducible refine (possP_any (some ⟨bf, of, none⟩) (some ⟨gw, 0, none⟩) cf m m fl (addU us i) true _ (hIfH.out.below hHeld.1) hZ4H.out hflH.out hul2.out hm hfbH.out hpoB.out).mono ?_); rintro e w5 ⟨rfl, hb5⟩; have hbw3 : Below wr.heap.size wr w5 := bseqJ hq4 hb5
                -- arm 23 s: ⟨hbw3, hup.out _ hbw3⟩
                -- tail vb 0 1 2 3 4 5 6 7 8 9 10 11 12 13 14 15 16 17 18 19 20 21 c22 c23 24 25 26 27 28 s29 s30 s31 s32 s33 s34 s35 s36 s37 s38 s39 s40 s41 s42 s43 s44 s45 s46 s47 48 49
                refine wp_region_tail (fun W => Below wr.heap.size wr W ∧ W.cell? ⟨w.heap.size, 0, none⟩ = some (.slice (some ⟨bf, of, none⟩) m cf) ∧ W.cell? ⟨g, i, none⟩ = some (.int .i64 (u : Nat)) ∧ W.cell? ⟨b3, o3 + u, none⟩ = some (.int .i64 (x : Nat))) (fun j => decide (1000 ≤ j)) (by kernel_rfl) (⟨Below.drew hB0, hup.out _ (Below.drew hB0)⟩) (fun hHeld => ?_)
                refine wpAnyT_take (i := 0) (oi := ?oivb0) (v := ?vvb0) ?hovb0 (by kernel_rfl) (by kernel_rfl) (by kernel_rfl) (by kernel_rfl) ?hqvb0 (Or.inl ⟨?hwvb0, ?hyvb0⟩) (by assumption) ?_
                case hovb0 => rfl
                case hwvb0 => rfl
                case hyvb0 => (intro w hSw; (try dsimp only at hSw); go_split_ands; go_simp; (try (with_reducible rfl)))
                case hqvb0 => exact fun _ _ _ h => h
                simp only [Act.put, List.getElem_toArray, List.getElem_cons_zero, List.setIfInBounds_toArray, List.set_cons_zero, List.set_cons_succ]
                refine wpAnyT_take (i := 1) (oi := ?oivb1) (v := ?vvb1) ?hovb1 (by kernel_rfl) (by kernel_rfl) (by kernel_rfl) (by kernel_rfl) ?hqvb1 (Or.inl ⟨?hwvb1, ?hyvb1⟩) (by assumption) ?_
                case hovb1 => rfl
                case hwvb1 => rfl
                case hyvb1 => (intro w hSw; (try dsimp only at hSw); go_split_ands; go_simp; (try (with_reducible rfl)))
                case hqvb1 => exact fun _ _ _ h => h
                simp only [Act.put, List.getElem_toArray, List.getElem_cons_succ, List.getElem_cons_zero, List.setIfInBounds_toArray, List.set_cons_zero, List.set_cons_succ]
                refine wpAnyT_take (i := 2) (oi := ?oivb2) (v := ?vvb2) ?hovb2 (by kernel_rfl) (by kernel_rfl) (by kernel_rfl) (by kernel_rfl) ?hqvb2 (Or.inl ⟨?hwvb2, ?hyvb2⟩) (by assumption) ?_
                case hovb2 => rfl
                case hwvb2 => rfl
                case hyvb2 => (intro w hSw; (try dsimp only at hSw); go_split_ands; go_simp; (try (with_reducible rfl)))
                case hqvb2 => exact fun _ _ _ h => h
                simp only [Act.put, List.getElem_toArray, List.getElem_cons_succ, List.getElem_cons_zero, List.setIfInBounds_toArray, List.set_cons_zero, List.set_cons_succ]
                refine wpAnyT_take (i := 3) (oi := ?oivb3) (v := ?vvb3) ?hovb3 (by kernel_rfl) (by kernel_rfl) (by kernel_rfl) (by kernel_rfl) ?hqvb3 (Or.inl ⟨?hwvb3, ?hyvb3⟩) (by assumption) ?_
                case hovb3 => rfl
                case hwvb3 => rfl
                case hyvb3 => (intro w hSw; (try dsimp only at hSw); go_split_ands; go_simp; (try (with_reducible rfl)))
                case hqvb3 => exact fun _ _ _ h => h
                simp only [Act.put, List.getElem_toArray, List.getElem_cons_succ, List.getElem_cons_zero, List.setIfInBounds_toArray, List.set_cons_zero, List.set_cons_succ]
                refine wpAnyT_take (i := 4) (oi := ?oivb4) (v := ?vvb4) ?hovb4 (by kernel_rfl) (by kernel_rfl) (by kernel_rfl) (by kernel_rfl) ?hqvb4 (Or.inl ⟨?hwvb4, ?hyvb4⟩) (by assumption) ?_
                case hovb4 => rfl
                case hwvb4 => rfl
                case hyvb4 => (intro w hSw; (try dsimp only at hSw); go_split_ands; go_simp; (try (with_reducible rfl)))
                case hqvb4 => exact fun _ _ _ h => h
                simp only [Act.put, List.getElem_toArray, List.getElem_cons_succ, List.getElem_cons_zero, List.setIfInBounds_toArray, List.set_cons_zero, List.set_cons_succ]
                refine wpAnyT_take (i := 5) (oi := ?oivb5) (v := ?vvb5) ?hovb5 (by kernel_rfl) (by kernel_rfl) (by kernel_rfl) (by kernel_rfl) ?hqvb5 (Or.inl ⟨?hwvb5, ?hyvb5⟩) (by assumption) ?_
                case hovb5 => rfl
                case hwvb5 => rfl
                case hyvb5 => (intro w hSw; (try dsimp only at hSw); go_split_ands; go_simp; (try (with_reducible rfl)))
                case hqvb5 => exact fun _ _ _ h => h
                simp only [Act.put, List.getElem_toArray, List.getElem_cons_succ, List.getElem_cons_zero, List.setIfInBounds_toArray, List.set_cons_zero, List.set_cons_succ]
                refine wpAnyT_take (i := 6) (oi := ?oivb6) (v := ?vvb6) ?hovb6 (by kernel_rfl) (by kernel_rfl) (by kernel_rfl) (by kernel_rfl) ?hqvb6 (Or.inl ⟨?hwvb6, ?hyvb6⟩) (by assumption) ?_
                case hovb6 => rfl
                case hwvb6 => rfl
                case hyvb6 => (intro w hSw; (try dsimp only at hSw); go_split_ands; go_simp; (try (with_reducible rfl)))
                case hqvb6 => exact fun _ _ _ h => h
                simp only [Act.put, List.getElem_toArray, List.getElem_cons_succ, List.getElem_cons_zero, List.setIfInBounds_toArray, List.set_cons_zero, List.set_cons_succ]
                refine wpAnyT_take (i := 7) (oi := ?oivb7) (v := ?vvb7) ?hovb7 (by kernel_rfl) (by kernel_rfl) (by kernel_rfl) (by kernel_rfl) ?hqvb7 (Or.inl ⟨?hwvb7, ?hyvb7⟩) (by assumption) ?_
                case hovb7 => rfl
                case hwvb7 => rfl
                case hyvb7 => (intro w hSw; (try dsimp only at hSw); go_split_ands; go_simp; (try (with_reducible rfl)))
                case hqvb7 => exact fun _ _ _ h => h
                simp only [Act.put, List.getElem_toArray, List.getElem_cons_succ, List.getElem_cons_zero, List.setIfInBounds_toArray, List.set_cons_zero, List.set_cons_succ]
                refine wpAnyT_take (i := 8) (oi := ?oivb8) (v := ?vvb8) ?hovb8 (by kernel_rfl) (by kernel_rfl) (by kernel_rfl) (by kernel_rfl) ?hqvb8 (Or.inl ⟨?hwvb8, ?hyvb8⟩) (by assumption) ?_
                case hovb8 => rfl
                case hwvb8 => rfl
                case hyvb8 => (intro w hSw; (try dsimp only at hSw); go_split_ands; go_simp; (try (with_reducible rfl)))
                case hqvb8 => exact fun _ _ _ h => h
                simp only [Act.put, List.getElem_toArray, List.getElem_cons_succ, List.getElem_cons_zero, List.setIfInBounds_toArray, List.set_cons_zero, List.set_cons_succ]
                refine wpAnyT_take (i := 9) (oi := ?oivb9) (v := ?vvb9) ?hovb9 (by kernel_rfl) (by kernel_rfl) (by kernel_rfl) (by kernel_rfl) ?hqvb9 (Or.inl ⟨?hwvb9, ?hyvb9⟩) (by assumption) ?_
                case hovb9 => rfl
                case hwvb9 => rfl
                case hyvb9 => (intro w hSw; (try dsimp only at hSw); go_split_ands; go_simp; (try (with_reducible rfl)))
                case hqvb9 => exact fun _ _ _ h => h
                simp only [Act.put, List.getElem_toArray, List.getElem_cons_succ, List.getElem_cons_zero, List.setIfInBounds_toArray, List.set_cons_zero, List.set_cons_succ]
                refine wpAnyT_take (i := 10) (oi := ?oivb10) (v := ?vvb10) ?hovb10 (by kernel_rfl) (by kernel_rfl) (by kernel_rfl) (by kernel_rfl) ?hqvb10 (Or.inl ⟨?hwvb10, ?hyvb10⟩) (by assumption) ?_
                case hovb10 => rfl
                case hwvb10 => rfl
                case hyvb10 => (intro w hSw; (try dsimp only at hSw); go_split_ands; go_simp; (try (with_reducible rfl)))
                case hqvb10 => exact fun _ _ _ h => h
                simp only [Act.put, List.getElem_toArray, List.getElem_cons_succ, List.getElem_cons_zero, List.setIfInBounds_toArray, List.set_cons_zero, List.set_cons_succ]
                refine wpAnyT_take (i := 11) (oi := ?oivb11) (v := ?vvb11) ?hovb11 (by kernel_rfl) (by kernel_rfl) (by kernel_rfl) (by kernel_rfl) ?hqvb11 (Or.inl ⟨?hwvb11, ?hyvb11⟩) (by assumption) ?_
                case hovb11 => rfl
                case hwvb11 => rfl
                case hyvb11 => (intro w hSw; (try dsimp only at hSw); go_split_ands; go_simp; (try (with_reducible rfl)))
                case hqvb11 => exact fun _ _ _ h => h
                simp only [Act.put, List.getElem_toArray, List.getElem_cons_succ, List.getElem_cons_zero, List.setIfInBounds_toArray, List.set_cons_zero, List.set_cons_succ]
                refine wpAnyT_take (i := 12) (oi := ?oivb12) (v := ?vvb12) ?hovb12 (by kernel_rfl) (by kernel_rfl) (by kernel_rfl) (by kernel_rfl) ?hqvb12 (Or.inl ⟨?hwvb12, ?hyvb12⟩) (by assumption) ?_
                case hovb12 => rfl
                case hwvb12 => rfl
                case hyvb12 => (intro w hSw; (try dsimp only at hSw); go_split_ands; go_simp; (try (with_reducible rfl)))
                case hqvb12 => exact fun _ _ _ h => h
                simp only [Act.put, List.getElem_toArray, List.getElem_cons_succ, List.getElem_cons_zero, List.setIfInBounds_toArray, List.set_cons_zero, List.set_cons_succ]
                refine wpAnyT_take (i := 13) (oi := ?oivb13) (v := ?vvb13) ?hovb13 (by kernel_rfl) (by kernel_rfl) (by kernel_rfl) (by kernel_rfl) ?hqvb13 (Or.inl ⟨?hwvb13, ?hyvb13⟩) (by assumption) ?_
                case hovb13 => rfl
                case hwvb13 => rfl
                case hyvb13 => (intro w hSw; (try dsimp only at hSw); go_split_ands; go_simp; (try (with_reducible rfl)))
                case hqvb13 => exact fun _ _ _ h => h
                simp only [Act.put, List.getElem_toArray, List.getElem_cons_succ, List.getElem_cons_zero, List.setIfInBounds_toArray, List.set_cons_zero, List.set_cons_succ]
                refine wpAnyT_take (i := 14) (oi := ?oivb14) (v := ?vvb14) ?hovb14 (by kernel_rfl) (by kernel_rfl) (by kernel_rfl) (by kernel_rfl) ?hqvb14 (Or.inl ⟨?hwvb14, ?hyvb14⟩) (by assumption) ?_
                case hovb14 => rfl
                case hwvb14 => rfl
                case hyvb14 => (intro w hSw; (try dsimp only at hSw); go_split_ands; go_simp; (try (with_reducible rfl)))
                case hqvb14 => exact fun _ _ _ h => h
                simp only [Act.put, List.getElem_toArray, List.getElem_cons_succ, List.getElem_cons_zero, List.setIfInBounds_toArray, List.set_cons_zero, List.set_cons_succ]
                refine wpAnyT_take (i := 15) (oi := ?oivb15) (v := ?vvb15) ?hovb15 (by kernel_rfl) (by kernel_rfl) (by kernel_rfl) (by kernel_rfl) ?hqvb15 (Or.inl ⟨?hwvb15, ?hyvb15⟩) (by assumption) ?_
                case hovb15 => rfl
                case hwvb15 => rfl
                case hyvb15 => (intro w hSw; (try dsimp only at hSw); go_split_ands; go_simp; (try (with_reducible rfl)))
                case hqvb15 => exact fun _ _ _ h => h
                simp only [Act.put, List.getElem_toArray, List.getElem_cons_succ, List.getElem_cons_zero, List.setIfInBounds_toArray, List.set_cons_zero, List.set_cons_succ]
                refine wpAnyT_take (i := 16) (oi := ?oivb16) (v := ?vvb16) ?hovb16 (by kernel_rfl) (by kernel_rfl) (by kernel_rfl) (by kernel_rfl) ?hqvb16 (Or.inl ⟨?hwvb16, ?hyvb16⟩) (by assumption) ?_
                case hovb16 => rfl
                case hwvb16 => rfl
                case hyvb16 => (intro w hSw; (try dsimp only at hSw); go_split_ands; go_simp; (try (with_reducible rfl)))
                case hqvb16 => exact fun _ _ _ h => h
                simp only [Act.put, List.getElem_toArray, List.getElem_cons_succ, List.getElem_cons_zero, List.setIfInBounds_toArray, List.set_cons_zero, List.set_cons_succ]
                refine wpAnyT_take (i := 17) (oi := ?oivb17) (v := ?vvb17) ?hovb17 (by kernel_rfl) (by kernel_rfl) (by kernel_rfl) (by kernel_rfl) ?hqvb17 (Or.inl ⟨?hwvb17, ?hyvb17⟩) (by assumption) ?_
                case hovb17 => rfl
                case hwvb17 => rfl
                case hyvb17 => (intro w hSw; (try dsimp only at hSw); go_split_ands; go_simp; (try (with_reducible rfl)))
                case hqvb17 => exact fun _ _ _ h => h
                simp only [Act.put, List.getElem_toArray, List.getElem_cons_succ, List.getElem_cons_zero, List.setIfInBounds_toArray, List.set_cons_zero, List.set_cons_succ]
                refine wpAnyT_take (i := 18) (oi := ?oivb18) (v := ?vvb18) ?hovb18 (by kernel_rfl) (by kernel_rfl) (by kernel_rfl) (by kernel_rfl) ?hqvb18 (Or.inl ⟨?hwvb18, ?hyvb18⟩) (by assumption) ?_
                case hovb18 => rfl
                case hwvb18 => rfl
                case hyvb18 => (intro w hSw; (try dsimp only at hSw); go_split_ands; go_simp; (try (with_reducible rfl)))
                case hqvb18 => exact fun _ _ _ h => h
                simp only [Act.put, List.getElem_toArray, List.getElem_cons_succ, List.getElem_cons_zero, List.setIfInBounds_toArray, List.set_cons_zero, List.set_cons_succ]
                refine wpAnyT_take (i := 19) (oi := ?oivb19) (v := ?vvb19) ?hovb19 (by kernel_rfl) (by kernel_rfl) (by kernel_rfl) (by kernel_rfl) ?hqvb19 (Or.inl ⟨?hwvb19, ?hyvb19⟩) (by assumption) ?_
                case hovb19 => rfl
                case hwvb19 => rfl
                case hyvb19 => (intro w hSw; (try dsimp only at hSw); go_split_ands; go_simp; (try (with_reducible rfl)))
                case hqvb19 => exact fun _ _ _ h => h
                simp only [Act.put, List.getElem_toArray, List.getElem_cons_succ, List.getElem_cons_zero, List.setIfInBounds_toArray, List.set_cons_zero, List.set_cons_succ]
                refine wpAnyT_take (i := 20) (oi := ?oivb20) (v := ?vvb20) ?hovb20 (by kernel_rfl) (by kernel_rfl) (by kernel_rfl) (by kernel_rfl) ?hqvb20 (Or.inl ⟨?hwvb20, ?hyvb20⟩) (by assumption) ?_
                case hovb20 => rfl
                case hwvb20 => rfl
                case hyvb20 => (intro w hSw; (try dsimp only at hSw); go_split_ands; go_simp; (try (with_reducible rfl)))
                case hqvb20 => exact fun _ _ _ h => h
                simp only [Act.put, List.getElem_toArray, List.getElem_cons_succ, List.getElem_cons_zero, List.setIfInBounds_toArray, List.set_cons_zero, List.set_cons_succ]
                refine wpAnyT_take (i := 21) (oi := ?oivb21) (v := ?vvb21) ?hovb21 (by kernel_rfl) (by kernel_rfl) (by kernel_rfl) (by kernel_rfl) ?hqvb21 (Or.inl ⟨?hwvb21, ?hyvb21⟩) (by assumption) ?_
                case hovb21 => rfl
                case hwvb21 => rfl
                case hyvb21 => (intro w hSw; (try dsimp only at hSw); go_split_ands; go_simp; (try (with_reducible rfl)))
                case hqvb21 => exact fun _ _ _ h => h
                simp only [Act.put, List.getElem_toArray, List.getElem_cons_succ, List.getElem_cons_zero, List.setIfInBounds_toArray, List.set_cons_zero, List.set_cons_succ]
                refine wpAnyT_one (i := 22) (o := ?oivb22) (by kernel_rfl) ?hovb22 (fun K hK => ?_)
                case hovb22 => rfl
                rw [if_pos (by rfl)]
                go_simp
                go_at_call 22; (with_reducible refine (withP_ex (some ⟨g, 0, none⟩) m m us i _ (hIuH.out.below hHeld.1) hulH.out hm him hub.out).mono ?_); rintro e w4 ⟨gw, rfl, hZ4, hb4⟩; have hZ4H := Lib.hid hZ4.iz; have hq4 : Below wr.heap.size wr w4 := bseqJ hHeld.1 hb4; clear hZ4
                (try go_wp2_with (fail))
                refine hK.out _ _ (fun _ => ⟨hq4, hup.out _ hq4⟩) (fun hHeld => ?_)
                replace hHeld := hHeld rfl
                clear hK K
                refine wpAnyT_one (i := 23) (o := ?oivb23) (by kernel_rfl) ?hovb23 (fun K hK => ?_)
                case hovb23 => rfl
                rw [if_pos (by rfl)]
                go_simp
                go_at_call 21; (with_reducible refine (possP_any (some ⟨bf, of, none⟩) (some ⟨gw, 0, none⟩) cf m m fl (addU us i) true _ (hIfH.out.below hHeld.1) hZ4H.out hflH.out hul2.out hm hfbH.out hpoB.out).mono ?_); rintro e w5 ⟨rfl, hb5⟩; have hbw3 : Below wr.heap.size wr w5 := bseqJ hq4 hb5
                (try go_wp2_with (fail))
                refine hK.out _ _ (fun _ => ⟨hbw3, hup.out _ hbw3⟩) (fun hHeld => ?_)
                replace hHeld := hHeld rfl
                clear hK K
                refine wpAnyT_take (i := 24) (oi := ?oivb24) (v := ?vvb24) ?hovb24 (by kernel_rfl) (by kernel_rfl) (by kernel_rfl) (by kernel_rfl) ?hqvb24 (Or.inl ⟨?hwvb24, ?hyvb24⟩) (by assumption) ?_
                case hovb24 => rfl
                case hwvb24 => rfl
                case hyvb24 => (intro w hSw; (try dsimp only at hSw); go_split_ands; go_simp; (try (with_reducible rfl)))
                case hqvb24 => exact fun _ _ _ h => h
                simp only [Act.put, List.getElem_toArray, List.getElem_cons_succ, List.getElem_cons_zero, List.setIfInBounds_toArray, List.set_cons_zero, List.set_cons_succ]
                refine wpAnyT_take (i := 25) (oi := ?oivb25) (v := ?vvb25) ?hovb25 (by kernel_rfl) (by kernel_rfl) (by kernel_rfl) (by kernel_rfl) ?hqvb25 (Or.inl ⟨?hwvb25, ?hyvb25⟩) (by assumption) ?_
                case hovb25 => rfl
                case hwvb25 => rfl
                case hyvb25 => (intro w hSw; (try dsimp only at hSw); go_split_ands; go_simp; (try (with_reducible rfl)))
                case hqvb25 => exact fun _ _ _ h => h
                simp only [Act.put, List.getElem_toArray, List.getElem_cons_succ, List.getElem_cons_zero, List.setIfInBounds_toArray, List.set_cons_zero, List.set_cons_succ]
                refine wpAnyT_take (i := 26) (oi := ?oivb26) (v := ?vvb26) ?hovb26 (by kernel_rfl) (by kernel_rfl) (by kernel_rfl) (by kernel_rfl) ?hqvb26 (Or.inl ⟨?hwvb26, ?hyvb26⟩) (by assumption) ?_
                case hovb26 => rfl
                case hwvb26 => rfl
                case hyvb26 => (intro w hSw; (try dsimp only at hSw); go_split_ands; go_simp; (try (with_reducible rfl)))
                case hqvb26 => exact fun _ _ _ h => h
                simp only [Act.put, List.getElem_toArray, List.getElem_cons_succ, List.getElem_cons_zero, List.setIfInBounds_toArray, List.set_cons_zero, List.set_cons_succ]
                refine wpAnyT_take (i := 27) (oi := ?oivb27) (v := ?vvb27) ?hovb27 (by kernel_rfl) (by kernel_rfl) (by kernel_rfl) (by kernel_rfl) ?hqvb27 (Or.inl ⟨?hwvb27, ?hyvb27⟩) (by assumption) ?_
                case hovb27 => rfl
                case hwvb27 => rfl
                case hyvb27 => (intro w hSw; (try dsimp only at hSw); go_split_ands; go_simp; (try (with_reducible rfl)))
                case hqvb27 => exact fun _ _ _ h => h
                simp only [Act.put, List.getElem_toArray, List.getElem_cons_succ, List.getElem_cons_zero, List.setIfInBounds_toArray, List.set_cons_zero, List.set_cons_succ]
                refine wpAnyT_take (i := 28) (oi := ?oivb28) (v := ?vvb28) ?hovb28 (by kernel_rfl) (by kernel_rfl) (by kernel_rfl) (by kernel_rfl) ?hqvb28 (Or.inl ⟨?hwvb28, ?hyvb28⟩) (by assumption) ?_
                case hovb28 => rfl
                case hwvb28 => rfl
                case hyvb28 => (intro w hSw; (try dsimp only at hSw); go_split_ands; go_simp; (try (with_reducible rfl)))
                case hqvb28 => exact fun _ _ _ h => h
                simp only [Act.put, List.getElem_toArray, List.getElem_cons_succ, List.getElem_cons_zero, List.setIfInBounds_toArray, List.set_cons_zero, List.set_cons_succ]
                refine wpAnyT_take (i := 29) (oi := ?oivb29) (v := undef) ?hovb29 (by kernel_rfl) (by kernel_rfl) (by kernel_rfl) (by kernel_rfl) ?hqvb29 (Or.inr ⟨?hwvb29, rfl⟩) (by assumption) ?_
                case hovb29 => rfl
                case hwvb29 => rfl
                case hqvb29 => exact fun _ _ _ h => h
                simp only [Act.put, List.getElem_toArray, List.getElem_cons_succ, List.getElem_cons_zero, List.setIfInBounds_toArray, List.set_cons_zero, List.set_cons_succ]
                refine wpAnyT_take (i := 30) (oi := ?oivb30) (v := undef) ?hovb30 (by kernel_rfl) (by kernel_rfl) (by kernel_rfl) (by kernel_rfl) ?hqvb30 (Or.inr ⟨?hwvb30, rfl⟩) (by assumption) ?_
                case hovb30 => rfl
                case hwvb30 => rfl
                case hqvb30 => exact fun _ _ _ h => h
                simp only [Act.put, List.getElem_toArray, List.getElem_cons_succ, List.getElem_cons_zero, List.setIfInBounds_toArray, List.set_cons_zero, List.set_cons_succ]
                refine wpAnyT_take (i := 31) (oi := ?oivb31) (v := undef) ?hovb31 (by kernel_rfl) (by kernel_rfl) (by kernel_rfl) (by kernel_rfl) ?hqvb31 (Or.inr ⟨?hwvb31, rfl⟩) (by assumption) ?_
                case hovb31 => rfl
                case hwvb31 => rfl
                case hqvb31 => exact fun _ _ _ h => h
                simp only [Act.put, List.getElem_toArray, List.getElem_cons_succ, List.getElem_cons_zero, List.setIfInBounds_toArray, List.set_cons_zero, List.set_cons_succ]
                refine wpAnyT_take (i := 32) (oi := ?oivb32) (v := undef) ?hovb32 (by kernel_rfl) (by kernel_rfl) (by kernel_rfl) (by kernel_rfl) ?hqvb32 (Or.inr ⟨?hwvb32, rfl⟩) (by assumption) ?_
                case hovb32 => rfl
                case hwvb32 => rfl
                case hqvb32 => exact fun _ _ _ h => h
                simp only [Act.put, List.getElem_toArray, List.getElem_cons_succ, List.getElem_cons_zero, List.setIfInBounds_toArray, List.set_cons_zero, List.set_cons_succ]
                refine wpAnyT_take (i := 33) (oi := ?oivb33) (v := undef) ?hovb33 (by kernel_rfl) (by kernel_rfl) (by kernel_rfl) (by kernel_rfl) ?hqvb33 (Or.inr ⟨?hwvb33, rfl⟩) (by assumption) ?_
                case hovb33 => rfl
                case hwvb33 => rfl
                case hqvb33 => exact fun _ _ _ h => h
                simp only [Act.put, List.getElem_toArray, List.getElem_cons_succ, List.getElem_cons_zero, List.setIfInBounds_toArray, List.set_cons_zero, List.set_cons_succ]
                refine wpAnyT_take (i := 34) (oi := ?oivb34) (v := undef) ?hovb34 (by kernel_rfl) (by kernel_rfl) (by kernel_rfl) (by kernel_rfl) ?hqvb34 (Or.inr ⟨?hwvb34, rfl⟩) (by assumption) ?_
                case hovb34 => rfl
                case hwvb34 => rfl
                case hqvb34 => exact fun _ _ _ h => h
                simp only [Act.put, List.getElem_toArray, List.getElem_cons_succ, List.getElem_cons_zero, List.setIfInBounds_toArray, List.set_cons_zero, List.set_cons_succ]
                refine wpAnyT_take (i := 35) (oi := ?oivb35) (v := undef) ?hovb35 (by kernel_rfl) (by kernel_rfl) (by kernel_rfl) (by kernel_rfl) ?hqvb35 (Or.inr ⟨?hwvb35, rfl⟩) (by assumption) ?_
                case hovb35 => rfl
                case hwvb35 => rfl
                case hqvb35 => exact fun _ _ _ h => h
                simp only [Act.put, List.getElem_toArray, List.getElem_cons_succ, List.getElem_cons_zero, List.setIfInBounds_toArray, List.set_cons_zero, List.set_cons_succ]
                refine wpAnyT_take (i := 36) (oi := ?oivb36) (v := undef) ?hovb36 (by kernel_rfl) (by kernel_rfl) (by kernel_rfl) (by kernel_rfl) ?hqvb36 (Or.inr ⟨?hwvb36, rfl⟩) (by assumption) ?_
                case hovb36 => rfl
                case hwvb36 => rfl
                case hqvb36 => exact fun _ _ _ h => h
                simp only [Act.put, List.getElem_toArray, List.getElem_cons_succ, List.getElem_cons_zero, List.setIfInBounds_toArray, List.set_cons_zero, List.set_cons_succ]
                refine wpAnyT_take (i := 37) (oi := ?oivb37) (v := undef) ?hovb37 (by kernel_rfl) (by kernel_rfl) (by kernel_rfl) (by kernel_rfl) ?hqvb37 (Or.inr ⟨?hwvb37, rfl⟩) (by assumption) ?_
                case hovb37 => rfl
                case hwvb37 => rfl
                case hqvb37 => exact fun _ _ _ h => h
                simp only [Act.put, List.getElem_toArray, List.getElem_cons_succ, List.getElem_cons_zero, List.setIfInBounds_toArray, List.set_cons_zero, List.set_cons_succ]
                refine wpAnyT_take (i := 38) (oi := ?oivb38) (v := undef) ?hovb38 (by kernel_rfl) (by kernel_rfl) (by kernel_rfl) (by kernel_rfl) ?hqvb38 (Or.inr ⟨?hwvb38, rfl⟩) (by assumption) ?_
                case hovb38 => rfl
                case hwvb38 => rfl
                case hqvb38 => exact fun _ _ _ h => h
                simp only [Act.put, List.getElem_toArray, List.getElem_cons_succ, List.getElem_cons_zero, List.setIfInBounds_toArray, List.set_cons_zero, List.set_cons_succ]
                refine wpAnyT_take (i := 39) (oi := ?oivb39) (v := undef) ?hovb39 (by kernel_rfl) (by kernel_rfl) (by kernel_rfl) (by kernel_rfl) ?hqvb39 (Or.inr ⟨?hwvb39, rfl⟩) (by assumption) ?_
                case hovb39 => rfl
                case hwvb39 => rfl
                case hqvb39 => exact fun _ _ _ h => h
                simp only [Act.put, List.getElem_toArray, List.getElem_cons_succ, List.getElem_cons_zero, List.setIfInBounds_toArray, List.set_cons_zero, List.set_cons_succ]
                refine wpAnyT_take (i := 40) (oi := ?oivb40) (v := undef) ?hovb40 (by kernel_rfl) (by kernel_rfl) (by kernel_rfl) (by kernel_rfl) ?hqvb40 (Or.inr ⟨?hwvb40, rfl⟩) (by assumption) ?_
                case hovb40 => rfl
                case hwvb40 => rfl
                case hqvb40 => exact fun _ _ _ h => h
                simp only [Act.put, List.getElem_toArray, List.getElem_cons_succ, List.getElem_cons_zero, List.setIfInBounds_toArray, List.set_cons_zero, List.set_cons_succ]
                refine wpAnyT_take (i := 41) (oi := ?oivb41) (v := undef) ?hovb41 (by kernel_rfl) (by kernel_rfl) (by kernel_rfl) (by kernel_rfl) ?hqvb41 (Or.inr ⟨?hwvb41, rfl⟩) (by assumption) ?_
                case hovb41 => rfl
                case hwvb41 => rfl
                case hqvb41 => exact fun _ _ _ h => h
                simp only [Act.put, List.getElem_toArray, List.getElem_cons_succ, List.getElem_cons_zero, List.setIfInBounds_toArray, List.set_cons_zero, List.set_cons_succ]
                refine wpAnyT_take (i := 42) (oi := ?oivb42) (v := undef) ?hovb42 (by kernel_rfl) (by kernel_rfl) (by kernel_rfl) (by kernel_rfl) ?hqvb42 (Or.inr ⟨?hwvb42, rfl⟩) (by assumption) ?_
                case hovb42 => rfl
                case hwvb42 => rfl
                case hqvb42 => exact fun _ _ _ h => h
                simp only [Act.put, List.getElem_toArray, List.getElem_cons_succ, List.getElem_cons_zero, List.setIfInBounds_toArray, List.set_cons_zero, List.set_cons_succ]
                refine wpAnyT_take (i := 43) (oi := ?oivb43) (v := undef) ?hovb43 (by kernel_rfl) (by kernel_rfl) (by kernel_rfl) (by kernel_rfl) ?hqvb43 (Or.inr ⟨?hwvb43, rfl⟩) (by assumption) ?_
                case hovb43 => rfl
                case hwvb43 => rfl
                case hqvb43 => exact fun _ _ _ h => h
                simp only [Act.put, List.getElem_toArray, List.getElem_cons_succ, List.getElem_cons_zero, List.setIfInBounds_toArray, List.set_cons_zero, List.set_cons_succ]
                refine wpAnyT_take (i := 44) (oi := ?oivb44) (v := undef) ?hovb44 (by kernel_rfl) (by kernel_rfl) (by kernel_rfl) (by kernel_rfl) ?hqvb44 (Or.inr ⟨?hwvb44, rfl⟩) (by assumption) ?_
                case hovb44 => rfl
                case hwvb44 => rfl
                case hqvb44 => exact fun _ _ _ h => h
                simp only [Act.put, List.getElem_toArray, List.getElem_cons_succ, List.getElem_cons_zero, List.setIfInBounds_toArray, List.set_cons_zero, List.set_cons_succ]
                refine wpAnyT_take (i := 45) (oi := ?oivb45) (v := undef) ?hovb45 (by kernel_rfl) (by kernel_rfl) (by kernel_rfl) (by kernel_rfl) ?hqvb45 (Or.inr ⟨?hwvb45, rfl⟩) (by assumption) ?_
                case hovb45 => rfl
                case hwvb45 => rfl
                case hqvb45 => exact fun _ _ _ h => h
                simp only [Act.put, List.getElem_toArray, List.getElem_cons_succ, List.getElem_cons_zero, List.setIfInBounds_toArray, List.set_cons_zero, List.set_cons_succ]
                refine wpAnyT_take (i := 46) (oi := ?oivb46) (v := undef) ?hovb46 (by kernel_rfl) (by kernel_rfl) (by kernel_rfl) (by kernel_rfl) ?hqvb46 (Or.inr ⟨?hwvb46, rfl⟩) (by assumption) ?_
                case hovb46 => rfl
                case hwvb46 => rfl
                case hqvb46 => exact fun _ _ _ h => h
                simp only [Act.put, List.getElem_toArray, List.getElem_cons_succ, List.getElem_cons_zero, List.setIfInBounds_toArray, List.set_cons_zero, List.set_cons_succ]
                refine wpAnyT_take (i := 47) (oi := ?oivb47) (v := undef) ?hovb47 (by kernel_rfl) (by kernel_rfl) (by kernel_rfl) (by kernel_rfl) ?hqvb47 (Or.inr ⟨?hwvb47, rfl⟩) (by assumption) ?_
                case hovb47 => rfl
                case hwvb47 => rfl
                case hqvb47 => exact fun _ _ _ h => h
                simp only [Act.put, List.getElem_toArray, List.getElem_cons_succ, List.getElem_cons_zero, List.setIfInBounds_toArray, List.set_cons_zero, List.set_cons_succ]
                refine wpAnyT_take (i := 48) (oi := ?oivb48) (v := ?vvb48) ?hovb48 (by kernel_rfl) (by kernel_rfl) (by kernel_rfl) (by kernel_rfl) ?hqvb48 (Or.inl ⟨?hwvb48, ?hyvb48⟩) (by assumption) ?_
                case hovb48 => rfl
                case hwvb48 => rfl
                case hyvb48 => (intro w hSw; (try dsimp only at hSw); go_split_ands; go_simp; (try (with_reducible rfl)))
                case hqvb48 => exact fun _ _ _ h => h
                simp only [Act.put, List.getElem_toArray, List.getElem_cons_succ, List.getElem_cons_zero, List.setIfInBounds_toArray, List.set_cons_zero, List.set_cons_succ]
                refine wpAnyT_take (i := 49) (oi := ?oivb49) (v := ?vvb49) ?hovb49 (by kernel_rfl) (by kernel_rfl) (by kernel_rfl) (by kernel_rfl) ?hqvb49 (Or.inl ⟨?hwvb49, ?hyvb49⟩) (by assumption) ?_
                case hovb49 => rfl
                case hwvb49 => rfl
                case hyvb49 => (intro w hSw; (try dsimp only at hSw); go_split_ands; go_simp; (try (with_reducible rfl)))
                case hqvb49 => exact fun _ _ _ h => h
                simp only [Act.put, List.getElem_toArray, List.getElem_cons_succ, List.getElem_cons_zero, List.setIfInBounds_toArray, List.set_cons_zero, List.set_cons_succ]
                refine wpAnyT_done (by kernel_rfl) ?_ _
                -- tail end
                clear hHeld
                all_goals (
                  go_wp2_with (fail)
                  go_roundg g3
                  case measure => omega
                  case rel => exact ⟨i + 1, (i : Nat), rfl, by go_num, by omega, .first hnoneH.out hcan.out, bseqJ hbxH.out hbw3⟩)
              · have hcpH := Lib.hid hcp
                have hmaxH := Lib.hid hmax
                have hpm : p < m := by omega
                obtain ⟨b6, o6, a4, cp, e0, c5, hcp4, hI4⟩ := (hg1H.out.below hbxH.out).rowN (k := p) (by rw [hglH.out]; exact hpm)
                injection e0 with e0
                injection e0 with e1 e2
                subst e1 e2
                obtain ⟨b6, o6, e0, c6⟩ := hIuH.out p _ (nz_fn (by rw [hulH.out]; exact hpm))
                injection e0 with e0
                injection e0 with e1 e2
                subst e1 e2
                rw [Nat.zero_add] at c6
                obtain ⟨b4, o4, rfl, c7⟩ := hI4 (fnN us p) _ (nz_get hcp.2.1)
                have hlp := (List.getElem?_eq_some_iff.1 hcp.2.1).1
                obtain ⟨up, hup⟩ : ∃ up, fnN us p = up := ⟨_, rfl⟩
                obtain ⟨np, hnp⟩ : ∃ np, (fnG gs p).length = np := ⟨_, rfl⟩
                rw [hup, hnp] at hlp
                rw [hnp] at c5 hcp4
                rw [hup] at c6 c7
                have hp0 : (0 : Int) ≤ (p : Int) := by omega
                have hpI : (p : Int) < (m : Int) := by omega
                have hup0 : (0 : Int) ≤ (up : Int) := by omega
                have hupI : (up : Int) < (np : Int) := by omega
                have d3 : decide ((p : Int) < 0) = false := by simp
                clear hcp hmax hI4 hup hnp
                by_cases hzx : z ≤ x
                · have d4 : decide ((z : Int) ≤ (x : Int)) = true := by simp; omega
                  go_wp2_with (fail)
                  have hB0 : Below wr.heap.size wr wr := Below.refl _ _
                  have hup : Hid (∀ W, Below wr.heap.size wr W → W.cell? ⟨w.heap.size, 0, none⟩ = some (.slice (some ⟨bf, of, none⟩) m cf) ∧ W.cell? ⟨g, i, none⟩ = some (.int .i64 (u : Nat)) ∧ W.cell? ⟨b3, o3 + u, none⟩ = some (.int .i64 (x : Nat)) ∧ W.cell? ⟨w.heap.size, 1, none⟩ = some (.slice (some ⟨b1, o1, none⟩) m cg) ∧ W.cell? ⟨b1, o1 + p, none⟩ = some (.slice (some ⟨b4, o4, none⟩) np cp) ∧ W.cell? ⟨g, p, none⟩ = some (.int .i64 (up : Nat)) ∧ W.cell? ⟨b4, o4 + up, none⟩ = some (.int .i64 (z : Nat))) := fun W hbW => ⟨Below.cellAt hbW (Nat.le_refl _) c0, Below.cellAt hbW (Nat.le_refl _) c3, Below.cellAt hbW (Nat.le_refl _) c4, Below.cellAt hbW (Nat.le_refl _) c1, Below.cellAt hbW (Nat.le_refl _) c5, Below.cellAt hbW (Nat.le_refl _) c6, Below.cellAt hbW (Nat.le_refl _) c7⟩
                  clear c2
                  -- tail S: fun W => Below wr.heap.size wr W ∧ W.cell? ⟨w.heap.size, 0, none⟩ = some (.slice (some ⟨bf, of, none⟩) m cf) ∧ W.cell? ⟨g, i, none⟩ = some (.int .i64 (u : Nat)) ∧ W.cell? ⟨b3, o3 + u, none⟩ = some (.int .i64 (x : Nat)) ∧ W.cell? ⟨w.heap.size, 1, none⟩ = some (.slice (some ⟨b1, o1, none⟩) m cg) ∧ W.cell? ⟨b1, o1 + p, none⟩ = some (.slice (some ⟨b4, o4, none⟩) np cp) ∧ W.cell? ⟨g, p, none⟩ = some (.int .i64 (up : Nat)) ∧ W.cell? ⟨b4, o4 + up, none⟩ = some (.int .i64 (z : Nat))
                  -- tail s0: ⟨Below.drew hB0, hup.out _ (Below.drew hB0)⟩
                  -- arm 22: go_at_call 22; (with_reducible refine (withP_ex (some ⟨g, 0, none⟩) m m us i _ (hIuH.out.below hHeld.1) hulH.out hm him hub.out).mono ?_); rintro e w4 ⟨gw, rfl, hZ4, hb4⟩; have hZ4H := Lib.hid hZ4.iz; have hq4 : Below wr.heap.size wr w4 := bseqJ hHeld.1 hb4; clear hZ4
                  -- arm 22 s: ⟨hq4, hup.out _ hq4⟩
                  -- arm 23: go_at_call 21; (with_reducible refine (possP_any (some ⟨bf, of, none⟩) (some ⟨gw, 0, none⟩) cf m m fl (addU us i) true _ (hIfH.out.below hHeld.1) hZ4H.out hflH.out hul2.out hm hfbH.out hpoB.out).mono ?_); rintro e w5 ⟨rfl, hb5⟩; have hbw3 : Below wr.heap.size wr w5 := bseqJ hq4 hb5
                  -- arm 23 s: ⟨hbw3, hup.out _ hbw3⟩
                  -- tail vc 0 1 2 3 4 5 6 7 8 9 10 11 12 13 14 15 16 17 18 19 20 21 c22 c23 24 25 26 27 28 29 30 31 32 33 34 35 36 37 38 39 40 41 42 43 44 45 46 47 48 49
                  refine wp_region_tail (fun W => Below wr.heap.size wr W ∧ W.cell? ⟨w.heap.size, 0, none⟩ = some (.slice (some ⟨bf, of, none⟩) m cf) ∧ W.cell? ⟨g, i, none⟩ = some (.int .i64 (u : Nat)) ∧ W.cell? ⟨b3, o3 + u, none⟩ = some (.int .i64 (x : Nat)) ∧ W.cell? ⟨w.heap.size, 1, none⟩ = some (.slice (some ⟨b1, o1, none⟩) m cg) ∧ W.cell? ⟨b1, o1 + p, none⟩ = some (.slice (some ⟨b4, o4, none⟩) np cp) ∧ W.cell? ⟨g, p, none⟩ = some (.int .i64 (up : Nat)) ∧ W.cell? ⟨b4, o4 + up, none⟩ = some (.int .i64 (z : Nat))) (fun j => decide (1000 ≤ j)) (by kernel_rfl) (⟨Below.drew hB0, hup.out _ (Below.drew hB0)⟩) (fun hHeld => ?_)
                  refine wpAnyT_take (i := 0) (oi := ?oivc0) (v := ?vvc0) ?hovc0 (by kernel_rfl) (by kernel_rfl) (by kernel_rfl) (by kernel_rfl) ?hqvc0 (Or.inl ⟨?hwvc0, ?hyvc0⟩) (by assumption) ?_
                  case hovc0 => rfl
                  case hwvc0 => rfl
                  case hyvc0 => (intro w hSw; (try dsimp only at hSw); go_split_ands; go_simp; (try (with_reducible rfl)))
                  case hqvc0 => exact fun _ _ _ h => h
                  simp only [Act.put, List.getElem_toArray, List.getElem_cons_zero, List.setIfInBounds_toArray, List.set_cons_zero, List.set_cons_succ]
                  refine wpAnyT_take (i := 1) (oi := ?oivc1) (v := ?vvc1) ?hovc1 (by kernel_rfl) (by kernel_rfl) (by kernel_rfl) (by kernel_rfl) ?hqvc1 (Or.inl ⟨?hwvc1, ?hyvc1⟩) (by assumption) ?_
                  case hovc1 => rfl
                  case hwvc1 => rfl
                  case hyvc1 => (intro w hSw; (try dsimp only at hSw); go_split_ands; go_simp; (try (with_reducible rfl)))
                  case hqvc1 => exact fun _ _ _ h => h
                  simp only [Act.put, List.getElem_toArray, List.getElem_cons_succ, List.getElem_cons_zero, List.setIfInBounds_toArray, List.set_cons_zero, List.set_cons_succ]
                  refine wpAnyT_take (i := 2) (oi := ?oivc2) (v := ?vvc2) ?hovc2 (by kernel_rfl) (by kernel_rfl) (by kernel_rfl) (by kernel_rfl) ?hqvc2 (Or.inl ⟨?hwvc2, ?hyvc2⟩) (by assumption) ?_
                  case hovc2 => rfl
                  case hwvc2 => rfl
                  case hyvc2 => (intro w hSw; (try dsimp only at hSw); go_split_ands; go_simp; (try (with_reducible rfl)))
                  case hqvc2 => exact fun _ _ _ h => h
                  simp only [Act.put, List.getElem_toArray, List.getElem_cons_succ, List.getElem_cons_zero, List.setIfInBounds_toArray, List.set_cons_zero, List.set_cons_succ]
                  refine wpAnyT_take (i := 3) (oi := ?oivc3) (v := ?vvc3) ?hovc3 (by kernel_rfl) (by kernel_rfl) (by kernel_rfl) (by kernel_rfl) ?hqvc3 (Or.inl ⟨?hwvc3, ?hyvc3⟩) (by assumption) ?_
                  case hovc3 => rfl
                  case hwvc3 => rfl
                  case hyvc3 => (intro w hSw; (try dsimp only at hSw); go_split_ands; go_simp; (try (with_reducible rfl)))
                  case hqvc3 => exact fun _ _ _ h => h
                  simp only [Act.put, List.getElem_toArray, List.getElem_cons_succ, List.getElem_cons_zero, List.setIfInBounds_toArray, List.set_cons_zero, List.set_cons_succ]
                  refine wpAnyT_take (i := 4) (oi := ?oivc4) (v := ?vvc4) ?hovc4 (by kernel_rfl) (by kernel_rfl) (by kernel_rfl) (by kernel_rfl) ?hqvc4 (Or.inl ⟨?hwvc4, ?hyvc4⟩) (by assumption) ?_
                  case hovc4 => rfl
                  case hwvc4 => rfl
                  case hyvc4 => (intro w hSw; (try dsimp only at hSw); go_split_ands; go_simp; (try (with_reducible rfl)))
                  case hqvc4 => exact fun _ _ _ h => h
                  simp only [Act.put, List.getElem_toArray, List.getElem_cons_succ, List.getElem_cons_zero, List.setIfInBounds_toArray, List.set_cons_zero, List.set_cons_succ]
                  refine wpAnyT_take (i := 5) (oi := ?oivc5) (v := ?vvc5) ?hovc5 (by kernel_rfl) (by kernel_rfl) (by kernel_rfl) (by kernel_rfl) ?hqvc5 (Or.inl ⟨?hwvc5, ?hyvc5⟩) (by assumption) ?_
                  case hovc5 => rfl
                  case hwvc5 => rfl
                  case hyvc5 => (intro w hSw; (try dsimp only at hSw); go_split_ands; go_simp; (try (with_reducible rfl)))
                  case hqvc5 => exact fun _ _ _ h => h
                  simp only [Act.put, List.getElem_toArray, List.getElem_cons_succ, List.getElem_cons_zero, List.setIfInBounds_toArray, List.set_cons_zero, List.set_cons_succ]
                  refine wpAnyT_take (i := 6) (oi := ?oivc6) (v := ?vvc6) ?hovc6 (by kernel_rfl) (by kernel_rfl) (by kernel_rfl) (by kernel_rfl) ?hqvc6 (Or.inl ⟨?hwvc6, ?hyvc6⟩) (by assumption) ?_
                  case hovc6 => rfl
                  case hwvc6 => rfl
                  case hyvc6 => (intro w hSw; (try dsimp only at hSw); go_split_ands; go_simp; (try (with_reducible rfl)))
                  case hqvc6 => exact fun _ _ _ h => h
                  simp only [Act.put, List.getElem_toArray, List.getElem_cons_succ, List.getElem_cons_zero, List.setIfInBounds_toArray, List.set_cons_zero, List.set_cons_succ]
                  refine wpAnyT_take (i := 7) (oi := ?oivc7) (v := ?vvc7) ?hovc7 (by kernel_rfl) (by kernel_rfl) (by kernel_rfl) (by kernel_rfl) ?hqvc7 (Or.inl ⟨?hwvc7, ?hyvc7⟩) (by assumption) ?_
                  case hovc7 => rfl
                  case hwvc7 => rfl
                  case hyvc7 => (intro w hSw; (try dsimp only at hSw); go_split_ands; go_simp; (try (with_reducible rfl)))
                  case hqvc7 => exact fun _ _ _ h => h
                  simp only [Act.put, List.getElem_toArray, List.getElem_cons_succ, List.getElem_cons_zero, List.setIfInBounds_toArray, List.set_cons_zero, List.set_cons_succ]
                  refine wpAnyT_take (i := 8) (oi := ?oivc8) (v := ?vvc8) ?hovc8 (by kernel_rfl) (by kernel_rfl) (by kernel_rfl) (by kernel_rfl) ?hqvc8 (Or.inl ⟨?hwvc8, ?hyvc8⟩) (by assumption) ?_
                  case hovc8 => rfl
                  case hwvc8 => rfl
                  case hyvc8 => (intro w hSw; (try dsimp only at hSw); go_split_ands; go_simp; (try (with_reducible rfl)))
                  case hqvc8 => exact fun _ _ _ h => h
                  simp only [Act.put, List.getElem_toArray, List.getElem_cons_succ, List.getElem_cons_zero, List.setIfInBounds_toArray, List.set_cons_zero, List.set_cons_succ]
                  refine wpAnyT_take (i := 9) (oi := ?oivc9) (v := ?vvc9) ?hovc9 (by kernel_rfl) (by kernel_rfl) (by kernel_rfl) (by kernel_rfl) ?hqvc9 (Or.inl ⟨?hwvc9, ?hyvc9⟩) (by assumption) ?_
                  case hovc9 => rfl
                  case hwvc9 => rfl
                  case hyvc9 => (intro w hSw; (try dsimp only at hSw); go_split_ands; go_simp; (try (with_reducible rfl)))
                  case hqvc9 => exact fun _ _ _ h => h
                  simp only [Act.put, List.getElem_toArray, List.getElem_cons_succ, List.getElem_cons_zero, List.setIfInBounds_toArray, List.set_cons_zero, List.set_cons_succ]
                  refine wpAnyT_take (i := 10) (oi := ?oivc10) (v := ?vvc10) ?hovc10 (by kernel_rfl) (by kernel_rfl) (by kernel_rfl) (by kernel_rfl) ?hqvc10 (Or.inl ⟨?hwvc10, ?hyvc10⟩) (by assumption) ?_
                  case hovc10 => rfl
                  case hwvc10 => rfl
                  case hyvc10 => (intro w hSw; (try dsimp only at hSw); go_split_ands; go_simp; (try (with_reducible rfl)))
                  case hqvc10 => exact fun _ _ _ h => h
                  simp only [Act.put, List.getElem_toArray, List.getElem_cons_succ, List.getElem_cons_zero, List.setIfInBounds_toArray, List.set_cons_zero, List.set_cons_succ]
                  refine wpAnyT_take (i := 11) (oi := ?oivc11) (v := ?vvc11) ?hovc11 (by kernel_rfl) (by kernel_rfl) (by kernel_rfl) (by kernel_rfl) ?hqvc11 (Or.inl ⟨?hwvc11, ?hyvc11⟩) (by assumption) ?_
                  case hovc11 => rfl
                  case hwvc11 => rfl
                  case hyvc11 => (intro w hSw; (try dsimp only at hSw); go_split_ands; go_simp; (try (with_reducible rfl)))
                  case hqvc11 => exact fun _ _ _ h => h
                  simp only [Act.put, List.getElem_toArray, List.getElem_cons_succ, List.getElem_cons_zero, List.setIfInBounds_toArray, List.set_cons_zero, List.set_cons_succ]
                  refine wpAnyT_take (i := 12) (oi := ?oivc12) (v := ?vvc12) ?hovc12 (by kernel_rfl) (by kernel_rfl) (by kernel_rfl) (by kernel_rfl) ?hqvc12 (Or.inl ⟨?hwvc12, ?hyvc12⟩) (by assumption) ?_
                  case hovc12 => rfl
                  case hwvc12 => rfl
                  case hyvc12 => (intro w hSw; (try dsimp only at hSw); go_split_ands; go_simp; (try (with_reducible rfl)))
                  case hqvc12 => exact fun _ _ _ h => h
                  simp only [Act.put, List.getElem_toArray, List.getElem_cons_succ, List.getElem_cons_zero, List.setIfInBounds_toArray, List.set_cons_zero, List.set_cons_succ]
                  refine wpAnyT_take (i := 13) (oi := ?oivc13) (v := ?vvc13) ?hovc13 (by kernel_rfl) (by kernel_rfl) (by kernel_rfl) (by kernel_rfl) ?hqvc13 (Or.inl ⟨?hwvc13, ?hyvc13⟩) (by assumption) ?_
                  case hovc13 => rfl
                  case hwvc13 => rfl
                  case hyvc13 => (intro w hSw; (try dsimp only at hSw); go_split_ands; go_simp; (try (with_reducible rfl)))
                  case hqvc13 => exact fun _ _ _ h => h
                  simp only [Act.put, List.getElem_toArray, List.getElem_cons_succ, List.getElem_cons_zero, List.setIfInBounds_toArray, List.set_cons_zero, List.set_cons_succ]
                  refine wpAnyT_take (i := 14) (oi := ?oivc14) (v := ?vvc14) ?hovc14 (by kernel_rfl) (by kernel_rfl) (by kernel_rfl) (by kernel_rfl) ?hqvc14 (Or.inl ⟨?hwvc14, ?hyvc14⟩) (by assumption) ?_
                  case hovc14 => rfl
                  case hwvc14 => rfl
                  case hyvc14 => (intro w hSw; (try dsimp only at hSw); go_split_ands; go_simp; (try (with_reducible rfl)))
                  case hqvc14 => exact fun _ _ _ h => h
                  simp only [Act.put, List.getElem_toArray, List.getElem_cons_succ, List.getElem_cons_zero, List.setIfInBounds_toArray, List.set_cons_zero, List.set_cons_succ]
                  refine wpAnyT_take (i := 15) (oi := ?oivc15) (v := ?vvc15) ?hovc15 (by kernel_rfl) (by kernel_rfl) (by kernel_rfl) (by kernel_rfl) ?hqvc15 (Or.inl ⟨?hwvc15, ?hyvc15⟩) (by assumption) ?_
                  case hovc15 => rfl
                  case hwvc15 => rfl
                  case hyvc15 => (intro w hSw; (try dsimp only at hSw); go_split_ands; go_simp; (try (with_reducible rfl)))
                  case hqvc15 => exact fun _ _ _ h => h
                  simp only [Act.put, List.getElem_toArray, List.getElem_cons_succ, List.getElem_cons_zero, List.setIfInBounds_toArray, List.set_cons_zero, List.set_cons_succ]
                  refine wpAnyT_take (i := 16) (oi := ?oivc16) (v := ?vvc16) ?hovc16 (by kernel_rfl) (by kernel_rfl) (by kernel_rfl) (by kernel_rfl) ?hqvc16 (Or.inl ⟨?hwvc16, ?hyvc16⟩) (by assumption) ?_
                  case hovc16 => rfl
                  case hwvc16 => rfl
                  case hyvc16 => (intro w hSw; (try dsimp only at hSw); go_split_ands; go_simp; (try (with_reducible rfl)))
                  case hqvc16 => exact fun _ _ _ h => h
                  simp only [Act.put, List.getElem_toArray, List.getElem_cons_succ, List.getElem_cons_zero, List.setIfInBounds_toArray, List.set_cons_zero, List.set_cons_succ]
                  refine wpAnyT_take (i := 17) (oi := ?oivc17) (v := ?vvc17) ?hovc17 (by kernel_rfl) (by kernel_rfl) (by kernel_rfl) (by kernel_rfl) ?hqvc17 (Or.inl ⟨?hwvc17, ?hyvc17⟩) (by assumption) ?_
                  case hovc17 => rfl
                  case hwvc17 => rfl
                  case hyvc17 => (intro w hSw; (try dsimp only at hSw); go_split_ands; go_simp; (try (with_reducible rfl)))
                  case hqvc17 => exact fun _ _ _ h => h
                  simp only [Act.put, List.getElem_toArray, List.getElem_cons_succ, List.getElem_cons_zero, List.setIfInBounds_toArray, List.set_cons_zero, List.set_cons_succ]
                  refine wpAnyT_take (i := 18) (oi := ?oivc18) (v := ?vvc18) ?hovc18 (by kernel_rfl) (by kernel_rfl) (by kernel_rfl) (by kernel_rfl) ?hqvc18 (Or.inl ⟨?hwvc18, ?hyvc18⟩) (by assumption) ?_
                  case hovc18 => rfl
                  case hwvc18 => rfl
                  case hyvc18 => (intro w hSw; (try dsimp only at hSw); go_split_ands; go_simp; (try (with_reducible rfl)))
                  case hqvc18 => exact fun _ _ _ h => h
                  simp only [Act.put, List.getElem_toArray, List.getElem_cons_succ, List.getElem_cons_zero, List.setIfInBounds_toArray, List.set_cons_zero, List.set_cons_succ]
                  refine wpAnyT_take (i := 19) (oi := ?oivc19) (v := ?vvc19) ?hovc19 (by kernel_rfl) (by kernel_rfl) (by kernel_rfl) (by kernel_rfl) ?hqvc19 (Or.inl ⟨?hwvc19, ?hyvc19⟩) (by assumption) ?_
                  case hovc19 => rfl
                  case hwvc19 => rfl
                  case hyvc19 => (intro w hSw; (try dsimp only at hSw); go_split_ands; go_simp; (try (with_reducible rfl)))
                  case hqvc19 => exact fun _ _ _ h => h
                  simp only [Act.put, List.getElem_toArray, List.getElem_cons_succ, List.getElem_cons_zero, List.setIfInBounds_toArray, List.set_cons_zero, List.set_cons_succ]
                  refine wpAnyT_take (i := 20) (oi := ?oivc20) (v := ?vvc20) ?hovc20 (by kernel_rfl) (by kernel_rfl) (by kernel_rfl) (by kernel_rfl) ?hqvc20 (Or.inl ⟨?hwvc20, ?hyvc20⟩) (by assumption) ?_
                  case hovc20 => rfl
                  case hwvc20 => rfl
                  case hyvc20 => (intro w hSw; (try dsimp only at hSw); go_split_ands; go_simp; (try (with_reducible rfl)))
                  case hqvc20 => exact fun _ _ _ h => h
                  simp only [Act.put, List.getElem_toArray, List.getElem_cons_succ, List.getElem_cons_zero, List.setIfInBounds_toArray, List.set_cons_zero, List.set_cons_succ]
                  refine wpAnyT_take (i := 21) (oi := ?oivc21) (v := ?vvc21) ?hovc21 (by kernel_rfl) (by kernel_rfl) (by kernel_rfl) (by kernel_rfl) ?hqvc21 (Or.inl ⟨?hwvc21, ?hyvc21⟩) (by assumption) ?_
                  case hovc21 => rfl
                  case hwvc21 => rfl
                  case hyvc21 => (intro w hSw; (try dsimp only at hSw); go_split_ands; go_simp; (try (with_reducible rfl)))
                  case hqvc21 => exact fun _ _ _ h => h
                  simp only [Act.put, List.getElem_toArray, List.getElem_cons_succ, List.getElem_cons_zero, List.setIfInBounds_toArray, List.set_cons_zero, List.set_cons_succ]
                  refine wpAnyT_one (i := 22) (o := ?oivc22) (by kernel_rfl) ?hovc22 (fun K hK => ?_)
                  case hovc22 => rfl
                  rw [if_pos (by rfl)]
                  go_simp
                  go_at_call 22; (with_reducible refine (withP_ex (some ⟨g, 0, none⟩) m m us i _ (hIuH.out.below hHeld.1) hulH.out hm him hub.out).mono ?_); rintro e w4 ⟨gw, rfl, hZ4, hb4⟩; have hZ4H := Lib.hid hZ4.iz; have hq4 : Below wr.heap.size wr w4 := bseqJ hHeld.1 hb4; clear hZ4
                  (try go_wp2_with (fail))
                  refine hK.out _ _ (fun _ => ⟨hq4, hup.out _ hq4⟩) (fun hHeld => ?_)
                  replace hHeld := hHeld rfl
                  clear hK K
                  refine wpAnyT_one (i := 23) (o := ?oivc23) (by kernel_rfl) ?hovc23 (fun K hK => ?_)
                  case hovc23 => rfl
                  rw [if_pos (by rfl)]
                  go_simp
                  go_at_call 21; (with_reducible refine (possP_any (some ⟨bf, of, none⟩) (some ⟨gw, 0, none⟩) cf m m fl (addU us i) true _ (hIfH.out.below hHeld.1) hZ4H.out hflH.out hul2.out hm hfbH.out hpoB.out).mono ?_); rintro e w5 ⟨rfl, hb5⟩; have hbw3 : Below wr.heap.size wr w5 := bseqJ hq4 hb5
                  (try go_wp2_with (fail))
                  refine hK.out _ _ (fun _ => ⟨hbw3, hup.out _ hbw3⟩) (fun hHeld => ?_)
                  replace hHeld := hHeld rfl
                  clear hK K
                  refine wpAnyT_take (i := 24) (oi := ?oivc24) (v := ?vvc24) ?hovc24 (by kernel_rfl) (by kernel_rfl) (by kernel_rfl) (by kernel_rfl) ?hqvc24 (Or.inl ⟨?hwvc24, ?hyvc24⟩) (by assumption) ?_
                  case hovc24 => rfl
                  case hwvc24 => rfl
                  case hyvc24 => (intro w hSw; (try dsimp only at hSw); go_split_ands; go_simp; (try (with_reducible rfl)))
                  case hqvc24 => exact fun _ _ _ h => h
                  simp only [Act.put, List.getElem_toArray, List.getElem_cons_succ, List.getElem_cons_zero, List.setIfInBounds_toArray, List.set_cons_zero, List.set_cons_succ]
                  refine wpAnyT_take (i := 25) (oi := ?oivc25) (v := ?vvc25) ?hovc25 (by kernel_rfl) (by kernel_rfl) (by kernel_rfl) (by kernel_rfl) ?hqvc25 (Or.inl ⟨?hwvc25, ?hyvc25⟩) (by assumption) ?_
                  case hovc25 => rfl
                  case hwvc25 => rfl
                  case hyvc25 => (intro w hSw; (try dsimp only at hSw); go_split_ands; go_simp; (try (with_reducible rfl)))
                  case hqvc25 => exact fun _ _ _ h => h
                  simp only [Act.put, List.getElem_toArray, List.getElem_cons_succ, List.getElem_cons_zero, List.setIfInBounds_toArray, List.set_cons_zero, List.set_cons_succ]
                  refine wpAnyT_take (i := 26) (oi := ?oivc26) (v := ?vvc26) ?hovc26 (by kernel_rfl) (by kernel_rfl) (by kernel_rfl) (by kernel_rfl) ?hqvc26 (Or.inl ⟨?hwvc26, ?hyvc26⟩) (by assumption) ?_
                  case hovc26 => rfl
                  case hwvc26 => rfl
                  case hyvc26 => (intro w hSw; (try dsimp only at hSw); go_split_ands; go_simp; (try (with_reducible rfl)))
                  case hqvc26 => exact fun _ _ _ h => h
                  simp only [Act.put, List.getElem_toArray, List.getElem_cons_succ, List.getElem_cons_zero, List.setIfInBounds_toArray, List.set_cons_zero, List.set_cons_succ]
                  refine wpAnyT_take (i := 27) (oi := ?oivc27) (v := ?vvc27) ?hovc27 (by kernel_rfl) (by kernel_rfl) (by kernel_rfl) (by kernel_rfl) ?hqvc27 (Or.inl ⟨?hwvc27, ?hyvc27⟩) (by assumption) ?_
                  case hovc27 => rfl
                  case hwvc27 => rfl
                  case hyvc27 => (intro w hSw; (try dsimp only at hSw); go_split_ands; go_simp; (try (with_reducible rfl)))
                  case hqvc27 => exact fun _ _ _ h => h
                  simp only [Act.put, List.getElem_toArray, List.getElem_cons_succ, List.getElem_cons_zero, List.setIfInBounds_toArray, List.set_cons_zero, List.set_cons_succ]
                  refine wpAnyT_take (i := 28) (oi := ?oivc28) (v := ?vvc28) ?hovc28 (by kernel_rfl) (by kernel_rfl) (by kernel_rfl) (by kernel_rfl) ?hqvc28 (Or.inl ⟨?hwvc28, ?hyvc28⟩) (by assumption) ?_
                  case hovc28 => rfl
                  case hwvc28 => rfl
                  case hyvc28 => (intro w hSw; (try dsimp only at hSw); go_split_ands; go_simp; (try (with_reducible rfl)))
                  case hqvc28 => exact fun _ _ _ h => h
                  simp only [Act.put, List.getElem_toArray, List.getElem_cons_succ, List.getElem_cons_zero, List.setIfInBounds_toArray, List.set_cons_zero, List.set_cons_succ]
                  refine wpAnyT_take (i := 29) (oi := ?oivc29) (v := ?vvc29) ?hovc29 (by kernel_rfl) (by kernel_rfl) (by kernel_rfl) (by kernel_rfl) ?hqvc29 (Or.inl ⟨?hwvc29, ?hyvc29⟩) (by assumption) ?_
                  case hovc29 => rfl
                  case hwvc29 => rfl
                  case hyvc29 => (intro w hSw; (try dsimp only at hSw); go_split_ands; go_simp; (try (with_reducible rfl)))
                  case hqvc29 => exact fun _ _ _ h => h
                  simp only [Act.put, List.getElem_toArray, List.getElem_cons_succ, List.getElem_cons_zero, List.setIfInBounds_toArray, List.set_cons_zero, List.set_cons_succ]
                  refine wpAnyT_take (i := 30) (oi := ?oivc30) (v := ?vvc30) ?hovc30 (by kernel_rfl) (by kernel_rfl) (by kernel_rfl) (by kernel_rfl) ?hqvc30 (Or.inl ⟨?hwvc30, ?hyvc30⟩) (by assumption) ?_
                  case hovc30 => rfl
                  case hwvc30 => rfl
                  case hyvc30 => (intro w hSw; (try dsimp only at hSw); go_split_ands; go_simp; (try (with_reducible rfl)))
                  case hqvc30 => exact fun _ _ _ h => h
                  simp only [Act.put, List.getElem_toArray, List.getElem_cons_succ, List.getElem_cons_zero, List.setIfInBounds_toArray, List.set_cons_zero, List.set_cons_succ]
                  refine wpAnyT_take (i := 31) (oi := ?oivc31) (v := ?vvc31) ?hovc31 (by kernel_rfl) (by kernel_rfl) (by kernel_rfl) (by kernel_rfl) ?hqvc31 (Or.inl ⟨?hwvc31, ?hyvc31⟩) (by assumption) ?_
                  case hovc31 => rfl
                  case hwvc31 => rfl
                  case hyvc31 => (intro w hSw; (try dsimp only at hSw); go_split_ands; go_simp; (try (with_reducible rfl)))
                  case hqvc31 => exact fun _ _ _ h => h
                  simp only [Act.put, List.getElem_toArray, List.getElem_cons_succ, List.getElem_cons_zero, List.setIfInBounds_toArray, List.set_cons_zero, List.set_cons_succ]
                  refine wpAnyT_take (i := 32) (oi := ?oivc32) (v := ?vvc32) ?hovc32 (by kernel_rfl) (by kernel_rfl) (by kernel_rfl) (by kernel_rfl) ?hqvc32 (Or.inl ⟨?hwvc32, ?hyvc32⟩) (by assumption) ?_
                  case hovc32 => rfl
                  case hwvc32 => rfl
                  case hyvc32 => (intro w hSw; (try dsimp only at hSw); go_split_ands; go_simp; (try (with_reducible rfl)))
                  case hqvc32 => exact fun _ _ _ h => h
                  simp only [Act.put, List.getElem_toArray, List.getElem_cons_succ, List.getElem_cons_zero, List.setIfInBounds_toArray, List.set_cons_zero, List.set_cons_succ]
                  refine wpAnyT_take (i := 33) (oi := ?oivc33) (v := ?vvc33) ?hovc33 (by kernel_rfl) (by kernel_rfl) (by kernel_rfl) (by kernel_rfl) ?hqvc33 (Or.inl ⟨?hwvc33, ?hyvc33⟩) (by assumption) ?_
                  case hovc33 => rfl
                  case hwvc33 => rfl
                  case hyvc33 => (intro w hSw; (try dsimp only at hSw); go_split_ands; go_simp; (try (with_reducible rfl)))
                  case hqvc33 => exact fun _ _ _ h => h
                  simp only [Act.put, List.getElem_toArray, List.getElem_cons_succ, List.getElem_cons_zero, List.setIfInBounds_toArray, List.set_cons_zero, List.set_cons_succ]
                  refine wpAnyT_take (i := 34) (oi := ?oivc34) (v := ?vvc34) ?hovc34 (by kernel_rfl) (by kernel_rfl) (by kernel_rfl) (by kernel_rfl) ?hqvc34 (Or.inl ⟨?hwvc34, ?hyvc34⟩) (by assumption) ?_
                  case hovc34 => rfl
                  case hwvc34 => rfl
                  case hyvc34 => (intro w hSw; (try dsimp only at hSw); go_split_ands; go_simp; (try (with_reducible rfl)))
                  case hqvc34 => exact fun _ _ _ h => h
                  simp only [Act.put, List.getElem_toArray, List.getElem_cons_succ, List.getElem_cons_zero, List.setIfInBounds_toArray, List.set_cons_zero, List.set_cons_succ]
                  refine wpAnyT_take (i := 35) (oi := ?oivc35) (v := ?vvc35) ?hovc35 (by kernel_rfl) (by kernel_rfl) (by kernel_rfl) (by kernel_rfl) ?hqvc35 (Or.inl ⟨?hwvc35, ?hyvc35⟩) (by assumption) ?_
                  case hovc35 => rfl
                  case hwvc35 => rfl
                  case hyvc35 => (intro w hSw; (try dsimp only at hSw); go_split_ands; go_simp; (try (with_reducible rfl)))
                  case hqvc35 => exact fun _ _ _ h => h
                  simp only [Act.put, List.getElem_toArray, List.getElem_cons_succ, List.getElem_cons_zero, List.setIfInBounds_toArray, List.set_cons_zero, List.set_cons_succ]
                  refine wpAnyT_take (i := 36) (oi := ?oivc36) (v := ?vvc36) ?hovc36 (by kernel_rfl) (by kernel_rfl) (by kernel_rfl) (by kernel_rfl) ?hqvc36 (Or.inl ⟨?hwvc36, ?hyvc36⟩) (by assumption) ?_
                  case hovc36 => rfl
                  case hwvc36 => rfl
                  case hyvc36 => (intro w hSw; (try dsimp only at hSw); go_split_ands; go_simp; (try (with_reducible rfl)))
                  case hqvc36 => exact fun _ _ _ h => h
                  simp only [Act.put, List.getElem_toArray, List.getElem_cons_succ, List.getElem_cons_zero, List.setIfInBounds_toArray, List.set_cons_zero, List.set_cons_succ]
                  refine wpAnyT_take (i := 37) (oi := ?oivc37) (v := ?vvc37) ?hovc37 (by kernel_rfl) (by kernel_rfl) (by kernel_rfl) (by kernel_rfl) ?hqvc37 (Or.inl ⟨?hwvc37, ?hyvc37⟩) (by assumption) ?_
                  case hovc37 => rfl
                  case hwvc37 => rfl
                  case hyvc37 => (intro w hSw; (try dsimp only at hSw); go_split_ands; go_simp; (try (with_reducible rfl)))
                  case hqvc37 => exact fun _ _ _ h => h
                  simp only [Act.put, List.getElem_toArray, List.getElem_cons_succ, List.getElem_cons_zero, List.setIfInBounds_toArray, List.set_cons_zero, List.set_cons_succ]
                  refine wpAnyT_take (i := 38) (oi := ?oivc38) (v := ?vvc38) ?hovc38 (by kernel_rfl) (by kernel_rfl) (by kernel_rfl) (by kernel_rfl) ?hqvc38 (Or.inl ⟨?hwvc38, ?hyvc38⟩) (by assumption) ?_
                  case hovc38 => rfl
                  case hwvc38 => rfl
                  case hyvc38 => (intro w hSw; (try dsimp only at hSw); go_split_ands; go_simp; (try (with_reducible rfl)))
                  case hqvc38 => exact fun _ _ _ h => h
                  simp only [Act.put, List.getElem_toArray, List.getElem_cons_succ, List.getElem_cons_zero, List.setIfInBounds_toArray, List.set_cons_zero, List.set_cons_succ]
                  refine wpAnyT_take (i := 39) (oi := ?oivc39) (v := ?vvc39) ?hovc39 (by kernel_rfl) (by kernel_rfl) (by kernel_rfl) (by kernel_rfl) ?hqvc39 (Or.inl ⟨?hwvc39, ?hyvc39⟩) (by assumption) ?_
                  case hovc39 => rfl
                  case hwvc39 => rfl
                  case hyvc39 => (intro w hSw; (try dsimp only at hSw); go_split_ands; go_simp; (try (with_reducible rfl)))
                  case hqvc39 => exact fun _ _ _ h => h
                  simp only [Act.put, List.getElem_toArray, List.getElem_cons_succ, List.getElem_cons_zero, List.setIfInBounds_toArray, List.set_cons_zero, List.set_cons_succ]
                  refine wpAnyT_take (i := 40) (oi := ?oivc40) (v := ?vvc40) ?hovc40 (by kernel_rfl) (by kernel_rfl) (by kernel_rfl) (by kernel_rfl) ?hqvc40 (Or.inl ⟨?hwvc40, ?hyvc40⟩) (by assumption) ?_
                  case hovc40 => rfl
                  case hwvc40 => rfl
                  case hyvc40 => (intro w hSw; (try dsimp only at hSw); go_split_ands; go_simp; (try (with_reducible rfl)))
                  case hqvc40 => exact fun _ _ _ h => h
                  simp only [Act.put, List.getElem_toArray, List.getElem_cons_succ, List.getElem_cons_zero, List.setIfInBounds_toArray, List.set_cons_zero, List.set_cons_succ]
                  refine wpAnyT_take (i := 41) (oi := ?oivc41) (v := ?vvc41) ?hovc41 (by kernel_rfl) (by kernel_rfl) (by kernel_rfl) (by kernel_rfl) ?hqvc41 (Or.inl ⟨?hwvc41, ?hyvc41⟩) (by assumption) ?_
                  case hovc41 => rfl
                  case hwvc41 => rfl
                  case hyvc41 => (intro w hSw; (try dsimp only at hSw); go_split_ands; go_simp; (try (with_reducible rfl)))
                  case hqvc41 => exact fun _ _ _ h => h
                  simp only [Act.put, List.getElem_toArray, List.getElem_cons_succ, List.getElem_cons_zero, List.setIfInBounds_toArray, List.set_cons_zero, List.set_cons_succ]
                  refine wpAnyT_take (i := 42) (oi := ?oivc42) (v := ?vvc42) ?hovc42 (by kernel_rfl) (by kernel_rfl) (by kernel_rfl) (by kernel_rfl) ?hqvc42 (Or.inl ⟨?hwvc42, ?hyvc42⟩) (by assumption) ?_
                  case hovc42 => rfl
                  case hwvc42 => rfl
                  case hyvc42 => (intro w hSw; (try dsimp only at hSw); go_split_ands; go_simp; (try (with_reducible rfl)))
                  case hqvc42 => exact fun _ _ _ h => h
                  simp only [Act.put, List.getElem_toArray, List.getElem_cons_succ, List.getElem_cons_zero, List.setIfInBounds_toArray, List.set_cons_zero, List.set_cons_succ]
                  refine wpAnyT_take (i := 43) (oi := ?oivc43) (v := ?vvc43) ?hovc43 (by kernel_rfl) (by kernel_rfl) (by kernel_rfl) (by kernel_rfl) ?hqvc43 (Or.inl ⟨?hwvc43, ?hyvc43⟩) (by assumption) ?_
                  case hovc43 => rfl
                  case hwvc43 => rfl
                  case hyvc43 => (intro w hSw; (try dsimp only at hSw); go_split_ands; go_simp; (try (with_reducible rfl)))
                  case hqvc43 => exact fun _ _ _ h => h
                  simp only [Act.put, List.getElem_toArray, List.getElem_cons_succ, List.getElem_cons_zero, List.setIfInBounds_toArray, List.set_cons_zero, List.set_cons_succ]
                  refine wpAnyT_take (i := 44) (oi := ?oivc44) (v := ?vvc44) ?hovc44 (by kernel_rfl) (by kernel_rfl) (by kernel_rfl) (by kernel_rfl) ?hqvc44 (Or.inl ⟨?hwvc44, ?hyvc44⟩) (by assumption) ?_
                  case hovc44 => rfl
                  case hwvc44 => rfl
                  case hyvc44 => (intro w hSw; (try dsimp only at hSw); go_split_ands; go_simp; (try (with_reducible rfl)))
                  case hqvc44 => exact fun _ _ _ h => h
                  simp only [Act.put, List.getElem_toArray, List.getElem_cons_succ, List.getElem_cons_zero, List.setIfInBounds_toArray, List.set_cons_zero, List.set_cons_succ]
                  refine wpAnyT_take (i := 45) (oi := ?oivc45) (v := ?vvc45) ?hovc45 (by kernel_rfl) (by kernel_rfl) (by kernel_rfl) (by kernel_rfl) ?hqvc45 (Or.inl ⟨?hwvc45, ?hyvc45⟩) (by assumption) ?_
                  case hovc45 => rfl
                  case hwvc45 => rfl
                  case hyvc45 => (intro w hSw; (try dsimp only at hSw); go_split_ands; go_simp; (try (with_reducible rfl)))
                  case hqvc45 => exact fun _ _ _ h => h
                  simp only [Act.put, List.getElem_toArray, List.getElem_cons_succ, List.getElem_cons_zero, List.setIfInBounds_toArray, List.set_cons_zero, List.set_cons_succ]
                  refine wpAnyT_take (i := 46) (oi := ?oivc46) (v := ?vvc46) ?hovc46 (by kernel_rfl) (by kernel_rfl) (by kernel_rfl) (by kernel_rfl) ?hqvc46 (Or.inl ⟨?hwvc46, ?hyvc46⟩) (by assumption) ?_
                  case hovc46 => rfl
                  case hwvc46 => rfl
                  case hyvc46 => (intro w hSw; (try dsimp only at hSw); go_split_ands; go_simp; (try (with_reducible rfl)))
                  case hqvc46 => exact fun _ _ _ h => h
                  simp only [Act.put, List.getElem_toArray, List.getElem_cons_succ, List.getElem_cons_zero, List.setIfInBounds_toArray, List.set_cons_zero, List.set_cons_succ]
                  refine wpAnyT_take (i := 47) (oi := ?oivc47) (v := ?vvc47) ?hovc47 (by kernel_rfl) (by kernel_rfl) (by kernel_rfl) (by kernel_rfl) ?hqvc47 (Or.inl ⟨?hwvc47, ?hyvc47⟩) (by assumption) ?_
                  case hovc47 => rfl
                  case hwvc47 => rfl
                  case hyvc47 => (intro w hSw; (try dsimp only at hSw); go_split_ands; go_simp; (try (with_reducible rfl)))
                  case hqvc47 => exact fun _ _ _ h => h
                  simp only [Act.put, List.getElem_toArray, List.getElem_cons_succ, List.getElem_cons_zero, List.setIfInBounds_toArray, List.set_cons_zero, List.set_cons_succ]
                  refine wpAnyT_take (i := 48) (oi := ?oivc48) (v := ?vvc48) ?hovc48 (by kernel_rfl) (by kernel_rfl) (by kernel_rfl) (by kernel_rfl) ?hqvc48 (Or.inl ⟨?hwvc48, ?hyvc48⟩) (by assumption) ?_
                  case hovc48 => rfl
                  case hwvc48 => rfl
                  case hyvc48 => (intro w hSw; (try dsimp only at hSw); go_split_ands; go_simp; (try (with_reducible rfl)))
                  case hqvc48 => exact fun _ _ _ h => h
                  simp only [Act.put, List.getElem_toArray, List.getElem_cons_succ, List.getElem_cons_zero, List.setIfInBounds_toArray, List.set_cons_zero, List.set_cons_succ]
                  refine wpAnyT_take (i := 49) (oi := ?oivc49) (v := ?vvc49) ?hovc49 (by kernel_rfl) (by kernel_rfl) (by kernel_rfl) (by kernel_rfl) ?hqvc49 (Or.inl ⟨?hwvc49, ?hyvc49⟩) (by assumption) ?_
                  case hovc49 => rfl
                  case hwvc49 => rfl
                  case hyvc49 => (intro w hSw; (try dsimp only at hSw); go_split_ands; go_simp; (try (with_reducible rfl)))
                  case hqvc49 => exact fun _ _ _ h => h
                  simp only [Act.put, List.getElem_toArray, List.getElem_cons_succ, List.getElem_cons_zero, List.setIfInBounds_toArray, List.set_cons_zero, List.set_cons_succ]
                  refine wpAnyT_done (by kernel_rfl) ?_ _
                  -- tail end
                  clear hHeld
                  all_goals (
                    go_wp2_with (fail)
                    go_roundg g3
                    case measure => omega
                    case rel => exact ⟨i + 1, (i : Nat), rfl, by go_num, by omega, .turn hmaxH.out hzx hcan.out, bseqJ hbxH.out hbw3⟩)
                · have d4 : decide ((z : Int) ≤ (x : Int)) = false := by simp; omega
                  go_wp2_with (fail)
                  have hB0 : Below wr.heap.size wr wr := Below.refl _ _
                  have hup : Hid (∀ W, Below wr.heap.size wr W → W.cell? ⟨w.heap.size, 0, none⟩ = some (.slice (some ⟨bf, of, none⟩) m cf) ∧ W.cell? ⟨g, i, none⟩ = some (.int .i64 (u : Nat)) ∧ W.cell? ⟨b3, o3 + u, none⟩ = some (.int .i64 (x : Nat)) ∧ W.cell? ⟨w.heap.size, 1, none⟩ = some (.slice (some ⟨b1, o1, none⟩) m cg) ∧ W.cell? ⟨b1, o1 + p, none⟩ = some (.slice (some ⟨b4, o4, none⟩) np cp) ∧ W.cell? ⟨g, p, none⟩ = some (.int .i64 (up : Nat)) ∧ W.cell? ⟨b4, o4 + up, none⟩ = some (.int .i64 (z : Nat))) := fun W hbW => ⟨Below.cellAt hbW (Nat.le_refl _) c0, Below.cellAt hbW (Nat.le_refl _) c3, Below.cellAt hbW (Nat.le_refl _) c4, Below.cellAt hbW (Nat.le_refl _) c1, Below.cellAt hbW (Nat.le_refl _) c5, Below.cellAt hbW (Nat.le_refl _) c6, Below.cellAt hbW (Nat.le_refl _) c7⟩
                  clear c2
                  -- tail S: fun W => Below wr.heap.size wr W ∧ W.cell? ⟨w.heap.size, 0, none⟩ = some (.slice (some ⟨bf, of, none⟩) m cf) ∧ W.cell? ⟨g, i, none⟩ = some (.int .i64 (u : Nat)) ∧ W.cell? ⟨b3, o3 + u, none⟩ = some (.int .i64 (x : Nat)) ∧ W.cell? ⟨w.heap.size, 1, none⟩ = some (.slice (some ⟨b1, o1, none⟩) m cg) ∧ W.cell? ⟨b1, o1 + p, none⟩ = some (.slice (some ⟨b4, o4, none⟩) np cp) ∧ W.cell? ⟨g, p, none⟩ = some (.int .i64 (up : Nat)) ∧ W.cell? ⟨b4, o4 + up, none⟩ = some (.int .i64 (z : Nat))
                  -- tail s0: ⟨Below.drew hB0, hup.out _ (Below.drew hB0)⟩
                  -- arm 22: go_at_call 22; (with_reducible refine (withP_ex (some ⟨g, 0, none⟩) m m us i _ (hIuH.out.below hHeld.1) hulH.out hm him hub.out).mono ?_); rintro e w4 ⟨gw, rfl, hZ4, hb4⟩; have hZ4H := Lib.hid hZ4.iz; have hq4 : Below wr.heap.size wr w4 := bseqJ hHeld.1 hb4; clear hZ4
                  -- arm 22 s: ⟨hq4, hup.out _ hq4⟩
                  -- arm 23: go_at_call 21; (with_reducible refine (possP_any (some ⟨bf, of, none⟩) (some ⟨gw, 0, none⟩) cf m m fl (addU us i) true _ (hIfH.out.below hHeld.1) hZ4H.out hflH.out hul2.out hm hfbH.out hpoB.out).mono ?_); rintro e w5 ⟨rfl, hb5⟩; have hbw3 : Below wr.heap.size wr w5 := bseqJ hq4 hb5
                  -- arm 23 s: ⟨hbw3, hup.out _ hbw3⟩
                  -- tail vd 0 1 2 3 4 5 6 7 8 9 10 11 12 13 14 15 16 17 18 19 20 21 c22 c23 24 25 26 27 28 29 30 31 32 33 34 35 36 37 38 39 40 41 42 43 44 45 46 47 48 49
                  refine wp_region_tail (fun W => Below wr.heap.size wr W ∧ W.cell? ⟨w.heap.size, 0, none⟩ = some (.slice (some ⟨bf, of, none⟩) m cf) ∧ W.cell? ⟨g, i, none⟩ = some (.int .i64 (u : Nat)) ∧ W.cell? ⟨b3, o3 + u, none⟩ = some (.int .i64 (x : Nat)) ∧ W.cell? ⟨w.heap.size, 1, none⟩ = some (.slice (some ⟨b1, o1, none⟩) m cg) ∧ W.cell? ⟨b1, o1 + p, none⟩ = some (.slice (some ⟨b4, o4, none⟩) np cp) ∧ W.cell? ⟨g, p, none⟩ = some (.int .i64 (up : Nat)) ∧ W.cell? ⟨b4, o4 + up, none⟩ = some (.int .i64 (z : Nat))) (fun j => decide (1000 ≤ j)) (by kernel_rfl) (⟨Below.drew hB0, hup.out _ (Below.drew hB0)⟩) (fun hHeld => ?_)
                  refine wpAnyT_take (i := 0) (oi := ?oivd0) (v := ?vvd0) ?hovd0 (by kernel_rfl) (by kernel_rfl) (by kernel_rfl) (by kernel_rfl) ?hqvd0 (Or.inl ⟨?hwvd0, ?hyvd0⟩) (by assumption) ?_
                  case hovd0 => rfl
                  case hwvd0 => rfl
                  case hyvd0 => (intro w hSw; (try dsimp only at hSw); go_split_ands; go_simp; (try (with_reducible rfl)))
                  case hqvd0 => exact fun _ _ _ h => h
                  simp only [Act.put, List.getElem_toArray, List.getElem_cons_zero, List.setIfInBounds_toArray, List.set_cons_zero, List.set_cons_succ]
                  refine wpAnyT_take (i := 1) (oi := ?oivd1) (v := ?vvd1) ?hovd1 (by kernel_rfl) (by kernel_rfl) (by kernel_rfl) (by kernel_rfl) ?hqvd1 (Or.inl ⟨?hwvd1, ?hyvd1⟩) (by assumption) ?_
                  case hovd1 => rfl
                  case hwvd1 => rfl
                  case hyvd1 => (intro w hSw; (try dsimp only at hSw); go_split_ands; go_simp; (try (with_reducible rfl)))
                  case hqvd1 => exact fun _ _ _ h => h
                  simp only [Act.put, List.getElem_toArray, List.getElem_cons_succ, List.getElem_cons_zero, List.setIfInBounds_toArray, List.set_cons_zero, List.set_cons_succ]
                  refine wpAnyT_take (i := 2) (oi := ?oivd2) (v := ?vvd2) ?hovd2 (by kernel_rfl) (by kernel_rfl) (by kernel_rfl) (by kernel_rfl) ?hqvd2 (Or.inl ⟨?hwvd2, ?hyvd2⟩) (by assumption) ?_
                  case hovd2 => rfl
                  case hwvd2 => rfl
                  case hyvd2 => (intro w hSw; (try dsimp only at hSw); go_split_ands; go_simp; (try (with_reducible rfl)))
                  case hqvd2 => exact fun _ _ _ h => h
                  simp only [Act.put, List.getElem_toArray, List.getElem_cons_succ, List.getElem_cons_zero, List.setIfInBounds_toArray, List.set_cons_zero, List.set_cons_succ]
                  refine wpAnyT_take (i := 3) (oi := ?oivd3) (v := ?vvd3) ?hovd3 (by kernel_rfl) (by kernel_rfl) (by kernel_rfl) (by kernel_rfl) ?hqvd3 (Or.inl ⟨?hwvd3, ?hyvd3⟩) (by assumption) ?_
                  case hovd3 => rfl
                  case hwvd3 => rfl
                  case hyvd3 => (intro w hSw; (try dsimp only at hSw); go_split_ands; go_simp; (try (with_reducible rfl)))
                  case hqvd3 => exact fun _ _ _ h => h
                  simp only [Act.put, List.getElem_toArray, List.getElem_cons_succ, List.getElem_cons_zero, List.setIfInBounds_toArray, List.set_cons_zero, List.set_cons_succ]
                  refine wpAnyT_take (i := 4) (oi := ?oivd4) (v := ?vvd4) ?hovd4 (by kernel_rfl) (by kernel_rfl) (by kernel_rfl) (by kernel_rfl) ?hqvd4 (Or.inl ⟨?hwvd4, ?hyvd4⟩) (by assumption) ?_
                  case hovd4 => rfl
                  case hwvd4 => rfl
                  case hyvd4 => (intro w hSw; (try dsimp only at hSw); go_split_ands; go_simp; (try (with_reducible rfl)))
                  case hqvd4 => exact fun _ _ _ h => h
                  simp only [Act.put, List.getElem_toArray, List.getElem_cons_succ, List.getElem_cons_zero, List.setIfInBounds_toArray, List.set_cons_zero, List.set_cons_succ]
                  refine wpAnyT_take (i := 5) (oi := ?oivd5) (v := ?vvd5) ?hovd5 (by kernel_rfl) (by kernel_rfl) (by kernel_rfl) (by kernel_rfl) ?hqvd5 (Or.inl ⟨?hwvd5, ?hyvd5⟩) (by assumption) ?_
                  case hovd5 => rfl
                  case hwvd5 => rfl
                  case hyvd5 => (intro w hSw; (try dsimp only at hSw); go_split_ands; go_simp; (try (with_reducible rfl)))
                  case hqvd5 => exact fun _ _ _ h => h
                  simp only [Act.put, List.getElem_toArray, List.getElem_cons_succ, List.getElem_cons_zero, List.setIfInBounds_toArray, List.set_cons_zero, List.set_cons_succ]
                  refine wpAnyT_take (i := 6) (oi := ?oivd6) (v := ?vvd6) ?hovd6 (by kernel_rfl) (by kernel_rfl) (by kernel_rfl) (by kernel_rfl) ?hqvd6 (Or.inl ⟨?hwvd6, ?hyvd6⟩) (by assumption) ?_
                  case hovd6 => rfl
                  case hwvd6 => rfl
                  case hyvd6 => (intro w hSw; (try dsimp only at hSw); go_split_ands; go_simp; (try (with_reducible rfl)))
                  case hqvd6 => exact fun _ _ _ h => h
                  simp only [Act.put, List.getElem_toArray, List.getElem_cons_succ, List.getElem_cons_zero, List.setIfInBounds_toArray, List.set_cons_zero, List.set_cons_succ]
                  refine wpAnyT_take (i := 7) (oi := ?oivd7) (v := ?vvd7) ?hovd7 (by kernel_rfl) (by kernel_rfl) (by kernel_rfl) (by kernel_rfl) ?hqvd7 (Or.inl ⟨?hwvd7, ?hyvd7⟩) (by assumption) ?_
                  case hovd7 => rfl
                  case hwvd7 => rfl
                  case hyvd7 => (intro w hSw; (try dsimp only at hSw); go_split_ands; go_simp; (try (with_reducible rfl)))
                  case hqvd7 => exact fun _ _ _ h => h
                  simp only [Act.put, List.getElem_toArray, List.getElem_cons_succ, List.getElem_cons_zero, List.setIfInBounds_toArray, List.set_cons_zero, List.set_cons_succ]
                  refine wpAnyT_take (i := 8) (oi := ?oivd8) (v := ?vvd8) ?hovd8 (by kernel_rfl) (by kernel_rfl) (by kernel_rfl) (by kernel_rfl) ?hqvd8 (Or.inl ⟨?hwvd8, ?hyvd8⟩) (by assumption) ?_
                  case hovd8 => rfl
                  case hwvd8 => rfl
                  case hyvd8 => (intro w hSw; (try dsimp only at hSw); go_split_ands; go_simp; (try (with_reducible rfl)))
                  case hqvd8 => exact fun _ _ _ h => h
                  simp only [Act.put, List.getElem_toArray, List.getElem_cons_succ, List.getElem_cons_zero, List.setIfInBounds_toArray, List.set_cons_zero, List.set_cons_succ]
                  refine wpAnyT_take (i := 9) (oi := ?oivd9) (v := ?vvd9) ?hovd9 (by kernel_rfl) (by kernel_rfl) (by kernel_rfl) (by kernel_rfl) ?hqvd9 (Or.inl ⟨?hwvd9, ?hyvd9⟩) (by assumption) ?_
                  case hovd9 => rfl
                  case hwvd9 => rfl
                  case hyvd9 => (intro w hSw; (try dsimp only at hSw); go_split_ands; go_simp; (try (with_reducible rfl)))
                  case hqvd9 => exact fun _ _ _ h => h
                  simp only [Act.put, List.getElem_toArray, List.getElem_cons_succ, List.getElem_cons_zero, List.setIfInBounds_toArray, List.set_cons_zero, List.set_cons_succ]
                  refine wpAnyT_take (i := 10) (oi := ?oivd10) (v := ?vvd10) ?hovd10 (by kernel_rfl) (by kernel_rfl) (by kernel_rfl) (by kernel_rfl) ?hqvd10 (Or.inl ⟨?hwvd10, ?hyvd10⟩) (by assumption) ?_
                  case hovd10 => rfl
                  case hwvd10 => rfl
                  case hyvd10 => (intro w hSw; (try dsimp only at hSw); go_split_ands; go_simp; (try (with_reducible rfl)))
                  case hqvd10 => exact fun _ _ _ h => h
                  simp only [Act.put, List.getElem_toArray, List.getElem_cons_succ, List.getElem_cons_zero, List.setIfInBounds_toArray, List.set_cons_zero, List.set_cons_succ]
                  refine wpAnyT_take (i := 11) (oi := ?oivd11) (v := ?vvd11) ?hovd11 (by kernel_rfl) (by kernel_rfl) (by kernel_rfl) (by kernel_rfl) ?hqvd11 (Or.inl ⟨?hwvd11, ?hyvd11⟩) (by assumption) ?_
                  case hovd11 => rfl
                  case hwvd11 => rfl
                  case hyvd11 => (intro w hSw; (try dsimp only at hSw); go_split_ands; go_simp; (try (with_reducible rfl)))
                  case hqvd11 => exact fun _ _ _ h => h
                  simp only [Act.put, List.getElem_toArray, List.getElem_cons_succ, List.getElem_cons_zero, List.setIfInBounds_toArray, List.set_cons_zero, List.set_cons_succ]
                  refine wpAnyT_take (i := 12) (oi := ?oivd12) (v := ?vvd12) ?hovd12 (by kernel_rfl) (by kernel_rfl) (by kernel_rfl) (by kernel_rfl) ?hqvd12 (Or.inl ⟨?hwvd12, ?hyvd12⟩) (by assumption) ?_
                  case hovd12 => rfl
                  case hwvd12 => rfl
                  case hyvd12 => (intro w hSw; (try dsimp only at hSw); go_split_ands; go_simp; (try (with_reducible rfl)))
                  case hqvd12 => exact fun _ _ _ h => h
                  simp only [Act.put, List.getElem_toArray, List.getElem_cons_succ, List.getElem_cons_zero, List.setIfInBounds_toArray, List.set_cons_zero, List.set_cons_succ]
                  refine wpAnyT_take (i := 13) (oi := ?oivd13) (v := ?vvd13) ?hovd13 (by kernel_rfl) (by kernel_rfl) (by kernel_rfl) (by kernel_rfl) ?hqvd13 (Or.inl ⟨?hwvd13, ?hyvd13⟩) (by assumption) ?_
                  case hovd13 => rfl
                  case hwvd13 => rfl
                  case hyvd13 => (intro w hSw; (try dsimp only at hSw); go_split_ands; go_simp; (try (with_reducible rfl)))
                  case hqvd13 => exact fun _ _ _ h => h
                  simp only [Act.put, List.getElem_toArray, List.getElem_cons_succ, List.getElem_cons_zero, List.setIfInBounds_toArray, List.set_cons_zero, List.set_cons_succ]
                  refine wpAnyT_take (i := 14) (oi := ?oivd14) (v := ?vvd14) ?hovd14 (by kernel_rfl) (by kernel_rfl) (by kernel_rfl) (by kernel_rfl) ?hqvd14 (Or.inl ⟨?hwvd14, ?hyvd14⟩) (by assumption) ?_
                  case hovd14 => rfl
                  case hwvd14 => rfl
                  case hyvd14 => (intro w hSw; (try dsimp only at hSw); go_split_ands; go_simp; (try (with_reducible rfl)))
                  case hqvd14 => exact fun _ _ _ h => h
                  simp only [Act.put, List.getElem_toArray, List.getElem_cons_succ, List.getElem_cons_zero, List.setIfInBounds_toArray, List.set_cons_zero, List.set_cons_succ]
                  refine wpAnyT_take (i := 15) (oi := ?oivd15) (v := ?vvd15) ?hovd15 (by kernel_rfl) (by kernel_rfl) (by kernel_rfl) (by kernel_rfl) ?hqvd15 (Or.inl ⟨?hwvd15, ?hyvd15⟩) (by assumption) ?_
                  case hovd15 => rfl
                  case hwvd15 => rfl
                  case hyvd15 => (intro w hSw; (try dsimp only at hSw); go_split_ands; go_simp; (try (with_reducible rfl)))
                  case hqvd15 => exact fun _ _ _ h => h
                  simp only [Act.put, List.getElem_toArray, List.getElem_cons_succ, List.getElem_cons_zero, List.setIfInBounds_toArray, List.set_cons_zero, List.set_cons_succ]
                  refine wpAnyT_take (i := 16) (oi := ?oivd16) (v := ?vvd16) ?hovd16 (by kernel_rfl) (by kernel_rfl) (by kernel_rfl) (by kernel_rfl) ?hqvd16 (Or.inl ⟨?hwvd16, ?hyvd16⟩) (by assumption) ?_
                  case hovd16 => rfl
                  case hwvd16 => rfl
                  case hyvd16 => (intro w hSw; (try dsimp only at hSw); go_split_ands; go_simp; (try (with_reducible rfl)))
                  case hqvd16 => exact fun _ _ _ h => h
                  simp only [Act.put, List.getElem_toArray, List.getElem_cons_succ, List.getElem_cons_zero, List.setIfInBounds_toArray, List.set_cons_zero, List.set_cons_succ]
                  refine wpAnyT_take (i := 17) (oi := ?oivd17) (v := ?vvd17) ?hovd17 (by kernel_rfl) (by kernel_rfl) (by kernel_rfl) (by kernel_rfl) ?hqvd17 (Or.inl ⟨?hwvd17, ?hyvd17⟩) (by assumption) ?_
                  case hovd17 => rfl
                  case hwvd17 => rfl
                  case hyvd17 => (intro w hSw; (try dsimp only at hSw); go_split_ands; go_simp; (try (with_reducible rfl)))
                  case hqvd17 => exact fun _ _ _ h => h
                  simp only [Act.put, List.getElem_toArray, List.getElem_cons_succ, List.getElem_cons_zero, List.setIfInBounds_toArray, List.set_cons_zero, List.set_cons_succ]
                  refine wpAnyT_take (i := 18) (oi := ?oivd18) (v := ?vvd18) ?hovd18 (by kernel_rfl) (by kernel_rfl) (by kernel_rfl) (by kernel_rfl) ?hqvd18 (Or.inl ⟨?hwvd18, ?hyvd18⟩) (by assumption) ?_
                  case hovd18 => rfl
                  case hwvd18 => rfl
                  case hyvd18 => (intro w hSw; (try dsimp only at hSw); go_split_ands; go_simp; (try (with_reducible rfl)))
                  case hqvd18 => exact fun _ _ _ h => h
                  simp only [Act.put, List.getElem_toArray, List.getElem_cons_succ, List.getElem_cons_zero, List.setIfInBounds_toArray, List.set_cons_zero, List.set_cons_succ]
                  refine wpAnyT_take (i := 19) (oi := ?oivd19) (v := ?vvd19) ?hovd19 (by kernel_rfl) (by kernel_rfl) (by kernel_rfl) (by kernel_rfl) ?hqvd19 (Or.inl ⟨?hwvd19, ?hyvd19⟩) (by assumption) ?_
                  case hovd19 => rfl
                  case hwvd19 => rfl
                  case hyvd19 => (intro w hSw; (try dsimp only at hSw); go_split_ands; go_simp; (try (with_reducible rfl)))
                  case hqvd19 => exact fun _ _ _ h => h
                  simp only [Act.put, List.getElem_toArray, List.getElem_cons_succ, List.getElem_cons_zero, List.setIfInBounds_toArray, List.set_cons_zero, List.set_cons_succ]
                  refine wpAnyT_take (i := 20) (oi := ?oivd20) (v := ?vvd20) ?hovd20 (by kernel_rfl) (by kernel_rfl) (by kernel_rfl) (by kernel_rfl) ?hqvd20 (Or.inl ⟨?hwvd20, ?hyvd20⟩) (by assumption) ?_
                  case hovd20 => rfl
                  case hwvd20 => rfl
                  case hyvd20 => (intro w hSw; (try dsimp only at hSw); go_split_ands; go_simp; (try (with_reducible rfl)))
                  case hqvd20 => exact fun _ _ _ h => h
                  simp only [Act.put, List.getElem_toArray, List.getElem_cons_succ, List.getElem_cons_zero, List.setIfInBounds_toArray, List.set_cons_zero, List.set_cons_succ]
                  refine wpAnyT_take (i := 21) (oi := ?oivd21) (v := ?vvd21) ?hovd21 (by kernel_rfl) (by kernel_rfl) (by kernel_rfl) (by kernel_rfl) ?hqvd21 (Or.inl ⟨?hwvd21, ?hyvd21⟩) (by assumption) ?_
                  case hovd21 => rfl
                  case hwvd21 => rfl
                  case hyvd21 => (intro w hSw; (try dsimp only at hSw); go_split_ands; go_simp; (try (with_reducible rfl)))
                  case hqvd21 => exact fun _ _ _ h => h
                  simp only [Act.put, List.getElem_toArray, List.getElem_cons_succ, List.getElem_cons_zero, List.setIfInBounds_toArray, List.set_cons_zero, List.set_cons_succ]
                  refine wpAnyT_one (i := 22) (o := ?oivd22) (by kernel_rfl) ?hovd22 (fun K hK => ?_)
                  case hovd22 => rfl
                  rw [if_pos (by rfl)]
                  go_simp
                  go_at_call 22; (with_reducible refine (withP_ex (some ⟨g, 0, none⟩) m m us i _ (hIuH.out.below hHeld.1) hulH.out hm him hub.out).mono ?_); rintro e w4 ⟨gw, rfl, hZ4, hb4⟩; have hZ4H := Lib.hid hZ4.iz; have hq4 : Below wr.heap.size wr w4 := bseqJ hHeld.1 hb4; clear hZ4
                  (try go_wp2_with (fail))
                  refine hK.out _ _ (fun _ => ⟨hq4, hup.out _ hq4⟩) (fun hHeld => ?_)
                  replace hHeld := hHeld rfl
                  clear hK K
                  refine wpAnyT_one (i := 23) (o := ?oivd23) (by kernel_rfl) ?hovd23 (fun K hK => ?_)
                  case hovd23 => rfl
                  rw [if_pos (by rfl)]
                  go_simp
                  go_at_call 21; (with_reducible refine (possP_any (some ⟨bf, of, none⟩) (some ⟨gw, 0, none⟩) cf m m fl (addU us i) true _ (hIfH.out.below hHeld.1) hZ4H.out hflH.out hul2.out hm hfbH.out hpoB.out).mono ?_); rintro e w5 ⟨rfl, hb5⟩; have hbw3 : Below wr.heap.size wr w5 := bseqJ hq4 hb5
                  (try go_wp2_with (fail))
                  refine hK.out _ _ (fun _ => ⟨hbw3, hup.out _ hbw3⟩) (fun hHeld => ?_)
                  replace hHeld := hHeld rfl
                  clear hK K
                  refine wpAnyT_take (i := 24) (oi := ?oivd24) (v := ?vvd24) ?hovd24 (by kernel_rfl) (by kernel_rfl) (by kernel_rfl) (by kernel_rfl) ?hqvd24 (Or.inl ⟨?hwvd24, ?hyvd24⟩) (by assumption) ?_
                  case hovd24 => rfl
                  case hwvd24 => rfl
                  case hyvd24 => (intro w hSw; (try dsimp only at hSw); go_split_ands; go_simp; (try (with_reducible rfl)))
                  case hqvd24 => exact fun _ _ _ h => h
                  simp only [Act.put, List.getElem_toArray, List.getElem_cons_succ, List.getElem_cons_zero, List.setIfInBounds_toArray, List.set_cons_zero, List.set_cons_succ]
                  refine wpAnyT_take (i := 25) (oi := ?oivd25) (v := ?vvd25) ?hovd25 (by kernel_rfl) (by kernel_rfl) (by kernel_rfl) (by kernel_rfl) ?hqvd25 (Or.inl ⟨?hwvd25, ?hyvd25⟩) (by assumption) ?_
                  case hovd25 => rfl
                  case hwvd25 => rfl
                  case hyvd25 => (intro w hSw; (try dsimp only at hSw); go_split_ands; go_simp; (try (with_reducible rfl)))
                  case hqvd25 => exact fun _ _ _ h => h
                  simp only [Act.put, List.getElem_toArray, List.getElem_cons_succ, List.getElem_cons_zero, List.setIfInBounds_toArray, List.set_cons_zero, List.set_cons_succ]
                  refine wpAnyT_take (i := 26) (oi := ?oivd26) (v := ?vvd26) ?hovd26 (by kernel_rfl) (by kernel_rfl) (by kernel_rfl) (by kernel_rfl) ?hqvd26 (Or.inl ⟨?hwvd26, ?hyvd26⟩) (by assumption) ?_
                  case hovd26 => rfl
                  case hwvd26 => rfl
                  case hyvd26 => (intro w hSw; (try dsimp only at hSw); go_split_ands; go_simp; (try (with_reducible rfl)))
                  case hqvd26 => exact fun _ _ _ h => h
                  simp only [Act.put, List.getElem_toArray, List.getElem_cons_succ, List.getElem_cons_zero, List.setIfInBounds_toArray, List.set_cons_zero, List.set_cons_succ]
                  refine wpAnyT_take (i := 27) (oi := ?oivd27) (v := ?vvd27) ?hovd27 (by kernel_rfl) (by kernel_rfl) (by kernel_rfl) (by kernel_rfl) ?hqvd27 (Or.inl ⟨?hwvd27, ?hyvd27⟩) (by assumption) ?_
                  case hovd27 => rfl
                  case hwvd27 => rfl
                  case hyvd27 => (intro w hSw; (try dsimp only at hSw); go_split_ands; go_simp; (try (with_reducible rfl)))
                  case hqvd27 => exact fun _ _ _ h => h
                  simp only [Act.put, List.getElem_toArray, List.getElem_cons_succ, List.getElem_cons_zero, List.setIfInBounds_toArray, List.set_cons_zero, List.set_cons_succ]
                  refine wpAnyT_take (i := 28) (oi := ?oivd28) (v := ?vvd28) ?hovd28 (by kernel_rfl) (by kernel_rfl) (by kernel_rfl) (by kernel_rfl) ?hqvd28 (Or.inl ⟨?hwvd28, ?hyvd28⟩) (by assumption) ?_
                  case hovd28 => rfl
                  case hwvd28 => rfl
                  case hyvd28 => (intro w hSw; (try dsimp only at hSw); go_split_ands; go_simp; (try (with_reducible rfl)))
                  case hqvd28 => exact fun _ _ _ h => h
                  simp only [Act.put, List.getElem_toArray, List.getElem_cons_succ, List.getElem_cons_zero, List.setIfInBounds_toArray, List.set_cons_zero, List.set_cons_succ]
                  refine wpAnyT_take (i := 29) (oi := ?oivd29) (v := ?vvd29) ?hovd29 (by kernel_rfl) (by kernel_rfl) (by kernel_rfl) (by kernel_rfl) ?hqvd29 (Or.inl ⟨?hwvd29, ?hyvd29⟩) (by assumption) ?_
                  case hovd29 => rfl
                  case hwvd29 => rfl
                  case hyvd29 => (intro w hSw; (try dsimp only at hSw); go_split_ands; go_simp; (try (with_reducible rfl)))
                  case hqvd29 => exact fun _ _ _ h => h
                  simp only [Act.put, List.getElem_toArray, List.getElem_cons_succ, List.getElem_cons_zero, List.setIfInBounds_toArray, List.set_cons_zero, List.set_cons_succ]
                  refine wpAnyT_take (i := 30) (oi := ?oivd30) (v := ?vvd30) ?hovd30 (by kernel_rfl) (by kernel_rfl) (by kernel_rfl) (by kernel_rfl) ?hqvd30 (Or.inl ⟨?hwvd30, ?hyvd30⟩) (by assumption) ?_
                  case hovd30 => rfl
                  case hwvd30 => rfl
                  case hyvd30 => (intro w hSw; (try dsimp only at hSw); go_split_ands; go_simp; (try (with_reducible rfl)))
                  case hqvd30 => exact fun _ _ _ h => h
                  simp only [Act.put, List.getElem_toArray, List.getElem_cons_succ, List.getElem_cons_zero, List.setIfInBounds_toArray, List.set_cons_zero, List.set_cons_succ]
                  refine wpAnyT_take (i := 31) (oi := ?oivd31) (v := ?vvd31) ?hovd31 (by kernel_rfl) (by kernel_rfl) (by kernel_rfl) (by kernel_rfl) ?hqvd31 (Or.inl ⟨?hwvd31, ?hyvd31⟩) (by assumption) ?_
                  case hovd31 => rfl
                  case hwvd31 => rfl
                  case hyvd31 => (intro w hSw; (try dsimp only at hSw); go_split_ands; go_simp; (try (with_reducible rfl)))
                  case hqvd31 => exact fun _ _ _ h => h
                  simp only [Act.put, List.getElem_toArray, List.getElem_cons_succ, List.getElem_cons_zero, List.setIfInBounds_toArray, List.set_cons_zero, List.set_cons_succ]
                  refine wpAnyT_take (i := 32) (oi := ?oivd32) (v := ?vvd32) ?hovd32 (by kernel_rfl) (by kernel_rfl) (by kernel_rfl) (by kernel_rfl) ?hqvd32 (Or.inl ⟨?hwvd32, ?hyvd32⟩) (by assumption) ?_
                  case hovd32 => rfl
                  case hwvd32 => rfl
                  case hyvd32 => (intro w hSw; (try dsimp only at hSw); go_split_ands; go_simp; (try (with_reducible rfl)))
                  case hqvd32 => exact fun _ _ _ h => h
                  simp only [Act.put, List.getElem_toArray, List.getElem_cons_succ, List.getElem_cons_zero, List.setIfInBounds_toArray, List.set_cons_zero, List.set_cons_succ]
                  refine wpAnyT_take (i := 33) (oi := ?oivd33) (v := ?vvd33) ?hovd33 (by kernel_rfl) (by kernel_rfl) (by kernel_rfl) (by kernel_rfl) ?hqvd33 (Or.inl ⟨?hwvd33, ?hyvd33⟩) (by assumption) ?_
                  case hovd33 => rfl
                  case hwvd33 => rfl
                  case hyvd33 => (intro w hSw; (try dsimp only at hSw); go_split_ands; go_simp; (try (with_reducible rfl)))
                  case hqvd33 => exact fun _ _ _ h => h
                  simp only [Act.put, List.getElem_toArray, List.getElem_cons_succ, List.getElem_cons_zero, List.setIfInBounds_toArray, List.set_cons_zero, List.set_cons_succ]
                  refine wpAnyT_take (i := 34) (oi := ?oivd34) (v := ?vvd34) ?hovd34 (by kernel_rfl) (by kernel_rfl) (by kernel_rfl) (by kernel_rfl) ?hqvd34 (Or.inl ⟨?hwvd34, ?hyvd34⟩) (by assumption) ?_
                  case hovd34 => rfl
                  case hwvd34 => rfl
                  case hyvd34 => (intro w hSw; (try dsimp only at hSw); go_split_ands; go_simp; (try (with_reducible rfl)))
                  case hqvd34 => exact fun _ _ _ h => h
                  simp only [Act.put, List.getElem_toArray, List.getElem_cons_succ, List.getElem_cons_zero, List.setIfInBounds_toArray, List.set_cons_zero, List.set_cons_succ]
                  refine wpAnyT_take (i := 35) (oi := ?oivd35) (v := ?vvd35) ?hovd35 (by kernel_rfl) (by kernel_rfl) (by kernel_rfl) (by kernel_rfl) ?hqvd35 (Or.inl ⟨?hwvd35, ?hyvd35⟩) (by assumption) ?_
                  case hovd35 => rfl
                  case hwvd35 => rfl
                  case hyvd35 => (intro w hSw; (try dsimp only at hSw); go_split_ands; go_simp; (try (with_reducible rfl)))
                  case hqvd35 => exact fun _ _ _ h => h
                  simp only [Act.put, List.getElem_toArray, List.getElem_cons_succ, List.getElem_cons_zero, List.setIfInBounds_toArray, List.set_cons_zero, List.set_cons_succ]
                  refine wpAnyT_take (i := 36) (oi := ?oivd36) (v := ?vvd36) ?hovd36 (by kernel_rfl) (by kernel_rfl) (by kernel_rfl) (by kernel_rfl) ?hqvd36 (Or.inl ⟨?hwvd36, ?hyvd36⟩) (by assumption) ?_
                  case hovd36 => rfl
                  case hwvd36 => rfl
                  case hyvd36 => (intro w hSw; (try dsimp only at hSw); go_split_ands; go_simp; (try (with_reducible rfl)))
                  case hqvd36 => exact fun _ _ _ h => h
                  simp only [Act.put, List.getElem_toArray, List.getElem_cons_succ, List.getElem_cons_zero, List.setIfInBounds_toArray, List.set_cons_zero, List.set_cons_succ]
                  refine wpAnyT_take (i := 37) (oi := ?oivd37) (v := ?vvd37) ?hovd37 (by kernel_rfl) (by kernel_rfl) (by kernel_rfl) (by kernel_rfl) ?hqvd37 (Or.inl ⟨?hwvd37, ?hyvd37⟩) (by assumption) ?_
                  case hovd37 => rfl
                  case hwvd37 => rfl
                  case hyvd37 => (intro w hSw; (try dsimp only at hSw); go_split_ands; go_simp; (try (with_reducible rfl)))
                  case hqvd37 => exact fun _ _ _ h => h
                  simp only [Act.put, List.getElem_toArray, List.getElem_cons_succ, List.getElem_cons_zero, List.setIfInBounds_toArray, List.set_cons_zero, List.set_cons_succ]
                  refine wpAnyT_take (i := 38) (oi := ?oivd38) (v := ?vvd38) ?hovd38 (by kernel_rfl) (by kernel_rfl) (by kernel_rfl) (by kernel_rfl) ?hqvd38 (Or.inl ⟨?hwvd38, ?hyvd38⟩) (by assumption) ?_
                  case hovd38 => rfl
                  case hwvd38 => rfl
                  case hyvd38 => (intro w hSw; (try dsimp only at hSw); go_split_ands; go_simp; (try (with_reducible rfl)))
                  case hqvd38 => exact fun _ _ _ h => h
                  simp only [Act.put, List.getElem_toArray, List.getElem_cons_succ, List.getElem_cons_zero, List.setIfInBounds_toArray, List.set_cons_zero, List.set_cons_succ]
                  refine wpAnyT_take (i := 39) (oi := ?oivd39) (v := ?vvd39) ?hovd39 (by kernel_rfl) (by kernel_rfl) (by kernel_rfl) (by kernel_rfl) ?hqvd39 (Or.inl ⟨?hwvd39, ?hyvd39⟩) (by assumption) ?_
                  case hovd39 => rfl
                  case hwvd39 => rfl
                  case hyvd39 => (intro w hSw; (try dsimp only at hSw); go_split_ands; go_simp; (try (with_reducible rfl)))
                  case hqvd39 => exact fun _ _ _ h => h
                  simp only [Act.put, List.getElem_toArray, List.getElem_cons_succ, List.getElem_cons_zero, List.setIfInBounds_toArray, List.set_cons_zero, List.set_cons_succ]
                  refine wpAnyT_take (i := 40) (oi := ?oivd40) (v := ?vvd40) ?hovd40 (by kernel_rfl) (by kernel_rfl) (by kernel_rfl) (by kernel_rfl) ?hqvd40 (Or.inl ⟨?hwvd40, ?hyvd40⟩) (by assumption) ?_
                  case hovd40 => rfl
                  case hwvd40 => rfl
                  case hyvd40 => (intro w hSw; (try dsimp only at hSw); go_split_ands; go_simp; (try (with_reducible rfl)))
                  case hqvd40 => exact fun _ _ _ h => h
                  simp only [Act.put, List.getElem_toArray, List.getElem_cons_succ, List.getElem_cons_zero, List.setIfInBounds_toArray, List.set_cons_zero, List.set_cons_succ]
                  refine wpAnyT_take (i := 41) (oi := ?oivd41) (v := ?vvd41) ?hovd41 (by kernel_rfl) (by kernel_rfl) (by kernel_rfl) (by kernel_rfl) ?hqvd41 (Or.inl ⟨?hwvd41, ?hyvd41⟩) (by assumption) ?_
                  case hovd41 => rfl
                  case hwvd41 => rfl
                  case hyvd41 => (intro w hSw; (try dsimp only at hSw); go_split_ands; go_simp; (try (with_reducible rfl)))
                  case hqvd41 => exact fun _ _ _ h => h
                  simp only [Act.put, List.getElem_toArray, List.getElem_cons_succ, List.getElem_cons_zero, List.setIfInBounds_toArray, List.set_cons_zero, List.set_cons_succ]
                  refine wpAnyT_take (i := 42) (oi := ?oivd42) (v := ?vvd42) ?hovd42 (by kernel_rfl) (by kernel_rfl) (by kernel_rfl) (by kernel_rfl) ?hqvd42 (Or.inl ⟨?hwvd42, ?hyvd42⟩) (by assumption) ?_
                  case hovd42 => rfl
                  case hwvd42 => rfl
                  case hyvd42 => (intro w hSw; (try dsimp only at hSw); go_split_ands; go_simp; (try (with_reducible rfl)))
                  case hqvd42 => exact fun _ _ _ h => h
                  simp only [Act.put, List.getElem_toArray, List.getElem_cons_succ, List.getElem_cons_zero, List.setIfInBounds_toArray, List.set_cons_zero, List.set_cons_succ]
                  refine wpAnyT_take (i := 43) (oi := ?oivd43) (v := ?vvd43) ?hovd43 (by kernel_rfl) (by kernel_rfl) (by kernel_rfl) (by kernel_rfl) ?hqvd43 (Or.inl ⟨?hwvd43, ?hyvd43⟩) (by assumption) ?_
                  case hovd43 => rfl
                  case hwvd43 => rfl
                  case hyvd43 => (intro w hSw; (try dsimp only at hSw); go_split_ands; go_simp; (try (with_reducible rfl)))
                  case hqvd43 => exact fun _ _ _ h => h
                  simp only [Act.put, List.getElem_toArray, List.getElem_cons_succ, List.getElem_cons_zero, List.setIfInBounds_toArray, List.set_cons_zero, List.set_cons_succ]
                  refine wpAnyT_take (i := 44) (oi := ?oivd44) (v := ?vvd44) ?hovd44 (by kernel_rfl) (by kernel_rfl) (by kernel_rfl) (by kernel_rfl) ?hqvd44 (Or.inl ⟨?hwvd44, ?hyvd44⟩) (by assumption) ?_
                  case hovd44 => rfl
                  case hwvd44 => rfl
                  case hyvd44 => (intro w hSw; (try dsimp only at hSw); go_split_ands; go_simp; (try (with_reducible rfl)))
                  case hqvd44 => exact fun _ _ _ h => h
                  simp only [Act.put, List.getElem_toArray, List.getElem_cons_succ, List.getElem_cons_zero, List.setIfInBounds_toArray, List.set_cons_zero, List.set_cons_succ]
                  refine wpAnyT_take (i := 45) (oi := ?oivd45) (v := ?vvd45) ?hovd45 (by kernel_rfl) (by kernel_rfl) (by kernel_rfl) (by kernel_rfl) ?hqvd45 (Or.inl ⟨?hwvd45, ?hyvd45⟩) (by assumption) ?_
                  case hovd45 => rfl
                  case hwvd45 => rfl
                  case hyvd45 => (intro w hSw; (try dsimp only at hSw); go_split_ands; go_simp; (try (with_reducible rfl)))
                  case hqvd45 => exact fun _ _ _ h => h
                  simp only [Act.put, List.getElem_toArray, List.getElem_cons_succ, List.getElem_cons_zero, List.setIfInBounds_toArray, List.set_cons_zero, List.set_cons_succ]
                  refine wpAnyT_take (i := 46) (oi := ?oivd46) (v := ?vvd46) ?hovd46 (by kernel_rfl) (by kernel_rfl) (by kernel_rfl) (by kernel_rfl) ?hqvd46 (Or.inl ⟨?hwvd46, ?hyvd46⟩) (by assumption) ?_
                  case hovd46 => rfl
                  case hwvd46 => rfl
                  case hyvd46 => (intro w hSw; (try dsimp only at hSw); go_split_ands; go_simp; (try (with_reducible rfl)))
                  case hqvd46 => exact fun _ _ _ h => h
                  simp only [Act.put, List.getElem_toArray, List.getElem_cons_succ, List.getElem_cons_zero, List.setIfInBounds_toArray, List.set_cons_zero, List.set_cons_succ]
                  refine wpAnyT_take (i := 47) (oi := ?oivd47) (v := ?vvd47) ?hovd47 (by kernel_rfl) (by kernel_rfl) (by kernel_rfl) (by kernel_rfl) ?hqvd47 (Or.inl ⟨?hwvd47, ?hyvd47⟩) (by assumption) ?_
                  case hovd47 => rfl
                  case hwvd47 => rfl
                  case hyvd47 => (intro w hSw; (try dsimp only at hSw); go_split_ands; go_simp; (try (with_reducible rfl)))
                  case hqvd47 => exact fun _ _ _ h => h
                  simp only [Act.put, List.getElem_toArray, List.getElem_cons_succ, List.getElem_cons_zero, List.setIfInBounds_toArray, List.set_cons_zero, List.set_cons_succ]
                  refine wpAnyT_take (i := 48) (oi := ?oivd48) (v := ?vvd48) ?hovd48 (by kernel_rfl) (by kernel_rfl) (by kernel_rfl) (by kernel_rfl) ?hqvd48 (Or.inl ⟨?hwvd48, ?hyvd48⟩) (by assumption) ?_
                  case hovd48 => rfl
                  case hwvd48 => rfl
                  case hyvd48 => (intro w hSw; (try dsimp only at hSw); go_split_ands; go_simp; (try (with_reducible rfl)))
                  case hqvd48 => exact fun _ _ _ h => h
                  simp only [Act.put, List.getElem_toArray, List.getElem_cons_succ, List.getElem_cons_zero, List.setIfInBounds_toArray, List.set_cons_zero, List.set_cons_succ]
                  refine wpAnyT_take (i := 49) (oi := ?oivd49) (v := ?vvd49) ?hovd49 (by kernel_rfl) (by kernel_rfl) (by kernel_rfl) (by kernel_rfl) ?hqvd49 (Or.inl ⟨?hwvd49, ?hyvd49⟩) (by assumption) ?_
                  case hovd49 => rfl
                  case hwvd49 => rfl
                  case hyvd49 => (intro w hSw; (try dsimp only at hSw); go_split_ands; go_simp; (try (with_reducible rfl)))
                  case hqvd49 => exact fun _ _ _ h => h
                  simp only [Act.put, List.getElem_toArray, List.getElem_cons_succ, List.getElem_cons_zero, List.setIfInBounds_toArray, List.set_cons_zero, List.set_cons_succ]
                  refine wpAnyT_done (by kernel_rfl) ?_ _
                  -- tail end
                  clear hHeld
                  all_goals (
                    go_wp2_with (fail)
                    go_roundg g3
                    case measure => omega
                    case rel => exact ⟨i + 1, (p : Nat), rfl, by go_num, by omega, .keep hpi hcpH.out hmaxH.out (by omega) hcan.out, bseqJ hbxH.out hbw3⟩)
          · have d2 : decide ((0 : Int) < (x : Int)) = false := by simp; omega
            have hno : Hid (∀ y, ¬ CandW m (fnN fl) (fnG gs) (fnN us) i y) := fun y hc => by
              have h1 := hc.2.1
              rw [huH.out, hLH.out, hxH.out] at h1
              injection h1 with h1
              have := hc.2.2.1
              omega
            go_wp2_with (fail)
            go_quiet (fail)
            go_wp2_with (fail)
            go_roundg g3
            case measure => omega
            case rel => exact ⟨i + 1, a, rfl, by go_num, by omega, hatH.out.skip hno.out, bdn hbxH.out⟩
        · have d1 : decide ((u : Int) < (n : Int)) = false := by simp; omega
          have hno : Hid (∀ y, ¬ CandW m (fnN fl) (fnG gs) (fnN us) i y) := fun y hc => by
            have h1 := (List.getElem?_eq_some_iff.1 hc.2.1).1
            rw [huH.out, hLH.out, hnH.out] at h1
            omega
          go_wp2_with (fail)
          go_quiet (fail)
          go_wp2_with (fail)
          go_roundg g3
          case measure => omega
          case rel => exact ⟨i + 1, a, rfl, by go_num, by omega, hatH.out.skip hno.out, bdn hbxH.out⟩
      · obtain rfl : i = m := by omega
        have hiI : ¬ (i : Int) < (i : Int) := by omega
        rcases hatH.out with ⟨rfl, hnone⟩ | ⟨n, x, rfl, hni, hcn, hmax⟩
        · have hnoneH := Lib.hid hnone
          clear hnone
          go_wp2_with (fail)
          go_ret
          exact ⟨g, us, rfl, hulH.out, hrunH.out _ (.done fun j y hc => hnoneH.out j y hc.1 hc), hZH.out.up hbxH.out, bseqJ hblH.out hbxH.out⟩
        · have hcnH := Lib.hid hcn
          have hmaxH := Lib.hid hmax
          have d1 : decide ((n : Int) < 0) = false := by simp
          have hub : fnN us n ≤ 100000 := by
            have h1 := hleH.out n hni
            have h2 := (hokH.out.at n).1
            omega
          have hubH := Lib.hid hub
          have hn0 : (0 : Int) ≤ (n : Int) := by omega
          clear hcn hmax hub
          go_wp2_with (go_at_call 22; go_loud (refine (withP_any (some ⟨g, 0, none⟩) i i us n _ (hu1H.out.below hbxH.out) hulH.out hm hni hubH.out).mono ?_); rintro e w3 ⟨rfl, hZ3, hb3⟩; have hZ3H := Lib.hid hZ3; have hb3H := Lib.hid hb3; clear hZ3 hb3)
          go_roundg g2
          case measure => omega
          case rel =>
            have hone := addU_fn (us := us) (i := n) (by rw [hulH.out]; exact hni)
            have hb4 : Below wq.heap.size wq w3 := bseqJ hbxH.out hb3H.out
            have h1 := pre_one (fnN us) n i
            rw [if_pos hni] at h1
            have h2 := hgkH.out
            refine ⟨wr.heap.size, addU us n, rfl, by rw [addU_len, hulH.out], by rw [hone, h1]; omega, by rw [hone]; exact hcnH.out.2.2.2, ?_, fun v hv => ?_, hZ3H.out, bseqJ hblH.out hb4, Below.cellAt hb4 (Nat.le_refl _) c0H.out, Below.cellAt hb4 (Nat.le_refl _) c1H.out⟩
            · rw [hone]
              intro j hj
              unfold oneM
              split
              · rename_i e
                subst e
                exact (List.getElem?_eq_some_iff.1 hcnH.out.2.1).1
              · exact hleH.out j hj
            · rw [hone] at hv
              exact hrunH.out v (.step hcnH.out (fun j y hc => hmaxH.out j y hc.1 hc) hv)
end
end Go.Proofs.Ytkecdjdggkpdpaa
