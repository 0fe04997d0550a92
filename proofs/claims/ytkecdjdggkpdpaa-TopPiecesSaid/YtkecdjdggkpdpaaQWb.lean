/- Wt9 Wta Wtb Wtc Wtd Wte Wtf -/
import Derived.Test.YtkecdjdggkpdpaaQWt8
set_option linter.unusedVariables false
/- Walks of water's value, part, read. -/
namespace Go.Proofs.Ytkecdjdggkpdpaa
open Go Go.RowKit Go.Proofs

/-- What a river is worth. -/
def ValW (fl : List Nat) (gs : List (List Nat)) (m : Nat) (z : Int) : Prop := ∀ us : List Nat, us.length = m → RunW m (fnN fl) (fnG gs) (fun _ => 0) (fnN us) → (worthW m (fnG gs) (fnN us) : Int) = z
set_option maxHeartbeats 1600000 in
theorem valueP_any (af ag : Option Addr) (cf cg m : Nat) (fl : List Nat) (gs : List (List Nat)) (z : Int) (w : World) (hf : IZ w af (nz fl)) (hg : IMx w ag (gs.map nz)) (hfl : fl.length = m) (hgl : gs.length = m) (hm : m ≤ 8) (hm1 : 1 ≤ m) (hfb : ∀ x ∈ fl, x ≤ 30) (hok : okG gs) (hz : ValW fl gs m z) :
    Calls Try.prog 13 #[.agg #[.slice af m cf, .slice ag m cg]] w (RetI w z) := by
  have hfH := Lib.hid hf
  have hgH := Lib.hid hg
  have hflH := Lib.hid hfl
  have hglH := Lib.hid hgl
  have hfbH := Lib.hid hfb
  have hokH := Lib.hid hok
  have hzH := Lib.hid hz
  clear hf hg hfl hgl hfb hok hz
  go_enter Try.func13, Try.ntmps13
  go_wp2_with (fail)
  obtain ⟨V, hV⟩ : ∃ V, w.alloc (.cells #[.slice af m cf, .slice ag m cg] 42) = V := ⟨_, rfl⟩
  rw [hV]
  have c0 : V.cell? ⟨w.heap.size, 0, none⟩ = some (.slice af m cf) := by rw [← hV]; exact al_new rfl
  have c1 : V.cell? ⟨w.heap.size, 1, none⟩ = some (.slice ag m cg) := by rw [← hV]; exact al_new rfl
  have hbV : Below w.heap.size w V := by rw [← hV]; exact below_al (Below.refl _ _) _
  clear hV
  have hfV := Lib.hid (hfH.out.below hbV)
  have hgV := Lib.hid (hgH.out.below hbV)
  have hbVH := Lib.hid hbV
  clear hbV hfH hgH
  go_region_held3 (fun w' => w'.cell? ⟨w.heap.size, 0, none⟩ = some (.slice af m cf) ∧ w'.cell? ⟨w.heap.size, 1, none⟩ = some (.slice ag m cg))
    (first | (exact ⟨c0, c1⟩) | (exact ⟨d0, d1⟩) | (exact ⟨f0, f1⟩))
    (first
      | (go_at_call 10; go_loud (refine (bestP_any af ag cf cg m fl gs _ (IZ.below (w := V) hfV.out (by repeat (first | (with_reducible exact Below.refl _ _) | (with_reducible refine Below.drew ?_)))) (IMx.below (w := V) hgV.out (by repeat (first | (with_reducible exact Below.refl _ _) | (with_reducible refine Below.drew ?_)))) hflH.out hglH.out hm hm1 hfbH.out hokH.out).mono ?_); rintro e w2 ⟨g, us, rfl, hul, hrun, hZ, hb2⟩; have d0 := Below.cellAt hb2 (Nat.le_refl _) c0; have d1 := Below.cellAt hb2 (Nat.le_refl _) c1; have hbw2 : Below V.heap.size V w2 := bseqJ (by repeat (first | (with_reducible exact Below.refl _ _) | (with_reducible refine Below.drew ?_))) hb2; have hulH := Lib.hid hul; have hrunH := Lib.hid hrun; have hZH := Lib.hid hZ.iz; clear hul hrun hZ hb2)
      | (go_at_call 11; go_loud (refine (worthP_any af ag (some ⟨g, 0, none⟩) cf cg m m gs us _ (IMx.below (w := V) hgV.out (by repeat (first | (with_reducible exact hbw2) | (with_reducible refine Below.drew ?_)))) (IZ.below (w := w2) hZH.out (by repeat (first | (with_reducible exact Below.refl _ _) | (with_reducible refine Below.drew ?_)))) hglH.out hulH.out hm hokH.out z (hzH.out us hulH.out hrunH.out)).mono ?_); rintro e w3 ⟨rfl, hb3⟩; have f0 := Below.cellAt hb3 (Nat.le_refl _) d0; have f1 := Below.cellAt hb3 (Nat.le_refl _) d1; have hbw3 : Below V.heap.size V w3 := bseqJ (by repeat (first | (with_reducible exact hbw2) | (with_reducible refine Below.drew ?_))) hb3; clear hb3))
  all_goals (
    go_wp2_with (fail)
    go_ret
    exact ⟨rfl, bseqJ hbVH.out hbw3⟩)
end Go.Proofs.Ytkecdjdggkpdpaa

/- Walks of water's part, read. -/
namespace Go.Proofs.Ytkecdjdggkpdpaa
open Go Go.RowKit Go.Proofs

set_option maxHeartbeats 1600000 in
theorem partP_any (bf of bg og cf cg m t : Nat) (w : World) (ht : t ≤ m) (h1 : m ≤ cf) (h2 : m ≤ cg) (hm : m ≤ 8) :
    Calls Try.prog 12 #[.agg #[.slice (some ⟨bf, of, none⟩) m cf, .slice (some ⟨bg, og, none⟩) m cg], .int .i64 0, .int .i64 (t : Nat)] w (fun e w' => e = .returned (.agg #[.slice (some ⟨bf, of, none⟩) t cf, .slice (some ⟨bg, og, none⟩) t cg]) ∧ Below w.heap.size w w') := by
  have ht0 : (0 : Int) ≤ (t : Int) := by omega
  have htf : (t : Int) ≤ (cf : Int) := by omega
  have htg : (t : Int) ≤ (cg : Int) := by omega
  have htf' : t ≤ cf := by omega
  have htg' : t ≤ cg := by omega
  go_enter Try.func12, Try.ntmps12
  go_wp2_with (fail)
  go_region
  go_wp2_with (fail)
  obtain ⟨V, hV⟩ : ∃ V, w.alloc (.cells #[.slice (some ⟨bf, of, none⟩) m cf, .slice (some ⟨bg, og, none⟩) m cg] 42) = V := ⟨_, rfl⟩
  have hVs : V.heap.size = w.heap.size + 1 := by rw [← hV]; simp
  have hbV : Below w.heap.size w V := by rw [← hV]; exact below_al (Below.refl _ _) _
  rw [hV]
  obtain ⟨W, hW⟩ : ∃ W, (V.alloc (.cells #[.slice (some ⟨bf, of, none⟩) t cf, .slice (some ⟨bg, og, none⟩) t cg] 42)).drew = W := ⟨_, rfl⟩
  have c0 : W.cell? ⟨w.heap.size + 1, 0, none⟩ = some (.slice (some ⟨bf, of, none⟩) t cf) := by rw [← hW]; exact al_new hVs.symm
  have c1 : W.cell? ⟨w.heap.size + 1, 1, none⟩ = some (.slice (some ⟨bg, og, none⟩) t cg) := by rw [← hW]; exact al_new hVs.symm
  have hbW : Below w.heap.size w W := by rw [← hW]; exact Below.drew (below_al hbV _)
  rw [hW]
  clear hV hW
  refine bodyPost_ret (v := .agg #[.slice (some ⟨bf, of, none⟩) t cf, .slice (some ⟨bg, og, none⟩) t cg]) (by simp [results, Try.results12, go_sem, c0, c1]) rfl ?_
  exact ⟨rfl, hbW⟩
theorem Fall.step {l : List Nat} (h : Fall l) {j : Nat} (hj : j + 1 < l.length) : fnN l (j + 1) ≤ fnN l j := by
  have h1 := (List.pairwise_iff_getElem.1 h) j (j + 1) (by omega) hj (by omega)
  unfold fnN
  rw [List.getElem?_eq_getElem hj, List.getElem?_eq_getElem (by omega)]
  exact h1
theorem nz_len (l : List Nat) : (nz l).length = l.length := by unfold nz; rw [List.length_map]
theorem nz_rng {l : List Nat} {B : Nat} (h : ∀ x ∈ l, x ≤ B) : ∀ x ∈ nz l, (0 : Int) ≤ x ∧ x ≤ (B : Nat) := fun x hx => by
  obtain ⟨y, hy, rfl⟩ := List.mem_map.1 hx
  have := h y hy
  omega
set_option maxHeartbeats 3200000 in
theorem readP_any (af ag : Option Addr) (cf cg m : Nat) (fl : List Nat) (gs : List (List Nat)) (w : World) (hf : IZ w af (nz fl)) (hg : IMx w ag (gs.map nz)) (hfl : fl.length = m) (hgl : gs.length = m) (hm : m ≤ 8) (hm1 : 1 ≤ m) (hfb : ∀ x ∈ fl, x ≤ 30) (hok : okG gs) (hfa : ∀ k, Fall (fnG gs k)) :
    Calls Try.prog 9 #[.slice af m cf, .slice ag m cg] w (fun e w' => e = .returned (.tuple #[.agg #[.slice af m cf, .slice ag m cg], .bool true]) ∧ Below w.heap.size w w') := by
  have hfH := Lib.hid hf
  have hgH := Lib.hid hg
  have hflH := Lib.hid (show (nz fl).length = m by rw [nz_len]; exact hfl)
  have hglH := Lib.hid hgl
  have hfbH := Lib.hid (nz_rng hfb)
  have hokH := Lib.hid hok
  have hfaH := Lib.hid hfa
  have d1 : decide ((m : Int) < 1) = false := by simp; omega
  have d2 : decide ((8 : Int) < (m : Int)) = false := by simp; omega
  clear hf hg hfl hgl hfb hok hfa
  go_enter Try.func9, Try.ntmps9
  go_wp2_with (go_at_call 20; go_loud (refine (withinP_any af m cf 30 (nz fl) _ (hfH.out.below (below_al (Below.refl _ _) _)) hflH.out (by omega) hfbH.out).mono ?_); rintro e w1 ⟨rfl, hb1⟩; have hb1H := Lib.hid hb1; clear hb1)
  go_loopg [32] m (fun gk iv wr => ∃ k : Nat, iv = .int .i64 (k : Nat) ∧ k + gk = m ∧ Below w.heap.size w wr ∧ Blk wr w.heap.size 42 [.slice none 0 0, .slice none 0 0])
  case atStart => exact ⟨0, rfl, by omega, bseqJ (below_al (Below.refl _ _) _) hb1H.out, by
    have h0 : Blk (w.alloc (.cells #[.slice none 0 0, .slice none 0 0] 42)) w.heap.size 42 [.slice none 0 0, .slice none 0 0] := heap_alloc_new w (Obj.cells #[.slice none 0 0, .slice none 0 0] 42)
    exact h0.later hb1H.out⟩
  case round =>
    obtain ⟨k, rfl, hk, hbl, hB⟩ := hrel
    have hblH := Lib.hid hbl
    have hBH := Lib.hid hB
    clear hb1H hB
    by_cases hkm : k < m
    · obtain ⟨g2, rfl⟩ : ∃ g2, gk = g2 + 1 := ⟨gk - 1, by omega⟩
      obtain ⟨b1, o1, ar, cr, rfl, c2, hrc, hrI⟩ := (hgH.out.below hbl).rowN (show k < gs.length by rw [hglH.out]; exact hkm)
      obtain ⟨L, hL⟩ : ∃ L, fnG gs k = L := ⟨_, rfl⟩
      obtain ⟨n, hn⟩ : ∃ n, L.length = n := ⟨_, rfl⟩
      have hok := hokH.out.at k
      have hfa := hfaH.out k
      rw [hL] at hok hfa hrI
      rw [hL, hn] at c2 hrc
      have hn20 : n ≤ 20 := by rw [← hn]; exact hok.1
      have d3 : decide ((20 : Int) < (n : Int)) = false := by simp; omega
      have hk0 : (0 : Int) ≤ (k : Int) := by omega
      have hkI : (k : Int) < (m : Int) := by omega
      have hrH := Lib.hid hrI
      have hfaL := Lib.hid hfa
      have hnH := Lib.hid hn
      have hnz := Lib.hid (show (nz L).length = n by rw [nz_len]; exact hn)
      have hrg := Lib.hid (nz_rng hok.2)
      clear hrI hfa hn hok hL hbl
      go_wp2_with (go_at_call 20; go_loud (refine (withinP_any ar n cr 1000 (nz L) _ hrH.out hnz.out (by omega) hrg.out).mono ?_); rintro e w2 ⟨rfl, hb2⟩; have hb2H := Lib.hid hb2; clear hb2)
      have hr2H := Lib.hid (hrH.out.below hb2H.out)
      have hbw2 := Lib.hid (bseqJ hblH.out hb2H.out)
      have hB2 := Lib.hid (hBH.out.later hb2H.out)
      clear hrH hb2H hblH hBH c2
      obtain ⟨wq, hwq⟩ : ∃ wq, wq = w2 := ⟨_, rfl⟩
      subst hwq
      go_loopg [8] (n + 1) (fun gj jv wx => ∃ j : Nat, jv = .int .i64 (j : Nat) ∧ 1 ≤ j ∧ j + gj = n + 2 ∧ Below wq.heap.size wq wx)
      case atStart => exact ⟨1, rfl, by omega, by omega, Below.refl _ _⟩
      case round =>
        obtain ⟨j, rfl, hj1, hj, hbx⟩ := hrel
        have hbxH := Lib.hid hbx
        clear hbx
        by_cases hjn : j < n
        · obtain ⟨g3, rfl⟩ : ∃ g3, gk = g3 + 1 := ⟨gk - 1, by omega⟩
          obtain ⟨q, rfl⟩ : ∃ q, j = q + 1 := ⟨j - 1, by omega⟩
          obtain ⟨b3, o3, rfl, c4⟩ := (hr2H.out.below hbxH.out) (q + 1) _ (nz_fn (by rw [hnH.out]; exact hjn))
          obtain ⟨b4, o4, e0, c5⟩ := (hr2H.out.below hbxH.out) q _ (nz_fn (by rw [hnH.out]; omega))
          injection e0 with e0
          injection e0 with e1 e2
          subst e1 e2
          have hst := hfaL.out.step (j := q) (by rw [hnH.out]; exact hjn)
          obtain ⟨x, hx⟩ : ∃ x, fnN L (q + 1) = x := ⟨_, rfl⟩
          obtain ⟨y, hy⟩ : ∃ y, fnN L q = y := ⟨_, rfl⟩
          rw [hx, hy] at hst
          rw [hx] at c4
          rw [hy] at c5
          have d4 : decide ((y : Int) < (x : Int)) = false := by simp; omega
          have hj0 : (0 : Int) ≤ ((q + 1 : Nat) : Int) := by omega
          have hjI : ((q + 1 : Nat) : Int) < (n : Int) := by omega
          have hq0 : (0 : Int) ≤ (q : Int) := by omega
          have hqI : (q : Int) < (n : Int) := by omega
          have hw : IntKind.i64.wrap (((q + 1 : Nat) : Int) - 1) = (q : Int) := by rw [IntKind.wrap_i64]; omega
          clear hx hy
          go_wp2_with (fail)
          go_quiet (fail)
          clear hw
          go_wp2_with (fail)
          go_roundg g3
          case measure => omega
          case rel => exact ⟨q + 1 + 1, by go_num, by omega, by omega, bdn hbxH.out⟩
        · have hjI : ¬ (j : Int) < (n : Int) := by omega
          go_wp2_with (fail)
          go_roundg g2
          case measure => omega
          case rel => exact ⟨k + 1, by go_num, by omega, bseqJ hbw2.out hbxH.out, hB2.out.later hbxH.out⟩
    · obtain rfl : k = m := by omega
      have f0 := Blk.frozen hBH.out 0
      have f1 := Blk.frozen hBH.out 1
      have g0 : wr.cell? ⟨w.heap.size, 0, none⟩ = some (.slice none 0 0) := Blk.cell hBH.out 0
      have g1 : wr.cell? ⟨w.heap.size, 1, none⟩ = some (.slice none 0 0) := Blk.cell hBH.out 1
      have hb1 : w.heap.size < wr.heap.size := Blk.lt hBH.out
      go_wp2_with (fail)
      have hB3 := Blk.set (Blk.set hBH.out 0 (.slice af k cf)) 1 (.slice ag k cg)
      have hb3 : Below w.heap.size w ((wr.setCell ⟨w.heap.size, 0, none⟩ (.slice af k cf)).setCell ⟨w.heap.size, 1, none⟩ (.slice ag k cg)) := (hblH.out.setCell (Nat.le_refl _) _).setCell (Nat.le_refl _) _
      obtain ⟨W, hW⟩ : ∃ W, (wr.setCell ⟨w.heap.size, 0, none⟩ (.slice af k cf)).setCell ⟨w.heap.size, 1, none⟩ (.slice ag k cg) = W := ⟨_, rfl⟩
      rw [hW] at hB3 hb3 ⊢
      have c0 : W.cell? ⟨w.heap.size, 0, none⟩ = some (.slice af k cf) := Blk.cell hB3 0
      have c1 : W.cell? ⟨w.heap.size, 1, none⟩ = some (.slice ag k cg) := Blk.cell hB3 1
      clear hW hB3
      refine bodyPost_ret (v := .tuple #[.agg #[.slice af k cf, .slice ag k cg], .bool true]) (by simp [results, Try.results9, go_sem, c0, c1]) rfl ?_
      exact ⟨rfl, hb3⟩
end Go.Proofs.Ytkecdjdggkpdpaa

/- Walks of water's Best, Shares. -/
namespace Go.Proofs.Ytkecdjdggkpdpaa
open Go Go.RowKit Go.Proofs

set_option maxHeartbeats 1600000 in
theorem bestF_any (af ag : Option Addr) (cf cg m : Nat) (fl : List Nat) (gs : List (List Nat)) (z : Int) (w : World) (hf : IZ w af (nz fl)) (hg : IMx w ag (gs.map nz)) (hfl : fl.length = m) (hgl : gs.length = m) (hm : m ≤ 8) (hm1 : 1 ≤ m) (hfb : ∀ x ∈ fl, x ≤ 30) (hok : okG gs) (hfa : ∀ k, Fall (fnG gs k)) (hz : ValW fl gs m z) :
    Calls Try.prog 4 #[.slice af m cf, .slice ag m cg] w (fun e w' => ∃ (g : Nat) (us : List Nat), e = .returned (.tuple #[.slice (some ⟨g, 0, none⟩) m m, .int .i64 z, .int .i64 0]) ∧ us.length = m ∧ RunW m (fnN fl) (fnG gs) (fun _ => 0) (fnN us) ∧ Below w.heap.size w w') := by
  have hrd := Lib.hid (readP_any af ag cf cg m fl gs w hf hg hfl hgl hm hm1 hfb hok hfa)
  have hfH := Lib.hid hf
  have hgH := Lib.hid hg
  have hflH := Lib.hid hfl
  have hglH := Lib.hid hgl
  have hfbH := Lib.hid hfb
  have hokH := Lib.hid hok
  have hzH := Lib.hid hz
  clear hf hg hfl hgl hfb hok hz hfa
  go_enter Try.func4, Try.ntmps4
  go_wp2_with (first
    | (go_at_call 9; go_loud (refine hrd.out.mono ?_); rintro e w1 ⟨rfl, hb1⟩; have hb1H := Lib.hid hb1; clear hb1)
    | (go_at_call 10; go_loud (refine (bestP_any af ag cf cg m fl gs _ (hfH.out.below (below_al hb1H.out _)) (hgH.out.below (below_al hb1H.out _)) hflH.out hglH.out hm hm1 hfbH.out hokH.out).mono ?_); rintro e w2 ⟨g, us, rfl, hul, hrun, hZ, hb2⟩; have d0 : w2.cell? ⟨w1.heap.size, 0, none⟩ = some (.slice af m cf) := Below.cellAt hb2 (Nat.le_refl _) (al_new rfl); have d1 : w2.cell? ⟨w1.heap.size, 1, none⟩ = some (.slice ag m cg) := Below.cellAt hb2 (Nat.le_refl _) (al_new rfl); have hbw2 := Lib.hid (bseqJ (below_al hb1H.out _) hb2); have hulH := Lib.hid hul; have hrunH := Lib.hid hrun; have hZH := Lib.hid hZ.iz; clear hul hrun hZ hb2)
    | (go_at_call 11; go_loud (refine (worthP_any af ag (some ⟨g, 0, none⟩) cf cg m m gs us _ (hgH.out.below hbw2.out) hZH.out hglH.out hulH.out hm hokH.out z (hzH.out us hulH.out hrunH.out)).mono ?_); rintro e w3 ⟨rfl, hb3⟩; have hbw3 := Lib.hid (bseqJ hbw2.out hb3); clear hb3))
  refine bodyPost_ret (results_tmp3 rfl _ _ _) rfl ?_
  exact ⟨g, us, rfl, hulH.out, hrunH.out, hbw3.out⟩
end Go.Proofs.Ytkecdjdggkpdpaa

/- Plain: what a river is worth is one number. Walk of water's Shares. -/
namespace Go.Proofs.Ytkecdjdggkpdpaa
open Go Go.RowKit Go.Proofs

theorem okG.run {gs : List (List Nat)} (h : okG gs) (hfa : ∀ k, Fall (fnG gs k)) (m : Nat) : ∀ i, i < m → Fall (fnG gs i) ∧ ∀ x ∈ fnG gs i, x ≤ 1000 := fun i _ => ⟨hfa i, (h.at i).2⟩
theorem poss_zero (m : Nat) (F : Nat → Nat) : Poss m F (fun _ => 0) := fun k _ => by rw [pre_zero]; exact Nat.zero_le _
theorem run_same {m : Nat} {F : Nat → Nat} {gs : List (List Nat)} (h : okG gs) (hfa : ∀ k, Fall (fnG gs k)) {u v : Nat → Nat} (hu : RunW m F (fnG gs) (fun _ => 0) u) (hv : RunW m F (fnG gs) (fun _ => 0) v) : worthW m (fnG gs) u = worthW m (fnG gs) v :=
  Nat.le_antisymm (hv.best (h.run hfa m) (hu.poss (poss_zero m F))) (hu.best (h.run hfa m) (hv.poss (poss_zero m F)))
theorem valW_ex {fl : List Nat} {gs : List (List Nat)} (m : Nat) (h : okG gs) (hfa : ∀ k, Fall (fnG gs k)) : ∃ z : Nat, z ≤ m * 20000 ∧ ValW fl gs m (z : Int) := by
  by_cases hx : ∃ us : List Nat, us.length = m ∧ RunW m (fnN fl) (fnG gs) (fun _ => 0) (fnN us)
  · obtain ⟨us, h1, h2⟩ := hx
    exact ⟨worthW m (fnG gs) (fnN us), worth_bound h _ m, fun vs _ hv => by rw [run_same h hfa hv h2]⟩
  · exact ⟨0, Nat.zero_le _, fun vs h1 h2 => absurd ⟨vs, h1, h2⟩ hx⟩
theorem run_filled {m : Nat} {F : Nat → Nat} {gs : List (List Nat)} (h : okG gs) (hfa : ∀ k, Fall (fnG gs k)) {u : Nat → Nat} (hu : RunW m F (fnG gs) (fun _ => 0) u) : Filled m 1000 F (fnG gs) u := fun t _ => hu.fills (fun i hi => (h.run hfa m i hi).1) (poss_zero m F) t (fun i _ => Nat.zero_le _)
/-- The first places of a river. -/
theorem nz_take (l : List Nat) (t : Nat) : nz (l.take t) = (nz l).take t := by unfold nz; rw [List.map_take]
theorem okG.take {gs : List (List Nat)} (h : okG gs) (t : Nat) : okG (gs.take t) := fun l hl => h l (List.mem_of_mem_take hl)
theorem fall_take {gs : List (List Nat)} (h : ∀ k, Fall (fnG gs k)) (t : Nat) : ∀ k, Fall (fnG (gs.take t) k) := fun k => by
  unfold fnG
  rw [List.getElem?_take]
  split
  · exact h k
  · exact List.Pairwise.nil
/-- The shares of a river. -/
def sharesW (zv : Nat → Nat) (t : Nat) : List Int := (List.range t).map fun j => (zv (j + 1) : Int) - (zv j : Int)
theorem shares_len (zv : Nat → Nat) (t : Nat) : (sharesW zv t).length = t := by unfold sharesW; simp
theorem shares_step (zv : Nat → Nat) (t : Nat) : sharesW zv (t + 1) = sharesW zv t ++ [(zv (t + 1) : Int) - (zv t : Int)] := by unfold sharesW; rw [List.range_succ, List.map_append]; rfl
theorem shares_sum (zv : Nat → Nat) (h0 : zv 0 = 0) : ∀ t, (sharesW zv t).sum = (zv t : Int)
  | 0 => by simp [sharesW, h0]
  | t + 1 => by rw [shares_step, List.sum_append, shares_sum zv h0 t]; simp; omega
set_option maxHeartbeats 3200000 in
theorem sharesP_any (bf of bg og cf cg m : Nat) (fl : List Nat) (gs : List (List Nat)) (zv : Nat → Nat) (w : World) (hf : IZ w (some ⟨bf, of, none⟩) (nz fl)) (hg : IMx w (some ⟨bg, og, none⟩) (gs.map nz)) (hfl : fl.length = m) (hgl : gs.length = m) (hm : m ≤ 8) (hm1 : 1 ≤ m) (hcf : m ≤ cf) (hcg : m ≤ cg) (hfb : ∀ x ∈ fl, x ≤ 30) (hok : okG gs) (hfa : ∀ k, Fall (fnG gs k)) (h0 : zv 0 = 0) (hzb : ∀ t, zv t ≤ 160000) (hz : ∀ t, 1 ≤ t → t ≤ m → ValW (fl.take t) (gs.take t) t (zv t : Nat)) :
    Calls Try.prog 5 #[.slice (some ⟨bf, of, none⟩) m cf, .slice (some ⟨bg, og, none⟩) m cg] w (fun e w' => ∃ (a : Option Addr) (c : Nat), e = .returned (.tuple #[.slice a m c, .int .i64 0]) ∧ IZ w' a (sharesW zv m) ∧ Below w.heap.size w w') := by
  have hrd := Lib.hid (readP_any (some ⟨bf, of, none⟩) (some ⟨bg, og, none⟩) cf cg m fl gs w hf hg hfl hgl hm hm1 hfb hok hfa)
  have hval := Lib.hid (fun (t : Nat) (W : World) (h1 : 1 ≤ t) (ht : t ≤ m) (hb : Below w.heap.size w W) => valueP_any (some ⟨bf, of, none⟩) (some ⟨bg, og, none⟩) cf cg t (fl.take t) (gs.take t) (zv t : Nat) W (by rw [nz_take]; exact (hf.below hb).take t) (by rw [List.map_take]; exact (hg.below hb).take t) (by rw [List.length_take]; omega) (by rw [List.length_take]; omega) (by omega) h1 (fun x hx => hfb x (List.mem_of_mem_take hx)) (hok.take t) (hz t h1 ht))
  have hzbH := Lib.hid hzb
  have h0H := Lib.hid h0
  clear hf hg hfl hgl hfb hok hfa hz hzb h0
  go_enter Try.func5, Try.ntmps5
  go_wp2_with (go_at_call 9; go_loud (refine hrd.out.mono ?_); rintro e w1 ⟨rfl, hb1⟩; have hb1H := Lib.hid hb1; clear hb1)
  go_loopg [8, 9, 22] m (fun gk ov bv iv wr => ∃ (k : Nat) (v : Value), v = ov ∧ bv = .int .i64 (zv k : Nat) ∧ iv = .int .i64 (k : Nat) ∧ k + gk = m ∧ ZE wr (w1.heap.size + 1) v (sharesW zv k) ∧ Below w.heap.size w wr ∧ wr.cell? ⟨w1.heap.size, 0, none⟩ = some (.slice (some ⟨bf, of, none⟩) m cf) ∧ wr.cell? ⟨w1.heap.size, 1, none⟩ = some (.slice (some ⟨bg, og, none⟩) m cg))
  case atStart => exact ⟨0, _, rfl, by rw [h0H.out]; rfl, rfl, by omega, ZE.nil _ _, below_al hb1H.out _, al_new rfl, al_new rfl⟩
  case round =>
    obtain ⟨k, v, rfl, rfl, rfl, hk, hZ, hbl, c0, c1⟩ := hrel
    have hZH := Lib.hid hZ
    have hblH := Lib.hid hbl
    obtain ⟨av, cv, hv⟩ := hZ.shape
    rw [shares_len] at hv
    subst hv
    have hlk := Lib.hid (shares_len zv k)
    clear hZ
    by_cases hkm : k < m
    · obtain ⟨g2, rfl⟩ : ∃ g2, gk = g2 + 1 := ⟨gk - 1, by omega⟩
      have hkI : (k : Int) < (m : Int) := by omega
      have hk0 : (0 : Int) ≤ (k : Int) := by omega
      have z1 := hzbH.out k
      have z2 := hzbH.out (k + 1)
      have hstep := Lib.hid (shares_step zv k)
      obtain ⟨x, hx⟩ : ∃ x, zv (k + 1) = x := ⟨_, rfl⟩
      obtain ⟨y, hy⟩ : ∃ y, zv k = y := ⟨_, rfl⟩
      rw [hx] at z2
      rw [hy] at z1 ⊢
      have hxH := Lib.hid hx
      have hyH := Lib.hid hy
      have hw : IntKind.i64.wrap ((x : Int) - (y : Int)) = (x : Int) - (y : Int) := by rw [IntKind.wrap_i64]; omega
      have hw2 : IntKind.i64.wrap ((k : Int) + 1) = ((k + 1 : Nat) : Int) := by rw [IntKind.wrap_i64]; omega
      clear hx hy
      go_wp2_with (first
        | (go_at_call 12; go_loud (refine (partP_any bf of bg og cf cg m (k + 1) _ (by omega) hcf hcg hm).mono ?_); rintro e w2 ⟨rfl, hb2⟩; have hbw2 := Lib.hid (bseqJ hblH.out hb2); have d0 := Below.cellAt hb2 (Nat.le_refl _) c0; have d1 := Below.cellAt hb2 (Nat.le_refl _) c1; have hZ2 := Lib.hid (hZH.out.below hb2); clear hb2)
        | (go_at_call 13; go_loud (refine (hval.out (k + 1) _ (by omega) (by omega) hbw2.out).mono ?_); rintro e w3 ⟨rfl, hb3⟩; have hbw3 := Lib.hid (bseqJ hbw2.out hb3); have e0 := Below.cellAt hb3 (Nat.le_refl _) d0; have e1 := Below.cellAt hb3 (Nat.le_refl _) d1; have hZ3 := Lib.hid (hZ2.out.below hb3); rw [hxH.out]; clear hb3)
        | (at_builtin; go_loud (refine wpList_append_ze _ rfl (.tmp 30) (.tmp 34) _ rfl Try.underlying24 (w1.heap.size + 1) k (.slice av k cv) (sharesW zv k) (by rfl) (hZ3.out.below (below_al (Below.refl _ _) _)) hlk.out (some ⟨w3.heap.size, 0, none⟩) 1 1 [(x : Int) - (y : Int)] (by rfl) (IZ.one (by simp)) rfl (by omega) (by omega) (by have := World.block_lt_of_cell? _ _ e0; simp at this ⊢; omega) ?_); intro v4 w4 hA4; have hA := Lib.hid hA4.1; have hbA := Lib.hid (Below.trans (below_al hbw3.out _) (hA4.2.1.mono (by have := hb1H.out.size; omega))); have hlt3 := World.block_lt_of_cell? _ _ e0; have hbk := hA4.2.1.block w1.heap.size (Nat.lt_succ_self _); have f0 : w4.cell? ⟨w1.heap.size, 0, none⟩ = some (.slice (some ⟨bf, of, none⟩) m cf) := (World.cell?_of_block (a := ⟨w1.heap.size, 0, none⟩) hbk).trans ((al_old hlt3).trans e0); have f1 : w4.cell? ⟨w1.heap.size, 1, none⟩ = some (.slice (some ⟨bg, og, none⟩) m cg) := (World.cell?_of_block (a := ⟨w1.heap.size, 1, none⟩) hbk).trans ((al_old hlt3).trans e1); clear hA4 hbk))
      go_roundg g2
      case measure => omega
      case rel => exact ⟨k + 1, v4, rfl, by rw [hxH.out], by go_num, by omega, by rw [hstep.out, hxH.out, hyH.out]; exact hA.out, hbA.out, f0, f1⟩
    · obtain rfl : k = m := by omega
      have hkI : ¬ (k : Int) < (k : Int) := by omega
      go_wp2_with (fail)
      refine bodyPost_ret (results_tmp2 rfl _ _ _) rfl ?_
      exact ⟨av, ⟨cv, rfl⟩, hZH.out.iz.1, hblH.out⟩
end Go.Proofs.Ytkecdjdggkpdpaa

/- Plain: what the law TopPieces builds, round by round. -/
namespace Go.Proofs.Ytkecdjdggkpdpaa

theorem slots_congr {G G' : Nat → List Nat} : ∀ {m : Nat}, (∀ k, k < m → G k = G' k) → slotsW G m = slotsW G' m
  | 0, _ => rfl
  | m + 1, h => by
    show slotsW G m ++ _ = slotsW G' m ++ _
    rw [slots_congr fun k hk => h k (by omega), h m (Nat.lt_succ_self m)]
theorem pieces_congr {F F' : Nat → Nat} : ∀ {m : Nat}, (∀ k, k < m → F k = F' k) → piecesW F m = piecesW F' m
  | 0, _ => rfl
  | m + 1, h => by
    show piecesW F m ++ _ = piecesW F' m ++ _
    rw [pieces_congr fun k hk => h k (by omega), h m (Nat.lt_succ_self m)]
theorem fnN_left {l r : List Nat} {k : Nat} (h : k < l.length) : fnN (l ++ r) k = fnN l k := by unfold fnN; rw [List.getElem?_append_left h]
theorem fnN_last (l : List Nat) (v : Nat) : fnN (l ++ [v]) l.length = v := by unfold fnN; simp
theorem fnG_left {l r : List (List Nat)} {k : Nat} (h : k < l.length) : fnG (l ++ r) k = fnG l k := by unfold fnG; rw [List.getElem?_append_left h]
theorem fnG_last (l : List (List Nat)) (v : List Nat) : fnG (l ++ [v]) l.length = v := by unfold fnG; simp
/-- One more place. -/
theorem slots_snoc {gs : List (List Nat)} {m : Nat} (h : gs.length = m) (l : List Nat) : slotsW (fnG (gs ++ [l])) (m + 1) = slotsW (fnG gs) m ++ l.map fun x => (m, x) := by
  show slotsW (fnG (gs ++ [l])) m ++ (fnG (gs ++ [l]) m).map _ = _
  rw [slots_congr fun k hk => fnG_left (by omega), ← h, fnG_last]
theorem pieces_snoc {fl : List Nat} {m : Nat} (h : fl.length = m) (v : Nat) : piecesW (fnN (fl ++ [v])) (m + 1) = piecesW (fnN fl) m ++ List.replicate v m := by
  show piecesW (fnN (fl ++ [v])) m ++ List.replicate (fnN (fl ++ [v]) m) m = _
  rw [pieces_congr fun k hk => fnN_left (by omega), ← h, fnN_last]
/-- How many pieces a place brings. -/
theorem pieces_at (F : Nat → Nat) (j : Nat) : ∀ m, (piecesW F m).count j = if j < m then F j else 0
  | 0 => by simp [piecesW]
  | m + 1 => by
    show (piecesW F m ++ List.replicate (F m) m).count j = _
    rw [List.count_append, pieces_at F j m, List.count_replicate]
    by_cases e : m = j
    · subst e; simp
    · by_cases h : j < m
      · simp [h, e, show j < m + 1 by omega]
      · simp [h, e, show ¬ j < m + 1 by omega]
theorem pieces_lt (F : Nat → Nat) : ∀ {m : Nat}, ∀ a ∈ piecesW F m, a < m
  | 0, a, h => by simp [piecesW] at h
  | m + 1, a, h => by
    have h' : a ∈ piecesW F m ++ List.replicate (F m) m := h
    rcases List.mem_append.1 h' with h1 | h1
    · have := pieces_lt F a h1; omega
    · have := (List.mem_replicate.1 h1).2; omega
/-- The counting loop's step. -/
theorem count_step {P fs : List Nat} {m k a : Nat} (hl : fs.length = m) (hf : ∀ j, j < m → fnN fs j = (P.take k).count j) (ha : P[k]? = some a) (ham : a < m) : ∀ j, j < m → fnN (addU fs a) j = (P.take (k + 1)).count j := fun j hj => by
  rw [addU_fn (by omega), List.take_add_one, ha, List.count_append, ← hf j hj]
  unfold oneM
  by_cases e : j = a
  · subst e; simp
  · rw [if_neg e]; simp [List.count_cons]; omega
/-- The counting loop's end. -/
theorem count_end {fl fs : List Nat} {m : Nat} (hl : fs.length = m) (hfl : fl.length = m) (hf : ∀ j, j < m → fnN fs j = (piecesW (fnN fl) m).count j) : fs = fl := by
  refine List.ext_getElem? fun j => ?_
  by_cases hj : j < m
  · rw [fnN_get (l := fs) (by omega), fnN_get (l := fl) (by omega), hf j hj, pieces_at, if_pos hj]
  · rw [List.getElem?_eq_none (by omega), List.getElem?_eq_none (by omega)]
/-- A cost is the greatest gain without what the pair gains. -/
theorem gn_none {P : List Nat} {S : List (Nat × Nat)} {i j : Nat} (h : P.length ≤ i ∨ S.length ≤ j) : gnW P S i j = 0 := by
  unfold gnW
  rcases h with h | h
  · rw [List.getElem?_eq_none h]
  · rw [List.getElem?_eq_none h]
    split <;> simp_all
theorem gn_some {P : List Nat} {S : List (Nat × Nat)} {i j a : Nat} {s : Nat × Nat} (h1 : P[i]? = some a) (h2 : S[j]? = some s) : gnW P S i j = if a ≤ s.1 then s.2 else 0 := by
  unfold gnW; rw [h1, h2]
/-- Gains that fall, one more. -/
theorem Fall.snoc {l : List Nat} {x : Nat} (h : Fall l) (hx : ∀ y ∈ l, x ≤ y) : Fall (l ++ [x]) := List.pairwise_append.2 ⟨h, List.pairwise_singleton _ _, fun a ha b hb => by rw [List.mem_singleton] at hb; subst hb; exact hx a ha⟩
end Go.Proofs.Ytkecdjdggkpdpaa

/- An own list of pairs of ints ([][2]int). -/
namespace Go.Proofs.Ytkecdjdggkpdpaa
open Go Go.RowKit Go.Proofs

def slC (S : List (Nat × Nat)) : List Value := S.flatMap fun s => [Value.int .i64 (s.1 : Nat), Value.int .i64 (s.2 : Nat)]
theorem slC_snoc (S : List (Nat × Nat)) (s : Nat × Nat) : slC (S ++ [s]) = slC S ++ [Value.int .i64 (s.1 : Nat), Value.int .i64 (s.2 : Nat)] := by unfold slC; simp
/-- An own list of pairs. -/
def SVW (w : World) (base : Nat) (v : Value) (S : List (Nat × Nat)) : Prop := w.ownsRow base 29 2 v S.length (slC S)
theorem SVW.nil (w : World) (base : Nat) : SVW w base (.slice none 0 0) [] := World.ownsRow_nil _ _ _ _
theorem SVW.below {w w' : World} {base : Nat} {v : Value} {S : List (Nat × Nat)} (h : SVW w base v S) (hb : Below w.heap.size w w') : SVW w' base v S := by
  refine ⟨h.1, ?_⟩
  rcases h.2 with h' | ⟨g', cap', cur, hv, h1, hg, h2⟩
  · exact .inl h'
  · exact .inr ⟨g', cap', cur, hv, h1, by rw [hb.block g' (Array.getElem?_eq_some_iff.1 hg).1]; exact hg, h2⟩
theorem info_2int : (Try.prog.info? 29).map (fun i => (i.zero, i.size, i.bytes)) = some (some (.agg #[.int .i64 0, .int .i64 0]), 2, 16) := by kernel_rfl
set_option maxRecDepth 100000 in
theorem wpList_append_sl (w : World) {ops : Array Oper} {rest : List Oper} {o : Oper} {a : Act} {Q : Exit → Act → World → Prop} (hg : o.guard = none) (s x : Operand) (t : TypeId)
    (ho : o.op = .call { callee := .builtin .append, args := #[s, x], argTypes := #[t, t] }) (ht : Try.prog.underlying t = some (.slice 29)) (base n : Nat) (v : Value) (S : List (Nat × Nat)) (p q : Nat) (hs : a.eval s = v) (hv : SVW w base v S)
    (hn : S.length = n) (g0 : Nat) (hx : a.eval x = .slice (some ⟨g0, 0, none⟩) 1 1) (hb : n ≤ 1000000000000) (hbs : base ≤ w.heap.size) (c0 : w.cell? ⟨g0, 0, none⟩ = some (.int .i64 (p : Nat))) (c1 : w.cell? ⟨g0, 1, none⟩ = some (.int .i64 (q : Nat)))
    (hK : ∀ v' w', SVW w' base v' (S ++ [(p, q)]) → w.grownBy w' v.ownBlock → (v'.ownBlock = v.ownBlock ∨ v'.ownBlock = some w.heap.size) → wpList Try.prog ops Q rest (a.put o.dst v') w') : wpList Try.prog ops Q (o :: rest) a w := by
  obtain ⟨i, h2, h3, h4, h5⟩ := info_parts info_2int
  subst hn
  refine wpList_append_own_at w hg s x t ho base 29 i _ 2 16 ht h2 h3 h4 h5 rfl (by omega) v S.length _ hs hv ⟨g0, 0, none⟩ 1 1 [Value.int .i64 (p : Nat), Value.int .i64 (q : Nat)] hx (by simp) ?_ ?_ (by unfold maxLen; omega) (by omega) hbs ?_
  · intro j u hu
    rw [Addr.add_lit, Nat.zero_add]
    rcases j with _ | _ | j
    · rw [c0]; exact hu
    · rw [c1]; exact hu
    · simp at hu
  · intro u hu
    simp at hu
    rcases hu with rfl | rfl <;> rfl
  · intro v' w' h6 h7 _ h8
    refine hK v' w' ?_ h7 h8
    unfold SVW
    rw [slC_snoc, List.length_append]; exact h6
theorem slC_at : ∀ {S : List (Nat × Nat)} {i : Nat} {s : Nat × Nat}, S[i]? = some s → (slC S)[2 * i]? = some (Value.int .i64 (s.1 : Nat)) ∧ (slC S)[2 * i + 1]? = some (Value.int .i64 (s.2 : Nat))
  | [], i, s, h => by simp at h
  | r :: S, 0, s, h => by
    simp at h
    subst h
    exact ⟨rfl, rfl⟩
  | r :: S, i + 1, s, h => by
    obtain ⟨h1, h2⟩ := slC_at (S := S) (i := i) (s := s) (by simpa using h)
    have e : slC (r :: S) = Value.int .i64 (r.1 : Nat) :: Value.int .i64 (r.2 : Nat) :: slC S := rfl
    rw [e, show 2 * (i + 1) = 2 * i + 1 + 1 by omega]
    exact ⟨by simpa using h1, by simpa using h2⟩
theorem slC_len (S : List (Nat × Nat)) : (slC S).length = 2 * S.length := by
  induction S with
  | nil => rfl
  | cons r S ih => show (slC S).length + 1 + 1 = _; rw [ih, List.length_cons]; omega
theorem SVW.shape {w : World} {base : Nat} {v : Value} {S : List (Nat × Nat)} (h : SVW w base v S) : ∃ ao c, v = .slice ao S.length c := own_shape h
theorem SVW.at {w : World} {base n c : Nat} {a : Option Addr} {S : List (Nat × Nat)} (h : SVW w base (.slice a n c) S) {i : Nat} {s : Nat × Nat} (hs : S[i]? = some s) :
    ∃ g, a = some ⟨g, 0, none⟩ ∧ w.cell? ⟨g, 0 + i * 2, none⟩ = some (.int .i64 (s.1 : Nat)) ∧ w.cell? ⟨g, 0 + i * 2 + 1, none⟩ = some (.int .i64 (s.2 : Nat)) := by
  have hi : i < S.length := (List.getElem?_eq_some_iff.1 hs).1
  have ho : w.ownsRow base 29 2 (.slice a n c) S.length (slC S) := h
  obtain ⟨h1, h2⟩ := slC_at hs
  rcases ho.2 with ⟨_, h2⟩ | ⟨g', cap', cur, hv, _⟩
  · omega
  · injection hv with e1 e2 e3
    subst e1 e3
    rw [e2] at ho
    refine ⟨g', rfl, ?_, ?_⟩
    · rw [Nat.zero_add, Nat.mul_comm i 2, ← h1]
      exact ho.cellAt (2 * i) (by omega)
    · rw [Nat.zero_add, Nat.mul_comm i 2, ← h2]
      exact ho.cellAt (2 * i + 1) (by omega)
theorem SVW.lit0 (w : World) (base : Nat) (hb : base ≤ w.heap.size) : SVW (w.alloc (.cells #[] 29)) base (.slice (some ⟨w.heap.size, 0, none⟩) 0 0) [] :=
  World.ownsRow_lit (base := base) (size := 2) (e := 29) w #[] 0 hb (by unfold maxLen; omega) rfl
/-- An own list stays while another one grows. -/
theorem own_stays {w w' : World} {base size n : Nat} {e : TypeId} {v : Value} {xs : List Value} {b : Option Nat} (h : w.ownsRow base e size v n xs) (hg : w.grownBy w' b) (hne : ∀ k, v.ownBlock = some k → some k ≠ b) : w'.ownsRow base e size v n xs := by
  refine ⟨h.1, ?_⟩
  rcases h.2 with h' | ⟨g', cap', cur, hv, h1, hh, h2⟩
  · exact .inl h'
  · refine .inr ⟨g', cap', cur, hv, h1, ?_, h2⟩
    rw [hg.block g' (Array.getElem?_eq_some_iff.1 hh).1 (hne g' (by rw [hv]; rfl))]
    exact hh
end Go.Proofs.Ytkecdjdggkpdpaa

/- The five own lists that the law TopPieces grows side by side. -/
namespace Go.Proofs.Ytkecdjdggkpdpaa
open Go Go.RowKit Go.Proofs

/-- Own blocks differ. -/
def Apart (v u : Value) : Prop := ∀ k, v.ownBlock = some k → some k ≠ u.ownBlock
theorem Apart.symm {v u : Value} (h : Apart v u) : Apart u v := fun k hk e => h k e.symm hk.symm
/-- Behind an append: the new block is the old one or fresh. -/
theorem Apart.turn {w : World} {v v' u : Value} (h : Apart v u) (hv : v'.ownBlock = v.ownBlock ∨ v'.ownBlock = some w.heap.size) (hu : ∀ k, u.ownBlock = some k → k < w.heap.size) : Apart v' u := fun k hk e => by
  rcases hv with hv | hv
  · exact h k (by rw [← hv]; exact hk) e
  · rw [hv] at hk
    injection hk with hk
    have := hu k e.symm
    omega
/-- Five lists: f, g, pieces, slots and the row under way. -/
structure Five (w : World) (base : Nat) (vf vg vp vs vl : Value) (F : List Int) (R : List Value) (C : List (List Int)) (P : List Int) (S : List (Nat × Nat)) (L : List Int) : Prop where
  f : ZI w base vf F
  g : w.ownsRow base 24 1 vg C.length R
  rows : Rows2 w R C
  rf : ∀ r ∈ R, Apart r vf
  rp : ∀ r ∈ R, Apart r vp
  rs : ∀ r ∈ R, Apart r vs
  rl : ∀ r ∈ R, Apart r vl
  rg : ∀ r ∈ R, Apart r vg
  p : ZI w base vp P
  s : SVW w base vs S
  l : ZI w base vl L
  fg : Apart vf vg
  fp : Apart vf vp
  fs : Apart vf vs
  fl : Apart vf vl
  gp : Apart vg vp
  gs : Apart vg vs
  gl : Apart vg vl
  ps : Apart vp vs
  pl : Apart vp vl
  sl : Apart vs vl
/-- A row stays while a list grows that is not its own. -/
theorem RowV.stays {w w' : World} {r : Value} {xs : List Int} {b : Option Nat} (h : RowV w r xs) (hg : w.grownBy w' b) (hne : ∀ k, r.ownBlock = some k → some k ≠ b) : RowV w' r xs := by
  obtain ⟨a, c, h1, h2, h3⟩ := h
  refine ⟨a, c, h1, h2, fun i x hx => ?_⟩
  obtain ⟨bk, o, ha, hc⟩ := h3 i x hx
  refine ⟨bk, o, ha, ?_⟩
  rw [World.cell?_of_block (w := w) (a := ⟨bk, o + i, none⟩) (hg.block bk (World.block_lt_of_cell? w ⟨bk, o + i, none⟩ hc) (hne bk (by rw [h1, ha]; rfl)))]
  exact hc
theorem Rows2.stays {w w' : World} {R : List Value} {C : List (List Int)} {b : Option Nat} (h : Rows2 w R C) (hg : w.grownBy w' b) (hne : ∀ r ∈ R, ∀ k, r.ownBlock = some k → some k ≠ b) : Rows2 w' R C :=
  ⟨h.1, fun i v xs h1 h2 => (h.2 i v xs h1 h2).stays hg (hne v (List.mem_of_getElem? h1))⟩
theorem own_lt {w : World} {base size n : Nat} {e : TypeId} {v : Value} {xs : List Value} (h : w.ownsRow base e size v n xs) : ∀ k, v.ownBlock = some k → k < w.heap.size := fun k hk => (World.ownsRow.lt h k hk).2
/-- The pieces grow. -/
theorem Five.putP {w w' : World} {base : Nat} {vf vg vp vs vl vp' : Value} {F : List Int} {R : List Value} {C : List (List Int)} {P P' : List Int} {S : List (Nat × Nat)} {L : List Int} (h : Five w base vf vg vp vs vl F R C P S L) (hr : ∀ r ∈ R, ∀ k, r.ownBlock = some k → k < w.heap.size)
    (hZ : ZI w' base vp' P') (hg : w.grownBy w' vp.ownBlock) (ho : vp'.ownBlock = vp.ownBlock ∨ vp'.ownBlock = some w.heap.size) : Five w' base vf vg vp' vs vl F R C P' S L where
  f := own_stays h.f hg h.fp
  g := own_stays h.g hg h.gp
  rows := h.rows.stays hg fun r hr => h.rp r hr
  rf := h.rf
  rp := fun r hr' => (Apart.turn (h.rp r hr').symm ho (hr r hr')).symm
  rs := h.rs
  rl := h.rl
  rg := h.rg
  p := hZ
  s := own_stays h.s hg h.ps.symm
  l := own_stays h.l hg h.pl.symm
  fg := h.fg
  fp := (Apart.turn h.fp.symm ho (own_lt h.f)).symm
  fs := h.fs
  fl := h.fl
  gp := (Apart.turn h.gp.symm ho (own_lt h.g)).symm
  gs := h.gs
  gl := h.gl
  ps := Apart.turn h.ps ho (own_lt h.s)
  pl := Apart.turn h.pl ho (own_lt h.l)
  sl := h.sl
/-- The counts grow. -/
theorem Five.putF {w w' : World} {base : Nat} {vf vg vp vs vl vf' : Value} {F : List Int} {R : List Value} {C : List (List Int)} {P : List Int} {S : List (Nat × Nat)} {L : List Int} {F' : List Int} (h : Five w base vf vg vp vs vl F R C P S L) (hr : ∀ r ∈ R, ∀ k, r.ownBlock = some k → k < w.heap.size)
    (hZ : ZI w' base vf' F') (hg : w.grownBy w' vf.ownBlock) (ho : vf'.ownBlock = vf.ownBlock ∨ vf'.ownBlock = some w.heap.size) : Five w' base vf' vg vp vs vl F' R C P S L where
  f := hZ
  g := own_stays h.g hg (h.fg.symm)
  p := own_stays h.p hg (h.fp.symm)
  s := own_stays h.s hg (h.fs.symm)
  l := own_stays h.l hg (h.fl.symm)
  rows := h.rows.stays hg fun r hr => h.rf r hr
  rf := fun r hr' => (Apart.turn (h.rf r hr').symm ho (hr r hr')).symm
  rp := h.rp
  rs := h.rs
  rl := h.rl
  rg := h.rg
  fg := Apart.turn h.fg ho (own_lt h.g)
  fp := Apart.turn h.fp ho (own_lt h.p)
  fs := Apart.turn h.fs ho (own_lt h.s)
  fl := Apart.turn h.fl ho (own_lt h.l)
  gp := h.gp
  gs := h.gs
  gl := h.gl
  ps := h.ps
  pl := h.pl
  sl := h.sl
/-- The slots grow. -/
theorem Five.putS {w w' : World} {base : Nat} {vf vg vp vs vl vs' : Value} {F : List Int} {R : List Value} {C : List (List Int)} {P : List Int} {S : List (Nat × Nat)} {L : List Int} {S' : List (Nat × Nat)} (h : Five w base vf vg vp vs vl F R C P S L) (hr : ∀ r ∈ R, ∀ k, r.ownBlock = some k → k < w.heap.size)
    (hZ : SVW w' base vs' S') (hg : w.grownBy w' vs.ownBlock) (ho : vs'.ownBlock = vs.ownBlock ∨ vs'.ownBlock = some w.heap.size) : Five w' base vf vg vp vs' vl F R C P S' L where
  f := own_stays h.f hg (h.fs)
  g := own_stays h.g hg (h.gs)
  p := own_stays h.p hg (h.ps)
  s := hZ
  l := own_stays h.l hg (h.sl.symm)
  rows := h.rows.stays hg fun r hr => h.rs r hr
  rf := h.rf
  rp := h.rp
  rs := fun r hr' => (Apart.turn (h.rs r hr').symm ho (hr r hr')).symm
  rl := h.rl
  rg := h.rg
  fg := h.fg
  fp := h.fp
  fs := (Apart.turn h.fs.symm ho (own_lt h.f)).symm
  fl := h.fl
  gp := h.gp
  gs := (Apart.turn h.gs.symm ho (own_lt h.g)).symm
  gl := h.gl
  ps := (Apart.turn h.ps.symm ho (own_lt h.p)).symm
  pl := h.pl
  sl := Apart.turn h.sl ho (own_lt h.l)
/-- The row grows. -/
theorem Five.putL {w w' : World} {base : Nat} {vf vg vp vs vl vl' : Value} {F : List Int} {R : List Value} {C : List (List Int)} {P : List Int} {S : List (Nat × Nat)} {L : List Int} {L' : List Int} (h : Five w base vf vg vp vs vl F R C P S L) (hr : ∀ r ∈ R, ∀ k, r.ownBlock = some k → k < w.heap.size)
    (hZ : ZI w' base vl' L') (hg : w.grownBy w' vl.ownBlock) (ho : vl'.ownBlock = vl.ownBlock ∨ vl'.ownBlock = some w.heap.size) : Five w' base vf vg vp vs vl' F R C P S L' where
  f := own_stays h.f hg (h.fl)
  g := own_stays h.g hg (h.gl)
  p := own_stays h.p hg (h.pl)
  s := own_stays h.s hg (h.sl)
  l := hZ
  rows := h.rows.stays hg fun r hr => h.rl r hr
  rf := h.rf
  rp := h.rp
  rs := h.rs
  rl := fun r hr' => (Apart.turn (h.rl r hr').symm ho (hr r hr')).symm
  rg := h.rg
  fg := h.fg
  fp := h.fp
  fs := h.fs
  fl := (Apart.turn h.fl.symm ho (own_lt h.f)).symm
  gp := h.gp
  gs := h.gs
  gl := (Apart.turn h.gl.symm ho (own_lt h.g)).symm
  ps := h.ps
  pl := (Apart.turn h.pl.symm ho (own_lt h.p)).symm
  sl := (Apart.turn h.sl.symm ho (own_lt h.s)).symm
theorem Apart.nil (v : Value) : Apart v (.slice none 0 0) := fun k _ h => by cases h
theorem Apart.nil' (v : Value) : Apart (.slice none 0 0) v := fun k h => by cases h
/-- The row joins the gains. -/
theorem Five.putG {w w' : World} {base : Nat} {vf vg vp vs vl vg' : Value} {F : List Int} {R : List Value} {C : List (List Int)} {P : List Int} {S : List (Nat × Nat)} {L : List Int} (h : Five w base vf vg vp vs vl F R C P S L) (hr : ∀ r ∈ R, ∀ k, r.ownBlock = some k → k < w.heap.size)
    (hO : w'.ownsRow base 24 1 vg' (C ++ [L]).length (R ++ [vl])) (hg : w.grownBy w' vg.ownBlock) (ho : vg'.ownBlock = vg.ownBlock ∨ vg'.ownBlock = some w.heap.size) (hL : RowV w vl L) : Five w' base vf vg' vp vs (.slice none 0 0) F (R ++ [vl]) (C ++ [L]) P S [] where
  f := own_stays h.f hg h.fg
  g := hO
  rows := (h.rows.stays hg fun r hr' => h.rg r hr').append ⟨rfl, fun i v xs h1 h2 => by
    rcases i with _ | i
    · simp at h1 h2
      subst h1 h2
      exact hL.stays hg h.gl.symm
    · simp at h1⟩
  rf := fun r hr' => by
    rcases List.mem_append.1 hr' with h1 | h1
    · exact h.rf r h1
    · rw [List.mem_singleton] at h1; subst h1; exact h.fl.symm
  rp := fun r hr' => by
    rcases List.mem_append.1 hr' with h1 | h1
    · exact h.rp r h1
    · rw [List.mem_singleton] at h1; subst h1; exact h.pl.symm
  rs := fun r hr' => by
    rcases List.mem_append.1 hr' with h1 | h1
    · exact h.rs r h1
    · rw [List.mem_singleton] at h1; subst h1; exact h.sl.symm
  rl := fun r _ => Apart.nil r
  rg := fun r hr' => by
    rcases List.mem_append.1 hr' with h1 | h1
    · exact (Apart.turn (h.rg r h1).symm ho (hr r h1)).symm
    · rw [List.mem_singleton] at h1; subst h1; exact (Apart.turn h.gl ho (own_lt h.l)).symm
  p := own_stays h.p hg h.gp.symm
  s := own_stays h.s hg h.gs.symm
  l := ZI.nil _ _
  fg := (Apart.turn h.fg.symm ho (own_lt h.f)).symm
  fp := h.fp
  fs := h.fs
  fl := Apart.nil _
  gp := Apart.turn h.gp ho (own_lt h.p)
  gs := Apart.turn h.gs ho (own_lt h.s)
  gl := Apart.nil _
  ps := h.ps
  pl := Apart.nil _
  sl := Apart.nil _
theorem own_below {w w' : World} {base size n : Nat} {e : TypeId} {v : Value} {xs : List Value} (h : w.ownsRow base e size v n xs) (hb : Below w.heap.size w w') : w'.ownsRow base e size v n xs := by
  refine ⟨h.1, ?_⟩
  rcases h.2 with h' | ⟨g', cap', cur, hv, h1, hh, h2⟩
  · exact .inl h'
  · exact .inr ⟨g', cap', cur, hv, h1, by rw [hb.block g' (Array.getElem?_eq_some_iff.1 hh).1]; exact hh, h2⟩
theorem Five.below {w w' : World} {base : Nat} {vf vg vp vs vl : Value} {F : List Int} {R : List Value} {C : List (List Int)} {P : List Int} {S : List (Nat × Nat)} {L : List Int} (h : Five w base vf vg vp vs vl F R C P S L) (hb : Below w.heap.size w w') : Five w' base vf vg vp vs vl F R C P S L :=
  { h with f := own_below h.f hb, g := own_below h.g hb, p := own_below h.p hb, s := own_below h.s hb, l := own_below h.l hb, rows := h.rows.below hb }
/-- A literal is the new row. -/
theorem Five.fresh {w : World} {base : Nat} {vf vg vp vs vl : Value} {F : List Int} {R : List Value} {C : List (List Int)} {P : List Int} {S : List (Nat × Nat)} {L : List Int} (h : Five w base vf vg vp vs vl F R C P S L) (hr : ∀ r ∈ R, ∀ k, r.ownBlock = some k → k < w.heap.size) (hbs : base ≤ w.heap.size) :
    Five (w.alloc (.cells #[] 3)) base vf vg vp vs (.slice (some ⟨w.heap.size, 0, none⟩) 0 0) F R C P S [] := by
  have hb : Below w.heap.size w (w.alloc (.cells #[] 3)) := below_al (Below.refl _ _) _
  have key : ∀ v : Value, (∀ k, v.ownBlock = some k → k < w.heap.size) → Apart v (.slice (some ⟨w.heap.size, 0, none⟩) 0 0) := fun v hv k hk e => by
    have h1 : some k = some w.heap.size := e
    injection h1 with h1
    have := hv k hk
    omega
  exact { h.below hb with l := ZI.lit0 w base hbs, rl := fun r hr' => key r (hr r hr'), fl := key _ (own_lt h.f), gl := key _ (own_lt h.g), pl := key _ (own_lt h.p), sl := key _ (own_lt h.s) }
set_option maxRecDepth 100000 in
/-- 'append(g, l)': the row value joins the list of row values. -/
theorem wpList_append_rv (w : World) {ops : Array Oper} {rest : List Oper} {o : Oper} {a : Act} {Q : Exit → Act → World → Prop} (hg : o.guard = none) (s x : Operand) (t : TypeId)
    (ho : o.op = .call { callee := .builtin .append, args := #[s, x], argTypes := #[t, t] }) (ht : Try.prog.underlying t = some (.slice 24)) (base n : Nat) (v : Value) (R : List Value) (b : Option Addr) (k d : Nat) (hs : a.eval s = v) (hv : w.ownsRow base 24 1 v n R)
    (g0 : Nat) (hx : a.eval x = .slice (some ⟨g0, 0, none⟩) 1 1) (hb : n ≤ 1000000000000) (hbs : base ≤ w.heap.size) (c0 : w.cell? ⟨g0, 0, none⟩ = some (.slice b k d))
    (hK : ∀ v' w', w'.ownsRow base 24 1 v' (n + 1) (R ++ [.slice b k d]) → w.grownBy w' v.ownBlock → (v'.ownBlock = v.ownBlock ∨ v'.ownBlock = some w.heap.size) → wpList Try.prog ops Q rest (a.put o.dst v') w') : wpList Try.prog ops Q (o :: rest) a w := by
  obtain ⟨i, h2, h3, h4, h5⟩ := info_parts info_rowJ
  refine wpList_append_own_at w hg s x t ho base 24 i _ 1 24 ht h2 h3 h4 h5 rfl (by omega) v n _ hs hv ⟨g0, 0, none⟩ 1 1 [Value.slice b k d] hx (by simp) ?_ ?_ (by unfold maxLen; omega) (by omega) hbs ?_
  · intro j u hu
    rw [Addr.add_lit, Nat.zero_add]
    rcases j with _ | j
    · rw [c0]; exact hu
    · simp at hu
  · intro u hu
    rw [List.mem_singleton] at hu
    subst hu; rfl
  · intro v' w' h6 h7 _ h8
    exact hK v' w' h6 h7 h8
theorem apart_lit {a b : Nat} (h : a ≠ b) : Apart (.slice (some ⟨a, 0, none⟩) 0 0) (.slice (some ⟨b, 0, none⟩) 0 0) := fun k hk e => by
  have h1 : some a = some k := hk
  have h2 : some k = some b := e
  injection h1 with h1
  injection h2 with h2
  omega
/-- The four literals at the law's start. -/
theorem Five.start (w : World) : Five ((((w.alloc (.cells #[] 3)).alloc (.cells #[] 24)).alloc (.cells #[] 3)).alloc (.cells #[] 29)) w.heap.size
    (.slice (some ⟨w.heap.size, 0, none⟩) 0 0) (.slice (some ⟨w.heap.size + 1, 0, none⟩) 0 0) (.slice (some ⟨w.heap.size + 1 + 1, 0, none⟩) 0 0) (.slice (some ⟨w.heap.size + 1 + 1 + 1, 0, none⟩) 0 0) (.slice none 0 0) [] [] [] [] [] [] := by
  obtain ⟨w1, h1⟩ : ∃ w1, w.alloc (.cells #[] 3) = w1 := ⟨_, rfl⟩
  have s1 : w1.heap.size = w.heap.size + 1 := by rw [← h1]; simp
  have f0 : ZI w1 w.heap.size (.slice (some ⟨w.heap.size, 0, none⟩) 0 0) [] := by rw [← h1]; exact ZI.lit0 w _ (Nat.le_refl _)
  rw [h1]
  obtain ⟨w2, h2⟩ : ∃ w2, w1.alloc (.cells #[] 24) = w2 := ⟨_, rfl⟩
  have s2 : w2.heap.size = w.heap.size + 1 + 1 := by rw [← h2]; simp [s1]
  have b2 : Below w1.heap.size w1 w2 := by rw [← h2]; exact below_al (Below.refl _ _) _
  have g0 : w2.ownsRow w.heap.size 24 1 (.slice (some ⟨w.heap.size + 1, 0, none⟩) 0 0) 0 [] := by
    rw [← h2, ← s1]
    exact World.ownsRow_lit (base := w.heap.size) (size := 1) (e := 24) w1 #[] 0 (by omega) (by unfold maxLen; omega) rfl
  rw [h2]
  obtain ⟨w3, h3⟩ : ∃ w3, w2.alloc (.cells #[] 3) = w3 := ⟨_, rfl⟩
  have s3 : w3.heap.size = w.heap.size + 1 + 1 + 1 := by rw [← h3]; simp [s2]
  have b3 : Below w2.heap.size w2 w3 := by rw [← h3]; exact below_al (Below.refl _ _) _
  have p0 : ZI w3 w.heap.size (.slice (some ⟨w.heap.size + 1 + 1, 0, none⟩) 0 0) [] := by rw [← h3, ← s2]; exact ZI.lit0 w2 _ (by omega)
  rw [h3]
  obtain ⟨w4, h4⟩ : ∃ w4, w3.alloc (.cells #[] 29) = w4 := ⟨_, rfl⟩
  have b4 : Below w3.heap.size w3 w4 := by rw [← h4]; exact below_al (Below.refl _ _) _
  have sl0 : SVW w4 w.heap.size (.slice (some ⟨w.heap.size + 1 + 1 + 1, 0, none⟩) 0 0) [] := by rw [← h4, ← s3]; exact SVW.lit0 w3 _ (by omega)
  rw [h4]
  exact {
    f := ((f0.below b2).below b3).below b4
    g := own_below (own_below g0 b3) b4
    rows := ⟨rfl, fun i v xs h => by simp at h⟩
    rf := fun r hr => by cases hr
    rp := fun r hr => by cases hr
    rs := fun r hr => by cases hr
    rl := fun r hr => by cases hr
    rg := fun r hr => by cases hr
    p := p0.below b4
    s := sl0
    l := ZI.nil _ _
    fg := apart_lit (by omega)
    fp := apart_lit (by omega)
    fs := apart_lit (by omega)
    fl := Apart.nil _
    gp := apart_lit (by omega)
    gs := apart_lit (by omega)
    gl := Apart.nil _
    ps := apart_lit (by omega)
    pl := Apart.nil _
    sl := Apart.nil _ }
end Go.Proofs.Ytkecdjdggkpdpaa
