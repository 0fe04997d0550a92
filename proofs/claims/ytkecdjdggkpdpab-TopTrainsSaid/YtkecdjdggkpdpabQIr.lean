/- Ir -/
import Derived.Test.YtkecdjdggkpdpabQIo
set_option linter.unusedVariables false
/- A leaf of Train's recursion. (Printed by wip/tools/gen_ir.py.) -/
namespace Go.Proofs.Ytkecdjdggkpdpab
open Go Go.RowKit Go.Proofs

theorem wpAnyT_twoR {P : Program} {ops : Array Oper} {Q : Exit → Act → World → Prop} {md : Region.Mode} {S : World → Prop} {T : Nat → Bool} {i j : Nat} {oi oj : Oper} {fuel : Nat} {listed : Array Bool} {a : Act} {w : World} (hr : Region.ready md ops listed = [i, j]) (hoi : ops[i]? = some oi) (hoj : ops[j]? = some oj)
    (h1 : ∀ K' : Act → World → Prop, Shut (∀ a w, (T i = false → S w) → ((T i = false → S w) → wpAnyT P md ops Q S T fuel (listed.setIfInBounds i true) a w) → K' a w) → if Region.wanted oi (yielded ops a.tmps) = true then Oper.wp P oi a w K' Q else K' (a.put oi.dst undef) w)
    (h2 : ∀ K' : Act → World → Prop, Shut (∀ a w, (T j = false → S w) → ((T j = false → S w) → wpAnyT P md ops Q S T fuel (listed.setIfInBounds j true) a w) → K' a w) → if Region.wanted oj (yielded ops a.tmps) = true then Oper.wp P oj a w K' Q else K' (a.put oj.dst undef) w) :
    wpAnyT P md ops Q S T (fuel + 1) listed a w := by
  refine ⟨fun h0 => (by rw [hr] at h0; cases h0), fun k hk => ?_⟩
  rw [hr] at hk
  have hk2 : k = i ∨ k = j := by simpa using hk
  rcases hk2 with rfl | rfl
  · exact wpOp_step hoi (fun K' hK => h1 K' (fun a w hS hW => hK a w ⟨hS, hW hS⟩))
  · exact wpOp_step hoj (fun K' hK => h2 K' (fun a w hS hW => hK a w ⟨hS, hW hS⟩))
theorem cloneT_any (ad : Addr) (n c : Nat) (t : Tr) (w : World) (h : IMx w (some ad) (rowsT t)) (hn : t.length = n) (h0 : 0 < n) (hb : n ≤ 1000000) :
    Calls Try.prog 18 #[.slice (some ad) n c] w (fun e w' => ∃ g c', e = .returned (.slice (some ⟨g, 0, none⟩) n c') ∧ n ≤ c' ∧ IMx w' (some ⟨g, 0, none⟩) (rowsT t) ∧ w.heap.size ≤ g ∧ MI w' w.heap.size (.slice (some ⟨g, 0, none⟩) n c') (rowsT t) ∧ Below w.heap.size w w') :=
  (cloneR_some ad n c (rowsT t) w h (by rw [rowsT_length]; exact hn) h0 hb).mono fun e w' ⟨v', he, hM, hb⟩ => by
    have hl : (rowsT t).length = n := by rw [rowsT_length]; exact hn
    obtain ⟨g, c', hv, hg, _, hc, hI⟩ := hM.headE (by rw [hl]; exact h0)
    rw [hl] at hv hc
    subst hv
    exact ⟨g, c', he, hc, hI, hg, hM, hb⟩
theorem updT_yes {o u : Nat} {t t' : Tr} {p q p' q' : Nat} (h : closerB o u p q p' q' = true) : updT o u (some (t', p', q')) t p q = some (t, p, q) := by unfold updT; simp [h]
theorem updT_no {o u : Nat} {t t' : Tr} {p q p' q' : Nat} (h : closerB o u p q p' q' = false) : updT o u (some (t', p', q')) t p q = some (t', p', q') := by unfold updT; simp [h]
set_option maxRecDepth 100000 in
set_option maxHeartbeats 25600000 in
theorem growT_leaf (o u n L : Nat) (ws : List Nat) (Q : Rat) (aw : Option Addr) (cw : Nat) (a1 : Option Addr) (c1 : Nat) (a2 : Option Addr) (c2 bp bt bb bo bw bg : Nat) (hN : NRd bp bt bb bo bw bg) (ho : o ≤ 1000000) (hu1 : 1 ≤ u) (hu : u ≤ 1000000) (hQ : ((o : Nat) : Rat) / ((u : Nat) : Rat) = Q) (hL1 : 1 ≤ L) (hL3 : L ≤ 3)
    (t : Tr) (us p q : Nat) (ad : Addr) (ct : Nat) (s : Bt) (W : World) (hR : TRd W n L ws Q aw cw a1 c1 a2 c2 bp bt bb bo bw bg) (hT : IMx W (some ad) (rowsT t)) (htl : t.length = L) (hp1 : 1 ≤ p) (hp2 : p ≤ 1000000000) (hq1 : 1 ≤ q) (hq2 : q ≤ 1000000000) (hS : StT L n s) (hB : BOK o u s W bb bo) :
    Calls Try.prog 13 #[.slice (some ad) L ct, .int .i64 (us : Nat), .int .i64 (p : Nat), .int .i64 (q : Nat), ptr bp, ptr bt, ptr bb, ptr bo, ptr bw, ptr bg] W (GrowT o u (updT o u s t p q) bb bo W) := by
  obtain ⟨P, hP⟩ : ∃ P, ((p : Nat) : Rat) = P := ⟨_, rfl⟩
  obtain ⟨G, hG⟩ : ∃ G, ((q : Nat) : Rat) = G := ⟨_, rfl⟩
  obtain ⟨D, hD⟩ : ∃ D, P / G = D := ⟨_, rfl⟩
  obtain ⟨V, hV⟩ : ∃ V, D - Q = V := ⟨_, rfl⟩
  have szP := Lib.hid (show Sz P by rw [← hP]; exact natR_sz hp2)
  have szK := Lib.hid (show Sz G by rw [← hG]; exact natR_sz hq2)
  have szD := Lib.hid (show Sz D by rw [← hD, ← hP, ← hG]; exact quo_sz hq1 hp2 hq2)
  have szQ := Lib.hid (show Sz Q by rw [← hQ]; exact quo_sz hu1 (by omega) (by omega))
  have szV := Lib.hid (show Sz V by rw [← hV, ← hD, ← hP, ← hG, ← hQ]; exact dS_sz hu1 hq1 ho hu hp2 hq2)
  have hrK := Lib.hid (show 0 < rn G by rw [← hG]; exact natR_rn hq1)
  have hwp := Lib.hid (fun W => wholeE p P W (by omega) hP)
  have hwk := Lib.hid (fun W => wholeE q G W (by omega) hG)
  have hVH : Hid (((p : Nat) : Rat) / ((q : Nat) : Rat) - ((o : Nat) : Rat) / ((u : Nat) : Rat) = V) := by show _ = _; rw [← hV, ← hD, ← hP, ← hG, ← hQ]
  have hDH := Lib.hid hD
  have hVD := Lib.hid hV
  have hTH := Lib.hid hT
  have htlH := Lib.hid htl
  have hSH := Lib.hid hS
  have hBH := Lib.hid hB
  have hlt0 := Lib.hid hB.lt
  have hRH := Lib.hid hR
  have hNH := Lib.hid hN
  have hnn : ((L : Int) == (L : Int)) = true := by simp
  have k1 := hR.cp
  have hq0 := And.intro hR.t0 (And.intro hR.t1 (And.intro hR.t2 hR.t3))
  have hB0 : Below W.heap.size W W := Below.refl _ _
  have hup : Hid (∀ w', Below W.heap.size W w' → w'.cell? ⟨bt, 0, none⟩ = some (.bool (ng (rn Q))) ∧ w'.cell? ⟨bt, 1, none⟩ = some (.slice a1 (LI (rn Q)) c1) ∧ w'.cell? ⟨bt, 2, none⟩ = some (.bool (ng (rd Q))) ∧ w'.cell? ⟨bt, 3, none⟩ = some (.slice a2 (LI (rd Q)) c2)) := fun w' hW => ⟨Below.cellAt hW (Nat.le_refl _) hq0.1, Below.cellAt hW (Nat.le_refl _) hq0.2.1, Below.cellAt hW (Nat.le_refl _) hq0.2.2.1, Below.cellAt hW (Nat.le_refl _) hq0.2.2.2⟩
  obtain ⟨q0, q1, q2, q3⟩ := hq0
  clear hP hG hD hV hQ hT htl hS hB hR hN
  go_enter Try.func13, Try.ntmps13
  go_upto_region 1 with (fail)
  go_cut [14] from 22 to 29 (fun bv wx => ∃ (B : Nat) (ay : Option Addr) (cy : Nat) (ey : Option Addr) (fy : Nat), bv = .pointer (some ⟨B, 0, none⟩) ∧ RB wx B V ay cy ey fy ∧ W.heap.size ≤ B ∧ Below W.heap.size W wx)
  case first =>
    -- tail S: fun w' => Below W.heap.size W w' ∧ w'.cell? ⟨bt, 0, none⟩ = some (.bool (ng (rn Q))) ∧ w'.cell? ⟨bt, 1, none⟩ = some (.slice a1 (LI (rn Q)) c1) ∧ w'.cell? ⟨bt, 2, none⟩ = some (.bool (ng (rd Q))) ∧ w'.cell? ⟨bt, 3, none⟩ = some (.slice a2 (LI (rd Q)) c2)
    -- tail s0: ⟨Below.drew hB0, hup.out _ (Below.drew hB0)⟩
    -- tail la 0 2 5 x
    refine wp_region_tail (fun w' => Below W.heap.size W w' ∧ w'.cell? ⟨bt, 0, none⟩ = some (.bool (ng (rn Q))) ∧ w'.cell? ⟨bt, 1, none⟩ = some (.slice a1 (LI (rn Q)) c1) ∧ w'.cell? ⟨bt, 2, none⟩ = some (.bool (ng (rd Q))) ∧ w'.cell? ⟨bt, 3, none⟩ = some (.slice a2 (LI (rd Q)) c2)) (fun j => decide (1000 ≤ j)) (by kernel_rfl) (⟨Below.drew hB0, hup.out _ (Below.drew hB0)⟩) (fun hHeld => ?_)
    refine wpAnyT_take (i := 0) (oi := ?oila0) (v := ?vla0) ?hola0 (by kernel_rfl) (by kernel_rfl) (by kernel_rfl) (by kernel_rfl) ?hqla0 (Or.inl ⟨?hwla0, ?hyla0⟩) (by assumption) ?_
    case hola0 => rfl
    case hwla0 => rfl
    case hyla0 => (intro w hSw; (try dsimp only at hSw); go_split_ands; go_simp; (try (with_reducible rfl)))
    case hqla0 => exact fun _ _ _ h => h
    simp only [Act.put, List.getElem_toArray, List.getElem_cons_zero, List.setIfInBounds_toArray, List.set_cons_zero, List.set_cons_succ]
    refine wpAnyT_take (i := 2) (oi := ?oila2) (v := ?vla2) ?hola2 (by kernel_rfl) (by kernel_rfl) (by kernel_rfl) (by kernel_rfl) ?hqla2 (Or.inl ⟨?hwla2, ?hyla2⟩) (by assumption) ?_
    case hola2 => rfl
    case hwla2 => rfl
    case hyla2 => (intro w hSw; (try dsimp only at hSw); go_split_ands; go_simp; (try (with_reducible rfl)))
    case hqla2 => exact fun _ _ _ h => h
    simp only [Act.put, List.getElem_toArray, List.getElem_cons_succ, List.getElem_cons_zero, List.setIfInBounds_toArray, List.set_cons_zero, List.set_cons_succ]
    refine wpAnyT_take (i := 5) (oi := ?oila5) (v := ?vla5) ?hola5 (by kernel_rfl) (by kernel_rfl) (by kernel_rfl) (by kernel_rfl) ?hqla5 (Or.inl ⟨?hwla5, ?hyla5⟩) (by assumption) ?_
    case hola5 => rfl
    case hwla5 => rfl
    case hyla5 => (intro w hSw; (try dsimp only at hSw); go_split_ands; go_simp; (try (with_reducible rfl)))
    case hqla5 => exact fun _ _ _ h => h
    simp only [Act.put, List.getElem_toArray, List.getElem_cons_succ, List.getElem_cons_zero, List.setIfInBounds_toArray, List.set_cons_zero, List.set_cons_succ]
    -- tail end
    obtain ⟨w60, hw60⟩ : ∃ w60, w60 = W.drew := ⟨_, rfl⟩
    rw [← hw60]
    have hq60 : Below W.heap.size W w60 := by rw [hw60]; exact Below.drew hB0
    clear hw60 hHeld
    refine wpAnyT_twoR (i := 1) (j := 7) (oi := ?os61) (oj := ?ot61) (by kernel_rfl) ?hs61 ?ht61 (fun K hK => ?_) (fun K hK => ?_)
    case hs61 => rfl
    case ht61 => rfl
    rotate_left
    · rw [if_pos (by rfl)]
      go_simp
      have hb62 : Below w60.heap.size w60 (w60.alloc (Obj.cells #[.bool false, .slice none 0 0, .bool false, .slice none 0 0] 51)) := below_al (Below.refl _ _) _
      have hq62 : Below W.heap.size W (w60.alloc (Obj.cells #[.bool false, .slice none 0 0, .bool false, .slice none 0 0] 51)) := bseqT hq60 hb62
      have hk62 := Lib.hid (show Blk (w60.alloc (Obj.cells #[.bool false, .slice none 0 0, .bool false, .slice none 0 0] 51)) w60.heap.size 51 [.bool false, .slice none 0 0, .bool false, .slice none 0 0] from World.alloc_heap_new w60 _)
      have hz62 : W.heap.size ≤ w60.heap.size := hq60.size
      refine hK.out _ _ (fun _ => ⟨hq62, hup.out _ hq62⟩) (fun hHeld => ?_)
      clear hHeld hK K
      refine wpAnyT_one (i := 1) (o := ?os63) (by kernel_rfl) ?hs63 (fun K hK => ?_)
      case hs63 => rfl
      rw [if_pos (by rfl)]
      go_simp
      go_at_call 11; (with_reducible refine (hwp.out _).mono ?_); rintro e w64 ⟨a64, c64, e64, f64, rfl, hm, hb⟩
      have hq64 : Below W.heap.size W w64 := bseqT hq62 hb
      have hm64_1 := Lib.hid hm
      have hk64 := Lib.hid (Blk.later hk62.out hb)
      clear hm hb
      (try go_wp2_with (fail))
      refine hK.out _ _ (fun _ => ⟨hq64, hup.out _ hq64⟩) (fun hHeld => ?_)
      clear hHeld hK K
      refine wpAnyT_one (i := 3) (o := ?os65) (by kernel_rfl) ?hs65 (fun K hK => ?_)
      case hs65 => rfl
      rw [if_pos (by rfl)]
      go_simp
      go_at_call 11; (with_reducible refine (hwk.out _).mono ?_); rintro e w66 ⟨a66, c66, e66, f66, rfl, hm, hb⟩
      have hq66 : Below W.heap.size W w66 := bseqT hq64 hb
      have hm66_1 := Lib.hid (hm64_1.out.up hb)
      have hm66_3 := Lib.hid hm
      have hk66 := Lib.hid (Blk.later hk64.out hb)
      clear hm hb
      (try go_wp2_with (fail))
      refine hK.out _ _ (fun _ => ⟨hq66, hup.out _ hq66⟩) (fun hHeld => ?_)
      clear hHeld hK K
      refine wpAnyT_one (i := 4) (o := ?os67) (by kernel_rfl) ?hs67 (fun K hK => ?_)
      case hs67 => rfl
      rw [if_pos (by rfl)]
      go_simp
      go_at_call 12; (with_reducible refine (rdivE a64 c64 e64 f64 a66 c66 e66 f66 P G D _ hm66_1.out hm66_3.out szP.out szK.out hrK.out hDH.out).mono ?_); rintro e w68 ⟨a68, c68, e68, f68, rfl, hm, hb⟩
      have hq68 : Below W.heap.size W w68 := bseqT hq66 hb
      have hm68_1 := Lib.hid (hm66_1.out.up hb)
      have hm68_3 := Lib.hid (hm66_3.out.up hb)
      have hm68_4 := Lib.hid hm
      have hk68 := Lib.hid (Blk.later hk66.out hb)
      clear hm hb
      (try go_wp2_with (fail))
      refine hK.out _ _ (fun _ => ⟨hq68, hup.out _ hq68⟩) (fun hHeld => ?_)
      clear hHeld hK K
      refine wpAnyT_one (i := 6) (o := ?os69) (by kernel_rfl) ?hs69 (fun K hK => ?_)
      case hs69 => rfl
      rw [if_pos (by rfl)]
      go_simp
      go_at_call 14; (with_reducible refine (rsubE a68 c68 e68 f68 a1 c1 a2 c2 D Q V _ hm68_4.out (hRH.out.rm.up hq68) szD.out szQ.out hVD.out).mono ?_); rintro e w610 ⟨a610, c610, e610, f610, rfl, hm, hb⟩
      have hq610 : Below W.heap.size W w610 := bseqT hq68 hb
      have hm610_1 := Lib.hid (hm68_1.out.up hb)
      have hm610_3 := Lib.hid (hm68_3.out.up hb)
      have hm610_4 := Lib.hid (hm68_4.out.up hb)
      have hm610_6 := Lib.hid hm
      have hk610 := Lib.hid (Blk.later hk68.out hb)
      have r0 := hk610.out.cell 0
      have r1 := hk610.out.cell 1
      have r2 := hk610.out.cell 2
      have r3 := hk610.out.cell 3
      have f0 := hk610.out.frozen 0
      have f1 := hk610.out.frozen 1
      have f2 := hk610.out.frozen 2
      have f3 := hk610.out.frozen 3
      clear hm hb
      (try go_wp2_with (fail))
      refine hK.out _ _ (fun _ => ⟨hq610, hup.out _ hq610⟩) (fun hHeld => ?_)
      clear hHeld hK K
      refine wpAnyT_one (i := 8) (o := ?os611) (by kernel_rfl) ?hs611 (fun K hK => ?_)
      case hs611 => rfl
      rw [if_pos (by rfl)]
      go_simp
      have hS2 : Below W.heap.size W (putR w610 w60.heap.size V a610 c610 e610 f610) := putR_below hq610 hz62
      refine hK.out _ _ (fun _ => ⟨hS2, hup.out _ hS2⟩) (fun hHeld => ?_)
      clear hHeld hK K
      refine wpAnyT_done (by kernel_rfl) ?_ _
      go_wp2_with (fail)
      go_meet
      exact ⟨w60.heap.size, a610, c610, e610, f610, rfl, RB.put hk610.out hm610_6.out, hz62, hS2⟩
    rw [if_pos (by rfl)]
    go_simp
    go_at_call 11; (with_reducible refine (hwp.out _).mono ?_); rintro e w612 ⟨a612, c612, e612, f612, rfl, hm, hb⟩
    have hq612 : Below W.heap.size W w612 := bseqT hq60 hb
    have hm612_1 := Lib.hid hm
    clear hm hb
    (try go_wp2_with (fail))
    refine hK.out _ _ (fun _ => ⟨hq612, hup.out _ hq612⟩) (fun hHeld => ?_)
    clear hHeld hK K
    refine wpAnyT_twoR (i := 3) (j := 7) (oi := ?os613) (oj := ?ot613) (by kernel_rfl) ?hs613 ?ht613 (fun K hK => ?_) (fun K hK => ?_)
    case hs613 => rfl
    case ht613 => rfl
    rotate_left
    · rw [if_pos (by rfl)]
      go_simp
      have hb614 : Below w612.heap.size w612 (w612.alloc (Obj.cells #[.bool false, .slice none 0 0, .bool false, .slice none 0 0] 51)) := below_al (Below.refl _ _) _
      have hq614 : Below W.heap.size W (w612.alloc (Obj.cells #[.bool false, .slice none 0 0, .bool false, .slice none 0 0] 51)) := bseqT hq612 hb614
      have hm614_1 := Lib.hid (hm612_1.out.up hb614)
      have hk614 := Lib.hid (show Blk (w612.alloc (Obj.cells #[.bool false, .slice none 0 0, .bool false, .slice none 0 0] 51)) w612.heap.size 51 [.bool false, .slice none 0 0, .bool false, .slice none 0 0] from World.alloc_heap_new w612 _)
      have hz614 : W.heap.size ≤ w612.heap.size := hq612.size
      refine hK.out _ _ (fun _ => ⟨hq614, hup.out _ hq614⟩) (fun hHeld => ?_)
      clear hHeld hK K
      refine wpAnyT_one (i := 3) (o := ?os615) (by kernel_rfl) ?hs615 (fun K hK => ?_)
      case hs615 => rfl
      rw [if_pos (by rfl)]
      go_simp
      go_at_call 11; (with_reducible refine (hwk.out _).mono ?_); rintro e w616 ⟨a616, c616, e616, f616, rfl, hm, hb⟩
      have hq616 : Below W.heap.size W w616 := bseqT hq614 hb
      have hm616_1 := Lib.hid (hm614_1.out.up hb)
      have hm616_3 := Lib.hid hm
      have hk616 := Lib.hid (Blk.later hk614.out hb)
      clear hm hb
      (try go_wp2_with (fail))
      refine hK.out _ _ (fun _ => ⟨hq616, hup.out _ hq616⟩) (fun hHeld => ?_)
      clear hHeld hK K
      refine wpAnyT_one (i := 4) (o := ?os617) (by kernel_rfl) ?hs617 (fun K hK => ?_)
      case hs617 => rfl
      rw [if_pos (by rfl)]
      go_simp
      go_at_call 12; (with_reducible refine (rdivE a612 c612 e612 f612 a616 c616 e616 f616 P G D _ hm616_1.out hm616_3.out szP.out szK.out hrK.out hDH.out).mono ?_); rintro e w618 ⟨a618, c618, e618, f618, rfl, hm, hb⟩
      have hq618 : Below W.heap.size W w618 := bseqT hq616 hb
      have hm618_1 := Lib.hid (hm616_1.out.up hb)
      have hm618_3 := Lib.hid (hm616_3.out.up hb)
      have hm618_4 := Lib.hid hm
      have hk618 := Lib.hid (Blk.later hk616.out hb)
      clear hm hb
      (try go_wp2_with (fail))
      refine hK.out _ _ (fun _ => ⟨hq618, hup.out _ hq618⟩) (fun hHeld => ?_)
      clear hHeld hK K
      refine wpAnyT_one (i := 6) (o := ?os619) (by kernel_rfl) ?hs619 (fun K hK => ?_)
      case hs619 => rfl
      rw [if_pos (by rfl)]
      go_simp
      go_at_call 14; (with_reducible refine (rsubE a618 c618 e618 f618 a1 c1 a2 c2 D Q V _ hm618_4.out (hRH.out.rm.up hq618) szD.out szQ.out hVD.out).mono ?_); rintro e w620 ⟨a620, c620, e620, f620, rfl, hm, hb⟩
      have hq620 : Below W.heap.size W w620 := bseqT hq618 hb
      have hm620_1 := Lib.hid (hm618_1.out.up hb)
      have hm620_3 := Lib.hid (hm618_3.out.up hb)
      have hm620_4 := Lib.hid (hm618_4.out.up hb)
      have hm620_6 := Lib.hid hm
      have hk620 := Lib.hid (Blk.later hk618.out hb)
      have r0 := hk620.out.cell 0
      have r1 := hk620.out.cell 1
      have r2 := hk620.out.cell 2
      have r3 := hk620.out.cell 3
      have f0 := hk620.out.frozen 0
      have f1 := hk620.out.frozen 1
      have f2 := hk620.out.frozen 2
      have f3 := hk620.out.frozen 3
      clear hm hb
      (try go_wp2_with (fail))
      refine hK.out _ _ (fun _ => ⟨hq620, hup.out _ hq620⟩) (fun hHeld => ?_)
      clear hHeld hK K
      refine wpAnyT_one (i := 8) (o := ?os621) (by kernel_rfl) ?hs621 (fun K hK => ?_)
      case hs621 => rfl
      rw [if_pos (by rfl)]
      go_simp
      have hS2 : Below W.heap.size W (putR w620 w612.heap.size V a620 c620 e620 f620) := putR_below hq620 hz614
      refine hK.out _ _ (fun _ => ⟨hS2, hup.out _ hS2⟩) (fun hHeld => ?_)
      clear hHeld hK K
      refine wpAnyT_done (by kernel_rfl) ?_ _
      go_wp2_with (fail)
      go_meet
      exact ⟨w612.heap.size, a620, c620, e620, f620, rfl, RB.put hk620.out hm620_6.out, hz614, hS2⟩
    rw [if_pos (by rfl)]
    go_simp
    go_at_call 11; (with_reducible refine (hwk.out _).mono ?_); rintro e w622 ⟨a622, c622, e622, f622, rfl, hm, hb⟩
    have hq622 : Below W.heap.size W w622 := bseqT hq612 hb
    have hm622_1 := Lib.hid (hm612_1.out.up hb)
    have hm622_3 := Lib.hid hm
    clear hm hb
    (try go_wp2_with (fail))
    refine hK.out _ _ (fun _ => ⟨hq622, hup.out _ hq622⟩) (fun hHeld => ?_)
    clear hHeld hK K
    refine wpAnyT_twoR (i := 4) (j := 7) (oi := ?os623) (oj := ?ot623) (by kernel_rfl) ?hs623 ?ht623 (fun K hK => ?_) (fun K hK => ?_)
    case hs623 => rfl
    case ht623 => rfl
    rotate_left
    · rw [if_pos (by rfl)]
      go_simp
      have hb624 : Below w622.heap.size w622 (w622.alloc (Obj.cells #[.bool false, .slice none 0 0, .bool false, .slice none 0 0] 51)) := below_al (Below.refl _ _) _
      have hq624 : Below W.heap.size W (w622.alloc (Obj.cells #[.bool false, .slice none 0 0, .bool false, .slice none 0 0] 51)) := bseqT hq622 hb624
      have hm624_1 := Lib.hid (hm622_1.out.up hb624)
      have hm624_3 := Lib.hid (hm622_3.out.up hb624)
      have hk624 := Lib.hid (show Blk (w622.alloc (Obj.cells #[.bool false, .slice none 0 0, .bool false, .slice none 0 0] 51)) w622.heap.size 51 [.bool false, .slice none 0 0, .bool false, .slice none 0 0] from World.alloc_heap_new w622 _)
      have hz624 : W.heap.size ≤ w622.heap.size := hq622.size
      refine hK.out _ _ (fun _ => ⟨hq624, hup.out _ hq624⟩) (fun hHeld => ?_)
      clear hHeld hK K
      refine wpAnyT_one (i := 4) (o := ?os625) (by kernel_rfl) ?hs625 (fun K hK => ?_)
      case hs625 => rfl
      rw [if_pos (by rfl)]
      go_simp
      go_at_call 12; (with_reducible refine (rdivE a612 c612 e612 f612 a622 c622 e622 f622 P G D _ hm624_1.out hm624_3.out szP.out szK.out hrK.out hDH.out).mono ?_); rintro e w626 ⟨a626, c626, e626, f626, rfl, hm, hb⟩
      have hq626 : Below W.heap.size W w626 := bseqT hq624 hb
      have hm626_1 := Lib.hid (hm624_1.out.up hb)
      have hm626_3 := Lib.hid (hm624_3.out.up hb)
      have hm626_4 := Lib.hid hm
      have hk626 := Lib.hid (Blk.later hk624.out hb)
      clear hm hb
      (try go_wp2_with (fail))
      refine hK.out _ _ (fun _ => ⟨hq626, hup.out _ hq626⟩) (fun hHeld => ?_)
      clear hHeld hK K
      refine wpAnyT_one (i := 6) (o := ?os627) (by kernel_rfl) ?hs627 (fun K hK => ?_)
      case hs627 => rfl
      rw [if_pos (by rfl)]
      go_simp
      go_at_call 14; (with_reducible refine (rsubE a626 c626 e626 f626 a1 c1 a2 c2 D Q V _ hm626_4.out (hRH.out.rm.up hq626) szD.out szQ.out hVD.out).mono ?_); rintro e w628 ⟨a628, c628, e628, f628, rfl, hm, hb⟩
      have hq628 : Below W.heap.size W w628 := bseqT hq626 hb
      have hm628_1 := Lib.hid (hm626_1.out.up hb)
      have hm628_3 := Lib.hid (hm626_3.out.up hb)
      have hm628_4 := Lib.hid (hm626_4.out.up hb)
      have hm628_6 := Lib.hid hm
      have hk628 := Lib.hid (Blk.later hk626.out hb)
      have r0 := hk628.out.cell 0
      have r1 := hk628.out.cell 1
      have r2 := hk628.out.cell 2
      have r3 := hk628.out.cell 3
      have f0 := hk628.out.frozen 0
      have f1 := hk628.out.frozen 1
      have f2 := hk628.out.frozen 2
      have f3 := hk628.out.frozen 3
      clear hm hb
      (try go_wp2_with (fail))
      refine hK.out _ _ (fun _ => ⟨hq628, hup.out _ hq628⟩) (fun hHeld => ?_)
      clear hHeld hK K
      refine wpAnyT_one (i := 8) (o := ?os629) (by kernel_rfl) ?hs629 (fun K hK => ?_)
      case hs629 => rfl
      rw [if_pos (by rfl)]
      go_simp
      have hS2 : Below W.heap.size W (putR w628 w622.heap.size V a628 c628 e628 f628) := putR_below hq628 hz624
      refine hK.out _ _ (fun _ => ⟨hS2, hup.out _ hS2⟩) (fun hHeld => ?_)
      clear hHeld hK K
      refine wpAnyT_done (by kernel_rfl) ?_ _
      go_wp2_with (fail)
      go_meet
      exact ⟨w622.heap.size, a628, c628, e628, f628, rfl, RB.put hk628.out hm628_6.out, hz624, hS2⟩
    rw [if_pos (by rfl)]
    go_simp
    go_at_call 12; (with_reducible refine (rdivE a612 c612 e612 f612 a622 c622 e622 f622 P G D _ hm622_1.out hm622_3.out szP.out szK.out hrK.out hDH.out).mono ?_); rintro e w630 ⟨a630, c630, e630, f630, rfl, hm, hb⟩
    have hq630 : Below W.heap.size W w630 := bseqT hq622 hb
    have hm630_1 := Lib.hid (hm622_1.out.up hb)
    have hm630_3 := Lib.hid (hm622_3.out.up hb)
    have hm630_4 := Lib.hid hm
    clear hm hb
    (try go_wp2_with (fail))
    refine hK.out _ _ (fun _ => ⟨hq630, hup.out _ hq630⟩) (fun hHeld => ?_)
    clear hHeld hK K
    refine wpAnyT_twoR (i := 6) (j := 7) (oi := ?os631) (oj := ?ot631) (by kernel_rfl) ?hs631 ?ht631 (fun K hK => ?_) (fun K hK => ?_)
    case hs631 => rfl
    case ht631 => rfl
    rotate_left
    · rw [if_pos (by rfl)]
      go_simp
      have hb632 : Below w630.heap.size w630 (w630.alloc (Obj.cells #[.bool false, .slice none 0 0, .bool false, .slice none 0 0] 51)) := below_al (Below.refl _ _) _
      have hq632 : Below W.heap.size W (w630.alloc (Obj.cells #[.bool false, .slice none 0 0, .bool false, .slice none 0 0] 51)) := bseqT hq630 hb632
      have hm632_1 := Lib.hid (hm630_1.out.up hb632)
      have hm632_3 := Lib.hid (hm630_3.out.up hb632)
      have hm632_4 := Lib.hid (hm630_4.out.up hb632)
      have hk632 := Lib.hid (show Blk (w630.alloc (Obj.cells #[.bool false, .slice none 0 0, .bool false, .slice none 0 0] 51)) w630.heap.size 51 [.bool false, .slice none 0 0, .bool false, .slice none 0 0] from World.alloc_heap_new w630 _)
      have hz632 : W.heap.size ≤ w630.heap.size := hq630.size
      refine hK.out _ _ (fun _ => ⟨hq632, hup.out _ hq632⟩) (fun hHeld => ?_)
      clear hHeld hK K
      refine wpAnyT_one (i := 6) (o := ?os633) (by kernel_rfl) ?hs633 (fun K hK => ?_)
      case hs633 => rfl
      rw [if_pos (by rfl)]
      go_simp
      go_at_call 14; (with_reducible refine (rsubE a630 c630 e630 f630 a1 c1 a2 c2 D Q V _ hm632_4.out (hRH.out.rm.up hq632) szD.out szQ.out hVD.out).mono ?_); rintro e w634 ⟨a634, c634, e634, f634, rfl, hm, hb⟩
      have hq634 : Below W.heap.size W w634 := bseqT hq632 hb
      have hm634_1 := Lib.hid (hm632_1.out.up hb)
      have hm634_3 := Lib.hid (hm632_3.out.up hb)
      have hm634_4 := Lib.hid (hm632_4.out.up hb)
      have hm634_6 := Lib.hid hm
      have hk634 := Lib.hid (Blk.later hk632.out hb)
      have r0 := hk634.out.cell 0
      have r1 := hk634.out.cell 1
      have r2 := hk634.out.cell 2
      have r3 := hk634.out.cell 3
      have f0 := hk634.out.frozen 0
      have f1 := hk634.out.frozen 1
      have f2 := hk634.out.frozen 2
      have f3 := hk634.out.frozen 3
      clear hm hb
      (try go_wp2_with (fail))
      refine hK.out _ _ (fun _ => ⟨hq634, hup.out _ hq634⟩) (fun hHeld => ?_)
      clear hHeld hK K
      refine wpAnyT_one (i := 8) (o := ?os635) (by kernel_rfl) ?hs635 (fun K hK => ?_)
      case hs635 => rfl
      rw [if_pos (by rfl)]
      go_simp
      have hS2 : Below W.heap.size W (putR w634 w630.heap.size V a634 c634 e634 f634) := putR_below hq634 hz632
      refine hK.out _ _ (fun _ => ⟨hS2, hup.out _ hS2⟩) (fun hHeld => ?_)
      clear hHeld hK K
      refine wpAnyT_done (by kernel_rfl) ?_ _
      go_wp2_with (fail)
      go_meet
      exact ⟨w630.heap.size, a634, c634, e634, f634, rfl, RB.put hk634.out hm634_6.out, hz632, hS2⟩
    rw [if_pos (by rfl)]
    go_simp
    go_at_call 14; (with_reducible refine (rsubE a630 c630 e630 f630 a1 c1 a2 c2 D Q V _ hm630_4.out (hRH.out.rm.up hq630) szD.out szQ.out hVD.out).mono ?_); rintro e w636 ⟨a636, c636, e636, f636, rfl, hm, hb⟩
    have hq636 : Below W.heap.size W w636 := bseqT hq630 hb
    have hm636_1 := Lib.hid (hm630_1.out.up hb)
    have hm636_3 := Lib.hid (hm630_3.out.up hb)
    have hm636_4 := Lib.hid (hm630_4.out.up hb)
    have hm636_6 := Lib.hid hm
    clear hm hb
    (try go_wp2_with (fail))
    refine hK.out _ _ (fun _ => ⟨hq636, hup.out _ hq636⟩) (fun hHeld => ?_)
    clear hHeld hK K
    refine wpAnyT_one (i := 7) (o := ?os637) (by kernel_rfl) ?hs637 (fun K hK => ?_)
    case hs637 => rfl
    rw [if_pos (by rfl)]
    go_simp
    have hb638 : Below w636.heap.size w636 (w636.alloc (Obj.cells #[.bool false, .slice none 0 0, .bool false, .slice none 0 0] 51)) := below_al (Below.refl _ _) _
    have hq638 : Below W.heap.size W (w636.alloc (Obj.cells #[.bool false, .slice none 0 0, .bool false, .slice none 0 0] 51)) := bseqT hq636 hb638
    have hm638_1 := Lib.hid (hm636_1.out.up hb638)
    have hm638_3 := Lib.hid (hm636_3.out.up hb638)
    have hm638_4 := Lib.hid (hm636_4.out.up hb638)
    have hm638_6 := Lib.hid (hm636_6.out.up hb638)
    have hk638 := Lib.hid (show Blk (w636.alloc (Obj.cells #[.bool false, .slice none 0 0, .bool false, .slice none 0 0] 51)) w636.heap.size 51 [.bool false, .slice none 0 0, .bool false, .slice none 0 0] from World.alloc_heap_new w636 _)
    have hz638 : W.heap.size ≤ w636.heap.size := hq636.size
    refine hK.out _ _ (fun _ => ⟨hq638, hup.out _ hq638⟩) (fun hHeld => ?_)
    clear hHeld hK K
    refine wpAnyT_one (i := 8) (o := ?os639) (by kernel_rfl) ?hs639 (fun K hK => ?_)
    case hs639 => rfl
    rw [if_pos (by rfl)]
    go_simp
    refine hK.out _ _ (fun _ => ⟨below_al hq636 _, hup.out _ (below_al hq636 _)⟩) (fun hHeld => ?_)
    clear hHeld hK K
    refine wpAnyT_done (by kernel_rfl) ?_ _
    go_wp2_with (fail)
    go_meet
    exact ⟨_, a636, c636, e636, f636, rfl, RB.new hm636_6.out, hq636.size, below_al hq636 _⟩
  case rest =>
  obtain ⟨B, ay, cy, ey, fy, rfl, hRB, hBW, hqx⟩ := hcut
  obtain ⟨wx, hwx⟩ : ∃ wx, wx = wc := ⟨_, rfl⟩
  subst hwx
  have hRBH := Lib.hid hRB
  have hqxH := Lib.hid hqx
  have hBx : Below wx.heap.size wx wx := Below.refl _ _
  have hq1 : wx.cell? ⟨B, 0, none⟩ = some (.bool (ng (rn V))) ∧ wx.cell? ⟨B, 1, none⟩ = some (.slice ay (LI (rn V)) cy) ∧ wx.cell? ⟨B, 2, none⟩ = some (.bool (ng (rd V))) ∧ wx.cell? ⟨B, 3, none⟩ = some (.slice ey (LI (rd V)) fy) := ⟨by rw [hRB.blk.cell]; rfl, by rw [hRB.blk.cell]; rfl, by rw [hRB.blk.cell]; rfl, by rw [hRB.blk.cell]; rfl⟩
  have hup7 : Hid (∀ w', Below wx.heap.size wx w' → w'.cell? ⟨B, 0, none⟩ = some (.bool (ng (rn V))) ∧ w'.cell? ⟨B, 1, none⟩ = some (.slice ay (LI (rn V)) cy) ∧ w'.cell? ⟨B, 2, none⟩ = some (.bool (ng (rd V))) ∧ w'.cell? ⟨B, 3, none⟩ = some (.slice ey (LI (rd V)) fy)) := fun w' hW => ⟨Below.cellAt hW (Nat.le_refl _) hq1.1, Below.cellAt hW (Nat.le_refl _) hq1.2.1, Below.cellAt hW (Nat.le_refl _) hq1.2.2.1, Below.cellAt hW (Nat.le_refl _) hq1.2.2.2⟩
  obtain ⟨z0, z1, z2, z3⟩ := hq1
  clear hRB hqx hup q0 q1 q2 q3 k1 hwp hwk hB0 szP szK szD hrK hDH hVD
  go_upto_region 2 with (fail)
  by_cases hneg : p * u < o * q
  · obtain ⟨hsg0, hng0⟩ := dR_neg hu1 hq1 hneg
    rw [hVH.out] at hsg0 hng0
    obtain ⟨Y, hY⟩ : ∃ Y, dR o u p q = Y := ⟨_, rfl⟩
    rw [hY] at hng0
    have szY := Lib.hid (show Sz Y by rw [← hY]; exact dR_sz hu1 hq1 ho hu hp2 hq2)
    have hsg := Lib.hid hsg0
    have hng := Lib.hid hng0
    have hYH := Lib.hid hY
    clear hsg0 hng0 hY hneg
    go_upto_region 4 with (first
      | (go_at_call 15; (with_reducible refine (rsignE ay cy ey fy V (-1) _ hsg.out).mono ?_); rintro e w7 ⟨rfl, hb⟩; have hb7 := Lib.hid hb; obtain ⟨s0, s1, s2, s3⟩ := hup7.out _ hb; clear hb)
      | (go_at_call 16; (with_reducible refine (rnegE ay cy ey fy V Y _ (hRBH.out.rm.up hb7.out) szV.out hng.out).mono ?_); rintro e w8 ⟨a8, c8, e8, f8, rfl, hm, hb⟩; have hb8 := Lib.hid (bseqT hb7.out hb); have hm8 := Lib.hid hm; have hk8 := Lib.hid (Blk.later hRBH.out.blk hb8.out); have r0 := hk8.out.cell 0; have r1 := hk8.out.cell 1; have r2 := hk8.out.cell 2; have r3 := hk8.out.cell 3; have f0 := hk8.out.frozen 0; have f1 := hk8.out.frozen 1; have f2 := hk8.out.frozen 2; have f3 := hk8.out.frozen 3; clear hb hm))
    obtain ⟨wy, hwy⟩ : ∃ wy, putR w8 B Y a8 c8 e8 f8 = wy := ⟨_, rfl⟩
    have hwy' : (((w8.setCell ⟨B, 0, none⟩ (.bool (ng (rn Y)))).setCell ⟨B, 1, none⟩ (.slice a8 (LI (rn Y)) c8)).setCell ⟨B, 2, none⟩ (.bool (ng (rd Y)))).setCell ⟨B, 3, none⟩ (.slice e8 (LI (rd Y)) f8) = wy := hwy
    rw [hwy']
    have hRBy := Lib.hid (show RB wy B Y a8 c8 e8 f8 by rw [← hwy]; exact RB.put hk8.out hm8.out)
    have hqy := Lib.hid (show Below W.heap.size W wy by rw [← hwy]; exact putR_below (bseqT hqxH.out hb8.out) hBW)
    clear hwy hwy' hb7 hb8 hm8 hk8 hRBH hup7 hqxH z0 z1 z2 z3 s0 s1 s2 s3 r0 r1 r2 r3 f0 f1 f2 f3 hBx szV hsg hng hVH
    obtain ⟨ay, hay⟩ : ∃ x, a8 = x := ⟨_, rfl⟩
    obtain ⟨cy, hcy⟩ : ∃ x, c8 = x := ⟨_, rfl⟩
    obtain ⟨ey, hey⟩ : ∃ x, e8 = x := ⟨_, rfl⟩
    obtain ⟨fy, hfy⟩ : ∃ x, f8 = x := ⟨_, rfl⟩
    rw [hay, hcy, hey, hfy] at hRBy
    clear hay hcy hey hfy
    have hBy : Below wy.heap.size wy wy := Below.refl _ _
    have hqb := hRBy.out.blk
    have y0 : wy.cell? ⟨B, 0, none⟩ = some (.bool (ng (rn Y))) := by rw [hqb.cell]; rfl
    have y1 : wy.cell? ⟨B, 1, none⟩ = some (.slice ay (LI (rn Y)) cy) := by rw [hqb.cell]; rfl
    have y2 : wy.cell? ⟨B, 2, none⟩ = some (.bool (ng (rd Y))) := by rw [hqb.cell]; rfl
    have y3 : wy.cell? ⟨B, 3, none⟩ = some (.slice ey (LI (rd Y)) fy) := by rw [hqb.cell]; rfl
    clear hqb
    rcases s with _ | ⟨t', p', q'⟩
    · have hBy2 := hBH.out.below hqy.out
      have hn1 := Lib.hid hBy2.1
      have hn2 := Lib.hid hBy2.2
      have m0 : wy.cell? ⟨bb, 0, none⟩ = some (.slice none 0 0) := by rw [hBy2.1.cell]; rfl
      have e0 := eql_nilR0
      clear hBy2
      go_upto_region 5 with (fail)
      have hbb := Blk.later hn1.out hBy
      have hbo := Blk.later hn2.out hBy
      have hbbH := Lib.hid hbb
      have hboH := Lib.hid hbo
      have hRBw := Lib.hid (hRBy.out.up hBy)
      have hqq : wy.cell? ⟨bb, 0, none⟩ = some (.slice none 0 0) ∧ (wy.cell? ⟨B, 0, none⟩ = some (.bool (ng (rn Y))) ∧ wy.cell? ⟨B, 1, none⟩ = some (.slice ay (LI (rn Y)) cy) ∧ wy.cell? ⟨B, 2, none⟩ = some (.bool (ng (rd Y))) ∧ wy.cell? ⟨B, 3, none⟩ = some (.slice ey (LI (rd Y)) fy)) ∧ (wy.cell? ⟨bo, 0, none⟩ = some (.bool false) ∧ wy.cell? ⟨bo, 1, none⟩ = some (.slice none 0 0) ∧ wy.cell? ⟨bo, 2, none⟩ = some (.bool false) ∧ wy.cell? ⟨bo, 3, none⟩ = some (.slice none 0 0)) := ⟨by rw [hbb.cell]; rfl, ⟨by rw [hRBw.out.blk.cell]; rfl, by rw [hRBw.out.blk.cell]; rfl, by rw [hRBw.out.blk.cell]; rfl, by rw [hRBw.out.blk.cell]; rfl⟩, ⟨by rw [hbo.cell]; rfl, by rw [hbo.cell]; rfl, by rw [hbo.cell]; rfl, by rw [hbo.cell]; rfl⟩⟩
      have hup8 : Hid (∀ w', Below wy.heap.size wy w' → w'.cell? ⟨bb, 0, none⟩ = some (.slice none 0 0) ∧ (w'.cell? ⟨B, 0, none⟩ = some (.bool (ng (rn Y))) ∧ w'.cell? ⟨B, 1, none⟩ = some (.slice ay (LI (rn Y)) cy) ∧ w'.cell? ⟨B, 2, none⟩ = some (.bool (ng (rd Y))) ∧ w'.cell? ⟨B, 3, none⟩ = some (.slice ey (LI (rd Y)) fy)) ∧ (w'.cell? ⟨bo, 0, none⟩ = some (.bool false) ∧ w'.cell? ⟨bo, 1, none⟩ = some (.slice none 0 0) ∧ w'.cell? ⟨bo, 2, none⟩ = some (.bool false) ∧ w'.cell? ⟨bo, 3, none⟩ = some (.slice none 0 0))) := fun w' hW => ⟨Below.cellAt hW (Nat.le_refl _) hqq.1, ⟨Below.cellAt hW (Nat.le_refl _) hqq.2.1.1, Below.cellAt hW (Nat.le_refl _) hqq.2.1.2.1, Below.cellAt hW (Nat.le_refl _) hqq.2.1.2.2.1, Below.cellAt hW (Nat.le_refl _) hqq.2.1.2.2.2⟩, ⟨Below.cellAt hW (Nat.le_refl _) hqq.2.2.1, Below.cellAt hW (Nat.le_refl _) hqq.2.2.2.1, Below.cellAt hW (Nat.le_refl _) hqq.2.2.2.2.1, Below.cellAt hW (Nat.le_refl _) hqq.2.2.2.2.2⟩⟩
      have hBw : Below wy.heap.size wy wy := Below.refl _ _
      have ne1 := hNH.out.bq
      have ne2 := hNH.out.bq.symm
      have hBb : B ≠ bb := by have := hlt0.out.1; omega
      have hTw := Lib.hid (hTH.out.below hqy.out)
      clear hbb hbo hqq
      have hwz : Hid (∀ w' v', Below wy.heap.size wy w' → ((w'.setCell ⟨bb, 0, none⟩ v').cell? ⟨B, 0, none⟩ = some (.bool (ng (rn Y))) ∧ (w'.setCell ⟨bb, 0, none⟩ v').cell? ⟨B, 1, none⟩ = some (.slice ay (LI (rn Y)) cy) ∧ (w'.setCell ⟨bb, 0, none⟩ v').cell? ⟨B, 2, none⟩ = some (.bool (ng (rd Y))) ∧ (w'.setCell ⟨bb, 0, none⟩ v').cell? ⟨B, 3, none⟩ = some (.slice ey (LI (rd Y)) fy)) ∧ ((w'.setCell ⟨bb, 0, none⟩ v').cell? ⟨bo, 0, none⟩ = some (.bool false) ∧ (w'.setCell ⟨bb, 0, none⟩ v').cell? ⟨bo, 1, none⟩ = some (.slice none 0 0) ∧ (w'.setCell ⟨bb, 0, none⟩ v').cell? ⟨bo, 2, none⟩ = some (.bool false) ∧ (w'.setCell ⟨bb, 0, none⟩ v').cell? ⟨bo, 3, none⟩ = some (.slice none 0 0))) := fun w' v' hW => ⟨⟨by rw [(Blk.far (Blk.later hRBw.out.blk hW) (by exact hBb) v').cell]; rfl, by rw [(Blk.far (Blk.later hRBw.out.blk hW) (by exact hBb) v').cell]; rfl, by rw [(Blk.far (Blk.later hRBw.out.blk hW) (by exact hBb) v').cell]; rfl, by rw [(Blk.far (Blk.later hRBw.out.blk hW) (by exact hBb) v').cell]; rfl⟩, ⟨by rw [(Blk.far (Blk.later hboH.out hW) (by exact ne2) v').cell]; rfl, by rw [(Blk.far (Blk.later hboH.out hW) (by exact ne2) v').cell]; rfl, by rw [(Blk.far (Blk.later hboH.out hW) (by exact ne2) v').cell]; rfl, by rw [(Blk.far (Blk.later hboH.out hW) (by exact ne2) v').cell]; rfl⟩⟩
      -- tail S: fun w' => (w'.cell? ⟨B, 0, none⟩ = some (.bool (ng (rn Y))) ∧ w'.cell? ⟨B, 1, none⟩ = some (.slice ay (LI (rn Y)) cy) ∧ w'.cell? ⟨B, 2, none⟩ = some (.bool (ng (rd Y))) ∧ w'.cell? ⟨B, 3, none⟩ = some (.slice ey (LI (rd Y)) fy)) ∧ (w'.cell? ⟨bo, 0, none⟩ = some (.bool false) ∧ w'.cell? ⟨bo, 1, none⟩ = some (.slice none 0 0) ∧ w'.cell? ⟨bo, 2, none⟩ = some (.bool false) ∧ w'.cell? ⟨bo, 3, none⟩ = some (.slice none 0 0))
      -- tail s0: (hup8.out _ (Below.drew hBw)).2
      -- arm 1: go_at_call 18; (with_reducible refine (cloneT_any ad L ct t _ (hTw.out.below (Below.drew hBw)) htlH.out (by omega) (by omega)).mono ?_); rintro e w9 ⟨g9, c9, rfl, hc9, hI9, hg9, hM9, hb9⟩; have hq9 : Below wy.heap.size wy w9 := bseqT (Below.drew hBw) hb9; have hgz : wy.heap.size ≤ g9 := Nat.le_trans (Below.drew hBw).size hg9; have hI9H := Lib.hid hI9; have mb9 := (hup8.out _ hq9).1; have fz1 := Blk.frozen (Blk.later hbbH.out hq9); have fz2 := Blk.frozen (Blk.later hboH.out hq9); clear hI9 hM9 hb9 hg9
      -- arm 1 s: (hup8.out _ hq9).2
      -- arm 3 s: hwz.out w9 _ hq9
      -- tail lnn 0 2 c1 m3 t4
      refine wp_region_tail (fun w' => (w'.cell? ⟨B, 0, none⟩ = some (.bool (ng (rn Y))) ∧ w'.cell? ⟨B, 1, none⟩ = some (.slice ay (LI (rn Y)) cy) ∧ w'.cell? ⟨B, 2, none⟩ = some (.bool (ng (rd Y))) ∧ w'.cell? ⟨B, 3, none⟩ = some (.slice ey (LI (rd Y)) fy)) ∧ (w'.cell? ⟨bo, 0, none⟩ = some (.bool false) ∧ w'.cell? ⟨bo, 1, none⟩ = some (.slice none 0 0) ∧ w'.cell? ⟨bo, 2, none⟩ = some (.bool false) ∧ w'.cell? ⟨bo, 3, none⟩ = some (.slice none 0 0))) (fun j => decide (4 ≤ j)) (by kernel_rfl) ((hup8.out _ (Below.drew hBw)).2) (fun hHeld => ?_)
      refine wpAnyT_take (i := 0) (oi := ?oilnn0) (v := ?vlnn0) ?holnn0 (by kernel_rfl) (by kernel_rfl) (by kernel_rfl) (by kernel_rfl) ?hqlnn0 (Or.inl ⟨?hwlnn0, ?hylnn0⟩) (by assumption) ?_
      case holnn0 => rfl
      case hwlnn0 => rfl
      case hylnn0 => (intro w hSw; (try dsimp only at hSw); go_split_ands; go_simp; (try (with_reducible rfl)))
      case hqlnn0 => exact fun _ _ _ h => h
      simp only [Act.put, List.getElem_toArray, List.getElem_cons_zero, List.setIfInBounds_toArray, List.set_cons_zero, List.set_cons_succ]
      refine wpAnyT_take (i := 2) (oi := ?oilnn2) (v := ?vlnn2) ?holnn2 (by kernel_rfl) (by kernel_rfl) (by kernel_rfl) (by kernel_rfl) ?hqlnn2 (Or.inl ⟨?hwlnn2, ?hylnn2⟩) (by assumption) ?_
      case holnn2 => rfl
      case hwlnn2 => rfl
      case hylnn2 => (intro w hSw; (try dsimp only at hSw); go_split_ands; go_simp; (try (with_reducible rfl)))
      case hqlnn2 => exact fun _ _ _ h => h
      simp only [Act.put, List.getElem_toArray, List.getElem_cons_succ, List.getElem_cons_zero, List.setIfInBounds_toArray, List.set_cons_zero, List.set_cons_succ]
      refine wpAnyT_one (i := 1) (o := ?oilnn1) (by kernel_rfl) ?holnn1 (fun K hK => ?_)
      case holnn1 => rfl
      rw [if_pos (by rfl)]
      go_simp
      go_at_call 18; (with_reducible refine (cloneT_any ad L ct t _ (hTw.out.below (Below.drew hBw)) htlH.out (by omega) (by omega)).mono ?_); rintro e w9 ⟨g9, c9, rfl, hc9, hI9, hg9, hM9, hb9⟩; have hq9 : Below wy.heap.size wy w9 := bseqT (Below.drew hBw) hb9; have hgz : wy.heap.size ≤ g9 := Nat.le_trans (Below.drew hBw).size hg9; have hI9H := Lib.hid hI9; have mb9 := (hup8.out _ hq9).1; have fz1 := Blk.frozen (Blk.later hbbH.out hq9); have fz2 := Blk.frozen (Blk.later hboH.out hq9); clear hI9 hM9 hb9 hg9
      (try go_wp2_with (fail))
      refine hK.out _ _ (fun _ => (hup8.out _ hq9).2) (fun hHeld => ?_)
      replace hHeld := hHeld rfl
      clear hK K
      refine wpAnyT_one (i := 3) (o := ?oilnn3) (by kernel_rfl) ?holnn3 (fun K hK => ?_)
      case holnn3 => rfl
      rw [if_pos (by rfl)]
      go_simp
      refine hK.out _ _ (fun _ => hwz.out w9 _ hq9) (fun hHeld => ?_)
      replace hHeld := hHeld rfl
      clear hK K
      refine wpAnyT_one (i := 4) (o := ?oilnn4) (by kernel_rfl) ?holnn4 (fun K hK => ?_)
      case holnn4 => rfl
      rw [if_pos (by rfl)]
      go_simp
      refine hK.out _ _ (fun h0 => by cases h0) (fun _ => ?_)
      clear hK K
      refine wpAnyT_done (by kernel_rfl) ?_ _
      -- tail end
      go_wp2_with (fail)
      refine bodyPost_ret (results_none rfl _ _ _) rfl ?_
      have hlb := (Blk.lt hbbH.out)
      have hlo := (Blk.lt hboH.out)
      have htl2 := htlH.out
      have hYd := hYH.out
      subst htl2 hYd
      rw [show updT o u none t p q = some (t, p, q) from rfl]
      refine ⟨rfl, ?_, ?_⟩
      · exact Fr.trans (Fr.of (bseqT hqy.out hq9)) (((Fr.refl bb bo w9).setb 0 _).putc _ _ _ _ _)
      · exact BOK.put (Blk.later hbbH.out hq9) (Blk.later hboH.out hq9) (by intro _ _ h; cases h) ne1 hc9 hI9H.out (by omega) (by omega) ((hRBw.out.rm.up hq9))
    · obtain ⟨g, c', a', f', e', d', hn1, hc', hI', hg1, hg2, hRo⟩ := hBH.out.below hqy.out
      obtain ⟨hl', hp1', hp2', hq1', hq2', hx'⟩ := hSH.out _ _ _ rfl
      obtain ⟨L', hL'⟩ : ∃ L', t'.length = L' := ⟨_, rfl⟩
      obtain ⟨Y', hY'⟩ : ∃ Y', dR o u p' q' = Y' := ⟨_, rfl⟩
      rw [hL'] at hn1
      rw [hY'] at hRo
      have szY' := Lib.hid (show Sz Y' by rw [← hY']; exact dR_sz hu1 hq1' ho hu hp2' hq2')
      have hY'H := Lib.hid hY'
      have hL'H := Lib.hid hL'
      have m0 : wy.cell? ⟨bb, 0, none⟩ = some (.slice (some ⟨g, 0, none⟩) L' c') := by rw [hn1.cell]; rfl
      have o0 : wy.cell? ⟨bo, 0, none⟩ = some (.bool (ng (rn Y'))) := by rw [hRo.blk.cell]; rfl
      have o1 : wy.cell? ⟨bo, 1, none⟩ = some (.slice a' (LI (rn Y')) f') := by rw [hRo.blk.cell]; rfl
      have o2 : wy.cell? ⟨bo, 2, none⟩ = some (.bool (ng (rd Y'))) := by rw [hRo.blk.cell]; rfl
      have o3 : wy.cell? ⟨bo, 3, none⟩ = some (.slice e' (LI (rd Y')) d') := by rw [hRo.blk.cell]; rfl
      have hn1 := Lib.hid hn1
      have hn2 := Lib.hid hRo.blk
      have hRoH := Lib.hid hRo.rm
      have hOld := Lib.hid (hBH.out.below hqy.out)
      have e1 := eql_nilR1
      obtain ⟨z, hz⟩ : ∃ z, rsg Y Y' = z := ⟨_, rfl⟩
      have hzH := Lib.hid hz
      have hlt : z < 0 ↔ closerB o u p q p' q' = true := by rw [← hz, rsg_lt, ← hYH.out, ← hY']; exact dR_lt hu1 hq1 hq1'
      clear hL' hY' hz hRo hI' hc' hl' hx' hBH
      cases hcb : closerB o u p q p' q' with
      | true =>
        have hz1 : decide (z < 0) = true := decide_eq_true (hlt.2 hcb)
        have hcl := Lib.hid hcb
        clear hcb hlt
        go_upto_region 5 with (go_at_call 17; (with_reducible refine (rcmpE ay cy ey fy a' f' e' d' Y Y' z _ hRBy.out.rm hRoH.out szY.out szY'.out hzH.out).mono ?_); rintro e w10 ⟨rfl, hb10⟩; have hb10H := Lib.hid hb10; clear hb10)
        have hq10 := bseqT hqy.out hb10H.out
        have hbb := Blk.later hn1.out hb10H.out
        have hbo := Blk.later hn2.out hb10H.out
        have hbbH := Lib.hid hbb
        have hboH := Lib.hid hbo
        have hRBw := Lib.hid (hRBy.out.up hb10H.out)
        have hqq : w10.cell? ⟨bb, 0, none⟩ = some (.slice (some ⟨g, 0, none⟩) L' c') ∧ (w10.cell? ⟨B, 0, none⟩ = some (.bool (ng (rn Y))) ∧ w10.cell? ⟨B, 1, none⟩ = some (.slice ay (LI (rn Y)) cy) ∧ w10.cell? ⟨B, 2, none⟩ = some (.bool (ng (rd Y))) ∧ w10.cell? ⟨B, 3, none⟩ = some (.slice ey (LI (rd Y)) fy)) ∧ (w10.cell? ⟨bo, 0, none⟩ = some (.bool (ng (rn Y'))) ∧ w10.cell? ⟨bo, 1, none⟩ = some (.slice a' (LI (rn Y')) f') ∧ w10.cell? ⟨bo, 2, none⟩ = some (.bool (ng (rd Y'))) ∧ w10.cell? ⟨bo, 3, none⟩ = some (.slice e' (LI (rd Y')) d')) := ⟨by rw [hbb.cell]; rfl, ⟨by rw [hRBw.out.blk.cell]; rfl, by rw [hRBw.out.blk.cell]; rfl, by rw [hRBw.out.blk.cell]; rfl, by rw [hRBw.out.blk.cell]; rfl⟩, ⟨by rw [hbo.cell]; rfl, by rw [hbo.cell]; rfl, by rw [hbo.cell]; rfl, by rw [hbo.cell]; rfl⟩⟩
        have hup8 : Hid (∀ w', Below w10.heap.size w10 w' → w'.cell? ⟨bb, 0, none⟩ = some (.slice (some ⟨g, 0, none⟩) L' c') ∧ (w'.cell? ⟨B, 0, none⟩ = some (.bool (ng (rn Y))) ∧ w'.cell? ⟨B, 1, none⟩ = some (.slice ay (LI (rn Y)) cy) ∧ w'.cell? ⟨B, 2, none⟩ = some (.bool (ng (rd Y))) ∧ w'.cell? ⟨B, 3, none⟩ = some (.slice ey (LI (rd Y)) fy)) ∧ (w'.cell? ⟨bo, 0, none⟩ = some (.bool (ng (rn Y'))) ∧ w'.cell? ⟨bo, 1, none⟩ = some (.slice a' (LI (rn Y')) f') ∧ w'.cell? ⟨bo, 2, none⟩ = some (.bool (ng (rd Y'))) ∧ w'.cell? ⟨bo, 3, none⟩ = some (.slice e' (LI (rd Y')) d'))) := fun w' hW => ⟨Below.cellAt hW (Nat.le_refl _) hqq.1, ⟨Below.cellAt hW (Nat.le_refl _) hqq.2.1.1, Below.cellAt hW (Nat.le_refl _) hqq.2.1.2.1, Below.cellAt hW (Nat.le_refl _) hqq.2.1.2.2.1, Below.cellAt hW (Nat.le_refl _) hqq.2.1.2.2.2⟩, ⟨Below.cellAt hW (Nat.le_refl _) hqq.2.2.1, Below.cellAt hW (Nat.le_refl _) hqq.2.2.2.1, Below.cellAt hW (Nat.le_refl _) hqq.2.2.2.2.1, Below.cellAt hW (Nat.le_refl _) hqq.2.2.2.2.2⟩⟩
        have hBw : Below w10.heap.size w10 w10 := Below.refl _ _
        have ne1 := hNH.out.bq
        have ne2 := hNH.out.bq.symm
        have hBb : B ≠ bb := by have := hlt0.out.1; omega
        have hTw := Lib.hid (hTH.out.below hq10)
        clear hbb hbo hqq
        have hwz : Hid (∀ w' v', Below w10.heap.size w10 w' → ((w'.setCell ⟨bb, 0, none⟩ v').cell? ⟨B, 0, none⟩ = some (.bool (ng (rn Y))) ∧ (w'.setCell ⟨bb, 0, none⟩ v').cell? ⟨B, 1, none⟩ = some (.slice ay (LI (rn Y)) cy) ∧ (w'.setCell ⟨bb, 0, none⟩ v').cell? ⟨B, 2, none⟩ = some (.bool (ng (rd Y))) ∧ (w'.setCell ⟨bb, 0, none⟩ v').cell? ⟨B, 3, none⟩ = some (.slice ey (LI (rd Y)) fy)) ∧ ((w'.setCell ⟨bb, 0, none⟩ v').cell? ⟨bo, 0, none⟩ = some (.bool (ng (rn Y'))) ∧ (w'.setCell ⟨bb, 0, none⟩ v').cell? ⟨bo, 1, none⟩ = some (.slice a' (LI (rn Y')) f') ∧ (w'.setCell ⟨bb, 0, none⟩ v').cell? ⟨bo, 2, none⟩ = some (.bool (ng (rd Y'))) ∧ (w'.setCell ⟨bb, 0, none⟩ v').cell? ⟨bo, 3, none⟩ = some (.slice e' (LI (rd Y')) d'))) := fun w' v' hW => ⟨⟨by rw [(Blk.far (Blk.later hRBw.out.blk hW) (by exact hBb) v').cell]; rfl, by rw [(Blk.far (Blk.later hRBw.out.blk hW) (by exact hBb) v').cell]; rfl, by rw [(Blk.far (Blk.later hRBw.out.blk hW) (by exact hBb) v').cell]; rfl, by rw [(Blk.far (Blk.later hRBw.out.blk hW) (by exact hBb) v').cell]; rfl⟩, ⟨by rw [(Blk.far (Blk.later hboH.out hW) (by exact ne2) v').cell]; rfl, by rw [(Blk.far (Blk.later hboH.out hW) (by exact ne2) v').cell]; rfl, by rw [(Blk.far (Blk.later hboH.out hW) (by exact ne2) v').cell]; rfl, by rw [(Blk.far (Blk.later hboH.out hW) (by exact ne2) v').cell]; rfl⟩⟩
        -- tail S: fun w' => (w'.cell? ⟨B, 0, none⟩ = some (.bool (ng (rn Y))) ∧ w'.cell? ⟨B, 1, none⟩ = some (.slice ay (LI (rn Y)) cy) ∧ w'.cell? ⟨B, 2, none⟩ = some (.bool (ng (rd Y))) ∧ w'.cell? ⟨B, 3, none⟩ = some (.slice ey (LI (rd Y)) fy)) ∧ (w'.cell? ⟨bo, 0, none⟩ = some (.bool (ng (rn Y'))) ∧ w'.cell? ⟨bo, 1, none⟩ = some (.slice a' (LI (rn Y')) f') ∧ w'.cell? ⟨bo, 2, none⟩ = some (.bool (ng (rd Y'))) ∧ w'.cell? ⟨bo, 3, none⟩ = some (.slice e' (LI (rd Y')) d'))
        -- tail s0: (hup8.out _ (Below.drew hBw)).2
        -- arm 1: go_at_call 18; (with_reducible refine (cloneT_any ad L ct t _ (hTw.out.below (Below.drew hBw)) htlH.out (by omega) (by omega)).mono ?_); rintro e w9 ⟨g9, c9, rfl, hc9, hI9, hg9, hM9, hb9⟩; have hq9 : Below w10.heap.size w10 w9 := bseqT (Below.drew hBw) hb9; have hgz : w10.heap.size ≤ g9 := Nat.le_trans (Below.drew hBw).size hg9; have hI9H := Lib.hid hI9; have mb9 := (hup8.out _ hq9).1; have fz1 := Blk.frozen (Blk.later hbbH.out hq9); have fz2 := Blk.frozen (Blk.later hboH.out hq9); clear hI9 hM9 hb9 hg9
        -- arm 1 s: (hup8.out _ hq9).2
        -- arm 3 s: hwz.out w9 _ hq9
        -- tail lns 0 2 c1 m3 t4
        refine wp_region_tail (fun w' => (w'.cell? ⟨B, 0, none⟩ = some (.bool (ng (rn Y))) ∧ w'.cell? ⟨B, 1, none⟩ = some (.slice ay (LI (rn Y)) cy) ∧ w'.cell? ⟨B, 2, none⟩ = some (.bool (ng (rd Y))) ∧ w'.cell? ⟨B, 3, none⟩ = some (.slice ey (LI (rd Y)) fy)) ∧ (w'.cell? ⟨bo, 0, none⟩ = some (.bool (ng (rn Y'))) ∧ w'.cell? ⟨bo, 1, none⟩ = some (.slice a' (LI (rn Y')) f') ∧ w'.cell? ⟨bo, 2, none⟩ = some (.bool (ng (rd Y'))) ∧ w'.cell? ⟨bo, 3, none⟩ = some (.slice e' (LI (rd Y')) d'))) (fun j => decide (4 ≤ j)) (by kernel_rfl) ((hup8.out _ (Below.drew hBw)).2) (fun hHeld => ?_)
        refine wpAnyT_take (i := 0) (oi := ?oilns0) (v := ?vlns0) ?holns0 (by kernel_rfl) (by kernel_rfl) (by kernel_rfl) (by kernel_rfl) ?hqlns0 (Or.inl ⟨?hwlns0, ?hylns0⟩) (by assumption) ?_
        case holns0 => rfl
        case hwlns0 => rfl
        case hylns0 => (intro w hSw; (try dsimp only at hSw); go_split_ands; go_simp; (try (with_reducible rfl)))
        case hqlns0 => exact fun _ _ _ h => h
        simp only [Act.put, List.getElem_toArray, List.getElem_cons_zero, List.setIfInBounds_toArray, List.set_cons_zero, List.set_cons_succ]
        refine wpAnyT_take (i := 2) (oi := ?oilns2) (v := ?vlns2) ?holns2 (by kernel_rfl) (by kernel_rfl) (by kernel_rfl) (by kernel_rfl) ?hqlns2 (Or.inl ⟨?hwlns2, ?hylns2⟩) (by assumption) ?_
        case holns2 => rfl
        case hwlns2 => rfl
        case hylns2 => (intro w hSw; (try dsimp only at hSw); go_split_ands; go_simp; (try (with_reducible rfl)))
        case hqlns2 => exact fun _ _ _ h => h
        simp only [Act.put, List.getElem_toArray, List.getElem_cons_succ, List.getElem_cons_zero, List.setIfInBounds_toArray, List.set_cons_zero, List.set_cons_succ]
        refine wpAnyT_one (i := 1) (o := ?oilns1) (by kernel_rfl) ?holns1 (fun K hK => ?_)
        case holns1 => rfl
        rw [if_pos (by rfl)]
        go_simp
        go_at_call 18; (with_reducible refine (cloneT_any ad L ct t _ (hTw.out.below (Below.drew hBw)) htlH.out (by omega) (by omega)).mono ?_); rintro e w9 ⟨g9, c9, rfl, hc9, hI9, hg9, hM9, hb9⟩; have hq9 : Below w10.heap.size w10 w9 := bseqT (Below.drew hBw) hb9; have hgz : w10.heap.size ≤ g9 := Nat.le_trans (Below.drew hBw).size hg9; have hI9H := Lib.hid hI9; have mb9 := (hup8.out _ hq9).1; have fz1 := Blk.frozen (Blk.later hbbH.out hq9); have fz2 := Blk.frozen (Blk.later hboH.out hq9); clear hI9 hM9 hb9 hg9
        (try go_wp2_with (fail))
        refine hK.out _ _ (fun _ => (hup8.out _ hq9).2) (fun hHeld => ?_)
        replace hHeld := hHeld rfl
        clear hK K
        refine wpAnyT_one (i := 3) (o := ?oilns3) (by kernel_rfl) ?holns3 (fun K hK => ?_)
        case holns3 => rfl
        rw [if_pos (by rfl)]
        go_simp
        refine hK.out _ _ (fun _ => hwz.out w9 _ hq9) (fun hHeld => ?_)
        replace hHeld := hHeld rfl
        clear hK K
        refine wpAnyT_one (i := 4) (o := ?oilns4) (by kernel_rfl) ?holns4 (fun K hK => ?_)
        case holns4 => rfl
        rw [if_pos (by rfl)]
        go_simp
        refine hK.out _ _ (fun h0 => by cases h0) (fun _ => ?_)
        clear hK K
        refine wpAnyT_done (by kernel_rfl) ?_ _
        -- tail end
        go_wp2_with (fail)
        refine bodyPost_ret (results_none rfl _ _ _) rfl ?_
        have hlb := (Blk.lt hbbH.out)
        have hlo := (Blk.lt hboH.out)
        have htl2 := htlH.out
        have hYd := hYH.out
        subst htl2 hYd
        rw [updT_yes hcl.out]
        refine ⟨rfl, ?_, ?_⟩
        · exact Fr.trans (Fr.of (bseqT hq10 hq9)) (((Fr.refl bb bo w9).setb 0 _).putc _ _ _ _ _)
        · exact BOK.put (Blk.later hbbH.out hq9) (Blk.later hboH.out hq9) (by intro _ _ h; cases h) ne1 hc9 hI9H.out (by omega) (by omega) ((hRBw.out.rm.up hq9))
      | false =>
        have hz1 : decide (z < 0) = false := decide_eq_false (fun h => by have := hlt.1 h; rw [hcb] at this; cases this)
        have hcl := Lib.hid hcb
        clear hcb hlt
        go_wp2_with (go_at_call 17; (with_reducible refine (rcmpE ay cy ey fy a' f' e' d' Y Y' z _ hRBy.out.rm hRoH.out szY.out szY'.out hzH.out).mono ?_); rintro e w10 ⟨rfl, hb10⟩; have hb10H := Lib.hid hb10; clear hb10)
        refine bodyPost_ret (results_none rfl _ _ _) rfl ?_
        rw [updT_no hcl.out]
        exact ⟨rfl, Fr.of (bseqT hqy.out hb10H.out), hOld.out.below hb10H.out⟩
  · obtain ⟨hsg0, hVY⟩ := dR_nneg hu1 hq1 hneg
    rw [hVH.out] at hsg0 hVY
    obtain ⟨z, hz⟩ : ∃ z, sg (rn V) = z := ⟨_, rfl⟩
    rw [hz] at hsg0
    have hzb : decide (z < 0) = false := decide_eq_false hsg0
    have hsg := Lib.hid hz
    have hYH := Lib.hid hVY.symm
    clear hsg0 hz hneg hVY
    go_upto_region 4 with (go_at_call 15; go_loud (with_reducible refine (rsignE ay cy ey fy V z _ hsg.out).mono ?_); rintro e w7 ⟨rfl, hb⟩; have hb7 := Lib.hid hb; clear hb)
    obtain ⟨wy, hwy⟩ : ∃ wy, wy = w7 := ⟨_, rfl⟩
    subst hwy
    obtain ⟨Y, hYV⟩ : ∃ Y, Y = V := ⟨_, rfl⟩
    subst hYV
    have szY := szV
    have hRBy := Lib.hid (hRBH.out.up hb7.out)
    have hqy := Lib.hid (bseqT hqxH.out hb7.out)
    clear hb7 hRBH hup7 hqxH z0 z1 z2 z3 hBx hsg hVH hzb
    have hBy : Below wy.heap.size wy wy := Below.refl _ _
    have hqb := hRBy.out.blk
    have y0 : wy.cell? ⟨B, 0, none⟩ = some (.bool (ng (rn Y))) := by rw [hqb.cell]; rfl
    have y1 : wy.cell? ⟨B, 1, none⟩ = some (.slice ay (LI (rn Y)) cy) := by rw [hqb.cell]; rfl
    have y2 : wy.cell? ⟨B, 2, none⟩ = some (.bool (ng (rd Y))) := by rw [hqb.cell]; rfl
    have y3 : wy.cell? ⟨B, 3, none⟩ = some (.slice ey (LI (rd Y)) fy) := by rw [hqb.cell]; rfl
    clear hqb
    rcases s with _ | ⟨t', p', q'⟩
    · have hBy2 := hBH.out.below hqy.out
      have hn1 := Lib.hid hBy2.1
      have hn2 := Lib.hid hBy2.2
      have m0 : wy.cell? ⟨bb, 0, none⟩ = some (.slice none 0 0) := by rw [hBy2.1.cell]; rfl
      have e0 := eql_nilR0
      clear hBy2
      go_upto_region 5 with (fail)
      have hbb := Blk.later hn1.out hBy
      have hbo := Blk.later hn2.out hBy
      have hbbH := Lib.hid hbb
      have hboH := Lib.hid hbo
      have hRBw := Lib.hid (hRBy.out.up hBy)
      have hqq : wy.cell? ⟨bb, 0, none⟩ = some (.slice none 0 0) ∧ (wy.cell? ⟨B, 0, none⟩ = some (.bool (ng (rn Y))) ∧ wy.cell? ⟨B, 1, none⟩ = some (.slice ay (LI (rn Y)) cy) ∧ wy.cell? ⟨B, 2, none⟩ = some (.bool (ng (rd Y))) ∧ wy.cell? ⟨B, 3, none⟩ = some (.slice ey (LI (rd Y)) fy)) ∧ (wy.cell? ⟨bo, 0, none⟩ = some (.bool false) ∧ wy.cell? ⟨bo, 1, none⟩ = some (.slice none 0 0) ∧ wy.cell? ⟨bo, 2, none⟩ = some (.bool false) ∧ wy.cell? ⟨bo, 3, none⟩ = some (.slice none 0 0)) := ⟨by rw [hbb.cell]; rfl, ⟨by rw [hRBw.out.blk.cell]; rfl, by rw [hRBw.out.blk.cell]; rfl, by rw [hRBw.out.blk.cell]; rfl, by rw [hRBw.out.blk.cell]; rfl⟩, ⟨by rw [hbo.cell]; rfl, by rw [hbo.cell]; rfl, by rw [hbo.cell]; rfl, by rw [hbo.cell]; rfl⟩⟩
      have hup8 : Hid (∀ w', Below wy.heap.size wy w' → w'.cell? ⟨bb, 0, none⟩ = some (.slice none 0 0) ∧ (w'.cell? ⟨B, 0, none⟩ = some (.bool (ng (rn Y))) ∧ w'.cell? ⟨B, 1, none⟩ = some (.slice ay (LI (rn Y)) cy) ∧ w'.cell? ⟨B, 2, none⟩ = some (.bool (ng (rd Y))) ∧ w'.cell? ⟨B, 3, none⟩ = some (.slice ey (LI (rd Y)) fy)) ∧ (w'.cell? ⟨bo, 0, none⟩ = some (.bool false) ∧ w'.cell? ⟨bo, 1, none⟩ = some (.slice none 0 0) ∧ w'.cell? ⟨bo, 2, none⟩ = some (.bool false) ∧ w'.cell? ⟨bo, 3, none⟩ = some (.slice none 0 0))) := fun w' hW => ⟨Below.cellAt hW (Nat.le_refl _) hqq.1, ⟨Below.cellAt hW (Nat.le_refl _) hqq.2.1.1, Below.cellAt hW (Nat.le_refl _) hqq.2.1.2.1, Below.cellAt hW (Nat.le_refl _) hqq.2.1.2.2.1, Below.cellAt hW (Nat.le_refl _) hqq.2.1.2.2.2⟩, ⟨Below.cellAt hW (Nat.le_refl _) hqq.2.2.1, Below.cellAt hW (Nat.le_refl _) hqq.2.2.2.1, Below.cellAt hW (Nat.le_refl _) hqq.2.2.2.2.1, Below.cellAt hW (Nat.le_refl _) hqq.2.2.2.2.2⟩⟩
      have hBw : Below wy.heap.size wy wy := Below.refl _ _
      have ne1 := hNH.out.bq
      have ne2 := hNH.out.bq.symm
      have hBb : B ≠ bb := by have := hlt0.out.1; omega
      have hTw := Lib.hid (hTH.out.below hqy.out)
      clear hbb hbo hqq
      have hwz : Hid (∀ w' v', Below wy.heap.size wy w' → ((w'.setCell ⟨bb, 0, none⟩ v').cell? ⟨B, 0, none⟩ = some (.bool (ng (rn Y))) ∧ (w'.setCell ⟨bb, 0, none⟩ v').cell? ⟨B, 1, none⟩ = some (.slice ay (LI (rn Y)) cy) ∧ (w'.setCell ⟨bb, 0, none⟩ v').cell? ⟨B, 2, none⟩ = some (.bool (ng (rd Y))) ∧ (w'.setCell ⟨bb, 0, none⟩ v').cell? ⟨B, 3, none⟩ = some (.slice ey (LI (rd Y)) fy)) ∧ ((w'.setCell ⟨bb, 0, none⟩ v').cell? ⟨bo, 0, none⟩ = some (.bool false) ∧ (w'.setCell ⟨bb, 0, none⟩ v').cell? ⟨bo, 1, none⟩ = some (.slice none 0 0) ∧ (w'.setCell ⟨bb, 0, none⟩ v').cell? ⟨bo, 2, none⟩ = some (.bool false) ∧ (w'.setCell ⟨bb, 0, none⟩ v').cell? ⟨bo, 3, none⟩ = some (.slice none 0 0))) := fun w' v' hW => ⟨⟨by rw [(Blk.far (Blk.later hRBw.out.blk hW) (by exact hBb) v').cell]; rfl, by rw [(Blk.far (Blk.later hRBw.out.blk hW) (by exact hBb) v').cell]; rfl, by rw [(Blk.far (Blk.later hRBw.out.blk hW) (by exact hBb) v').cell]; rfl, by rw [(Blk.far (Blk.later hRBw.out.blk hW) (by exact hBb) v').cell]; rfl⟩, ⟨by rw [(Blk.far (Blk.later hboH.out hW) (by exact ne2) v').cell]; rfl, by rw [(Blk.far (Blk.later hboH.out hW) (by exact ne2) v').cell]; rfl, by rw [(Blk.far (Blk.later hboH.out hW) (by exact ne2) v').cell]; rfl, by rw [(Blk.far (Blk.later hboH.out hW) (by exact ne2) v').cell]; rfl⟩⟩
      -- tail S: fun w' => (w'.cell? ⟨B, 0, none⟩ = some (.bool (ng (rn Y))) ∧ w'.cell? ⟨B, 1, none⟩ = some (.slice ay (LI (rn Y)) cy) ∧ w'.cell? ⟨B, 2, none⟩ = some (.bool (ng (rd Y))) ∧ w'.cell? ⟨B, 3, none⟩ = some (.slice ey (LI (rd Y)) fy)) ∧ (w'.cell? ⟨bo, 0, none⟩ = some (.bool false) ∧ w'.cell? ⟨bo, 1, none⟩ = some (.slice none 0 0) ∧ w'.cell? ⟨bo, 2, none⟩ = some (.bool false) ∧ w'.cell? ⟨bo, 3, none⟩ = some (.slice none 0 0))
      -- tail s0: (hup8.out _ (Below.drew hBw)).2
      -- arm 1: go_at_call 18; (with_reducible refine (cloneT_any ad L ct t _ (hTw.out.below (Below.drew hBw)) htlH.out (by omega) (by omega)).mono ?_); rintro e w9 ⟨g9, c9, rfl, hc9, hI9, hg9, hM9, hb9⟩; have hq9 : Below wy.heap.size wy w9 := bseqT (Below.drew hBw) hb9; have hgz : wy.heap.size ≤ g9 := Nat.le_trans (Below.drew hBw).size hg9; have hI9H := Lib.hid hI9; have mb9 := (hup8.out _ hq9).1; have fz1 := Blk.frozen (Blk.later hbbH.out hq9); have fz2 := Blk.frozen (Blk.later hboH.out hq9); clear hI9 hM9 hb9 hg9
      -- arm 1 s: (hup8.out _ hq9).2
      -- arm 3 s: hwz.out w9 _ hq9
      -- tail lpn 0 2 c1 m3 t4
      refine wp_region_tail (fun w' => (w'.cell? ⟨B, 0, none⟩ = some (.bool (ng (rn Y))) ∧ w'.cell? ⟨B, 1, none⟩ = some (.slice ay (LI (rn Y)) cy) ∧ w'.cell? ⟨B, 2, none⟩ = some (.bool (ng (rd Y))) ∧ w'.cell? ⟨B, 3, none⟩ = some (.slice ey (LI (rd Y)) fy)) ∧ (w'.cell? ⟨bo, 0, none⟩ = some (.bool false) ∧ w'.cell? ⟨bo, 1, none⟩ = some (.slice none 0 0) ∧ w'.cell? ⟨bo, 2, none⟩ = some (.bool false) ∧ w'.cell? ⟨bo, 3, none⟩ = some (.slice none 0 0))) (fun j => decide (4 ≤ j)) (by kernel_rfl) ((hup8.out _ (Below.drew hBw)).2) (fun hHeld => ?_)
      refine wpAnyT_take (i := 0) (oi := ?oilpn0) (v := ?vlpn0) ?holpn0 (by kernel_rfl) (by kernel_rfl) (by kernel_rfl) (by kernel_rfl) ?hqlpn0 (Or.inl ⟨?hwlpn0, ?hylpn0⟩) (by assumption) ?_
      case holpn0 => rfl
      case hwlpn0 => rfl
      case hylpn0 => (intro w hSw; (try dsimp only at hSw); go_split_ands; go_simp; (try (with_reducible rfl)))
      case hqlpn0 => exact fun _ _ _ h => h
      simp only [Act.put, List.getElem_toArray, List.getElem_cons_zero, List.setIfInBounds_toArray, List.set_cons_zero, List.set_cons_succ]
      refine wpAnyT_take (i := 2) (oi := ?oilpn2) (v := ?vlpn2) ?holpn2 (by kernel_rfl) (by kernel_rfl) (by kernel_rfl) (by kernel_rfl) ?hqlpn2 (Or.inl ⟨?hwlpn2, ?hylpn2⟩) (by assumption) ?_
      case holpn2 => rfl
      case hwlpn2 => rfl
      case hylpn2 => (intro w hSw; (try dsimp only at hSw); go_split_ands; go_simp; (try (with_reducible rfl)))
      case hqlpn2 => exact fun _ _ _ h => h
      simp only [Act.put, List.getElem_toArray, List.getElem_cons_succ, List.getElem_cons_zero, List.setIfInBounds_toArray, List.set_cons_zero, List.set_cons_succ]
      refine wpAnyT_one (i := 1) (o := ?oilpn1) (by kernel_rfl) ?holpn1 (fun K hK => ?_)
      case holpn1 => rfl
      rw [if_pos (by rfl)]
      go_simp
      go_at_call 18; (with_reducible refine (cloneT_any ad L ct t _ (hTw.out.below (Below.drew hBw)) htlH.out (by omega) (by omega)).mono ?_); rintro e w9 ⟨g9, c9, rfl, hc9, hI9, hg9, hM9, hb9⟩; have hq9 : Below wy.heap.size wy w9 := bseqT (Below.drew hBw) hb9; have hgz : wy.heap.size ≤ g9 := Nat.le_trans (Below.drew hBw).size hg9; have hI9H := Lib.hid hI9; have mb9 := (hup8.out _ hq9).1; have fz1 := Blk.frozen (Blk.later hbbH.out hq9); have fz2 := Blk.frozen (Blk.later hboH.out hq9); clear hI9 hM9 hb9 hg9
      (try go_wp2_with (fail))
      refine hK.out _ _ (fun _ => (hup8.out _ hq9).2) (fun hHeld => ?_)
      replace hHeld := hHeld rfl
      clear hK K
      refine wpAnyT_one (i := 3) (o := ?oilpn3) (by kernel_rfl) ?holpn3 (fun K hK => ?_)
      case holpn3 => rfl
      rw [if_pos (by rfl)]
      go_simp
      refine hK.out _ _ (fun _ => hwz.out w9 _ hq9) (fun hHeld => ?_)
      replace hHeld := hHeld rfl
      clear hK K
      refine wpAnyT_one (i := 4) (o := ?oilpn4) (by kernel_rfl) ?holpn4 (fun K hK => ?_)
      case holpn4 => rfl
      rw [if_pos (by rfl)]
      go_simp
      refine hK.out _ _ (fun h0 => by cases h0) (fun _ => ?_)
      clear hK K
      refine wpAnyT_done (by kernel_rfl) ?_ _
      -- tail end
      go_wp2_with (fail)
      refine bodyPost_ret (results_none rfl _ _ _) rfl ?_
      have hlb := (Blk.lt hbbH.out)
      have hlo := (Blk.lt hboH.out)
      have htl2 := htlH.out
      have hYd := hYH.out
      subst htl2 hYd
      rw [show updT o u none t p q = some (t, p, q) from rfl]
      refine ⟨rfl, ?_, ?_⟩
      · exact Fr.trans (Fr.of (bseqT hqy.out hq9)) (((Fr.refl bb bo w9).setb 0 _).putc _ _ _ _ _)
      · exact BOK.put (Blk.later hbbH.out hq9) (Blk.later hboH.out hq9) (by intro _ _ h; cases h) ne1 hc9 hI9H.out (by omega) (by omega) ((hRBw.out.rm.up hq9))
    · obtain ⟨g, c', a', f', e', d', hn1, hc', hI', hg1, hg2, hRo⟩ := hBH.out.below hqy.out
      obtain ⟨hl', hp1', hp2', hq1', hq2', hx'⟩ := hSH.out _ _ _ rfl
      obtain ⟨L', hL'⟩ : ∃ L', t'.length = L' := ⟨_, rfl⟩
      obtain ⟨Y', hY'⟩ : ∃ Y', dR o u p' q' = Y' := ⟨_, rfl⟩
      rw [hL'] at hn1
      rw [hY'] at hRo
      have szY' := Lib.hid (show Sz Y' by rw [← hY']; exact dR_sz hu1 hq1' ho hu hp2' hq2')
      have hY'H := Lib.hid hY'
      have hL'H := Lib.hid hL'
      have m0 : wy.cell? ⟨bb, 0, none⟩ = some (.slice (some ⟨g, 0, none⟩) L' c') := by rw [hn1.cell]; rfl
      have o0 : wy.cell? ⟨bo, 0, none⟩ = some (.bool (ng (rn Y'))) := by rw [hRo.blk.cell]; rfl
      have o1 : wy.cell? ⟨bo, 1, none⟩ = some (.slice a' (LI (rn Y')) f') := by rw [hRo.blk.cell]; rfl
      have o2 : wy.cell? ⟨bo, 2, none⟩ = some (.bool (ng (rd Y'))) := by rw [hRo.blk.cell]; rfl
      have o3 : wy.cell? ⟨bo, 3, none⟩ = some (.slice e' (LI (rd Y')) d') := by rw [hRo.blk.cell]; rfl
      have hn1 := Lib.hid hn1
      have hn2 := Lib.hid hRo.blk
      have hRoH := Lib.hid hRo.rm
      have hOld := Lib.hid (hBH.out.below hqy.out)
      have e1 := eql_nilR1
      obtain ⟨z, hz⟩ : ∃ z, rsg Y Y' = z := ⟨_, rfl⟩
      have hzH := Lib.hid hz
      have hlt : z < 0 ↔ closerB o u p q p' q' = true := by rw [← hz, rsg_lt, ← hYH.out, ← hY']; exact dR_lt hu1 hq1 hq1'
      clear hL' hY' hz hRo hI' hc' hl' hx' hBH
      cases hcb : closerB o u p q p' q' with
      | true =>
        have hz1 : decide (z < 0) = true := decide_eq_true (hlt.2 hcb)
        have hcl := Lib.hid hcb
        clear hcb hlt
        go_upto_region 5 with (go_at_call 17; (with_reducible refine (rcmpE ay cy ey fy a' f' e' d' Y Y' z _ hRBy.out.rm hRoH.out szY.out szY'.out hzH.out).mono ?_); rintro e w10 ⟨rfl, hb10⟩; have hb10H := Lib.hid hb10; clear hb10)
        have hq10 := bseqT hqy.out hb10H.out
        have hbb := Blk.later hn1.out hb10H.out
        have hbo := Blk.later hn2.out hb10H.out
        have hbbH := Lib.hid hbb
        have hboH := Lib.hid hbo
        have hRBw := Lib.hid (hRBy.out.up hb10H.out)
        have hqq : w10.cell? ⟨bb, 0, none⟩ = some (.slice (some ⟨g, 0, none⟩) L' c') ∧ (w10.cell? ⟨B, 0, none⟩ = some (.bool (ng (rn Y))) ∧ w10.cell? ⟨B, 1, none⟩ = some (.slice ay (LI (rn Y)) cy) ∧ w10.cell? ⟨B, 2, none⟩ = some (.bool (ng (rd Y))) ∧ w10.cell? ⟨B, 3, none⟩ = some (.slice ey (LI (rd Y)) fy)) ∧ (w10.cell? ⟨bo, 0, none⟩ = some (.bool (ng (rn Y'))) ∧ w10.cell? ⟨bo, 1, none⟩ = some (.slice a' (LI (rn Y')) f') ∧ w10.cell? ⟨bo, 2, none⟩ = some (.bool (ng (rd Y'))) ∧ w10.cell? ⟨bo, 3, none⟩ = some (.slice e' (LI (rd Y')) d')) := ⟨by rw [hbb.cell]; rfl, ⟨by rw [hRBw.out.blk.cell]; rfl, by rw [hRBw.out.blk.cell]; rfl, by rw [hRBw.out.blk.cell]; rfl, by rw [hRBw.out.blk.cell]; rfl⟩, ⟨by rw [hbo.cell]; rfl, by rw [hbo.cell]; rfl, by rw [hbo.cell]; rfl, by rw [hbo.cell]; rfl⟩⟩
        have hup8 : Hid (∀ w', Below w10.heap.size w10 w' → w'.cell? ⟨bb, 0, none⟩ = some (.slice (some ⟨g, 0, none⟩) L' c') ∧ (w'.cell? ⟨B, 0, none⟩ = some (.bool (ng (rn Y))) ∧ w'.cell? ⟨B, 1, none⟩ = some (.slice ay (LI (rn Y)) cy) ∧ w'.cell? ⟨B, 2, none⟩ = some (.bool (ng (rd Y))) ∧ w'.cell? ⟨B, 3, none⟩ = some (.slice ey (LI (rd Y)) fy)) ∧ (w'.cell? ⟨bo, 0, none⟩ = some (.bool (ng (rn Y'))) ∧ w'.cell? ⟨bo, 1, none⟩ = some (.slice a' (LI (rn Y')) f') ∧ w'.cell? ⟨bo, 2, none⟩ = some (.bool (ng (rd Y'))) ∧ w'.cell? ⟨bo, 3, none⟩ = some (.slice e' (LI (rd Y')) d'))) := fun w' hW => ⟨Below.cellAt hW (Nat.le_refl _) hqq.1, ⟨Below.cellAt hW (Nat.le_refl _) hqq.2.1.1, Below.cellAt hW (Nat.le_refl _) hqq.2.1.2.1, Below.cellAt hW (Nat.le_refl _) hqq.2.1.2.2.1, Below.cellAt hW (Nat.le_refl _) hqq.2.1.2.2.2⟩, ⟨Below.cellAt hW (Nat.le_refl _) hqq.2.2.1, Below.cellAt hW (Nat.le_refl _) hqq.2.2.2.1, Below.cellAt hW (Nat.le_refl _) hqq.2.2.2.2.1, Below.cellAt hW (Nat.le_refl _) hqq.2.2.2.2.2⟩⟩
        have hBw : Below w10.heap.size w10 w10 := Below.refl _ _
        have ne1 := hNH.out.bq
        have ne2 := hNH.out.bq.symm
        have hBb : B ≠ bb := by have := hlt0.out.1; omega
        have hTw := Lib.hid (hTH.out.below hq10)
        clear hbb hbo hqq
        have hwz : Hid (∀ w' v', Below w10.heap.size w10 w' → ((w'.setCell ⟨bb, 0, none⟩ v').cell? ⟨B, 0, none⟩ = some (.bool (ng (rn Y))) ∧ (w'.setCell ⟨bb, 0, none⟩ v').cell? ⟨B, 1, none⟩ = some (.slice ay (LI (rn Y)) cy) ∧ (w'.setCell ⟨bb, 0, none⟩ v').cell? ⟨B, 2, none⟩ = some (.bool (ng (rd Y))) ∧ (w'.setCell ⟨bb, 0, none⟩ v').cell? ⟨B, 3, none⟩ = some (.slice ey (LI (rd Y)) fy)) ∧ ((w'.setCell ⟨bb, 0, none⟩ v').cell? ⟨bo, 0, none⟩ = some (.bool (ng (rn Y'))) ∧ (w'.setCell ⟨bb, 0, none⟩ v').cell? ⟨bo, 1, none⟩ = some (.slice a' (LI (rn Y')) f') ∧ (w'.setCell ⟨bb, 0, none⟩ v').cell? ⟨bo, 2, none⟩ = some (.bool (ng (rd Y'))) ∧ (w'.setCell ⟨bb, 0, none⟩ v').cell? ⟨bo, 3, none⟩ = some (.slice e' (LI (rd Y')) d'))) := fun w' v' hW => ⟨⟨by rw [(Blk.far (Blk.later hRBw.out.blk hW) (by exact hBb) v').cell]; rfl, by rw [(Blk.far (Blk.later hRBw.out.blk hW) (by exact hBb) v').cell]; rfl, by rw [(Blk.far (Blk.later hRBw.out.blk hW) (by exact hBb) v').cell]; rfl, by rw [(Blk.far (Blk.later hRBw.out.blk hW) (by exact hBb) v').cell]; rfl⟩, ⟨by rw [(Blk.far (Blk.later hboH.out hW) (by exact ne2) v').cell]; rfl, by rw [(Blk.far (Blk.later hboH.out hW) (by exact ne2) v').cell]; rfl, by rw [(Blk.far (Blk.later hboH.out hW) (by exact ne2) v').cell]; rfl, by rw [(Blk.far (Blk.later hboH.out hW) (by exact ne2) v').cell]; rfl⟩⟩
        -- tail S: fun w' => (w'.cell? ⟨B, 0, none⟩ = some (.bool (ng (rn Y))) ∧ w'.cell? ⟨B, 1, none⟩ = some (.slice ay (LI (rn Y)) cy) ∧ w'.cell? ⟨B, 2, none⟩ = some (.bool (ng (rd Y))) ∧ w'.cell? ⟨B, 3, none⟩ = some (.slice ey (LI (rd Y)) fy)) ∧ (w'.cell? ⟨bo, 0, none⟩ = some (.bool (ng (rn Y'))) ∧ w'.cell? ⟨bo, 1, none⟩ = some (.slice a' (LI (rn Y')) f') ∧ w'.cell? ⟨bo, 2, none⟩ = some (.bool (ng (rd Y'))) ∧ w'.cell? ⟨bo, 3, none⟩ = some (.slice e' (LI (rd Y')) d'))
        -- tail s0: (hup8.out _ (Below.drew hBw)).2
        -- arm 1: go_at_call 18; (with_reducible refine (cloneT_any ad L ct t _ (hTw.out.below (Below.drew hBw)) htlH.out (by omega) (by omega)).mono ?_); rintro e w9 ⟨g9, c9, rfl, hc9, hI9, hg9, hM9, hb9⟩; have hq9 : Below w10.heap.size w10 w9 := bseqT (Below.drew hBw) hb9; have hgz : w10.heap.size ≤ g9 := Nat.le_trans (Below.drew hBw).size hg9; have hI9H := Lib.hid hI9; have mb9 := (hup8.out _ hq9).1; have fz1 := Blk.frozen (Blk.later hbbH.out hq9); have fz2 := Blk.frozen (Blk.later hboH.out hq9); clear hI9 hM9 hb9 hg9
        -- arm 1 s: (hup8.out _ hq9).2
        -- arm 3 s: hwz.out w9 _ hq9
        -- tail lps 0 2 c1 m3 t4
        refine wp_region_tail (fun w' => (w'.cell? ⟨B, 0, none⟩ = some (.bool (ng (rn Y))) ∧ w'.cell? ⟨B, 1, none⟩ = some (.slice ay (LI (rn Y)) cy) ∧ w'.cell? ⟨B, 2, none⟩ = some (.bool (ng (rd Y))) ∧ w'.cell? ⟨B, 3, none⟩ = some (.slice ey (LI (rd Y)) fy)) ∧ (w'.cell? ⟨bo, 0, none⟩ = some (.bool (ng (rn Y'))) ∧ w'.cell? ⟨bo, 1, none⟩ = some (.slice a' (LI (rn Y')) f') ∧ w'.cell? ⟨bo, 2, none⟩ = some (.bool (ng (rd Y'))) ∧ w'.cell? ⟨bo, 3, none⟩ = some (.slice e' (LI (rd Y')) d'))) (fun j => decide (4 ≤ j)) (by kernel_rfl) ((hup8.out _ (Below.drew hBw)).2) (fun hHeld => ?_)
        refine wpAnyT_take (i := 0) (oi := ?oilps0) (v := ?vlps0) ?holps0 (by kernel_rfl) (by kernel_rfl) (by kernel_rfl) (by kernel_rfl) ?hqlps0 (Or.inl ⟨?hwlps0, ?hylps0⟩) (by assumption) ?_
        case holps0 => rfl
        case hwlps0 => rfl
        case hylps0 => (intro w hSw; (try dsimp only at hSw); go_split_ands; go_simp; (try (with_reducible rfl)))
        case hqlps0 => exact fun _ _ _ h => h
        simp only [Act.put, List.getElem_toArray, List.getElem_cons_zero, List.setIfInBounds_toArray, List.set_cons_zero, List.set_cons_succ]
        refine wpAnyT_take (i := 2) (oi := ?oilps2) (v := ?vlps2) ?holps2 (by kernel_rfl) (by kernel_rfl) (by kernel_rfl) (by kernel_rfl) ?hqlps2 (Or.inl ⟨?hwlps2, ?hylps2⟩) (by assumption) ?_
        case holps2 => rfl
        case hwlps2 => rfl
        case hylps2 => (intro w hSw; (try dsimp only at hSw); go_split_ands; go_simp; (try (with_reducible rfl)))
        case hqlps2 => exact fun _ _ _ h => h
        simp only [Act.put, List.getElem_toArray, List.getElem_cons_succ, List.getElem_cons_zero, List.setIfInBounds_toArray, List.set_cons_zero, List.set_cons_succ]
        refine wpAnyT_one (i := 1) (o := ?oilps1) (by kernel_rfl) ?holps1 (fun K hK => ?_)
        case holps1 => rfl
        rw [if_pos (by rfl)]
        go_simp
        go_at_call 18; (with_reducible refine (cloneT_any ad L ct t _ (hTw.out.below (Below.drew hBw)) htlH.out (by omega) (by omega)).mono ?_); rintro e w9 ⟨g9, c9, rfl, hc9, hI9, hg9, hM9, hb9⟩; have hq9 : Below w10.heap.size w10 w9 := bseqT (Below.drew hBw) hb9; have hgz : w10.heap.size ≤ g9 := Nat.le_trans (Below.drew hBw).size hg9; have hI9H := Lib.hid hI9; have mb9 := (hup8.out _ hq9).1; have fz1 := Blk.frozen (Blk.later hbbH.out hq9); have fz2 := Blk.frozen (Blk.later hboH.out hq9); clear hI9 hM9 hb9 hg9
        (try go_wp2_with (fail))
        refine hK.out _ _ (fun _ => (hup8.out _ hq9).2) (fun hHeld => ?_)
        replace hHeld := hHeld rfl
        clear hK K
        refine wpAnyT_one (i := 3) (o := ?oilps3) (by kernel_rfl) ?holps3 (fun K hK => ?_)
        case holps3 => rfl
        rw [if_pos (by rfl)]
        go_simp
        refine hK.out _ _ (fun _ => hwz.out w9 _ hq9) (fun hHeld => ?_)
        replace hHeld := hHeld rfl
        clear hK K
        refine wpAnyT_one (i := 4) (o := ?oilps4) (by kernel_rfl) ?holps4 (fun K hK => ?_)
        case holps4 => rfl
        rw [if_pos (by rfl)]
        go_simp
        refine hK.out _ _ (fun h0 => by cases h0) (fun _ => ?_)
        clear hK K
        refine wpAnyT_done (by kernel_rfl) ?_ _
        -- tail end
        go_wp2_with (fail)
        refine bodyPost_ret (results_none rfl _ _ _) rfl ?_
        have hlb := (Blk.lt hbbH.out)
        have hlo := (Blk.lt hboH.out)
        have htl2 := htlH.out
        have hYd := hYH.out
        subst htl2 hYd
        rw [updT_yes hcl.out]
        refine ⟨rfl, ?_, ?_⟩
        · exact Fr.trans (Fr.of (bseqT hq10 hq9)) (((Fr.refl bb bo w9).setb 0 _).putc _ _ _ _ _)
        · exact BOK.put (Blk.later hbbH.out hq9) (Blk.later hboH.out hq9) (by intro _ _ h; cases h) ne1 hc9 hI9H.out (by omega) (by omega) ((hRBw.out.rm.up hq9))
      | false =>
        have hz1 : decide (z < 0) = false := decide_eq_false (fun h => by have := hlt.1 h; rw [hcb] at this; cases this)
        have hcl := Lib.hid hcb
        clear hcb hlt
        go_wp2_with (go_at_call 17; (with_reducible refine (rcmpE ay cy ey fy a' f' e' d' Y Y' z _ hRBy.out.rm hRoH.out szY.out szY'.out hzH.out).mono ?_); rintro e w10 ⟨rfl, hb10⟩; have hb10H := Lib.hid hb10; clear hb10)
        refine bodyPost_ret (results_none rfl _ _ _) rfl ?_
        rw [updT_no hcl.out]
        exact ⟨rfl, Fr.of (bseqT hqy.out hb10H.out), hOld.out.below hb10H.out⟩
end Go.Proofs.Ytkecdjdggkpdpab
