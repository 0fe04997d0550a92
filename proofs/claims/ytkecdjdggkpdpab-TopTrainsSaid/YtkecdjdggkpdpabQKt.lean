/- Kt Kh -/
import Derived.Test.YtkecdjdggkpdpabQIr
import Derived.Test.YtkecdjdggkpdpabQKb
import Derived.Deep.CutBlock
set_option linter.unusedVariables false
/- Nothing: Ir has wpAnyT_twoR. -/

/- Walk of gear.speeds. -/
namespace Go.Proofs.Ytkecdjdggkpdpab
open Go Go.RowKit Go.Proofs

theorem cell_drK {w : World} {p : Addr} {v : Value} (h : w.cell? p = some v) : w.drew.cell? p = some v := h
theorem cell_litK {w : World} {g : Nat} {v : Value} {t : TypeId} (e : g = w.heap.size) : (w.alloc (Obj.cells #[v] t)).cell? ⟨g, 0, none⟩ = some v := by subst e; simp [go_sem]
theorem bseqK {w w1 w2 : World} (h : Below w.heap.size w w1) (hb : Below w1.heap.size w1 w2) : Below w.heap.size w w2 := h.trans (hb.mono h.size)
theorem szK (w : World) (o : Obj) : (w.alloc o).drew.heap.size = w.heap.size + 1 := by show (w.alloc o).heap.size = _; simp
theorem szK2 (w : World) (o : Obj) : (w.drew.alloc o).heap.size = w.heap.size + 1 := by show (w.drew.alloc o).heap.size = w.drew.heap.size + 1; simp
theorem whole_1 (w : World) : Calls Try.prog 11 #[.int .i64 1] w (RetRat w 1) := whole_int 1 w (by omega) (by omega)
/-- A block of n fractions. -/
def RBk (w : World) (g n : Nat) : Prop := (∃ cs, Blk w g 51 cs ∧ cs.length = n * 4) ∧ NoInt w g
theorem RBk.later {w w' : World} {g n : Nat} (h : RBk w g n) (hb : Below w.heap.size w w') : RBk w' g n := by
  obtain ⟨⟨cs, h1, h2⟩, h3⟩ := h
  exact ⟨⟨cs, Blk.later h1 hb, h2⟩, h3.below h1.lt hb⟩
theorem RBk.at {w : World} {g g' n : Nat} (h : RBk w g n) (e : g = g') : RBk w g' n := by subst e; exact h
theorem SPm.new {w0 w : World} {gs gp n : Nat} (bl : Below w0.heap.size w0 w) (hn : 1 ≤ n) (gs0 : w0.heap.size ≤ gs) (gp0 : w0.heap.size ≤ gp) (hz : ZBlk w gp (List.replicate n (-1))) (hs : RBk w gs n) : SPm w0 w gs gp n (List.replicate n none) where
  len := List.length_replicate
  bl := bl
  gs0 := gs0
  gp0 := gp0
  ne := fun e => by
    subst e
    exact hs.2 0 _ _ (hz.at (i := 0) (by simp; omega))
  hp := by rw [List.map_replicate]; exact hz
  hs := hs.1
  no := hs.2
  rat := fun j f q h => by
    unfold stG at h
    rw [List.getElem?_replicate] at h
    split at h <;> cases h
theorem keepK (w : World) (gs i : Nat) (v0 v1 v2 v3 : Value) {b o : Nat} (h : gs ≠ b ∨ o / 4 ≠ i) : ((((w.setCell ⟨gs, i * 4, none⟩ v0).setCell ⟨gs, i * 4 + 1, none⟩ v1).setCell ⟨gs, i * 4 + 2, none⟩ v2).setCell ⟨gs, i * 4 + 3, none⟩ v3).cell? ⟨b, o, none⟩ = w.cell? ⟨b, o, none⟩ := by
  have key : ∀ k, k < 4 → (⟨gs, i * 4 + k, none⟩ : Addr) ≠ ⟨b, o, none⟩ := fun k hk e => by
    injection e with e1 e2
    rcases h with h | h
    · exact h e1
    · omega
  rw [World.cell?_setCell_other _ _ _ _ (key 3 (by omega)), World.cell?_setCell_other _ _ _ _ (key 2 (by omega)), World.cell?_setCell_other _ _ _ _ (key 1 (by omega)), World.cell?_setCell_other _ _ _ _ (by have := key 0 (by omega); exact this)]
/-- What the step reads: the belt, and the speed of one wheel. -/
def Rd (bx gs j : Nat) (A B : Nat) (o : Int) (u : Nat) (a a' : Option Addr) (c c' : Nat) (q : Rat) (w' : World) : Prop :=
  (w'.cell? ⟨bx, 0, none⟩ = some (.int .i64 (A : Nat)) ∧ w'.cell? ⟨bx, 1, none⟩ = some (.int .i64 (B : Nat)) ∧ w'.cell? ⟨bx, 2, none⟩ = some (.int .i64 o) ∧ w'.cell? ⟨bx, 3, none⟩ = some (.int .i64 (u : Nat))) ∧
  (w'.cell? ⟨gs, j * 4, none⟩ = some (.bool (ng (rn q))) ∧ w'.cell? ⟨gs, j * 4 + 1, none⟩ = some (.slice a (LI (rn q)) c) ∧ w'.cell? ⟨gs, j * 4 + 2, none⟩ = some (.bool (ng (rd q))) ∧ w'.cell? ⟨gs, j * 4 + 3, none⟩ = some (.slice a' (LI (rd q)) c'))
theorem Rd.below {bx gs j A B u : Nat} {o : Int} {a a' : Option Addr} {c c' : Nat} {q : Rat} {w w' : World} (h : Rd bx gs j A B o u a a' c c' q w) (hb : Below w.heap.size w w') : Rd bx gs j A B o u a a' c c' q w' := by
  obtain ⟨⟨h0, h1, h2, h3⟩, h4, h5, h6, h7⟩ := h
  exact ⟨⟨Below.cellAt hb (Nat.le_refl _) h0, Below.cellAt hb (Nat.le_refl _) h1, Below.cellAt hb (Nat.le_refl _) h2, Below.cellAt hb (Nat.le_refl _) h3⟩, Below.cellAt hb (Nat.le_refl _) h4, Below.cellAt hb (Nat.le_refl _) h5, Below.cellAt hb (Nat.le_refl _) h6, Below.cellAt hb (Nat.le_refl _) h7⟩
theorem Rd.set4 {bx gs j i A B u : Nat} {o : Int} {a a' : Option Addr} {c c' : Nat} {q : Rat} {w : World} (h : Rd bx gs j A B o u a a' c c' q w) (hx : gs ≠ bx) (hij : i ≠ j) (v0 v1 v2 v3 : Value) : Rd bx gs j A B o u a a' c c' q ((((w.setCell ⟨gs, i * 4, none⟩ v0).setCell ⟨gs, i * 4 + 1, none⟩ v1).setCell ⟨gs, i * 4 + 2, none⟩ v2).setCell ⟨gs, i * 4 + 3, none⟩ v3) := by
  obtain ⟨⟨h0, h1, h2, h3⟩, h4, h5, h6, h7⟩ := h
  refine ⟨⟨?_, ?_, ?_, ?_⟩, ?_, ?_, ?_, ?_⟩
  · rw [keepK w gs i v0 v1 v2 v3 (.inl hx)]; exact h0
  · rw [keepK w gs i v0 v1 v2 v3 (.inl hx)]; exact h1
  · rw [keepK w gs i v0 v1 v2 v3 (.inl hx)]; exact h2
  · rw [keepK w gs i v0 v1 v2 v3 (.inl hx)]; exact h3
  · rw [keepK w gs i v0 v1 v2 v3 (.inr (by omega))]; exact h4
  · rw [keepK w gs i v0 v1 v2 v3 (.inr (by omega))]; exact h5
  · rw [keepK w gs i v0 v1 v2 v3 (.inr (by omega))]; exact h6
  · rw [keepK w gs i v0 v1 v2 v3 (.inr (by omega))]; exact h7
theorem Rd.set1 {bx gs gp j i A B u : Nat} {o : Int} {a a' : Option Addr} {c c' : Nat} {q : Rat} {w : World} (h : Rd bx gs j A B o u a a' c c' q w) (hx : gp ≠ bx) (hg : gp ≠ gs) (v : Value) : Rd bx gs j A B o u a a' c c' q (w.setCell ⟨gp, i, none⟩ v) := by
  have k1 : ∀ o, (w.setCell ⟨gp, i, none⟩ v).cell? ⟨bx, o, none⟩ = w.cell? ⟨bx, o, none⟩ := fun o => World.cell?_setCell_other _ _ _ _ (by intro e; injection e with e1 _; exact hx e1)
  have k2 : ∀ o, (w.setCell ⟨gp, i, none⟩ v).cell? ⟨gs, o, none⟩ = w.cell? ⟨gs, o, none⟩ := fun o => World.cell?_setCell_other _ _ _ _ (by intro e; injection e with e1 _; exact hg e1)
  unfold Rd
  simp only [k1, k2]
  exact h
/-- What the call returns. -/
def SpPost (wo : Nat → Bool) (l : List BtK) (n : Nat) (w : World) (e : Ending) (w' : World) : Prop := ∃ gs gp, e = .returned (.tuple #[.slice (some ⟨gs, 0, none⟩) n n, .slice (some ⟨gp, 0, none⟩) n n]) ∧ SPm w w' gs gp n (speedsG wo l n n)
set_option maxRecDepth 100000 in
set_option maxHeartbeats 6400000 in
theorem speeds_any (bg cb n m fw : Nat) (ao : Option Addr) (lb : Array Value) (wo : Nat → Bool) (l : List BtK) (w : World) (c0 : w.cell? ⟨bg, 0, none⟩ = some (.int .i64 (n : Nat))) (c1 : w.cell? ⟨bg, 1, none⟩ = some (.slice ao m cb)) (hB : BV w ao l) (hm : l.length = m) (hl : ∀ b ∈ l, okBt n b) (hn1 : 1 ≤ n) (hn : n ≤ 10) (hm16 : m ≤ 16)
    (hwo : ∀ i W, i < m → Below w.heap.size w W → Calls Try.prog fw (#[.int .i64 (i : Nat)] ++ lb) W (RetB W (wo i))) (eg : ∀ args w, (callFunc fw args).run Try.prog w = .ok (.enter fw args) w) :
    Calls Try.prog 21 #[.pointer (some ⟨bg, 0, none⟩), .func (.func fw) #[] lb] w (SpPost wo l n w) := by
  have c0H := Lib.hid c0
  have c1H := Lib.hid c1
  have hBH := Lib.hid hB
  have hmH := Lib.hid hm
  have hlH := Lib.hid hl
  have hwoH := Lib.hid hwo
  clear hB hm hl hwo
  obtain ⟨mk, hmkA⟩ := make_funR n (by omega)
  have hmk := fun W => (hmkA W).1
  have hmkH := Lib.hid (fun W => (show RBk (mk W) W.heap.size n from ⟨(hmkA W).2.1, (hmkA W).2.2.1⟩))
  have hmkB := Lib.hid (fun W => (hmkA W).2.2.2)
  have hbg : bg < w.heap.size := World.block_lt_of_cell? _ _ c0
  have hbg1 : bg < w.heap.size + 1 := by omega
  have hmkc : ∀ W, bg < W.heap.size → (mk W).cell? ⟨bg, 0, none⟩ = W.cell? ⟨bg, 0, none⟩ := fun W h => World.cell?_of_block (a := ⟨bg, 0, none⟩) (((hmkA W).2.2.2).block bg h)
  have hmks : ∀ W, bg < W.heap.size → bg < (mk W).heap.size := fun W h => Nat.lt_of_lt_of_le h ((hmkA W).2.2.2).size
  clear hmkA
  go_enter Try.func21, Try.ntmps21
  go_upto_region 1 with (fail)
  go_cut [6, 7] from 12 to 22 (fun s6 s7 wx => ∃ gs gp, s6 = .slice (some ⟨gs, 0, none⟩) n n ∧ s7 = .slice (some ⟨gp, 0, none⟩) n n ∧ SPm w wx gs gp n (List.replicate n none))
  case first =>
    have hup : Hid (∀ w', Below w.heap.size w w' → w'.cell? ⟨bg, 0, none⟩ = some (.int .i64 (n : Nat))) := fun w' hb => Below.cellAt hb (Nat.le_refl _) c0
    -- tree S: fun w' => w'.cell? ⟨bg, 0, none⟩ = some (.int .i64 (n : Nat))
    -- tree s0: hup.out _ (Below.drew (Below.refl _ _))
    -- arm 4 s: hup.out _ (by (repeat (with_reducible first | exact Below.refl _ _ | refine Below.drew ?_ | refine below_al ?_ _ | refine bseqK ?_ hbA.out | refine bseqK ?_ (hmkB.out _))))
    -- arm 5 s: hup.out _ (by (repeat (with_reducible first | exact Below.refl _ _ | refine Below.drew ?_ | refine below_al ?_ _ | refine bseqK ?_ hbA.out | refine bseqK ?_ (hmkB.out _))))
    -- arm 11 s: hup.out _ (by (repeat (with_reducible first | exact Below.refl _ _ | refine Below.drew ?_ | refine below_al ?_ _ | refine bseqK ?_ hbA.out | refine bseqK ?_ (hmkB.out _))))
    -- arm 12 s: hup.out _ (by (repeat (with_reducible first | exact Below.refl _ _ | refine Below.drew ?_ | refine below_al ?_ _ | refine bseqK ?_ hbA.out | refine bseqK ?_ (hmkB.out _))))
    -- arm 10: go_at_call 42; (refine (repeat_any (-1) n _ _ (by omega) hn1 ?_).mono ?_); (focus ((repeat (first | (with_reducible refine cell_drK ?_) | (refine cell_litK ?_; (first | rfl | (simp; done))) | (refine Below.cellAt (hmkB.out _) (Nat.le_refl _) ?_))); done)); rintro e w5 ⟨gp, rfl, hZ, hb, hg, hg2⟩; have hq : w.heap.size ≤ gp := Nat.le_trans (Below.size (show Below w.heap.size w _ from (by (repeat (with_reducible first | exact Below.refl _ _ | refine Below.drew ?_ | refine below_al ?_ _ | refine bseqK ?_ hbA.out | refine bseqK ?_ (hmkB.out _)))))) hg; have hbA := Lib.hid hb; have hZA := Lib.hid hZ; have hgA := Lib.hid hq; clear hZ hb hg hg2 hq
    -- arm 10 s: hup.out _ (by (repeat (with_reducible first | exact Below.refl _ _ | refine Below.drew ?_ | refine below_al ?_ _ | refine bseqK ?_ hbA.out | refine bseqK ?_ (hmkB.out _))))
    -- leaf: (go_wp2_with (fail); go_meet; refine ⟨_, _, rfl, rfl, SPm.new ?_ hn1 ?_ hgA.out ?_ ?_⟩; rotate_left; (first | omega | (simp; done) | (exact Below.size (show Below w.heap.size w _ from by (repeat (with_reducible first | exact Below.refl _ _ | refine Below.drew ?_ | refine below_al ?_ _ | refine bseqK ?_ hbA.out | refine bseqK ?_ (hmkB.out _)))))); (refine Blk.later hZA.out ?_; (repeat (with_reducible first | exact Below.refl _ _ | refine Below.drew ?_ | refine below_al ?_ _ | refine bseqK ?_ hbA.out | refine bseqK ?_ (hmkB.out _)))); (repeat (first | (refine RBk.at (hmkH.out _) ?_; first | rfl | (simp; done) | exact szK _ _ | exact szK2 _ _) | (with_reducible refine RBk.later ?_ hbA.out) | (with_reducible refine RBk.later ?_ (below_al (Below.refl _ _) _)) | (with_reducible refine RBk.later ?_ (Below.drew (Below.refl _ _))))); (repeat (with_reducible first | exact Below.refl _ _ | refine Below.drew ?_ | refine below_al ?_ _ | refine bseqK ?_ hbA.out | refine bseqK ?_ (hmkB.out _))))
    -- tree sp 0 1 2 3 6 7 8 9 [4,5 m4 m5 c10 m11 m12 | m5 [4,10 m4 c10 m11 m12 | c10 m4 m11 m12 ] ]
    refine wp_region_tail (fun w' => w'.cell? ⟨bg, 0, none⟩ = some (.int .i64 (n : Nat))) (fun j => decide (1000 ≤ j)) (by kernel_rfl) (hup.out _ (Below.drew (Below.refl _ _))) (fun hHeld => ?_)
    refine wpAnyT_take (i := 0) (oi := ?oisp_1) (v := ?vsp_1) ?hosp_1 (by kernel_rfl) (by kernel_rfl) (by kernel_rfl) (by kernel_rfl) ?hqsp_1 (Or.inl ⟨?hwsp_1, ?hysp_1⟩) (by assumption) ?_
    case hosp_1 => rfl
    case hwsp_1 => rfl
    case hysp_1 => (intro w hSw; (try dsimp only at hSw); go_split_ands; go_simp; (try (with_reducible rfl)))
    case hqsp_1 => exact fun _ _ _ h => h
    simp only [Act.put, List.getElem_toArray, List.getElem_cons_zero, List.setIfInBounds_toArray, List.set_cons_zero, List.set_cons_succ]
    refine wpAnyT_take (i := 1) (oi := ?oisp_2) (v := ?vsp_2) ?hosp_2 (by kernel_rfl) (by kernel_rfl) (by kernel_rfl) (by kernel_rfl) ?hqsp_2 (Or.inl ⟨?hwsp_2, ?hysp_2⟩) (by assumption) ?_
    case hosp_2 => rfl
    case hwsp_2 => rfl
    case hysp_2 => (intro w hSw; (try dsimp only at hSw); go_split_ands; go_simp; (try (with_reducible rfl)))
    case hqsp_2 => exact fun _ _ _ h => h
    simp only [Act.put, List.getElem_toArray, List.getElem_cons_succ, List.getElem_cons_zero, List.setIfInBounds_toArray, List.set_cons_zero, List.set_cons_succ]
    refine wpAnyT_take (i := 2) (oi := ?oisp_3) (v := ?vsp_3) ?hosp_3 (by kernel_rfl) (by kernel_rfl) (by kernel_rfl) (by kernel_rfl) ?hqsp_3 (Or.inl ⟨?hwsp_3, ?hysp_3⟩) (by assumption) ?_
    case hosp_3 => rfl
    case hwsp_3 => rfl
    case hysp_3 => (intro w hSw; (try dsimp only at hSw); go_split_ands; go_simp; (try (with_reducible rfl)))
    case hqsp_3 => exact fun _ _ _ h => h
    simp only [Act.put, List.getElem_toArray, List.getElem_cons_succ, List.getElem_cons_zero, List.setIfInBounds_toArray, List.set_cons_zero, List.set_cons_succ]
    refine wpAnyT_take (i := 3) (oi := ?oisp_4) (v := ?vsp_4) ?hosp_4 (by kernel_rfl) (by kernel_rfl) (by kernel_rfl) (by kernel_rfl) ?hqsp_4 (Or.inl ⟨?hwsp_4, ?hysp_4⟩) (by assumption) ?_
    case hosp_4 => rfl
    case hwsp_4 => rfl
    case hysp_4 => (intro w hSw; (try dsimp only at hSw); go_split_ands; go_simp; (try (with_reducible rfl)))
    case hqsp_4 => exact fun _ _ _ h => h
    simp only [Act.put, List.getElem_toArray, List.getElem_cons_succ, List.getElem_cons_zero, List.setIfInBounds_toArray, List.set_cons_zero, List.set_cons_succ]
    refine wpAnyT_take (i := 6) (oi := ?oisp_5) (v := ?vsp_5) ?hosp_5 (by kernel_rfl) (by kernel_rfl) (by kernel_rfl) (by kernel_rfl) ?hqsp_5 (Or.inl ⟨?hwsp_5, ?hysp_5⟩) (by assumption) ?_
    case hosp_5 => rfl
    case hwsp_5 => rfl
    case hysp_5 => (intro w hSw; (try dsimp only at hSw); go_split_ands; go_simp; (try (with_reducible rfl)))
    case hqsp_5 => exact fun _ _ _ h => h
    simp only [Act.put, List.getElem_toArray, List.getElem_cons_succ, List.getElem_cons_zero, List.setIfInBounds_toArray, List.set_cons_zero, List.set_cons_succ]
    refine wpAnyT_take (i := 7) (oi := ?oisp_6) (v := ?vsp_6) ?hosp_6 (by kernel_rfl) (by kernel_rfl) (by kernel_rfl) (by kernel_rfl) ?hqsp_6 (Or.inl ⟨?hwsp_6, ?hysp_6⟩) (by assumption) ?_
    case hosp_6 => rfl
    case hwsp_6 => rfl
    case hysp_6 => (intro w hSw; (try dsimp only at hSw); go_split_ands; go_simp; (try (with_reducible rfl)))
    case hqsp_6 => exact fun _ _ _ h => h
    simp only [Act.put, List.getElem_toArray, List.getElem_cons_succ, List.getElem_cons_zero, List.setIfInBounds_toArray, List.set_cons_zero, List.set_cons_succ]
    refine wpAnyT_take (i := 8) (oi := ?oisp_7) (v := ?vsp_7) ?hosp_7 (by kernel_rfl) (by kernel_rfl) (by kernel_rfl) (by kernel_rfl) ?hqsp_7 (Or.inl ⟨?hwsp_7, ?hysp_7⟩) (by assumption) ?_
    case hosp_7 => rfl
    case hwsp_7 => rfl
    case hysp_7 => (intro w hSw; (try dsimp only at hSw); go_split_ands; go_simp; (try (with_reducible rfl)))
    case hqsp_7 => exact fun _ _ _ h => h
    simp only [Act.put, List.getElem_toArray, List.getElem_cons_succ, List.getElem_cons_zero, List.setIfInBounds_toArray, List.set_cons_zero, List.set_cons_succ]
    refine wpAnyT_take (i := 9) (oi := ?oisp_8) (v := ?vsp_8) ?hosp_8 (by kernel_rfl) (by kernel_rfl) (by kernel_rfl) (by kernel_rfl) ?hqsp_8 (Or.inl ⟨?hwsp_8, ?hysp_8⟩) (by assumption) ?_
    case hosp_8 => rfl
    case hwsp_8 => rfl
    case hysp_8 => (intro w hSw; (try dsimp only at hSw); go_split_ands; go_simp; (try (with_reducible rfl)))
    case hqsp_8 => exact fun _ _ _ h => h
    simp only [Act.put, List.getElem_toArray, List.getElem_cons_succ, List.getElem_cons_zero, List.setIfInBounds_toArray, List.set_cons_zero, List.set_cons_succ]
    refine wpAnyT_twoR (i := 4) (j := 5) (oi := ?oisp_9) (oj := ?ojsp_9) (by kernel_rfl) ?hosp_9 ?hpsp_9 (fun K hK => ?bAsp_9) (fun K hK => ?bBsp_9)
    case hosp_9 => rfl
    case hpsp_9 => rfl
    case bAsp_9 =>
      rw [if_pos (by rfl)]
      go_simp
      refine hK.out _ _ (fun _ => hup.out _ (by (repeat (with_reducible first | exact Below.refl _ _ | refine Below.drew ?_ | refine below_al ?_ _ | refine bseqK ?_ hbA.out | refine bseqK ?_ (hmkB.out _))))) (fun hHeld => ?_)
      replace hHeld := hHeld rfl
      clear hK K
      refine wpAnyT_one (i := 5) (o := ?oisp_11) (by kernel_rfl) ?hosp_11 (fun K hK => ?_)
      case hosp_11 => rfl
      rw [if_pos (by rfl)]
      go_simp
      refine hK.out _ _ (fun _ => hup.out _ (by (repeat (with_reducible first | exact Below.refl _ _ | refine Below.drew ?_ | refine below_al ?_ _ | refine bseqK ?_ hbA.out | refine bseqK ?_ (hmkB.out _))))) (fun hHeld => ?_)
      replace hHeld := hHeld rfl
      clear hK K
      refine wpAnyT_one (i := 10) (o := ?oisp_12) (by kernel_rfl) ?hosp_12 (fun K hK => ?_)
      case hosp_12 => rfl
      rw [if_pos (by rfl)]
      go_simp
      go_at_call 42; (refine (repeat_any (-1) n _ _ (by omega) hn1 ?_).mono ?_); (focus ((repeat (first | (with_reducible refine cell_drK ?_) | (refine cell_litK ?_; (first | rfl | (simp; done))) | (refine Below.cellAt (hmkB.out _) (Nat.le_refl _) ?_))); done)); rintro e w5 ⟨gp, rfl, hZ, hb, hg, hg2⟩; have hq : w.heap.size ≤ gp := Nat.le_trans (Below.size (show Below w.heap.size w _ from (by (repeat (with_reducible first | exact Below.refl _ _ | refine Below.drew ?_ | refine below_al ?_ _ | refine bseqK ?_ hbA.out | refine bseqK ?_ (hmkB.out _)))))) hg; have hbA := Lib.hid hb; have hZA := Lib.hid hZ; have hgA := Lib.hid hq; clear hZ hb hg hg2 hq
      (try go_wp2_with (fail))
      refine hK.out _ _ (fun _ => hup.out _ (by (repeat (with_reducible first | exact Below.refl _ _ | refine Below.drew ?_ | refine below_al ?_ _ | refine bseqK ?_ hbA.out | refine bseqK ?_ (hmkB.out _))))) (fun hHeld => ?_)
      replace hHeld := hHeld rfl
      clear hK K
      refine wpAnyT_one (i := 11) (o := ?oisp_13) (by kernel_rfl) ?hosp_13 (fun K hK => ?_)
      case hosp_13 => rfl
      rw [if_pos (by rfl)]
      go_simp
      refine hK.out _ _ (fun _ => hup.out _ (by (repeat (with_reducible first | exact Below.refl _ _ | refine Below.drew ?_ | refine below_al ?_ _ | refine bseqK ?_ hbA.out | refine bseqK ?_ (hmkB.out _))))) (fun hHeld => ?_)
      replace hHeld := hHeld rfl
      clear hK K
      refine wpAnyT_one (i := 12) (o := ?oisp_14) (by kernel_rfl) ?hosp_14 (fun K hK => ?_)
      case hosp_14 => rfl
      rw [if_pos (by rfl)]
      go_simp
      refine hK.out _ _ (fun _ => hup.out _ (by (repeat (with_reducible first | exact Below.refl _ _ | refine Below.drew ?_ | refine below_al ?_ _ | refine bseqK ?_ hbA.out | refine bseqK ?_ (hmkB.out _))))) (fun hHeld => ?_)
      replace hHeld := hHeld rfl
      clear hK K
      refine wpAnyT_done (by kernel_rfl) ?_ _
      (go_wp2_with (fail); go_meet; refine ⟨_, _, rfl, rfl, SPm.new ?_ hn1 ?_ hgA.out ?_ ?_⟩; rotate_left; (first | omega | (simp; done) | (exact Below.size (show Below w.heap.size w _ from by (repeat (with_reducible first | exact Below.refl _ _ | refine Below.drew ?_ | refine below_al ?_ _ | refine bseqK ?_ hbA.out | refine bseqK ?_ (hmkB.out _)))))); (refine Blk.later hZA.out ?_; (repeat (with_reducible first | exact Below.refl _ _ | refine Below.drew ?_ | refine below_al ?_ _ | refine bseqK ?_ hbA.out | refine bseqK ?_ (hmkB.out _)))); (repeat (first | (refine RBk.at (hmkH.out _) ?_; first | rfl | (simp; done) | exact szK _ _ | exact szK2 _ _) | (with_reducible refine RBk.later ?_ hbA.out) | (with_reducible refine RBk.later ?_ (below_al (Below.refl _ _) _)) | (with_reducible refine RBk.later ?_ (Below.drew (Below.refl _ _))))); (repeat (with_reducible first | exact Below.refl _ _ | refine Below.drew ?_ | refine below_al ?_ _ | refine bseqK ?_ hbA.out | refine bseqK ?_ (hmkB.out _))))
    case bBsp_9 =>
      rw [if_pos (by rfl)]
      go_simp
      refine hK.out _ _ (fun _ => hup.out _ (by (repeat (with_reducible first | exact Below.refl _ _ | refine Below.drew ?_ | refine below_al ?_ _ | refine bseqK ?_ hbA.out | refine bseqK ?_ (hmkB.out _))))) (fun hHeld => ?_)
      replace hHeld := hHeld rfl
      clear hK K
      refine wpAnyT_twoR (i := 4) (j := 10) (oi := ?oisp_16) (oj := ?ojsp_16) (by kernel_rfl) ?hosp_16 ?hpsp_16 (fun K hK => ?bAsp_16) (fun K hK => ?bBsp_16)
      case hosp_16 => rfl
      case hpsp_16 => rfl
      case bAsp_16 =>
        rw [if_pos (by rfl)]
        go_simp
        refine hK.out _ _ (fun _ => hup.out _ (by (repeat (with_reducible first | exact Below.refl _ _ | refine Below.drew ?_ | refine below_al ?_ _ | refine bseqK ?_ hbA.out | refine bseqK ?_ (hmkB.out _))))) (fun hHeld => ?_)
        replace hHeld := hHeld rfl
        clear hK K
        refine wpAnyT_one (i := 10) (o := ?oisp_18) (by kernel_rfl) ?hosp_18 (fun K hK => ?_)
        case hosp_18 => rfl
        rw [if_pos (by rfl)]
        go_simp
        go_at_call 42; (refine (repeat_any (-1) n _ _ (by omega) hn1 ?_).mono ?_); (focus ((repeat (first | (with_reducible refine cell_drK ?_) | (refine cell_litK ?_; (first | rfl | (simp; done))) | (refine Below.cellAt (hmkB.out _) (Nat.le_refl _) ?_))); done)); rintro e w5 ⟨gp, rfl, hZ, hb, hg, hg2⟩; have hq : w.heap.size ≤ gp := Nat.le_trans (Below.size (show Below w.heap.size w _ from (by (repeat (with_reducible first | exact Below.refl _ _ | refine Below.drew ?_ | refine below_al ?_ _ | refine bseqK ?_ hbA.out | refine bseqK ?_ (hmkB.out _)))))) hg; have hbA := Lib.hid hb; have hZA := Lib.hid hZ; have hgA := Lib.hid hq; clear hZ hb hg hg2 hq
        (try go_wp2_with (fail))
        refine hK.out _ _ (fun _ => hup.out _ (by (repeat (with_reducible first | exact Below.refl _ _ | refine Below.drew ?_ | refine below_al ?_ _ | refine bseqK ?_ hbA.out | refine bseqK ?_ (hmkB.out _))))) (fun hHeld => ?_)
        replace hHeld := hHeld rfl
        clear hK K
        refine wpAnyT_one (i := 11) (o := ?oisp_19) (by kernel_rfl) ?hosp_19 (fun K hK => ?_)
        case hosp_19 => rfl
        rw [if_pos (by rfl)]
        go_simp
        refine hK.out _ _ (fun _ => hup.out _ (by (repeat (with_reducible first | exact Below.refl _ _ | refine Below.drew ?_ | refine below_al ?_ _ | refine bseqK ?_ hbA.out | refine bseqK ?_ (hmkB.out _))))) (fun hHeld => ?_)
        replace hHeld := hHeld rfl
        clear hK K
        refine wpAnyT_one (i := 12) (o := ?oisp_20) (by kernel_rfl) ?hosp_20 (fun K hK => ?_)
        case hosp_20 => rfl
        rw [if_pos (by rfl)]
        go_simp
        refine hK.out _ _ (fun _ => hup.out _ (by (repeat (with_reducible first | exact Below.refl _ _ | refine Below.drew ?_ | refine below_al ?_ _ | refine bseqK ?_ hbA.out | refine bseqK ?_ (hmkB.out _))))) (fun hHeld => ?_)
        replace hHeld := hHeld rfl
        clear hK K
        refine wpAnyT_done (by kernel_rfl) ?_ _
        (go_wp2_with (fail); go_meet; refine ⟨_, _, rfl, rfl, SPm.new ?_ hn1 ?_ hgA.out ?_ ?_⟩; rotate_left; (first | omega | (simp; done) | (exact Below.size (show Below w.heap.size w _ from by (repeat (with_reducible first | exact Below.refl _ _ | refine Below.drew ?_ | refine below_al ?_ _ | refine bseqK ?_ hbA.out | refine bseqK ?_ (hmkB.out _)))))); (refine Blk.later hZA.out ?_; (repeat (with_reducible first | exact Below.refl _ _ | refine Below.drew ?_ | refine below_al ?_ _ | refine bseqK ?_ hbA.out | refine bseqK ?_ (hmkB.out _)))); (repeat (first | (refine RBk.at (hmkH.out _) ?_; first | rfl | (simp; done) | exact szK _ _ | exact szK2 _ _) | (with_reducible refine RBk.later ?_ hbA.out) | (with_reducible refine RBk.later ?_ (below_al (Below.refl _ _) _)) | (with_reducible refine RBk.later ?_ (Below.drew (Below.refl _ _))))); (repeat (with_reducible first | exact Below.refl _ _ | refine Below.drew ?_ | refine below_al ?_ _ | refine bseqK ?_ hbA.out | refine bseqK ?_ (hmkB.out _))))
      case bBsp_16 =>
        rw [if_pos (by rfl)]
        go_simp
        go_at_call 42; (refine (repeat_any (-1) n _ _ (by omega) hn1 ?_).mono ?_); (focus ((repeat (first | (with_reducible refine cell_drK ?_) | (refine cell_litK ?_; (first | rfl | (simp; done))) | (refine Below.cellAt (hmkB.out _) (Nat.le_refl _) ?_))); done)); rintro e w5 ⟨gp, rfl, hZ, hb, hg, hg2⟩; have hq : w.heap.size ≤ gp := Nat.le_trans (Below.size (show Below w.heap.size w _ from (by (repeat (with_reducible first | exact Below.refl _ _ | refine Below.drew ?_ | refine below_al ?_ _ | refine bseqK ?_ hbA.out | refine bseqK ?_ (hmkB.out _)))))) hg; have hbA := Lib.hid hb; have hZA := Lib.hid hZ; have hgA := Lib.hid hq; clear hZ hb hg hg2 hq
        (try go_wp2_with (fail))
        refine hK.out _ _ (fun _ => hup.out _ (by (repeat (with_reducible first | exact Below.refl _ _ | refine Below.drew ?_ | refine below_al ?_ _ | refine bseqK ?_ hbA.out | refine bseqK ?_ (hmkB.out _))))) (fun hHeld => ?_)
        replace hHeld := hHeld rfl
        clear hK K
        refine wpAnyT_one (i := 4) (o := ?oisp_22) (by kernel_rfl) ?hosp_22 (fun K hK => ?_)
        case hosp_22 => rfl
        rw [if_pos (by rfl)]
        go_simp
        refine hK.out _ _ (fun _ => hup.out _ (by (repeat (with_reducible first | exact Below.refl _ _ | refine Below.drew ?_ | refine below_al ?_ _ | refine bseqK ?_ hbA.out | refine bseqK ?_ (hmkB.out _))))) (fun hHeld => ?_)
        replace hHeld := hHeld rfl
        clear hK K
        refine wpAnyT_one (i := 11) (o := ?oisp_23) (by kernel_rfl) ?hosp_23 (fun K hK => ?_)
        case hosp_23 => rfl
        rw [if_pos (by rfl)]
        go_simp
        refine hK.out _ _ (fun _ => hup.out _ (by (repeat (with_reducible first | exact Below.refl _ _ | refine Below.drew ?_ | refine below_al ?_ _ | refine bseqK ?_ hbA.out | refine bseqK ?_ (hmkB.out _))))) (fun hHeld => ?_)
        replace hHeld := hHeld rfl
        clear hK K
        refine wpAnyT_one (i := 12) (o := ?oisp_24) (by kernel_rfl) ?hosp_24 (fun K hK => ?_)
        case hosp_24 => rfl
        rw [if_pos (by rfl)]
        go_simp
        refine hK.out _ _ (fun _ => hup.out _ (by (repeat (with_reducible first | exact Below.refl _ _ | refine Below.drew ?_ | refine below_al ?_ _ | refine bseqK ?_ hbA.out | refine bseqK ?_ (hmkB.out _))))) (fun hHeld => ?_)
        replace hHeld := hHeld rfl
        clear hK K
        refine wpAnyT_done (by kernel_rfl) ?_ _
        (go_wp2_with (fail); go_meet; refine ⟨_, _, rfl, rfl, SPm.new ?_ hn1 ?_ hgA.out ?_ ?_⟩; rotate_left; (first | omega | (simp; done) | (exact Below.size (show Below w.heap.size w _ from by (repeat (with_reducible first | exact Below.refl _ _ | refine Below.drew ?_ | refine below_al ?_ _ | refine bseqK ?_ hbA.out | refine bseqK ?_ (hmkB.out _)))))); (refine Blk.later hZA.out ?_; (repeat (with_reducible first | exact Below.refl _ _ | refine Below.drew ?_ | refine below_al ?_ _ | refine bseqK ?_ hbA.out | refine bseqK ?_ (hmkB.out _)))); (repeat (first | (refine RBk.at (hmkH.out _) ?_; first | rfl | (simp; done) | exact szK _ _ | exact szK2 _ _) | (with_reducible refine RBk.later ?_ hbA.out) | (with_reducible refine RBk.later ?_ (below_al (Below.refl _ _) _)) | (with_reducible refine RBk.later ?_ (Below.drew (Below.refl _ _))))); (repeat (with_reducible first | exact Below.refl _ _ | refine Below.drew ?_ | refine below_al ?_ _ | refine bseqK ?_ hbA.out | refine bseqK ?_ (hmkB.out _))))
    -- tree end
  case rest =>
    obtain ⟨gs, gp, rfl, rfl, hS0⟩ := hcut
    have hS0H := Lib.hid hS0
    have d0 := Below.cellAt hS0.bl (Nat.le_refl _) c0
    clear hS0 hmk hmkH hmkB hmkc hmks c0 c1
    go_wp2_with (fail)
    go_loopg [27] n (fun gk iv wx => ∃ f : Nat, iv = .int .i64 (f : Nat) ∧ f + gk = n ∧ SPm w wx gs gp n (speedsG wo l n f))
    case atStart => exact ⟨0, rfl, by omega, hS0H.out⟩
    case round =>
      clear hS0H d0
      obtain ⟨f, rfl, hf, hS⟩ := hrel
      have hSH := Lib.hid hS
      clear hS
      by_cases hfn : f < n
      · obtain ⟨g1, rfl⟩ : ∃ g1, gk = g1 + 1 := ⟨gk - 1, by omega⟩
        have hfI : (f : Int) < (n : Int) := by omega
        have hf0 : (0 : Int) ≤ (f : Int) := by omega
        have hok := Lib.hid (okSt.speeds (wo := wo) hlH.out f (by omega))
        have d0 := Below.cellAt hSH.out.bl (Nat.le_refl _) c0H.out
        have d1 := Below.cellAt hSH.out.bl (Nat.le_refl _) c1H.out
        have hp := hSH.out.part hfn
        have hne := hSH.out.ne
        have hne2 := Ne.symm hSH.out.ne
        rcases hu : stG (speedsG wo l n f) f with _ | ⟨g, q⟩
        · rw [hu] at hp
          have hp2 : wr.cell? ⟨gp, f, none⟩ = some (.int .i64 (-1)) := hp
          have huH := Lib.hid hu
          have hs1 : Hid (speedsG wo l n (f + 1) = iterN (passG wo f 0 l) n ((speedsG wo l n f).set f (some (f, 1)))) := by
            show _ = _
            rw [speedsG, hu]
          obtain ⟨s0, hs0⟩ : ∃ s0, speedsG wo l n f = s0 := ⟨_, rfl⟩
          rw [hs0] at hSH hok huH hs1
          clear hp hu hs0
          go_upto_region 7 with (go_at_call 11; go_loud (refine (whole_1 _).mono ?_); rintro e w5 ⟨a5, e5, b5, f5, rfl, hm5, hb5⟩; have hm5H := Lib.hid hm5; have hS5 := Lib.hid (hSH.out.below hb5); obtain ⟨fz1, fz2, fz3, fz4, fz5, ⟨v1, k1⟩, ⟨v2, k2⟩, ⟨v3, k3⟩, ⟨v4, k4⟩, ⟨v5, k5⟩⟩ := hS5.out.soft hfn; clear hm5 hb5)
          have hV0 := Lib.hid (hS5.out.put (f := f) hfn hm5H.out)
          obtain ⟨V, hV⟩ : ∃ V, V = putSP w5 gs gp f f 1 a5 e5 b5 f5 := ⟨_, rfl⟩
          have hV2 := hV
          unfold putSP at hV2
          rw [← hV2]
          rw [← hV] at hV0
          clear hV2 hV fz1 fz2 fz3 fz4 fz5 k1 k2 k3 k4 k5 hS5 hm5H d0 d1 hp2
          have hok1 := Lib.hid (hok.out.set (q := 1) hfn huH.out hfn (by decide) (Wd.one.mono (by omega)))
          obtain ⟨s1, hs1e⟩ : ∃ s1, s0.set f (some (f, 1)) = s1 := ⟨_, rfl⟩
          rw [hs1e] at hV0 hok1 hs1
          clear hs1e hok huH hSH
          go_wp2_with (fail)
          go_loopg [9] (n - cntS s1 + 1) (fun gc mv wx => ∃ (s : St) (k : Nat) (mm : Bool), mv = .bool mm ∧ iterN (passG wo f 0 l) k s1 = s ∧ k ≤ n ∧ okSt n s ∧ SPm w wx gs gp n s ∧ (mm = true → gc = n - cntS s + 1 ∧ k ≤ cntS s) ∧ (mm = false → passG wo f 0 l s = s))
          case atStart => exact ⟨s1, 0, true, rfl, rfl, Nat.zero_le _, hok1.out, hV0.out, fun _ => ⟨rfl, Nat.zero_le _⟩, fun h => by cases h⟩
          case round =>
            clear hV0 hok1
            obtain ⟨s, k, mm, rfl, hit, hkn, hok, hS, hmt, hmf⟩ := hrel
            have hSH := Lib.hid hS
            have hokH := Lib.hid hok
            have hitH := Lib.hid hit
            clear hS hok hit
            cases mm
            · have hfix := Lib.hid (hmf rfl)
              clear hmt hmf
              go_wp2_with (fail)
              go_roundg g1
              case measure => omega
              case rel => exact ⟨f + 1, by go_num, by omega, by rw [hs1.out, iterN_end hitH.out hfix.out hkn]; exact hSH.out⟩
            · obtain ⟨hgk, hkc⟩ := hmt rfl
              obtain ⟨g2, rfl⟩ : ∃ g2, gk = g2 + 1 := ⟨gk - 1, by omega⟩
              clear hmt hmf
              have d0 := Below.cellAt hSH.out.bl (Nat.le_refl _) c0H.out
              have d1 := Below.cellAt hSH.out.bl (Nat.le_refl _) c1H.out
              go_wp2_with (fail)
              go_loopg [9, 49] m (fun gc mv iv wy => ∃ (i : Nat) (mm : Bool), mv = .bool mm ∧ iv = .int .i64 (i : Nat) ∧ i + gc = m ∧ mm = decide (cntS s < cntS (passG wo f 0 (l.take i) s)) ∧ SPm w wy gs gp n (passG wo f 0 (l.take i) s))
              case atStart => exact ⟨0, false, rfl, rfl, by omega, by simp [passG], hSH.out⟩
              case round =>
                clear hSH d0 d1
                obtain ⟨i, mm, rfl, rfl, hi, hmm, hS⟩ := hrel
                have hSH := Lib.hid hS
                have hmmH := Lib.hid hmm
                clear hS hmm
                by_cases him : i < m
                · -- cutR
                  obtain ⟨g3, rfl⟩ : ∃ g3, gk = g3 + 1 := ⟨gk - 1, by omega⟩
                  have hiI : (i : Int) < (m : Int) := by omega
                  have hi0 : (0 : Int) ≤ (i : Int) := by omega
                  obtain ⟨b, hb⟩ : ∃ b, l[i]? = some b := ⟨_, List.getElem?_eq_getElem (by rw [hmH.out]; exact him)⟩
                  have hbok := hlH.out b (List.mem_of_getElem? hb)
                  obtain ⟨kb, ob, hao, e0, e1, e2, e3⟩ := (hBH.out.below hSH.out.bl) i b hb
                  have haoH := Lib.hid hao
                  have htk : Hid (passG wo f 0 (l.take (i + 1)) s = if wo i then passG wo f 0 (l.take i) s else stepG f b (passG wo f 0 (l.take i) s)) := by
                    show _ = _
                    rw [List.take_add_one, hb]
                    show passG wo f 0 (l.take i ++ [b]) s = _
                    rw [passG_snoc, List.length_take, hmH.out, Nat.min_eq_left (by omega), Nat.zero_add]
                  have hokt := Lib.hid (hokH.out.pass (f := f) wo (l.take i) 0 s (fun c hc => hlH.out c (List.mem_of_mem_take hc)))
                  have hwoi := Lib.hid (fun W (hW : Below w.heap.size w W) => hwoH.out i W him hW)
                  obtain ⟨t, ht⟩ : ∃ t, passG wo f 0 (l.take i) s = t := ⟨_, rfl⟩
                  rw [ht] at hSH hmmH htk hokt
                  have hbokH := Lib.hid hbok
                  have htH := Lib.hid ht
                  subst hao
                  clear hb ht hbok
                  go_upto_region 13 with (fail)
                  have hSV := Lib.hid (hSH.out.below (below_al (Below.refl _ _) (Obj.cells #[.int .i64 (b.A : Nat), .int .i64 (b.B : Nat), .int .i64 b.o, .int .i64 (b.u : Nat)] 32)))
                  obtain ⟨V, hV⟩ : ∃ V, V = wr.alloc (Obj.cells #[.int .i64 (b.A : Nat), .int .i64 (b.B : Nat), .int .i64 b.o, .int .i64 (b.u : Nat)] 32) := ⟨_, rfl⟩
                  have x0 : V.cell? ⟨wr.heap.size, 0, none⟩ = some (.int .i64 (b.A : Nat)) := by rw [hV]; simp [go_sem]
                  have x1 : V.cell? ⟨wr.heap.size, 1, none⟩ = some (.int .i64 (b.B : Nat)) := by rw [hV]; simp [go_sem]
                  have x2 : V.cell? ⟨wr.heap.size, 2, none⟩ = some (.int .i64 b.o) := by rw [hV]; simp [go_sem]
                  have x3 : V.cell? ⟨wr.heap.size, 3, none⟩ = some (.int .i64 (b.u : Nat)) := by rw [hV]; simp [go_sem]
                  rw [← hV] at hSV ⊢
                  obtain ⟨bx, hbx⟩ : ∃ bx, wr.heap.size = bx := ⟨_, rfl⟩
                  rw [hbx] at x0 x1 x2 x3 ⊢
                  have hgsx : gs < bx := by rw [← hbx]; exact hSH.out.hs.choose_spec.1.lt
                  have hgpx : gp < bx := by rw [← hbx]; exact hSH.out.hp.lt
                  clear hV hSH e0 e1 e2 e3 hbx
                  go_wp2_with (fail)
                  have cS : Calls Try.prog fw (#[.int .i64 (i : Nat)] ++ lb) V _ := hwoi.out V hSV.out.bl
                  refine cS.mono ?_
                  rintro e w5 ⟨rfl, hb5⟩
                  clear cS
                  have hS5H := Lib.hid (hSV.out.below hb5)
                  replace x0 := Below.cellAt hb5 (Nat.le_refl _) x0
                  replace x1 := Below.cellAt hb5 (Nat.le_refl _) x1
                  replace x2 := Below.cellAt hb5 (Nat.le_refl _) x2
                  replace x3 := Below.cellAt hb5 (Nat.le_refl _) x3
                  clear hSV hb5
                  rcases hwi : wo i with _ | _
                  · have hst : Hid (passG wo f 0 (l.take (i + 1)) s = stepG f b t) := by
                      show _ = _
                      rw [htk.out, hwi]; rfl
                    have hAn : b.A < n := hbokH.out.1
                    have hBn : b.B < n := hbokH.out.2.1
                    have hAnI : ((b.A : Nat) : Int) < (n : Int) := by omega
                    have hBnI : ((b.B : Nat) : Int) < (n : Int) := by omega
                    have hA0 : (0 : Int) ≤ ((b.A : Nat) : Int) := by omega
                    have hB0 : (0 : Int) ≤ ((b.B : Nat) : Int) := by omega
                    have pcA := hS5H.out.part hAn
                    have pcB := hS5H.out.part hBn
                    obtain ⟨pA, hpA⟩ : ∃ p, ptI (stG t b.A) = p := ⟨_, rfl⟩
                    obtain ⟨pB, hpB⟩ : ∃ p, ptI (stG t b.B) = p := ⟨_, rfl⟩
                    rw [hpA] at pcA
                    rw [hpB] at pcB
                    have hpAH := Lib.hid hpA
                    have hpBH := Lib.hid hpB
                    clear hwi htk hpA hpB
                    by_cases hAf : pA = (f : Int)
                    · have hAfB : (pA == (f : Int)) = true := by simpa using hAf
                      by_cases hBneg : pB < 0
                      · have hBnegB : decide (pB < 0) = true := decide_eq_true hBneg
                        obtain ⟨q, hq1, hq2, hq3⟩ := step_B (by rw [hpAH.out]; exact hAf) (by rw [hpBH.out]; exact hBneg)
                        have hqH := Lib.hid (hokt.out.2 b.A f q hq1)
                        have hcn : cntS t ≤ 10 := by have := cntS_le t; rw [hokt.out.1] at this; omega
                        have szq := Lib.hid (hqH.out.2.2.sz (by omega))
                        have szr := Lib.hid ((rt_wd hbokH.out).sz (by omega))
                        have hrq := Lib.hid (rn_ne (rt_ne hbokH.out))
                        obtain ⟨a, c, a', c', y0, y1, y2, y3, hRM⟩ := hS5H.out.rat b.A f q hq1
                        have hRMH := Lib.hid hRM
                        have hRd := Lib.hid (show Rd bx gs b.A b.A b.B b.o b.u a a' c c' q w5 from ⟨⟨x0, x1, x2, x3⟩, y0, y1, y2, y3⟩)
                        have hne := hS5H.out.ne
                        have hne2 := Ne.symm hS5H.out.ne
                        have hgx : gs ≠ bx := by omega
                        have hgx2 : gp ≠ bx := by omega
                        have hXY : b.B ≠ b.A := by have := hbokH.out.2.2.1; omega
                        have hnew : Hid (passG wo f 0 (l.take (i + 1)) s = t.set b.B (some (f, q * rt b))) := by show _ = _; rw [hst.out]; exact hq3
                        have hbig : Hid (true = decide (cntS s < cntS (t.set b.B (some (f, q * rt b))))) := by
                          show _ = _
                          rw [cntS_set (by rw [hokt.out.1]; exact hBn) hq2]
                          refine (decide_eq_true ?_).symm
                          rcases passG_cases (f := f) wo (l.take i) 0 s (fun c hc => hlH.out c (List.mem_of_mem_take hc)) hokH.out.1 with h | h
                          · rw [htH.out] at h; rw [h]; omega
                          · rw [htH.out] at h; omega
                        have hAfH := Lib.hid (And.intro hAf hBneg)
                        clear hRM y0 y1 y2 y3 hq1 hq2 hq3 hst
                        go_upto_region 15 with (fail)
                        clear hAf hBneg hAfB hBnegB pcA pcB x0 x1 x2 x3
                        -- tree S: fun w' => (w'.cell? ⟨bx, 0, none⟩ = some (.int .i64 (b.A : Nat)) ∧ w'.cell? ⟨bx, 1, none⟩ = some (.int .i64 (b.B : Nat)) ∧ w'.cell? ⟨bx, 2, none⟩ = some (.int .i64 b.o) ∧ w'.cell? ⟨bx, 3, none⟩ = some (.int .i64 (b.u : Nat))) ∧ (w'.cell? ⟨gs, b.A * 4, none⟩ = some (.bool (ng (rn q))) ∧ w'.cell? ⟨gs, b.A * 4 + 1, none⟩ = some (.slice a (LI (rn q)) c) ∧ w'.cell? ⟨gs, b.A * 4 + 2, none⟩ = some (.bool (ng (rd q))) ∧ w'.cell? ⟨gs, b.A * 4 + 3, none⟩ = some (.slice a' (LI (rd q)) c'))
                        -- tree s0: hRd.out.below (Below.drew (Below.refl _ _))
                        -- arm 12: go_at_call 44; (with_reducible refine (ratio_bt b hbokH.out _).mono ?_); rintro e w6 ⟨ra, rc, ra', rc', rfl, hm6, hb6⟩; have hq6 : Below w5.heap.size w5 w6 := bseqK (Below.drew (Below.refl _ _)) hb6; have hm6H := Lib.hid hm6; have hq6H := Lib.hid hq6; clear hm6 hb6 hq6
                        -- arm 12 s: hRd.out.below hq6H.out
                        -- arm 13: go_at_call 43; (with_reducible refine (rmul_any a c a' c' ra rc ra' rc' q (rt b) _ (hRMH.out.up hq6H.out) hm6H.out szq.out szr.out).mono ?_); rintro e w7 ⟨pa, pc, pa', pc', rfl, hm7, hb7⟩; have hq7 : Below w5.heap.size w5 w7 := bseqK hq6H.out hb7; have hm7H := Lib.hid hm7; have hq7H := Lib.hid hq7; have hS7 := Lib.hid (hS5H.out.below hq7); obtain ⟨fz1, fz2, fz3, fz4, fz5, ⟨v1, k1⟩, ⟨v2, k2⟩, ⟨v3, k3⟩, ⟨v4, k4⟩, ⟨v5, k5⟩⟩ := hS7.out.soft hBn; clear hm7 hb7 hq7
                        -- arm 13 s: hRd.out.below hq7H.out
                        -- arm 16 s: Rd.set4 (hRd.out.below hq7H.out) hgx hXY _ _ _ _
                        -- arm 18 s: Rd.set1 (Rd.set4 (hRd.out.below hq7H.out) hgx hXY _ _ _ _) hgx2 hne2 _
                        -- arm 19 s: Rd.set1 (Rd.set4 (hRd.out.below hq7H.out) hgx hXY _ _ _ _) hgx2 hne2 _
                        -- leaf: (go_wp2_with (fail); go_roundg g3; (case measure => omega); (case rel => exact ⟨i + 1, true, rfl, by go_num, by omega, by rw [hnew.out]; exact hbig.out, by rw [hnew.out]; exact hS7.out.put (f := f) hBn hm7H.out⟩))
                        -- tree rb 0 1 2 3 4 5 6 7 8 9 10 11 14 c12 c13 15 m16 17 m18 m19
                        refine wp_region_tail (fun w' => (w'.cell? ⟨bx, 0, none⟩ = some (.int .i64 (b.A : Nat)) ∧ w'.cell? ⟨bx, 1, none⟩ = some (.int .i64 (b.B : Nat)) ∧ w'.cell? ⟨bx, 2, none⟩ = some (.int .i64 b.o) ∧ w'.cell? ⟨bx, 3, none⟩ = some (.int .i64 (b.u : Nat))) ∧ (w'.cell? ⟨gs, b.A * 4, none⟩ = some (.bool (ng (rn q))) ∧ w'.cell? ⟨gs, b.A * 4 + 1, none⟩ = some (.slice a (LI (rn q)) c) ∧ w'.cell? ⟨gs, b.A * 4 + 2, none⟩ = some (.bool (ng (rd q))) ∧ w'.cell? ⟨gs, b.A * 4 + 3, none⟩ = some (.slice a' (LI (rd q)) c'))) (fun j => decide (1000 ≤ j)) (by kernel_rfl) (hRd.out.below (Below.drew (Below.refl _ _))) (fun hHeld => ?_)
                        refine wpAnyT_take (i := 0) (oi := ?oirb_1) (v := ?vrb_1) ?horb_1 (by kernel_rfl) (by kernel_rfl) (by kernel_rfl) (by kernel_rfl) ?hqrb_1 (Or.inl ⟨?hwrb_1, ?hyrb_1⟩) (by assumption) ?_
                        case horb_1 => rfl
                        case hwrb_1 => rfl
                        case hyrb_1 => (intro w hSw; (try dsimp only at hSw); go_split_ands; go_simp; (try (with_reducible rfl)))
                        case hqrb_1 => exact fun _ _ _ h => h
                        simp only [Act.put, List.getElem_toArray, List.getElem_cons_zero, List.setIfInBounds_toArray, List.set_cons_zero, List.set_cons_succ]
                        refine wpAnyT_take (i := 1) (oi := ?oirb_2) (v := ?vrb_2) ?horb_2 (by kernel_rfl) (by kernel_rfl) (by kernel_rfl) (by kernel_rfl) ?hqrb_2 (Or.inl ⟨?hwrb_2, ?hyrb_2⟩) (by assumption) ?_
                        case horb_2 => rfl
                        case hwrb_2 => rfl
                        case hyrb_2 => (intro w hSw; (try dsimp only at hSw); go_split_ands; go_simp; (try (with_reducible rfl)))
                        case hqrb_2 => exact fun _ _ _ h => h
                        simp only [Act.put, List.getElem_toArray, List.getElem_cons_succ, List.getElem_cons_zero, List.setIfInBounds_toArray, List.set_cons_zero, List.set_cons_succ]
                        refine wpAnyT_take (i := 2) (oi := ?oirb_3) (v := ?vrb_3) ?horb_3 (by kernel_rfl) (by kernel_rfl) (by kernel_rfl) (by kernel_rfl) ?hqrb_3 (Or.inl ⟨?hwrb_3, ?hyrb_3⟩) (by assumption) ?_
                        case horb_3 => rfl
                        case hwrb_3 => rfl
                        case hyrb_3 => (intro w hSw; (try dsimp only at hSw); go_split_ands; go_simp; (try (with_reducible rfl)))
                        case hqrb_3 => exact fun _ _ _ h => h
                        simp only [Act.put, List.getElem_toArray, List.getElem_cons_succ, List.getElem_cons_zero, List.setIfInBounds_toArray, List.set_cons_zero, List.set_cons_succ]
                        refine wpAnyT_take (i := 3) (oi := ?oirb_4) (v := ?vrb_4) ?horb_4 (by kernel_rfl) (by kernel_rfl) (by kernel_rfl) (by kernel_rfl) ?hqrb_4 (Or.inl ⟨?hwrb_4, ?hyrb_4⟩) (by assumption) ?_
                        case horb_4 => rfl
                        case hwrb_4 => rfl
                        case hyrb_4 => (intro w hSw; (try dsimp only at hSw); go_split_ands; go_simp; (try (with_reducible rfl)))
                        case hqrb_4 => exact fun _ _ _ h => h
                        simp only [Act.put, List.getElem_toArray, List.getElem_cons_succ, List.getElem_cons_zero, List.setIfInBounds_toArray, List.set_cons_zero, List.set_cons_succ]
                        refine wpAnyT_take (i := 4) (oi := ?oirb_5) (v := ?vrb_5) ?horb_5 (by kernel_rfl) (by kernel_rfl) (by kernel_rfl) (by kernel_rfl) ?hqrb_5 (Or.inl ⟨?hwrb_5, ?hyrb_5⟩) (by assumption) ?_
                        case horb_5 => rfl
                        case hwrb_5 => rfl
                        case hyrb_5 => (intro w hSw; (try dsimp only at hSw); go_split_ands; go_simp; (try (with_reducible rfl)))
                        case hqrb_5 => exact fun _ _ _ h => h
                        simp only [Act.put, List.getElem_toArray, List.getElem_cons_succ, List.getElem_cons_zero, List.setIfInBounds_toArray, List.set_cons_zero, List.set_cons_succ]
                        refine wpAnyT_take (i := 5) (oi := ?oirb_6) (v := ?vrb_6) ?horb_6 (by kernel_rfl) (by kernel_rfl) (by kernel_rfl) (by kernel_rfl) ?hqrb_6 (Or.inl ⟨?hwrb_6, ?hyrb_6⟩) (by assumption) ?_
                        case horb_6 => rfl
                        case hwrb_6 => rfl
                        case hyrb_6 => (intro w hSw; (try dsimp only at hSw); go_split_ands; go_simp; (try (with_reducible rfl)))
                        case hqrb_6 => exact fun _ _ _ h => h
                        simp only [Act.put, List.getElem_toArray, List.getElem_cons_succ, List.getElem_cons_zero, List.setIfInBounds_toArray, List.set_cons_zero, List.set_cons_succ]
                        refine wpAnyT_take (i := 6) (oi := ?oirb_7) (v := ?vrb_7) ?horb_7 (by kernel_rfl) (by kernel_rfl) (by kernel_rfl) (by kernel_rfl) ?hqrb_7 (Or.inl ⟨?hwrb_7, ?hyrb_7⟩) (by assumption) ?_
                        case horb_7 => rfl
                        case hwrb_7 => rfl
                        case hyrb_7 => (intro w hSw; (try dsimp only at hSw); go_split_ands; go_simp; (try (with_reducible rfl)))
                        case hqrb_7 => exact fun _ _ _ h => h
                        simp only [Act.put, List.getElem_toArray, List.getElem_cons_succ, List.getElem_cons_zero, List.setIfInBounds_toArray, List.set_cons_zero, List.set_cons_succ]
                        refine wpAnyT_take (i := 7) (oi := ?oirb_8) (v := ?vrb_8) ?horb_8 (by kernel_rfl) (by kernel_rfl) (by kernel_rfl) (by kernel_rfl) ?hqrb_8 (Or.inl ⟨?hwrb_8, ?hyrb_8⟩) (by assumption) ?_
                        case horb_8 => rfl
                        case hwrb_8 => rfl
                        case hyrb_8 => (intro w hSw; (try dsimp only at hSw); go_split_ands; go_simp; (try (with_reducible rfl)))
                        case hqrb_8 => exact fun _ _ _ h => h
                        simp only [Act.put, List.getElem_toArray, List.getElem_cons_succ, List.getElem_cons_zero, List.setIfInBounds_toArray, List.set_cons_zero, List.set_cons_succ]
                        refine wpAnyT_take (i := 8) (oi := ?oirb_9) (v := ?vrb_9) ?horb_9 (by kernel_rfl) (by kernel_rfl) (by kernel_rfl) (by kernel_rfl) ?hqrb_9 (Or.inl ⟨?hwrb_9, ?hyrb_9⟩) (by assumption) ?_
                        case horb_9 => rfl
                        case hwrb_9 => rfl
                        case hyrb_9 => (intro w hSw; (try dsimp only at hSw); go_split_ands; go_simp; (try (with_reducible rfl)))
                        case hqrb_9 => exact fun _ _ _ h => h
                        simp only [Act.put, List.getElem_toArray, List.getElem_cons_succ, List.getElem_cons_zero, List.setIfInBounds_toArray, List.set_cons_zero, List.set_cons_succ]
                        refine wpAnyT_take (i := 9) (oi := ?oirb_10) (v := ?vrb_10) ?horb_10 (by kernel_rfl) (by kernel_rfl) (by kernel_rfl) (by kernel_rfl) ?hqrb_10 (Or.inl ⟨?hwrb_10, ?hyrb_10⟩) (by assumption) ?_
                        case horb_10 => rfl
                        case hwrb_10 => rfl
                        case hyrb_10 => (intro w hSw; (try dsimp only at hSw); go_split_ands; go_simp; (try (with_reducible rfl)))
                        case hqrb_10 => exact fun _ _ _ h => h
                        simp only [Act.put, List.getElem_toArray, List.getElem_cons_succ, List.getElem_cons_zero, List.setIfInBounds_toArray, List.set_cons_zero, List.set_cons_succ]
                        refine wpAnyT_take (i := 10) (oi := ?oirb_11) (v := ?vrb_11) ?horb_11 (by kernel_rfl) (by kernel_rfl) (by kernel_rfl) (by kernel_rfl) ?hqrb_11 (Or.inl ⟨?hwrb_11, ?hyrb_11⟩) (by assumption) ?_
                        case horb_11 => rfl
                        case hwrb_11 => rfl
                        case hyrb_11 => (intro w hSw; (try dsimp only at hSw); go_split_ands; go_simp; (try (with_reducible rfl)))
                        case hqrb_11 => exact fun _ _ _ h => h
                        simp only [Act.put, List.getElem_toArray, List.getElem_cons_succ, List.getElem_cons_zero, List.setIfInBounds_toArray, List.set_cons_zero, List.set_cons_succ]
                        refine wpAnyT_take (i := 11) (oi := ?oirb_12) (v := ?vrb_12) ?horb_12 (by kernel_rfl) (by kernel_rfl) (by kernel_rfl) (by kernel_rfl) ?hqrb_12 (Or.inl ⟨?hwrb_12, ?hyrb_12⟩) (by assumption) ?_
                        case horb_12 => rfl
                        case hwrb_12 => rfl
                        case hyrb_12 => (intro w hSw; (try dsimp only at hSw); go_split_ands; go_simp; (try (with_reducible rfl)))
                        case hqrb_12 => exact fun _ _ _ h => h
                        simp only [Act.put, List.getElem_toArray, List.getElem_cons_succ, List.getElem_cons_zero, List.setIfInBounds_toArray, List.set_cons_zero, List.set_cons_succ]
                        refine wpAnyT_take (i := 14) (oi := ?oirb_13) (v := ?vrb_13) ?horb_13 (by kernel_rfl) (by kernel_rfl) (by kernel_rfl) (by kernel_rfl) ?hqrb_13 (Or.inl ⟨?hwrb_13, ?hyrb_13⟩) (by assumption) ?_
                        case horb_13 => rfl
                        case hwrb_13 => rfl
                        case hyrb_13 => (intro w hSw; (try dsimp only at hSw); go_split_ands; go_simp; (try (with_reducible rfl)))
                        case hqrb_13 => exact fun _ _ _ h => h
                        simp only [Act.put, List.getElem_toArray, List.getElem_cons_succ, List.getElem_cons_zero, List.setIfInBounds_toArray, List.set_cons_zero, List.set_cons_succ]
                        refine wpAnyT_one (i := 12) (o := ?oirb_14) (by kernel_rfl) ?horb_14 (fun K hK => ?_)
                        case horb_14 => rfl
                        rw [if_pos (by rfl)]
                        go_simp
                        go_at_call 44; (with_reducible refine (ratio_bt b hbokH.out _).mono ?_); rintro e w6 ⟨ra, rc, ra', rc', rfl, hm6, hb6⟩; have hq6 : Below w5.heap.size w5 w6 := bseqK (Below.drew (Below.refl _ _)) hb6; have hm6H := Lib.hid hm6; have hq6H := Lib.hid hq6; clear hm6 hb6 hq6
                        (try go_wp2_with (fail))
                        refine hK.out _ _ (fun _ => hRd.out.below hq6H.out) (fun hHeld => ?_)
                        replace hHeld := hHeld rfl
                        clear hK K
                        refine wpAnyT_one (i := 13) (o := ?oirb_15) (by kernel_rfl) ?horb_15 (fun K hK => ?_)
                        case horb_15 => rfl
                        rw [if_pos (by rfl)]
                        go_simp
                        go_at_call 43; (with_reducible refine (rmul_any a c a' c' ra rc ra' rc' q (rt b) _ (hRMH.out.up hq6H.out) hm6H.out szq.out szr.out).mono ?_); rintro e w7 ⟨pa, pc, pa', pc', rfl, hm7, hb7⟩; have hq7 : Below w5.heap.size w5 w7 := bseqK hq6H.out hb7; have hm7H := Lib.hid hm7; have hq7H := Lib.hid hq7; have hS7 := Lib.hid (hS5H.out.below hq7); obtain ⟨fz1, fz2, fz3, fz4, fz5, ⟨v1, k1⟩, ⟨v2, k2⟩, ⟨v3, k3⟩, ⟨v4, k4⟩, ⟨v5, k5⟩⟩ := hS7.out.soft hBn; clear hm7 hb7 hq7
                        (try go_wp2_with (fail))
                        refine hK.out _ _ (fun _ => hRd.out.below hq7H.out) (fun hHeld => ?_)
                        replace hHeld := hHeld rfl
                        clear hK K
                        refine wpAnyT_take (i := 15) (oi := ?oirb_16) (v := ?vrb_16) ?horb_16 (by kernel_rfl) (by kernel_rfl) (by kernel_rfl) (by kernel_rfl) ?hqrb_16 (Or.inl ⟨?hwrb_16, ?hyrb_16⟩) (by assumption) ?_
                        case horb_16 => rfl
                        case hwrb_16 => rfl
                        case hyrb_16 => (intro w hSw; (try dsimp only at hSw); go_split_ands; go_simp; (try (with_reducible rfl)))
                        case hqrb_16 => exact fun _ _ _ h => h
                        simp only [Act.put, List.getElem_toArray, List.getElem_cons_succ, List.getElem_cons_zero, List.setIfInBounds_toArray, List.set_cons_zero, List.set_cons_succ]
                        refine wpAnyT_one (i := 16) (o := ?oirb_17) (by kernel_rfl) ?horb_17 (fun K hK => ?_)
                        case horb_17 => rfl
                        rw [if_pos (by rfl)]
                        go_simp
                        refine hK.out _ _ (fun _ => Rd.set4 (hRd.out.below hq7H.out) hgx hXY _ _ _ _) (fun hHeld => ?_)
                        replace hHeld := hHeld rfl
                        clear hK K
                        refine wpAnyT_take (i := 17) (oi := ?oirb_18) (v := ?vrb_18) ?horb_18 (by kernel_rfl) (by kernel_rfl) (by kernel_rfl) (by kernel_rfl) ?hqrb_18 (Or.inl ⟨?hwrb_18, ?hyrb_18⟩) (by assumption) ?_
                        case horb_18 => rfl
                        case hwrb_18 => rfl
                        case hyrb_18 => (intro w hSw; (try dsimp only at hSw); go_split_ands; go_simp; (try (with_reducible rfl)))
                        case hqrb_18 => exact fun _ _ _ h => h
                        simp only [Act.put, List.getElem_toArray, List.getElem_cons_succ, List.getElem_cons_zero, List.setIfInBounds_toArray, List.set_cons_zero, List.set_cons_succ]
                        refine wpAnyT_one (i := 18) (o := ?oirb_19) (by kernel_rfl) ?horb_19 (fun K hK => ?_)
                        case horb_19 => rfl
                        rw [if_pos (by rfl)]
                        go_simp
                        refine hK.out _ _ (fun _ => Rd.set1 (Rd.set4 (hRd.out.below hq7H.out) hgx hXY _ _ _ _) hgx2 hne2 _) (fun hHeld => ?_)
                        replace hHeld := hHeld rfl
                        clear hK K
                        refine wpAnyT_one (i := 19) (o := ?oirb_20) (by kernel_rfl) ?horb_20 (fun K hK => ?_)
                        case horb_20 => rfl
                        rw [if_pos (by rfl)]
                        go_simp
                        refine hK.out _ _ (fun _ => Rd.set1 (Rd.set4 (hRd.out.below hq7H.out) hgx hXY _ _ _ _) hgx2 hne2 _) (fun hHeld => ?_)
                        replace hHeld := hHeld rfl
                        clear hK K
                        refine wpAnyT_done (by kernel_rfl) ?_ _
                        (go_wp2_with (fail); go_roundg g3; (case measure => omega); (case rel => exact ⟨i + 1, true, rfl, by go_num, by omega, by rw [hnew.out]; exact hbig.out, by rw [hnew.out]; exact hS7.out.put (f := f) hBn hm7H.out⟩))
                        -- tree end
                      · have hBnegB : decide (pB < 0) = false := decide_eq_false hBneg
                        have hsame : Hid (passG wo f 0 (l.take (i + 1)) s = t) := by
                          show _ = _
                          rw [hst.out]
                          exact step_same (fun h => hBneg (by rw [← hpBH.out]; exact h.2)) (fun h => by have := h.2; rw [hpAH.out] at this; omega)
                        have hAneg : ¬ pA < 0 := by omega
                        have hAnegB : decide (pA < 0) = false := decide_eq_false hAneg
                        have hAfH := Lib.hid hAf
                        clear hAf
                        by_cases hBf : pB = (f : Int)
                        · have hBfB : (pB == (f : Int)) = true := by simpa using hBf
                          have hBfH := Lib.hid hBf
                          clear hBf
                          go_wp2_with (fail)
                          go_roundg g3
                          case measure => omega
                          case rel => exact ⟨i + 1, mm, rfl, by go_num, by omega, by rw [hsame.out]; exact hmmH.out, by rw [hsame.out]; exact hS5H.out⟩
                        · have hBfB : (pB == (f : Int)) = false := by simpa using hBf
                          go_wp2_with (fail)
                          go_roundg g3
                          case measure => omega
                          case rel => exact ⟨i + 1, mm, rfl, by go_num, by omega, by rw [hsame.out]; exact hmmH.out, by rw [hsame.out]; exact hS5H.out⟩
                    · have hAfB : (pA == (f : Int)) = false := by simpa using hAf
                      by_cases hBf : pB = (f : Int)
                      · have hBfB : (pB == (f : Int)) = true := by simpa using hBf
                        by_cases hAneg : pA < 0
                        · have hAnegB : decide (pA < 0) = true := decide_eq_true hAneg
                          obtain ⟨q, hq1, hq2, hq3⟩ := step_A (by rw [hpBH.out]; exact hBf) (by rw [hpAH.out]; exact hAneg)
                          have hqH := Lib.hid (hokt.out.2 b.B f q hq1)
                          have hcn : cntS t ≤ 10 := by have := cntS_le t; rw [hokt.out.1] at this; omega
                          have szq := Lib.hid (hqH.out.2.2.sz (by omega))
                          have szr := Lib.hid ((rt_wd hbokH.out).sz (by omega))
                          have hrq := Lib.hid (rn_ne (rt_ne hbokH.out))
                          obtain ⟨a, c, a', c', y0, y1, y2, y3, hRM⟩ := hS5H.out.rat b.B f q hq1
                          have hRMH := Lib.hid hRM
                          have hRd := Lib.hid (show Rd bx gs b.B b.A b.B b.o b.u a a' c c' q w5 from ⟨⟨x0, x1, x2, x3⟩, y0, y1, y2, y3⟩)
                          have hne := hS5H.out.ne
                          have hne2 := Ne.symm hS5H.out.ne
                          have hgx : gs ≠ bx := by omega
                          have hgx2 : gp ≠ bx := by omega
                          have hXY : b.A ≠ b.B := by have := hbokH.out.2.2.1; omega
                          have hnew : Hid (passG wo f 0 (l.take (i + 1)) s = t.set b.A (some (f, q / rt b))) := by show _ = _; rw [hst.out]; exact hq3
                          have hbig : Hid (true = decide (cntS s < cntS (t.set b.A (some (f, q / rt b))))) := by
                            show _ = _
                            rw [cntS_set (by rw [hokt.out.1]; exact hAn) hq2]
                            refine (decide_eq_true ?_).symm
                            rcases passG_cases (f := f) wo (l.take i) 0 s (fun c hc => hlH.out c (List.mem_of_mem_take hc)) hokH.out.1 with h | h
                            · rw [htH.out] at h; rw [h]; omega
                            · rw [htH.out] at h; omega
                          have hAfH := Lib.hid (And.intro hBf hAneg)
                          clear hRM y0 y1 y2 y3 hq1 hq2 hq3 hst
                          go_upto_region 17 with (fail)
                          clear hBf hAneg hAfB hBfB hAnegB pcA pcB x0 x1 x2 x3
                          -- tree S: fun w' => (w'.cell? ⟨bx, 0, none⟩ = some (.int .i64 (b.A : Nat)) ∧ w'.cell? ⟨bx, 1, none⟩ = some (.int .i64 (b.B : Nat)) ∧ w'.cell? ⟨bx, 2, none⟩ = some (.int .i64 b.o) ∧ w'.cell? ⟨bx, 3, none⟩ = some (.int .i64 (b.u : Nat))) ∧ (w'.cell? ⟨gs, b.B * 4, none⟩ = some (.bool (ng (rn q))) ∧ w'.cell? ⟨gs, b.B * 4 + 1, none⟩ = some (.slice a (LI (rn q)) c) ∧ w'.cell? ⟨gs, b.B * 4 + 2, none⟩ = some (.bool (ng (rd q))) ∧ w'.cell? ⟨gs, b.B * 4 + 3, none⟩ = some (.slice a' (LI (rd q)) c'))
                          -- tree s0: hRd.out.below (Below.drew (Below.refl _ _))
                          -- arm 12: go_at_call 44; (with_reducible refine (ratio_bt b hbokH.out _).mono ?_); rintro e w6 ⟨ra, rc, ra', rc', rfl, hm6, hb6⟩; have hq6 : Below w5.heap.size w5 w6 := bseqK (Below.drew (Below.refl _ _)) hb6; have hm6H := Lib.hid hm6; have hq6H := Lib.hid hq6; clear hm6 hb6 hq6
                          -- arm 12 s: hRd.out.below hq6H.out
                          -- arm 13: go_at_call 12; (with_reducible refine (rdiv_all a c a' c' ra rc ra' rc' q (rt b) _ (hRMH.out.up hq6H.out) hm6H.out szq.out szr.out hrq.out).mono ?_); rintro e w7 ⟨pa, pc, pa', pc', rfl, hm7, hb7⟩; have hq7 : Below w5.heap.size w5 w7 := bseqK hq6H.out hb7; have hm7H := Lib.hid hm7; have hq7H := Lib.hid hq7; have hS7 := Lib.hid (hS5H.out.below hq7); obtain ⟨fz1, fz2, fz3, fz4, fz5, ⟨v1, k1⟩, ⟨v2, k2⟩, ⟨v3, k3⟩, ⟨v4, k4⟩, ⟨v5, k5⟩⟩ := hS7.out.soft hAn; clear hm7 hb7 hq7
                          -- arm 13 s: hRd.out.below hq7H.out
                          -- arm 16 s: Rd.set4 (hRd.out.below hq7H.out) hgx hXY _ _ _ _
                          -- arm 18 s: Rd.set1 (Rd.set4 (hRd.out.below hq7H.out) hgx hXY _ _ _ _) hgx2 hne2 _
                          -- arm 19 s: Rd.set1 (Rd.set4 (hRd.out.below hq7H.out) hgx hXY _ _ _ _) hgx2 hne2 _
                          -- leaf: (go_wp2_with (fail); go_roundg g3; (case measure => omega); (case rel => exact ⟨i + 1, true, rfl, by go_num, by omega, by rw [hnew.out]; exact hbig.out, by rw [hnew.out]; exact hS7.out.put (f := f) hAn hm7H.out⟩))
                          -- tree ra 0 1 2 3 4 5 6 7 8 9 10 11 14 c12 c13 15 m16 17 m18 m19
                          refine wp_region_tail (fun w' => (w'.cell? ⟨bx, 0, none⟩ = some (.int .i64 (b.A : Nat)) ∧ w'.cell? ⟨bx, 1, none⟩ = some (.int .i64 (b.B : Nat)) ∧ w'.cell? ⟨bx, 2, none⟩ = some (.int .i64 b.o) ∧ w'.cell? ⟨bx, 3, none⟩ = some (.int .i64 (b.u : Nat))) ∧ (w'.cell? ⟨gs, b.B * 4, none⟩ = some (.bool (ng (rn q))) ∧ w'.cell? ⟨gs, b.B * 4 + 1, none⟩ = some (.slice a (LI (rn q)) c) ∧ w'.cell? ⟨gs, b.B * 4 + 2, none⟩ = some (.bool (ng (rd q))) ∧ w'.cell? ⟨gs, b.B * 4 + 3, none⟩ = some (.slice a' (LI (rd q)) c'))) (fun j => decide (1000 ≤ j)) (by kernel_rfl) (hRd.out.below (Below.drew (Below.refl _ _))) (fun hHeld => ?_)
                          refine wpAnyT_take (i := 0) (oi := ?oira_1) (v := ?vra_1) ?hora_1 (by kernel_rfl) (by kernel_rfl) (by kernel_rfl) (by kernel_rfl) ?hqra_1 (Or.inl ⟨?hwra_1, ?hyra_1⟩) (by assumption) ?_
                          case hora_1 => rfl
                          case hwra_1 => rfl
                          case hyra_1 => (intro w hSw; (try dsimp only at hSw); go_split_ands; go_simp; (try (with_reducible rfl)))
                          case hqra_1 => exact fun _ _ _ h => h
                          simp only [Act.put, List.getElem_toArray, List.getElem_cons_zero, List.setIfInBounds_toArray, List.set_cons_zero, List.set_cons_succ]
                          refine wpAnyT_take (i := 1) (oi := ?oira_2) (v := ?vra_2) ?hora_2 (by kernel_rfl) (by kernel_rfl) (by kernel_rfl) (by kernel_rfl) ?hqra_2 (Or.inl ⟨?hwra_2, ?hyra_2⟩) (by assumption) ?_
                          case hora_2 => rfl
                          case hwra_2 => rfl
                          case hyra_2 => (intro w hSw; (try dsimp only at hSw); go_split_ands; go_simp; (try (with_reducible rfl)))
                          case hqra_2 => exact fun _ _ _ h => h
                          simp only [Act.put, List.getElem_toArray, List.getElem_cons_succ, List.getElem_cons_zero, List.setIfInBounds_toArray, List.set_cons_zero, List.set_cons_succ]
                          refine wpAnyT_take (i := 2) (oi := ?oira_3) (v := ?vra_3) ?hora_3 (by kernel_rfl) (by kernel_rfl) (by kernel_rfl) (by kernel_rfl) ?hqra_3 (Or.inl ⟨?hwra_3, ?hyra_3⟩) (by assumption) ?_
                          case hora_3 => rfl
                          case hwra_3 => rfl
                          case hyra_3 => (intro w hSw; (try dsimp only at hSw); go_split_ands; go_simp; (try (with_reducible rfl)))
                          case hqra_3 => exact fun _ _ _ h => h
                          simp only [Act.put, List.getElem_toArray, List.getElem_cons_succ, List.getElem_cons_zero, List.setIfInBounds_toArray, List.set_cons_zero, List.set_cons_succ]
                          refine wpAnyT_take (i := 3) (oi := ?oira_4) (v := ?vra_4) ?hora_4 (by kernel_rfl) (by kernel_rfl) (by kernel_rfl) (by kernel_rfl) ?hqra_4 (Or.inl ⟨?hwra_4, ?hyra_4⟩) (by assumption) ?_
                          case hora_4 => rfl
                          case hwra_4 => rfl
                          case hyra_4 => (intro w hSw; (try dsimp only at hSw); go_split_ands; go_simp; (try (with_reducible rfl)))
                          case hqra_4 => exact fun _ _ _ h => h
                          simp only [Act.put, List.getElem_toArray, List.getElem_cons_succ, List.getElem_cons_zero, List.setIfInBounds_toArray, List.set_cons_zero, List.set_cons_succ]
                          refine wpAnyT_take (i := 4) (oi := ?oira_5) (v := ?vra_5) ?hora_5 (by kernel_rfl) (by kernel_rfl) (by kernel_rfl) (by kernel_rfl) ?hqra_5 (Or.inl ⟨?hwra_5, ?hyra_5⟩) (by assumption) ?_
                          case hora_5 => rfl
                          case hwra_5 => rfl
                          case hyra_5 => (intro w hSw; (try dsimp only at hSw); go_split_ands; go_simp; (try (with_reducible rfl)))
                          case hqra_5 => exact fun _ _ _ h => h
                          simp only [Act.put, List.getElem_toArray, List.getElem_cons_succ, List.getElem_cons_zero, List.setIfInBounds_toArray, List.set_cons_zero, List.set_cons_succ]
                          refine wpAnyT_take (i := 5) (oi := ?oira_6) (v := ?vra_6) ?hora_6 (by kernel_rfl) (by kernel_rfl) (by kernel_rfl) (by kernel_rfl) ?hqra_6 (Or.inl ⟨?hwra_6, ?hyra_6⟩) (by assumption) ?_
                          case hora_6 => rfl
                          case hwra_6 => rfl
                          case hyra_6 => (intro w hSw; (try dsimp only at hSw); go_split_ands; go_simp; (try (with_reducible rfl)))
                          case hqra_6 => exact fun _ _ _ h => h
                          simp only [Act.put, List.getElem_toArray, List.getElem_cons_succ, List.getElem_cons_zero, List.setIfInBounds_toArray, List.set_cons_zero, List.set_cons_succ]
                          refine wpAnyT_take (i := 6) (oi := ?oira_7) (v := ?vra_7) ?hora_7 (by kernel_rfl) (by kernel_rfl) (by kernel_rfl) (by kernel_rfl) ?hqra_7 (Or.inl ⟨?hwra_7, ?hyra_7⟩) (by assumption) ?_
                          case hora_7 => rfl
                          case hwra_7 => rfl
                          case hyra_7 => (intro w hSw; (try dsimp only at hSw); go_split_ands; go_simp; (try (with_reducible rfl)))
                          case hqra_7 => exact fun _ _ _ h => h
                          simp only [Act.put, List.getElem_toArray, List.getElem_cons_succ, List.getElem_cons_zero, List.setIfInBounds_toArray, List.set_cons_zero, List.set_cons_succ]
                          refine wpAnyT_take (i := 7) (oi := ?oira_8) (v := ?vra_8) ?hora_8 (by kernel_rfl) (by kernel_rfl) (by kernel_rfl) (by kernel_rfl) ?hqra_8 (Or.inl ⟨?hwra_8, ?hyra_8⟩) (by assumption) ?_
                          case hora_8 => rfl
                          case hwra_8 => rfl
                          case hyra_8 => (intro w hSw; (try dsimp only at hSw); go_split_ands; go_simp; (try (with_reducible rfl)))
                          case hqra_8 => exact fun _ _ _ h => h
                          simp only [Act.put, List.getElem_toArray, List.getElem_cons_succ, List.getElem_cons_zero, List.setIfInBounds_toArray, List.set_cons_zero, List.set_cons_succ]
                          refine wpAnyT_take (i := 8) (oi := ?oira_9) (v := ?vra_9) ?hora_9 (by kernel_rfl) (by kernel_rfl) (by kernel_rfl) (by kernel_rfl) ?hqra_9 (Or.inl ⟨?hwra_9, ?hyra_9⟩) (by assumption) ?_
                          case hora_9 => rfl
                          case hwra_9 => rfl
                          case hyra_9 => (intro w hSw; (try dsimp only at hSw); go_split_ands; go_simp; (try (with_reducible rfl)))
                          case hqra_9 => exact fun _ _ _ h => h
                          simp only [Act.put, List.getElem_toArray, List.getElem_cons_succ, List.getElem_cons_zero, List.setIfInBounds_toArray, List.set_cons_zero, List.set_cons_succ]
                          refine wpAnyT_take (i := 9) (oi := ?oira_10) (v := ?vra_10) ?hora_10 (by kernel_rfl) (by kernel_rfl) (by kernel_rfl) (by kernel_rfl) ?hqra_10 (Or.inl ⟨?hwra_10, ?hyra_10⟩) (by assumption) ?_
                          case hora_10 => rfl
                          case hwra_10 => rfl
                          case hyra_10 => (intro w hSw; (try dsimp only at hSw); go_split_ands; go_simp; (try (with_reducible rfl)))
                          case hqra_10 => exact fun _ _ _ h => h
                          simp only [Act.put, List.getElem_toArray, List.getElem_cons_succ, List.getElem_cons_zero, List.setIfInBounds_toArray, List.set_cons_zero, List.set_cons_succ]
                          refine wpAnyT_take (i := 10) (oi := ?oira_11) (v := ?vra_11) ?hora_11 (by kernel_rfl) (by kernel_rfl) (by kernel_rfl) (by kernel_rfl) ?hqra_11 (Or.inl ⟨?hwra_11, ?hyra_11⟩) (by assumption) ?_
                          case hora_11 => rfl
                          case hwra_11 => rfl
                          case hyra_11 => (intro w hSw; (try dsimp only at hSw); go_split_ands; go_simp; (try (with_reducible rfl)))
                          case hqra_11 => exact fun _ _ _ h => h
                          simp only [Act.put, List.getElem_toArray, List.getElem_cons_succ, List.getElem_cons_zero, List.setIfInBounds_toArray, List.set_cons_zero, List.set_cons_succ]
                          refine wpAnyT_take (i := 11) (oi := ?oira_12) (v := ?vra_12) ?hora_12 (by kernel_rfl) (by kernel_rfl) (by kernel_rfl) (by kernel_rfl) ?hqra_12 (Or.inl ⟨?hwra_12, ?hyra_12⟩) (by assumption) ?_
                          case hora_12 => rfl
                          case hwra_12 => rfl
                          case hyra_12 => (intro w hSw; (try dsimp only at hSw); go_split_ands; go_simp; (try (with_reducible rfl)))
                          case hqra_12 => exact fun _ _ _ h => h
                          simp only [Act.put, List.getElem_toArray, List.getElem_cons_succ, List.getElem_cons_zero, List.setIfInBounds_toArray, List.set_cons_zero, List.set_cons_succ]
                          refine wpAnyT_take (i := 14) (oi := ?oira_13) (v := ?vra_13) ?hora_13 (by kernel_rfl) (by kernel_rfl) (by kernel_rfl) (by kernel_rfl) ?hqra_13 (Or.inl ⟨?hwra_13, ?hyra_13⟩) (by assumption) ?_
                          case hora_13 => rfl
                          case hwra_13 => rfl
                          case hyra_13 => (intro w hSw; (try dsimp only at hSw); go_split_ands; go_simp; (try (with_reducible rfl)))
                          case hqra_13 => exact fun _ _ _ h => h
                          simp only [Act.put, List.getElem_toArray, List.getElem_cons_succ, List.getElem_cons_zero, List.setIfInBounds_toArray, List.set_cons_zero, List.set_cons_succ]
                          refine wpAnyT_one (i := 12) (o := ?oira_14) (by kernel_rfl) ?hora_14 (fun K hK => ?_)
                          case hora_14 => rfl
                          rw [if_pos (by rfl)]
                          go_simp
                          go_at_call 44; (with_reducible refine (ratio_bt b hbokH.out _).mono ?_); rintro e w6 ⟨ra, rc, ra', rc', rfl, hm6, hb6⟩; have hq6 : Below w5.heap.size w5 w6 := bseqK (Below.drew (Below.refl _ _)) hb6; have hm6H := Lib.hid hm6; have hq6H := Lib.hid hq6; clear hm6 hb6 hq6
                          (try go_wp2_with (fail))
                          refine hK.out _ _ (fun _ => hRd.out.below hq6H.out) (fun hHeld => ?_)
                          replace hHeld := hHeld rfl
                          clear hK K
                          refine wpAnyT_one (i := 13) (o := ?oira_15) (by kernel_rfl) ?hora_15 (fun K hK => ?_)
                          case hora_15 => rfl
                          rw [if_pos (by rfl)]
                          go_simp
                          go_at_call 12; (with_reducible refine (rdiv_all a c a' c' ra rc ra' rc' q (rt b) _ (hRMH.out.up hq6H.out) hm6H.out szq.out szr.out hrq.out).mono ?_); rintro e w7 ⟨pa, pc, pa', pc', rfl, hm7, hb7⟩; have hq7 : Below w5.heap.size w5 w7 := bseqK hq6H.out hb7; have hm7H := Lib.hid hm7; have hq7H := Lib.hid hq7; have hS7 := Lib.hid (hS5H.out.below hq7); obtain ⟨fz1, fz2, fz3, fz4, fz5, ⟨v1, k1⟩, ⟨v2, k2⟩, ⟨v3, k3⟩, ⟨v4, k4⟩, ⟨v5, k5⟩⟩ := hS7.out.soft hAn; clear hm7 hb7 hq7
                          (try go_wp2_with (fail))
                          refine hK.out _ _ (fun _ => hRd.out.below hq7H.out) (fun hHeld => ?_)
                          replace hHeld := hHeld rfl
                          clear hK K
                          refine wpAnyT_take (i := 15) (oi := ?oira_16) (v := ?vra_16) ?hora_16 (by kernel_rfl) (by kernel_rfl) (by kernel_rfl) (by kernel_rfl) ?hqra_16 (Or.inl ⟨?hwra_16, ?hyra_16⟩) (by assumption) ?_
                          case hora_16 => rfl
                          case hwra_16 => rfl
                          case hyra_16 => (intro w hSw; (try dsimp only at hSw); go_split_ands; go_simp; (try (with_reducible rfl)))
                          case hqra_16 => exact fun _ _ _ h => h
                          simp only [Act.put, List.getElem_toArray, List.getElem_cons_succ, List.getElem_cons_zero, List.setIfInBounds_toArray, List.set_cons_zero, List.set_cons_succ]
                          refine wpAnyT_one (i := 16) (o := ?oira_17) (by kernel_rfl) ?hora_17 (fun K hK => ?_)
                          case hora_17 => rfl
                          rw [if_pos (by rfl)]
                          go_simp
                          refine hK.out _ _ (fun _ => Rd.set4 (hRd.out.below hq7H.out) hgx hXY _ _ _ _) (fun hHeld => ?_)
                          replace hHeld := hHeld rfl
                          clear hK K
                          refine wpAnyT_take (i := 17) (oi := ?oira_18) (v := ?vra_18) ?hora_18 (by kernel_rfl) (by kernel_rfl) (by kernel_rfl) (by kernel_rfl) ?hqra_18 (Or.inl ⟨?hwra_18, ?hyra_18⟩) (by assumption) ?_
                          case hora_18 => rfl
                          case hwra_18 => rfl
                          case hyra_18 => (intro w hSw; (try dsimp only at hSw); go_split_ands; go_simp; (try (with_reducible rfl)))
                          case hqra_18 => exact fun _ _ _ h => h
                          simp only [Act.put, List.getElem_toArray, List.getElem_cons_succ, List.getElem_cons_zero, List.setIfInBounds_toArray, List.set_cons_zero, List.set_cons_succ]
                          refine wpAnyT_one (i := 18) (o := ?oira_19) (by kernel_rfl) ?hora_19 (fun K hK => ?_)
                          case hora_19 => rfl
                          rw [if_pos (by rfl)]
                          go_simp
                          refine hK.out _ _ (fun _ => Rd.set1 (Rd.set4 (hRd.out.below hq7H.out) hgx hXY _ _ _ _) hgx2 hne2 _) (fun hHeld => ?_)
                          replace hHeld := hHeld rfl
                          clear hK K
                          refine wpAnyT_one (i := 19) (o := ?oira_20) (by kernel_rfl) ?hora_20 (fun K hK => ?_)
                          case hora_20 => rfl
                          rw [if_pos (by rfl)]
                          go_simp
                          refine hK.out _ _ (fun _ => Rd.set1 (Rd.set4 (hRd.out.below hq7H.out) hgx hXY _ _ _ _) hgx2 hne2 _) (fun hHeld => ?_)
                          replace hHeld := hHeld rfl
                          clear hK K
                          refine wpAnyT_done (by kernel_rfl) ?_ _
                          (go_wp2_with (fail); go_roundg g3; (case measure => omega); (case rel => exact ⟨i + 1, true, rfl, by go_num, by omega, by rw [hnew.out]; exact hbig.out, by rw [hnew.out]; exact hS7.out.put (f := f) hAn hm7H.out⟩))
                          -- tree end
                        · have hAnegB : decide (pA < 0) = false := decide_eq_false hAneg
                          have hsame : Hid (passG wo f 0 (l.take (i + 1)) s = t) := by
                            show _ = _
                            rw [hst.out]
                            exact step_same (fun h => hAf (by rw [← hpAH.out]; exact h.1)) (fun h => hAneg (by rw [← hpAH.out]; exact h.2))
                          have hBfH := Lib.hid hBf
                          clear hBf
                          go_wp2_with (fail)
                          go_roundg g3
                          case measure => omega
                          case rel => exact ⟨i + 1, mm, rfl, by go_num, by omega, by rw [hsame.out]; exact hmmH.out, by rw [hsame.out]; exact hS5H.out⟩
                      · have hBfB : (pB == (f : Int)) = false := by simpa using hBf
                        have hsame : Hid (passG wo f 0 (l.take (i + 1)) s = t) := by
                          show _ = _
                          rw [hst.out]
                          exact step_same (fun h => hAf (by rw [← hpAH.out]; exact h.1)) (fun h => hBf (by rw [← hpBH.out]; exact h.1))
                        go_wp2_with (fail)
                        go_roundg g3
                        case measure => omega
                        case rel => exact ⟨i + 1, mm, rfl, by go_num, by omega, by rw [hsame.out]; exact hmmH.out, by rw [hsame.out]; exact hS5H.out⟩
                  · have hsame : Hid (passG wo f 0 (l.take (i + 1)) s = t) := by
                      show _ = _
                      rw [htk.out, hwi]; rfl
                    clear hwi htk
                    go_wp2_with (fail)
                    go_roundg g3
                    case measure => omega
                    case rel => exact ⟨i + 1, mm, rfl, by go_num, by omega, by rw [hsame.out]; exact hmmH.out, by rw [hsame.out]; exact hS5H.out⟩
                  -- endR
                · have hie : m = i := by omega
                  subst hie
                  have hmI : ¬ (m : Int) < (m : Int) := by omega
                  have hfull : l.take m = l := List.take_of_length_le (by rw [hmH.out]; exact Nat.le_refl _)
                  have hSf := hSH.out
                  have hmf := hmmH.out
                  rw [hfull] at hSf hmf
                  have hSfH := Lib.hid hSf
                  have hmfH := Lib.hid hmf
                  have hcases := Lib.hid (passG_cases (f := f) wo l 0 s hlH.out hokH.out.1)
                  have hokn := Lib.hid (hokH.out.pass (f := f) wo l 0 s hlH.out)
                  clear hfull hSf hmf hSH hmmH
                  go_wp2_with (fail)
                  cases mm
                  · have hps : passG wo f 0 l s = s := by
                      rcases hcases.out with h | h
                      · exact h
                      · exact absurd h (of_decide_eq_false hmfH.out.symm)
                    go_roundg 0
                    case measure => omega
                    case rel => exact ⟨passG wo f 0 l s, k, false, rfl, by rw [hps]; exact hitH.out, hkn, hokn.out, hSfH.out, (fun h => by cases h), fun _ => by rw [hps]; exact hps⟩
                  · have hlt := of_decide_eq_true hmfH.out.symm
                    have hle := cntS_le (passG wo f 0 l s)
                    rw [hokn.out.1] at hle
                    go_roundg (n - cntS (passG wo f 0 l s) + 1)
                    case measure => omega
                    case rel => exact ⟨passG wo f 0 l s, k + 1, true, rfl, by show passG wo f 0 l (iterN (passG wo f 0 l) k s1) = _; rw [hitH.out], by omega, hokn.out, hSfH.out, fun _ => ⟨rfl, by omega⟩, fun h => by cases h⟩
        · rw [hu] at hp
          have hp2 : wr.cell? ⟨gp, f, none⟩ = some (.int .i64 (g : Nat)) := hp
          have hg0 : (0 : Int) ≤ (g : Int) := by omega
          have hs1 : Hid (speedsG wo l n (f + 1) = speedsG wo l n f) := by
            show _ = _
            rw [speedsG, hu]
          clear hp hu
          go_wp2_with (fail)
          go_roundg g1
          case measure => omega
          case rel => exact ⟨f + 1, by go_num, by omega, by rw [hs1.out]; exact hSH.out⟩
      · have hfe : n = f := by omega
        subst hfe
        have hfI : ¬ (n : Int) < (n : Int) := by omega
        go_wp2_with (fail)
        go_ret2
        exact ⟨gs, gp, rfl, hSH.out⟩
end Go.Proofs.Ytkecdjdggkpdpab
