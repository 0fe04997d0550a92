/- Ix -/
import Derived.Test.YtbehfhmdilifkaaGreatQIw
set_option linter.unusedVariables false
/- The recursion of the reference's trainer. (Printed by wip/tools/gen_ix.py.) -/
namespace Go.Proofs.YtbehfhmdilifkaaGreat
open Go Go.RowKit Go.Proofs

section
variable {w0 W : World} {n o u : Nat} {aw : Option Addr} {cw bt bu : Nat} {t : Tr} {s : Bt} {v bv : Value} {vs : List Value} {nu de : Int}
theorem TI.ownL {i k j : Nat} {WU WL : World} (hj : t.length = j) (h : TI w0 W n o u aw cw bt bu t s v bv vs nu de) (hbu : w0.heap.size ≤ bu) (hU : WU = (W.setCell ⟨bu, i, none⟩ (.bool true)).setCell ⟨bu, k, none⟩ (.bool true)) (hL : WL = (WU.alloc (Obj.cells #[.int .i64 (i : Nat), .int .i64 (k : Nat)] 3)).alloc (Obj.cells #[.slice (some ⟨WU.heap.size, 0, none⟩) 2 2] 23)) :
    WL.ownsRow w0.heap.size 23 1 v j vs ∧ WU.cell? ⟨bt, 3, none⟩ = some v ∧ w0.heap.size ≤ WL.heap.size ∧ WL.cell? ⟨WU.heap.size + 1, 0, none⟩ = some (.slice (some ⟨WU.heap.size, 0, none⟩) 2 2) ∧ bt < WU.heap.size := by
  subst hj
  obtain ⟨_, a1, a2, a3, a4, a5, a6⟩ := h.useB hbu i true
  have a1' : WU.ownsRow w0.heap.size 23 1 v t.length vs := by rw [hU]; exact own_set a1 a4 (by decide) _
  have a3' : Blk WU bt 87 [.int .i64 (o : Nat), .int .i64 (u : Nat), .slice aw n cw, v, bv, .int .i64 nu, .int .i64 de] := by rw [hU]; exact Blk.far a3 (by exact h.ne) _
  have a6' : Below w0.heap.size w0 WU := by rw [hU]; exact a6.setCell hbu _
  have bL : Below WU.heap.size WU WL := by rw [hL]; exact below_al (below_al (Below.refl _ _) _) _
  refine ⟨a1'.kept ⟨bL.os, bL.tape, bL.output, bL.size, fun k hk _ => bL.block k hk⟩ (row := none) (by cases hv : v.ownBlock with | none => exact .inl rfl | some g => exact .inr (by simp)), by rw [a3'.cell]; rfl, Nat.le_trans a6'.size bL.size, ?_, a3'.lt⟩
  rw [hL, al_newT (by simp)]
  rfl
theorem TI.pushJ {i k j : Nat} {WU WL w9 : World} {v9 : Value} (hj : t.length = j) (h : TI w0 W n o u aw cw bt bu t s v bv vs nu de) (hbt : w0.heap.size ≤ bt) (hbu : w0.heap.size ≤ bu)
    (hU : WU = (W.setCell ⟨bu, i, none⟩ (.bool true)).setCell ⟨bu, k, none⟩ (.bool true)) (hL : WL = (WU.alloc (Obj.cells #[.int .i64 (i : Nat), .int .i64 (k : Nat)] 3)).alloc (Obj.cells #[.slice (some ⟨WU.heap.size, 0, none⟩) 2 2] 23))
    (hO : w9.ownsRow w0.heap.size 23 1 v9 (j + 1) (vs ++ [.slice (some ⟨WU.heap.size, 0, none⟩) 2 2])) (hg : WL.grownBy w9 v.ownBlock) (ho : v9.ownBlock = v.ownBlock ∨ v9.ownBlock = some WL.heap.size) :
    TI w0 (w9.setCell ⟨bt, 3, none⟩ v9) n o u aw cw bt bu (t ++ [(i, k)]) s v9 bv (vs ++ [.slice (some ⟨WU.heap.size, 0, none⟩) 2 2]) nu de ∧ Blk w9 bt 87 [.int .i64 (o : Nat), .int .i64 (u : Nat), .slice aw n cw, v, bv, .int .i64 nu, .int .i64 de] := by
  subst hj
  exact h.push hbt hbu hU hL hO hg ho
theorem TI.popJ {i k g c j : Nat} {vs' : List Value} {WP : World} (hj : t.length = j) (h : TI w0 W n o u aw cw bt bu (t ++ [(i, k)]) s (.slice (some ⟨g, 0, none⟩) (j + 1) c) bv vs' nu de) (hbt : w0.heap.size ≤ bt) (hbu : w0.heap.size ≤ bu) (hi : i ∉ ixT t) (hk : k ∉ ixT t)
    (hP : WP = W.setCell ⟨bt, 3, none⟩ (.slice (some ⟨g, 0, none⟩) j c)) :
    BBlk WP bu (usL n (t ++ [(i, k)])) ∧ ∃ vs2, TI w0 ((WP.setCell ⟨bu, i, none⟩ (.bool false)).setCell ⟨bu, k, none⟩ (.bool false)) n o u aw cw bt bu t s (.slice (some ⟨g, 0, none⟩) j c) bv vs2 nu de := by
  subst hj
  exact h.pop hbt hbu hi hk hP
end
theorem news1 {W : World} {g : Nat} {v : Value} (h : W.cell? ⟨g, 0, none⟩ = some v) : ∀ (j : Nat) (u : Value), [v][j]? = some u → W.cell? ⟨g, j, none⟩ = some u := fun j u hu => by
  rcases j with _ | j
  · simp at hu; subst hu; exact h
  · simp at hu
theorem ixb {t : Tr} {i : Nat} {b : Bool} (h : decide (i ∈ ixT t) = b) : b = true ↔ i ∈ ixT t := by rw [← h]; simp
set_option maxRecDepth 100000 in
set_option maxHeartbeats 51200000 in
theorem tryR_any (w0 : World) (o u n L : Nat) (ws : List Nat) (aw : Option Addr) (cw bt bu : Nat) (hI : IZ w0 aw (nzT ws)) (hws : ws.length = n) (hn : n ≤ 10) (hwr : ∀ x ∈ ws, 1 ≤ x ∧ x ≤ 1000) (ho : o ≤ 1000000) (hu1 : 1 ≤ u) (hu : u ≤ 1000000) (hL1 : 1 ≤ L) (hL3 : L ≤ 3) (hbt : w0.heap.size ≤ bt) (hbu : w0.heap.size ≤ bu) :
    ∀ (l : Nat) (t : Tr) (p q j : Nat) (s : Bt) (v bw : Value) (vs : List Value) (nu de : Int) (W : World), t.length = j → j + l = L → TI w0 W n o u aw cw bt bu t s v bw vs nu de → (∀ x ∈ t, x.1 < n ∧ x.2 < n) → Pw j p → Pw j q → StT L n s →
      Calls Tryz.prog 50 #[.pointer (some ⟨bt, 0, none⟩), .int .i64 (l : Nat), .int .i64 (p : Nat), .int .i64 (q : Nat), .slice (some ⟨bu, 0, none⟩) n n] W (TrainerP w0 n o u aw cw bt bu t (tryT o u n (wf ws) l t p q s)) := by
  have hIH := Lib.hid hI
  have hwsH := Lib.hid hws
  have hwrH := Lib.hid hwr
  have hst := Lib.hid (fun l t p q s => tryT_st (L := L) (n := n) (o := o) (u := u) (w := wf ws) (fun i hi => wf_in hws hwr hi) hL3 l t p q s)
  have hbtH := Lib.hid hbt
  have hbuH := Lib.hid hbu
  clear hI hws hwr
  intro l
  induction l with
  | zero =>
    intro t p q j s v bw vs nu de W hj hl hT ht hp hq hS
    obtain rfl : j = L := by omega
    rw [tryT_zero]
    exact tryR_leaf w0 o u n j aw cw bt bu ho hu1 hu hL1 hL3 hbt t p q s v bw vs nu de W hj hT (hp.le hL3) hq.1 (hq.le hL3) hS
  | succ l ih =>
    intro t p q j s v bw vs nu de W hj hl hT ht hp hq hS
    obtain ⟨m, hm⟩ : ∃ m, l + 1 = m := ⟨_, rfl⟩
    have hm0 : ((m : Int) == 0) = false := by rw [beq_eq_false_iff_ne]; omega
    have hm1 : (m : Int) - 1 = (l : Int) := by omega
    have hml : (l : Int) ≤ 3 := by omega
    have hj3 : j ≤ 3 := by omega
    have hlw : IntKind.i64.wrap (l : Int) = (l : Int) := by rw [IntKind.wrap_i64]; omega
    obtain ⟨R, hRR⟩ : ∃ R, tryT o u n (wf ws) (l + 1) t p q s = R := ⟨_, rfl⟩
    have hR0 : rowF (outF o u n (wf ws) l t p q) (n - 0) 0 s = R := by rw [← hRR, tryT_succ]; rfl
    have hmH := Lib.hid hm
    have hjH := Lib.hid hj
    have hlH := Lib.hid hl
    have hTH := Lib.hid hT
    have htH := Lib.hid ht
    have hpH := Lib.hid hp
    have hqH := Lib.hid hq
    have hSH := Lib.hid hS
    have hR0H := Lib.hid hR0
    have ihH := Lib.hid ih
    rw [hRR, hm]
    clear hj hl hT ht hp hq hS hR0 ih hRR hm
    go_enter Tryz.func50, Tryz.ntmps50
    go_wp2_with (fail)
    go_loopw [10] (fun iv wr => ∃ (i : Nat) (s' : Bt) (v bw : Value) (vs : List Value) (nu de : Int), iv = .int .i64 (i : Nat) ∧ i ≤ n ∧ TI w0 wr n o u aw cw bt bu t s' v bw vs nu de ∧ StT L n s' ∧ rowF (outF o u n (wf ws) l t p q) (n - i) i s' = R) (fun iv _ => n - (intOf iv).toNat)
    case atStart => exact ⟨0, s, v, bw, vs, nu, de, rfl, by omega, hTH.out, hSH.out, hR0H.out⟩
    case round =>
      clear hTH
      obtain ⟨i, s', v1, bw1, vs1, nu1, de1, rfl, hi, hT, hS, hRi⟩ := hrel
      have hT1 := Lib.hid hT
      have hS1 := Lib.hid hS
      have hRiH := Lib.hid hRi
      have x2 : wr.cell? ⟨bt, 2, none⟩ = some (.slice aw n cw) := by rw [hT.tb.cell]; rfl
      have hown := hT.own
      rw [hjH.out] at hown
      obtain ⟨ao, cn, hv1⟩ := own_shape hown
      subst hv1
      have x3 : wr.cell? ⟨bt, 3, none⟩ = some (.slice ao j cn) := by rw [hT.tb.cell]; rfl
      have hownH := Lib.hid hown
      clear hS hRi hown
      by_cases hin : i < n
      · have hiI : (i : Int) < (n : Int) := by omega
        have hi0 : (0 : Int) ≤ (i : Int) := by omega
        obtain ⟨bi, hbi⟩ : ∃ b, decide (i ∈ ixT t) = b := ⟨_, rfl⟩
        have hiu := ixb hbi
        have y0 : wr.cell? ⟨bu, i, none⟩ = some (.bool bi) := by rw [← hbi]; exact hT.ub.at (usL_get hin)
        obtain ⟨R2, hR2⟩ : ∃ R2, outF o u n (wf ws) l t p q i s' = R2 := ⟨_, rfl⟩
        have hR2H : Hid (rowF (outF o u n (wf ws) l t p q) (n - (i + 1)) (i + 1) R2 = R) := by show _ = _; rw [← hR2, ← rowF_next hin]; exact hRiH.out
        have hIn0 : Hid (outF o u n (wf ws) l t p q i s' = R2) := hR2
        obtain ⟨ok1, hok1⟩ : ∃ b, (!bi && lastOk t i) = b := ⟨_, rfl⟩
        have hok1H := Lib.hid hok1
        have hiuH := Lib.hid hiu
        have hB0 : Below wr.heap.size wr wr := Below.refl _ _
        clear hR2 hRiH hT hiu hbi
        go_upto_region 6 with (fail)
        go_cut [80] from 51 to 80 (fun rv wx => rv = .bool (!ok1) ∧ Below wr.heap.size wr wx)
        case first =>
          cases bi with
          | true =>
            obtain rfl : ok1 = false := by rw [← hok1]; rfl
            clear hok1
            have hup : Hid (∀ w', Below wr.heap.size wr w' → w'.cell? ⟨bu, i, none⟩ = some (.bool true)) := fun w' hW => Below.cellAt hW (Nat.le_refl _) y0
            -- tail S: fun w' => w'.cell? ⟨bu, i, none⟩ = some (.bool true)
            -- tail s0: hup.out _ (Below.drew hB0)
            -- tail ta 0 1 2 3 4 s5 s6 s7 s8 s9 s10 s11 s12 s13 s14 s15 s16 s17 s18 s19 s20 s21 s22 s23 s24 s25 s26 s27 s28 29
            refine wp_region_tail (fun w' => w'.cell? ⟨bu, i, none⟩ = some (.bool true)) (fun j => decide (1000 ≤ j)) (by kernel_rfl) (hup.out _ (Below.drew hB0)) (fun hHeld => ?_)
            refine wpAnyT_take (i := 0) (oi := ?oita0) (v := ?vta0) ?hota0 (by kernel_rfl) (by kernel_rfl) (by kernel_rfl) (by kernel_rfl) ?hqta0 (Or.inl ⟨?hwta0, ?hyta0⟩) (by assumption) ?_
            case hota0 => rfl
            case hwta0 => rfl
            case hyta0 => (intro w hSw; (try dsimp only at hSw); go_split_ands; go_simp; (try (with_reducible rfl)))
            case hqta0 => exact fun _ _ _ h => h
            simp only [Act.put, List.getElem_toArray, List.getElem_cons_zero, List.setIfInBounds_toArray, List.set_cons_zero, List.set_cons_succ]
            refine wpAnyT_take (i := 1) (oi := ?oita1) (v := ?vta1) ?hota1 (by kernel_rfl) (by kernel_rfl) (by kernel_rfl) (by kernel_rfl) ?hqta1 (Or.inl ⟨?hwta1, ?hyta1⟩) (by assumption) ?_
            case hota1 => rfl
            case hwta1 => rfl
            case hyta1 => (intro w hSw; (try dsimp only at hSw); go_split_ands; go_simp; (try (with_reducible rfl)))
            case hqta1 => exact fun _ _ _ h => h
            simp only [Act.put, List.getElem_toArray, List.getElem_cons_succ, List.getElem_cons_zero, List.setIfInBounds_toArray, List.set_cons_zero, List.set_cons_succ]
            refine wpAnyT_take (i := 2) (oi := ?oita2) (v := ?vta2) ?hota2 (by kernel_rfl) (by kernel_rfl) (by kernel_rfl) (by kernel_rfl) ?hqta2 (Or.inl ⟨?hwta2, ?hyta2⟩) (by assumption) ?_
            case hota2 => rfl
            case hwta2 => rfl
            case hyta2 => (intro w hSw; (try dsimp only at hSw); go_split_ands; go_simp; (try (with_reducible rfl)))
            case hqta2 => exact fun _ _ _ h => h
            simp only [Act.put, List.getElem_toArray, List.getElem_cons_succ, List.getElem_cons_zero, List.setIfInBounds_toArray, List.set_cons_zero, List.set_cons_succ]
            refine wpAnyT_take (i := 3) (oi := ?oita3) (v := ?vta3) ?hota3 (by kernel_rfl) (by kernel_rfl) (by kernel_rfl) (by kernel_rfl) ?hqta3 (Or.inl ⟨?hwta3, ?hyta3⟩) (by assumption) ?_
            case hota3 => rfl
            case hwta3 => rfl
            case hyta3 => (intro w hSw; (try dsimp only at hSw); go_split_ands; go_simp; (try (with_reducible rfl)))
            case hqta3 => exact fun _ _ _ h => h
            simp only [Act.put, List.getElem_toArray, List.getElem_cons_succ, List.getElem_cons_zero, List.setIfInBounds_toArray, List.set_cons_zero, List.set_cons_succ]
            refine wpAnyT_take (i := 4) (oi := ?oita4) (v := ?vta4) ?hota4 (by kernel_rfl) (by kernel_rfl) (by kernel_rfl) (by kernel_rfl) ?hqta4 (Or.inl ⟨?hwta4, ?hyta4⟩) (by assumption) ?_
            case hota4 => rfl
            case hwta4 => rfl
            case hyta4 => (intro w hSw; (try dsimp only at hSw); go_split_ands; go_simp; (try (with_reducible rfl)))
            case hqta4 => exact fun _ _ _ h => h
            simp only [Act.put, List.getElem_toArray, List.getElem_cons_succ, List.getElem_cons_zero, List.setIfInBounds_toArray, List.set_cons_zero, List.set_cons_succ]
            refine wpAnyT_take (i := 5) (oi := ?oita5) (v := undef) ?hota5 (by kernel_rfl) (by kernel_rfl) (by kernel_rfl) (by kernel_rfl) ?hqta5 (Or.inr ⟨?hwta5, rfl⟩) (by assumption) ?_
            case hota5 => rfl
            case hwta5 => rfl
            case hqta5 => exact fun _ _ _ h => h
            simp only [Act.put, List.getElem_toArray, List.getElem_cons_succ, List.getElem_cons_zero, List.setIfInBounds_toArray, List.set_cons_zero, List.set_cons_succ]
            refine wpAnyT_take (i := 6) (oi := ?oita6) (v := undef) ?hota6 (by kernel_rfl) (by kernel_rfl) (by kernel_rfl) (by kernel_rfl) ?hqta6 (Or.inr ⟨?hwta6, rfl⟩) (by assumption) ?_
            case hota6 => rfl
            case hwta6 => rfl
            case hqta6 => exact fun _ _ _ h => h
            simp only [Act.put, List.getElem_toArray, List.getElem_cons_succ, List.getElem_cons_zero, List.setIfInBounds_toArray, List.set_cons_zero, List.set_cons_succ]
            refine wpAnyT_take (i := 7) (oi := ?oita7) (v := undef) ?hota7 (by kernel_rfl) (by kernel_rfl) (by kernel_rfl) (by kernel_rfl) ?hqta7 (Or.inr ⟨?hwta7, rfl⟩) (by assumption) ?_
            case hota7 => rfl
            case hwta7 => rfl
            case hqta7 => exact fun _ _ _ h => h
            simp only [Act.put, List.getElem_toArray, List.getElem_cons_succ, List.getElem_cons_zero, List.setIfInBounds_toArray, List.set_cons_zero, List.set_cons_succ]
            refine wpAnyT_take (i := 8) (oi := ?oita8) (v := undef) ?hota8 (by kernel_rfl) (by kernel_rfl) (by kernel_rfl) (by kernel_rfl) ?hqta8 (Or.inr ⟨?hwta8, rfl⟩) (by assumption) ?_
            case hota8 => rfl
            case hwta8 => rfl
            case hqta8 => exact fun _ _ _ h => h
            simp only [Act.put, List.getElem_toArray, List.getElem_cons_succ, List.getElem_cons_zero, List.setIfInBounds_toArray, List.set_cons_zero, List.set_cons_succ]
            refine wpAnyT_take (i := 9) (oi := ?oita9) (v := undef) ?hota9 (by kernel_rfl) (by kernel_rfl) (by kernel_rfl) (by kernel_rfl) ?hqta9 (Or.inr ⟨?hwta9, rfl⟩) (by assumption) ?_
            case hota9 => rfl
            case hwta9 => rfl
            case hqta9 => exact fun _ _ _ h => h
            simp only [Act.put, List.getElem_toArray, List.getElem_cons_succ, List.getElem_cons_zero, List.setIfInBounds_toArray, List.set_cons_zero, List.set_cons_succ]
            refine wpAnyT_take (i := 10) (oi := ?oita10) (v := undef) ?hota10 (by kernel_rfl) (by kernel_rfl) (by kernel_rfl) (by kernel_rfl) ?hqta10 (Or.inr ⟨?hwta10, rfl⟩) (by assumption) ?_
            case hota10 => rfl
            case hwta10 => rfl
            case hqta10 => exact fun _ _ _ h => h
            simp only [Act.put, List.getElem_toArray, List.getElem_cons_succ, List.getElem_cons_zero, List.setIfInBounds_toArray, List.set_cons_zero, List.set_cons_succ]
            refine wpAnyT_take (i := 11) (oi := ?oita11) (v := undef) ?hota11 (by kernel_rfl) (by kernel_rfl) (by kernel_rfl) (by kernel_rfl) ?hqta11 (Or.inr ⟨?hwta11, rfl⟩) (by assumption) ?_
            case hota11 => rfl
            case hwta11 => rfl
            case hqta11 => exact fun _ _ _ h => h
            simp only [Act.put, List.getElem_toArray, List.getElem_cons_succ, List.getElem_cons_zero, List.setIfInBounds_toArray, List.set_cons_zero, List.set_cons_succ]
            refine wpAnyT_take (i := 12) (oi := ?oita12) (v := undef) ?hota12 (by kernel_rfl) (by kernel_rfl) (by kernel_rfl) (by kernel_rfl) ?hqta12 (Or.inr ⟨?hwta12, rfl⟩) (by assumption) ?_
            case hota12 => rfl
            case hwta12 => rfl
            case hqta12 => exact fun _ _ _ h => h
            simp only [Act.put, List.getElem_toArray, List.getElem_cons_succ, List.getElem_cons_zero, List.setIfInBounds_toArray, List.set_cons_zero, List.set_cons_succ]
            refine wpAnyT_take (i := 13) (oi := ?oita13) (v := undef) ?hota13 (by kernel_rfl) (by kernel_rfl) (by kernel_rfl) (by kernel_rfl) ?hqta13 (Or.inr ⟨?hwta13, rfl⟩) (by assumption) ?_
            case hota13 => rfl
            case hwta13 => rfl
            case hqta13 => exact fun _ _ _ h => h
            simp only [Act.put, List.getElem_toArray, List.getElem_cons_succ, List.getElem_cons_zero, List.setIfInBounds_toArray, List.set_cons_zero, List.set_cons_succ]
            refine wpAnyT_take (i := 14) (oi := ?oita14) (v := undef) ?hota14 (by kernel_rfl) (by kernel_rfl) (by kernel_rfl) (by kernel_rfl) ?hqta14 (Or.inr ⟨?hwta14, rfl⟩) (by assumption) ?_
            case hota14 => rfl
            case hwta14 => rfl
            case hqta14 => exact fun _ _ _ h => h
            simp only [Act.put, List.getElem_toArray, List.getElem_cons_succ, List.getElem_cons_zero, List.setIfInBounds_toArray, List.set_cons_zero, List.set_cons_succ]
            refine wpAnyT_take (i := 15) (oi := ?oita15) (v := undef) ?hota15 (by kernel_rfl) (by kernel_rfl) (by kernel_rfl) (by kernel_rfl) ?hqta15 (Or.inr ⟨?hwta15, rfl⟩) (by assumption) ?_
            case hota15 => rfl
            case hwta15 => rfl
            case hqta15 => exact fun _ _ _ h => h
            simp only [Act.put, List.getElem_toArray, List.getElem_cons_succ, List.getElem_cons_zero, List.setIfInBounds_toArray, List.set_cons_zero, List.set_cons_succ]
            refine wpAnyT_take (i := 16) (oi := ?oita16) (v := undef) ?hota16 (by kernel_rfl) (by kernel_rfl) (by kernel_rfl) (by kernel_rfl) ?hqta16 (Or.inr ⟨?hwta16, rfl⟩) (by assumption) ?_
            case hota16 => rfl
            case hwta16 => rfl
            case hqta16 => exact fun _ _ _ h => h
            simp only [Act.put, List.getElem_toArray, List.getElem_cons_succ, List.getElem_cons_zero, List.setIfInBounds_toArray, List.set_cons_zero, List.set_cons_succ]
            refine wpAnyT_take (i := 17) (oi := ?oita17) (v := undef) ?hota17 (by kernel_rfl) (by kernel_rfl) (by kernel_rfl) (by kernel_rfl) ?hqta17 (Or.inr ⟨?hwta17, rfl⟩) (by assumption) ?_
            case hota17 => rfl
            case hwta17 => rfl
            case hqta17 => exact fun _ _ _ h => h
            simp only [Act.put, List.getElem_toArray, List.getElem_cons_succ, List.getElem_cons_zero, List.setIfInBounds_toArray, List.set_cons_zero, List.set_cons_succ]
            refine wpAnyT_take (i := 18) (oi := ?oita18) (v := undef) ?hota18 (by kernel_rfl) (by kernel_rfl) (by kernel_rfl) (by kernel_rfl) ?hqta18 (Or.inr ⟨?hwta18, rfl⟩) (by assumption) ?_
            case hota18 => rfl
            case hwta18 => rfl
            case hqta18 => exact fun _ _ _ h => h
            simp only [Act.put, List.getElem_toArray, List.getElem_cons_succ, List.getElem_cons_zero, List.setIfInBounds_toArray, List.set_cons_zero, List.set_cons_succ]
            refine wpAnyT_take (i := 19) (oi := ?oita19) (v := undef) ?hota19 (by kernel_rfl) (by kernel_rfl) (by kernel_rfl) (by kernel_rfl) ?hqta19 (Or.inr ⟨?hwta19, rfl⟩) (by assumption) ?_
            case hota19 => rfl
            case hwta19 => rfl
            case hqta19 => exact fun _ _ _ h => h
            simp only [Act.put, List.getElem_toArray, List.getElem_cons_succ, List.getElem_cons_zero, List.setIfInBounds_toArray, List.set_cons_zero, List.set_cons_succ]
            refine wpAnyT_take (i := 20) (oi := ?oita20) (v := undef) ?hota20 (by kernel_rfl) (by kernel_rfl) (by kernel_rfl) (by kernel_rfl) ?hqta20 (Or.inr ⟨?hwta20, rfl⟩) (by assumption) ?_
            case hota20 => rfl
            case hwta20 => rfl
            case hqta20 => exact fun _ _ _ h => h
            simp only [Act.put, List.getElem_toArray, List.getElem_cons_succ, List.getElem_cons_zero, List.setIfInBounds_toArray, List.set_cons_zero, List.set_cons_succ]
            refine wpAnyT_take (i := 21) (oi := ?oita21) (v := undef) ?hota21 (by kernel_rfl) (by kernel_rfl) (by kernel_rfl) (by kernel_rfl) ?hqta21 (Or.inr ⟨?hwta21, rfl⟩) (by assumption) ?_
            case hota21 => rfl
            case hwta21 => rfl
            case hqta21 => exact fun _ _ _ h => h
            simp only [Act.put, List.getElem_toArray, List.getElem_cons_succ, List.getElem_cons_zero, List.setIfInBounds_toArray, List.set_cons_zero, List.set_cons_succ]
            refine wpAnyT_take (i := 22) (oi := ?oita22) (v := undef) ?hota22 (by kernel_rfl) (by kernel_rfl) (by kernel_rfl) (by kernel_rfl) ?hqta22 (Or.inr ⟨?hwta22, rfl⟩) (by assumption) ?_
            case hota22 => rfl
            case hwta22 => rfl
            case hqta22 => exact fun _ _ _ h => h
            simp only [Act.put, List.getElem_toArray, List.getElem_cons_succ, List.getElem_cons_zero, List.setIfInBounds_toArray, List.set_cons_zero, List.set_cons_succ]
            refine wpAnyT_take (i := 23) (oi := ?oita23) (v := undef) ?hota23 (by kernel_rfl) (by kernel_rfl) (by kernel_rfl) (by kernel_rfl) ?hqta23 (Or.inr ⟨?hwta23, rfl⟩) (by assumption) ?_
            case hota23 => rfl
            case hwta23 => rfl
            case hqta23 => exact fun _ _ _ h => h
            simp only [Act.put, List.getElem_toArray, List.getElem_cons_succ, List.getElem_cons_zero, List.setIfInBounds_toArray, List.set_cons_zero, List.set_cons_succ]
            refine wpAnyT_take (i := 24) (oi := ?oita24) (v := undef) ?hota24 (by kernel_rfl) (by kernel_rfl) (by kernel_rfl) (by kernel_rfl) ?hqta24 (Or.inr ⟨?hwta24, rfl⟩) (by assumption) ?_
            case hota24 => rfl
            case hwta24 => rfl
            case hqta24 => exact fun _ _ _ h => h
            simp only [Act.put, List.getElem_toArray, List.getElem_cons_succ, List.getElem_cons_zero, List.setIfInBounds_toArray, List.set_cons_zero, List.set_cons_succ]
            refine wpAnyT_take (i := 25) (oi := ?oita25) (v := undef) ?hota25 (by kernel_rfl) (by kernel_rfl) (by kernel_rfl) (by kernel_rfl) ?hqta25 (Or.inr ⟨?hwta25, rfl⟩) (by assumption) ?_
            case hota25 => rfl
            case hwta25 => rfl
            case hqta25 => exact fun _ _ _ h => h
            simp only [Act.put, List.getElem_toArray, List.getElem_cons_succ, List.getElem_cons_zero, List.setIfInBounds_toArray, List.set_cons_zero, List.set_cons_succ]
            refine wpAnyT_take (i := 26) (oi := ?oita26) (v := undef) ?hota26 (by kernel_rfl) (by kernel_rfl) (by kernel_rfl) (by kernel_rfl) ?hqta26 (Or.inr ⟨?hwta26, rfl⟩) (by assumption) ?_
            case hota26 => rfl
            case hwta26 => rfl
            case hqta26 => exact fun _ _ _ h => h
            simp only [Act.put, List.getElem_toArray, List.getElem_cons_succ, List.getElem_cons_zero, List.setIfInBounds_toArray, List.set_cons_zero, List.set_cons_succ]
            refine wpAnyT_take (i := 27) (oi := ?oita27) (v := undef) ?hota27 (by kernel_rfl) (by kernel_rfl) (by kernel_rfl) (by kernel_rfl) ?hqta27 (Or.inr ⟨?hwta27, rfl⟩) (by assumption) ?_
            case hota27 => rfl
            case hwta27 => rfl
            case hqta27 => exact fun _ _ _ h => h
            simp only [Act.put, List.getElem_toArray, List.getElem_cons_succ, List.getElem_cons_zero, List.setIfInBounds_toArray, List.set_cons_zero, List.set_cons_succ]
            refine wpAnyT_take (i := 28) (oi := ?oita28) (v := undef) ?hota28 (by kernel_rfl) (by kernel_rfl) (by kernel_rfl) (by kernel_rfl) ?hqta28 (Or.inr ⟨?hwta28, rfl⟩) (by assumption) ?_
            case hota28 => rfl
            case hwta28 => rfl
            case hqta28 => exact fun _ _ _ h => h
            simp only [Act.put, List.getElem_toArray, List.getElem_cons_succ, List.getElem_cons_zero, List.setIfInBounds_toArray, List.set_cons_zero, List.set_cons_succ]
            refine wpAnyT_take (i := 29) (oi := ?oita29) (v := ?vta29) ?hota29 (by kernel_rfl) (by kernel_rfl) (by kernel_rfl) (by kernel_rfl) ?hqta29 (Or.inl ⟨?hwta29, ?hyta29⟩) (by assumption) ?_
            case hota29 => rfl
            case hwta29 => rfl
            case hyta29 => (intro w hSw; (try dsimp only at hSw); go_split_ands; go_simp; (try (with_reducible rfl)))
            case hqta29 => exact fun _ _ _ h => h
            simp only [Act.put, List.getElem_toArray, List.getElem_cons_succ, List.getElem_cons_zero, List.setIfInBounds_toArray, List.set_cons_zero, List.set_cons_succ]
            refine wpAnyT_done (by kernel_rfl) ?_ _
            -- tail end
            go_wp2_with (fail)
            go_meet
            exact ⟨rfl, Below.drew hB0⟩
          | false =>
            rcases Nat.eq_zero_or_pos j with hj0 | hj0
            · have hte : t = [] := List.length_eq_zero_iff.1 (by rw [hjH.out]; exact hj0)
              obtain rfl : ok1 = true := by rw [← hok1, hte]; rfl
              have hjB : decide ((0 : Int) < (j : Int)) = false := decide_eq_false (by omega)
              have hjB2 : decide (0 < j) = false := decide_eq_false (by omega)
              have hup : Hid (∀ w', Below wr.heap.size wr w' → w'.cell? ⟨bu, i, none⟩ = some (.bool false) ∧ w'.cell? ⟨bt, 3, none⟩ = some (.slice ao j cn)) := fun w' hW => ⟨Below.cellAt hW (Nat.le_refl _) y0, Below.cellAt hW (Nat.le_refl _) x3⟩
              clear hok1 hte hj0
              -- tail S: fun w' => w'.cell? ⟨bu, i, none⟩ = some (.bool false) ∧ w'.cell? ⟨bt, 3, none⟩ = some (.slice ao j cn)
              -- tail s0: hup.out _ (Below.drew hB0)
              -- tail tb 0 1 2 3 4 5 6 7 8 9 10 11 s12 s13 s14 s15 s16 s17 s18 s19 s20 s21 s22 s23 s24 s25 s26 s27 28 29
              refine wp_region_tail (fun w' => w'.cell? ⟨bu, i, none⟩ = some (.bool false) ∧ w'.cell? ⟨bt, 3, none⟩ = some (.slice ao j cn)) (fun j => decide (1000 ≤ j)) (by kernel_rfl) (hup.out _ (Below.drew hB0)) (fun hHeld => ?_)
              refine wpAnyT_take (i := 0) (oi := ?oitb0) (v := ?vtb0) ?hotb0 (by kernel_rfl) (by kernel_rfl) (by kernel_rfl) (by kernel_rfl) ?hqtb0 (Or.inl ⟨?hwtb0, ?hytb0⟩) (by assumption) ?_
              case hotb0 => rfl
              case hwtb0 => rfl
              case hytb0 => (intro w hSw; (try dsimp only at hSw); go_split_ands; go_simp; (try (with_reducible rfl)))
              case hqtb0 => exact fun _ _ _ h => h
              simp only [Act.put, List.getElem_toArray, List.getElem_cons_zero, List.setIfInBounds_toArray, List.set_cons_zero, List.set_cons_succ]
              refine wpAnyT_take (i := 1) (oi := ?oitb1) (v := ?vtb1) ?hotb1 (by kernel_rfl) (by kernel_rfl) (by kernel_rfl) (by kernel_rfl) ?hqtb1 (Or.inl ⟨?hwtb1, ?hytb1⟩) (by assumption) ?_
              case hotb1 => rfl
              case hwtb1 => rfl
              case hytb1 => (intro w hSw; (try dsimp only at hSw); go_split_ands; go_simp; (try (with_reducible rfl)))
              case hqtb1 => exact fun _ _ _ h => h
              simp only [Act.put, List.getElem_toArray, List.getElem_cons_succ, List.getElem_cons_zero, List.setIfInBounds_toArray, List.set_cons_zero, List.set_cons_succ]
              refine wpAnyT_take (i := 2) (oi := ?oitb2) (v := ?vtb2) ?hotb2 (by kernel_rfl) (by kernel_rfl) (by kernel_rfl) (by kernel_rfl) ?hqtb2 (Or.inl ⟨?hwtb2, ?hytb2⟩) (by assumption) ?_
              case hotb2 => rfl
              case hwtb2 => rfl
              case hytb2 => (intro w hSw; (try dsimp only at hSw); go_split_ands; go_simp; (try (with_reducible rfl)))
              case hqtb2 => exact fun _ _ _ h => h
              simp only [Act.put, List.getElem_toArray, List.getElem_cons_succ, List.getElem_cons_zero, List.setIfInBounds_toArray, List.set_cons_zero, List.set_cons_succ]
              refine wpAnyT_take (i := 3) (oi := ?oitb3) (v := ?vtb3) ?hotb3 (by kernel_rfl) (by kernel_rfl) (by kernel_rfl) (by kernel_rfl) ?hqtb3 (Or.inl ⟨?hwtb3, ?hytb3⟩) (by assumption) ?_
              case hotb3 => rfl
              case hwtb3 => rfl
              case hytb3 => (intro w hSw; (try dsimp only at hSw); go_split_ands; go_simp; (try (with_reducible rfl)))
              case hqtb3 => exact fun _ _ _ h => h
              simp only [Act.put, List.getElem_toArray, List.getElem_cons_succ, List.getElem_cons_zero, List.setIfInBounds_toArray, List.set_cons_zero, List.set_cons_succ]
              refine wpAnyT_take (i := 4) (oi := ?oitb4) (v := ?vtb4) ?hotb4 (by kernel_rfl) (by kernel_rfl) (by kernel_rfl) (by kernel_rfl) ?hqtb4 (Or.inl ⟨?hwtb4, ?hytb4⟩) (by assumption) ?_
              case hotb4 => rfl
              case hwtb4 => rfl
              case hytb4 => (intro w hSw; (try dsimp only at hSw); go_split_ands; go_simp; (try (with_reducible rfl)))
              case hqtb4 => exact fun _ _ _ h => h
              simp only [Act.put, List.getElem_toArray, List.getElem_cons_succ, List.getElem_cons_zero, List.setIfInBounds_toArray, List.set_cons_zero, List.set_cons_succ]
              refine wpAnyT_take (i := 5) (oi := ?oitb5) (v := ?vtb5) ?hotb5 (by kernel_rfl) (by kernel_rfl) (by kernel_rfl) (by kernel_rfl) ?hqtb5 (Or.inl ⟨?hwtb5, ?hytb5⟩) (by assumption) ?_
              case hotb5 => rfl
              case hwtb5 => rfl
              case hytb5 => (intro w hSw; (try dsimp only at hSw); go_split_ands; go_simp; (try (with_reducible rfl)))
              case hqtb5 => exact fun _ _ _ h => h
              simp only [Act.put, List.getElem_toArray, List.getElem_cons_succ, List.getElem_cons_zero, List.setIfInBounds_toArray, List.set_cons_zero, List.set_cons_succ]
              refine wpAnyT_take (i := 6) (oi := ?oitb6) (v := ?vtb6) ?hotb6 (by kernel_rfl) (by kernel_rfl) (by kernel_rfl) (by kernel_rfl) ?hqtb6 (Or.inl ⟨?hwtb6, ?hytb6⟩) (by assumption) ?_
              case hotb6 => rfl
              case hwtb6 => rfl
              case hytb6 => (intro w hSw; (try dsimp only at hSw); go_split_ands; go_simp; (try (with_reducible rfl)))
              case hqtb6 => exact fun _ _ _ h => h
              simp only [Act.put, List.getElem_toArray, List.getElem_cons_succ, List.getElem_cons_zero, List.setIfInBounds_toArray, List.set_cons_zero, List.set_cons_succ]
              refine wpAnyT_take (i := 7) (oi := ?oitb7) (v := ?vtb7) ?hotb7 (by kernel_rfl) (by kernel_rfl) (by kernel_rfl) (by kernel_rfl) ?hqtb7 (Or.inl ⟨?hwtb7, ?hytb7⟩) (by assumption) ?_
              case hotb7 => rfl
              case hwtb7 => rfl
              case hytb7 => (intro w hSw; (try dsimp only at hSw); go_split_ands; go_simp; (try (with_reducible rfl)))
              case hqtb7 => exact fun _ _ _ h => h
              simp only [Act.put, List.getElem_toArray, List.getElem_cons_succ, List.getElem_cons_zero, List.setIfInBounds_toArray, List.set_cons_zero, List.set_cons_succ]
              refine wpAnyT_take (i := 8) (oi := ?oitb8) (v := ?vtb8) ?hotb8 (by kernel_rfl) (by kernel_rfl) (by kernel_rfl) (by kernel_rfl) ?hqtb8 (Or.inl ⟨?hwtb8, ?hytb8⟩) (by assumption) ?_
              case hotb8 => rfl
              case hwtb8 => rfl
              case hytb8 => (intro w hSw; (try dsimp only at hSw); go_split_ands; go_simp; (try (with_reducible rfl)))
              case hqtb8 => exact fun _ _ _ h => h
              simp only [Act.put, List.getElem_toArray, List.getElem_cons_succ, List.getElem_cons_zero, List.setIfInBounds_toArray, List.set_cons_zero, List.set_cons_succ]
              refine wpAnyT_take (i := 9) (oi := ?oitb9) (v := ?vtb9) ?hotb9 (by kernel_rfl) (by kernel_rfl) (by kernel_rfl) (by kernel_rfl) ?hqtb9 (Or.inl ⟨?hwtb9, ?hytb9⟩) (by assumption) ?_
              case hotb9 => rfl
              case hwtb9 => rfl
              case hytb9 => (intro w hSw; (try dsimp only at hSw); go_split_ands; go_simp; (try (with_reducible rfl)))
              case hqtb9 => exact fun _ _ _ h => h
              simp only [Act.put, List.getElem_toArray, List.getElem_cons_succ, List.getElem_cons_zero, List.setIfInBounds_toArray, List.set_cons_zero, List.set_cons_succ]
              refine wpAnyT_take (i := 10) (oi := ?oitb10) (v := ?vtb10) ?hotb10 (by kernel_rfl) (by kernel_rfl) (by kernel_rfl) (by kernel_rfl) ?hqtb10 (Or.inl ⟨?hwtb10, ?hytb10⟩) (by assumption) ?_
              case hotb10 => rfl
              case hwtb10 => rfl
              case hytb10 => (intro w hSw; (try dsimp only at hSw); go_split_ands; go_simp; (try (with_reducible rfl)))
              case hqtb10 => exact fun _ _ _ h => h
              simp only [Act.put, List.getElem_toArray, List.getElem_cons_succ, List.getElem_cons_zero, List.setIfInBounds_toArray, List.set_cons_zero, List.set_cons_succ]
              refine wpAnyT_take (i := 11) (oi := ?oitb11) (v := ?vtb11) ?hotb11 (by kernel_rfl) (by kernel_rfl) (by kernel_rfl) (by kernel_rfl) ?hqtb11 (Or.inl ⟨?hwtb11, ?hytb11⟩) (by assumption) ?_
              case hotb11 => rfl
              case hwtb11 => rfl
              case hytb11 => (intro w hSw; (try dsimp only at hSw); go_split_ands; go_simp; (try (with_reducible rfl)))
              case hqtb11 => exact fun _ _ _ h => h
              simp only [Act.put, List.getElem_toArray, List.getElem_cons_succ, List.getElem_cons_zero, List.setIfInBounds_toArray, List.set_cons_zero, List.set_cons_succ]
              refine wpAnyT_take (i := 12) (oi := ?oitb12) (v := undef) ?hotb12 (by kernel_rfl) (by kernel_rfl) (by kernel_rfl) (by kernel_rfl) ?hqtb12 (Or.inr ⟨?hwtb12, rfl⟩) (by assumption) ?_
              case hotb12 => rfl
              case hwtb12 => rfl
              case hqtb12 => exact fun _ _ _ h => h
              simp only [Act.put, List.getElem_toArray, List.getElem_cons_succ, List.getElem_cons_zero, List.setIfInBounds_toArray, List.set_cons_zero, List.set_cons_succ]
              refine wpAnyT_take (i := 13) (oi := ?oitb13) (v := undef) ?hotb13 (by kernel_rfl) (by kernel_rfl) (by kernel_rfl) (by kernel_rfl) ?hqtb13 (Or.inr ⟨?hwtb13, rfl⟩) (by assumption) ?_
              case hotb13 => rfl
              case hwtb13 => rfl
              case hqtb13 => exact fun _ _ _ h => h
              simp only [Act.put, List.getElem_toArray, List.getElem_cons_succ, List.getElem_cons_zero, List.setIfInBounds_toArray, List.set_cons_zero, List.set_cons_succ]
              refine wpAnyT_take (i := 14) (oi := ?oitb14) (v := undef) ?hotb14 (by kernel_rfl) (by kernel_rfl) (by kernel_rfl) (by kernel_rfl) ?hqtb14 (Or.inr ⟨?hwtb14, rfl⟩) (by assumption) ?_
              case hotb14 => rfl
              case hwtb14 => rfl
              case hqtb14 => exact fun _ _ _ h => h
              simp only [Act.put, List.getElem_toArray, List.getElem_cons_succ, List.getElem_cons_zero, List.setIfInBounds_toArray, List.set_cons_zero, List.set_cons_succ]
              refine wpAnyT_take (i := 15) (oi := ?oitb15) (v := undef) ?hotb15 (by kernel_rfl) (by kernel_rfl) (by kernel_rfl) (by kernel_rfl) ?hqtb15 (Or.inr ⟨?hwtb15, rfl⟩) (by assumption) ?_
              case hotb15 => rfl
              case hwtb15 => rfl
              case hqtb15 => exact fun _ _ _ h => h
              simp only [Act.put, List.getElem_toArray, List.getElem_cons_succ, List.getElem_cons_zero, List.setIfInBounds_toArray, List.set_cons_zero, List.set_cons_succ]
              refine wpAnyT_take (i := 16) (oi := ?oitb16) (v := undef) ?hotb16 (by kernel_rfl) (by kernel_rfl) (by kernel_rfl) (by kernel_rfl) ?hqtb16 (Or.inr ⟨?hwtb16, rfl⟩) (by assumption) ?_
              case hotb16 => rfl
              case hwtb16 => rfl
              case hqtb16 => exact fun _ _ _ h => h
              simp only [Act.put, List.getElem_toArray, List.getElem_cons_succ, List.getElem_cons_zero, List.setIfInBounds_toArray, List.set_cons_zero, List.set_cons_succ]
              refine wpAnyT_take (i := 17) (oi := ?oitb17) (v := undef) ?hotb17 (by kernel_rfl) (by kernel_rfl) (by kernel_rfl) (by kernel_rfl) ?hqtb17 (Or.inr ⟨?hwtb17, rfl⟩) (by assumption) ?_
              case hotb17 => rfl
              case hwtb17 => rfl
              case hqtb17 => exact fun _ _ _ h => h
              simp only [Act.put, List.getElem_toArray, List.getElem_cons_succ, List.getElem_cons_zero, List.setIfInBounds_toArray, List.set_cons_zero, List.set_cons_succ]
              refine wpAnyT_take (i := 18) (oi := ?oitb18) (v := undef) ?hotb18 (by kernel_rfl) (by kernel_rfl) (by kernel_rfl) (by kernel_rfl) ?hqtb18 (Or.inr ⟨?hwtb18, rfl⟩) (by assumption) ?_
              case hotb18 => rfl
              case hwtb18 => rfl
              case hqtb18 => exact fun _ _ _ h => h
              simp only [Act.put, List.getElem_toArray, List.getElem_cons_succ, List.getElem_cons_zero, List.setIfInBounds_toArray, List.set_cons_zero, List.set_cons_succ]
              refine wpAnyT_take (i := 19) (oi := ?oitb19) (v := undef) ?hotb19 (by kernel_rfl) (by kernel_rfl) (by kernel_rfl) (by kernel_rfl) ?hqtb19 (Or.inr ⟨?hwtb19, rfl⟩) (by assumption) ?_
              case hotb19 => rfl
              case hwtb19 => rfl
              case hqtb19 => exact fun _ _ _ h => h
              simp only [Act.put, List.getElem_toArray, List.getElem_cons_succ, List.getElem_cons_zero, List.setIfInBounds_toArray, List.set_cons_zero, List.set_cons_succ]
              refine wpAnyT_take (i := 20) (oi := ?oitb20) (v := undef) ?hotb20 (by kernel_rfl) (by kernel_rfl) (by kernel_rfl) (by kernel_rfl) ?hqtb20 (Or.inr ⟨?hwtb20, rfl⟩) (by assumption) ?_
              case hotb20 => rfl
              case hwtb20 => rfl
              case hqtb20 => exact fun _ _ _ h => h
              simp only [Act.put, List.getElem_toArray, List.getElem_cons_succ, List.getElem_cons_zero, List.setIfInBounds_toArray, List.set_cons_zero, List.set_cons_succ]
              refine wpAnyT_take (i := 21) (oi := ?oitb21) (v := undef) ?hotb21 (by kernel_rfl) (by kernel_rfl) (by kernel_rfl) (by kernel_rfl) ?hqtb21 (Or.inr ⟨?hwtb21, rfl⟩) (by assumption) ?_
              case hotb21 => rfl
              case hwtb21 => rfl
              case hqtb21 => exact fun _ _ _ h => h
              simp only [Act.put, List.getElem_toArray, List.getElem_cons_succ, List.getElem_cons_zero, List.setIfInBounds_toArray, List.set_cons_zero, List.set_cons_succ]
              refine wpAnyT_take (i := 22) (oi := ?oitb22) (v := undef) ?hotb22 (by kernel_rfl) (by kernel_rfl) (by kernel_rfl) (by kernel_rfl) ?hqtb22 (Or.inr ⟨?hwtb22, rfl⟩) (by assumption) ?_
              case hotb22 => rfl
              case hwtb22 => rfl
              case hqtb22 => exact fun _ _ _ h => h
              simp only [Act.put, List.getElem_toArray, List.getElem_cons_succ, List.getElem_cons_zero, List.setIfInBounds_toArray, List.set_cons_zero, List.set_cons_succ]
              refine wpAnyT_take (i := 23) (oi := ?oitb23) (v := undef) ?hotb23 (by kernel_rfl) (by kernel_rfl) (by kernel_rfl) (by kernel_rfl) ?hqtb23 (Or.inr ⟨?hwtb23, rfl⟩) (by assumption) ?_
              case hotb23 => rfl
              case hwtb23 => rfl
              case hqtb23 => exact fun _ _ _ h => h
              simp only [Act.put, List.getElem_toArray, List.getElem_cons_succ, List.getElem_cons_zero, List.setIfInBounds_toArray, List.set_cons_zero, List.set_cons_succ]
              refine wpAnyT_take (i := 24) (oi := ?oitb24) (v := undef) ?hotb24 (by kernel_rfl) (by kernel_rfl) (by kernel_rfl) (by kernel_rfl) ?hqtb24 (Or.inr ⟨?hwtb24, rfl⟩) (by assumption) ?_
              case hotb24 => rfl
              case hwtb24 => rfl
              case hqtb24 => exact fun _ _ _ h => h
              simp only [Act.put, List.getElem_toArray, List.getElem_cons_succ, List.getElem_cons_zero, List.setIfInBounds_toArray, List.set_cons_zero, List.set_cons_succ]
              refine wpAnyT_take (i := 25) (oi := ?oitb25) (v := undef) ?hotb25 (by kernel_rfl) (by kernel_rfl) (by kernel_rfl) (by kernel_rfl) ?hqtb25 (Or.inr ⟨?hwtb25, rfl⟩) (by assumption) ?_
              case hotb25 => rfl
              case hwtb25 => rfl
              case hqtb25 => exact fun _ _ _ h => h
              simp only [Act.put, List.getElem_toArray, List.getElem_cons_succ, List.getElem_cons_zero, List.setIfInBounds_toArray, List.set_cons_zero, List.set_cons_succ]
              refine wpAnyT_take (i := 26) (oi := ?oitb26) (v := undef) ?hotb26 (by kernel_rfl) (by kernel_rfl) (by kernel_rfl) (by kernel_rfl) ?hqtb26 (Or.inr ⟨?hwtb26, rfl⟩) (by assumption) ?_
              case hotb26 => rfl
              case hwtb26 => rfl
              case hqtb26 => exact fun _ _ _ h => h
              simp only [Act.put, List.getElem_toArray, List.getElem_cons_succ, List.getElem_cons_zero, List.setIfInBounds_toArray, List.set_cons_zero, List.set_cons_succ]
              refine wpAnyT_take (i := 27) (oi := ?oitb27) (v := undef) ?hotb27 (by kernel_rfl) (by kernel_rfl) (by kernel_rfl) (by kernel_rfl) ?hqtb27 (Or.inr ⟨?hwtb27, rfl⟩) (by assumption) ?_
              case hotb27 => rfl
              case hwtb27 => rfl
              case hqtb27 => exact fun _ _ _ h => h
              simp only [Act.put, List.getElem_toArray, List.getElem_cons_succ, List.getElem_cons_zero, List.setIfInBounds_toArray, List.set_cons_zero, List.set_cons_succ]
              refine wpAnyT_take (i := 28) (oi := ?oitb28) (v := ?vtb28) ?hotb28 (by kernel_rfl) (by kernel_rfl) (by kernel_rfl) (by kernel_rfl) ?hqtb28 (Or.inl ⟨?hwtb28, ?hytb28⟩) (by assumption) ?_
              case hotb28 => rfl
              case hwtb28 => rfl
              case hytb28 => (intro w hSw; (try dsimp only at hSw); go_split_ands; go_simp; (try (with_reducible rfl)))
              case hqtb28 => exact fun _ _ _ h => h
              simp only [Act.put, List.getElem_toArray, List.getElem_cons_succ, List.getElem_cons_zero, List.setIfInBounds_toArray, List.set_cons_zero, List.set_cons_succ]
              refine wpAnyT_take (i := 29) (oi := ?oitb29) (v := ?vtb29) ?hotb29 (by kernel_rfl) (by kernel_rfl) (by kernel_rfl) (by kernel_rfl) ?hqtb29 (Or.inl ⟨?hwtb29, ?hytb29⟩) (by assumption) ?_
              case hotb29 => rfl
              case hwtb29 => rfl
              case hytb29 => (intro w hSw; (try dsimp only at hSw); go_split_ands; go_simp; (try (with_reducible rfl)))
              case hqtb29 => exact fun _ _ _ h => h
              simp only [Act.put, List.getElem_toArray, List.getElem_cons_succ, List.getElem_cons_zero, List.setIfInBounds_toArray, List.set_cons_zero, List.set_cons_succ]
              refine wpAnyT_done (by kernel_rfl) ?_ _
              -- tail end
              go_wp2_with (fail)
              go_meet
              exact ⟨rfl, Below.drew hB0⟩
            · obtain ⟨j1, hj1⟩ : ∃ j1, j = j1 + 1 := ⟨j - 1, by omega⟩
              have hlt1 : j1 < t.length := by rw [hjH.out]; omega
              obtain ⟨⟨x, y⟩, hxy⟩ : ∃ z, t[j1]? = some z := ⟨_, List.getElem?_eq_getElem hlt1⟩
              have hlast := lastOk_some (by rw [hjH.out, hj1]) hxy i
              obtain ⟨gn, cn2, hv2, _, _, _⟩ := own_head hownH.out hj0
              injection hv2 with e1 e2 e3
              subst e1
              clear e2 e3
              obtain ⟨vj, hvj⟩ : ∃ vj, vs1[j1]? = some vj := ⟨_, List.getElem?_eq_getElem (by rw [hT1.out.rv.1]; exact hlt1)⟩
              obtain ⟨rb, hrb, hBr⟩ := hT1.out.rv.2 j1 vj _ hvj hxy
              subst hrb
              have y1 := own_cells hownH.out j1 _ hvj
              have y2 : wr.cell? ⟨rb, 0, none⟩ = some (.int .i64 (x : Nat)) := by rw [hBr.cell]; rfl
              have hj1I : (j : Int) - 1 = (j1 : Int) := by omega
              have hj1w : IntKind.i64.wrap (j1 : Int) = (j1 : Int) := by rw [IntKind.wrap_i64]; have := hlH.out; omega
              have hj1l : (j1 : Int) < (j : Int) := by omega
              have hj10 : (0 : Int) ≤ (j1 : Int) := by omega
              have hjB : decide ((0 : Int) < (j : Int)) = true := decide_eq_true (by omega)
              have hjB2 : decide (0 < j) = true := decide_eq_true hj0
              have hup : Hid (∀ w', Below wr.heap.size wr w' → w'.cell? ⟨bu, i, none⟩ = some (.bool false) ∧ w'.cell? ⟨bt, 3, none⟩ = some (.slice (some ⟨gn, 0, none⟩) j cn) ∧ w'.cell? ⟨gn, j1, none⟩ = some (.slice (some ⟨rb, 0, none⟩) 2 2) ∧ w'.cell? ⟨rb, 0, none⟩ = some (.int .i64 (x : Nat))) := fun w' hW => ⟨Below.cellAt hW (Nat.le_refl _) y0, Below.cellAt hW (Nat.le_refl _) x3, Below.cellAt hW (Nat.le_refl _) y1, Below.cellAt hW (Nat.le_refl _) y2⟩
              by_cases hxl : i < x
              · obtain rfl : ok1 = false := by rw [← hok1, hlast, decide_eq_false (show ¬ x ≤ i by omega)]; rfl
                have hxB : decide ((i : Int) < (x : Int)) = true := decide_eq_true (by omega)
                have hxB2 : decide (i < x) = true := decide_eq_true hxl
                clear hok1 hlast hxl hxy hlt1 hj1 hvj hBr hj0
                -- tail S: fun w' => w'.cell? ⟨bu, i, none⟩ = some (.bool false) ∧ w'.cell? ⟨bt, 3, none⟩ = some (.slice (some ⟨gn, 0, none⟩) j cn) ∧ w'.cell? ⟨gn, j1, none⟩ = some (.slice (some ⟨rb, 0, none⟩) 2 2) ∧ w'.cell? ⟨rb, 0, none⟩ = some (.int .i64 (x : Nat))
                -- tail s0: hup.out _ (Below.drew hB0)
                -- tail tc 0 1 2 3 4 5 6 7 8 9 10 11 12 13 14 15 16 17 18 19 20 21 22 23 24 25 26 27 28 29
                refine wp_region_tail (fun w' => w'.cell? ⟨bu, i, none⟩ = some (.bool false) ∧ w'.cell? ⟨bt, 3, none⟩ = some (.slice (some ⟨gn, 0, none⟩) j cn) ∧ w'.cell? ⟨gn, j1, none⟩ = some (.slice (some ⟨rb, 0, none⟩) 2 2) ∧ w'.cell? ⟨rb, 0, none⟩ = some (.int .i64 (x : Nat))) (fun j => decide (1000 ≤ j)) (by kernel_rfl) (hup.out _ (Below.drew hB0)) (fun hHeld => ?_)
                refine wpAnyT_take (i := 0) (oi := ?oitc0) (v := ?vtc0) ?hotc0 (by kernel_rfl) (by kernel_rfl) (by kernel_rfl) (by kernel_rfl) ?hqtc0 (Or.inl ⟨?hwtc0, ?hytc0⟩) (by assumption) ?_
                case hotc0 => rfl
                case hwtc0 => rfl
                case hytc0 => (intro w hSw; (try dsimp only at hSw); go_split_ands; go_simp; (try (with_reducible rfl)))
                case hqtc0 => exact fun _ _ _ h => h
                simp only [Act.put, List.getElem_toArray, List.getElem_cons_zero, List.setIfInBounds_toArray, List.set_cons_zero, List.set_cons_succ]
                refine wpAnyT_take (i := 1) (oi := ?oitc1) (v := ?vtc1) ?hotc1 (by kernel_rfl) (by kernel_rfl) (by kernel_rfl) (by kernel_rfl) ?hqtc1 (Or.inl ⟨?hwtc1, ?hytc1⟩) (by assumption) ?_
                case hotc1 => rfl
                case hwtc1 => rfl
                case hytc1 => (intro w hSw; (try dsimp only at hSw); go_split_ands; go_simp; (try (with_reducible rfl)))
                case hqtc1 => exact fun _ _ _ h => h
                simp only [Act.put, List.getElem_toArray, List.getElem_cons_succ, List.getElem_cons_zero, List.setIfInBounds_toArray, List.set_cons_zero, List.set_cons_succ]
                refine wpAnyT_take (i := 2) (oi := ?oitc2) (v := ?vtc2) ?hotc2 (by kernel_rfl) (by kernel_rfl) (by kernel_rfl) (by kernel_rfl) ?hqtc2 (Or.inl ⟨?hwtc2, ?hytc2⟩) (by assumption) ?_
                case hotc2 => rfl
                case hwtc2 => rfl
                case hytc2 => (intro w hSw; (try dsimp only at hSw); go_split_ands; go_simp; (try (with_reducible rfl)))
                case hqtc2 => exact fun _ _ _ h => h
                simp only [Act.put, List.getElem_toArray, List.getElem_cons_succ, List.getElem_cons_zero, List.setIfInBounds_toArray, List.set_cons_zero, List.set_cons_succ]
                refine wpAnyT_take (i := 3) (oi := ?oitc3) (v := ?vtc3) ?hotc3 (by kernel_rfl) (by kernel_rfl) (by kernel_rfl) (by kernel_rfl) ?hqtc3 (Or.inl ⟨?hwtc3, ?hytc3⟩) (by assumption) ?_
                case hotc3 => rfl
                case hwtc3 => rfl
                case hytc3 => (intro w hSw; (try dsimp only at hSw); go_split_ands; go_simp; (try (with_reducible rfl)))
                case hqtc3 => exact fun _ _ _ h => h
                simp only [Act.put, List.getElem_toArray, List.getElem_cons_succ, List.getElem_cons_zero, List.setIfInBounds_toArray, List.set_cons_zero, List.set_cons_succ]
                refine wpAnyT_take (i := 4) (oi := ?oitc4) (v := ?vtc4) ?hotc4 (by kernel_rfl) (by kernel_rfl) (by kernel_rfl) (by kernel_rfl) ?hqtc4 (Or.inl ⟨?hwtc4, ?hytc4⟩) (by assumption) ?_
                case hotc4 => rfl
                case hwtc4 => rfl
                case hytc4 => (intro w hSw; (try dsimp only at hSw); go_split_ands; go_simp; (try (with_reducible rfl)))
                case hqtc4 => exact fun _ _ _ h => h
                simp only [Act.put, List.getElem_toArray, List.getElem_cons_succ, List.getElem_cons_zero, List.setIfInBounds_toArray, List.set_cons_zero, List.set_cons_succ]
                refine wpAnyT_take (i := 5) (oi := ?oitc5) (v := ?vtc5) ?hotc5 (by kernel_rfl) (by kernel_rfl) (by kernel_rfl) (by kernel_rfl) ?hqtc5 (Or.inl ⟨?hwtc5, ?hytc5⟩) (by assumption) ?_
                case hotc5 => rfl
                case hwtc5 => rfl
                case hytc5 => (intro w hSw; (try dsimp only at hSw); go_split_ands; go_simp; (try (with_reducible rfl)))
                case hqtc5 => exact fun _ _ _ h => h
                simp only [Act.put, List.getElem_toArray, List.getElem_cons_succ, List.getElem_cons_zero, List.setIfInBounds_toArray, List.set_cons_zero, List.set_cons_succ]
                refine wpAnyT_take (i := 6) (oi := ?oitc6) (v := ?vtc6) ?hotc6 (by kernel_rfl) (by kernel_rfl) (by kernel_rfl) (by kernel_rfl) ?hqtc6 (Or.inl ⟨?hwtc6, ?hytc6⟩) (by assumption) ?_
                case hotc6 => rfl
                case hwtc6 => rfl
                case hytc6 => (intro w hSw; (try dsimp only at hSw); go_split_ands; go_simp; (try (with_reducible rfl)))
                case hqtc6 => exact fun _ _ _ h => h
                simp only [Act.put, List.getElem_toArray, List.getElem_cons_succ, List.getElem_cons_zero, List.setIfInBounds_toArray, List.set_cons_zero, List.set_cons_succ]
                refine wpAnyT_take (i := 7) (oi := ?oitc7) (v := ?vtc7) ?hotc7 (by kernel_rfl) (by kernel_rfl) (by kernel_rfl) (by kernel_rfl) ?hqtc7 (Or.inl ⟨?hwtc7, ?hytc7⟩) (by assumption) ?_
                case hotc7 => rfl
                case hwtc7 => rfl
                case hytc7 => (intro w hSw; (try dsimp only at hSw); go_split_ands; go_simp; (try (with_reducible rfl)))
                case hqtc7 => exact fun _ _ _ h => h
                simp only [Act.put, List.getElem_toArray, List.getElem_cons_succ, List.getElem_cons_zero, List.setIfInBounds_toArray, List.set_cons_zero, List.set_cons_succ]
                refine wpAnyT_take (i := 8) (oi := ?oitc8) (v := ?vtc8) ?hotc8 (by kernel_rfl) (by kernel_rfl) (by kernel_rfl) (by kernel_rfl) ?hqtc8 (Or.inl ⟨?hwtc8, ?hytc8⟩) (by assumption) ?_
                case hotc8 => rfl
                case hwtc8 => rfl
                case hytc8 => (intro w hSw; (try dsimp only at hSw); go_split_ands; go_simp; (try (with_reducible rfl)))
                case hqtc8 => exact fun _ _ _ h => h
                simp only [Act.put, List.getElem_toArray, List.getElem_cons_succ, List.getElem_cons_zero, List.setIfInBounds_toArray, List.set_cons_zero, List.set_cons_succ]
                refine wpAnyT_take (i := 9) (oi := ?oitc9) (v := ?vtc9) ?hotc9 (by kernel_rfl) (by kernel_rfl) (by kernel_rfl) (by kernel_rfl) ?hqtc9 (Or.inl ⟨?hwtc9, ?hytc9⟩) (by assumption) ?_
                case hotc9 => rfl
                case hwtc9 => rfl
                case hytc9 => (intro w hSw; (try dsimp only at hSw); go_split_ands; go_simp; (try (with_reducible rfl)))
                case hqtc9 => exact fun _ _ _ h => h
                simp only [Act.put, List.getElem_toArray, List.getElem_cons_succ, List.getElem_cons_zero, List.setIfInBounds_toArray, List.set_cons_zero, List.set_cons_succ]
                refine wpAnyT_take (i := 10) (oi := ?oitc10) (v := ?vtc10) ?hotc10 (by kernel_rfl) (by kernel_rfl) (by kernel_rfl) (by kernel_rfl) ?hqtc10 (Or.inl ⟨?hwtc10, ?hytc10⟩) (by assumption) ?_
                case hotc10 => rfl
                case hwtc10 => rfl
                case hytc10 => (intro w hSw; (try dsimp only at hSw); go_split_ands; go_simp; (try (with_reducible rfl)))
                case hqtc10 => exact fun _ _ _ h => h
                simp only [Act.put, List.getElem_toArray, List.getElem_cons_succ, List.getElem_cons_zero, List.setIfInBounds_toArray, List.set_cons_zero, List.set_cons_succ]
                refine wpAnyT_take (i := 11) (oi := ?oitc11) (v := ?vtc11) ?hotc11 (by kernel_rfl) (by kernel_rfl) (by kernel_rfl) (by kernel_rfl) ?hqtc11 (Or.inl ⟨?hwtc11, ?hytc11⟩) (by assumption) ?_
                case hotc11 => rfl
                case hwtc11 => rfl
                case hytc11 => (intro w hSw; (try dsimp only at hSw); go_split_ands; go_simp; (try (with_reducible rfl)))
                case hqtc11 => exact fun _ _ _ h => h
                simp only [Act.put, List.getElem_toArray, List.getElem_cons_succ, List.getElem_cons_zero, List.setIfInBounds_toArray, List.set_cons_zero, List.set_cons_succ]
                refine wpAnyT_take (i := 12) (oi := ?oitc12) (v := ?vtc12) ?hotc12 (by kernel_rfl) (by kernel_rfl) (by kernel_rfl) (by kernel_rfl) ?hqtc12 (Or.inl ⟨?hwtc12, ?hytc12⟩) (by assumption) ?_
                case hotc12 => rfl
                case hwtc12 => rfl
                case hytc12 => (intro w hSw; (try dsimp only at hSw); go_split_ands; go_simp; (try (with_reducible rfl)))
                case hqtc12 => exact fun _ _ _ h => h
                simp only [Act.put, List.getElem_toArray, List.getElem_cons_succ, List.getElem_cons_zero, List.setIfInBounds_toArray, List.set_cons_zero, List.set_cons_succ]
                refine wpAnyT_take (i := 13) (oi := ?oitc13) (v := ?vtc13) ?hotc13 (by kernel_rfl) (by kernel_rfl) (by kernel_rfl) (by kernel_rfl) ?hqtc13 (Or.inl ⟨?hwtc13, ?hytc13⟩) (by assumption) ?_
                case hotc13 => rfl
                case hwtc13 => rfl
                case hytc13 => (intro w hSw; (try dsimp only at hSw); go_split_ands; go_simp; (try (with_reducible rfl)))
                case hqtc13 => exact fun _ _ _ h => h
                simp only [Act.put, List.getElem_toArray, List.getElem_cons_succ, List.getElem_cons_zero, List.setIfInBounds_toArray, List.set_cons_zero, List.set_cons_succ]
                refine wpAnyT_take (i := 14) (oi := ?oitc14) (v := ?vtc14) ?hotc14 (by kernel_rfl) (by kernel_rfl) (by kernel_rfl) (by kernel_rfl) ?hqtc14 (Or.inl ⟨?hwtc14, ?hytc14⟩) (by assumption) ?_
                case hotc14 => rfl
                case hwtc14 => rfl
                case hytc14 => (intro w hSw; (try dsimp only at hSw); go_split_ands; go_simp; (try (with_reducible rfl)))
                case hqtc14 => exact fun _ _ _ h => h
                simp only [Act.put, List.getElem_toArray, List.getElem_cons_succ, List.getElem_cons_zero, List.setIfInBounds_toArray, List.set_cons_zero, List.set_cons_succ]
                refine wpAnyT_take (i := 15) (oi := ?oitc15) (v := ?vtc15) ?hotc15 (by kernel_rfl) (by kernel_rfl) (by kernel_rfl) (by kernel_rfl) ?hqtc15 (Or.inl ⟨?hwtc15, ?hytc15⟩) (by assumption) ?_
                case hotc15 => rfl
                case hwtc15 => rfl
                case hytc15 => (intro w hSw; (try dsimp only at hSw); go_split_ands; go_simp; (try (with_reducible rfl)))
                case hqtc15 => exact fun _ _ _ h => h
                simp only [Act.put, List.getElem_toArray, List.getElem_cons_succ, List.getElem_cons_zero, List.setIfInBounds_toArray, List.set_cons_zero, List.set_cons_succ]
                refine wpAnyT_take (i := 16) (oi := ?oitc16) (v := ?vtc16) ?hotc16 (by kernel_rfl) (by kernel_rfl) (by kernel_rfl) (by kernel_rfl) ?hqtc16 (Or.inl ⟨?hwtc16, ?hytc16⟩) (by assumption) ?_
                case hotc16 => rfl
                case hwtc16 => rfl
                case hytc16 => (intro w hSw; (try dsimp only at hSw); go_split_ands; go_simp; (try (with_reducible rfl)))
                case hqtc16 => exact fun _ _ _ h => h
                simp only [Act.put, List.getElem_toArray, List.getElem_cons_succ, List.getElem_cons_zero, List.setIfInBounds_toArray, List.set_cons_zero, List.set_cons_succ]
                refine wpAnyT_take (i := 17) (oi := ?oitc17) (v := ?vtc17) ?hotc17 (by kernel_rfl) (by kernel_rfl) (by kernel_rfl) (by kernel_rfl) ?hqtc17 (Or.inl ⟨?hwtc17, ?hytc17⟩) (by assumption) ?_
                case hotc17 => rfl
                case hwtc17 => rfl
                case hytc17 => (intro w hSw; (try dsimp only at hSw); go_split_ands; go_simp; (try (with_reducible rfl)))
                case hqtc17 => exact fun _ _ _ h => h
                simp only [Act.put, List.getElem_toArray, List.getElem_cons_succ, List.getElem_cons_zero, List.setIfInBounds_toArray, List.set_cons_zero, List.set_cons_succ]
                refine wpAnyT_take (i := 18) (oi := ?oitc18) (v := ?vtc18) ?hotc18 (by kernel_rfl) (by kernel_rfl) (by kernel_rfl) (by kernel_rfl) ?hqtc18 (Or.inl ⟨?hwtc18, ?hytc18⟩) (by assumption) ?_
                case hotc18 => rfl
                case hwtc18 => rfl
                case hytc18 => (intro w hSw; (try dsimp only at hSw); go_split_ands; go_simp; (try (with_reducible rfl)))
                case hqtc18 => exact fun _ _ _ h => h
                simp only [Act.put, List.getElem_toArray, List.getElem_cons_succ, List.getElem_cons_zero, List.setIfInBounds_toArray, List.set_cons_zero, List.set_cons_succ]
                refine wpAnyT_take (i := 19) (oi := ?oitc19) (v := ?vtc19) ?hotc19 (by kernel_rfl) (by kernel_rfl) (by kernel_rfl) (by kernel_rfl) ?hqtc19 (Or.inl ⟨?hwtc19, ?hytc19⟩) (by assumption) ?_
                case hotc19 => rfl
                case hwtc19 => rfl
                case hytc19 => (intro w hSw; (try dsimp only at hSw); go_split_ands; go_simp; (try (with_reducible rfl)))
                case hqtc19 => exact fun _ _ _ h => h
                simp only [Act.put, List.getElem_toArray, List.getElem_cons_succ, List.getElem_cons_zero, List.setIfInBounds_toArray, List.set_cons_zero, List.set_cons_succ]
                refine wpAnyT_take (i := 20) (oi := ?oitc20) (v := ?vtc20) ?hotc20 (by kernel_rfl) (by kernel_rfl) (by kernel_rfl) (by kernel_rfl) ?hqtc20 (Or.inl ⟨?hwtc20, ?hytc20⟩) (by assumption) ?_
                case hotc20 => rfl
                case hwtc20 => rfl
                case hytc20 => (intro w hSw; (try dsimp only at hSw); go_split_ands; go_simp; (try (with_reducible rfl)))
                case hqtc20 => exact fun _ _ _ h => h
                simp only [Act.put, List.getElem_toArray, List.getElem_cons_succ, List.getElem_cons_zero, List.setIfInBounds_toArray, List.set_cons_zero, List.set_cons_succ]
                refine wpAnyT_take (i := 21) (oi := ?oitc21) (v := ?vtc21) ?hotc21 (by kernel_rfl) (by kernel_rfl) (by kernel_rfl) (by kernel_rfl) ?hqtc21 (Or.inl ⟨?hwtc21, ?hytc21⟩) (by assumption) ?_
                case hotc21 => rfl
                case hwtc21 => rfl
                case hytc21 => (intro w hSw; (try dsimp only at hSw); go_split_ands; go_simp; (try (with_reducible rfl)))
                case hqtc21 => exact fun _ _ _ h => h
                simp only [Act.put, List.getElem_toArray, List.getElem_cons_succ, List.getElem_cons_zero, List.setIfInBounds_toArray, List.set_cons_zero, List.set_cons_succ]
                refine wpAnyT_take (i := 22) (oi := ?oitc22) (v := ?vtc22) ?hotc22 (by kernel_rfl) (by kernel_rfl) (by kernel_rfl) (by kernel_rfl) ?hqtc22 (Or.inl ⟨?hwtc22, ?hytc22⟩) (by assumption) ?_
                case hotc22 => rfl
                case hwtc22 => rfl
                case hytc22 => (intro w hSw; (try dsimp only at hSw); go_split_ands; go_simp; (try (with_reducible rfl)))
                case hqtc22 => exact fun _ _ _ h => h
                simp only [Act.put, List.getElem_toArray, List.getElem_cons_succ, List.getElem_cons_zero, List.setIfInBounds_toArray, List.set_cons_zero, List.set_cons_succ]
                refine wpAnyT_take (i := 23) (oi := ?oitc23) (v := ?vtc23) ?hotc23 (by kernel_rfl) (by kernel_rfl) (by kernel_rfl) (by kernel_rfl) ?hqtc23 (Or.inl ⟨?hwtc23, ?hytc23⟩) (by assumption) ?_
                case hotc23 => rfl
                case hwtc23 => rfl
                case hytc23 => (intro w hSw; (try dsimp only at hSw); go_split_ands; go_simp; (try (with_reducible rfl)))
                case hqtc23 => exact fun _ _ _ h => h
                simp only [Act.put, List.getElem_toArray, List.getElem_cons_succ, List.getElem_cons_zero, List.setIfInBounds_toArray, List.set_cons_zero, List.set_cons_succ]
                refine wpAnyT_take (i := 24) (oi := ?oitc24) (v := ?vtc24) ?hotc24 (by kernel_rfl) (by kernel_rfl) (by kernel_rfl) (by kernel_rfl) ?hqtc24 (Or.inl ⟨?hwtc24, ?hytc24⟩) (by assumption) ?_
                case hotc24 => rfl
                case hwtc24 => rfl
                case hytc24 => (intro w hSw; (try dsimp only at hSw); go_split_ands; go_simp; (try (with_reducible rfl)))
                case hqtc24 => exact fun _ _ _ h => h
                simp only [Act.put, List.getElem_toArray, List.getElem_cons_succ, List.getElem_cons_zero, List.setIfInBounds_toArray, List.set_cons_zero, List.set_cons_succ]
                refine wpAnyT_take (i := 25) (oi := ?oitc25) (v := ?vtc25) ?hotc25 (by kernel_rfl) (by kernel_rfl) (by kernel_rfl) (by kernel_rfl) ?hqtc25 (Or.inl ⟨?hwtc25, ?hytc25⟩) (by assumption) ?_
                case hotc25 => rfl
                case hwtc25 => rfl
                case hytc25 => (intro w hSw; (try dsimp only at hSw); go_split_ands; go_simp; (try (with_reducible rfl)))
                case hqtc25 => exact fun _ _ _ h => h
                simp only [Act.put, List.getElem_toArray, List.getElem_cons_succ, List.getElem_cons_zero, List.setIfInBounds_toArray, List.set_cons_zero, List.set_cons_succ]
                refine wpAnyT_take (i := 26) (oi := ?oitc26) (v := ?vtc26) ?hotc26 (by kernel_rfl) (by kernel_rfl) (by kernel_rfl) (by kernel_rfl) ?hqtc26 (Or.inl ⟨?hwtc26, ?hytc26⟩) (by assumption) ?_
                case hotc26 => rfl
                case hwtc26 => rfl
                case hytc26 => (intro w hSw; (try dsimp only at hSw); go_split_ands; go_simp; (try (with_reducible rfl)))
                case hqtc26 => exact fun _ _ _ h => h
                simp only [Act.put, List.getElem_toArray, List.getElem_cons_succ, List.getElem_cons_zero, List.setIfInBounds_toArray, List.set_cons_zero, List.set_cons_succ]
                refine wpAnyT_take (i := 27) (oi := ?oitc27) (v := ?vtc27) ?hotc27 (by kernel_rfl) (by kernel_rfl) (by kernel_rfl) (by kernel_rfl) ?hqtc27 (Or.inl ⟨?hwtc27, ?hytc27⟩) (by assumption) ?_
                case hotc27 => rfl
                case hwtc27 => rfl
                case hytc27 => (intro w hSw; (try dsimp only at hSw); go_split_ands; go_simp; (try (with_reducible rfl)))
                case hqtc27 => exact fun _ _ _ h => h
                simp only [Act.put, List.getElem_toArray, List.getElem_cons_succ, List.getElem_cons_zero, List.setIfInBounds_toArray, List.set_cons_zero, List.set_cons_succ]
                refine wpAnyT_take (i := 28) (oi := ?oitc28) (v := ?vtc28) ?hotc28 (by kernel_rfl) (by kernel_rfl) (by kernel_rfl) (by kernel_rfl) ?hqtc28 (Or.inl ⟨?hwtc28, ?hytc28⟩) (by assumption) ?_
                case hotc28 => rfl
                case hwtc28 => rfl
                case hytc28 => (intro w hSw; (try dsimp only at hSw); go_split_ands; go_simp; (try (with_reducible rfl)))
                case hqtc28 => exact fun _ _ _ h => h
                simp only [Act.put, List.getElem_toArray, List.getElem_cons_succ, List.getElem_cons_zero, List.setIfInBounds_toArray, List.set_cons_zero, List.set_cons_succ]
                refine wpAnyT_take (i := 29) (oi := ?oitc29) (v := ?vtc29) ?hotc29 (by kernel_rfl) (by kernel_rfl) (by kernel_rfl) (by kernel_rfl) ?hqtc29 (Or.inl ⟨?hwtc29, ?hytc29⟩) (by assumption) ?_
                case hotc29 => rfl
                case hwtc29 => rfl
                case hytc29 => (intro w hSw; (try dsimp only at hSw); go_split_ands; go_simp; (try (with_reducible rfl)))
                case hqtc29 => exact fun _ _ _ h => h
                simp only [Act.put, List.getElem_toArray, List.getElem_cons_succ, List.getElem_cons_zero, List.setIfInBounds_toArray, List.set_cons_zero, List.set_cons_succ]
                refine wpAnyT_done (by kernel_rfl) ?_ _
                -- tail end
                go_wp2_with (fail)
                go_meet
                exact ⟨rfl, Below.drew hB0⟩
              · obtain rfl : ok1 = true := by rw [← hok1, hlast, decide_eq_true (show x ≤ i by omega)]; rfl
                have hxB : decide ((i : Int) < (x : Int)) = false := decide_eq_false (by omega)
                have hxB2 : decide (i < x) = false := decide_eq_false hxl
                clear hok1 hlast hxl hxy hlt1 hj1 hvj hBr hj0
                -- tail td 0 1 2 3 4 5 6 7 8 9 10 11 12 13 14 15 16 17 18 19 20 21 22 23 24 25 26 27 28 29
                refine wp_region_tail (fun w' => w'.cell? ⟨bu, i, none⟩ = some (.bool false) ∧ w'.cell? ⟨bt, 3, none⟩ = some (.slice (some ⟨gn, 0, none⟩) j cn) ∧ w'.cell? ⟨gn, j1, none⟩ = some (.slice (some ⟨rb, 0, none⟩) 2 2) ∧ w'.cell? ⟨rb, 0, none⟩ = some (.int .i64 (x : Nat))) (fun j => decide (1000 ≤ j)) (by kernel_rfl) (hup.out _ (Below.drew hB0)) (fun hHeld => ?_)
                refine wpAnyT_take (i := 0) (oi := ?oitd0) (v := ?vtd0) ?hotd0 (by kernel_rfl) (by kernel_rfl) (by kernel_rfl) (by kernel_rfl) ?hqtd0 (Or.inl ⟨?hwtd0, ?hytd0⟩) (by assumption) ?_
                case hotd0 => rfl
                case hwtd0 => rfl
                case hytd0 => (intro w hSw; (try dsimp only at hSw); go_split_ands; go_simp; (try (with_reducible rfl)))
                case hqtd0 => exact fun _ _ _ h => h
                simp only [Act.put, List.getElem_toArray, List.getElem_cons_zero, List.setIfInBounds_toArray, List.set_cons_zero, List.set_cons_succ]
                refine wpAnyT_take (i := 1) (oi := ?oitd1) (v := ?vtd1) ?hotd1 (by kernel_rfl) (by kernel_rfl) (by kernel_rfl) (by kernel_rfl) ?hqtd1 (Or.inl ⟨?hwtd1, ?hytd1⟩) (by assumption) ?_
                case hotd1 => rfl
                case hwtd1 => rfl
                case hytd1 => (intro w hSw; (try dsimp only at hSw); go_split_ands; go_simp; (try (with_reducible rfl)))
                case hqtd1 => exact fun _ _ _ h => h
                simp only [Act.put, List.getElem_toArray, List.getElem_cons_succ, List.getElem_cons_zero, List.setIfInBounds_toArray, List.set_cons_zero, List.set_cons_succ]
                refine wpAnyT_take (i := 2) (oi := ?oitd2) (v := ?vtd2) ?hotd2 (by kernel_rfl) (by kernel_rfl) (by kernel_rfl) (by kernel_rfl) ?hqtd2 (Or.inl ⟨?hwtd2, ?hytd2⟩) (by assumption) ?_
                case hotd2 => rfl
                case hwtd2 => rfl
                case hytd2 => (intro w hSw; (try dsimp only at hSw); go_split_ands; go_simp; (try (with_reducible rfl)))
                case hqtd2 => exact fun _ _ _ h => h
                simp only [Act.put, List.getElem_toArray, List.getElem_cons_succ, List.getElem_cons_zero, List.setIfInBounds_toArray, List.set_cons_zero, List.set_cons_succ]
                refine wpAnyT_take (i := 3) (oi := ?oitd3) (v := ?vtd3) ?hotd3 (by kernel_rfl) (by kernel_rfl) (by kernel_rfl) (by kernel_rfl) ?hqtd3 (Or.inl ⟨?hwtd3, ?hytd3⟩) (by assumption) ?_
                case hotd3 => rfl
                case hwtd3 => rfl
                case hytd3 => (intro w hSw; (try dsimp only at hSw); go_split_ands; go_simp; (try (with_reducible rfl)))
                case hqtd3 => exact fun _ _ _ h => h
                simp only [Act.put, List.getElem_toArray, List.getElem_cons_succ, List.getElem_cons_zero, List.setIfInBounds_toArray, List.set_cons_zero, List.set_cons_succ]
                refine wpAnyT_take (i := 4) (oi := ?oitd4) (v := ?vtd4) ?hotd4 (by kernel_rfl) (by kernel_rfl) (by kernel_rfl) (by kernel_rfl) ?hqtd4 (Or.inl ⟨?hwtd4, ?hytd4⟩) (by assumption) ?_
                case hotd4 => rfl
                case hwtd4 => rfl
                case hytd4 => (intro w hSw; (try dsimp only at hSw); go_split_ands; go_simp; (try (with_reducible rfl)))
                case hqtd4 => exact fun _ _ _ h => h
                simp only [Act.put, List.getElem_toArray, List.getElem_cons_succ, List.getElem_cons_zero, List.setIfInBounds_toArray, List.set_cons_zero, List.set_cons_succ]
                refine wpAnyT_take (i := 5) (oi := ?oitd5) (v := ?vtd5) ?hotd5 (by kernel_rfl) (by kernel_rfl) (by kernel_rfl) (by kernel_rfl) ?hqtd5 (Or.inl ⟨?hwtd5, ?hytd5⟩) (by assumption) ?_
                case hotd5 => rfl
                case hwtd5 => rfl
                case hytd5 => (intro w hSw; (try dsimp only at hSw); go_split_ands; go_simp; (try (with_reducible rfl)))
                case hqtd5 => exact fun _ _ _ h => h
                simp only [Act.put, List.getElem_toArray, List.getElem_cons_succ, List.getElem_cons_zero, List.setIfInBounds_toArray, List.set_cons_zero, List.set_cons_succ]
                refine wpAnyT_take (i := 6) (oi := ?oitd6) (v := ?vtd6) ?hotd6 (by kernel_rfl) (by kernel_rfl) (by kernel_rfl) (by kernel_rfl) ?hqtd6 (Or.inl ⟨?hwtd6, ?hytd6⟩) (by assumption) ?_
                case hotd6 => rfl
                case hwtd6 => rfl
                case hytd6 => (intro w hSw; (try dsimp only at hSw); go_split_ands; go_simp; (try (with_reducible rfl)))
                case hqtd6 => exact fun _ _ _ h => h
                simp only [Act.put, List.getElem_toArray, List.getElem_cons_succ, List.getElem_cons_zero, List.setIfInBounds_toArray, List.set_cons_zero, List.set_cons_succ]
                refine wpAnyT_take (i := 7) (oi := ?oitd7) (v := ?vtd7) ?hotd7 (by kernel_rfl) (by kernel_rfl) (by kernel_rfl) (by kernel_rfl) ?hqtd7 (Or.inl ⟨?hwtd7, ?hytd7⟩) (by assumption) ?_
                case hotd7 => rfl
                case hwtd7 => rfl
                case hytd7 => (intro w hSw; (try dsimp only at hSw); go_split_ands; go_simp; (try (with_reducible rfl)))
                case hqtd7 => exact fun _ _ _ h => h
                simp only [Act.put, List.getElem_toArray, List.getElem_cons_succ, List.getElem_cons_zero, List.setIfInBounds_toArray, List.set_cons_zero, List.set_cons_succ]
                refine wpAnyT_take (i := 8) (oi := ?oitd8) (v := ?vtd8) ?hotd8 (by kernel_rfl) (by kernel_rfl) (by kernel_rfl) (by kernel_rfl) ?hqtd8 (Or.inl ⟨?hwtd8, ?hytd8⟩) (by assumption) ?_
                case hotd8 => rfl
                case hwtd8 => rfl
                case hytd8 => (intro w hSw; (try dsimp only at hSw); go_split_ands; go_simp; (try (with_reducible rfl)))
                case hqtd8 => exact fun _ _ _ h => h
                simp only [Act.put, List.getElem_toArray, List.getElem_cons_succ, List.getElem_cons_zero, List.setIfInBounds_toArray, List.set_cons_zero, List.set_cons_succ]
                refine wpAnyT_take (i := 9) (oi := ?oitd9) (v := ?vtd9) ?hotd9 (by kernel_rfl) (by kernel_rfl) (by kernel_rfl) (by kernel_rfl) ?hqtd9 (Or.inl ⟨?hwtd9, ?hytd9⟩) (by assumption) ?_
                case hotd9 => rfl
                case hwtd9 => rfl
                case hytd9 => (intro w hSw; (try dsimp only at hSw); go_split_ands; go_simp; (try (with_reducible rfl)))
                case hqtd9 => exact fun _ _ _ h => h
                simp only [Act.put, List.getElem_toArray, List.getElem_cons_succ, List.getElem_cons_zero, List.setIfInBounds_toArray, List.set_cons_zero, List.set_cons_succ]
                refine wpAnyT_take (i := 10) (oi := ?oitd10) (v := ?vtd10) ?hotd10 (by kernel_rfl) (by kernel_rfl) (by kernel_rfl) (by kernel_rfl) ?hqtd10 (Or.inl ⟨?hwtd10, ?hytd10⟩) (by assumption) ?_
                case hotd10 => rfl
                case hwtd10 => rfl
                case hytd10 => (intro w hSw; (try dsimp only at hSw); go_split_ands; go_simp; (try (with_reducible rfl)))
                case hqtd10 => exact fun _ _ _ h => h
                simp only [Act.put, List.getElem_toArray, List.getElem_cons_succ, List.getElem_cons_zero, List.setIfInBounds_toArray, List.set_cons_zero, List.set_cons_succ]
                refine wpAnyT_take (i := 11) (oi := ?oitd11) (v := ?vtd11) ?hotd11 (by kernel_rfl) (by kernel_rfl) (by kernel_rfl) (by kernel_rfl) ?hqtd11 (Or.inl ⟨?hwtd11, ?hytd11⟩) (by assumption) ?_
                case hotd11 => rfl
                case hwtd11 => rfl
                case hytd11 => (intro w hSw; (try dsimp only at hSw); go_split_ands; go_simp; (try (with_reducible rfl)))
                case hqtd11 => exact fun _ _ _ h => h
                simp only [Act.put, List.getElem_toArray, List.getElem_cons_succ, List.getElem_cons_zero, List.setIfInBounds_toArray, List.set_cons_zero, List.set_cons_succ]
                refine wpAnyT_take (i := 12) (oi := ?oitd12) (v := ?vtd12) ?hotd12 (by kernel_rfl) (by kernel_rfl) (by kernel_rfl) (by kernel_rfl) ?hqtd12 (Or.inl ⟨?hwtd12, ?hytd12⟩) (by assumption) ?_
                case hotd12 => rfl
                case hwtd12 => rfl
                case hytd12 => (intro w hSw; (try dsimp only at hSw); go_split_ands; go_simp; (try (with_reducible rfl)))
                case hqtd12 => exact fun _ _ _ h => h
                simp only [Act.put, List.getElem_toArray, List.getElem_cons_succ, List.getElem_cons_zero, List.setIfInBounds_toArray, List.set_cons_zero, List.set_cons_succ]
                refine wpAnyT_take (i := 13) (oi := ?oitd13) (v := ?vtd13) ?hotd13 (by kernel_rfl) (by kernel_rfl) (by kernel_rfl) (by kernel_rfl) ?hqtd13 (Or.inl ⟨?hwtd13, ?hytd13⟩) (by assumption) ?_
                case hotd13 => rfl
                case hwtd13 => rfl
                case hytd13 => (intro w hSw; (try dsimp only at hSw); go_split_ands; go_simp; (try (with_reducible rfl)))
                case hqtd13 => exact fun _ _ _ h => h
                simp only [Act.put, List.getElem_toArray, List.getElem_cons_succ, List.getElem_cons_zero, List.setIfInBounds_toArray, List.set_cons_zero, List.set_cons_succ]
                refine wpAnyT_take (i := 14) (oi := ?oitd14) (v := ?vtd14) ?hotd14 (by kernel_rfl) (by kernel_rfl) (by kernel_rfl) (by kernel_rfl) ?hqtd14 (Or.inl ⟨?hwtd14, ?hytd14⟩) (by assumption) ?_
                case hotd14 => rfl
                case hwtd14 => rfl
                case hytd14 => (intro w hSw; (try dsimp only at hSw); go_split_ands; go_simp; (try (with_reducible rfl)))
                case hqtd14 => exact fun _ _ _ h => h
                simp only [Act.put, List.getElem_toArray, List.getElem_cons_succ, List.getElem_cons_zero, List.setIfInBounds_toArray, List.set_cons_zero, List.set_cons_succ]
                refine wpAnyT_take (i := 15) (oi := ?oitd15) (v := ?vtd15) ?hotd15 (by kernel_rfl) (by kernel_rfl) (by kernel_rfl) (by kernel_rfl) ?hqtd15 (Or.inl ⟨?hwtd15, ?hytd15⟩) (by assumption) ?_
                case hotd15 => rfl
                case hwtd15 => rfl
                case hytd15 => (intro w hSw; (try dsimp only at hSw); go_split_ands; go_simp; (try (with_reducible rfl)))
                case hqtd15 => exact fun _ _ _ h => h
                simp only [Act.put, List.getElem_toArray, List.getElem_cons_succ, List.getElem_cons_zero, List.setIfInBounds_toArray, List.set_cons_zero, List.set_cons_succ]
                refine wpAnyT_take (i := 16) (oi := ?oitd16) (v := ?vtd16) ?hotd16 (by kernel_rfl) (by kernel_rfl) (by kernel_rfl) (by kernel_rfl) ?hqtd16 (Or.inl ⟨?hwtd16, ?hytd16⟩) (by assumption) ?_
                case hotd16 => rfl
                case hwtd16 => rfl
                case hytd16 => (intro w hSw; (try dsimp only at hSw); go_split_ands; go_simp; (try (with_reducible rfl)))
                case hqtd16 => exact fun _ _ _ h => h
                simp only [Act.put, List.getElem_toArray, List.getElem_cons_succ, List.getElem_cons_zero, List.setIfInBounds_toArray, List.set_cons_zero, List.set_cons_succ]
                refine wpAnyT_take (i := 17) (oi := ?oitd17) (v := ?vtd17) ?hotd17 (by kernel_rfl) (by kernel_rfl) (by kernel_rfl) (by kernel_rfl) ?hqtd17 (Or.inl ⟨?hwtd17, ?hytd17⟩) (by assumption) ?_
                case hotd17 => rfl
                case hwtd17 => rfl
                case hytd17 => (intro w hSw; (try dsimp only at hSw); go_split_ands; go_simp; (try (with_reducible rfl)))
                case hqtd17 => exact fun _ _ _ h => h
                simp only [Act.put, List.getElem_toArray, List.getElem_cons_succ, List.getElem_cons_zero, List.setIfInBounds_toArray, List.set_cons_zero, List.set_cons_succ]
                refine wpAnyT_take (i := 18) (oi := ?oitd18) (v := ?vtd18) ?hotd18 (by kernel_rfl) (by kernel_rfl) (by kernel_rfl) (by kernel_rfl) ?hqtd18 (Or.inl ⟨?hwtd18, ?hytd18⟩) (by assumption) ?_
                case hotd18 => rfl
                case hwtd18 => rfl
                case hytd18 => (intro w hSw; (try dsimp only at hSw); go_split_ands; go_simp; (try (with_reducible rfl)))
                case hqtd18 => exact fun _ _ _ h => h
                simp only [Act.put, List.getElem_toArray, List.getElem_cons_succ, List.getElem_cons_zero, List.setIfInBounds_toArray, List.set_cons_zero, List.set_cons_succ]
                refine wpAnyT_take (i := 19) (oi := ?oitd19) (v := ?vtd19) ?hotd19 (by kernel_rfl) (by kernel_rfl) (by kernel_rfl) (by kernel_rfl) ?hqtd19 (Or.inl ⟨?hwtd19, ?hytd19⟩) (by assumption) ?_
                case hotd19 => rfl
                case hwtd19 => rfl
                case hytd19 => (intro w hSw; (try dsimp only at hSw); go_split_ands; go_simp; (try (with_reducible rfl)))
                case hqtd19 => exact fun _ _ _ h => h
                simp only [Act.put, List.getElem_toArray, List.getElem_cons_succ, List.getElem_cons_zero, List.setIfInBounds_toArray, List.set_cons_zero, List.set_cons_succ]
                refine wpAnyT_take (i := 20) (oi := ?oitd20) (v := ?vtd20) ?hotd20 (by kernel_rfl) (by kernel_rfl) (by kernel_rfl) (by kernel_rfl) ?hqtd20 (Or.inl ⟨?hwtd20, ?hytd20⟩) (by assumption) ?_
                case hotd20 => rfl
                case hwtd20 => rfl
                case hytd20 => (intro w hSw; (try dsimp only at hSw); go_split_ands; go_simp; (try (with_reducible rfl)))
                case hqtd20 => exact fun _ _ _ h => h
                simp only [Act.put, List.getElem_toArray, List.getElem_cons_succ, List.getElem_cons_zero, List.setIfInBounds_toArray, List.set_cons_zero, List.set_cons_succ]
                refine wpAnyT_take (i := 21) (oi := ?oitd21) (v := ?vtd21) ?hotd21 (by kernel_rfl) (by kernel_rfl) (by kernel_rfl) (by kernel_rfl) ?hqtd21 (Or.inl ⟨?hwtd21, ?hytd21⟩) (by assumption) ?_
                case hotd21 => rfl
                case hwtd21 => rfl
                case hytd21 => (intro w hSw; (try dsimp only at hSw); go_split_ands; go_simp; (try (with_reducible rfl)))
                case hqtd21 => exact fun _ _ _ h => h
                simp only [Act.put, List.getElem_toArray, List.getElem_cons_succ, List.getElem_cons_zero, List.setIfInBounds_toArray, List.set_cons_zero, List.set_cons_succ]
                refine wpAnyT_take (i := 22) (oi := ?oitd22) (v := ?vtd22) ?hotd22 (by kernel_rfl) (by kernel_rfl) (by kernel_rfl) (by kernel_rfl) ?hqtd22 (Or.inl ⟨?hwtd22, ?hytd22⟩) (by assumption) ?_
                case hotd22 => rfl
                case hwtd22 => rfl
                case hytd22 => (intro w hSw; (try dsimp only at hSw); go_split_ands; go_simp; (try (with_reducible rfl)))
                case hqtd22 => exact fun _ _ _ h => h
                simp only [Act.put, List.getElem_toArray, List.getElem_cons_succ, List.getElem_cons_zero, List.setIfInBounds_toArray, List.set_cons_zero, List.set_cons_succ]
                refine wpAnyT_take (i := 23) (oi := ?oitd23) (v := ?vtd23) ?hotd23 (by kernel_rfl) (by kernel_rfl) (by kernel_rfl) (by kernel_rfl) ?hqtd23 (Or.inl ⟨?hwtd23, ?hytd23⟩) (by assumption) ?_
                case hotd23 => rfl
                case hwtd23 => rfl
                case hytd23 => (intro w hSw; (try dsimp only at hSw); go_split_ands; go_simp; (try (with_reducible rfl)))
                case hqtd23 => exact fun _ _ _ h => h
                simp only [Act.put, List.getElem_toArray, List.getElem_cons_succ, List.getElem_cons_zero, List.setIfInBounds_toArray, List.set_cons_zero, List.set_cons_succ]
                refine wpAnyT_take (i := 24) (oi := ?oitd24) (v := ?vtd24) ?hotd24 (by kernel_rfl) (by kernel_rfl) (by kernel_rfl) (by kernel_rfl) ?hqtd24 (Or.inl ⟨?hwtd24, ?hytd24⟩) (by assumption) ?_
                case hotd24 => rfl
                case hwtd24 => rfl
                case hytd24 => (intro w hSw; (try dsimp only at hSw); go_split_ands; go_simp; (try (with_reducible rfl)))
                case hqtd24 => exact fun _ _ _ h => h
                simp only [Act.put, List.getElem_toArray, List.getElem_cons_succ, List.getElem_cons_zero, List.setIfInBounds_toArray, List.set_cons_zero, List.set_cons_succ]
                refine wpAnyT_take (i := 25) (oi := ?oitd25) (v := ?vtd25) ?hotd25 (by kernel_rfl) (by kernel_rfl) (by kernel_rfl) (by kernel_rfl) ?hqtd25 (Or.inl ⟨?hwtd25, ?hytd25⟩) (by assumption) ?_
                case hotd25 => rfl
                case hwtd25 => rfl
                case hytd25 => (intro w hSw; (try dsimp only at hSw); go_split_ands; go_simp; (try (with_reducible rfl)))
                case hqtd25 => exact fun _ _ _ h => h
                simp only [Act.put, List.getElem_toArray, List.getElem_cons_succ, List.getElem_cons_zero, List.setIfInBounds_toArray, List.set_cons_zero, List.set_cons_succ]
                refine wpAnyT_take (i := 26) (oi := ?oitd26) (v := ?vtd26) ?hotd26 (by kernel_rfl) (by kernel_rfl) (by kernel_rfl) (by kernel_rfl) ?hqtd26 (Or.inl ⟨?hwtd26, ?hytd26⟩) (by assumption) ?_
                case hotd26 => rfl
                case hwtd26 => rfl
                case hytd26 => (intro w hSw; (try dsimp only at hSw); go_split_ands; go_simp; (try (with_reducible rfl)))
                case hqtd26 => exact fun _ _ _ h => h
                simp only [Act.put, List.getElem_toArray, List.getElem_cons_succ, List.getElem_cons_zero, List.setIfInBounds_toArray, List.set_cons_zero, List.set_cons_succ]
                refine wpAnyT_take (i := 27) (oi := ?oitd27) (v := ?vtd27) ?hotd27 (by kernel_rfl) (by kernel_rfl) (by kernel_rfl) (by kernel_rfl) ?hqtd27 (Or.inl ⟨?hwtd27, ?hytd27⟩) (by assumption) ?_
                case hotd27 => rfl
                case hwtd27 => rfl
                case hytd27 => (intro w hSw; (try dsimp only at hSw); go_split_ands; go_simp; (try (with_reducible rfl)))
                case hqtd27 => exact fun _ _ _ h => h
                simp only [Act.put, List.getElem_toArray, List.getElem_cons_succ, List.getElem_cons_zero, List.setIfInBounds_toArray, List.set_cons_zero, List.set_cons_succ]
                refine wpAnyT_take (i := 28) (oi := ?oitd28) (v := ?vtd28) ?hotd28 (by kernel_rfl) (by kernel_rfl) (by kernel_rfl) (by kernel_rfl) ?hqtd28 (Or.inl ⟨?hwtd28, ?hytd28⟩) (by assumption) ?_
                case hotd28 => rfl
                case hwtd28 => rfl
                case hytd28 => (intro w hSw; (try dsimp only at hSw); go_split_ands; go_simp; (try (with_reducible rfl)))
                case hqtd28 => exact fun _ _ _ h => h
                simp only [Act.put, List.getElem_toArray, List.getElem_cons_succ, List.getElem_cons_zero, List.setIfInBounds_toArray, List.set_cons_zero, List.set_cons_succ]
                refine wpAnyT_take (i := 29) (oi := ?oitd29) (v := ?vtd29) ?hotd29 (by kernel_rfl) (by kernel_rfl) (by kernel_rfl) (by kernel_rfl) ?hqtd29 (Or.inl ⟨?hwtd29, ?hytd29⟩) (by assumption) ?_
                case hotd29 => rfl
                case hwtd29 => rfl
                case hytd29 => (intro w hSw; (try dsimp only at hSw); go_split_ands; go_simp; (try (with_reducible rfl)))
                case hqtd29 => exact fun _ _ _ h => h
                simp only [Act.put, List.getElem_toArray, List.getElem_cons_succ, List.getElem_cons_zero, List.setIfInBounds_toArray, List.set_cons_zero, List.set_cons_succ]
                refine wpAnyT_done (by kernel_rfl) ?_ _
                -- tail end
                go_wp2_with (fail)
                go_meet
                exact ⟨rfl, Below.drew hB0⟩
        case rest =>
        obtain ⟨rfl, hbx⟩ := hcut
        obtain ⟨wx, hwx⟩ : ∃ wx, wx = wc := ⟨_, rfl⟩
        subst hwx
        have hTx := Lib.hid (hT1.out.below hbx)
        clear hbx hB0 hT1 hownH x2 x3 y0 hok1
        cases ok1 with
        | false =>
          rw [Bool.not_false]
          have hno : i ∈ ixT t ∨ lastOk t i = false := by
            have := hok1H.out
            rw [Bool.and_eq_false_iff] at this
            rcases this with h | h
            · left; exact hiuH.out.1 (by simpa using h)
            · right; exact h
          have hRe : s' = R2 := by rw [← hIn0.out, outF_no hno]
          have hReH := Lib.hid hRe
          clear hno hRe
          go_wp2_with (fail)
          go_roundw
          case rel => exact ⟨i + 1, R2, _, _, _, _, _, by go_num, by omega, by rw [← hReH.out]; exact hTx.out, by rw [← hReH.out]; exact hS1.out, hR2H.out⟩
          case measure => simp [intOf]; omega
        | true =>
          rw [Bool.not_true]
          have hyes := hok1H.out
          rw [Bool.and_eq_true] at hyes
          have hi_ : i ∉ ixT t := fun h => by have h1 := hiuH.out.2 h; rw [h1] at hyes; simp at hyes
          have hlo := hyes.2
          have hi_H := Lib.hid hi_
          have hloH := Lib.hid hlo
          have hIn1 : Hid (rowF (inF o u n (wf ws) l t p q i) (n - 0) 0 s' = R2) := hIn0.out
          clear hyes hi_ hlo hIn0 hok1H hiuH
          go_wp2_with (fail)
          go_loopw [11] (fun kv wr' => ∃ (k : Nat) (s2 : Bt) (v bw : Value) (vs : List Value) (nu de : Int), kv = .int .i64 (k : Nat) ∧ k ≤ n ∧ TI w0 wr' n o u aw cw bt bu t s2 v bw vs nu de ∧ StT L n s2 ∧ rowF (inF o u n (wf ws) l t p q i) (n - k) k s2 = R2) (fun kv _ => n - (intOf kv).toNat)
          case atStart => exact ⟨0, s', _, _, _, _, _, rfl, by omega, hTx.out, hS1.out, hIn1.out⟩
          case round =>
            obtain ⟨k, s2, v2, bw2, vs2, nu2, de2, rfl, hk, hT, hS, hRk⟩ := hrel
            obtain ⟨w2, hw2⟩ : ∃ w2, w2 = wr := ⟨_, rfl⟩
            subst hw2
            have hT2 := Lib.hid hT
            have hS2 := Lib.hid hS
            have hRkH := Lib.hid hRk
            have x2 : w2.cell? ⟨bt, 2, none⟩ = some (.slice aw n cw) := by rw [hT.tb.cell]; rfl
            clear hS hRk hIn1 hTx
            by_cases hkn : k < n
            · have hkI : (k : Int) < (n : Int) := by omega
              have hk0 : (0 : Int) ≤ (k : Int) := by omega
              obtain ⟨bk, hbk⟩ : ∃ b, decide (k ∈ ixT t) = b := ⟨_, rfl⟩
              have hku := ixb hbk
              have y0 : w2.cell? ⟨bu, k, none⟩ = some (.bool bk) := by rw [← hbk]; exact hT.ub.at (usL_get hkn)
              have hkuH := Lib.hid hku
              obtain ⟨bq, hbq⟩ : ∃ b, ((k : Int) == (i : Int)) = b := ⟨_, rfl⟩
              have hbqH := Lib.hid hbq
              obtain ⟨ok, hok⟩ : ∃ ok, (!bk && !bq) = ok := ⟨_, rfl⟩
              have hokH := Lib.hid hok
              clear hT hku hbk
              go_upto_region 10 with (fail)
              go_cut [98] from 90 to 98 (fun rv wx => rv = .bool (!ok) ∧ Below w2.heap.size w2 wx)
              case first =>
                cases bk with
                | true =>
                  obtain rfl : ok = false := by rw [← hok]; rfl
                  clear hok hbq
                  go_wp2_with (fail)
                  go_meet
                  exact ⟨rfl, Below.refl _ _⟩
                | false =>
                  cases bq with
                  | true =>
                    obtain rfl : ok = false := by rw [← hok]; rfl
                    clear hok
                    go_wp2_with (fail)
                    go_meet
                    exact ⟨rfl, Below.refl _ _⟩
                  | false =>
                    obtain rfl : ok = true := by rw [← hok]; rfl
                    clear hok
                    go_wp2_with (fail)
                    go_meet
                    exact ⟨rfl, Below.refl _ _⟩
              case rest =>
              obtain ⟨rfl, hbx⟩ := hcut
              obtain ⟨wy, hwy⟩ : ∃ wy, wy = wc := ⟨_, rfl⟩
              subst hwy
              have hTy := Lib.hid (hT2.out.below hbx)
              clear hbx hT2 x2 y0 hok hbq
              cases ok with
              | false =>
                rw [Bool.not_false]
                have hno : okT t i k = false := by
                  have := hokH.out
                  unfold okT
                  rw [Bool.and_eq_false_iff] at this
                  rcases this with h | h
                  · have h1 := hkuH.out.1 (by simpa using h); simp [h1]
                  · have h1 : ((k : Int) == (i : Int)) = true := by rw [hbqH.out]; simpa using h
                    have h2 : k = i := by rw [beq_iff_eq] at h1; omega
                    simp [h2]
                have hnx : Hid (rowF (inF o u n (wf ws) l t p q i) (n - (k + 1)) (k + 1) s2 = R2) := by show _ = _; have := hRkH.out; rw [rowF_next hkn, inF_no hno] at this; exact this
                clear hno
                go_wp2_with (fail)
                go_roundw
                case rel => exact ⟨k + 1, s2, _, _, _, _, _, by go_num, by omega, hTy.out, hS2.out, hnx.out⟩
                case measure => simp [intOf]; omega
              | true =>
                rw [Bool.not_true]
                have hbb := hokH.out
                rw [Bool.and_eq_true] at hbb
                have hk_ : k ∉ ixT t := fun h => by have h1 := hkuH.out.2 h; rw [h1] at hbb; simp at hbb
                have hki : k ≠ i := fun h => by
                  have h1 := hbqH.out
                  rw [h] at h1
                  have h2 : ((i : Int) == (i : Int)) = true := by simp
                  rw [h2] at h1
                  rw [← h1] at hbb
                  simp at hbb
                have hyes : okT t i k = true := by unfold okT; rw [hloH.out]; simp [hi_H.out, hk_, hki]
                obtain ⟨wi, hwi⟩ : ∃ wi, wf ws i = wi := ⟨_, rfl⟩
                obtain ⟨wk, hwk⟩ : ∃ wk, wf ws k = wk := ⟨_, rfl⟩
                have hwiR := wf_in hwsH.out hwrH.out hin
                have hwkR := wf_in hwsH.out hwrH.out hkn
                obtain ⟨bz, oz, haz, _⟩ := hIH.out _ _ (wf_get hwsH.out hin)
                subst haz
                have hcw : Hid (∀ W, Below w0.heap.size w0 W → W.cell? ⟨bz, oz + i, none⟩ = some (.int .i64 (wi : Nat)) ∧ W.cell? ⟨bz, oz + k, none⟩ = some (.int .i64 (wk : Nat))) := fun W hW => by
                  obtain ⟨b1, o1, e1, c1⟩ := (hIH.out.upto hW (Nat.le_refl _)) _ _ (wf_get hwsH.out hin)
                  obtain ⟨b2, o2, e2, c2⟩ := (hIH.out.upto hW (Nat.le_refl _)) _ _ (wf_get hwsH.out hkn)
                  injection e1 with e1
                  injection e1 with e3 e4
                  injection e2 with e2
                  injection e2 with e5 e6
                  subst e3 e4 e5 e6
                  rw [hwi] at c1
                  rw [hwk] at c2
                  exact ⟨c1, c2⟩
                rw [hwi] at hwiR
                rw [hwk] at hwkR
                obtain ⟨p2, hp2⟩ : ∃ p2, p * wi = p2 := ⟨_, rfl⟩
                obtain ⟨q2, hq2⟩ : ∃ q2, q * wk = q2 := ⟨_, rfl⟩
                have hPw2 : Pw (j + 1) p2 := by rw [← hp2]; exact hpH.out.mul hwiR.1 hwiR.2
                have hQw2 : Pw (j + 1) q2 := by rw [← hq2]; exact hqH.out.mul hwkR.1 hwkR.2
                have hp2b := hPw2.le (by have := hlH.out; omega)
                have hq2b := hQw2.le (by have := hlH.out; omega)
                have hp2I : (p : Int) * (wi : Int) = (p2 : Int) := by rw [← Int.natCast_mul, hp2]
                have hq2I : (q : Int) * (wk : Int) = (q2 : Int) := by rw [← Int.natCast_mul, hq2]
                have hp2w : IntKind.i64.wrap (p2 : Int) = (p2 : Int) := by rw [IntKind.wrap_i64]; omega
                have hq2w : IntKind.i64.wrap (q2 : Int) = (q2 : Int) := by rw [IntKind.wrap_i64]; omega
                have hPwH := Lib.hid hPw2
                have hQwH := Lib.hid hQw2
                obtain ⟨s3, hs3⟩ : ∃ s3, tryT o u n (wf ws) l (t ++ [(i, k)]) p2 q2 s2 = s3 := ⟨_, rfl⟩
                have hnx : Hid (rowF (inF o u n (wf ws) l t p q i) (n - (k + 1)) (k + 1) s3 = R2) := by show _ = _; have := hRkH.out; rw [rowF_next hkn, inF_yes hyes, hwi, hwk, hp2, hq2, hs3] at this; exact this
                have ht2 : Hid (∀ x ∈ t ++ [(i, k)], x.1 < n ∧ x.2 < n) := fun x hx => by
                  rw [List.mem_append, List.mem_singleton] at hx
                  rcases hx with hx | rfl
                  · exact htH.out x hx
                  · exact ⟨hin, hkn⟩
                have hl2 : Hid ((t ++ [(i, k)]).length = j + 1) := by show _ = _; rw [List.length_append, hjH.out]; rfl
                have hS3 : Hid (StT L n s3) := by show StT _ _ _; rw [← hs3]; exact hst.out l _ _ _ _ (by rw [hl2.out]; have := hlH.out; omega) (by rw [hl2.out]; exact hPw2) (by rw [hl2.out]; exact hQw2) ht2.out hS2.out
                have hs3H := Lib.hid hs3
                have hk_H := Lib.hid hk_
                have hik : i ≠ k := fun h => hki h.symm
                have hokik := Lib.hid hik
                have ub := hTy.out.ub
                have u0 : wy.cell? ⟨bu, i, none⟩ = some (.bool false) := by have := ub.at (usL_get hin); rw [decide_eq_false hi_H.out] at this; exact this
                have f0 := Blk.frozen ub i
                have ub1 := ub.set i true
                have u1 : (wy.setCell ⟨bu, i, none⟩ (.bool true)).cell? ⟨bu, k, none⟩ = some (.bool false) := by
                  have := ub1.at (i := k) (b := false) (by rw [List.getElem?_set_ne hik, usL_get hkn, decide_eq_false hk_])
                  exact this
                have f1 := Blk.frozen ub1 k
                obtain ⟨WU, hWU⟩ : ∃ WU, WU = (wy.setCell ⟨bu, i, none⟩ (.bool true)).setCell ⟨bu, k, none⟩ (.bool true) := ⟨_, rfl⟩
                obtain ⟨WL, hWL⟩ : ∃ WL, WL = (WU.alloc (Obj.cells #[.int .i64 (i : Nat), .int .i64 (k : Nat)] 3)).alloc (Obj.cells #[.slice (some ⟨WU.heap.size, 0, none⟩) 2 2] 23) := ⟨_, rfl⟩
                obtain ⟨hOL, x3, hbL, cL, hbtl⟩ := hTy.out.ownL hjH.out hbuH.out hWU hWL
                have hOLH := Lib.hid hOL
                have hWUH := Lib.hid hWU
                have hWLH := Lib.hid hWL
                have cLH := Lib.hid cL
                clear hbb hk_ hki hyes hwi hwk hwiR hwkR hp2 hq2 hPw2 hQw2 hs3 hRkH hokH hkuH hbqH ub ub1 hOL cL hloH
                go_upto_region 12 with (fail)
                rw [← hWU]
                clear u0 u1 f0 f1 hWU hik
                go_upto_region 13 with (at_builtin; go_loud (rw [← hWL]); go_loud (refine wpList_append_vs _ rfl (.tmp 109) (.tmp 113) _ rfl Tryz.underlying44 w0.heap.size j v2 vs2 (by rfl) hOLH.out (WU.heap.size + 1) 1 1 [.slice (some ⟨WU.heap.size, 0, none⟩) 2 2] (by rfl) rfl (news1 cLH.out) (fun u hu => by rw [List.mem_singleton] at hu; subst hu; rfl) (by omega) (by omega) hbL ?_); intro v9 w9 hO9 hg9 ho9; obtain ⟨g9, c9, hv9, _⟩ := own_head hO9 (by omega); subst hv9; obtain ⟨hT9, tb9⟩ := hTy.out.pushJ hjH.out hbtH.out hbuH.out hWUH.out hWLH.out hO9 hg9 ho9; have hT9H := Lib.hid hT9; have r3 := tb9.cell 3; have f3 := tb9.frozen 3; clear hO9 hg9 ho9 hT9 tb9)
                obtain ⟨W3, hW3⟩ : ∃ W3, W3 = w9.setCell ⟨bt, 3, none⟩ (.slice (some ⟨g9, 0, none⟩) (j + 1) c9) := ⟨_, rfl⟩
                rw [← hW3] at hT9H
                rw [← hW3]
                have c2 : W3.cell? ⟨bt, 2, none⟩ = some (.slice (some ⟨bz, oz, none⟩) n cw) := by rw [hT9H.out.tb.cell]; rfl
                obtain ⟨ci, ck⟩ := hcw.out _ hT9H.out.bl
                have hB3 : Below W3.heap.size W3 W3 := Below.refl _ _
                have hup : Hid (∀ w', Below W3.heap.size W3 w' → w'.cell? ⟨bt, 2, none⟩ = some (.slice (some ⟨bz, oz, none⟩) n cw) ∧ w'.cell? ⟨bz, oz + i, none⟩ = some (.int .i64 (wi : Nat)) ∧ w'.cell? ⟨bz, oz + k, none⟩ = some (.int .i64 (wk : Nat))) := fun w' hW => ⟨Below.cellAt hW (Nat.le_refl _) c2, Below.cellAt hW (Nat.le_refl _) ci, Below.cellAt hW (Nat.le_refl _) ck⟩
                have hupT : Hid (∀ (w' : World) (t' : Tr) (s' : Bt) (v bw : Value) (vs : List Value) (nu de : Int), TI w0 w' n o u (some ⟨bz, oz, none⟩) cw bt bu t' s' v bw vs nu de → w'.cell? ⟨bt, 2, none⟩ = some (.slice (some ⟨bz, oz, none⟩) n cw) ∧ w'.cell? ⟨bz, oz + i, none⟩ = some (.int .i64 (wi : Nat)) ∧ w'.cell? ⟨bz, oz + k, none⟩ = some (.int .i64 (wk : Nat))) := fun w' t' s' v bw vs nu de h => ⟨by rw [h.tb.cell]; rfl, hcw.out _ h.bl⟩
                clear hW3 r3 f3 x3 hbL hbtl
                -- tail S: fun w' => w'.cell? ⟨bt, 2, none⟩ = some (.slice (some ⟨bz, oz, none⟩) n cw) ∧ w'.cell? ⟨bz, oz + i, none⟩ = some (.int .i64 (wi : Nat)) ∧ w'.cell? ⟨bz, oz + k, none⟩ = some (.int .i64 (wk : Nat))
                -- tail s0: hup.out _ (Below.drew hB3)
                -- arm 22: go_at_call 50; go_loud (with_reducible refine (ihH.out (t ++ [(i, k)]) p2 q2 (j + 1) s2 _ bw2 _ nu2 de2 _ hl2.out (by have := hlH.out; omega) (hT9H.out.below (Below.drew hB3)) ht2.out hPwH.out hQwH.out hS2.out).mono ?_); rintro e w10 ⟨rfl, v10, bw10, vs10, nu10, de10, hT10⟩; rw [hs3H.out] at hT10; have hT10H := Lib.hid hT10; clear hT10
                -- arm 22 s: hupT.out _ _ _ _ _ _ _ _ hT10H.out
                -- tail te 0 1 2 3 4 5 6 7 8 9 10 11 12 13 14 15 16 17 18 19 20 21 c22
                refine wp_region_tail (fun w' => w'.cell? ⟨bt, 2, none⟩ = some (.slice (some ⟨bz, oz, none⟩) n cw) ∧ w'.cell? ⟨bz, oz + i, none⟩ = some (.int .i64 (wi : Nat)) ∧ w'.cell? ⟨bz, oz + k, none⟩ = some (.int .i64 (wk : Nat))) (fun j => decide (1000 ≤ j)) (by kernel_rfl) (hup.out _ (Below.drew hB3)) (fun hHeld => ?_)
                refine wpAnyT_take (i := 0) (oi := ?oite0) (v := ?vte0) ?hote0 (by kernel_rfl) (by kernel_rfl) (by kernel_rfl) (by kernel_rfl) ?hqte0 (Or.inl ⟨?hwte0, ?hyte0⟩) (by assumption) ?_
                case hote0 => rfl
                case hwte0 => rfl
                case hyte0 => (intro w hSw; (try dsimp only at hSw); go_split_ands; go_simp; (try (with_reducible rfl)))
                case hqte0 => exact fun _ _ _ h => h
                simp only [Act.put, List.getElem_toArray, List.getElem_cons_zero, List.setIfInBounds_toArray, List.set_cons_zero, List.set_cons_succ]
                refine wpAnyT_take (i := 1) (oi := ?oite1) (v := ?vte1) ?hote1 (by kernel_rfl) (by kernel_rfl) (by kernel_rfl) (by kernel_rfl) ?hqte1 (Or.inl ⟨?hwte1, ?hyte1⟩) (by assumption) ?_
                case hote1 => rfl
                case hwte1 => rfl
                case hyte1 => (intro w hSw; (try dsimp only at hSw); go_split_ands; go_simp; (try (with_reducible rfl)))
                case hqte1 => exact fun _ _ _ h => h
                simp only [Act.put, List.getElem_toArray, List.getElem_cons_succ, List.getElem_cons_zero, List.setIfInBounds_toArray, List.set_cons_zero, List.set_cons_succ]
                refine wpAnyT_take (i := 2) (oi := ?oite2) (v := ?vte2) ?hote2 (by kernel_rfl) (by kernel_rfl) (by kernel_rfl) (by kernel_rfl) ?hqte2 (Or.inl ⟨?hwte2, ?hyte2⟩) (by assumption) ?_
                case hote2 => rfl
                case hwte2 => rfl
                case hyte2 => (intro w hSw; (try dsimp only at hSw); go_split_ands; go_simp; (try (with_reducible rfl)))
                case hqte2 => exact fun _ _ _ h => h
                simp only [Act.put, List.getElem_toArray, List.getElem_cons_succ, List.getElem_cons_zero, List.setIfInBounds_toArray, List.set_cons_zero, List.set_cons_succ]
                refine wpAnyT_take (i := 3) (oi := ?oite3) (v := ?vte3) ?hote3 (by kernel_rfl) (by kernel_rfl) (by kernel_rfl) (by kernel_rfl) ?hqte3 (Or.inl ⟨?hwte3, ?hyte3⟩) (by assumption) ?_
                case hote3 => rfl
                case hwte3 => rfl
                case hyte3 => (intro w hSw; (try dsimp only at hSw); go_split_ands; go_simp; (try (with_reducible rfl)))
                case hqte3 => exact fun _ _ _ h => h
                simp only [Act.put, List.getElem_toArray, List.getElem_cons_succ, List.getElem_cons_zero, List.setIfInBounds_toArray, List.set_cons_zero, List.set_cons_succ]
                refine wpAnyT_take (i := 4) (oi := ?oite4) (v := ?vte4) ?hote4 (by kernel_rfl) (by kernel_rfl) (by kernel_rfl) (by kernel_rfl) ?hqte4 (Or.inl ⟨?hwte4, ?hyte4⟩) (by assumption) ?_
                case hote4 => rfl
                case hwte4 => rfl
                case hyte4 => (intro w hSw; (try dsimp only at hSw); go_split_ands; go_simp; (try (with_reducible rfl)))
                case hqte4 => exact fun _ _ _ h => h
                simp only [Act.put, List.getElem_toArray, List.getElem_cons_succ, List.getElem_cons_zero, List.setIfInBounds_toArray, List.set_cons_zero, List.set_cons_succ]
                refine wpAnyT_take (i := 5) (oi := ?oite5) (v := ?vte5) ?hote5 (by kernel_rfl) (by kernel_rfl) (by kernel_rfl) (by kernel_rfl) ?hqte5 (Or.inl ⟨?hwte5, ?hyte5⟩) (by assumption) ?_
                case hote5 => rfl
                case hwte5 => rfl
                case hyte5 => (intro w hSw; (try dsimp only at hSw); go_split_ands; go_simp; (try (with_reducible rfl)))
                case hqte5 => exact fun _ _ _ h => h
                simp only [Act.put, List.getElem_toArray, List.getElem_cons_succ, List.getElem_cons_zero, List.setIfInBounds_toArray, List.set_cons_zero, List.set_cons_succ]
                refine wpAnyT_take (i := 6) (oi := ?oite6) (v := ?vte6) ?hote6 (by kernel_rfl) (by kernel_rfl) (by kernel_rfl) (by kernel_rfl) ?hqte6 (Or.inl ⟨?hwte6, ?hyte6⟩) (by assumption) ?_
                case hote6 => rfl
                case hwte6 => rfl
                case hyte6 => (intro w hSw; (try dsimp only at hSw); go_split_ands; go_simp; (try (with_reducible rfl)))
                case hqte6 => exact fun _ _ _ h => h
                simp only [Act.put, List.getElem_toArray, List.getElem_cons_succ, List.getElem_cons_zero, List.setIfInBounds_toArray, List.set_cons_zero, List.set_cons_succ]
                refine wpAnyT_take (i := 7) (oi := ?oite7) (v := ?vte7) ?hote7 (by kernel_rfl) (by kernel_rfl) (by kernel_rfl) (by kernel_rfl) ?hqte7 (Or.inl ⟨?hwte7, ?hyte7⟩) (by assumption) ?_
                case hote7 => rfl
                case hwte7 => rfl
                case hyte7 => (intro w hSw; (try dsimp only at hSw); go_split_ands; go_simp; (try (with_reducible rfl)))
                case hqte7 => exact fun _ _ _ h => h
                simp only [Act.put, List.getElem_toArray, List.getElem_cons_succ, List.getElem_cons_zero, List.setIfInBounds_toArray, List.set_cons_zero, List.set_cons_succ]
                refine wpAnyT_take (i := 8) (oi := ?oite8) (v := ?vte8) ?hote8 (by kernel_rfl) (by kernel_rfl) (by kernel_rfl) (by kernel_rfl) ?hqte8 (Or.inl ⟨?hwte8, ?hyte8⟩) (by assumption) ?_
                case hote8 => rfl
                case hwte8 => rfl
                case hyte8 => (intro w hSw; (try dsimp only at hSw); go_split_ands; go_simp; (try (with_reducible rfl)))
                case hqte8 => exact fun _ _ _ h => h
                simp only [Act.put, List.getElem_toArray, List.getElem_cons_succ, List.getElem_cons_zero, List.setIfInBounds_toArray, List.set_cons_zero, List.set_cons_succ]
                refine wpAnyT_take (i := 9) (oi := ?oite9) (v := ?vte9) ?hote9 (by kernel_rfl) (by kernel_rfl) (by kernel_rfl) (by kernel_rfl) ?hqte9 (Or.inl ⟨?hwte9, ?hyte9⟩) (by assumption) ?_
                case hote9 => rfl
                case hwte9 => rfl
                case hyte9 => (intro w hSw; (try dsimp only at hSw); go_split_ands; go_simp; (try (with_reducible rfl)))
                case hqte9 => exact fun _ _ _ h => h
                simp only [Act.put, List.getElem_toArray, List.getElem_cons_succ, List.getElem_cons_zero, List.setIfInBounds_toArray, List.set_cons_zero, List.set_cons_succ]
                refine wpAnyT_take (i := 10) (oi := ?oite10) (v := ?vte10) ?hote10 (by kernel_rfl) (by kernel_rfl) (by kernel_rfl) (by kernel_rfl) ?hqte10 (Or.inl ⟨?hwte10, ?hyte10⟩) (by assumption) ?_
                case hote10 => rfl
                case hwte10 => rfl
                case hyte10 => (intro w hSw; (try dsimp only at hSw); go_split_ands; go_simp; (try (with_reducible rfl)))
                case hqte10 => exact fun _ _ _ h => h
                simp only [Act.put, List.getElem_toArray, List.getElem_cons_succ, List.getElem_cons_zero, List.setIfInBounds_toArray, List.set_cons_zero, List.set_cons_succ]
                refine wpAnyT_take (i := 11) (oi := ?oite11) (v := ?vte11) ?hote11 (by kernel_rfl) (by kernel_rfl) (by kernel_rfl) (by kernel_rfl) ?hqte11 (Or.inl ⟨?hwte11, ?hyte11⟩) (by assumption) ?_
                case hote11 => rfl
                case hwte11 => rfl
                case hyte11 => (intro w hSw; (try dsimp only at hSw); go_split_ands; go_simp; (try (with_reducible rfl)))
                case hqte11 => exact fun _ _ _ h => h
                simp only [Act.put, List.getElem_toArray, List.getElem_cons_succ, List.getElem_cons_zero, List.setIfInBounds_toArray, List.set_cons_zero, List.set_cons_succ]
                refine wpAnyT_take (i := 12) (oi := ?oite12) (v := ?vte12) ?hote12 (by kernel_rfl) (by kernel_rfl) (by kernel_rfl) (by kernel_rfl) ?hqte12 (Or.inl ⟨?hwte12, ?hyte12⟩) (by assumption) ?_
                case hote12 => rfl
                case hwte12 => rfl
                case hyte12 => (intro w hSw; (try dsimp only at hSw); go_split_ands; go_simp; (try (with_reducible rfl)))
                case hqte12 => exact fun _ _ _ h => h
                simp only [Act.put, List.getElem_toArray, List.getElem_cons_succ, List.getElem_cons_zero, List.setIfInBounds_toArray, List.set_cons_zero, List.set_cons_succ]
                refine wpAnyT_take (i := 13) (oi := ?oite13) (v := ?vte13) ?hote13 (by kernel_rfl) (by kernel_rfl) (by kernel_rfl) (by kernel_rfl) ?hqte13 (Or.inl ⟨?hwte13, ?hyte13⟩) (by assumption) ?_
                case hote13 => rfl
                case hwte13 => rfl
                case hyte13 => (intro w hSw; (try dsimp only at hSw); go_split_ands; go_simp; (try (with_reducible rfl)))
                case hqte13 => exact fun _ _ _ h => h
                simp only [Act.put, List.getElem_toArray, List.getElem_cons_succ, List.getElem_cons_zero, List.setIfInBounds_toArray, List.set_cons_zero, List.set_cons_succ]
                refine wpAnyT_take (i := 14) (oi := ?oite14) (v := ?vte14) ?hote14 (by kernel_rfl) (by kernel_rfl) (by kernel_rfl) (by kernel_rfl) ?hqte14 (Or.inl ⟨?hwte14, ?hyte14⟩) (by assumption) ?_
                case hote14 => rfl
                case hwte14 => rfl
                case hyte14 => (intro w hSw; (try dsimp only at hSw); go_split_ands; go_simp; (try (with_reducible rfl)))
                case hqte14 => exact fun _ _ _ h => h
                simp only [Act.put, List.getElem_toArray, List.getElem_cons_succ, List.getElem_cons_zero, List.setIfInBounds_toArray, List.set_cons_zero, List.set_cons_succ]
                refine wpAnyT_take (i := 15) (oi := ?oite15) (v := ?vte15) ?hote15 (by kernel_rfl) (by kernel_rfl) (by kernel_rfl) (by kernel_rfl) ?hqte15 (Or.inl ⟨?hwte15, ?hyte15⟩) (by assumption) ?_
                case hote15 => rfl
                case hwte15 => rfl
                case hyte15 => (intro w hSw; (try dsimp only at hSw); go_split_ands; go_simp; (try (with_reducible rfl)))
                case hqte15 => exact fun _ _ _ h => h
                simp only [Act.put, List.getElem_toArray, List.getElem_cons_succ, List.getElem_cons_zero, List.setIfInBounds_toArray, List.set_cons_zero, List.set_cons_succ]
                refine wpAnyT_take (i := 16) (oi := ?oite16) (v := ?vte16) ?hote16 (by kernel_rfl) (by kernel_rfl) (by kernel_rfl) (by kernel_rfl) ?hqte16 (Or.inl ⟨?hwte16, ?hyte16⟩) (by assumption) ?_
                case hote16 => rfl
                case hwte16 => rfl
                case hyte16 => (intro w hSw; (try dsimp only at hSw); go_split_ands; go_simp; (try (with_reducible rfl)))
                case hqte16 => exact fun _ _ _ h => h
                simp only [Act.put, List.getElem_toArray, List.getElem_cons_succ, List.getElem_cons_zero, List.setIfInBounds_toArray, List.set_cons_zero, List.set_cons_succ]
                refine wpAnyT_take (i := 17) (oi := ?oite17) (v := ?vte17) ?hote17 (by kernel_rfl) (by kernel_rfl) (by kernel_rfl) (by kernel_rfl) ?hqte17 (Or.inl ⟨?hwte17, ?hyte17⟩) (by assumption) ?_
                case hote17 => rfl
                case hwte17 => rfl
                case hyte17 => (intro w hSw; (try dsimp only at hSw); go_split_ands; go_simp; (try (with_reducible rfl)))
                case hqte17 => exact fun _ _ _ h => h
                simp only [Act.put, List.getElem_toArray, List.getElem_cons_succ, List.getElem_cons_zero, List.setIfInBounds_toArray, List.set_cons_zero, List.set_cons_succ]
                refine wpAnyT_take (i := 18) (oi := ?oite18) (v := ?vte18) ?hote18 (by kernel_rfl) (by kernel_rfl) (by kernel_rfl) (by kernel_rfl) ?hqte18 (Or.inl ⟨?hwte18, ?hyte18⟩) (by assumption) ?_
                case hote18 => rfl
                case hwte18 => rfl
                case hyte18 => (intro w hSw; (try dsimp only at hSw); go_split_ands; go_simp; (try (with_reducible rfl)))
                case hqte18 => exact fun _ _ _ h => h
                simp only [Act.put, List.getElem_toArray, List.getElem_cons_succ, List.getElem_cons_zero, List.setIfInBounds_toArray, List.set_cons_zero, List.set_cons_succ]
                refine wpAnyT_take (i := 19) (oi := ?oite19) (v := ?vte19) ?hote19 (by kernel_rfl) (by kernel_rfl) (by kernel_rfl) (by kernel_rfl) ?hqte19 (Or.inl ⟨?hwte19, ?hyte19⟩) (by assumption) ?_
                case hote19 => rfl
                case hwte19 => rfl
                case hyte19 => (intro w hSw; (try dsimp only at hSw); go_split_ands; go_simp; (try (with_reducible rfl)))
                case hqte19 => exact fun _ _ _ h => h
                simp only [Act.put, List.getElem_toArray, List.getElem_cons_succ, List.getElem_cons_zero, List.setIfInBounds_toArray, List.set_cons_zero, List.set_cons_succ]
                refine wpAnyT_take (i := 20) (oi := ?oite20) (v := ?vte20) ?hote20 (by kernel_rfl) (by kernel_rfl) (by kernel_rfl) (by kernel_rfl) ?hqte20 (Or.inl ⟨?hwte20, ?hyte20⟩) (by assumption) ?_
                case hote20 => rfl
                case hwte20 => rfl
                case hyte20 => (intro w hSw; (try dsimp only at hSw); go_split_ands; go_simp; (try (with_reducible rfl)))
                case hqte20 => exact fun _ _ _ h => h
                simp only [Act.put, List.getElem_toArray, List.getElem_cons_succ, List.getElem_cons_zero, List.setIfInBounds_toArray, List.set_cons_zero, List.set_cons_succ]
                refine wpAnyT_take (i := 21) (oi := ?oite21) (v := ?vte21) ?hote21 (by kernel_rfl) (by kernel_rfl) (by kernel_rfl) (by kernel_rfl) ?hqte21 (Or.inl ⟨?hwte21, ?hyte21⟩) (by assumption) ?_
                case hote21 => rfl
                case hwte21 => rfl
                case hyte21 => (intro w hSw; (try dsimp only at hSw); go_split_ands; go_simp; (try (with_reducible rfl)))
                case hqte21 => exact fun _ _ _ h => h
                simp only [Act.put, List.getElem_toArray, List.getElem_cons_succ, List.getElem_cons_zero, List.setIfInBounds_toArray, List.set_cons_zero, List.set_cons_succ]
                refine wpAnyT_one (i := 22) (o := ?oite22) (by kernel_rfl) ?hote22 (fun K hK => ?_)
                case hote22 => rfl
                rw [if_pos (by rfl)]
                go_simp
                go_at_call 50; go_loud (with_reducible refine (ihH.out (t ++ [(i, k)]) p2 q2 (j + 1) s2 _ bw2 _ nu2 de2 _ hl2.out (by have := hlH.out; omega) (hT9H.out.below (Below.drew hB3)) ht2.out hPwH.out hQwH.out hS2.out).mono ?_); rintro e w10 ⟨rfl, v10, bw10, vs10, nu10, de10, hT10⟩; rw [hs3H.out] at hT10; have hT10H := Lib.hid hT10; clear hT10
                (try go_wp2_with (fail))
                refine hK.out _ _ (fun _ => hupT.out _ _ _ _ _ _ _ _ hT10H.out) (fun hHeld => ?_)
                replace hHeld := hHeld rfl
                clear hK K
                refine wpAnyT_done (by kernel_rfl) ?_ _
                -- tail end
                clear hHeld hup hupT hT9H c2 ci ck hB3
                have hown10 := hT10H.out.own
                rw [hl2.out] at hown10
                obtain ⟨g10, c10, hv10, _, _, hc10⟩ := own_head hown10 (by omega)
                subst hv10
                obtain ⟨J2, hJ2⟩ : ∃ J2, j + 1 = J2 := ⟨_, rfl⟩
                have c3 : w10.cell? ⟨bt, 3, none⟩ = some (.slice (some ⟨g10, 0, none⟩) J2 c10) := by rw [← hJ2, hT10H.out.tb.cell]; rfl
                have hJ2I : (J2 : Int) - 1 = (j : Int) := by omega
                have hjw : IntKind.i64.wrap (j : Int) = (j : Int) := by rw [IntKind.wrap_i64]; omega
                have hj0I : (0 : Int) ≤ (j : Int) := by omega
                have hjcI : (j : Int) ≤ (c10 : Int) := by omega
                have hjc : j ≤ c10 := by omega
                have fz := Blk.frozen hT10H.out.tb
                have hB10 : Below w10.heap.size w10 w10 := Below.refl _ _
                have hup : Hid (∀ w', Below w10.heap.size w10 w' → w'.cell? ⟨bt, 3, none⟩ = some (.slice (some ⟨g10, 0, none⟩) J2 c10)) := fun w' hW => Below.cellAt hW (Nat.le_refl _) c3
                clear hown10 hJ2 hc10
                go_upto_region 14 with (fail)
                -- tail S: fun w' => w'.cell? ⟨bt, 3, none⟩ = some (.slice (some ⟨g10, 0, none⟩) J2 c10)
                -- tail s0: hup.out _ (Below.drew hB10)
                -- arm 12 s: hup.out _ (Below.drew hB10)
                -- arm 13 s: hup.out _ (Below.drew hB10)
                -- tail tf 0 1 2 3 4 5 6 7 8 9 10 11 m12 m13 t14
                refine wp_region_tail (fun w' => w'.cell? ⟨bt, 3, none⟩ = some (.slice (some ⟨g10, 0, none⟩) J2 c10)) (fun j => decide (14 ≤ j)) (by kernel_rfl) (hup.out _ (Below.drew hB10)) (fun hHeld => ?_)
                refine wpAnyT_take (i := 0) (oi := ?oitf0) (v := ?vtf0) ?hotf0 (by kernel_rfl) (by kernel_rfl) (by kernel_rfl) (by kernel_rfl) ?hqtf0 (Or.inl ⟨?hwtf0, ?hytf0⟩) (by assumption) ?_
                case hotf0 => rfl
                case hwtf0 => rfl
                case hytf0 => (intro w hSw; (try dsimp only at hSw); go_split_ands; go_simp; (try (with_reducible rfl)))
                case hqtf0 => exact fun _ _ _ h => h
                simp only [Act.put, List.getElem_toArray, List.getElem_cons_zero, List.setIfInBounds_toArray, List.set_cons_zero, List.set_cons_succ]
                refine wpAnyT_take (i := 1) (oi := ?oitf1) (v := ?vtf1) ?hotf1 (by kernel_rfl) (by kernel_rfl) (by kernel_rfl) (by kernel_rfl) ?hqtf1 (Or.inl ⟨?hwtf1, ?hytf1⟩) (by assumption) ?_
                case hotf1 => rfl
                case hwtf1 => rfl
                case hytf1 => (intro w hSw; (try dsimp only at hSw); go_split_ands; go_simp; (try (with_reducible rfl)))
                case hqtf1 => exact fun _ _ _ h => h
                simp only [Act.put, List.getElem_toArray, List.getElem_cons_succ, List.getElem_cons_zero, List.setIfInBounds_toArray, List.set_cons_zero, List.set_cons_succ]
                refine wpAnyT_take (i := 2) (oi := ?oitf2) (v := ?vtf2) ?hotf2 (by kernel_rfl) (by kernel_rfl) (by kernel_rfl) (by kernel_rfl) ?hqtf2 (Or.inl ⟨?hwtf2, ?hytf2⟩) (by assumption) ?_
                case hotf2 => rfl
                case hwtf2 => rfl
                case hytf2 => (intro w hSw; (try dsimp only at hSw); go_split_ands; go_simp; (try (with_reducible rfl)))
                case hqtf2 => exact fun _ _ _ h => h
                simp only [Act.put, List.getElem_toArray, List.getElem_cons_succ, List.getElem_cons_zero, List.setIfInBounds_toArray, List.set_cons_zero, List.set_cons_succ]
                refine wpAnyT_take (i := 3) (oi := ?oitf3) (v := ?vtf3) ?hotf3 (by kernel_rfl) (by kernel_rfl) (by kernel_rfl) (by kernel_rfl) ?hqtf3 (Or.inl ⟨?hwtf3, ?hytf3⟩) (by assumption) ?_
                case hotf3 => rfl
                case hwtf3 => rfl
                case hytf3 => (intro w hSw; (try dsimp only at hSw); go_split_ands; go_simp; (try (with_reducible rfl)))
                case hqtf3 => exact fun _ _ _ h => h
                simp only [Act.put, List.getElem_toArray, List.getElem_cons_succ, List.getElem_cons_zero, List.setIfInBounds_toArray, List.set_cons_zero, List.set_cons_succ]
                refine wpAnyT_take (i := 4) (oi := ?oitf4) (v := ?vtf4) ?hotf4 (by kernel_rfl) (by kernel_rfl) (by kernel_rfl) (by kernel_rfl) ?hqtf4 (Or.inl ⟨?hwtf4, ?hytf4⟩) (by assumption) ?_
                case hotf4 => rfl
                case hwtf4 => rfl
                case hytf4 => (intro w hSw; (try dsimp only at hSw); go_split_ands; go_simp; (try (with_reducible rfl)))
                case hqtf4 => exact fun _ _ _ h => h
                simp only [Act.put, List.getElem_toArray, List.getElem_cons_succ, List.getElem_cons_zero, List.setIfInBounds_toArray, List.set_cons_zero, List.set_cons_succ]
                refine wpAnyT_take (i := 5) (oi := ?oitf5) (v := ?vtf5) ?hotf5 (by kernel_rfl) (by kernel_rfl) (by kernel_rfl) (by kernel_rfl) ?hqtf5 (Or.inl ⟨?hwtf5, ?hytf5⟩) (by assumption) ?_
                case hotf5 => rfl
                case hwtf5 => rfl
                case hytf5 => (intro w hSw; (try dsimp only at hSw); go_split_ands; go_simp; (try (with_reducible rfl)))
                case hqtf5 => exact fun _ _ _ h => h
                simp only [Act.put, List.getElem_toArray, List.getElem_cons_succ, List.getElem_cons_zero, List.setIfInBounds_toArray, List.set_cons_zero, List.set_cons_succ]
                refine wpAnyT_take (i := 6) (oi := ?oitf6) (v := ?vtf6) ?hotf6 (by kernel_rfl) (by kernel_rfl) (by kernel_rfl) (by kernel_rfl) ?hqtf6 (Or.inl ⟨?hwtf6, ?hytf6⟩) (by assumption) ?_
                case hotf6 => rfl
                case hwtf6 => rfl
                case hytf6 => (intro w hSw; (try dsimp only at hSw); go_split_ands; go_simp; (try (with_reducible rfl)))
                case hqtf6 => exact fun _ _ _ h => h
                simp only [Act.put, List.getElem_toArray, List.getElem_cons_succ, List.getElem_cons_zero, List.setIfInBounds_toArray, List.set_cons_zero, List.set_cons_succ]
                refine wpAnyT_take (i := 7) (oi := ?oitf7) (v := ?vtf7) ?hotf7 (by kernel_rfl) (by kernel_rfl) (by kernel_rfl) (by kernel_rfl) ?hqtf7 (Or.inl ⟨?hwtf7, ?hytf7⟩) (by assumption) ?_
                case hotf7 => rfl
                case hwtf7 => rfl
                case hytf7 => (intro w hSw; (try dsimp only at hSw); go_split_ands; go_simp; (try (with_reducible rfl)))
                case hqtf7 => exact fun _ _ _ h => h
                simp only [Act.put, List.getElem_toArray, List.getElem_cons_succ, List.getElem_cons_zero, List.setIfInBounds_toArray, List.set_cons_zero, List.set_cons_succ]
                refine wpAnyT_take (i := 8) (oi := ?oitf8) (v := ?vtf8) ?hotf8 (by kernel_rfl) (by kernel_rfl) (by kernel_rfl) (by kernel_rfl) ?hqtf8 (Or.inl ⟨?hwtf8, ?hytf8⟩) (by assumption) ?_
                case hotf8 => rfl
                case hwtf8 => rfl
                case hytf8 => (intro w hSw; (try dsimp only at hSw); go_split_ands; go_simp; (try (with_reducible rfl)))
                case hqtf8 => exact fun _ _ _ h => h
                simp only [Act.put, List.getElem_toArray, List.getElem_cons_succ, List.getElem_cons_zero, List.setIfInBounds_toArray, List.set_cons_zero, List.set_cons_succ]
                refine wpAnyT_take (i := 9) (oi := ?oitf9) (v := ?vtf9) ?hotf9 (by kernel_rfl) (by kernel_rfl) (by kernel_rfl) (by kernel_rfl) ?hqtf9 (Or.inl ⟨?hwtf9, ?hytf9⟩) (by assumption) ?_
                case hotf9 => rfl
                case hwtf9 => rfl
                case hytf9 => (intro w hSw; (try dsimp only at hSw); go_split_ands; go_simp; (try (with_reducible rfl)))
                case hqtf9 => exact fun _ _ _ h => h
                simp only [Act.put, List.getElem_toArray, List.getElem_cons_succ, List.getElem_cons_zero, List.setIfInBounds_toArray, List.set_cons_zero, List.set_cons_succ]
                refine wpAnyT_take (i := 10) (oi := ?oitf10) (v := ?vtf10) ?hotf10 (by kernel_rfl) (by kernel_rfl) (by kernel_rfl) (by kernel_rfl) ?hqtf10 (Or.inl ⟨?hwtf10, ?hytf10⟩) (by assumption) ?_
                case hotf10 => rfl
                case hwtf10 => rfl
                case hytf10 => (intro w hSw; (try dsimp only at hSw); go_split_ands; go_simp; (try (with_reducible rfl)))
                case hqtf10 => exact fun _ _ _ h => h
                simp only [Act.put, List.getElem_toArray, List.getElem_cons_succ, List.getElem_cons_zero, List.setIfInBounds_toArray, List.set_cons_zero, List.set_cons_succ]
                refine wpAnyT_take (i := 11) (oi := ?oitf11) (v := ?vtf11) ?hotf11 (by kernel_rfl) (by kernel_rfl) (by kernel_rfl) (by kernel_rfl) ?hqtf11 (Or.inl ⟨?hwtf11, ?hytf11⟩) (by assumption) ?_
                case hotf11 => rfl
                case hwtf11 => rfl
                case hytf11 => (intro w hSw; (try dsimp only at hSw); go_split_ands; go_simp; (try (with_reducible rfl)))
                case hqtf11 => exact fun _ _ _ h => h
                simp only [Act.put, List.getElem_toArray, List.getElem_cons_succ, List.getElem_cons_zero, List.setIfInBounds_toArray, List.set_cons_zero, List.set_cons_succ]
                refine wpAnyT_one (i := 12) (o := ?oitf12) (by kernel_rfl) ?hotf12 (fun K hK => ?_)
                case hotf12 => rfl
                rw [if_pos (by rfl)]
                go_simp
                refine hK.out _ _ (fun _ => hup.out _ (Below.drew hB10)) (fun hHeld => ?_)
                replace hHeld := hHeld rfl
                clear hK K
                refine wpAnyT_one (i := 13) (o := ?oitf13) (by kernel_rfl) ?hotf13 (fun K hK => ?_)
                case hotf13 => rfl
                rw [if_pos (by rfl)]
                go_simp
                refine hK.out _ _ (fun _ => hup.out _ (Below.drew hB10)) (fun hHeld => ?_)
                replace hHeld := hHeld rfl
                clear hK K
                refine wpAnyT_one (i := 14) (o := ?oitf14) (by kernel_rfl) ?hotf14 (fun K hK => ?_)
                case hotf14 => rfl
                rw [if_pos (by rfl)]
                go_simp
                refine hK.out _ _ (fun h0 => by cases h0) (fun _ => ?_)
                clear hK K
                refine wpAnyT_done (by kernel_rfl) ?_ _
                -- tail end
                obtain ⟨WP, hWP⟩ : ∃ WP, WP = (w10.setCell ⟨bt, 3, none⟩ (.slice (some ⟨g10, 0, none⟩) j c10)).drew := ⟨_, rfl⟩
                have hWP2 : WP = w10.drew.setCell ⟨bt, 3, none⟩ (.slice (some ⟨g10, 0, none⟩) j c10) := hWP.trans rfl
                obtain ⟨hubP, vsP, hTP⟩ := (hT10H.out.below (Below.drew hB10)).popJ hjH.out hbtH.out hbuH.out hi_H.out hk_H.out hWP2
                have hik : i ≠ k := fun h => hk_H.out (by
                  exfalso
                  have := hokik.out
                  exact this h)
                have u0 : WP.cell? ⟨bu, i, none⟩ = some (.bool true) := by have := hubP.at (usL_get hin); rw [decide_eq_true (show i ∈ ixT (t ++ [(i, k)]) by rw [ixT_snoc]; simp)] at this; exact this
                have f0 := Blk.frozen hubP i
                have ub1 := hubP.set i false
                have u1 : (WP.setCell ⟨bu, i, none⟩ (.bool false)).cell? ⟨bu, k, none⟩ = some (.bool true) := by
                  have := ub1.at (i := k) (b := true) (by rw [List.getElem?_set_ne hik, usL_get hkn, decide_eq_true (show k ∈ ixT (t ++ [(i, k)]) by rw [ixT_snoc]; simp)])
                  exact this
                have f1 := Blk.frozen ub1 k
                have hTPH := Lib.hid hTP
                rw [← hWP]
                clear hHeld hWP hWP2 hubP ub1 hTP hT10H c3 fz hup hB10
                go_wp2_with (fail)
                go_roundw
                case rel => exact ⟨k + 1, s3, _, _, _, _, _, by go_num, by omega, hTPH.out, hS3.out, hnx.out⟩
                case measure => simp [intOf]; omega
            · obtain rfl : n = k := by omega
              have hkI : ¬ (n : Int) < (n : Int) := by omega
              have hRe := hRkH.out
              rw [rowF_end (Nat.le_refl _)] at hRe
              subst hRe
              go_wp2_with (fail)
              go_roundw
              case rel => exact ⟨i + 1, s2, _, _, _, _, _, by go_num, by omega, hT2.out, hS2.out, hR2H.out⟩
              case measure => simp [intOf]; omega
      · obtain rfl : n = i := by omega
        have hiI : ¬ (n : Int) < (n : Int) := by omega
        have hRe := hRiH.out
        rw [rowF_end (Nat.le_refl _)] at hRe
        subst hRe
        go_wp2_with (fail)
        refine bodyPost_ret (results_none rfl _ _ _) rfl ?_
        exact ⟨rfl, _, _, _, _, _, hT1.out⟩
end Go.Proofs.YtbehfhmdilifkaaGreat
