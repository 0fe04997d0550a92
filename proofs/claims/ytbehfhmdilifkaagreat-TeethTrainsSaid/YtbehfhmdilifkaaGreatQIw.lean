/- Iw -/
import Derived.Test.YtbehfhmdilifkaaGreatQIv
set_option linter.unusedVariables false
/- The recursion of the reference's trainer. (Printed by wip/tools/gen_iw.py.) -/
namespace Go.Proofs.YtbehfhmdilifkaaGreat
open Go Go.RowKit Go.Proofs

def TrainerP (w0 : World) (n o u : Nat) (aw : Option Addr) (cw bt bu : Nat) (t : Tr) (s : Bt) (e : Ending) (w' : World) : Prop := e = .returned (.tuple #[]) ∧ ∃ (v bw : Value) (vs : List Value) (nu de : Int), TI w0 w' n o u aw cw bt bu t s v bw vs nu de
theorem own_cells {w : World} {base n g c : Nat} {vs : List Value} (h : w.ownsRow base 23 1 (.slice (some ⟨g, 0, none⟩) n c) n vs) : ∀ (j : Nat) (u : Value), vs[j]? = some u → w.cell? ⟨g, j, none⟩ = some u := fun j u hu => by
  rw [h.cellAt j (by rw [← h.1]; exact (List.getElem?_eq_some_iff.1 hu).1)]
  exact hu
theorem hgg_of {g9 a n c x y z : Nat} (h : (Value.slice (some ⟨g9, 0, none⟩) n c).ownBlock = (Value.slice (some ⟨a, 0, none⟩) x y).ownBlock ∨ (Value.slice (some ⟨g9, 0, none⟩) n c).ownBlock = some z) (hz : a ≤ z) : a ≤ g9 := by
  rcases h with h | h
  · simp [Value.ownBlock] at h; omega
  · simp [Value.ownBlock] at h; omega
theorem ifuse {t : Tr} {i : Nat} {b : Bool} (h : decide (i ∈ ixT t) = b) : (i ∈ ixT t) ↔ b = true := by rw [← h]; simp
set_option maxRecDepth 100000 in
set_option maxHeartbeats 25600000 in
theorem tryR_leaf (w0 : World) (o u n L : Nat) (aw : Option Addr) (cw bt bu : Nat) (ho : o ≤ 1000000) (hu1 : 1 ≤ u) (hu : u ≤ 1000000) (hL1 : 1 ≤ L) (hL3 : L ≤ 3) (hbt : w0.heap.size ≤ bt)
    (t : Tr) (p q : Nat) (s : Bt) (v bw : Value) (vs : List Value) (nu de : Int) (W : World) (htl : t.length = L) (hTI : TI w0 W n o u aw cw bt bu t s v bw vs nu de) (hp2 : p ≤ 1000000000) (hq1 : 1 ≤ q) (hq2 : q ≤ 1000000000) (hS : StT L n s) :
    Calls Tryz.prog 50 #[.pointer (some ⟨bt, 0, none⟩), .int .i64 0, .int .i64 (p : Nat), .int .i64 (q : Nat), .slice (some ⟨bu, 0, none⟩) n n] W (TrainerP w0 n o u aw cw bt bu t (updT o u s t p q)) := by
  have hown := hTI.own
  rw [htl] at hown
  obtain ⟨gn, cn, hv, hgn, hgl, hcn⟩ := own_head hown (by omega)
  subst hv
  have hTH := Lib.hid hTI
  have htlH := Lib.hid htl
  have hSH := Lib.hid hS
  have hWs := hTI.bl.size
  have hbtl := hTI.tb.lt
  have hvl := Lib.hid (show vs.length = L by rw [hTI.rv.1]; exact htl)
  have hone := Lib.hid hTI.rv.one
  have hce := Lib.hid (own_cells hown)
  have x3 : W.cell? ⟨bt, 3, none⟩ = some (.slice (some ⟨gn, 0, none⟩) L cn) := by rw [hTI.tb.cell]; rfl
  have x4 : W.cell? ⟨bt, 4, none⟩ = some bw := by rw [hTI.tb.cell]; rfl
  clear hown hTI htl hS
  rcases s with _ | ⟨t', p', q'⟩
  · have hbw : bw = .slice none 0 0 := hTH.out.bv
    subst hbw
    have e0 := eql_nilR0
    go_enter Tryz.func50, Tryz.ntmps50
    go_wp2_with
      (at_builtin; go_loud (refine wpList_append_vs _ rfl (.tmp 28) (.tmp 32) _ rfl Tryz.underlying44 w0.heap.size 0 _ [] (by rfl) (World.ownsRow_lit (base := w0.heap.size) (size := 1) (e := 23) W #[] 0 hWs (by unfold maxLen; omega) rfl) gn L cn vs (by rfl) hvl.out (fun j u hu => Below.cellAt (below_al (Below.refl _ _) _) (Nat.le_refl _) (hce.out j u hu)) hone.out (by omega) (by omega) (by simp; omega) ?_); intro v9 w9 hO9 hg9 ho9; rw [Nat.zero_add, List.nil_append] at hO9; obtain ⟨g9, c9, hv9, _⟩ := own_head hO9 (by omega); subst hv9; have hb9 : Below W.heap.size W w9 := (below_al (Below.refl _ _) _).grown hg9 (by simp) (fun g hg => by simp [Value.ownBlock] at hg; omega); have hgg : W.heap.size ≤ g9 := hgg_of ho9 (by simp); have hO9H := Lib.hid hO9; have tb9 := Blk.later hTH.out.tb hb9; have r4 := tb9.cell 4; have r5 := tb9.cell 5; have r6 := tb9.cell 6; have f4 := tb9.frozen 4; have f5 := tb9.frozen 5; have f6 := tb9.frozen 6; clear hO9 hg9 ho9 tb9)
    refine bodyPost_ret (results_none rfl _ _ _) rfl ?_
    rw [show updT o u none t p q = some (t, p, q) from rfl]
    have htl2 := htlH.out
    subst htl2
    exact ⟨rfl, _, _, _, _, _, hTH.out.best hbt hb9 hO9H.out rfl hgg⟩
  · obtain ⟨g', c', vs', hbw, _⟩ := hTH.out.bv
    obtain ⟨hl', hp1', hp2', hq1', hq2', hx'⟩ := hSH.out _ _ _ rfl
    rw [hl'] at hbw
    subst hbw
    have e1 := eql_nilR1
    obtain ⟨b, hb⟩ : ∃ b, closerB o u p q p' q' = b := ⟨_, rfl⟩
    have hcl := Lib.hid (tcloser_any w0 W n o u aw cw bt bu t t' p' q' _ _ vs nu de hTH.out p q ho hu hp2 hq2 hp2' hq2' b hb)
    have hbH := Lib.hid hb
    clear hb hl' hx'
    cases b with
    | true =>
      go_enter Tryz.func50, Tryz.ntmps50
      go_wp2_with (first
        | (go_at_call 82; (with_reducible refine hcl.out.mono ?_); rintro e w5 ⟨rfl, hb⟩; have hT5 := Lib.hid (hTH.out.below hb); have hce5 := Lib.hid (fun j u hu => Below.cellAt hb (Nat.le_refl _) (hce.out j u hu)); have y3 : w5.cell? ⟨bt, 3, none⟩ = some (.slice (some ⟨gn, 0, none⟩) L cn) := Below.cellAt hb (Nat.le_refl _) x3; have hw5 : w0.heap.size ≤ w5.heap.size := Nat.le_trans hWs hb.size; have hgn5 : gn < w5.heap.size := Nat.lt_of_lt_of_le hgl hb.size; have hbt5 : bt < w5.heap.size := Nat.lt_of_lt_of_le hbtl hb.size; clear hb)
        | (at_builtin; go_loud (refine wpList_append_vs _ rfl (.tmp 28) (.tmp 32) _ rfl Tryz.underlying44 w0.heap.size 0 _ [] (by rfl) (World.ownsRow_lit (base := w0.heap.size) (size := 1) (e := 23) w5 #[] 0 hw5 (by unfold maxLen; omega) rfl) gn L cn vs (by rfl) hvl.out (fun j u hu => Below.cellAt (below_al (Below.refl _ _) _) (Nat.le_refl _) (hce5.out j u hu)) hone.out (by omega) (by omega) (by simp; omega) ?_); intro v9 w9 hO9 hg9 ho9; rw [Nat.zero_add, List.nil_append] at hO9; obtain ⟨g9, c9, hv9, _⟩ := own_head hO9 (by omega); subst hv9; have hb9 : Below w5.heap.size w5 w9 := (below_al (Below.refl _ _) _).grown hg9 (by simp) (fun g hg => by simp [Value.ownBlock] at hg; omega); have hgg : w5.heap.size ≤ g9 := hgg_of ho9 (by simp); have hO9H := Lib.hid hO9; have tb9 := Blk.later hT5.out.tb hb9; have r4 := tb9.cell 4; have r5 := tb9.cell 5; have r6 := tb9.cell 6; have f4 := tb9.frozen 4; have f5 := tb9.frozen 5; have f6 := tb9.frozen 6; clear hO9 hg9 ho9 tb9))
      refine bodyPost_ret (results_none rfl _ _ _) rfl ?_
      rw [updT_yes hbH.out]
      have htl2 := htlH.out
      subst htl2
      exact ⟨rfl, _, _, _, _, _, hT5.out.best hbt hb9 hO9H.out rfl hgg⟩
    | false =>
      go_enter Tryz.func50, Tryz.ntmps50
      go_wp2_with (go_at_call 82; (with_reducible refine hcl.out.mono ?_); rintro e w5 ⟨rfl, hb⟩; have hT5 := Lib.hid (hTH.out.below hb); clear hb)
      refine bodyPost_ret (results_none rfl _ _ _) rfl ?_
      rw [updT_no hbH.out]
      exact ⟨rfl, _, _, _, _, _, hT5.out⟩
end Go.Proofs.YtbehfhmdilifkaaGreat
