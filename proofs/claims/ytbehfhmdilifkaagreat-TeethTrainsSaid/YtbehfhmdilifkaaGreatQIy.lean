/- Iy -/
import Derived.Test.YtbehfhmdilifkaaGreatQIx
import Derived.Test.YtbehfhmdilifkaaGreatQIt
import Derived.Laws.MakeOwn
import Derived.Laws.EntriesVeiled
import Derived.Laws.NewBlocks
set_option linter.unusedVariables false
/- Walk of the reference's Train. -/
namespace Go.Proofs.YtbehfhmdilifkaaGreat
open Go Go.RowKit Go.Proofs

theorem info_boolJ : (Tryz.prog.info? 4).map (fun i => (i.zero, i.size, i.bytes)) = some (some (.bool false), 1, 1) := by kernel_rfl
/-- 'make' of n Booleans, as a block that is known whole. -/
theorem wpList_make_bools (w : World) {ops : Array Oper} {rest : List Oper} {o : Oper} {a : Act} {Q : Exit → Act → World → Prop}
    (hg : o.guard = none) (l : Operand) (hop : o.op = Op.makeSlice 89 l l) (n : Nat) (hl : a.eval l = .int .i64 (n : Nat)) (hn : n ≤ 10000000000)
    (hK : ∀ w', BBlk w' w.heap.size (List.replicate n false) → Below w.heap.size w w' → wpList Tryz.prog ops Q rest (a.put o.dst (.slice (some ⟨w.heap.size, 0, none⟩) n n)) w') :
    wpList Tryz.prog ops Q (o :: rest) a w := by
  obtain ⟨i, h2, h3, h4, h5⟩ := info_parts info_boolJ
  refine wpList_make_full w hg l l _ hop w.heap.size 4 i (.bool false) 1 Tryz.underlying89 h2 h3 h4 .i64 .i64 (n : Nat) (n : Nat) n hl hl rfl rfl ?_ ?_ (Nat.le_refl _) ?_
  · rw [h5]; omega
  · unfold maxLen; omega
  · intro w' hown hgr
    refine hK w' ?_ ((Below.refl _ _).grown hgr (Nat.le_refl _) (fun k hk => by cases hk))
    have := blk_of_own hown
    have e : (madeCells (Value.bool false).cells (n * 1)).toList = (List.replicate n false).map (fun b : Bool => Value.bool b) := by
      rw [Nat.mul_one]
      show (madeCells #[Value.bool false] n).toList = _
      rw [toList_madeCells_one]
      simp
    rw [e] at this
    exact this
theorem usL_nil (n : Nat) : usL n [] = List.replicate n false := by
  apply List.ext_getElem?
  intro j
  by_cases hj : j < n
  · rw [usL_get hj, List.getElem?_replicate, if_pos hj]; rfl
  · rw [List.getElem?_eq_none (by rw [usL_len]; omega), List.getElem?_eq_none (by rw [List.length_replicate]; omega)]
def TrRPost (s : Bt) (w : World) (e : Ending) (w' : World) : Prop := ∃ (a : Option Addr) (c : Nat), e = .returned (.slice a (resT s).length c) ∧ IMx w' a (rowsT (resT s)) ∧ Below w.heap.size w w'
set_option maxRecDepth 100000 in
set_option maxHeartbeats 12800000 in
theorem trainR_good (o u L : Nat) (aw : Option Addr) (m cw : Nat) (ws : List Nat) (w : World) (h : IZ w aw (nzT ws)) (hm : ws.length = m) (hok : trOk o u L m (nzT ws) = true) (R : Bt) (hR : tryT o u m (wf ws) L [] 1 1 none = R) :
    Calls Tryz.prog 19 #[.int .i64 (o : Nat), .int .i64 (u : Nat), .slice aw m cw, .int .i64 (L : Nat)] w (TrRPost R w) := by
  obtain ⟨ho1, ho2, hu1, hu2, hk1, hk2, hm10, hwr⟩ := trOk_nat hok
  have hwr2 : ∀ x ∈ ws, 1 ≤ x ∧ x ≤ 1000 := fun x hx => by
    have := hwr (x : Int) (by unfold nzT; exact List.mem_map_of_mem hx)
    omega
  have hrec := Lib.hid (tryR_any w o u m L ws aw cw w.heap.size (w.heap.size + 1) h hm hm10 hwr2 (by omega) (by omega) (by omega) (by omega) (by omega) (Nat.le_refl _) (Nat.le_succ _) L [] 1 1 0 none)
  obtain ⟨V, hV⟩ : ∃ V, V = w.alloc (Obj.cells #[.int .i64 (o : Nat), .int .i64 (u : Nat), .slice aw m cw, .slice none 0 0, .slice none 0 0, .int .i64 0, .int .i64 0] 87) := ⟨_, rfl⟩
  have hbV : Below w.heap.size w V := by rw [hV]; exact below_al (Below.refl _ _) _
  have hBV : Blk V w.heap.size 87 [.int .i64 (o : Nat), .int .i64 (u : Nat), .slice aw m cw, .slice none 0 0, .slice none 0 0, .int .i64 0, .int .i64 0] := by rw [hV]; exact World.alloc_heap_new w _
  have hVs : V.heap.size = w.heap.size + 1 := by rw [hV]; simp
  have hVs2 : (w.alloc (Obj.cells #[.int .i64 (o : Nat), .int .i64 (u : Nat), .slice aw m cw, .slice none 0 0, .slice none 0 0, .int .i64 0, .int .i64 0] 87)).heap.size = w.heap.size + 1 := by simp
  have hbVH := Lib.hid hbV
  have hBVH := Lib.hid hBV
  have hVsH := Lib.hid hVs
  have hRH := Lib.hid hR
  clear hok h hm hwr hwr2 hbV hBV hVs hVs2 hR
  go_enter Tryz.func19, Tryz.ntmps19
  go_upto_region 2 with (fail)
  rw [← hV]
  clear hV
  have hcall : Hid (∀ W, TI w W m o u aw cw w.heap.size (w.heap.size + 1) [] none (.slice none 0 0) (.slice none 0 0) [] 0 0 → Calls Tryz.prog 50 #[.pointer (some ⟨w.heap.size, 0, none⟩), .int .i64 (L : Nat), .int .i64 1, .int .i64 1, .slice (some ⟨w.heap.size + 1, 0, none⟩) m m] W (TrainerP w m o u aw cw w.heap.size (w.heap.size + 1) [] R)) := fun W hT => by
    have := hrec.out _ _ _ _ _ W rfl (Nat.zero_add L) hT (fun x hx => by simp at hx) Pw.one Pw.one (fun t p q h => by cases h)
    rw [hRH.out] at this
    exact this
  clear hrec
  go_upto_region 3 with (first
    | (at_make; go_loud (refine wpList_make_bools _ rfl (.tmp 18) rfl m (by rfl) (by omega) ?_); intro w2 hS2 hb2; rw [hVsH.out] at hS2 ⊢; have hT2 : Hid (TI w w2 m o u aw cw w.heap.size (w.heap.size + 1) [] none (.slice none 0 0) (.slice none 0 0) [] 0 0) := ⟨World.ownsRow_nil _ _ _ _, RV.nil _, hBVH.out.later hb2, by rw [usL_nil]; exact hS2, rfl, bseqT hbVH.out hb2⟩; clear hS2 hb2)
    | (go_at_call 50; (with_reducible refine (hcall.out _ hT2.out).mono ?_); rintro e w3 ⟨rfl, v3, bw3, vs3, nu3, de3, hT3⟩; have hT3H := Lib.hid hT3; have x4 : w3.cell? ⟨w.heap.size, 4, none⟩ = some bw3 := (by rw [hT3.tb.cell]; rfl); clear hT3))
  have hbl := Lib.hid hT3H.out.bl
  rcases R with _ | ⟨t, p, q⟩
  · have hb3 : bw3 = .slice none 0 0 := hT3H.out.bv
    subst hb3
    go_wp2_with (fail)
    go_ret
    exact ⟨none, 0, rfl, ⟨[], fun i v h => by simp at h, rfl, fun i v xs h => by simp at h⟩, hbl.out⟩
  · obtain ⟨g, c, vs, hb3, hO, hV, _⟩ := hT3H.out.bv
    subst hb3
    have hI := Lib.hid (hV.imx hO)
    clear hO hV
    go_wp2_with (fail)
    go_ret
    exact ⟨some ⟨g, 0, none⟩, c, rfl, hI.out, hbl.out⟩
end Go.Proofs.YtbehfhmdilifkaaGreat
