/- Iv -/
import Derived.Test.YtbehfhmdilifkaaGreatQIu
set_option linter.unusedVariables false
/- The trainer's memory: the best train is written; a pair is added and taken away. -/
namespace Go.Proofs.YtbehfhmdilifkaaGreat
open Go Go.RowKit Go.Proofs

theorem own_head {w : World} {base n : Nat} {v : Value} {vs : List Value} (h : w.ownsRow base 23 1 v n vs) (h0 : 0 < n) : ∃ g c, v = .slice (some ⟨g, 0, none⟩) n c ∧ base ≤ g ∧ g < w.heap.size ∧ n ≤ c := by
  rcases h.2 with ⟨_, h1⟩ | ⟨g, cap, cur, hv, hb, hh, hn, _⟩
  · omega
  · exact ⟨g, cap, hv, hb, (Array.getElem?_eq_some_iff.1 hh).1, hn⟩
theorem own_not {w : World} {base n b T : Nat} {v : Value} {vs cs : List Value} (h : w.ownsRow base 23 1 v n vs) (hb : Blk w b T cs) (hT : T ≠ 23) : v.ownBlock ≠ some b := fun e => by
  obtain ⟨cur, hc⟩ := own_ty h b e
  have h1 : some (Obj.cells cs.toArray T (0, 0)) = some (Obj.cells cur 23 (0, 0)) := by rw [← (show w.heap[b]? = _ from hb), hc]
  injection h1 with h1
  injection h1 with _ h1
  exact hT h1
theorem own_set {w : World} {base n b i T : Nat} {v : Value} {vs cs : List Value} (h : w.ownsRow base 23 1 v n vs) (hb : Blk w b T cs) (hT : T ≠ 23) (u : Value) : (w.setCell ⟨b, i, none⟩ u).ownsRow base 23 1 v n vs :=
  ownsRow_setCell_other h (own_not h hb hT) u
theorem BV.set {W : World} {N : Nat} {v bv : Value} {nu de : Int} {s : Bt} {b i T : Nat} {cs : List Value} (h : BV W N v bv nu de s) (hb : Blk W b T cs) (hT : T ≠ 23) (hT2 : T ≠ 3) (u : Value) : BV (W.setCell ⟨b, i, none⟩ u) N v bv nu de s := by
  rcases s with _ | ⟨t, p, q⟩
  · exact h
  · obtain ⟨g, c, vs, h1, h2, h3, h4, h5, h6⟩ := h
    exact ⟨g, c, vs, h1, own_set h2 hb hT u, h3.keep (KI.set hb hT2 i u), h4, h5, h6⟩
section
variable {w0 W : World} {n o u : Nat} {aw : Option Addr} {cw bt bu : Nat} {t : Tr} {s : Bt} {v bv : Value} {vs : List Value} {nu de : Int}
theorem TI.ne (h : TI w0 W n o u aw cw bt bu t s v bv vs nu de) : bt ≠ bu := fun e => by
  subst e
  exact absurd (blk_ty h.tb h.ub) (by decide)
/-- A field of the trainer is written that is not the best one, nor its numbers. -/
theorem TI.useB (h : TI w0 W n o u aw cw bt bu t s v bv vs nu de) (hbu : w0.heap.size ≤ bu) (i : Nat) (b : Bool) : w0.heap.size ≤ (W.setCell ⟨bu, i, none⟩ (.bool b)).heap.size ∧ (W.setCell ⟨bu, i, none⟩ (.bool b)).ownsRow w0.heap.size 23 1 v t.length vs ∧ RV (W.setCell ⟨bu, i, none⟩ (.bool b)) vs t ∧ Blk (W.setCell ⟨bu, i, none⟩ (.bool b)) bt 87 [.int .i64 (o : Nat), .int .i64 (u : Nat), .slice aw n cw, v, bv, .int .i64 nu, .int .i64 de] ∧ BBlk (W.setCell ⟨bu, i, none⟩ (.bool b)) bu ((usL n t).set i b) ∧ BV (W.setCell ⟨bu, i, none⟩ (.bool b)) w0.heap.size v bv nu de s ∧ Below w0.heap.size w0 (W.setCell ⟨bu, i, none⟩ (.bool b)) :=
  ⟨by simp [World.setCell]; exact h.bl.size, own_set h.own h.ub (by decide) _, h.rv.keep (KI.set h.ub (by decide) i _), Blk.far h.tb (by exact h.ne) _, h.ub.set i b, h.bv.set h.ub (by decide) (by decide) _, h.bl.setCell hbu _⟩
/-- The best train is written. -/
theorem TI.best {w9 : World} {v9 : Value} {g9 c9 p q : Nat} (h : TI w0 W n o u aw cw bt bu t s v bv vs nu de) (hbt : w0.heap.size ≤ bt) (hb : Below W.heap.size W w9) (hO : w9.ownsRow w0.heap.size 23 1 v9 t.length vs) (hv : v9 = .slice (some ⟨g9, 0, none⟩) t.length c9) (hg : W.heap.size ≤ g9) :
    TI w0 (((w9.setCell ⟨bt, 4, none⟩ v9).setCell ⟨bt, 5, none⟩ (.int .i64 (p : Nat))).setCell ⟨bt, 6, none⟩ (.int .i64 (q : Nat))) n o u aw cw bt bu t (some (t, p, q)) v v9 vs (p : Nat) (q : Nat) := by
  have h9 := h.below hb
  have t1 := Blk.set h9.tb 4 v9
  have t2 := Blk.set t1 5 (.int .i64 (p : Nat))
  have k1 : KI w9 (((w9.setCell ⟨bt, 4, none⟩ v9).setCell ⟨bt, 5, none⟩ (.int .i64 (p : Nat))).setCell ⟨bt, 6, none⟩ (.int .i64 (q : Nat))) := ((KI.set h9.tb (by decide) 4 v9).trans (KI.set t1 (by decide) 5 _)).trans (KI.set t2 (by decide) 6 _)
  refine ⟨own_set (own_set (own_set h9.own h9.tb (by decide) _) t1 (by decide) _) t2 (by decide) _, h9.rv.keep k1, Blk.set t2 6 _, Blk.far (Blk.far (Blk.far h9.ub (by exact h.ne.symm) _) (by exact h.ne.symm) _) (by exact h.ne.symm) _, ⟨g9, c9, vs, hv, own_set (own_set (own_set hO h9.tb (by decide) _) t1 (by decide) _) t2 (by decide) _, h9.rv.keep k1, fun e => ?_, rfl, rfl⟩, ((h9.bl.setCell hbt _).setCell hbt _).setCell hbt _⟩
  have := (h.own.lt g9 e).2
  omega
/-- A pair is added. -/
theorem TI.push {i k : Nat} {WU WL w9 : World} {v9 : Value} (h : TI w0 W n o u aw cw bt bu t s v bv vs nu de) (hbt : w0.heap.size ≤ bt) (hbu : w0.heap.size ≤ bu)
    (hU : WU = (W.setCell ⟨bu, i, none⟩ (.bool true)).setCell ⟨bu, k, none⟩ (.bool true)) (hL : WL = (WU.alloc (Obj.cells #[.int .i64 (i : Nat), .int .i64 (k : Nat)] 3)).alloc (Obj.cells #[.slice (some ⟨WU.heap.size, 0, none⟩) 2 2] 23))
    (hO : w9.ownsRow w0.heap.size 23 1 v9 (t.length + 1) (vs ++ [.slice (some ⟨WU.heap.size, 0, none⟩) 2 2])) (hg : WL.grownBy w9 v.ownBlock) (ho : v9.ownBlock = v.ownBlock ∨ v9.ownBlock = some WL.heap.size) :
    TI w0 (w9.setCell ⟨bt, 3, none⟩ v9) n o u aw cw bt bu (t ++ [(i, k)]) s v9 bv (vs ++ [.slice (some ⟨WU.heap.size, 0, none⟩) 2 2]) nu de ∧ Blk w9 bt 87 [.int .i64 (o : Nat), .int .i64 (u : Nat), .slice aw n cw, v, bv, .int .i64 nu, .int .i64 de] := by
  obtain ⟨_, a1, a2, a3, a4, a5, a6⟩ := h.useB hbu i true
  have hne := h.ne
  have a4' : BBlk WU bu (usL n (t ++ [(i, k)])) := by rw [hU, ← usL_put]; exact a4.set k true
  have a1' : WU.ownsRow w0.heap.size 23 1 v t.length vs := by rw [hU]; exact own_set a1 a4 (by decide) _
  have a2' : RV WU vs t := by rw [hU]; exact a2.keep (KI.set a4 (by decide) k _)
  have a3' : Blk WU bt 87 [.int .i64 (o : Nat), .int .i64 (u : Nat), .slice aw n cw, v, bv, .int .i64 nu, .int .i64 de] := by rw [hU]; exact Blk.far a3 (by exact hne) _
  have a5' : BV WU w0.heap.size v bv nu de s := by rw [hU]; exact a5.set a4 (by decide) (by decide) _
  have a6' : Below w0.heap.size w0 WU := by rw [hU]; exact a6.setCell hbu _
  have hTU : WU.heap.size = W.heap.size := by rw [hU]; simp [World.setCell]
  obtain ⟨WR, hR⟩ : ∃ WR, WR = WU.alloc (Obj.cells #[.int .i64 (i : Nat), .int .i64 (k : Nat)] 3) := ⟨_, rfl⟩
  have rb : Blk WR WU.heap.size 3 [.int .i64 (i : Nat), .int .i64 (k : Nat)] := by rw [hR]; exact World.alloc_heap_new WU _
  have b1 : Below WU.heap.size WU WR := by rw [hR]; exact below_al (Below.refl _ _) _
  have b2 : Below WR.heap.size WR WL := by rw [hL, ← hR]; exact below_al (Below.refl _ _) _
  have bL : Below WU.heap.size WU WL := bseqT b1 b2
  have rbL := rb.later b2
  have a3L := a3'.later bL
  have a4L : BBlk WL bu (usL n (t ++ [(i, k)])) := Blk.later a4' bL
  have oL : WL.ownsRow w0.heap.size 23 1 v t.length vs := a1'.kept ⟨bL.os, bL.tape, bL.output, bL.size, fun k hk _ => bL.block k hk⟩ (row := none) (by cases hv : v.ownBlock with | none => exact .inl rfl | some g => exact .inr (by simp))
  have kg : KI WL w9 := KI.grown hg (own_ty oL)
  have kU : KI WU w9 := (KI.below bL).trans kg
  have n1 : v.ownBlock ≠ some bt := own_not oL a3L (by decide)
  have n2 : v.ownBlock ≠ some bu := own_not oL a4L (by decide)
  have tb9 : Blk w9 bt 87 [.int .i64 (o : Nat), .int .i64 (u : Nat), .slice aw n cw, v, bv, .int .i64 nu, .int .i64 de] := (hg.block bt a3L.lt fun e => n1 e.symm).trans a3L
  have ub9 : BBlk w9 bu (usL n (t ++ [(i, k)])) := (hg.block bu (Blk.lt a4L) fun e => n2 e.symm).trans a4L
  have rv9 : RV w9 (vs ++ [.slice (some ⟨WU.heap.size, 0, none⟩) 2 2]) (t ++ [(i, k)]) := (a2'.keep kU).snoc (kg _ _ rbL)
  have bl9 : Below w0.heap.size w0 w9 := (a6'.trans (bL.mono a6'.size)).grown hg (Nat.le_trans a6'.size bL.size) (fun g hg' => (oL.lt g hg').1)
  have bv9 : BV w9 w0.heap.size v9 bv nu de s := by
    have hB9 : BV w9 w0.heap.size v bv nu de s := a5'.keep kU (fun g hg1 hg2 => by
      have hlt : g < WU.heap.size := by
        rcases s with _ | ⟨t', p', q'⟩
        · have := h.bv; unfold BV at this; rw [this] at hg1; cases hg1
        · obtain ⟨g', c, vs', e1, e2, _⟩ := h.bv
          rw [hTU]; exact (e2.lt g hg1).2
      exact (hg.block g (Nat.lt_of_lt_of_le hlt bL.size) fun e => hg2 e.symm).trans (bL.block g hlt))
    rcases s with _ | ⟨t', p', q'⟩
    · exact hB9
    · obtain ⟨g', c, vs', e1, e2, e3, e4, e5, e6⟩ := hB9
      refine ⟨g', c, vs', e1, e2, e3, ?_, e5, e6⟩
      rcases ho with ho | ho
      · rw [ho]; exact e4
      · rw [ho]
        intro e
        injection e with e
        obtain ⟨g2, c2, vs2, f1, f2, _⟩ := h.bv
        have : g2 = g' := by rw [f1] at e1; injection e1 with e1; injection e1 with e1; injection e1 with e1
        subst this
        have h1 := (f2.lt g2 (by rw [f1]; rfl)).2
        have h2 := bL.size
        omega
  have hl1 : (t ++ [(i, k)]).length = t.length + 1 := by rw [List.length_append]; rfl
  refine ⟨⟨?_, rv9.keep (KI.set tb9 (by decide) 3 _), Blk.set tb9 3 v9, Blk.far ub9 (by exact hne.symm) _, bv9.set tb9 (by decide) (by decide) _, bl9.setCell hbt _⟩, tb9⟩
  rw [hl1]
  exact own_set hO tb9 (by decide) _
/-- The pair is taken away. -/
theorem TI.pop {i k g c : Nat} {vs' : List Value} {WP : World} (h : TI w0 W n o u aw cw bt bu (t ++ [(i, k)]) s (.slice (some ⟨g, 0, none⟩) (t.length + 1) c) bv vs' nu de) (hbt : w0.heap.size ≤ bt) (hbu : w0.heap.size ≤ bu) (hi : i ∉ ixT t) (hk : k ∉ ixT t)
    (hP : WP = W.setCell ⟨bt, 3, none⟩ (.slice (some ⟨g, 0, none⟩) t.length c)) :
    BBlk WP bu (usL n (t ++ [(i, k)])) ∧ ∃ vs2, TI w0 ((WP.setCell ⟨bu, i, none⟩ (.bool false)).setCell ⟨bu, k, none⟩ (.bool false)) n o u aw cw bt bu t s (.slice (some ⟨g, 0, none⟩) t.length c) bv vs2 nu de := by
  have hne := h.ne
  have hl1 : (t ++ [(i, k)]).length = t.length + 1 := by rw [List.length_append]; rfl
  have hlv : vs'.length = t.length + 1 := by rw [h.rv.1, hl1]
  obtain ⟨vs2, u2, rfl⟩ : ∃ a b, vs' = a ++ [b] := ⟨vs'.dropLast, vs'.getLast (by intro e; rw [e] at hlv; cases hlv), (List.dropLast_concat_getLast _).symm⟩
  have hl2 : vs2.length = t.length := by simpa using hlv
  have o1 : W.ownsRow w0.heap.size 23 1 (.slice (some ⟨g, 0, none⟩) t.length c) t.length vs2 := by
    have := h.own
    rw [hl1] at this
    exact ownsRow_pop (size := 1) (by omega) this
  have ub1 : BBlk WP bu (usL n (t ++ [(i, k)])) := by rw [hP]; exact Blk.far h.ub (by exact hne.symm) _
  have tb1 : Blk WP bt 87 [.int .i64 (o : Nat), .int .i64 (u : Nat), .slice aw n cw, .slice (some ⟨g, 0, none⟩) t.length c, bv, .int .i64 nu, .int .i64 de] := by rw [hP]; exact Blk.set h.tb 3 _
  have o2 : WP.ownsRow w0.heap.size 23 1 (.slice (some ⟨g, 0, none⟩) t.length c) t.length vs2 := by rw [hP]; exact own_set o1 h.tb (by decide) _
  have rv1 : RV WP vs2 t := by rw [hP]; exact h.rv.pop.keep (KI.set h.tb (by decide) 3 _)
  have bv1 : BV WP w0.heap.size (.slice (some ⟨g, 0, none⟩) t.length c) bv nu de s := by
    rw [hP]
    have := h.bv.set (i := 3) h.tb (by decide) (by decide) (.slice (some ⟨g, 0, none⟩) t.length c)
    rcases s with _ | ⟨t', p', q'⟩
    · exact this
    · exact this
  have bl1 : Below w0.heap.size w0 WP := by rw [hP]; exact h.bl.setCell hbt _
  have ub2 := ub1.set i false
  refine ⟨ub1, vs2, ?_, ?_, ?_, ?_, ?_, ?_⟩
  · exact own_set (own_set o2 ub1 (by decide) _) ub2 (by decide) _
  · exact rv1.keep ((KI.set ub1 (by decide) i _).trans (KI.set ub2 (by decide) k _))
  · exact Blk.far (Blk.far tb1 (by exact hne) _) (by exact hne) _
  · rw [← usL_back hi hk]; exact ub2.set k false
  · exact (bv1.set ub1 (by decide) (by decide) _).set ub2 (by decide) (by decide) _
  · exact (bl1.setCell hbu _).setCell hbu _
end
end Go.Proofs.YtbehfhmdilifkaaGreat
