/- Iq -/
import Derived.Test.YtbehfhmdilifkaaGreatQIp
import Derived.Test.YtbehfhmdilifkaaGreatQTj
set_option linter.unusedVariables false
/- The memory of Train's recursion: boxes of fractions, the best train in its two boxes. -/
namespace Go.Proofs.YtbehfhmdilifkaaGreat
open Go Go.RowKit Go.Proofs

def rowsT (t : Tr) : List (List Int) := t.map fun x => [(x.1 : Int), (x.2 : Int)]
theorem rowsT_length (t : Tr) : (rowsT t).length = t.length := by unfold rowsT; rw [List.length_map]
theorem rowsT_snoc (t : Tr) (i k : Nat) : rowsT (t ++ [(i, k)]) = rowsT t ++ [[(i : Int), (k : Int)]] := by unfold rowsT; rw [List.map_append]; rfl
theorem Dg.fr {bb bc : Nat} {w w' : World} {K : IntKind} {ao : Option Addr} {xs : List Nat} (hI : Dg K w ao xs) (h : Fr bb bc w w') (n1 : NoInt w bb) (n2 : NoInt w bc) : Dg K w' ao xs := fun i x hx => by
  obtain ⟨b, o', ha, hc⟩ := hI i x hx
  exact ⟨b, o', ha, h.icell n1 n2 hc⟩
theorem RM.fr {bb bc : Nat} {w w' : World} {a a' : Option Addr} {c c' : Nat} {q : Rat} (hI : RM w a c a' c' q) (h : Fr bb bc w w') (n1 : NoInt w bb) (n2 : NoInt w bc) : RM w' a c a' c' q :=
  ⟨⟨hI.1.1, hI.1.2.fr h n1 n2⟩, ⟨hI.2.1, hI.2.2.fr h n1 n2⟩⟩
/-- A box holds a fraction. -/
structure RB (W : World) (b : Nat) (q : Rat) (a : Option Addr) (c : Nat) (a' : Option Addr) (c' : Nat) : Prop where
  blk : Blk W b 67 [.bool (ng (rn q)), .slice a (LI (rn q)) c, .bool (ng (rd q)), .slice a' (LI (rd q)) c']
  rm : RM W a c a' c' q
theorem RB.up {W W' : World} {b : Nat} {q : Rat} {a : Option Addr} {c : Nat} {a' : Option Addr} {c' : Nat} (h : RB W b q a c a' c') (hb : Below W.heap.size W W') : RB W' b q a c a' c' := ⟨h.blk.later hb, h.rm.up hb⟩
theorem RB.new {w : World} {q : Rat} {a : Option Addr} {c : Nat} {a' : Option Addr} {c' : Nat} (h : RM w a c a' c' q) : RB (w.alloc (Obj.cells #[.bool (ng (rn q)), .slice a (LI (rn q)) c, .bool (ng (rd q)), .slice a' (LI (rd q)) c'] 67)) w.heap.size q a c a' c' := ⟨World.alloc_heap_new w _, h.up (below_al (Below.refl _ _) _)⟩
def R4 (b0 : Bool) (a : Option Addr) (n c : Nat) (b1 : Bool) (a' : Option Addr) (n' c' : Nat) : List Value := [.bool b0, .slice a n c, .bool b1, .slice a' n' c']
theorem noInt_R4 {W : World} {b T : Nat} {b0 b1 : Bool} {a a' : Option Addr} {n c n' c' : Nat} (h : Blk W b T [.bool b0, .slice a n c, .bool b1, .slice a' n' c']) : NoInt W b := fun o k z hc => by
  rw [h.cell] at hc
  rcases o with _ | _ | _ | _ | o
  · simp at hc
  · simp at hc
  · simp at hc
  · simp at hc
  · simp at hc
theorem noInt_S1 {W : World} {b T : Nat} {a : Option Addr} {n c : Nat} (h : Blk W b T [.slice a n c]) : NoInt W b := fun o k z hc => by
  rw [h.cell] at hc
  rcases o with _ | o
  · simp at hc
  · simp at hc
/-- What a box holds is written anew. -/
def putR (W : World) (b : Nat) (z : Rat) (a : Option Addr) (c : Nat) (a' : Option Addr) (c' : Nat) : World := (((W.setCell ⟨b, 0, none⟩ (.bool (ng (rn z)))).setCell ⟨b, 1, none⟩ (.slice a (LI (rn z)) c)).setCell ⟨b, 2, none⟩ (.bool (ng (rd z)))).setCell ⟨b, 3, none⟩ (.slice a' (LI (rd z)) c')
theorem RM.putR {W : World} {b : Nat} (hn : NoInt W b) {z y : Rat} {a a' e e' : Option Addr} {c c' f f' : Nat} (h : RM W e f e' f' y) : RM (putR W b z a c a' c') e f e' f' y := by
  have t1 := hn.set ⟨b, 0, none⟩ (.bool (ng (rn z))) (by intro _ _ h; cases h)
  have t2 := t1.set ⟨b, 1, none⟩ (.slice a (LI (rn z)) c) (by intro _ _ h; cases h)
  have t3 := t2.set ⟨b, 2, none⟩ (.bool (ng (rd z))) (by intro _ _ h; cases h)
  exact ⟨(((h.1.setN hn _ _).setN t1 _ _).setN t2 _ _).setN t3 _ _, (((h.2.setN hn _ _).setN t1 _ _).setN t2 _ _).setN t3 _ _⟩
theorem RB.put {W : World} {b : Nat} {b0 b1 : Bool} {e e' : Option Addr} {n f n' f' : Nat} (hB : Blk W b 67 [.bool b0, .slice e n f, .bool b1, .slice e' n' f']) {z : Rat} {a a' : Option Addr} {c c' : Nat} (h : RM W a c a' c' z) : RB (putR W b z a c a' c') b z a c a' c' :=
  ⟨Blk.set (Blk.set (Blk.set (Blk.set hB 0 _) 1 _) 2 _) 3 _, RM.putR (noInt_R4 hB) h⟩
theorem putR_below {B : Nat} {W0 W : World} {b : Nat} {z : Rat} {a : Option Addr} {c : Nat} {a' : Option Addr} {c' : Nat} (h : Below B W0 W) (hb : B ≤ b) : Below B W0 (putR W b z a c a' c') := (((h.setCell hb _).setCell hb _).setCell hb _).setCell hb _
theorem Fr.putc {bb bc : Nat} {a w : World} (h : Fr bb bc a w) (z : Rat) (x : Option Addr) (c : Nat) (x' : Option Addr) (c' : Nat) : Fr bb bc a (putR w bc z x c x' c') := (((h.setc _ _).setc _ _).setc _ _).setc _ _
theorem Blk.putR {W : World} {g b T : Nat} {cs : List Value} (h : Blk W g T cs) (hne : g ≠ b) (z : Rat) (a : Option Addr) (c : Nat) (a' : Option Addr) (c' : Nat) : Blk (putR W b z a c a' c') g T cs := Blk.far (Blk.far (Blk.far (Blk.far h (by exact hne) _) (by exact hne) _) (by exact hne) _) (by exact hne) _
/-- The boxes that the recursion only reads, and what they lead to. -/
structure TRd (W : World) (n L : Nat) (ws : List Nat) (Q : Rat) (aw : Option Addr) (cw : Nat) (a1 : Option Addr) (c1 : Nat) (a2 : Option Addr) (c2 : Nat) (bp bt bb bo bw bg : Nat) : Prop where
  cp : W.cell? ⟨bp, 0, none⟩ = some (.int .i64 (L : Nat))
  cw : W.cell? ⟨bw, 0, none⟩ = some (.slice aw n cw)
  cg : W.cell? ⟨bg, 0, none⟩ = some (.func (.func 42) #[] #[ptr bp, ptr bt, ptr bb, ptr bo, ptr bw, ptr bg])
  t0 : W.cell? ⟨bt, 0, none⟩ = some (.bool (ng (rn Q)))
  t1 : W.cell? ⟨bt, 1, none⟩ = some (.slice a1 (LI (rn Q)) c1)
  t2 : W.cell? ⟨bt, 2, none⟩ = some (.bool (ng (rd Q)))
  t3 : W.cell? ⟨bt, 3, none⟩ = some (.slice a2 (LI (rd Q)) c2)
  rm : RM W a1 c1 a2 c2 Q
  iz : IZ W aw (nzT ws)
structure NRd (bp bt bb bo bw bg : Nat) : Prop where
  pb : bp ≠ bb
  po : bp ≠ bo
  tb : bt ≠ bb
  tq : bt ≠ bo
  wb : bw ≠ bb
  wo : bw ≠ bo
  gb : bg ≠ bb
  gq : bg ≠ bo
  bq : bb ≠ bo
theorem TRd.fr {W W' : World} {n L : Nat} {ws : List Nat} {Q : Rat} {aw : Option Addr} {cw : Nat} {a1 : Option Addr} {c1 : Nat} {a2 : Option Addr} {c2 bp bt bb bo bw bg : Nat} (h : TRd W n L ws Q aw cw a1 c1 a2 c2 bp bt bb bo bw bg) (hn : NRd bp bt bb bo bw bg) (hf : Fr bb bo W W') (n1 : NoInt W bb) (n2 : NoInt W bo) : TRd W' n L ws Q aw cw a1 c1 a2 c2 bp bt bb bo bw bg :=
  ⟨hf.cell h.cp hn.pb hn.po, hf.cell h.cw hn.wb hn.wo, hf.cell h.cg hn.gb hn.gq, hf.cell h.t0 hn.tb hn.tq, hf.cell h.t1 hn.tb hn.tq, hf.cell h.t2 hn.tb hn.tq, hf.cell h.t3 hn.tb hn.tq, h.rm.fr hf n1 n2, h.iz.fr hf n1 n2⟩
/-- The best train so far, in its boxes. -/
def BOK (o u : Nat) : Bt → World → Nat → Nat → Prop
  | none, W, bb, bo => Blk W bb 44 [.slice none 0 0] ∧ Blk W bo 67 [.bool false, .slice none 0 0, .bool false, .slice none 0 0]
  | some (t, p, q), W, bb, bo => ∃ (g c : Nat) (a1 : Option Addr) (c1 : Nat) (a2 : Option Addr) (c2 : Nat), Blk W bb 44 [.slice (some ⟨g, 0, none⟩) t.length c] ∧ t.length ≤ c ∧ IMx W (some ⟨g, 0, none⟩) (rowsT t) ∧ g ≠ bb ∧ g ≠ bo ∧ RB W bo (dR o u p q) a1 c1 a2 c2
theorem BOK.below {o u : Nat} {s : Bt} {W W' : World} {bb bo : Nat} (h : BOK o u s W bb bo) (hb : Below W.heap.size W W') : BOK o u s W' bb bo := by
  rcases s with _ | ⟨t, p, q⟩
  · exact ⟨h.1.later hb, h.2.later hb⟩
  · obtain ⟨g, c, a1, c1, a2, c2, h1, h2, h3, h4, h5, h6⟩ := h
    exact ⟨g, c, a1, c1, a2, c2, h1.later hb, h2, h3.below hb, h4, h5, h6.up hb⟩
theorem BOK.no {o u : Nat} {s : Bt} {W : World} {bb bo : Nat} (h : BOK o u s W bb bo) : NoInt W bb ∧ NoInt W bo := by
  rcases s with _ | ⟨t, p, q⟩
  · exact ⟨noInt_S1 h.1, noInt_R4 h.2⟩
  · obtain ⟨g, c, a1, c1, a2, c2, h1, h2, h3, h4, h5, h6⟩ := h
    exact ⟨noInt_S1 h1, noInt_R4 h6.blk⟩
theorem BOK.lt {o u : Nat} {s : Bt} {W : World} {bb bo : Nat} (h : BOK o u s W bb bo) : bb < W.heap.size ∧ bo < W.heap.size := by
  rcases s with _ | ⟨t, p, q⟩
  · exact ⟨h.1.lt, h.2.lt⟩
  · obtain ⟨g, c, a1, c1, a2, c2, h1, h2, h3, h4, h5, h6⟩ := h
    exact ⟨h1.lt, h6.blk.lt⟩
/-- Both boxes are written. -/
theorem BOK.put {o u : Nat} {t : Tr} {p q : Nat} {W : World} {bb bo : Nat} {v0 : Value} {b0 b1 : Bool} {e e' : Option Addr} {m f m' f' : Nat} (hbb : Blk W bb 44 [v0]) (hbo : Blk W bo 67 [.bool b0, .slice e m f, .bool b1, .slice e' m' f']) (hv0 : ∀ k z, v0 ≠ .int k z) (hne : bb ≠ bo)
    {g c : Nat} {a1 : Option Addr} {c1 : Nat} {a2 : Option Addr} {c2 : Nat} (hc : t.length ≤ c) (hI : IMx W (some ⟨g, 0, none⟩) (rowsT t)) (hg1 : g ≠ bb) (hg2 : g ≠ bo) (hR : RM W a1 c1 a2 c2 (dR o u p q)) :
    BOK o u (some (t, p, q)) (putR (W.setCell ⟨bb, 0, none⟩ (.slice (some ⟨g, 0, none⟩) t.length c)) bo (dR o u p q) a1 c1 a2 c2) bb bo := by
  have n1 : NoInt W bb := fun o' k z hcell => by
    rw [hbb.cell] at hcell
    rcases o' with _ | o'
    · simp at hcell; exact hv0 k z hcell
    · simp at hcell
  have n2 : NoInt W bo := noInt_R4 hbo
  have hf : Fr bb bo W (putR (W.setCell ⟨bb, 0, none⟩ (.slice (some ⟨g, 0, none⟩) t.length c)) bo (dR o u p q) a1 c1 a2 c2) := ((Fr.refl bb bo W).setb 0 _).putc _ _ _ _ _
  have hbo1 : Blk (W.setCell ⟨bb, 0, none⟩ (.slice (some ⟨g, 0, none⟩) t.length c)) bo 67 [.bool b0, .slice e m f, .bool b1, .slice e' m' f'] := Blk.far hbo (by exact fun e => hne e.symm) _
  have hR1 : RM (W.setCell ⟨bb, 0, none⟩ (.slice (some ⟨g, 0, none⟩) t.length c)) a1 c1 a2 c2 (dR o u p q) := ⟨hR.1.setN n1 _ _, hR.2.setN n1 _ _⟩
  exact ⟨g, c, a1, c1, a2, c2, Blk.putR (Blk.set hbb 0 _) hne _ _ _ _ _, hc, hI.fr hf n1 n2 (fun a ha => by injection ha with ha; subst ha; exact ⟨hg1, hg2⟩), hg1, hg2, RB.put hbo1 hR1⟩
def GrowT (o u : Nat) (s : Bt) (bb bo : Nat) (W : World) (e : Ending) (w' : World) : Prop := e = .returned (.tuple #[]) ∧ Fr bb bo W w' ∧ BOK o u s w' bb bo
theorem rdivE (a : Option Addr) (c : Nat) (a' : Option Addr) (c' : Nat) (b : Option Addr) (d : Nat) (b' : Option Addr) (d' : Nat) (p q z : Rat) (w : World) (h1 : RM w a c a' c' p) (h2 : RM w b d b' d' q) (hp : Sz p) (hq : Sz q) (h0 : 0 < rn q) (hz : p / q = z) :
    Calls Tryz.prog 41 #[.agg #[.bool (ng (rn p)), .slice a (LI (rn p)) c, .bool (ng (rd p)), .slice a' (LI (rd p)) c'], .agg #[.bool (ng (rn q)), .slice b (LI (rn q)) d, .bool (ng (rd q)), .slice b' (LI (rd q)) d']] w (RetRat w z) := by
  rw [← hz]; exact rdiv_any a c a' c' b d b' d' p q w h1 h2 hp hq h0
theorem rsubE (a : Option Addr) (c : Nat) (a' : Option Addr) (c' : Nat) (b : Option Addr) (d : Nat) (b' : Option Addr) (d' : Nat) (p q z : Rat) (w : World) (h1 : RM w a c a' c' p) (h2 : RM w b d b' d' q) (hp : Sz p) (hq : Sz q) (hz : p - q = z) :
    Calls Tryz.prog 43 #[.agg #[.bool (ng (rn p)), .slice a (LI (rn p)) c, .bool (ng (rd p)), .slice a' (LI (rd p)) c'], .agg #[.bool (ng (rn q)), .slice b (LI (rn q)) d, .bool (ng (rd q)), .slice b' (LI (rd q)) d']] w (RetRat w z) := by
  rw [← hz]; exact rsub_any a c a' c' b d b' d' p q w h1 h2 hp hq
theorem rnegE (a : Option Addr) (c : Nat) (a' : Option Addr) (c' : Nat) (p z : Rat) (w : World) (h1 : RM w a c a' c' p) (hp : Sz p) (hz : -p = z) :
    Calls Tryz.prog 45 #[.agg #[.bool (ng (rn p)), .slice a (LI (rn p)) c, .bool (ng (rd p)), .slice a' (LI (rd p)) c']] w (RetRat w z) := by
  rw [← hz]; exact rneg_any a c a' c' p w h1 hp
theorem rsignE (a : Option Addr) (c : Nat) (a' : Option Addr) (c' : Nat) (p : Rat) (z : Int) (w : World) (hz : sg (rn p) = z) :
    Calls Tryz.prog 44 #[.agg #[.bool (ng (rn p)), .slice a (LI (rn p)) c, .bool (ng (rd p)), .slice a' (LI (rd p)) c']] w (RetNum w z) := by
  rw [← hz]; exact rsign_any a c a' c' p w
theorem rcmpE (a : Option Addr) (c : Nat) (a' : Option Addr) (c' : Nat) (b : Option Addr) (d : Nat) (b' : Option Addr) (d' : Nat) (p q : Rat) (z : Int) (w : World) (h1 : RM w a c a' c' p) (h2 : RM w b d b' d' q) (hp : Sz p) (hq : Sz q) (hz : rsg p q = z) :
    Calls Tryz.prog 46 #[.agg #[.bool (ng (rn p)), .slice a (LI (rn p)) c, .bool (ng (rd p)), .slice a' (LI (rd p)) c'], .agg #[.bool (ng (rn q)), .slice b (LI (rn q)) d, .bool (ng (rd q)), .slice b' (LI (rd q)) d']] w (RetNum w z) := by
  rw [← hz]; exact rcmp_any a c a' c' b d b' d' p q w h1 h2 hp hq
theorem wholeE (n : Nat) (z : Rat) (w : World) (hn : n ≤ 4611686018427387904) (hz : ((n : Nat) : Rat) = z) : Calls Tryz.prog 40 #[.int .i64 (n : Nat)] w (RetRat w z) := by
  rw [← hz]; exact whole_any n w hn
theorem MI.headE {w : World} {base : Nat} {v : Value} {S : List (List Int)} (h : MI w base v S) (h0 : 0 < S.length) : ∃ g c, v = .slice (some ⟨g, 0, none⟩) S.length c ∧ base ≤ g ∧ g < w.heap.size ∧ S.length ≤ c ∧ IMx w (some ⟨g, 0, none⟩) S := by
  obtain ⟨vs, h1, h2, h3⟩ := h
  rcases h1.2 with ⟨_, h5⟩ | ⟨g, cap, cur, hv, _⟩
  · have : S.length = 0 := h5
    omega
  · have hv' : v = .slice (some ⟨g, 0, none⟩) S.length cap := hv
    subst hv'
    have hM : MI w base (.slice (some ⟨g, 0, none⟩) S.length cap) S := ⟨vs, h1, h2, h3⟩
    have h5 := hM.lt g rfl
    exact ⟨g, cap, rfl, h5.1, h5.2, hM.imx.2, hM.imx.1⟩
end Go.Proofs.YtbehfhmdilifkaaGreat
