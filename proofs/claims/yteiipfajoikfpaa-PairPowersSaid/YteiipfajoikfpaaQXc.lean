/- Xc -/
import Derived.Test.YteiipfajoikfpaaQXb
import Derived.Test.YteiipfajoikfpaaQPh
import Derived.Test.YteiipfajoikfpaaQPg
import Derived.Deep.RegionLawGrows
set_option linter.unusedVariables false
/- Walk of search's recursion: all pairings, the best one kept in two boxes. -/
namespace Go.Proofs.Yteiipfajoikfpaa
open Go Go.RowKit Go.Proofs

/-- Two boxes may have turned, nothing else that was there. -/
structure Sf (bb bc : Nat) (w w' : World) : Prop where
  os : w'.os = w.os
  tape : w'.tape = w.tape
  output : w'.output = w.output
  size : w.heap.size ≤ w'.heap.size
  block : ∀ k, k < w.heap.size → k ≠ bb → k ≠ bc → w'.heap[k]? = w.heap[k]?
theorem Sf.of {bb bc : Nat} {w w' : World} (h : Below w.heap.size w w') : Sf bb bc w w' := ⟨h.os, h.tape, h.output, h.size, fun k hk _ _ => h.block k hk⟩
theorem Sf.refl (bb bc : Nat) (w : World) : Sf bb bc w w := Sf.of (Below.refl _ _)
theorem Sf.trans {bb bc : Nat} {a b c : World} (h : Sf bb bc a b) (k : Sf bb bc b c) : Sf bb bc a c :=
  ⟨k.os.trans h.os, k.tape.trans h.tape, k.output.trans h.output, Nat.le_trans h.size k.size, fun i hi h1 h2 => (k.block i (Nat.lt_of_lt_of_le hi h.size) h1 h2).trans (h.block i hi h1 h2)⟩
theorem Sf.setb {bb bc : Nat} {a w : World} (h : Sf bb bc a w) (u : Value) : Sf bb bc a (w.setCell ⟨bb, 0, none⟩ u) :=
  h.trans ⟨rfl, rfl, rfl, by simp [World.setCell], fun k _ h1 _ => Below.heap_setCell _ _ _ _ h1⟩
theorem Sf.setc {bb bc : Nat} {a w : World} (h : Sf bb bc a w) (u : Value) : Sf bb bc a (w.setCell ⟨bc, 0, none⟩ u) :=
  h.trans ⟨rfl, rfl, rfl, by simp [World.setCell], fun k _ _ h2 => Below.heap_setCell _ _ _ _ h2⟩
theorem Sf.cell {bb bc : Nat} {w w' : World} (h : Sf bb bc w w') {b o : Nat} {v : Value} (hc : w.cell? ⟨b, o, none⟩ = some v) (h1 : b ≠ bb) (h2 : b ≠ bc) : w'.cell? ⟨b, o, none⟩ = some v := by
  rw [World.cell?_of_block (w := w) (a := ⟨b, o, none⟩) (h.block b (World.block_lt_of_cell? w ⟨b, o, none⟩ hc) h1 h2)]
  exact hc
theorem Sf.below {bb bc B : Nat} {w w' : World} (h : Sf bb bc w w') (h1 : B ≤ bb) (h2 : B ≤ bc) (h3 : B ≤ w.heap.size) : Below B w w' :=
  ⟨h.os, h.tape, h.output, h.size, fun k hk => h.block k (by omega) (by omega) (by omega)⟩
theorem IZ.sf {bb bc : Nat} {w w' : World} {g o : Nat} {xs : List Int} (hI : IZ w (some ⟨g, o, none⟩) xs) (h : Sf bb bc w w') (h1 : g ≠ bb) (h2 : g ≠ bc) : IZ w' (some ⟨g, o, none⟩) xs := fun i x hx => by
  obtain ⟨b, o', ha, hc⟩ := hI i x hx
  refine ⟨b, o', ha, h.cell hc ?_ ?_⟩
  · injection ha with ha; injection ha with e1 e2; rw [← e1]; exact h1
  · injection ha with ha; injection ha with e1 e2; rw [← e1]; exact h2
/-- Numbers lie in no box of a slice. -/
theorem IZ.box {w : World} {g o b : Nat} {a : Option Addr} {n c : Nat} {xs : List Int} (hI : IZ w (some ⟨g, o, none⟩) xs) (h0 : 0 < xs.length) (hB : Blk w b 24 [.slice a n c]) : g ≠ b := by
  rintro rfl
  obtain ⟨b', o', ha, hc⟩ := hI.at h0
  injection ha with ha
  injection ha with e1 e2
  subst e1 e2
  rw [Blk.cell hB] at hc
  rw [Nat.add_zero] at hc
  rcases o with _ | o
  · simp at hc
  · simp at hc
/-- The boxes that the recursion only reads. -/
structure SR (W : World) (ao : Option Addr) (n c bn bs bb bk bc bg bf : Nat) : Prop where
  cn : W.cell? ⟨bn, 0, none⟩ = some (.int .i64 (n : Nat))
  cs : W.cell? ⟨bs, 0, none⟩ = some (.slice ao n c)
  ck : W.cell? ⟨bk, 0, none⟩ = some (.func (.func 75) #[] #[ptr bf])
  cg : W.cell? ⟨bg, 0, none⟩ = some (.func (.func 91) #[] #[ptr bn, ptr bs, ptr bb, ptr bk, ptr bc, ptr bg])
  cf : W.cell? ⟨bf, 0, none⟩ = some (.func (.func 71) #[] #[])
/-- All boxes are different ones. -/
structure SN (bn bs bb bk bc bg bf : Nat) : Prop where
  nb : bn ≠ bb
  nc : bn ≠ bc
  sb : bs ≠ bb
  sc : bs ≠ bc
  kb : bk ≠ bb
  kc : bk ≠ bc
  gb : bg ≠ bb
  gc : bg ≠ bc
  fb : bf ≠ bb
  fc : bf ≠ bc
  bc : bb ≠ bc
theorem SR.up {W W' : World} {ao : Option Addr} {n c bn bs bb bk bc bg bf : Nat} (h : SR W ao n c bn bs bb bk bc bg bf) (hn : SN bn bs bb bk bc bg bf) (hf : Sf bb bc W W') : SR W' ao n c bn bs bb bk bc bg bf :=
  ⟨hf.cell h.cn hn.nb hn.nc, hf.cell h.cs hn.sb hn.sc, hf.cell h.ck hn.kb hn.kc, hf.cell h.cg hn.gb hn.gc, hf.cell h.cf hn.fb hn.fc⟩
/-- The best one so far, in its boxes. -/
def BS (C : List (List Int)) (n : Nat) (L : List (List Nat)) (W : World) (bb bc : Nat) : Prop :=
  (L = [] ∧ Blk W bb 24 [.slice none 0 0] ∧ Blk W bc 24 [.slice none 0 0]) ∨
    ∃ (p : List Nat) (g o c g2 o2 c2 : Nat), Blk W bb 24 [.slice (some ⟨g, o, none⟩) n c] ∧ Blk W bc 24 [.slice (some ⟨g2, o2, none⟩) n c2] ∧ n ≤ c ∧ n ≤ c2 ∧ IZ W (some ⟨g, o, none⟩) (nz p) ∧ IZ W (some ⟨g2, o2, none⟩) (pcs C p) ∧ Best (byL (fallP C)) L p ∧ Pr n p
theorem BS.below {C : List (List Int)} {n : Nat} {L : List (List Nat)} {W W' : World} {bb bc : Nat} (h : BS C n L W bb bc) (hb : Below W.heap.size W W') : BS C n L W' bb bc := by
  rcases h with ⟨h1, h2, h3⟩ | ⟨p, g, o, c, g2, o2, c2, h1, h2, h3, h4, h5, h6, h7⟩
  · exact .inl ⟨h1, Blk.later h2 hb, Blk.later h3 hb⟩
  · exact .inr ⟨p, g, o, c, g2, o2, c2, Blk.later h1 hb, Blk.later h2 hb, h3, h4, h5.below hb, h6.below hb, h7⟩
/-- Both boxes are written. -/
theorem BS.put {C : List (List Int)} {n : Nat} {L : List (List Nat)} {W : World} {bb bc g o c g2 o2 c2 : Nat} {u v : Value} {q : List Nat} (hbb : Blk W bb 24 [u]) (hbc : Blk W bc 24 [v]) (hne : bb ≠ bc) (h0 : 0 < n) (hgb : g ≠ bb) (hgc : g ≠ bc) (hg2 : g2 ≠ bb) (hg3 : g2 ≠ bc) (hc : n ≤ c) (hc2 : n ≤ c2) (hI : IZ W (some ⟨g, o, none⟩) (nz q)) (hI2 : IZ W (some ⟨g2, o2, none⟩) (pcs C q)) (hB : Best (byL (fallP C)) L q) (hq : Pr n q) :
    BS C n L ((W.setCell ⟨bb, 0, none⟩ (.slice (some ⟨g, o, none⟩) n c)).setCell ⟨bc, 0, none⟩ (.slice (some ⟨g2, o2, none⟩) n c2)) bb bc := by
  have hs : Sf bb bc W ((W.setCell ⟨bb, 0, none⟩ (.slice (some ⟨g, o, none⟩) n c)).setCell ⟨bc, 0, none⟩ (.slice (some ⟨g2, o2, none⟩) n c2)) := ((Sf.refl _ _ _).setb _).setc _
  exact .inr ⟨q, g, o, c, g2, o2, c2, Blk.far (Blk.set hbb 0 _) (by exact hne) _, Blk.set (Blk.far hbc (by exact fun e => hne e.symm) _) 0 _, hc, hc2, hI.sf hs hgb hgc, hI2.sf hs hg2 hg3, hB, hq⟩
def GrowS (C : List (List Int)) (n : Nat) (L : List (List Nat)) (bb bc : Nat) (W : World) (e : Ending) (w' : World) : Prop := e = .returned (.tuple #[]) ∧ Sf bb bc W w' ∧ BS C n L w' bb bc
theorem eg_smooth2 : ∀ args w, (callFunc 75 args).run Try.prog w = .ok (.enter 75 args) w := enters_of Try.func75 (by kernel_rfl) rfl
theorem eg_search1 : ∀ args w, (callFunc 91 args).run Try.prog w = .ok (.enter 91 args) w := enters_of Try.func91 (by kernel_rfl) rfl
theorem cmpF_lt (ao bo : Option Addr) (n c d bf : Nat) (xs ys : List Int) (w : World) (h : IZ w ao xs) (h' : IZ w bo ys) (hn : xs.length = n) (hm : ys.length = n) (h0 : 0 < n) (hs : n ≤ 1000) (cf : w.cell? ⟨bf, 0, none⟩ = some (.func (.func 71) #[] #[])) (hlt : fall xs < fall ys) :
    Calls Try.prog 75 #[.slice ao n c, .slice bo n d, .pointer (some ⟨bf, 0, none⟩)] w (fun e w' => ∃ z : Int, e = .returned (.int .i64 z) ∧ z < 0 ∧ Below w.heap.size w w') :=
  (cmpF_any ao bo n c d bf xs ys w h h' hn hm h0 hs cf).mono fun e w' ⟨z, he, hz, hb⟩ => by
    refine ⟨z, he, ?_, hb⟩
    rcases hz with ⟨h, _⟩ | ⟨_, h⟩ | ⟨_, h⟩
    · exact h
    · exact absurd hlt (List.lt_asymm h)
    · rw [h] at hlt; exact absurd hlt (List.lt_irrefl _)
theorem cmpF_ge (ao bo : Option Addr) (n c d bf : Nat) (xs ys : List Int) (w : World) (h : IZ w ao xs) (h' : IZ w bo ys) (hn : xs.length = n) (hm : ys.length = n) (h0 : 0 < n) (hs : n ≤ 1000) (cf : w.cell? ⟨bf, 0, none⟩ = some (.func (.func 71) #[] #[])) (hlt : ¬ fall xs < fall ys) :
    Calls Try.prog 75 #[.slice ao n c, .slice bo n d, .pointer (some ⟨bf, 0, none⟩)] w (fun e w' => ∃ z : Int, e = .returned (.int .i64 z) ∧ 0 ≤ z ∧ Below w.heap.size w w') :=
  (cmpF_any ao bo n c d bf xs ys w h h' hn hm h0 hs cf).mono fun e w' ⟨z, he, hz, hb⟩ => by
    refine ⟨z, he, ?_, hb⟩
    rcases hz with ⟨_, h⟩ | ⟨h, _⟩ | ⟨h, _⟩
    · exact absurd h hlt
    · omega
    · omega
set_option maxRecDepth 100000 in
/-- 'append(l[:len(l):len(l)], j)' in a region that draws. -/
theorem step_append_full {ops : Array Oper} {o : Oper} {a : Act} {w : World} {K : Act → World → Prop} {Q : Exit → Act → World → Prop} {E : Prop} (hgd : o.guard = none) (s x : Operand) (t : TypeId)
    (ho : o.op = .call { callee := .builtin .append, args := #[s, x], argTypes := #[t, t] }) (ht : Try.prog.underlying t = some (.slice 3)) (m : Nat) (ao : Option Addr) (xs : List Int) (hs : a.eval s = .slice ao m m) (hI : IZ w ao xs) (hn : xs.length = m)
    (g0 : Nat) (z : Int) (hx : a.eval x = .slice (some ⟨g0, 0, none⟩) 1 1) (c0 : w.cell? ⟨g0, 0, none⟩ = some (.int .i64 z)) (hb : m ≤ 1000000)
    (hK : ∀ v' w', ZI w' w.heap.size v' (xs ++ [z]) → Below w.heap.size w w' → K (a.put o.dst v') w') :
    if Region.wanted o (yielded ops a.tmps) = true then Oper.wp Try.prog o a w K Q else E := by
  obtain ⟨i, h2, h3, h4, h5⟩ := info_parts info_intJ
  subst hn
  refine step_append_grows hgd s x t ho 3 i _ 1 8 ht h2 h3 h4 h5 rfl (by omega) ao xs.length xs.length (xs.map fun y : Int => Value.int .i64 y) hs (fun e => ?_) (by simp) (fun b e j u hu => ?_) ⟨g0, 0, none⟩ 1 1 [.int .i64 z] hx (by simp) (fun j u hu => ?_) (fun u hu => by rw [List.mem_singleton] at hu; subst hu; rfl) (by omega) (by unfold maxLen; omega) (by omega) fun v' w' h1 h2 => hK v' w' ?_ ((Below.refl _ _).grown h2 (Nat.le_refl _) (fun k hk => by cases hk))
  · subst e
    rcases xs with _ | ⟨y, ys⟩
    · exact ⟨rfl, rfl⟩
    · obtain ⟨_, _, e, _⟩ := hI 0 y rfl
      cases e
  · subst e
    rw [List.getElem?_map] at hu
    obtain ⟨y, hy, rfl⟩ := Option.map_eq_some_iff.1 hu
    obtain ⟨b', o', e, hc⟩ := hI j y hy
    injection e with e
    subst e
    rw [Addr.add_lit]
    exact hc
  · rcases j with _ | j
    · simp at hu; subst hu
      rw [Addr.add_lit]; exact c0
    · simp at hu
  · unfold ZI
    rw [List.map_append, List.length_append]
    exact h1
theorem BS.boxes {C : List (List Int)} {n : Nat} {L : List (List Nat)} {W : World} {bb bc : Nat} (h : BS C n L W bb bc) : ∃ a k c a2 k2 c2, Blk W bb 24 [.slice a k c] ∧ Blk W bc 24 [.slice a2 k2 c2] := by
  rcases h with ⟨_, h2, h3⟩ | ⟨p, g, o, c, g2, o2, c2, h1, h2, _⟩
  · exact ⟨_, _, _, _, _, _, h2, h3⟩
  · exact ⟨_, _, _, _, _, _, h1, h2⟩
theorem IZ.sfB {C : List (List Int)} {n : Nat} {L : List (List Nat)} {W W' : World} {bb bc : Nat} {av : Option Addr} {xs : List Int} (hI : IZ W av xs) (h : BS C n L W bb bc) (hs : Sf bb bc W W') : IZ W' av xs := by
  rcases Nat.eq_zero_or_pos xs.length with h0 | h0
  · rw [List.length_eq_zero_iff.1 h0]; exact IZ.nil _ _
  · obtain ⟨b, o, rfl, _⟩ := hI.at h0
    obtain ⟨_, _, _, _, _, _, h1, h2⟩ := h.boxes
    exact hI.sf hs (hI.box h0 h1) (hI.box h0 h2)
end Go.Proofs.Yteiipfajoikfpaa
