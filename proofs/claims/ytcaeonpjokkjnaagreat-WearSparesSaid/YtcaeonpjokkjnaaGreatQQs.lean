/- Qs -/
import Derived.Test.YtcaeonpjokkjnaaGreatQQx
import Derived.Test.YtcaeonpjokkjnaaGreatQAg
set_option linter.unusedVariables false
/- Walk of package wear: Spares. -/
namespace Go.Proofs.YtcaeonpjokkjnaaGreat
open Go Go.RowKit Go.Proofs

/-- A block that was just made. -/
theorem QX.own {w : World} {base g n : Nat} {e : TypeId} {xs : List Value} (h : w.ownsRow base e 4 (.slice (some ⟨g, 0, none⟩) n n) n xs) (hx : ∀ u ∈ xs, ∀ k z, u ≠ .int k z) : QX w g n [] := by
  have h0 := h
  obtain ⟨hl, h2 | ⟨g', cap', cur, hv, _, hb, _, _, hs, ht⟩⟩ := h
  · cases h2.1
  · injection hv with e1 _ e3
    injection e1 with e1
    injection e1 with e1
    subst e1 e3
    have hcur : cur.toList = xs := by
      rw [← ht]
      exact (List.take_of_length_le (by rw [Array.length_toList, hs]; exact Nat.le_refl _)).symm
    refine ⟨noInt_cells hb (by rw [hcur]; exact hx), fun o => h0.frozenAt o, fun o ho => ?_, fun i q hq => by simp at hq⟩
    have ho2 : o < n * 4 := by omega
    exact ⟨_, (h0.cellAt o ho2).trans (List.getElem?_eq_getElem (by omega))⟩

theorem wpList_make_rat (w : World) {ops : Array Oper} {rest : List Oper} {o : Oper} {a : Act} {Q : Exit → Act → World → Prop}
    (hg : o.guard = none) (l : Operand) (t : TypeId) (hop : o.op = Op.makeSlice t l l) (ht : Tryz.prog.underlying t = some (.slice 86)) (N : Int) (n : Nat) (hl : a.eval l = .int .i64 N) (hN : N = (n : Int)) (hn : n ≤ 1000000)
    (hK : ∀ w', QX w' w.heap.size n [] → Below w.heap.size w w' → w.heap.size < w'.heap.size → wpList Tryz.prog ops Q rest (a.put o.dst (.slice (some ⟨w.heap.size, 0, none⟩) n n)) w') :
    wpList Tryz.prog ops Q (o :: rest) a w := by
  obtain ⟨i, h2, h3, h4, h5⟩ := info_parts info_rat
  refine wpList_make_full w hg l l t hop w.heap.size 86 i _ 4 ht h2 h3 h4 .i64 .i64 N N n hl hl hN hN (by rw [h5]; omega) (by unfold maxLen; omega) (Nat.le_refl _) ?_
  intro w' hown hgr
  refine hK w' (QX.own hown ?_) ((Below.refl _ _).grown hgr (Nat.le_refl _) (fun k hk => by cases hk)) (World.ownsRow.lt hown _ rfl).2
  intro u hu k z
  unfold madeCells at hu
  simp only [Array.toList_map, Array.toList_range, List.mem_map] at hu
  obtain ⟨j, _, rfl⟩ := hu
  show (#[Value.bool false, .slice none 0 0, .bool false, .slice none 0 0] : Array Value)[j % 4]! ≠ _
  have hj : j % 4 < 4 := Nat.mod_lt _ (by omega)
  generalize j % 4 = m at hj
  have : m = 0 ∨ m = 1 ∨ m = 2 ∨ m = 3 := by omega
  rcases this with rfl | rfl | rfl | rfl <;> simp

/-- The chances that k wheels last for s periods, s up to n. -/
def spL (ps : List Rat) (n : Nat) : Nat → List Rat
  | 0 => 1 :: List.replicate n 0
  | k + 1 => (List.range (n + 1)).map fun i => dotl ps ((spL ps n k).take i).reverse
theorem spL_length (ps : List Rat) (n : Nat) : ∀ k, (spL ps n k).length = n + 1
  | 0 => by simp [spL]
  | k + 1 => by simp [spL]
theorem spL_at {ps : List Rat} {n k i : Nat} (hi : i < n + 1) : (spL ps n (k + 1))[i]? = some (dotl ps ((spL ps n k).take i).reverse) := by
  rw [spL, List.getElem?_map, List.getElem?_range hi]; rfl
theorem dotl_nil (ps : List Rat) : dotl ps [] = 0 := by unfold dotl; simp
/-- One more element at the end. -/
theorem push_at {l l' : List Rat} {k : Nat} {q : Rat} (hl : l'[k]? = some q) (hk : ∀ i, i < k → l'[i]? = l[i]?) (hn : k ≤ l.length) : ∀ i r, (l'.take (k + 1))[i]? = some r → (i = k ∧ r = q) ∨ (i ≠ k ∧ (l.take k)[i]? = some r) := fun i r hr => by
  have hi : i < k + 1 := by
    have := (List.getElem?_eq_some_iff.1 hr).1
    rw [List.length_take] at this; omega
  rw [List.getElem?_take_of_lt hi] at hr
  by_cases h : i = k
  · subst h
    rw [hl] at hr
    exact .inl ⟨rfl, (Option.some.inj hr).symm⟩
  · refine .inr ⟨h, ?_⟩
    rw [List.getElem?_take_of_lt (by omega), ← hk i (by omega)]
    exact hr

theorem rep_next (j : Nat) : ∀ i r, (List.replicate (j + 1) (0 : Rat))[i]? = some r → (i = j ∧ r = 0) ∨ (i ≠ j ∧ (List.replicate j (0 : Rat))[i]? = some r) := fun i r hr => by
  have hi : i < j + 1 := by simpa using (List.getElem?_eq_some_iff.1 hr).1
  rw [List.getElem?_replicate, if_pos hi] at hr
  injection hr with hr
  subst hr
  by_cases h : i = j
  · exact .inl ⟨h, rfl⟩
  · exact .inr ⟨h, by rw [List.getElem?_replicate, if_pos (by omega)]⟩

theorem take_put {l : List Rat} {k : Nat} {q : Rat} (h : l[k]? = some q) : ∀ i r, (l.take (k + 1))[i]? = some r → (i = k ∧ r = q) ∨ (i ≠ k ∧ (l.take k)[i]? = some r) := push_at h (fun _ _ => rfl) (by have := (List.getElem?_eq_some_iff.1 h).1; omega)
theorem sp_first (ps : List Rat) (n : Nat) : ∀ i r, (spL ps n 0)[i]? = some r → (i = 0 ∧ r = 1) ∨ (i ≠ 0 ∧ (List.replicate (n + 1) (0 : Rat))[i]? = some r) := fun i r hr => by
  rw [spL] at hr
  rcases i with _ | i
  · simp at hr
    exact .inl ⟨rfl, hr.symm⟩
  · refine .inr ⟨by omega, ?_⟩
    rw [List.replicate_succ]
    simpa using hr

/-- The sizes that the walk of Spares asks for. -/
structure SparesSz (ps : List Rat) (n k : Nat) : Prop where
  own : ∀ q ∈ ps, Sz q
  all : ∀ t, t ≤ k → ∀ q ∈ spL ps n t, Sz q
  dots : ∀ t i j, t ≤ k → Sz (pdot ps ((spL ps n t).take i).reverse j)
  mul : ∀ t, t ≤ k → ∀ p ∈ ps, ∀ q ∈ spL ps n t, Sz (p * q)
  sums : ∀ j, Sz (psum (spL ps n k) j)
  last : Sz (spL ps n k).sum
  num : numRes (spL ps n k).sum = (nt (spL ps n k).sum, 0)

def RetNumE (w : World) (k : Int) (e : Ending) (w' : World) : Prop := e = .returned (.tuple #[.string ⟨#[]⟩, .int .i64 k]) ∧ Below w.heap.size w w'
def RetNumT (w : World) (s : ByteArray) (e : Ending) (w' : World) : Prop := e = .returned (.tuple #[.string s, .int .i64 0]) ∧ Below w.heap.size w w'

set_option maxRecDepth 100000 in
set_option maxHeartbeats 800000 in
theorem spares_bad (e0 n k : Int) (hk : (e0 != 0) = true) (ao : Option Addr) (c l : Nat) (w : World) (h : Calls Tryz.prog 49 #[.slice ao l c] w (RetErr w e0)) :
    Calls Tryz.prog 44 #[.slice ao l c, .int .i64 n, .int .i64 k] w (RetNumE w e0) := by
  have hH := Lib.hid h
  clear h
  go_enter Tryz.func44, Tryz.ntmps44
  go_wp2_with (first | (go_at_call 49; (with_reducible refine hH.out.mono ?_); rintro e w1 ⟨rfl, hb1⟩))
  go_ret2
  exact ⟨rfl, hb1⟩

set_option maxRecDepth 100000 in
set_option maxHeartbeats 800000 in
theorem spares_out (n k : Int) (hn : n < 0 ∨ 40 < n ∨ k < 0 ∨ 40 < k) (ao : Option Addr) (c l : Nat) (ps : List Rat) (w : World) (h : Calls Tryz.prog 49 #[.slice ao l c] w (RetLives w ps)) :
    Calls Tryz.prog 44 #[.slice ao l c, .int .i64 n, .int .i64 k] w (RetNumE w 1) := by
  have hH := Lib.hid h
  clear h
  by_cases h1 : n < 0
  · clear hn
    go_enter Tryz.func44, Tryz.ntmps44
    go_wp2_with (first | (go_at_call 49; (with_reducible refine hH.out.mono ?_); rintro e w1 ⟨a1, c1, rfl, hV, hb1⟩; have hVH := Lib.hid hV; clear hV))
    go_ret2
    exact ⟨rfl, hb1⟩
  · by_cases h2 : 40 < n
    · clear hn
      go_enter Tryz.func44, Tryz.ntmps44
      go_wp2_with (first | (go_at_call 49; (with_reducible refine hH.out.mono ?_); rintro e w1 ⟨a1, c1, rfl, hV, hb1⟩; have hVH := Lib.hid hV; clear hV))
      go_ret2
      exact ⟨rfl, hb1⟩
    · by_cases h3 : k < 0
      · clear hn
        go_enter Tryz.func44, Tryz.ntmps44
        go_wp2_with (first | (go_at_call 49; (with_reducible refine hH.out.mono ?_); rintro e w1 ⟨a1, c1, rfl, hV, hb1⟩; have hVH := Lib.hid hV; clear hV))
        go_ret2
        exact ⟨rfl, hb1⟩
      · have h4 : 40 < k := by omega
        clear hn
        go_enter Tryz.func44, Tryz.ntmps44
        go_wp2_with (first | (go_at_call 49; (with_reducible refine hH.out.mono ?_); rintro e w1 ⟨a1, c1, rfl, hV, hb1⟩; have hVH := Lib.hid hV; clear hV))
        go_ret2
        exact ⟨rfl, hb1⟩

set_option maxRecDepth 100000 in
set_option maxHeartbeats 3200000 in
theorem spares_good (n k : Nat) (hn : n ≤ 40) (hk : k ≤ 40) (ao : Option Addr) (c l : Nat) (ps : List Rat) (w : World) (h : Calls Tryz.prog 49 #[.slice ao l c] w (RetLives w ps)) (hpl : ps.length ≤ 12) (hz : SparesSz ps n k) :
    Calls Tryz.prog 44 #[.slice ao l c, .int .i64 n, .int .i64 k] w (RetNumT w (nt (spL ps n k).sum)) := by
  have hH := Lib.hid h
  have hzH := Lib.hid hz
  obtain ⟨m, hm⟩ : ∃ m, ps.length = m := ⟨_, rfl⟩
  have hmH := Lib.hid hm
  rw [hm] at hpl
  have k1 : ¬ (n : Int) < 0 := by omega
  have k2 : ¬ (40 : Int) < n := by omega
  have k3 : ¬ (k : Int) < 0 := by omega
  have k4 : ¬ (40 : Int) < k := by omega
  have hnn : ¬ (n : Int) + 1 < 0 := by omega
  clear h hz hm
  go_enter Tryz.func44, Tryz.ntmps44
  go_wp2_with (first
    | (go_at_call 49; (with_reducible refine hH.out.mono ?_); rintro e w1 ⟨a1, c1, rfl, hV, hb1⟩; have hP := Lib.hid (show QL w1 a1 ps from QV.ql hV); have hb1H := Lib.hid hb1; rw [hmH.out]; clear hV hb1)
    | (at_make; refine wpList_make_rat _ rfl (.tmp 39) _ rfl Tryz.underlying78 _ (n + 1) rfl (by simp) (by omega) ?_; intro w2 hX2 hb2 hs2))
  have hX2H := Lib.hid hX2
  have hb2H := Lib.hid hb2
  clear hX2 hb2
  go_loopw [43] (fun i wr => ∃ j, i = .int .i64 (j : Nat) ∧ j ≤ n + 1 ∧ QX wr w1.heap.size (n + 1) (List.replicate j 0) ∧ Below w1.heap.size w1 wr ∧ w2.heap.size ≤ wr.heap.size) (fun i _ => n + 1 - (intOf i).toNat)
  case atStart => exact ⟨0, rfl, by omega, hX2H.out, hb2H.out, Nat.le_refl _⟩
  case round =>
    obtain ⟨j, rfl, hj, hX, hbl, hsz⟩ := hrel
    have hXr := Lib.hid hX
    have hblH := Lib.hid hbl
    clear hX hbl
    have hgr : w1.heap.size < wr.heap.size := by omega
    by_cases hjn : j < n + 1
    · have hkk : (j : Int) < (n : Int) + 1 := by omega
      go_wp2_with (first
        | (go_at_call 50; go_loud (with_reducible refine (whole_zero _).mono ?_); rintro e w5 ⟨a5, d5, a5', d5', rfl, hm5, hb5⟩; have hX5 := Lib.hid (hXr.out.below hgr hb5); obtain ⟨v0, y0⟩ := hX5.out.2.2.1 (j * 4) (by omega); obtain ⟨v1, y1⟩ := hX5.out.2.2.1 (j * 4 + 1) (by omega); obtain ⟨v2, y2⟩ := hX5.out.2.2.1 (j * 4 + 2) (by omega); obtain ⟨v3, y3⟩ := hX5.out.2.2.1 (j * 4 + 3) (by omega); have x5 := hX5.out.2.1; have hb5H := Lib.hid (bseq hblH.out hb5); have hz5 := hb5.size))
      go_roundw
      case rel => exact ⟨j + 1, by go_num, by omega, hX5.out.put (p := ⟨a5, d5, a5', d5'⟩) hjn hm5 (rep_next j), Below.st4 hb5H.out (Nat.le_refl _), by simp; omega⟩
      case measure => simp [intOf]; omega
    · have hkk : ¬ (j : Int) < (n : Int) + 1 := by omega
      go_wp2_with (first
        | (go_at_call 50; go_loud (with_reducible refine (whole_one _).mono ?_); rintro e w5 ⟨a5, d5, a5', d5', rfl, hm5, hb5⟩; have hX5 := Lib.hid (hXr.out.below hgr hb5); obtain ⟨v0, y0⟩ := hX5.out.2.2.1 0 (by omega); obtain ⟨v1, y1⟩ := hX5.out.2.2.1 1 (by omega); obtain ⟨v2, y2⟩ := hX5.out.2.2.1 2 (by omega); obtain ⟨v3, y3⟩ := hX5.out.2.2.1 3 (by omega); have x5 := hX5.out.2.1; have hb5H := Lib.hid (bseq hblH.out hb5); have hz5 := hb5.size))
      have hje : Hid (List.replicate j (0 : Rat) = List.replicate (n + 1) 0) := by show _ = _; rw [show j = n + 1 by omega]
      rw [hje.out] at hX5
      have hXS := Lib.hid (hX5.out.put (k := 0) (p := ⟨a5, d5, a5', d5'⟩) (qs' := spL ps n 0) (by omega) hm5 (sp_first ps n))
      have hbS := Lib.hid (Below.st4 (g := w1.heap.size) (o := 0) (v0 := .bool (ng (rn 1))) (v1 := .slice a5 (LI (rn 1)) d5) (v2 := .bool (ng (rd 1))) (v3 := .slice a5' (LI (rd 1)) d5') hb5H.out (Nat.le_refl _))
      go_loopw [10, 55] (fun nw i wr => ∃ t g : Nat, i = .int .i64 (t : Nat) ∧ t ≤ k ∧ nw = .slice (some ⟨g, 0, none⟩) (n + 1) (n + 1) ∧ QX wr g (n + 1) (spL ps n t) ∧ Below w1.heap.size w1 wr ∧ g < wr.heap.size) (fun _ i _ => k - (intOf i).toNat)
      case atStart => exact ⟨0, w1.heap.size, rfl, by omega, rfl, hXS.out, hbS.out, by simp; omega⟩
      case round =>
        clear y0 y1 y2 y3 x5 hX5 hXS hbS hXr hblH hb5H hz5 hkk hjn hj hsz hgr
        obtain ⟨t, g, rfl, ht, rfl, hX, hbl, hgr⟩ := hrel
        have hXg := Lib.hid hX
        have hblH := Lib.hid hbl
        clear hX hbl
        generalize wr = wo at *
        by_cases htk : t < k
        · have hkk : (t : Int) < (k : Int) := by omega
          have hl0 := Lib.hid (spL_length ps n t)
          have hl1 := Lib.hid (spL_length ps n (t + 1))
          have hs0 : Hid ((spL ps n (t + 1))[0]? = some 0) := by show _ = _; rw [spL_at (by omega)]; exact congrArg some (dotl_nil ps)
          go_wp2_with (first
            | (at_make; refine wpList_make_rat _ rfl (.tmp 58) _ rfl Tryz.underlying78 _ (n + 1) rfl (by simp) (by omega) ?_; intro w3 hX3 hb3 hs3; have hX3H := Lib.hid hX3; have hb3H := Lib.hid hb3; clear hX3 hb3)
            | (go_at_call 50; go_loud (with_reducible refine (whole_zero _).mono ?_); rintro e w5 ⟨a5, d5, a5', d5', rfl, hm5, hb5⟩; have hX5 := Lib.hid (hX3H.out.below hs3 hb5); obtain ⟨v0, y0⟩ := hX5.out.2.2.1 0 (by omega); obtain ⟨v1, y1⟩ := hX5.out.2.2.1 1 (by omega); obtain ⟨v2, y2⟩ := hX5.out.2.2.1 2 (by omega); obtain ⟨v3, y3⟩ := hX5.out.2.2.1 3 (by omega); have x5 := hX5.out.2.1; have hb5H := Lib.hid (bseq hb3H.out hb5); have hz5 := hb5.size))
          have hXS := Lib.hid (hX5.out.put (k := 0) (p := ⟨a5, d5, a5', d5'⟩) (qs' := (spL ps n (t + 1)).take 1) (by omega) hm5 (take_put hs0.out))
          have hbS := Lib.hid (Below.st4 (g := wo.heap.size) (o := 0) (v0 := .bool (ng (rn 0))) (v1 := .slice a5 (LI (rn 0)) d5) (v2 := .bool (ng (rd 0))) (v3 := .slice a5' (LI (rd 0)) d5') hb5H.out (Nat.le_refl _))
          go_loopw [13] (fun i wi => ∃ j : Nat, i = .int .i64 ((j : Int) + 1) ∧ j ≤ n ∧ QX wi wo.heap.size (n + 1) ((spL ps n (t + 1)).take (j + 1)) ∧ Below wo.heap.size wo wi ∧ w3.heap.size ≤ wi.heap.size) (fun i _ => n + 1 - (intOf i).toNat)
          case atStart => exact ⟨0, rfl, by omega, hXS.out, hbS.out, by simp; omega⟩
          case round =>
            clear y0 y1 y2 y3 x5 hX5 hXS hbS hb5H hz5
            obtain ⟨j, rfl, hj, hX, hbl, hsz⟩ := hrel
            have hXr := Lib.hid hX
            have hbH := Lib.hid hbl
            have hwo : wo.heap.size < wr.heap.size := by omega
            clear hX hbl
            by_cases hjn : j < n
            · have hkk : (j : Int) + 1 ≤ (n : Int) := by omega
              have htl : Hid (((spL ps n t).take (j + 1)).length = j + 1) := by show _ = _; rw [List.length_take, hl0.out]; omega
              have hrl : Hid (((spL ps n t).take (j + 1)).reverse.length = j + 1) := by show _ = _; rw [List.length_reverse]; exact htl.out
              have hT := Lib.hid (QL.take ((hXg.out.below hgr hbH.out).ql) (j + 1))
              have hPr := Lib.hid (hP.out.below (bseq hblH.out hbH.out))
              have hst := Lib.hid (spL_at (ps := ps) (n := n) (k := t) (i := j + 1) (by omega))
              have z1 := Lib.hid (fun i => hzH.out.dots t (j + 1) i (by omega))
              have z2 := Lib.hid (fun q (hq : q ∈ ((spL ps n t).take (j + 1)).reverse) => hzH.out.all t (by omega) q (List.mem_of_mem_take (List.mem_reverse.1 hq)))
              have z3 := Lib.hid (fun p (hp : p ∈ ps) q (hq : q ∈ ((spL ps n t).take (j + 1)).reverse) => hzH.out.mul t (by omega) p hp q (List.mem_of_mem_take (List.mem_reverse.1 hq)))
              have hjc : (j : Int) + 1 ≤ (n : Int) + 1 := by omega
              go_wp2_with (fail)
              go_region_with (first
                | (go_at_call 50; go_loud (with_reducible refine (whole_zero _).mono ?_); rintro e w6 ⟨a6, d6, a6', d6', rfl, hm6, hb6⟩; have hT6 := Lib.hid ((hT.out.below (Below.refl _ _).drew).below hb6); have q6 := Lib.hid (bseq (Below.refl wr.heap.size wr).drew hb6))
                | (go_at_call 52; go_loud (with_reducible refine (turned_n (some ⟨g, 0, none⟩) (n + 1) (j + 1) ((spL ps n t).take (j + 1)) _ htl.out hT6.out (by omega)).mono ?_); rintro e w7 ⟨a7, c7, rfl, hV7, hb7⟩; have hR7 := Lib.hid (QV.ql hV7); have q7 := Lib.hid (bseq q6.out hb7); have hm67 := Lib.hid (RM.up hm6 hb7); rw [hrl.out]; clear hV7)
                | (go_at_call 51; go_loud (with_reducible refine (dot_n a6 a6' d6 d6' a1 a7 c1 c7 m (j + 1) ps ((spL ps n t).take (j + 1)).reverse _ hmH.out hrl.out hm67.out (hPr.out.below q7.out) hR7.out (by omega) (by omega) z1.out hzH.out.own z2.out z3.out).mono ?_); rintro e w8 ⟨a8, d8, a8', d8', rfl, hm8, hb8⟩; have q8 := Lib.hid (bseq q7.out hb8); have hX8 := Lib.hid (hXr.out.below hwo q8.out); obtain ⟨v0, y0⟩ := hX8.out.2.2.1 ((j + 1) * 4) (by omega); obtain ⟨v1, y1⟩ := hX8.out.2.2.1 ((j + 1) * 4 + 1) (by omega); obtain ⟨v2, y2⟩ := hX8.out.2.2.1 ((j + 1) * 4 + 2) (by omega); obtain ⟨v3, y3⟩ := hX8.out.2.2.1 ((j + 1) * 4 + 3) (by omega); have x8 := hX8.out.2.1; have hz8 := q8.out.size))
              all_goals go_wp2_with (fail)
              all_goals (
                go_roundw
                case rel => exact ⟨j + 1, by go_num, by omega, hX8.out.put (p := ⟨a8, d8, a8', d8'⟩) (by omega) hm8 (take_put hst.out), Below.st4 (bseq hbH.out q8.out) (Nat.le_refl _), by simp; omega⟩
                case measure => simp [intOf]; omega)
            · have hkk : ¬ (j : Int) + 1 ≤ (n : Int) := by omega
              have hje : j = n := by omega
              subst hje
              have hall : Hid ((spL ps j (t + 1)).take (j + 1) = spL ps j (t + 1)) := by show _ = _; rw [List.take_of_length_le (by rw [hl1.out]; exact Nat.le_refl _)]
              have h9 := hXr.out
              rw [hall.out] at h9
              have h9H := Lib.hid h9
              clear h9
              go_wp2_with (fail)
              go_roundw
              case rel => exact ⟨t + 1, wo.heap.size, by go_num, by omega, rfl, h9H.out, bseq hblH.out hbH.out, hwo⟩
              case measure => simp [intOf]; omega
        · have hte : t = k := by omega
          subst hte
          have hkk : ¬ (t : Int) < (t : Int) := by omega
          have hl0 := Lib.hid (spL_length ps n t)
          go_wp2_with (first
            | (go_at_call 78; go_loud (with_reducible refine (sum_n (some ⟨g, 0, none⟩) (n + 1) (n + 1) (spL ps n t) _ hl0.out hXg.out.ql (by omega) hzH.out.sums (hzH.out.all t (Nat.le_refl _))).mono ?_); rintro e w7 ⟨a7, c7, a7', c7', rfl, hm7, hb7⟩; have hb7H := Lib.hid (bseq hblH.out hb7); have hm7H := Lib.hid hm7; clear hb7 hm7)
            | (go_at_call 57; go_loud (with_reducible refine (rnum_ok a7 c7 a7' c7' (spL ps n t).sum _ hm7H.out hzH.out.last hzH.out.num).mono ?_); rintro e w8 ⟨rfl, hb8⟩; have hb8H := Lib.hid (bseq hb7H.out hb8); clear hb8))
          go_ret2
          exact ⟨rfl, bseq hb1H.out hb8H.out⟩

end Go.Proofs.YtcaeonpjokkjnaaGreat
