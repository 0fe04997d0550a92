/- Qx Ag Qs -/
import Derived.Test.YtcaeonpjokkjnaaQRates
import Derived.Test.YtcaeonpjokkjnaaQWs
set_option linter.unusedVariables false
/- Lists of fractions whose elements are stored. No function of the program. -/
namespace Go.Proofs.Ytcaeonpjokkjnaa
open Go Go.RowKit Go.Proofs

/-- Four cells in a row are stored. -/
def st4 (w : World) (g o : Nat) (v0 v1 v2 v3 : Value) : World := (((w.setCell ⟨g, o, none⟩ v0).setCell ⟨g, o + 1, none⟩ v1).setCell ⟨g, o + 2, none⟩ v2).setCell ⟨g, o + 3, none⟩ v3

theorem set_off {w : World} {g y b x : Nat} {v : Value} (h : ¬ (g = b ∧ y = x)) : (w.setCell ⟨g, y, none⟩ v).cell? ⟨b, x, none⟩ = w.cell? ⟨b, x, none⟩ :=
  World.cell?_setCell_other _ _ _ _ (fun e => by injection e with e1 e2; exact h ⟨e1, e2⟩)
theorem set_at {w : World} {g y : Nat} {u v : Value} (h : w.cell? ⟨g, y, none⟩ = some u) : (w.setCell ⟨g, y, none⟩ v).cell? ⟨g, y, none⟩ = some v := World.cell?_setCell_same _ _ _ h
theorem st4_far {w : World} {g o b x : Nat} {v0 v1 v2 v3 : Value} (h : b ≠ g) : (st4 w g o v0 v1 v2 v3).cell? ⟨b, x, none⟩ = w.cell? ⟨b, x, none⟩ := by
  unfold st4
  exact (set_off (by omega)).trans ((set_off (by omega)).trans ((set_off (by omega)).trans (set_off (by omega))))
theorem st4_out {w : World} {g o x : Nat} {v0 v1 v2 v3 : Value} (h : x < o ∨ o + 4 ≤ x) : (st4 w g o v0 v1 v2 v3).cell? ⟨g, x, none⟩ = w.cell? ⟨g, x, none⟩ := by
  unfold st4
  exact (set_off (by omega)).trans ((set_off (by omega)).trans ((set_off (by omega)).trans (set_off (by omega))))
theorem st4_in {w : World} {g o : Nat} {v0 v1 v2 v3 : Value} (h : ∀ j, j < 4 → ∃ u, w.cell? ⟨g, o + j, none⟩ = some u) :
    (st4 w g o v0 v1 v2 v3).cell? ⟨g, o, none⟩ = some v0 ∧ (st4 w g o v0 v1 v2 v3).cell? ⟨g, o + 1, none⟩ = some v1 ∧ (st4 w g o v0 v1 v2 v3).cell? ⟨g, o + 2, none⟩ = some v2 ∧ (st4 w g o v0 v1 v2 v3).cell? ⟨g, o + 3, none⟩ = some v3 := by
  obtain ⟨u0, h0⟩ := h 0 (by omega)
  obtain ⟨u1, h1⟩ := h 1 (by omega)
  obtain ⟨u2, h2⟩ := h 2 (by omega)
  obtain ⟨u3, h3⟩ := h 3 (by omega)
  unfold st4
  refine ⟨?_, ?_, ?_, ?_⟩
  · exact (set_off (by omega)).trans ((set_off (by omega)).trans ((set_off (by omega)).trans (set_at h0)))
  · exact (set_off (by omega)).trans ((set_off (by omega)).trans (set_at (u := u1) ((set_off (by omega)).trans h1)))
  · exact (set_off (by omega)).trans (set_at (u := u2) ((set_off (by omega)).trans ((set_off (by omega)).trans h2)))
  · exact set_at (u := u3) ((set_off (by omega)).trans ((set_off (by omega)).trans ((set_off (by omega)).trans h3)))

theorem st4_frozen {w : World} {g o : Nat} {a : Addr} {v0 v1 v2 v3 : Value} : (st4 w g o v0 v1 v2 v3).frozen? a = w.frozen? a := by
  unfold st4; simp
theorem Dg.st4 {K : IntKind} {w : World} {ao : Option Addr} {xs : List Nat} {g o : Nat} {v0 v1 v2 v3 : Value} (h : Dg K w ao xs) (hN : NoInt w g) : Dg K (st4 w g o v0 v1 v2 v3) ao xs := fun i x hx => by
  obtain ⟨b, o', ha, hc⟩ := h i x hx
  refine ⟨b, o', ha, ?_⟩
  have hb : b ≠ g := fun e => by subst e; exact hN _ _ _ hc
  rw [st4_far hb]
  exact hc
theorem RMp.st4 {w : World} {p : RP} {q : Rat} {g o : Nat} {v0 v1 v2 v3 : Value} (h : RMp w p q) (hN : NoInt w g) : RMp (st4 w g o v0 v1 v2 v3) p q :=
  ⟨⟨h.1.1, Dg.st4 h.1.2 hN⟩, ⟨h.2.1, Dg.st4 h.2.2 hN⟩⟩
theorem Below.st4 {B g o : Nat} {W w : World} {v0 v1 v2 v3 : Value} (h : Below B W w) (hN : B ≤ g) : Below B W (st4 w g o v0 v1 v2 v3) :=
  (((h.setCell hN _).setCell hN _).setCell hN _).setCell hN _

/-- The block g holds room for n fractions; the first ones are qs. -/
def QX (w : World) (g n : Nat) (qs : List Rat) : Prop :=
  NoInt w g ∧ (∀ o, w.frozen? ⟨g, o, none⟩ = false) ∧ (∀ o, o < 4 * n → ∃ u, w.cell? ⟨g, o, none⟩ = some u) ∧ ∀ i q, qs[i]? = some q → ∃ p, RMp w p q ∧ w.cell? ⟨g, i * 4, none⟩ = some (.bool (ng (rn q))) ∧ w.cell? ⟨g, i * 4 + 1, none⟩ = some (.slice p.a (LI (rn q)) p.c) ∧
    w.cell? ⟨g, i * 4 + 2, none⟩ = some (.bool (ng (rd q))) ∧ w.cell? ⟨g, i * 4 + 3, none⟩ = some (.slice p.a' (LI (rd q)) p.c')

theorem QX.ql {w : World} {g n : Nat} {qs : List Rat} (h : QX w g n qs) : QL w (some ⟨g, 0, none⟩) qs := fun i q hq => by
  obtain ⟨p, hm, h0, h1, h2, h3⟩ := h.2.2.2 i q hq
  exact ⟨g, 0, p, rfl, hm, by rw [Nat.zero_add]; exact h0, by rw [Nat.zero_add]; exact h1, by rw [Nat.zero_add]; exact h2, by rw [Nat.zero_add]; exact h3⟩
theorem QX.below {w w' : World} {g n : Nat} {qs : List Rat} (h : QX w g n qs) (hg : g < w.heap.size) (hb : Below w.heap.size w w') : QX w' g n qs := by
  obtain ⟨h1, hf, h2, h3⟩ := h
  refine ⟨fun o k z hc => ?_, fun o => ?_, fun o ho => ?_, fun i q hq => ?_⟩
  · rw [World.cell?_of_block (w := w) (a := ⟨g, o, none⟩) (hb.block g hg)] at hc
    exact h1 o k z hc
  · rw [hb.frozen (p := ⟨g, o, none⟩) hg]; exact hf o
  · obtain ⟨u, hu⟩ := h2 o ho
    exact ⟨u, Below.cellAt hb (Nat.le_refl _) hu⟩
  · obtain ⟨p, hm, c0, c1, c2, c3⟩ := h3 i q hq
    exact ⟨p, hm.up hb, Below.cellAt hb (Nat.le_refl _) c0, Below.cellAt hb (Nat.le_refl _) c1, Below.cellAt hb (Nat.le_refl _) c2, Below.cellAt hb (Nat.le_refl _) c3⟩
theorem QX.put {w : World} {g n k : Nat} {qs qs' : List Rat} {p : RP} {q : Rat} (h : QX w g n qs) (hk : k < n) (hm : RMp w p q) (hq : ∀ i r, qs'[i]? = some r → (i = k ∧ r = q) ∨ (i ≠ k ∧ qs[i]? = some r)) :
    QX (st4 w g (k * 4) (.bool (ng (rn q))) (.slice p.a (LI (rn q)) p.c) (.bool (ng (rd q))) (.slice p.a' (LI (rd q)) p.c')) g n qs' := by
  obtain ⟨h1, hf, h2, h3⟩ := h
  have hin := st4_in (w := w) (g := g) (o := k * 4) (v0 := .bool (ng (rn q))) (v1 := .slice p.a (LI (rn q)) p.c) (v2 := .bool (ng (rd q))) (v3 := .slice p.a' (LI (rd q)) p.c') (fun j hj => h2 _ (by omega))
  refine ⟨fun o t z hc => ?_, fun o => ?_, fun o ho => ?_, fun i r hr => ?_⟩
  · by_cases ho : o < k * 4 ∨ k * 4 + 4 ≤ o
    · rw [st4_out ho] at hc
      exact h1 o t z hc
    · have h4 : o = k * 4 ∨ o = k * 4 + 1 ∨ o = k * 4 + 2 ∨ o = k * 4 + 3 := by omega
      rcases h4 with rfl | rfl | rfl | rfl
      · rw [hin.1] at hc; cases hc
      · rw [hin.2.1] at hc; cases hc
      · rw [hin.2.2.1] at hc; cases hc
      · rw [hin.2.2.2] at hc; cases hc
  · rw [st4_frozen]; exact hf o
  · by_cases hx : o < k * 4 ∨ k * 4 + 4 ≤ o
    · rw [st4_out hx]; exact h2 o ho
    · have h4 : o = k * 4 ∨ o = k * 4 + 1 ∨ o = k * 4 + 2 ∨ o = k * 4 + 3 := by omega
      rcases h4 with rfl | rfl | rfl | rfl
      · exact ⟨_, hin.1⟩
      · exact ⟨_, hin.2.1⟩
      · exact ⟨_, hin.2.2.1⟩
      · exact ⟨_, hin.2.2.2⟩
  · rcases hq i r hr with ⟨rfl, rfl⟩ | ⟨hi, hr2⟩
    · exact ⟨p, hm.st4 h1, hin⟩
    · obtain ⟨p2, hm2, c0, c1, c2, c3⟩ := h3 i r hr2
      exact ⟨p2, hm2.st4 h1, by rw [st4_out (by omega)]; exact c0, by rw [st4_out (by omega)]; exact c1, by rw [st4_out (by omega)]; exact c2, by rw [st4_out (by omega)]; exact c3⟩
theorem QV.qx {w : World} {base n c : Nat} {ao : Option Addr} {qs : List Rat} (h : QV w base (.slice ao n c) qs) (hn : qs.length = n) (h0 : 0 < n) : ∃ g, ao = some ⟨g, 0, none⟩ ∧ QX w g n qs ∧ base ≤ g ∧ g < w.heap.size := by
  have hql := QV.ql h
  obtain ⟨l, rfl, ho, hni, hm⟩ := h
  rw [List.length_map] at hn
  have ho2 := ho
  rcases ho.2 with ⟨h1, h2⟩ | ⟨g', cap', cur, hv, _⟩
  · rw [List.length_map] at h2; omega
  · injection hv with e1 e2 e3
    subst e1
    have hlt := World.ownsRow.lt ho2 g' rfl
    refine ⟨g', rfl, ⟨hni g' rfl, fun o => ?_, fun o hoo => ?_, fun i q hq => ?_⟩, hlt.1, hlt.2⟩
    · rw [e2, e3] at ho
      exact ho.frozenAt o
    · rw [e2, e3] at ho
      have h4 : o < (allCells l).length := by rw [allCells_length]; omega
      exact ⟨_, ho.cellAt o (by simp; rw [allCells_length] at h4; omega) |>.trans (List.getElem?_eq_getElem h4)⟩
    · obtain ⟨b, o, p, hb, hm2, c0, c1, c2, c3⟩ := hql i q hq
      injection hb with hb
      injection hb with b1 b2 b3
      subst b1 b2
      rw [Nat.zero_add] at c0 c1 c2 c3
      exact ⟨p, hm2, c0, c1, c2, c3⟩

/-- A list that is turned from B to A, as far as k. -/
def mixL (A B : List Rat) (k : Nat) : List Rat := A.take k ++ B.drop k
theorem mixL_zero (A B : List Rat) : mixL A B 0 = B := by simp [mixL]
theorem mixL_all {A B : List Rat} {n : Nat} (hA : A.length = n) (hB : B.length = n) : mixL A B n = A := by
  unfold mixL
  rw [List.take_of_length_le (by omega), List.drop_eq_nil_of_le (by omega), List.append_nil]
theorem mixL_len {A B : List Rat} {n k : Nat} (hA : A.length = n) (hB : B.length = n) (hk : k ≤ n) : (mixL A B k).length = n := by
  unfold mixL
  rw [List.length_append, List.length_take, List.length_drop]; omega
theorem mixL_at {A B : List Rat} {n k : Nat} (hA : A.length = n) (hk : k < n) : (mixL A B k)[k]? = B[k]? := by
  unfold mixL
  rw [List.getElem?_append_right (by rw [List.length_take]; omega), List.length_take, List.getElem?_drop]
  congr 1; omega
theorem mixL_next {A B : List Rat} {n k : Nat} {q : Rat} (hA : A.length = n) (hk : k < n) (hq : A[k]? = some q) : ∀ i r, (mixL A B (k + 1))[i]? = some r → (i = k ∧ r = q) ∨ (i ≠ k ∧ (mixL A B k)[i]? = some r) := fun i r hr => by
  unfold mixL at hr ⊢
  by_cases h1 : i < k + 1
  · rw [List.getElem?_append_left (by rw [List.length_take]; omega), List.getElem?_take_of_lt h1] at hr
    by_cases h2 : i = k
    · subst h2
      rw [hq] at hr
      exact .inl ⟨rfl, (Option.some.inj hr).symm⟩
    · refine .inr ⟨h2, ?_⟩
      rw [List.getElem?_append_left (by rw [List.length_take]; omega), List.getElem?_take_of_lt (by omega)]
      exact hr
  · refine .inr ⟨by omega, ?_⟩
    rw [List.getElem?_append_right (by rw [List.length_take]; omega), List.length_take, List.getElem?_drop] at hr ⊢
    rw [← hr]
    congr 1; omega

end Go.Proofs.Ytcaeonpjokkjnaa

/- Walks of package wear: Ages, Hazards. -/
namespace Go.Proofs.Ytcaeonpjokkjnaa
open Go Go.RowKit Go.Proofs

def agesL (ps : List Rat) : List Rat := (aboveL ps).map (· / meanQ ps)
theorem agesL_length (ps : List Rat) : (agesL ps).length = ps.length := by simp [agesL, aboveL]
def hazQ (ps : List Rat) (i : Nat) : Rat := nth ps i / left ps i
def hazL (ps : List Rat) : List Rat := (List.range ps.length).map (hazQ ps)
theorem hazL_length (ps : List Rat) : (hazL ps).length = ps.length := by simp [hazL]
theorem aboveL_at {ps : List Rat} {k : Nat} (hk : k < ps.length) : (aboveL ps)[k]? = some (left ps k) := by
  unfold aboveL; rw [List.getElem?_map, List.getElem?_range hk]; rfl
theorem agesL_at {ps : List Rat} {k : Nat} (hk : k < ps.length) : (agesL ps)[k]? = some (left ps k / meanQ ps) := by
  unfold agesL; rw [List.getElem?_map, aboveL_at hk]; rfl
theorem hazL_at {ps : List Rat} {k : Nat} (hk : k < ps.length) : (hazL ps)[k]? = some (hazQ ps k) := by
  unfold hazL; rw [List.getElem?_map, List.getElem?_range hk]; rfl

structure AgeSz (ps : List Rat) : Prop where
  left : ∀ k, Sz (left ps k)
  own : ∀ q ∈ ps, Sz q
  sums : ∀ k, Sz (psum (aboveL ps) k)
  mean : Sz (meanQ ps)
  mpos : 0 < rn (meanQ ps)
  lpos : ∀ k, k < ps.length → 0 < rn (Go.Proofs.Ytcaeonpjokkjnaa.left ps k)
  ages : ∀ q ∈ agesL ps, Sz q ∧ numRes q = (nt q, 0)
  haz : ∀ q ∈ hazL ps, Sz q ∧ numRes q = (nt q, 0)

end Go.Proofs.Ytcaeonpjokkjnaa

/- Walk of package wear: Spares. -/
namespace Go.Proofs.Ytcaeonpjokkjnaa
open Go Go.RowKit Go.Proofs

/-- A block that was just made. -/
theorem QX.own {w : World} {base g n : Nat} {e : TypeId} {xs : List Value} (h : w.ownsRow base e 4 (.slice (some ⟨g, 0, none⟩) n n) n xs) (hx : ∀ u ∈ xs, ∀ k z, u ≠ .int k z) : QX w g n [] := by
  have h0 := h
  obtain ⟨hl, h2 | ⟨g', cap', cur, hv, _, hb, _, _, hs, ht⟩⟩ := h
  · cases h2.1
  · injection hv with e1 _ e3
    injection e1 with e1
    injection e1 with e1
    subst e1 e3
    have hcur : cur.toList = xs := by
      rw [← ht]
      exact (List.take_of_length_le (by rw [Array.length_toList, hs]; exact Nat.le_refl _)).symm
    refine ⟨noInt_cells hb (by rw [hcur]; exact hx), fun o => h0.frozenAt o, fun o ho => ?_, fun i q hq => by simp at hq⟩
    have ho2 : o < n * 4 := by omega
    exact ⟨_, (h0.cellAt o ho2).trans (List.getElem?_eq_getElem (by omega))⟩

theorem wpList_make_rat (w : World) {ops : Array Oper} {rest : List Oper} {o : Oper} {a : Act} {Q : Exit → Act → World → Prop}
    (hg : o.guard = none) (l : Operand) (t : TypeId) (hop : o.op = Op.makeSlice t l l) (ht : Try.prog.underlying t = some (.slice 70)) (N : Int) (n : Nat) (hl : a.eval l = .int .i64 N) (hN : N = (n : Int)) (hn : n ≤ 1000000)
    (hK : ∀ w', QX w' w.heap.size n [] → Below w.heap.size w w' → w.heap.size < w'.heap.size → wpList Try.prog ops Q rest (a.put o.dst (.slice (some ⟨w.heap.size, 0, none⟩) n n)) w') :
    wpList Try.prog ops Q (o :: rest) a w := by
  obtain ⟨i, h2, h3, h4, h5⟩ := info_parts info_rat
  refine wpList_make_full w hg l l t hop w.heap.size 70 i _ 4 ht h2 h3 h4 .i64 .i64 N N n hl hl hN hN (by rw [h5]; omega) (by unfold maxLen; omega) (Nat.le_refl _) ?_
  intro w' hown hgr
  refine hK w' (QX.own hown ?_) ((Below.refl _ _).grown hgr (Nat.le_refl _) (fun k hk => by cases hk)) (World.ownsRow.lt hown _ rfl).2
  intro u hu k z
  unfold madeCells at hu
  simp only [Array.toList_map, Array.toList_range, List.mem_map] at hu
  obtain ⟨j, _, rfl⟩ := hu
  show (#[Value.bool false, .slice none 0 0, .bool false, .slice none 0 0] : Array Value)[j % 4]! ≠ _
  have hj : j % 4 < 4 := Nat.mod_lt _ (by omega)
  generalize j % 4 = m at hj
  have : m = 0 ∨ m = 1 ∨ m = 2 ∨ m = 3 := by omega
  rcases this with rfl | rfl | rfl | rfl <;> simp

/-- The chances that k wheels last for s periods, s up to n. -/
def spL (ps : List Rat) (n : Nat) : Nat → List Rat
  | 0 => 1 :: List.replicate n 0
  | k + 1 => (List.range (n + 1)).map fun i => dotl ps ((spL ps n k).take i).reverse
theorem spL_length (ps : List Rat) (n : Nat) : ∀ k, (spL ps n k).length = n + 1
  | 0 => by simp [spL]
  | k + 1 => by simp [spL]
theorem spL_at {ps : List Rat} {n k i : Nat} (hi : i < n + 1) : (spL ps n (k + 1))[i]? = some (dotl ps ((spL ps n k).take i).reverse) := by
  rw [spL, List.getElem?_map, List.getElem?_range hi]; rfl
theorem dotl_nil (ps : List Rat) : dotl ps [] = 0 := by unfold dotl; simp
/-- One more element at the end. -/
theorem push_at {l l' : List Rat} {k : Nat} {q : Rat} (hl : l'[k]? = some q) (hk : ∀ i, i < k → l'[i]? = l[i]?) (hn : k ≤ l.length) : ∀ i r, (l'.take (k + 1))[i]? = some r → (i = k ∧ r = q) ∨ (i ≠ k ∧ (l.take k)[i]? = some r) := fun i r hr => by
  have hi : i < k + 1 := by
    have := (List.getElem?_eq_some_iff.1 hr).1
    rw [List.length_take] at this; omega
  rw [List.getElem?_take_of_lt hi] at hr
  by_cases h : i = k
  · subst h
    rw [hl] at hr
    exact .inl ⟨rfl, (Option.some.inj hr).symm⟩
  · refine .inr ⟨h, ?_⟩
    rw [List.getElem?_take_of_lt (by omega), ← hk i (by omega)]
    exact hr

theorem rep_next (j : Nat) : ∀ i r, (List.replicate (j + 1) (0 : Rat))[i]? = some r → (i = j ∧ r = 0) ∨ (i ≠ j ∧ (List.replicate j (0 : Rat))[i]? = some r) := fun i r hr => by
  have hi : i < j + 1 := by simpa using (List.getElem?_eq_some_iff.1 hr).1
  rw [List.getElem?_replicate, if_pos hi] at hr
  injection hr with hr
  subst hr
  by_cases h : i = j
  · exact .inl ⟨h, rfl⟩
  · exact .inr ⟨h, by rw [List.getElem?_replicate, if_pos (by omega)]⟩

theorem take_put {l : List Rat} {k : Nat} {q : Rat} (h : l[k]? = some q) : ∀ i r, (l.take (k + 1))[i]? = some r → (i = k ∧ r = q) ∨ (i ≠ k ∧ (l.take k)[i]? = some r) := push_at h (fun _ _ => rfl) (by have := (List.getElem?_eq_some_iff.1 h).1; omega)
theorem sp_first (ps : List Rat) (n : Nat) : ∀ i r, (spL ps n 0)[i]? = some r → (i = 0 ∧ r = 1) ∨ (i ≠ 0 ∧ (List.replicate (n + 1) (0 : Rat))[i]? = some r) := fun i r hr => by
  rw [spL] at hr
  rcases i with _ | i
  · simp at hr
    exact .inl ⟨rfl, hr.symm⟩
  · refine .inr ⟨by omega, ?_⟩
    rw [List.replicate_succ]
    simpa using hr

/-- The sizes that the walk of Spares asks for. -/
structure SparesSz (ps : List Rat) (n k : Nat) : Prop where
  own : ∀ q ∈ ps, Sz q
  all : ∀ t, t ≤ k → ∀ q ∈ spL ps n t, Sz q
  dots : ∀ t i j, t ≤ k → Sz (pdot ps ((spL ps n t).take i).reverse j)
  mul : ∀ t, t ≤ k → ∀ p ∈ ps, ∀ q ∈ spL ps n t, Sz (p * q)
  sums : ∀ j, Sz (psum (spL ps n k) j)
  last : Sz (spL ps n k).sum
  num : numRes (spL ps n k).sum = (nt (spL ps n k).sum, 0)

def RetNumE (w : World) (k : Int) (e : Ending) (w' : World) : Prop := e = .returned (.tuple #[.string ⟨#[]⟩, .int .i64 k]) ∧ Below w.heap.size w w'
def RetNumT (w : World) (s : ByteArray) (e : Ending) (w' : World) : Prop := e = .returned (.tuple #[.string s, .int .i64 0]) ∧ Below w.heap.size w w'

set_option maxRecDepth 100000 in
set_option maxHeartbeats 800000 in
theorem spares_bad (e0 n k : Int) (hk : (e0 != 0) = true) (ao : Option Addr) (c l : Nat) (w : World) (h : Calls Try.prog 28 #[.slice ao l c] w (RetErr w e0)) :
    Calls Try.prog 26 #[.slice ao l c, .int .i64 n, .int .i64 k] w (RetNumE w e0) := by
  have hH := Lib.hid h
  clear h
  go_enter Try.func26, Try.ntmps26
  go_wp2_with (first | (go_at_call 28; (with_reducible refine hH.out.mono ?_); rintro e w1 ⟨rfl, hb1⟩))
  go_ret2
  exact ⟨rfl, hb1⟩

set_option maxRecDepth 100000 in
set_option maxHeartbeats 800000 in
theorem spares_out (n k : Int) (hn : n < 0 ∨ 40 < n ∨ k < 0 ∨ 40 < k) (ao : Option Addr) (c l : Nat) (ps : List Rat) (w : World) (h : Calls Try.prog 28 #[.slice ao l c] w (RetLives w ps)) :
    Calls Try.prog 26 #[.slice ao l c, .int .i64 n, .int .i64 k] w (RetNumE w 1) := by
  have hH := Lib.hid h
  clear h
  by_cases h1 : n < 0
  · clear hn
    go_enter Try.func26, Try.ntmps26
    go_wp2_with (first | (go_at_call 28; (with_reducible refine hH.out.mono ?_); rintro e w1 ⟨a1, c1, rfl, hV, hb1⟩; have hVH := Lib.hid hV; clear hV))
    go_ret2
    exact ⟨rfl, hb1⟩
  · by_cases h2 : 40 < n
    · clear hn
      go_enter Try.func26, Try.ntmps26
      go_wp2_with (first | (go_at_call 28; (with_reducible refine hH.out.mono ?_); rintro e w1 ⟨a1, c1, rfl, hV, hb1⟩; have hVH := Lib.hid hV; clear hV))
      go_ret2
      exact ⟨rfl, hb1⟩
    · by_cases h3 : k < 0
      · clear hn
        go_enter Try.func26, Try.ntmps26
        go_wp2_with (first | (go_at_call 28; (with_reducible refine hH.out.mono ?_); rintro e w1 ⟨a1, c1, rfl, hV, hb1⟩; have hVH := Lib.hid hV; clear hV))
        go_ret2
        exact ⟨rfl, hb1⟩
      · have h4 : 40 < k := by omega
        clear hn
        go_enter Try.func26, Try.ntmps26
        go_wp2_with (first | (go_at_call 28; (with_reducible refine hH.out.mono ?_); rintro e w1 ⟨a1, c1, rfl, hV, hb1⟩; have hVH := Lib.hid hV; clear hV))
        go_ret2
        exact ⟨rfl, hb1⟩

set_option maxRecDepth 100000 in
set_option maxHeartbeats 3200000 in
theorem spares_good (n k : Nat) (hn : n ≤ 40) (hk : k ≤ 40) (ao : Option Addr) (c l : Nat) (ps : List Rat) (w : World) (h : Calls Try.prog 28 #[.slice ao l c] w (RetLives w ps)) (hpl : ps.length ≤ 12) (hz : SparesSz ps n k) :
    Calls Try.prog 26 #[.slice ao l c, .int .i64 n, .int .i64 k] w (RetNumT w (nt (spL ps n k).sum)) := by
  have hH := Lib.hid h
  have hzH := Lib.hid hz
  obtain ⟨m, hm⟩ : ∃ m, ps.length = m := ⟨_, rfl⟩
  have hmH := Lib.hid hm
  rw [hm] at hpl
  have k1 : ¬ (n : Int) < 0 := by omega
  have k2 : ¬ (40 : Int) < n := by omega
  have k3 : ¬ (k : Int) < 0 := by omega
  have k4 : ¬ (40 : Int) < k := by omega
  have hnn : ¬ (n : Int) + 1 < 0 := by omega
  clear h hz hm
  go_enter Try.func26, Try.ntmps26
  go_wp2_with (first
    | (go_at_call 28; (with_reducible refine hH.out.mono ?_); rintro e w1 ⟨a1, c1, rfl, hV, hb1⟩; have hP := Lib.hid (show QL w1 a1 ps from QV.ql hV); have hb1H := Lib.hid hb1; rw [hmH.out]; clear hV hb1)
    | (at_make; refine wpList_make_rat _ rfl (.tmp 39) _ rfl Try.underlying62 _ (n + 1) rfl (by simp) (by omega) ?_; intro w2 hX2 hb2 hs2))
  have hX2H := Lib.hid hX2
  have hb2H := Lib.hid hb2
  clear hX2 hb2
  go_loopw [43] (fun i wr => ∃ j, i = .int .i64 (j : Nat) ∧ j ≤ n + 1 ∧ QX wr w1.heap.size (n + 1) (List.replicate j 0) ∧ Below w1.heap.size w1 wr ∧ w2.heap.size ≤ wr.heap.size) (fun i _ => n + 1 - (intOf i).toNat)
  case atStart => exact ⟨0, rfl, by omega, hX2H.out, hb2H.out, Nat.le_refl _⟩
  case round =>
    obtain ⟨j, rfl, hj, hX, hbl, hsz⟩ := hrel
    have hXr := Lib.hid hX
    have hblH := Lib.hid hbl
    clear hX hbl
    have hgr : w1.heap.size < wr.heap.size := by omega
    by_cases hjn : j < n + 1
    · have hkk : (j : Int) < (n : Int) + 1 := by omega
      go_wp2_with (first
        | (go_at_call 32; go_loud (with_reducible refine (whole_zero _).mono ?_); rintro e w5 ⟨a5, d5, a5', d5', rfl, hm5, hb5⟩; have hX5 := Lib.hid (hXr.out.below hgr hb5); obtain ⟨v0, y0⟩ := hX5.out.2.2.1 (j * 4) (by omega); obtain ⟨v1, y1⟩ := hX5.out.2.2.1 (j * 4 + 1) (by omega); obtain ⟨v2, y2⟩ := hX5.out.2.2.1 (j * 4 + 2) (by omega); obtain ⟨v3, y3⟩ := hX5.out.2.2.1 (j * 4 + 3) (by omega); have x5 := hX5.out.2.1; have hb5H := Lib.hid (bseq hblH.out hb5); have hz5 := hb5.size))
      go_roundw
      case rel => exact ⟨j + 1, by go_num, by omega, hX5.out.put (p := ⟨a5, d5, a5', d5'⟩) hjn hm5 (rep_next j), Below.st4 hb5H.out (Nat.le_refl _), by simp; omega⟩
      case measure => simp [intOf]; omega
    · have hkk : ¬ (j : Int) < (n : Int) + 1 := by omega
      go_wp2_with (first
        | (go_at_call 32; go_loud (with_reducible refine (whole_one _).mono ?_); rintro e w5 ⟨a5, d5, a5', d5', rfl, hm5, hb5⟩; have hX5 := Lib.hid (hXr.out.below hgr hb5); obtain ⟨v0, y0⟩ := hX5.out.2.2.1 0 (by omega); obtain ⟨v1, y1⟩ := hX5.out.2.2.1 1 (by omega); obtain ⟨v2, y2⟩ := hX5.out.2.2.1 2 (by omega); obtain ⟨v3, y3⟩ := hX5.out.2.2.1 3 (by omega); have x5 := hX5.out.2.1; have hb5H := Lib.hid (bseq hblH.out hb5); have hz5 := hb5.size))
      have hje : Hid (List.replicate j (0 : Rat) = List.replicate (n + 1) 0) := by show _ = _; rw [show j = n + 1 by omega]
      rw [hje.out] at hX5
      have hXS := Lib.hid (hX5.out.put (k := 0) (p := ⟨a5, d5, a5', d5'⟩) (qs' := spL ps n 0) (by omega) hm5 (sp_first ps n))
      have hbS := Lib.hid (Below.st4 (g := w1.heap.size) (o := 0) (v0 := .bool (ng (rn 1))) (v1 := .slice a5 (LI (rn 1)) d5) (v2 := .bool (ng (rd 1))) (v3 := .slice a5' (LI (rd 1)) d5') hb5H.out (Nat.le_refl _))
      go_loopw [10, 55] (fun nw i wr => ∃ t g : Nat, i = .int .i64 (t : Nat) ∧ t ≤ k ∧ nw = .slice (some ⟨g, 0, none⟩) (n + 1) (n + 1) ∧ QX wr g (n + 1) (spL ps n t) ∧ Below w1.heap.size w1 wr ∧ g < wr.heap.size) (fun _ i _ => k - (intOf i).toNat)
      case atStart => exact ⟨0, w1.heap.size, rfl, by omega, rfl, hXS.out, hbS.out, by simp; omega⟩
      case round =>
        clear y0 y1 y2 y3 x5 hX5 hXS hbS hXr hblH hb5H hz5 hkk hjn hj hsz hgr
        obtain ⟨t, g, rfl, ht, rfl, hX, hbl, hgr⟩ := hrel
        have hXg := Lib.hid hX
        have hblH := Lib.hid hbl
        clear hX hbl
        generalize wr = wo at *
        by_cases htk : t < k
        · have hkk : (t : Int) < (k : Int) := by omega
          have hl0 := Lib.hid (spL_length ps n t)
          have hl1 := Lib.hid (spL_length ps n (t + 1))
          have hs0 : Hid ((spL ps n (t + 1))[0]? = some 0) := by show _ = _; rw [spL_at (by omega)]; exact congrArg some (dotl_nil ps)
          go_wp2_with (first
            | (at_make; refine wpList_make_rat _ rfl (.tmp 58) _ rfl Try.underlying62 _ (n + 1) rfl (by simp) (by omega) ?_; intro w3 hX3 hb3 hs3; have hX3H := Lib.hid hX3; have hb3H := Lib.hid hb3; clear hX3 hb3)
            | (go_at_call 32; go_loud (with_reducible refine (whole_zero _).mono ?_); rintro e w5 ⟨a5, d5, a5', d5', rfl, hm5, hb5⟩; have hX5 := Lib.hid (hX3H.out.below hs3 hb5); obtain ⟨v0, y0⟩ := hX5.out.2.2.1 0 (by omega); obtain ⟨v1, y1⟩ := hX5.out.2.2.1 1 (by omega); obtain ⟨v2, y2⟩ := hX5.out.2.2.1 2 (by omega); obtain ⟨v3, y3⟩ := hX5.out.2.2.1 3 (by omega); have x5 := hX5.out.2.1; have hb5H := Lib.hid (bseq hb3H.out hb5); have hz5 := hb5.size))
          have hXS := Lib.hid (hX5.out.put (k := 0) (p := ⟨a5, d5, a5', d5'⟩) (qs' := (spL ps n (t + 1)).take 1) (by omega) hm5 (take_put hs0.out))
          have hbS := Lib.hid (Below.st4 (g := wo.heap.size) (o := 0) (v0 := .bool (ng (rn 0))) (v1 := .slice a5 (LI (rn 0)) d5) (v2 := .bool (ng (rd 0))) (v3 := .slice a5' (LI (rd 0)) d5') hb5H.out (Nat.le_refl _))
          go_loopw [13] (fun i wi => ∃ j : Nat, i = .int .i64 ((j : Int) + 1) ∧ j ≤ n ∧ QX wi wo.heap.size (n + 1) ((spL ps n (t + 1)).take (j + 1)) ∧ Below wo.heap.size wo wi ∧ w3.heap.size ≤ wi.heap.size) (fun i _ => n + 1 - (intOf i).toNat)
          case atStart => exact ⟨0, rfl, by omega, hXS.out, hbS.out, by simp; omega⟩
          case round =>
            clear y0 y1 y2 y3 x5 hX5 hXS hbS hb5H hz5
            obtain ⟨j, rfl, hj, hX, hbl, hsz⟩ := hrel
            have hXr := Lib.hid hX
            have hbH := Lib.hid hbl
            have hwo : wo.heap.size < wr.heap.size := by omega
            clear hX hbl
            by_cases hjn : j < n
            · have hkk : (j : Int) + 1 ≤ (n : Int) := by omega
              have htl : Hid (((spL ps n t).take (j + 1)).length = j + 1) := by show _ = _; rw [List.length_take, hl0.out]; omega
              have hrl : Hid (((spL ps n t).take (j + 1)).reverse.length = j + 1) := by show _ = _; rw [List.length_reverse]; exact htl.out
              have hT := Lib.hid (QL.take ((hXg.out.below hgr hbH.out).ql) (j + 1))
              have hPr := Lib.hid (hP.out.below (bseq hblH.out hbH.out))
              have hst := Lib.hid (spL_at (ps := ps) (n := n) (k := t) (i := j + 1) (by omega))
              have z1 := Lib.hid (fun i => hzH.out.dots t (j + 1) i (by omega))
              have z2 := Lib.hid (fun q (hq : q ∈ ((spL ps n t).take (j + 1)).reverse) => hzH.out.all t (by omega) q (List.mem_of_mem_take (List.mem_reverse.1 hq)))
              have z3 := Lib.hid (fun p (hp : p ∈ ps) q (hq : q ∈ ((spL ps n t).take (j + 1)).reverse) => hzH.out.mul t (by omega) p hp q (List.mem_of_mem_take (List.mem_reverse.1 hq)))
              have hjc : (j : Int) + 1 ≤ (n : Int) + 1 := by omega
              go_wp2_with (fail)
              go_region_with (first
                | (go_at_call 32; go_loud (with_reducible refine (whole_zero _).mono ?_); rintro e w6 ⟨a6, d6, a6', d6', rfl, hm6, hb6⟩; have hT6 := Lib.hid ((hT.out.below (Below.refl _ _).drew).below hb6); have q6 := Lib.hid (bseq (Below.refl wr.heap.size wr).drew hb6))
                | (go_at_call 34; go_loud (with_reducible refine (turned_n (some ⟨g, 0, none⟩) (n + 1) (j + 1) ((spL ps n t).take (j + 1)) _ htl.out hT6.out (by omega)).mono ?_); rintro e w7 ⟨a7, c7, rfl, hV7, hb7⟩; have hR7 := Lib.hid (QV.ql hV7); have q7 := Lib.hid (bseq q6.out hb7); have hm67 := Lib.hid (RM.up hm6 hb7); rw [hrl.out]; clear hV7)
                | (go_at_call 33; go_loud (with_reducible refine (dot_n a6 a6' d6 d6' a1 a7 c1 c7 m (j + 1) ps ((spL ps n t).take (j + 1)).reverse _ hmH.out hrl.out hm67.out (hPr.out.below q7.out) hR7.out (by omega) (by omega) z1.out hzH.out.own z2.out z3.out).mono ?_); rintro e w8 ⟨a8, d8, a8', d8', rfl, hm8, hb8⟩; have q8 := Lib.hid (bseq q7.out hb8); have hX8 := Lib.hid (hXr.out.below hwo q8.out); obtain ⟨v0, y0⟩ := hX8.out.2.2.1 ((j + 1) * 4) (by omega); obtain ⟨v1, y1⟩ := hX8.out.2.2.1 ((j + 1) * 4 + 1) (by omega); obtain ⟨v2, y2⟩ := hX8.out.2.2.1 ((j + 1) * 4 + 2) (by omega); obtain ⟨v3, y3⟩ := hX8.out.2.2.1 ((j + 1) * 4 + 3) (by omega); have x8 := hX8.out.2.1; have hz8 := q8.out.size))
              all_goals go_wp2_with (fail)
              all_goals (
                go_roundw
                case rel => exact ⟨j + 1, by go_num, by omega, hX8.out.put (p := ⟨a8, d8, a8', d8'⟩) (by omega) hm8 (take_put hst.out), Below.st4 (bseq hbH.out q8.out) (Nat.le_refl _), by simp; omega⟩
                case measure => simp [intOf]; omega)
            · have hkk : ¬ (j : Int) + 1 ≤ (n : Int) := by omega
              have hje : j = n := by omega
              subst hje
              have hall : Hid ((spL ps j (t + 1)).take (j + 1) = spL ps j (t + 1)) := by show _ = _; rw [List.take_of_length_le (by rw [hl1.out]; exact Nat.le_refl _)]
              have h9 := hXr.out
              rw [hall.out] at h9
              have h9H := Lib.hid h9
              clear h9
              go_wp2_with (fail)
              go_roundw
              case rel => exact ⟨t + 1, wo.heap.size, by go_num, by omega, rfl, h9H.out, bseq hblH.out hbH.out, hwo⟩
              case measure => simp [intOf]; omega
        · have hte : t = k := by omega
          subst hte
          have hkk : ¬ (t : Int) < (t : Int) := by omega
          have hl0 := Lib.hid (spL_length ps n t)
          go_wp2_with (first
            | (go_at_call 54; go_loud (with_reducible refine (sum_n (some ⟨g, 0, none⟩) (n + 1) (n + 1) (spL ps n t) _ hl0.out hXg.out.ql (by omega) hzH.out.sums (hzH.out.all t (Nat.le_refl _))).mono ?_); rintro e w7 ⟨a7, c7, a7', c7', rfl, hm7, hb7⟩; have hb7H := Lib.hid (bseq hblH.out hb7); have hm7H := Lib.hid hm7; clear hb7 hm7)
            | (go_at_call 31; go_loud (with_reducible refine (rnum_ok a7 c7 a7' c7' (spL ps n t).sum _ hm7H.out hzH.out.last hzH.out.num).mono ?_); rintro e w8 ⟨rfl, hb8⟩; have hb8H := Lib.hid (bseq hb7H.out hb8); clear hb8))
          go_ret2
          exact ⟨rfl, bseq hb1H.out hb8H.out⟩

end Go.Proofs.Ytcaeonpjokkjnaa
