/- Qx -/
import Derived.Test.YtcaeonpjokkjnaaGreatQRates
set_option linter.unusedVariables false
/- Lists of fractions whose elements are stored. No function of the program. -/
namespace Go.Proofs.YtcaeonpjokkjnaaGreat
open Go Go.RowKit Go.Proofs

/-- Four cells in a row are stored. -/
def st4 (w : World) (g o : Nat) (v0 v1 v2 v3 : Value) : World := (((w.setCell ⟨g, o, none⟩ v0).setCell ⟨g, o + 1, none⟩ v1).setCell ⟨g, o + 2, none⟩ v2).setCell ⟨g, o + 3, none⟩ v3

theorem set_off {w : World} {g y b x : Nat} {v : Value} (h : ¬ (g = b ∧ y = x)) : (w.setCell ⟨g, y, none⟩ v).cell? ⟨b, x, none⟩ = w.cell? ⟨b, x, none⟩ :=
  World.cell?_setCell_other _ _ _ _ (fun e => by injection e with e1 e2; exact h ⟨e1, e2⟩)
theorem set_at {w : World} {g y : Nat} {u v : Value} (h : w.cell? ⟨g, y, none⟩ = some u) : (w.setCell ⟨g, y, none⟩ v).cell? ⟨g, y, none⟩ = some v := World.cell?_setCell_same _ _ _ h
theorem st4_far {w : World} {g o b x : Nat} {v0 v1 v2 v3 : Value} (h : b ≠ g) : (st4 w g o v0 v1 v2 v3).cell? ⟨b, x, none⟩ = w.cell? ⟨b, x, none⟩ := by
  unfold st4
  exact (set_off (by omega)).trans ((set_off (by omega)).trans ((set_off (by omega)).trans (set_off (by omega))))
theorem st4_out {w : World} {g o x : Nat} {v0 v1 v2 v3 : Value} (h : x < o ∨ o + 4 ≤ x) : (st4 w g o v0 v1 v2 v3).cell? ⟨g, x, none⟩ = w.cell? ⟨g, x, none⟩ := by
  unfold st4
  exact (set_off (by omega)).trans ((set_off (by omega)).trans ((set_off (by omega)).trans (set_off (by omega))))
theorem st4_in {w : World} {g o : Nat} {v0 v1 v2 v3 : Value} (h : ∀ j, j < 4 → ∃ u, w.cell? ⟨g, o + j, none⟩ = some u) :
    (st4 w g o v0 v1 v2 v3).cell? ⟨g, o, none⟩ = some v0 ∧ (st4 w g o v0 v1 v2 v3).cell? ⟨g, o + 1, none⟩ = some v1 ∧ (st4 w g o v0 v1 v2 v3).cell? ⟨g, o + 2, none⟩ = some v2 ∧ (st4 w g o v0 v1 v2 v3).cell? ⟨g, o + 3, none⟩ = some v3 := by
  obtain ⟨u0, h0⟩ := h 0 (by omega)
  obtain ⟨u1, h1⟩ := h 1 (by omega)
  obtain ⟨u2, h2⟩ := h 2 (by omega)
  obtain ⟨u3, h3⟩ := h 3 (by omega)
  unfold st4
  refine ⟨?_, ?_, ?_, ?_⟩
  · exact (set_off (by omega)).trans ((set_off (by omega)).trans ((set_off (by omega)).trans (set_at h0)))
  · exact (set_off (by omega)).trans ((set_off (by omega)).trans (set_at (u := u1) ((set_off (by omega)).trans h1)))
  · exact (set_off (by omega)).trans (set_at (u := u2) ((set_off (by omega)).trans ((set_off (by omega)).trans h2)))
  · exact set_at (u := u3) ((set_off (by omega)).trans ((set_off (by omega)).trans ((set_off (by omega)).trans h3)))

theorem st4_frozen {w : World} {g o : Nat} {a : Addr} {v0 v1 v2 v3 : Value} : (st4 w g o v0 v1 v2 v3).frozen? a = w.frozen? a := by
  unfold st4; simp
theorem Dg.st4 {K : IntKind} {w : World} {ao : Option Addr} {xs : List Nat} {g o : Nat} {v0 v1 v2 v3 : Value} (h : Dg K w ao xs) (hN : NoInt w g) : Dg K (st4 w g o v0 v1 v2 v3) ao xs := fun i x hx => by
  obtain ⟨b, o', ha, hc⟩ := h i x hx
  refine ⟨b, o', ha, ?_⟩
  have hb : b ≠ g := fun e => by subst e; exact hN _ _ _ hc
  rw [st4_far hb]
  exact hc
theorem RMp.st4 {w : World} {p : RP} {q : Rat} {g o : Nat} {v0 v1 v2 v3 : Value} (h : RMp w p q) (hN : NoInt w g) : RMp (st4 w g o v0 v1 v2 v3) p q :=
  ⟨⟨h.1.1, Dg.st4 h.1.2 hN⟩, ⟨h.2.1, Dg.st4 h.2.2 hN⟩⟩
theorem Below.st4 {B g o : Nat} {W w : World} {v0 v1 v2 v3 : Value} (h : Below B W w) (hN : B ≤ g) : Below B W (st4 w g o v0 v1 v2 v3) :=
  (((h.setCell hN _).setCell hN _).setCell hN _).setCell hN _

/-- The block g holds room for n fractions; the first ones are qs. -/
def QX (w : World) (g n : Nat) (qs : List Rat) : Prop :=
  NoInt w g ∧ (∀ o, w.frozen? ⟨g, o, none⟩ = false) ∧ (∀ o, o < 4 * n → ∃ u, w.cell? ⟨g, o, none⟩ = some u) ∧ ∀ i q, qs[i]? = some q → ∃ p, RMp w p q ∧ w.cell? ⟨g, i * 4, none⟩ = some (.bool (ng (rn q))) ∧ w.cell? ⟨g, i * 4 + 1, none⟩ = some (.slice p.a (LI (rn q)) p.c) ∧
    w.cell? ⟨g, i * 4 + 2, none⟩ = some (.bool (ng (rd q))) ∧ w.cell? ⟨g, i * 4 + 3, none⟩ = some (.slice p.a' (LI (rd q)) p.c')

theorem QX.ql {w : World} {g n : Nat} {qs : List Rat} (h : QX w g n qs) : QL w (some ⟨g, 0, none⟩) qs := fun i q hq => by
  obtain ⟨p, hm, h0, h1, h2, h3⟩ := h.2.2.2 i q hq
  exact ⟨g, 0, p, rfl, hm, by rw [Nat.zero_add]; exact h0, by rw [Nat.zero_add]; exact h1, by rw [Nat.zero_add]; exact h2, by rw [Nat.zero_add]; exact h3⟩
theorem QX.below {w w' : World} {g n : Nat} {qs : List Rat} (h : QX w g n qs) (hg : g < w.heap.size) (hb : Below w.heap.size w w') : QX w' g n qs := by
  obtain ⟨h1, hf, h2, h3⟩ := h
  refine ⟨fun o k z hc => ?_, fun o => ?_, fun o ho => ?_, fun i q hq => ?_⟩
  · rw [World.cell?_of_block (w := w) (a := ⟨g, o, none⟩) (hb.block g hg)] at hc
    exact h1 o k z hc
  · rw [hb.frozen (p := ⟨g, o, none⟩) hg]; exact hf o
  · obtain ⟨u, hu⟩ := h2 o ho
    exact ⟨u, Below.cellAt hb (Nat.le_refl _) hu⟩
  · obtain ⟨p, hm, c0, c1, c2, c3⟩ := h3 i q hq
    exact ⟨p, hm.up hb, Below.cellAt hb (Nat.le_refl _) c0, Below.cellAt hb (Nat.le_refl _) c1, Below.cellAt hb (Nat.le_refl _) c2, Below.cellAt hb (Nat.le_refl _) c3⟩
theorem QX.put {w : World} {g n k : Nat} {qs qs' : List Rat} {p : RP} {q : Rat} (h : QX w g n qs) (hk : k < n) (hm : RMp w p q) (hq : ∀ i r, qs'[i]? = some r → (i = k ∧ r = q) ∨ (i ≠ k ∧ qs[i]? = some r)) :
    QX (st4 w g (k * 4) (.bool (ng (rn q))) (.slice p.a (LI (rn q)) p.c) (.bool (ng (rd q))) (.slice p.a' (LI (rd q)) p.c')) g n qs' := by
  obtain ⟨h1, hf, h2, h3⟩ := h
  have hin := st4_in (w := w) (g := g) (o := k * 4) (v0 := .bool (ng (rn q))) (v1 := .slice p.a (LI (rn q)) p.c) (v2 := .bool (ng (rd q))) (v3 := .slice p.a' (LI (rd q)) p.c') (fun j hj => h2 _ (by omega))
  refine ⟨fun o t z hc => ?_, fun o => ?_, fun o ho => ?_, fun i r hr => ?_⟩
  · by_cases ho : o < k * 4 ∨ k * 4 + 4 ≤ o
    · rw [st4_out ho] at hc
      exact h1 o t z hc
    · have h4 : o = k * 4 ∨ o = k * 4 + 1 ∨ o = k * 4 + 2 ∨ o = k * 4 + 3 := by omega
      rcases h4 with rfl | rfl | rfl | rfl
      · rw [hin.1] at hc; cases hc
      · rw [hin.2.1] at hc; cases hc
      · rw [hin.2.2.1] at hc; cases hc
      · rw [hin.2.2.2] at hc; cases hc
  · rw [st4_frozen]; exact hf o
  · by_cases hx : o < k * 4 ∨ k * 4 + 4 ≤ o
    · rw [st4_out hx]; exact h2 o ho
    · have h4 : o = k * 4 ∨ o = k * 4 + 1 ∨ o = k * 4 + 2 ∨ o = k * 4 + 3 := by omega
      rcases h4 with rfl | rfl | rfl | rfl
      · exact ⟨_, hin.1⟩
      · exact ⟨_, hin.2.1⟩
      · exact ⟨_, hin.2.2.1⟩
      · exact ⟨_, hin.2.2.2⟩
  · rcases hq i r hr with ⟨rfl, rfl⟩ | ⟨hi, hr2⟩
    · exact ⟨p, hm.st4 h1, hin⟩
    · obtain ⟨p2, hm2, c0, c1, c2, c3⟩ := h3 i r hr2
      exact ⟨p2, hm2.st4 h1, by rw [st4_out (by omega)]; exact c0, by rw [st4_out (by omega)]; exact c1, by rw [st4_out (by omega)]; exact c2, by rw [st4_out (by omega)]; exact c3⟩
theorem QV.qx {w : World} {base n c : Nat} {ao : Option Addr} {qs : List Rat} (h : QV w base (.slice ao n c) qs) (hn : qs.length = n) (h0 : 0 < n) : ∃ g, ao = some ⟨g, 0, none⟩ ∧ QX w g n qs ∧ base ≤ g ∧ g < w.heap.size := by
  have hql := QV.ql h
  obtain ⟨l, rfl, ho, hni, hm⟩ := h
  rw [List.length_map] at hn
  have ho2 := ho
  rcases ho.2 with ⟨h1, h2⟩ | ⟨g', cap', cur, hv, _⟩
  · rw [List.length_map] at h2; omega
  · injection hv with e1 e2 e3
    subst e1
    have hlt := World.ownsRow.lt ho2 g' rfl
    refine ⟨g', rfl, ⟨hni g' rfl, fun o => ?_, fun o hoo => ?_, fun i q hq => ?_⟩, hlt.1, hlt.2⟩
    · rw [e2, e3] at ho
      exact ho.frozenAt o
    · rw [e2, e3] at ho
      have h4 : o < (allCells l).length := by rw [allCells_length]; omega
      exact ⟨_, ho.cellAt o (by simp; rw [allCells_length] at h4; omega) |>.trans (List.getElem?_eq_getElem h4)⟩
    · obtain ⟨b, o, p, hb, hm2, c0, c1, c2, c3⟩ := hql i q hq
      injection hb with hb
      injection hb with b1 b2 b3
      subst b1 b2
      rw [Nat.zero_add] at c0 c1 c2 c3
      exact ⟨p, hm2, c0, c1, c2, c3⟩

/-- A list that is turned from B to A, as far as k. -/
def mixL (A B : List Rat) (k : Nat) : List Rat := A.take k ++ B.drop k
theorem mixL_zero (A B : List Rat) : mixL A B 0 = B := by simp [mixL]
theorem mixL_all {A B : List Rat} {n : Nat} (hA : A.length = n) (hB : B.length = n) : mixL A B n = A := by
  unfold mixL
  rw [List.take_of_length_le (by omega), List.drop_eq_nil_of_le (by omega), List.append_nil]
theorem mixL_len {A B : List Rat} {n k : Nat} (hA : A.length = n) (hB : B.length = n) (hk : k ≤ n) : (mixL A B k).length = n := by
  unfold mixL
  rw [List.length_append, List.length_take, List.length_drop]; omega
theorem mixL_at {A B : List Rat} {n k : Nat} (hA : A.length = n) (hk : k < n) : (mixL A B k)[k]? = B[k]? := by
  unfold mixL
  rw [List.getElem?_append_right (by rw [List.length_take]; omega), List.length_take, List.getElem?_drop]
  congr 1; omega
theorem mixL_next {A B : List Rat} {n k : Nat} {q : Rat} (hA : A.length = n) (hk : k < n) (hq : A[k]? = some q) : ∀ i r, (mixL A B (k + 1))[i]? = some r → (i = k ∧ r = q) ∨ (i ≠ k ∧ (mixL A B k)[i]? = some r) := fun i r hr => by
  unfold mixL at hr ⊢
  by_cases h1 : i < k + 1
  · rw [List.getElem?_append_left (by rw [List.length_take]; omega), List.getElem?_take_of_lt h1] at hr
    by_cases h2 : i = k
    · subst h2
      rw [hq] at hr
      exact .inl ⟨rfl, (Option.some.inj hr).symm⟩
    · refine .inr ⟨h2, ?_⟩
      rw [List.getElem?_append_left (by rw [List.length_take]; omega), List.getElem?_take_of_lt (by omega)]
      exact hr
  · refine .inr ⟨by omega, ?_⟩
    rw [List.getElem?_append_right (by rw [List.length_take]; omega), List.length_take, List.getElem?_drop] at hr ⊢
    rw [← hr]
    congr 1; omega

end Go.Proofs.YtcaeonpjokkjnaaGreat
