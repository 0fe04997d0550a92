/- To Tn -/
import Derived.Deep.RegionHeld
import Derived.StillTail
import Derived.Test.YtkecdjdggkpdpabQTl
import Derived.Test.YtkecdjdggkpdpabQWe
import Derived.Test.YtkecdjdggkpdpabQWn
set_option linter.unusedVariables false
/- A drawn region whose last operations (T) wait for its loads and change the cells that these read: S is asked behind the others only. -/
namespace Go.Proofs.Ytkecdjdggkpdpab
open Go Go.Proofs
section
variable {P : Program} {ops : Array Oper} {Q : Exit → Act → World → Prop} {md : Region.Mode} {S : World → Prop} {T : Nat → Bool}

/-- Whatever order is picked from here on, and S holds behind every operation that is carried out and is none of T. -/
def wpAnyT (P : Program) (md : Region.Mode) (ops : Array Oper) (Q : Exit → Act → World → Prop) (S : World → Prop) (T : Nat → Bool) : Nat → Array Bool → Act → World → Prop
  | 0, listed, a, w => Region.ready md ops listed = [] ∧ Q .normal a w
  | fuel + 1, listed, a, w =>
    (Region.ready md ops listed = [] → Q .normal a w) ∧
    ∀ i ∈ Region.ready md ops listed, wpOp P ops Q i (fun a' w' => (T i = false → S w') ∧ wpAnyT P md ops Q S T fuel (listed.setIfInBounds i true) a' w') a w
theorem wpAny_of_tail : ∀ (fuel : Nat) (listed : Array Bool) (a : Act) (w : World), wpAnyT P md ops Q S T fuel listed a w → wpAny P md ops Q fuel listed a w
  | 0, _, _, _, h => h
  | fuel + 1, _, _, _, h => ⟨h.1, fun i hi => wpOp_mono (fun a' w' h' => wpAny_of_tail fuel _ a' w' h'.2) (h.2 i hi)⟩
theorem wpAnyT_first {i : Nat} {oi : Oper} {v : Value} (hi : ops[i]? = some oi) (hsel : ∀ (j : Nat) (o : Oper) cs b, ops[j]? = some o → o.op ≠ .select cs b)
    (hTi : T i = false) (hT : ∀ j oj, ops[j]? = some oj → T j = true → ∃ e ∈ oj.after, Region.binds md e = true ∧ e.on = i)
    (hQ : ∀ c a w, Q (.panic c) (a.put oi.dst v) w → Q (.panic c) a w) :
    ∀ (fuel : Nat) (listed : Array Bool) (a : Act) (w : World),
      (∀ j oj, ops[j]? = some oj → j ≠ i → listed.getD j true = false → (∀ e ∈ oj.after, Region.binds md e = true → e.on ≠ i) → oi.apart ops oj = true) →
      i ∈ Region.ready md ops listed → YieldsIf P ops S oi v a → S w →
      wpAnyT P md ops Q S T fuel (listed.setIfInBounds i true) (a.put oi.dst v) w → wpAnyT P md ops Q S T (fuel + 1) listed a w := by
  intro fuel
  induction fuel with
  | zero =>
    intro listed a w _ hr hy hS H
    refine ⟨fun h => (by rw [h] at hr; cases hr), fun j hj => ?_⟩
    by_cases hji : j = i
    · subst hji; exact hy.wpOp hi hS ⟨fun _ => hS, H⟩
    · have := ready_mono hj hji
      rw [H.1] at this
      cases this
  | succ fuel ih =>
    intro listed a w hfree hr hy hS H
    refine ⟨fun h => (by rw [h] at hr; cases hr), fun j hj => ?_⟩
    by_cases hji : j = i
    · subst hji; exact hy.wpOp hi hS ⟨fun _ => hS, H⟩
    · have h1 := H.2 j (ready_mono hj hji)
      obtain ⟨hjun, oj, hoj, hall⟩ := mem_ready.1 hj
      have hnot : ∀ e ∈ oj.after, Region.binds md e = true → e.on ≠ i := fun e he hb heq => by
        have h1 := hall e he hb
        have h0 := (mem_ready.1 hr).1
        rw [heq] at h1
        rcases Nat.lt_or_ge i listed.size with h' | h'
        · simp [h'] at h0 h1; rw [h0] at h1; cases h1
        · simp [Array.getElem?_eq_none h'] at h1
      have hTj : T j = false := by
        cases hx : T j with
        | false => rfl
        | true =>
          obtain ⟨e, he, hb, hon⟩ := hT j oj hoj hx
          exact absurd hon (hnot e he hb)
      have h2 := wpOp_putIf hoj (hfree j oj hoj hji hjun hnot) (fun cs b => hsel i oi cs b hi) (fun cs b => hsel j oj cs b hoj) hQ hy h1
      have hfree' : ∀ k ok, ops[k]? = some ok → k ≠ i → (listed.setIfInBounds j true).getD k true = false →
          (∀ e ∈ ok.after, Region.binds md e = true → e.on ≠ i) → oi.apart ops ok = true := fun k ok hk hki hun hno => by
        refine hfree k ok hk hki ?_ hno
        by_cases hjk : j = k
        · subst hjk; exact hjun
        · rw [getD_set_ne true hjk] at hun; exact hun
      refine wpOp_mono (fun a' w' h3 => ⟨fun _ => h3.2.1 hTj, ih (listed.setIfInBounds j true) a' w' hfree' (ready_mono hr (Ne.symm hji)) h3.1 (h3.2.1 hTj) ?_⟩) h2
      rw [Array.setIfInBounds_comm _ _ hji]
      exact h3.2.2
/-- All of T wait for i. -/
def tailB (md : Region.Mode) (ops : Array Oper) (T : Nat → Bool) (i : Nat) : Bool :=
  !T i && (List.range ops.size).all fun j => !T j || Region.waitsFor md ops j i
theorem wpAnyT_take {i : Nat} {oi : Oper} {v : Value} {fuel : Nat} {listed : Array Bool} {a : Act} {w : World} (hi : ops[i]? = some oi)
    (hs : Region.noSelect ops = true) (hf : Region.free md ops listed i = true) (hr : (Region.ready md ops listed).contains i = true) (ht : tailB md ops T i = true)
    (hQ : ∀ c a w, Q (.panic c) (a.put oi.dst v) w → Q (.panic c) a w) (hy : YieldsIf P ops S oi v a) (hS : S w)
    (h : wpAnyT P md ops Q S T fuel (listed.setIfInBounds i true) (a.put oi.dst v) w) : wpAnyT P md ops Q S T (fuel + 1) listed a w := by
  unfold tailB at ht
  simp only [Bool.and_eq_true, Bool.not_eq_true', List.all_eq_true, Bool.or_eq_true, List.mem_range] at ht
  refine wpAnyT_first hi (Region.noSelect_spec hs) ht.1 (fun j oj hj hTj => ?_) hQ fuel listed a w (Region.free_spec hi hf) (by simpa using hr) hy hS h
  have hjl : j < ops.size := (Array.getElem?_eq_some_iff.1 hj).1
  rcases ht.2 j hjl with h1 | h1
  · rw [hTj] at h1; cases h1
  · obtain ⟨oj', h2, e, h3, h4, h5⟩ := Region.waitsFor_spec h1
    have : oj' = oj := Option.some.inj (h2.symm.trans hj)
    subst this
    exact ⟨e, h3, h4, h5⟩
/-- One alone may come up. -/
theorem wpAnyT_one {i : Nat} {o : Oper} {fuel : Nat} {listed : Array Bool} {a : Act} {w : World} (hr : Region.ready md ops listed = [i]) (ho : ops[i]? = some o)
    (h : ∀ K' : Act → World → Prop, Shut (∀ a w, (T i = false → S w) → ((T i = false → S w) → wpAnyT P md ops Q S T fuel (listed.setIfInBounds i true) a w) → K' a w) → if Region.wanted o (yielded ops a.tmps) = true then Oper.wp P o a w K' Q else K' (a.put o.dst undef) w) :
    wpAnyT P md ops Q S T (fuel + 1) listed a w := by
  refine ⟨fun h0 => (by rw [hr] at h0; cases h0), fun j hj => ?_⟩
  rw [hr] at hj
  have hji : j = i := by simpa using hj
  subst hji
  exact wpOp_step ho (fun K' hK => h K' (fun a w hS hW => hK a w ⟨hS, hW hS⟩))
theorem wpAnyT_done {listed : Array Bool} {a : Act} {w : World} (hr : Region.ready md ops listed = []) (h : Q .normal a w) :
    ∀ fuel, wpAnyT P md ops Q S T fuel listed a w
  | 0 => ⟨hr, h⟩
  | _ + 1 => ⟨fun _ => h, by rw [hr]; simp⟩
/-- What is left comes up in the text's order. -/
theorem wpAnyT_seq : ∀ (l : List Oper) (k : Nat) (listed : Array Bool) (a : Act) (w : World), (∀ j, l[j]? = ops[k + j]?) → (∀ j, j < l.length → T (k + j) = true) →
    Region.seqB md ops l.length k listed = true → wpList P ops Q l a w → wpAnyT P md ops Q S T l.length listed a w
  | [], _, _, _, _, _, _, hB, h => ⟨by simpa [Region.seqB] using hB, h⟩
  | o :: l, k, listed, a, w, hl, hT, hB, h => by
    have h0 : ops[k]? = some o := by simpa using (hl 0).symm
    simp only [List.length_cons, Region.seqB, Bool.and_eq_true, decide_eq_true_eq] at hB
    refine ⟨fun h1 => (by rw [hB.1] at h1; cases h1), fun i hi => ?_⟩
    rw [hB.1] at hi
    have hik : i = k := by simpa using hi
    subst hik
    have hw : wpOp P ops Q i (wpList P ops Q l) a w := by unfold wpOp; simp only [h0]; exact h
    have hTi : T i = true := by simpa using hT 0 (by simp)
    exact wpOp_mono (fun a' w' h' => ⟨fun h1 => (by rw [hTi] at h1; cases h1), wpAnyT_seq l (i + 1) _ a' w' (fun j => by have := hl (j + 1); simpa [Nat.add_assoc, Nat.add_comm 1 j] using this) (fun j hj => by have := hT (j + 1) (by simp; omega); simpa [Nat.add_assoc, Nat.add_comm 1 j] using this) hB.2 h'⟩) hw
/-- The beginning. -/
theorem wp_region_tail {id : Nat} {a : Act} {w : World} (S : World → Prop) (T : Nat → Bool) (hm : P.follows .mixedOrders = true) (hS : S w.drew)
    (h : S w.drew → wpAnyT P .any ops Q S T ops.size (Array.replicate ops.size false) a w.drew) : (Code.region id ops true).wp P Q a w :=
  wp_region_any hm (wpAny_of_tail _ _ _ _ (h hS))
end
end Go.Proofs.Ytkecdjdggkpdpab

/- Walk of Pell. -/
namespace Go.Proofs.Ytkecdjdggkpdpab
open Go Go.RowKit Go.Proofs

theorem zi_lit1 (w : World) (x : Int) (base : Nat) (h : base ≤ w.heap.size) : ZI (w.alloc (Obj.cells #[.int .i64 x] 3)) base (.slice (some ⟨w.heap.size, 0, none⟩) 1 1) [x] :=
  ⟨rfl, .inr ⟨w.heap.size, 1, #[.int .i64 x], rfl, h, World.alloc_heap_new w _, Nat.le_refl _, by unfold maxLen; omega, rfl, rfl⟩⟩
/-- Two boxes are laid. -/
theorem alloc2 {w : World} {n m c c' : Nat} {a a' : Option Addr} (h1 : IM w a c (n : Int)) (h2 : IM w a' c' (m : Int)) :
    PIs ((w.alloc (Obj.cells #[.bool (ng (n : Int)), .slice a (LI (n : Int)) c] 49)).alloc (Obj.cells #[.bool (ng (m : Int)), .slice a' (LI (m : Int)) c'] 49)) w.heap.size n ∧
    PIs ((w.alloc (Obj.cells #[.bool (ng (n : Int)), .slice a (LI (n : Int)) c] 49)).alloc (Obj.cells #[.bool (ng (m : Int)), .slice a' (LI (m : Int)) c'] 49)) (w.heap.size + 1) m ∧
    Below w.heap.size w ((w.alloc (Obj.cells #[.bool (ng (n : Int)), .slice a (LI (n : Int)) c] 49)).alloc (Obj.cells #[.bool (ng (m : Int)), .slice a' (LI (m : Int)) c'] 49)) := by
  have hb : Below w.heap.size w ((w.alloc (Obj.cells #[.bool (ng (n : Int)), .slice a (LI (n : Int)) c] 49)).alloc (Obj.cells #[.bool (ng (m : Int)), .slice a' (LI (m : Int)) c'] 49)) := below_al (below_al (Below.refl _ _) _) _
  have e1 : (w.alloc (Obj.cells #[.bool (ng (n : Int)), .slice a (LI (n : Int)) c] 49)).heap.size = w.heap.size + 1 := by simp
  refine ⟨⟨a, c, ?_, h1.up hb⟩, ⟨a', c', ?_, h2.up hb⟩, hb⟩
  · exact (Below.heap_alloc _ _ _ (by simp)).trans (World.alloc_heap_new w _)
  · have := World.alloc_heap_new (w.alloc (Obj.cells #[.bool (ng (n : Int)), .slice a (LI (n : Int)) c] 49)) (Obj.cells #[.bool (ng (m : Int)), .slice a' (LI (m : Int)) c'] 49)
    rw [e1] at this
    exact this
theorem fromIntN (a : Option Addr) (c n : Nat) (w : World) (h : IM w a c (n : Int)) : Calls Try.prog 58 #[.agg #[.bool (ng (n : Int)), .slice a (LI (n : Int)) c]] w (RetRat w (((n : Nat) : Int) : Rat)) := fromInt_any a c (n : Int) w h
/-- The text of a number. -/
theorem RetNumN_of {n : Nat} (h : n < cvB) : ∀ (a : Option Addr) (c : Nat) (a' : Option Addr) (c' : Nat) (w : World), RM w a c a' c' (((n : Nat) : Int) : Rat) →
    Calls Try.prog 24 #[.agg #[.bool (ng (rn (((n : Nat) : Int) : Rat))), .slice a (LI (rn (((n : Nat) : Int) : Rat))) c, .bool (ng (rd (((n : Nat) : Int) : Rat))), .slice a' (LI (rd (((n : Nat) : Int) : Rat))) c']] w (RetNumS w (nt (((n : Nat) : Int) : Rat), 0)) := fun a c a' c' w hm => by
  have e1 : rn (((n : Nat) : Int) : Rat) = (n : Int) := by unfold rn; simp
  have e2 : rd (((n : Nat) : Int) : Rat) = 1 := by unfold rd; simp
  have hp : cvB < p10 4000 := Nat.lt_of_lt_of_le (show cvB < p10 101 by decide) (p10_mono (by omega))
  have h1 := rnum_any a c a' c' (((n : Nat) : Int) : Rat) w hm ⟨by rw [e1]; have := LI_cvB h; omega, by rw [e2]; exact Nat.le_trans (LI_cvB (n := 1) (by decide)) (by omega)⟩
  rw [numRes_ok (by rw [e1]; omega) (by rw [e2]; exact Nat.lt_of_lt_of_le (show 1 < p10 101 by decide) (p10_mono (by omega)))] at h1
  exact h1
/-- The sign that is asked for. -/
def sgP (neg : Bool) : Int := if neg then -1 else 1
end Go.Proofs.Ytkecdjdggkpdpab
