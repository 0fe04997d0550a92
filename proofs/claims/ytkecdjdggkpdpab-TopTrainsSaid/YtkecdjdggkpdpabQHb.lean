/- Hb Hc Hd -/
import Derived.Test.YtkecdjdggkpdpabQTa
import Derived.Test.YtkecdjdggkpdpabQTd
import Derived.Maps.Own
import Derived.Maps.OwnSet
import Derived.Maps.AppendAt
import Derived.Laws.EntriesVeiled
import Derived.Test.YtkecdjdggkpdpabQJs
set_option linter.unusedVariables false
/- Walk of Markov's grow: the set of the numbers of a triple's tree. -/
namespace Go.Proofs.Ytkecdjdggkpdpab
open Go Go.RowKit Go.Proofs Go.Maps

theorem lawM : Keyed Try.prog 3 := int_keyed Try.underlying3
/-- A set of ints. -/
abbrev OM (W : World) (b k : Nat) (D : DataW Unit) : Prop := W.ownsMap Try.prog 3 (plainElem (H := Unit) Try.prog 4) b k D
def ky (v : Int) : Lit := .int .i64 v
theorem has_put (D : DataW Unit) (hD : IsMap D) (z v : Int) (d : DataW Unit) : Maps.has (D.put (ky z) d) (ky v) = (decide (v = z) || Maps.has D (ky v)) := by
  by_cases h : v = z
  · subst h
    rw [Maps.has_put_same hD (show WideAt.IsKeyLit (ky v) from trivial), decide_eq_true rfl]; rfl
  · rw [Maps.has_put_other (by intro e; injection e with _ e; exact h e), decide_eq_false h]; rfl
/-- The set has what it had, and these. -/
def Adds (D D' : DataW Unit) (l : List Nat) : Prop := ∀ v : Int, Maps.has D' (ky v) = (Maps.has D (ky v) || decide (v ∈ nzT l))
theorem Adds.nil (D : DataW Unit) : Adds D D [] := fun v => by simp [nzT]
theorem Adds.cons {D D1 D2 : DataW Unit} {a : Nat} {l : List Nat} (hD : IsMap D) {d : DataW Unit} (h1 : D1 = D.put (ky (a : Int)) d) (h2 : Adds D1 D2 l) : Adds D D2 (a :: l) := fun v => by
  rw [h2 v, h1, has_put D hD]
  by_cases h : v = (a : Int)
  · subst h; simp [nzT]
  · rw [decide_eq_false h, Bool.false_or]
    congr 1
    simp [nzT, h]
theorem Adds.app {D D1 D2 : DataW Unit} {l k : List Nat} (h1 : Adds D D1 l) (h2 : Adds D1 D2 k) : Adds D D2 (l ++ k) := fun v => by
  rw [h2 v, h1 v, Bool.or_assoc]
  congr 1
  simp [nzT, List.map_append, List.mem_append, Bool.decide_or]
def MkPost (Bm k : Nat) (D : DataW Unit) (l : List Nat) (W : World) (e : Ending) (w' : World) : Prop := e = .returned (.tuple #[]) ∧ ∃ D', OM w' Bm (k + l.length) D' ∧ Adds D D' l ∧ W.grownBy w' (some Bm)
end Go.Proofs.Ytkecdjdggkpdpab

/- The keys of the set, sorted. -/
namespace Go.Proofs.Ytkecdjdggkpdpab
open Go Go.RowKit Go.Proofs Go.Maps Go.Sort Go.Shelf

end Go.Proofs.Ytkecdjdggkpdpab

/- Walk of Markov. -/
namespace Go.Proofs.Ytkecdjdggkpdpab
open Go Go.RowKit Go.Proofs Go.Maps

/-- 'map[..]..{k: v}' at the operation: as for 'm[k] = v'. -/
theorem wpList_insert_own {H : Type} {P : Program} (w : World) {ops : Array Oper} {rest : List Oper} {o : Oper} {a : Act} {Q : Exit → Act → World → Prop}
    (hg : o.guard = none) (m x v : Operand) (t : TypeId) (hop : o.op = Op.insert t m x v)
    (k e : TypeId) (K : Keyed P k) (ht : P.underlying t = some (.map k e)) (R : Value → Option (DataW H × List MemPlace)) (b n : Nat) (D : DataW H)
    (hm : a.eval m = .map (some b)) (hown : w.ownsMap P k R b n D) (hn : n < maxLen) (key val : Value) (kl : Lit) (hx : a.eval x = key) (hv : a.eval v = val) (hkey : keyOf P k key = some kl)
    (d : DataW H) (ps : List MemPlace) (hval : R val = some (d, ps))
    (hK : ∀ w', w'.ownsMap P k R b (n + 1) (D.put kl d) → w.grownBy w' (some b) → wpList P ops Q rest (a.put o.dst undef) w') :
    wpList P ops Q (o :: rest) a w := by
  refine wpList_plain hg fun K' hK' => ?_
  obtain ⟨w', hrun, r1, r2⟩ := hown.update K ht hn hkey hval
  unfold Oper.wp
  simp [execOp, hop, hm, hx, hv, hrun, Result.andThen]
  exact hK' _ _ (hK w' r1 r2)
def MarkP (L : List Int) (w : World) (e : Ending) (w' : World) : Prop := ∃ g c, e = .returned (.tuple #[.slice (some ⟨g, 0, none⟩) L.length c, .int .i64 0]) ∧ L.length ≤ c ∧ IZ w' (some ⟨g, 0, none⟩) L ∧ Below w.heap.size w w'
theorem lit1T (w : World) (x : Int) : IZ (w.alloc (Obj.cells #[.int .i64 x] 3)) (some ⟨w.heap.size, 0, none⟩) [x] := fun i v hz => by
  rcases i with _ | i
  · simp at hz; subst hz; exact ⟨_, 0, rfl, by rw [al_newT rfl]; rfl⟩
  · simp at hz
end Go.Proofs.Ytkecdjdggkpdpab
