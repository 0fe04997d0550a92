/- Ge Gf Gg Gh Gi -/
import Derived.Test.YtkecdjdggkpdpaaQPe
import Derived.Test.YtkecdjdggkpdpaaQPa
import Derived.Test.YtkecdjdggkpdpaaQPf
import Derived.Laws.EntriesVeiled
set_option linter.unusedVariables false
/- Walks of slices.IndexFunc, ContainsFunc, Clone; of Lacks' closures. -/
namespace Go.Proofs.Ytkecdjdggkpdpaa
open Go Go.RowKit Go.Proofs

theorem iz_cellsX {w : World} {b o : Nat} {xs : List Int} (h : IZ w (some ⟨b, o, none⟩) xs) : ∀ j, j < xs.length → w.cell? ⟨b, o + j, none⟩ = some (.int .i64 (xs.getD j 0)) := fun j hj => by
  obtain ⟨b', o', e, hc⟩ := h.at hj
  injection e with e
  injection e with e1 e2
  subst e1 e2
  rw [hc]
  unfold at0
  rw [List.getD_eq_getElem?_getD]
theorem take_lastX {α : Type} {L : List α} {k : Nat} {q : α} (h : L[k]? = some q) : L.take (k + 1) = L.take k ++ [q] := by
  have hk : k < L.length := (List.getElem?_eq_some_iff.1 h).1
  rw [List.take_succ_eq_append_getElem hk]
  rw [List.getElem?_eq_getElem hk] at h
  injection h with h
  rw [h]
/-- A function of one number that only reads. -/
def PredAtZ (g : Nat) (lb : Array Value) (P : Nat → Bool) (n : Nat) (w : World) : Prop :=
  ∀ (W : World) (i : Nat) (b : Bool), P i = b → Below w.heap.size w W → i < n → Calls Try.prog g (#[.int .i64 (i : Nat)] ++ lb) W (fun e w' => e = .returned (.bool b) ∧ ∃ q, w' = W.drewN q)
def IdxPost (P : Nat → Bool) (s : List Nat) (w : World) (e : Ending) (w' : World) : Prop := ∃ z : Int, e = .returned (.int .i64 z) ∧ decide (0 ≤ z) = s.any P ∧ Below w.heap.size w w'
set_option maxRecDepth 100000 in
set_option maxHeartbeats 3200000 in
theorem indexFunc_any (ao : Option Addr) (m c n g : Nat) (lb : Array Value) (P : Nat → Bool) (s : List Nat) (w : World) (h : IZ w ao (nz s)) (hm : s.length = m) (hlt : ∀ x ∈ s, x < n) (hm2 : m ≤ 1000000) (hP : PredAtZ g lb P n w) (eg : ∀ args w, (callFunc g args).run Try.prog w = .ok (.enter g args) w) :
    Calls Try.prog 28 #[.slice ao m c, .func (.func g) #[] lb] w (IdxPost P s w) := by
  have hH := Lib.hid h
  have hmH := Lib.hid hm
  have hltH := Lib.hid hlt
  have hPH := Lib.hid hP
  clear h hm hlt hP
  go_enter Try.func28, Try.ntmps28
  go_wp2_with (fail)
  go_loopw [8] (fun iv wr => ∃ k : Nat, iv = .int .i64 (k : Nat) ∧ k ≤ m ∧ (∀ x ∈ s.take k, P x = false) ∧ Below w.heap.size w wr) (fun iv _ => m - (intOf iv).toNat)
  case atStart => exact ⟨0, rfl, by omega, by simp, Below.refl _ _⟩
  case round =>
    obtain ⟨k, rfl, hk, hno, hbl⟩ := hrel
    have hnoH := Lib.hid hno
    have hblH := Lib.hid hbl
    clear hno
    by_cases hkm : k < m
    · obtain ⟨x, hx⟩ : ∃ x, s[k]? = some x := ⟨_, List.getElem?_eq_getElem (by rw [hmH.out]; exact hkm)⟩
      obtain ⟨b1, o1, rfl, e1⟩ := (hH.out.below hbl).col hx
      have hxn := Lib.hid (hltH.out x (List.mem_of_getElem? hx))
      have ht := Lib.hid (take_lastX hx)
      have hmem := Lib.hid (List.mem_of_getElem? hx)
      have hkI : (k : Int) < (m : Int) := by omega
      have hk0 : (0 : Int) ≤ (k : Int) := by omega
      clear hbl hx
      rcases hb : P x
      · have hbH := Lib.hid hb
        clear hb
        go_wp2_with (fail)
        have cS : Calls Try.prog g (#[.int .i64 (x : Nat)] ++ lb) wr _ := hPH.out wr x false hbH.out hblH.out hxn.out
        refine cS.mono ?_
        rintro e w1 ⟨rfl, q, rfl⟩
        clear cS
        go_wp2_with (fail)
        go_roundw
        case rel => exact ⟨k + 1, by go_num, by omega, by rw [ht.out]; intro y hy; rcases List.mem_append.1 hy with h | h; exact hnoH.out y h; rw [List.mem_singleton.1 h]; exact hbH.out, bdn hblH.out⟩
        case measure => simp [intOf]; omega
      · have hbH := Lib.hid hb
        clear hb
        go_wp2_with (fail)
        have cS : Calls Try.prog g (#[.int .i64 (x : Nat)] ++ lb) wr _ := hPH.out wr x true hbH.out hblH.out hxn.out
        refine cS.mono ?_
        rintro e w1 ⟨rfl, q, rfl⟩
        clear cS
        go_wp2_with (fail)
        go_ret
        refine ⟨_, rfl, ?_, bdn hblH.out⟩
        rw [List.any_eq_true.2 ⟨x, hmem.out, hbH.out⟩]
        simp
    · have hke : k = m := by omega
      subst hke
      go_wp2_with (fail)
      go_ret
      refine ⟨_, rfl, ?_, hblH.out⟩
      have h3 := hnoH.out
      rw [List.take_of_length_le (by rw [hmH.out]; exact Nat.le_refl _)] at h3
      rw [show s.any P = false by rw [List.any_eq_false]; intro x hx; rw [h3 x hx]; simp]
      simp
theorem containsFunc_any (ao : Option Addr) (m c n g : Nat) (lb : Array Value) (P : Nat → Bool) (s : List Nat) (b : Bool) (w : World) (h : IZ w ao (nz s)) (hm : s.length = m) (hlt : ∀ x ∈ s, x < n) (hm2 : m ≤ 1000000) (hP : PredAtZ g lb P n w) (eg : ∀ args w, (callFunc g args).run Try.prog w = .ok (.enter g args) w) (hb : s.any P = b) :
    Calls Try.prog 19 #[.slice ao m c, .func (.func g) #[] lb] w (RetB w b) := by
  have hH := Lib.hid h
  have hmH := Lib.hid hm
  have hltH := Lib.hid hlt
  have hPH := Lib.hid hP
  have egH := Lib.hid eg
  have hbH := Lib.hid hb
  clear h hm hlt hP eg hb
  go_enter Try.func19, Try.ntmps19
  go_wp2_with (first
    | (go_at_call 28; go_loud (refine (indexFunc_any ao m c n g lb P s _ hH.out hmH.out hltH.out hm2 hPH.out egH.out).mono ?_); rintro e w1 ⟨z, rfl, hz, hb1⟩; have hzH := Lib.hid hz; clear hz))
  go_ret
  exact ⟨ret_boolJ (by rw [hzH.out, hbH.out]), hb1⟩
end Go.Proofs.Ytkecdjdggkpdpaa

/- Walk of Lacks' closure: does a set of blades lack handles? -/
namespace Go.Proofs.Ytkecdjdggkpdpaa
open Go Go.RowKit Go.Proofs

def hndU (A : Nat → Nat → Bool) (s : List Nat) (j : Nat) : Nat := ((List.range j).filter fun j => s.any fun i => A i j).length
theorem hndU_succ (A : Nat → Nat → Bool) (s : List Nat) (j : Nat) : hndU A s (j + 1) = if (s.any fun i => A i j) = true then hndU A s j + 1 else hndU A s j := by
  unfold hndU
  rw [List.range_succ, List.filter_append, List.length_append]
  rcases h : s.any fun i => A i j <;> simp [h]
theorem hndU_le (A : Nat → Nat → Bool) (s : List Nat) (j : Nat) : hndU A s j ≤ j := by
  have h : ((List.range j).filter fun j => s.any fun i => A i j).length ≤ (List.range j).length := List.length_filter_le _ _
  rw [List.length_range] at h; exact h
/-- The frame of what has been found: all but one box. -/
def Found (bo base : Nat) (v : Value) (p : List Nat) (W w' : World) : Prop := ∃ Wx, Below W.heap.size W Wx ∧ w' = Wx.setCell ⟨bo, 0, none⟩ v ∧ Wx.cell? ⟨bo, 0, none⟩ = some (.slice none 0 0) ∧ ZI Wx base v (nz p)
def LackPost (A : Nat → Nat → Bool) (n bo : Nat) (v : Value) (s : List Nat) (base : Nat) (W : World) (e : Ending) (w' : World) : Prop :=
  (lackB A n s = false ∧ e = .returned (.bool true) ∧ Below W.heap.size W w') ∨ (lackB A n s = true ∧ e = .returned (.bool false) ∧ Found bo base v s W w')
section
variable (ao : Option Addr) (c n bc bl bo base : Nat) (C : List (List Int)) (z : Int) (s : List Nat) (v : Value) (w W : World) (hM : IMx w ao C) (hg : goodC C) (hn : C.length = n) (c1 : w.cell? ⟨bc, 0, none⟩ = some (.slice ao n c)) (c2 : w.cell? ⟨bl, 0, none⟩ = some (.int .i64 z)) (hb : Below w.heap.size w W) (co : W.cell? ⟨bo, 0, none⟩ = some (.slice none 0 0)) (cf : W.frozen? ⟨bo, 0, none⟩ = false) (hs : ZI W base v (nz s)) (hlt : ∀ x ∈ s, x < n) (hne : s ≠ []) (hl : s.length ≤ 8)
include hM hg hn c1 c2 hb co cf hs hlt hne hl
end
end Go.Proofs.Ytkecdjdggkpdpaa

/- Walk of sets: the sets by their sizes, until one lacks handles. -/
namespace Go.Proofs.Ytkecdjdggkpdpaa
open Go Go.RowKit Go.Proofs

theorem cell_alJ {w : World} {p : Addr} {v : Value} (h : w.cell? p = some v) (o : Obj) : (w.alloc o).cell? p = some v := by
  rw [World.cell?_of_block (w := w) (Below.block ((Below.refl w.heap.size w).alloc (Nat.le_refl _) o) _ (World.block_lt_of_cell? _ _ h))]
  exact h
theorem cell_drJ {w : World} {p : Addr} {v : Value} (h : w.cell? p = some v) : w.drew.cell? p = some v := h
theorem IZ.alJ {w : World} {ao : Option Addr} {xs : List Int} (h : IZ w ao xs) (o : Obj) : IZ (w.alloc o) ao xs := h.below ((Below.refl _ _).alloc (Nat.le_refl _) o)
theorem IZ.drJ {w : World} {ao : Option Addr} {xs : List Int} (h : IZ w ao xs) : IZ w.drew ao xs := h.below (Below.drew (Below.refl _ _))
theorem ZE.alJ {w : World} {base : Nat} {v : Value} {xs : List Int} (h : ZE w base v xs) (o : Obj) : ZE (w.alloc o) base v xs := h.below ((Below.refl _ _).alloc (Nat.le_refl _) o)
theorem ZE.drJ {w : World} {base : Nat} {v : Value} {xs : List Int} (h : ZE w base v xs) : ZE w.drew base v xs := h.below (Below.drew (Below.refl _ _))
theorem ZE.zi {w : World} {base : Nat} {v : Value} {xs : List Int} (h : ZE w base v xs) (hne : xs ≠ []) : ZI w base v xs := by
  rcases h with h | ⟨h, _⟩
  · exact h
  · exact absurd h hne
theorem Found.cell {bo base : Nat} {v : Value} {p : List Nat} {W w' : World} (h : Found bo base v p W w') {b o : Nat} {u : Value} (hc : W.cell? ⟨b, o, none⟩ = some u) (hb : b ≠ bo) : w'.cell? ⟨b, o, none⟩ = some u := by
  obtain ⟨Wx, h1, rfl, _, _⟩ := h
  rw [cell_far (by omega)]
  exact Below.cellAt h1 (Nat.le_refl _) hc
theorem Found.up {bo base : Nat} {v : Value} {p : List Nat} {W W1 w' : World} (h : Found bo base v p W1 w') (hb : Below W.heap.size W W1) : Found bo base v p W w' := by
  obtain ⟨Wx, h1, h2⟩ := h
  exact ⟨Wx, bseqJ hb h1, h2⟩
theorem combU_found {n l a : Nat} {s : List Nat} {i : Nat} (f : List Nat → Bool) {p : List Nat} (ha : a ≤ i) (h0 : (combU n l a s i).find? f = none) (hp : (comb n l (i + 1) (s ++ [i])).find? f = some p) : ∀ d, (combU n l a s (i + 1 + d)).find? f = some p := by
  intro d
  induction d with
  | zero => rw [Nat.add_zero, combU_succ _ _ _ _ _ ha, List.find?_append, h0, hp]; rfl
  | succ d ih => rw [show i + 1 + (d + 1) = i + 1 + d + 1 by omega, combU_succ _ _ _ _ _ (by omega), List.find?_append, ih]; rfl
def GrowPost (f : Option (List Nat)) (bo base : Nat) (W : World) (e : Ending) (w' : World) : Prop :=
  (f = none ∧ e = .returned (.bool true) ∧ Below W.heap.size W w') ∨ ∃ p v, f = some p ∧ e = .returned (.bool false) ∧ Found bo base v p W w'
theorem grow_no {f : Option (List Nat)} {bo base : Nat} {W : World} {e : Ending} {w' : World} (hf : f = none) (h : GrowPost f bo base W e w') : e = .returned (.bool true) ∧ Below W.heap.size W w' := by
  rcases h with ⟨_, h⟩ | ⟨p, v, h, _⟩
  · exact h
  · rw [hf] at h; cases h
theorem grow_yes {f : Option (List Nat)} {p : List Nat} {bo base : Nat} {W : World} {e : Ending} {w' : World} (hf : f = some p) (h : GrowPost f bo base W e w') : ∃ v, e = .returned (.bool false) ∧ Found bo base v p W w' := by
  rcases h with ⟨h, _⟩ | ⟨q, v, h, h2⟩
  · rw [hf] at h; cases h
  · rw [hf] at h; injection h with h; subst h; exact ⟨v, h2⟩
theorem cloneFacts {wr cur w1 : World} {v : Value} {xs : List Int} (h0 : Below wr.heap.size wr cur) (hb1 : Below cur.heap.size cur w1) (hZ1 : ZI w1 cur.heap.size v xs) : Below wr.heap.size wr w1 ∧ ZE w1 wr.heap.size v xs ∧ (∀ b o, b < cur.heap.size → w1.cell? ⟨b, o, none⟩ = cur.cell? ⟨b, o, none⟩) :=
  ⟨bseqJ h0 hb1, (ZE.mono (.inl hZ1) h0.size), fun b o h => World.cell?_of_block (a := ⟨b, o, none⟩) (hb1.block b h)⟩
end Go.Proofs.Ytkecdjdggkpdpaa

/- Walk of Lacks. -/
namespace Go.Proofs.Ytkecdjdggkpdpaa
open Go Go.RowKit Go.Proofs

/-- What sets leaves behind. -/
def SetsPost (A : Nat → Nat → Bool) (n bo base : Nat) (W : World) (e : Ending) (w' : World) : Prop :=
  e = (.returned (.tuple #[]) : Ending) ∧ (((∀ q, Asc n 0 q → lackB A n q = false) ∧ Below W.heap.size W w') ∨ ∃ p v, LeastL A n p ∧ Found bo base v p W w')
end Go.Proofs.Ytkecdjdggkpdpaa

/- Walk of Lacks. -/
namespace Go.Proofs.Ytkecdjdggkpdpaa
open Go Go.RowKit Go.Proofs

theorem Found.same {bo base : Nat} {v : Value} {p : List Nat} {W w' : World} (h : Found bo base v p W w') : w'.cell? ⟨bo, 0, none⟩ = some v := by
  obtain ⟨Wx, h1, rfl, h2, _⟩ := h
  exact World.cell?_setCell_same _ _ _ h2
theorem LeastL.ne {A : Nat → Nat → Bool} {n : Nat} {p : List Nat} (h : LeastL A n p) : p ≠ [] := fun e => by
  have := h.lack
  rw [e, lackB_nil] at this
  cases this
def LacksPost (A : Nat → Nat → Bool) (n : Nat) (w : World) (e : Ending) (w' : World) : Prop :=
  ((∀ q, Asc n 0 q → lackB A n q = false) ∧ e = .returned (.tuple #[.slice none 0 0, .int .i64 5]) ∧ Below w.heap.size w w') ∨
  ∃ (p : List Nat) (m g o c : Nat), LeastL A n p ∧ p.length = m ∧ e = .returned (.tuple #[.slice (some ⟨g, o, none⟩) m c, .int .i64 0]) ∧ m ≤ c ∧ IZ w' (some ⟨g, o, none⟩) (nz p) ∧ Below w.heap.size w w'
end Go.Proofs.Ytkecdjdggkpdpaa
