/- Hb Hc Hd -/
import Derived.Test.YtbehfhmdilifkaaGreatQTa
import Derived.Test.YtbehfhmdilifkaaGreatQTd
import Derived.Maps.Own
import Derived.Maps.OwnSet
import Derived.Maps.AppendAt
import Derived.Laws.EntriesVeiled
import Derived.Test.YtbehfhmdilifkaaGreatQJs
set_option linter.unusedVariables false
/- Walk of Markov's grow: the set of the numbers of a triple's tree. -/
namespace Go.Proofs.YtbehfhmdilifkaaGreat
open Go Go.RowKit Go.Proofs Go.Maps

theorem lawM : Keyed Tryz.prog 3 := int_keyed Tryz.underlying3
/-- A set of ints. -/
abbrev OM (W : World) (b k : Nat) (D : DataW Unit) : Prop := W.ownsMap Tryz.prog 3 (plainElem (H := Unit) Tryz.prog 4) b k D
def ky (v : Int) : Lit := .int .i64 v
theorem has_put (D : DataW Unit) (hD : IsMap D) (z v : Int) (d : DataW Unit) : Maps.has (D.put (ky z) d) (ky v) = (decide (v = z) || Maps.has D (ky v)) := by
  by_cases h : v = z
  · subst h
    rw [Maps.has_put_same hD (show WideAt.IsKeyLit (ky v) from trivial), decide_eq_true rfl]; rfl
  · rw [Maps.has_put_other (by intro e; injection e with _ e; exact h e), decide_eq_false h]; rfl
/-- The set has what it had, and these. -/
def Adds (D D' : DataW Unit) (l : List Nat) : Prop := ∀ v : Int, Maps.has D' (ky v) = (Maps.has D (ky v) || decide (v ∈ nzT l))
theorem Adds.nil (D : DataW Unit) : Adds D D [] := fun v => by simp [nzT]
theorem Adds.cons {D D1 D2 : DataW Unit} {a : Nat} {l : List Nat} (hD : IsMap D) {d : DataW Unit} (h1 : D1 = D.put (ky (a : Int)) d) (h2 : Adds D1 D2 l) : Adds D D2 (a :: l) := fun v => by
  rw [h2 v, h1, has_put D hD]
  by_cases h : v = (a : Int)
  · subst h; simp [nzT]
  · rw [decide_eq_false h, Bool.false_or]
    congr 1
    simp [nzT, h]
theorem Adds.app {D D1 D2 : DataW Unit} {l k : List Nat} (h1 : Adds D D1 l) (h2 : Adds D1 D2 k) : Adds D D2 (l ++ k) := fun v => by
  rw [h2 v, h1 v, Bool.or_assoc]
  congr 1
  simp [nzT, List.map_append, List.mem_append, Bool.decide_or]
def MkPost (Bm k : Nat) (D : DataW Unit) (l : List Nat) (W : World) (e : Ending) (w' : World) : Prop := e = .returned (.tuple #[]) ∧ ∃ D', OM w' Bm (k + l.length) D' ∧ Adds D D' l ∧ W.grownBy w' (some Bm)
/-- grow's boxes. -/
structure GB (W : World) (m b1 b4 b5 Bm : Nat) : Prop where
  c1 : W.cell? ⟨b1, 0, none⟩ = some (.int .i64 (m : Nat))
  c4 : W.cell? ⟨b4, 0, none⟩ = some (.map (some Bm))
  c5 : W.cell? ⟨b5, 0, none⟩ = some (.func (.func 55) #[] #[.pointer (some ⟨b1, 0, none⟩), .pointer (some ⟨b4, 0, none⟩), .pointer (some ⟨b5, 0, none⟩)])
  n1 : b1 ≠ Bm
  n4 : b4 ≠ Bm
  n5 : b5 ≠ Bm
theorem GB.grown {W W' : World} {m b1 b4 b5 Bm : Nat} (h : GB W m b1 b4 b5 Bm) (hg : W.grownBy W' (some Bm)) : GB W' m b1 b4 b5 Bm :=
  ⟨hg.cell h.c1 (by simpa using h.n1), hg.cell h.c4 (by simpa using h.n4), hg.cell h.c5 (by simpa using h.n5), h.n1, h.n4, h.n5⟩
theorem eg_mk : ∀ args w, (callFunc 55 args).run Tryz.prog w = .ok (.enter 55 args) w := enters_of Tryz.func55 (by kernel_rfl) rfl
set_option maxRecDepth 100000 in
set_option maxHeartbeats 3200000 in
theorem mkgrow_any (m b1 b4 b5 Bm : Nat) (hm : m ≤ 1000000000) :
    ∀ (f x y z k : Nat) (W : World) (D : DataW Unit), TOk f m x y z → z ≤ 4000000000000000000 → k + 2 ^ f ≤ 1000000000000000 → GB W m b1 b4 b5 Bm → OM W Bm k D →
      Calls Tryz.prog 55 #[.int .i64 (x : Nat), .int .i64 (y : Nat), .int .i64 (z : Nat), .pointer (some ⟨b1, 0, none⟩), .pointer (some ⟨b4, 0, none⟩), .pointer (some ⟨b5, 0, none⟩)] W (MkPost Bm k D (mkV f m x y z) W) := by
  intro f
  have eg := eg_mk
  induction f with
  | zero =>
    intro x y z k W D hT hz hk hG hO
    have hlt := hT.zero
    have c1 := hG.c1
    have hltI : (m : Int) < (z : Int) := by omega
    have hOH := Lib.hid hO
    clear hT hG hO
    go_enter Tryz.func55, Tryz.ntmps55
    go_wp2_with (fail)
    refine bodyPost_ret (results_none rfl _ _ _) rfl ?_
    exact ⟨rfl, D, hOH.out, Adds.nil D, World.grownBy.refl _ _⟩
  | succ f ih =>
    intro x y z k W D hT hz hk hG hO
    have c1 := hG.c1
    have hOH := Lib.hid hO
    by_cases hlt : m < z
    · have hltI : (m : Int) < (z : Int) := by omega
      have hv : Hid (mkV (f + 1) m x y z = []) := by show _ = _; simp only [mkV]; rw [if_pos hlt]
      clear hT hG hO ih
      rw [hv.out]
      go_enter Tryz.func55, Tryz.ntmps55
      go_wp2_with (fail)
      refine bodyPost_ret (results_none rfl _ _ _) rfl ?_
      exact ⟨rfl, D, hOH.out, Adds.nil D, World.grownBy.refl _ _⟩
    · have hltI : ¬ (m : Int) < (z : Int) := by omega
      have hTl := Lib.hid hT.l
      have hTr := Lib.hid hT.r
      have hx1 := hT.x1
      have hxy := hT.xy
      have hyz := hT.yz
      have g1 := mk_ge (x := x) (y := y) (z := z) hx1 hyz
      have g2 := mk_ge (x := y) (y := x) (z := z) (by omega) (by omega)
      obtain ⟨C, hC⟩ : ∃ C, 3 * x * z - y = C := ⟨_, rfl⟩
      obtain ⟨E, hE⟩ : ∃ E, 3 * y * z - x = E := ⟨_, rfl⟩
      rw [hC] at hTl g1
      rw [hE] at hTr g2
      obtain ⟨A, hA⟩ : ∃ A, 3 * x = A := ⟨_, rfl⟩
      obtain ⟨B, hB⟩ : ∃ B, 3 * y = B := ⟨_, rfl⟩
      rw [hA] at hC
      rw [hB] at hE
      obtain ⟨P, hP⟩ : ∃ P, A * z = P := ⟨_, rfl⟩
      obtain ⟨Q, hQ⟩ : ∃ Q, B * z = Q := ⟨_, rfl⟩
      have hPl : P ≤ 3000000000000000000 := by rw [← hP]; exact Nat.le_trans (Nat.mul_le_mul (show A ≤ 3000000000 by omega) (show z ≤ 1000000000 by omega)) (by decide)
      have hQl : Q ≤ 3000000000000000000 := by rw [← hQ]; exact Nat.le_trans (Nat.mul_le_mul (show B ≤ 3000000000 by omega) (show z ≤ 1000000000 by omega)) (by decide)
      have hAI : (3 : Int) * (x : Int) = (A : Int) := by omega
      have hBI : (3 : Int) * (y : Int) = (B : Int) := by omega
      have hPI := mulN hP
      have hQI := mulN hQ
      rw [hP] at hC
      rw [hQ] at hE
      have hCI : (P : Int) - (y : Int) = (C : Int) := by omega
      have hEI : (Q : Int) - (x : Int) = (E : Int) := by omega
      have hAl : A ≤ 3000000000 := by omega
      have hBl : B ≤ 3000000000 := by omega
      have hzl : z ≤ 1000000000 := by omega
      have hCl : C ≤ 4000000000000000000 := by omega
      have hEl : E ≤ 4000000000000000000 := by omega
      have hv : Hid (mkV (f + 1) m x y z = z :: (mkV f m x z C ++ mkV f m y z E)) := by
        show _ = _
        simp only [mkV]
        rw [if_neg hlt, hA, hB, hP, hQ, hC, hE]
      have hpw : 2 ^ (f + 1) = 2 ^ f + 2 ^ f := by rw [Nat.pow_succ]; omega
      have hl1 := mkV_length f m x z C
      have hl2 := mkV_length f m y z E
      obtain ⟨F, hF⟩ : ∃ F, 2 ^ f = F := ⟨_, rfl⟩
      rw [hF] at hpw hl1 hl2 ih
      rw [hpw] at hk
      obtain ⟨l1, hll1⟩ : ∃ l, mkV f m x z C = l := ⟨_, rfl⟩
      obtain ⟨l2, hll2⟩ : ∃ l, mkV f m y z E = l := ⟨_, rfl⟩
      rw [hll1] at hl1 hv
      rw [hll2] at hl2 hv
      have ih1 := fun W D h1 h2 => ih x z C (k + 1) W D hTl.out hCl (by omega) h1 h2
      have ih2 := fun W D h1 h2 => ih y z E (k + 1 + l1.length) W D hTr.out hEl (by omega) h1 h2
      rw [hll1] at ih1
      rw [hll2] at ih2
      have ih1H := Lib.hid ih1
      have ih2H := Lib.hid ih2
      have c4 := hG.c4
      have hGH := Lib.hid hG
      have hkl : k ≤ 1000000000000000 := by omega
      rw [hv.out]
      clear hT hG hO ih hv hpw hF hC hE hP hQ hA hB ih1 ih2 hk hl1 hl2 hll1 hll2 hTl hTr
      go_enter Tryz.func55, Tryz.ntmps55
      go_upto_region 2 with (first
        | (at_mapUpdate; refine wpList_mapUpdate_own _ rfl _ _ _ 97 rfl 3 4 lawM Tryz.underlying97 _ Bm k D rfl hOH.out (by unfold maxLen; omega) _ _ (ky (z : Int)) rfl rfl (keyOf_int_mk Tryz.underlying3 (WalkArith.wf_i64 (by omega))) _ [] (plainElem_bool Tryz.underlying4 true) ?_; intro w1 hown1 hgrow1))
      have hO1 := Lib.hid hown1
      have hG1 := hGH.out.grown hgrow1
      have hgr1 := Lib.hid hgrow1
      have k5 := hG1.c5
      have hG1H := Lib.hid hG1
      clear hown1 hgrow1 hG1 c1 c4
      go_upto_region 3 with (first
        | (go_at_call 55; go_loud (refine (ih1H.out _ _ hG1H.out hO1.out).mono ?_); rintro e w2 ⟨rfl, D2, hO2, hA2, hg2⟩; have hO2H := Lib.hid hO2; have hA2H := Lib.hid hA2; have hg2H := Lib.hid hg2; clear hO2 hA2 hg2))
      have hG2 := hG1H.out.grown hg2H.out
      have j5 := hG2.c5
      have hG2H := Lib.hid hG2
      clear hG2 k5
      go_wp2_with (first
        | (go_at_call 55; go_loud (refine (ih2H.out _ _ hG2H.out hO2H.out).mono ?_); rintro e w3 ⟨rfl, D3, hO3, hA3, hg3⟩; have hO3H := Lib.hid hO3; have hA3H := Lib.hid hA3; have hg3H := Lib.hid hg3; clear hO3 hA3 hg3))
      refine bodyPost_ret (results_none rfl _ _ _) rfl ?_
      refine ⟨rfl, D3, ?_, Adds.cons hOH.out.isMap rfl (hA2H.out.app hA3H.out), (hgr1.out.trans hg2H.out).trans hg3H.out⟩
      have := hO3H.out
      rw [show k + (z :: (l1 ++ l2)).length = k + 1 + l1.length + l2.length by simp; omega]
      exact this
end Go.Proofs.YtbehfhmdilifkaaGreat

/- The keys of the set, sorted. -/
namespace Go.Proofs.YtbehfhmdilifkaaGreat
open Go Go.RowKit Go.Proofs Go.Maps Go.Sort Go.Shelf

theorem sortsT (m : Nat) : AnyZI.SortsIn Tryz.prog Tryz.sortedA_ren Fence.wide m :=
  ⟨fun blk off cap ss W hH hblk hsz => callsIn_wide.2 (Tryz.slices_Sort_int blk off cap ss W hH hblk hsz),
   fun p cap W => callsIn_wide.2 (Tryz.slices_Sort_int_none p cap W)⟩
theorem keys_call (mb : Option Nat) (W : World) : Calls Tryz.prog 57 #[.map mb] W (fun e w' => e = .returned (.func (.func 91) #[] #[.pointer (some ⟨W.heap.size, 0, none⟩)]) ∧ w' = W.alloc (.cells #[.map mb] 97)) :=
  (callsIn_wide (n := 5)).1 (AnyZI.keys_in Tryz.keysA Fence.wide 5 trivial rfl mb W)
theorem sorted_perm {W : World} {b k : Nat} {D : DataW Unit} (hO : OM W b k D) {L : List Int} (hm : ∀ x, Maps.has D (ky x) = true ↔ x ∈ L) (hL : L.Pairwise (· < ·)) {ss : List Int} (hs : ss.Perm (intKeys D)) : ss.mergeSort (fun x y => decide (x ≤ y)) = L := by
  have hnd : L.Nodup := hL.imp (fun h => by omega)
  have hp : L.Perm (intKeys D) := CollectedI.perm (left := fun _ => false) ⟨hnd, fun x => by rw [← hm x]; simp [ky]⟩ hO lawM Tryz.underlying3 (fun _ => rfl)
  have h1 : ss.mergeSort leI = L.mergeSort leI := mergeSort_of_perm_i (hs.trans hp.symm)
  show ss.mergeSort leI = L
  rw [h1]
  exact List.mergeSort_of_pairwise (hL.imp (fun h => by simp only [leI, decide_eq_true_eq]; omega))
theorem sorted_call (b k Bx : Nat) (D : DataW Unit) (L : List Int) (w : World) (hO : OM w b k D) (hk : k ≤ 2000000000000) (hc : w.cell? ⟨Bx, 0, none⟩ = some (.map (some b))) (hm : ∀ x, Maps.has D (ky x) = true ↔ x ∈ L) (hL : L.Pairwise (· < ·)) :
    Calls Tryz.prog 56 #[.func (.func 91) #[] #[.pointer (some ⟨Bx, 0, none⟩)]] w (fun e w' => ∃ v, e = .returned v ∧ ZE w' w.heap.size v L ∧ Below w.heap.size w w') := by
  have hBx : Bx < w.heap.size := World.block_lt_of_cell? _ _ hc
  have hseq : SeqGives Fence.wide 2 Tryz.prog 91 #[.pointer (some ⟨Bx, 0, none⟩)] encZ (fun ss => ss.Perm (intKeys D)) (Maps.size D) w :=
    AnyZI.keys_gives (ρ := Tryz.keysA_ren) { Tryz.keysA with } Fence.wide _ trivial rfl (by omega) Bx b k D _ hBx hc hO
  have hsz := hO.size_le
  have cS := AnyZI.sorted_in Tryz.sortedA Fence.wide 5 trivial trivial trivial trivial rfl (by omega) (sortsT _) (enters_of Tryz.func90 (by kernel_rfl) rfl) 91 #[.pointer (some ⟨Bx, 0, none⟩)] trivial (enters_of Tryz.func91 (by kernel_rfl) rfl) _ _ (by unfold maxLen; omega) (by omega) _ hseq
  change CallsIn _ _ Tryz.prog 56 _ _ _ at cS
  refine ((callsIn_wide (n := 5)).1 cS).mono ?_
  rintro e w' ⟨v, ss, rfl, hS, hrow, hnil, hb⟩
  have e1 := sorted_perm hO hm hL hS
  have hlen : ss.length = L.length := by rw [← e1, List.length_mergeSort]
  rw [e1, hlen] at hrow
  have hz : ZI w' w.heap.size v L := hrow
  exact ⟨v, rfl, .inl hz, hb⟩
end Go.Proofs.YtbehfhmdilifkaaGreat

/- Walk of Markov. -/
namespace Go.Proofs.YtbehfhmdilifkaaGreat
open Go Go.RowKit Go.Proofs Go.Maps

/-- 'map[..]..{k: v}' at the operation: as for 'm[k] = v'. -/
theorem wpList_insert_own {H : Type} {P : Program} (w : World) {ops : Array Oper} {rest : List Oper} {o : Oper} {a : Act} {Q : Exit → Act → World → Prop}
    (hg : o.guard = none) (m x v : Operand) (t : TypeId) (hop : o.op = Op.insert t m x v)
    (k e : TypeId) (K : Keyed P k) (ht : P.underlying t = some (.map k e)) (R : Value → Option (DataW H × List MemPlace)) (b n : Nat) (D : DataW H)
    (hm : a.eval m = .map (some b)) (hown : w.ownsMap P k R b n D) (hn : n < maxLen) (key val : Value) (kl : Lit) (hx : a.eval x = key) (hv : a.eval v = val) (hkey : keyOf P k key = some kl)
    (d : DataW H) (ps : List MemPlace) (hval : R val = some (d, ps))
    (hK : ∀ w', w'.ownsMap P k R b (n + 1) (D.put kl d) → w.grownBy w' (some b) → wpList P ops Q rest (a.put o.dst undef) w') :
    wpList P ops Q (o :: rest) a w := by
  refine wpList_plain hg fun K' hK' => ?_
  obtain ⟨w', hrun, r1, r2⟩ := hown.update K ht hn hkey hval
  unfold Oper.wp
  simp [execOp, hop, hm, hx, hv, hrun, Result.andThen]
  exact hK' _ _ (hK w' r1 r2)
def MarkP (L : List Int) (w : World) (e : Ending) (w' : World) : Prop := ∃ g c, e = .returned (.tuple #[.slice (some ⟨g, 0, none⟩) L.length c, .int .i64 0]) ∧ L.length ≤ c ∧ IZ w' (some ⟨g, 0, none⟩) L ∧ Below w.heap.size w w'
theorem lit1T (w : World) (x : Int) : IZ (w.alloc (Obj.cells #[.int .i64 x] 3)) (some ⟨w.heap.size, 0, none⟩) [x] := fun i v hz => by
  rcases i with _ | i
  · simp at hz; subst hz; exact ⟨_, 0, rfl, by rw [al_newT rfl]; rfl⟩
  · simp at hz
theorem markP_bad (m : Int) (w : World) (h : m < 1 ∨ 1000000000 < m) :
    Calls Tryz.prog 26 #[.int .i64 m] w (fun e w' => e = .returned (.tuple #[.slice none 0 0, .int .i64 1]) ∧ Below w.heap.size w w') := by
  have hI : Hid (inL 1000000000 [m] = false) := by
    show _ = _
    cases hh : inL 1000000000 [m] with
    | false => rfl
    | true => have := (inL_iff.1 hh) m (by simp); omega
  clear h
  go_enter Tryz.func26, Tryz.ntmps26
  go_wp2_with (go_at_call 39; go_loud (with_reducible refine (inP_any _ 1 1 1000000000 [m] false _ (by have := lit1T (w.alloc (Obj.cells #[.int .i64 m] 3)) m; simpa using this) rfl (by omega) hI.out).mono ?_); rintro e w1 ⟨rfl, hb1⟩; have hb1H := Lib.hid hb1; clear hb1)
  go_ret2
  exact ⟨rfl, bseqT (below_al (below_al (Below.refl _ _) _) _) hb1H.out⟩
set_option maxRecDepth 100000 in
set_option maxHeartbeats 3200000 in
theorem markP_good (m : Nat) (w : World) (hm : 1 ≤ m) (hm2 : m ≤ 1000000000) :
    Calls Tryz.prog 26 #[.int .i64 (m : Nat)] w (MarkP (nzT (mkL m)) w) := by
  have hI : Hid (inL 1000000000 [(m : Int)] = true) := inL_iff.2 (fun x hx => by simp at hx; omega)
  have hT : Hid (TOk 40 m 1 1 2) := ⟨by omega, by omega, by omega, by have e : (2 : Nat) ^ 40 = 1099511627776 := rfl; omega⟩
  have hmm := @run_makeMap Tryz.prog
  obtain ⟨M, hM⟩ : ∃ M, nzT (mkL m) = M := ⟨_, rfl⟩
  have hMH := Lib.hid hM
  rw [hM]
  clear hM
  have hmf : ∀ (fn : Fn) (first cap : Array Value) (w : World), (Instr.makeFunc fn first cap).run Tryz.prog w = .ok (.func fn first cap) w := fun _ _ _ _ => rfl
  go_enter Tryz.func26, Tryz.ntmps26
  go_upto_region 3 with (go_at_call 39; go_loud (with_reducible refine (inP_any _ 1 1 1000000000 [(m : Int)] true _ (by have := lit1T (w.alloc (Obj.cells #[.int .i64 (m : Int)] 3)) m; simpa using this) rfl (by omega) hI.out).mono ?_); rintro e w1 ⟨rfl, hb1⟩; have hb1H := Lib.hid hb1; clear hb1)
  have hs0 : w.heap.size + 2 ≤ w1.heap.size := by have := hb1H.out.size; simp at this; omega
  have c1 : w1.cell? ⟨w.heap.size, 0, none⟩ = some (.int .i64 (m : Nat)) := by
    refine Below.cellAt hb1H.out (Nat.le_refl _) ?_
    rw [al_oldT (by simp), al_newT rfl]; rfl
  have hbw : Below w.heap.size w w1 := bseqT (below_al (below_al (Below.refl _ _) _) _) hb1H.out
  have hbwH := Lib.hid hbw
  clear hbw hb1H
  go_upto_region 4 with (first
    | (refine wpList_insert_own _ rfl _ _ _ 97 rfl 3 4 lawM Tryz.underlying97 _ w1.heap.size 0 (.map []) rfl (World.ownsMap_made _ _ _ _) (by unfold maxLen; omega) _ _ (ky 1) rfl rfl (keyOf_int_mk Tryz.underlying3 rfl) _ [] (plainElem_bool (H := Unit) Tryz.underlying4 true) ?_; intro w2 hown2 hgrow2))
  have hO2 := Lib.hid hown2
  have hg2 := Lib.hid hgrow2
  have hlt2 := hown2.lt
  clear hown2 hgrow2
  go_upto_region 6 with (fail)
  obtain ⟨V, hV⟩ : ∃ V, V = ((w2.alloc (Obj.cells #[.map (some w1.heap.size)] 97)).alloc (Obj.cells #[.func (.func 55) #[] #[.pointer (some ⟨w.heap.size, 0, none⟩), .pointer (some ⟨w2.heap.size, 0, none⟩), .pointer (some ⟨w2.heap.size + 1, 0, none⟩)]] 98)) := ⟨_, rfl⟩
  rw [← hV]
  have hbw2 : Below w.heap.size w w2 := Below.grown (below_al hbwH.out _) hg2.out (by simp; omega) (fun k hk => by injection hk with hk; omega)
  have hbV : Hid (Below w.heap.size w V) := by show Below _ _ _; rw [hV]; exact below_al (below_al hbw2 _) _
  have hsz2 : w1.heap.size + 1 ≤ w2.heap.size := by have := hg2.out.size; simp at this; omega
  have hG : Hid (GB V m w.heap.size w2.heap.size (w2.heap.size + 1) w1.heap.size) := by
    show GB _ _ _ _ _ _
    refine ⟨?_, ?_, ?_, by omega, by omega, by omega⟩
    · rw [hV, al_oldT (by simp; omega), al_oldT (by omega)]
      refine hg2.out.cell ?_ (by simp; omega)
      rw [al_oldT (by omega)]; exact c1
    · rw [hV, al_oldT (by simp), al_newT rfl]; rfl
    · rw [hV, al_newT (by simp)]; rfl
  have hOV : Hid (OM V w1.heap.size 1 ((DataW.map []).put (ky 1) (.lit (.bool true)))) := by
    show OM _ _ _ _
    rw [hV]; exact (hO2.out.alloc _).alloc _
  have hVs : w2.heap.size + 2 = V.heap.size := by rw [hV]; simp
  have k5 := hG.out.c5
  obtain ⟨L, hL⟩ : ∃ L, mkV 40 m 1 1 2 = L := ⟨_, rfl⟩
  have hcall : Hid (Calls Tryz.prog 55 #[.int .i64 1, .int .i64 1, .int .i64 2, .pointer (some ⟨w.heap.size, 0, none⟩), .pointer (some ⟨w2.heap.size, 0, none⟩), .pointer (some ⟨w2.heap.size + 1, 0, none⟩)] V (MkPost w1.heap.size 1 ((DataW.map []).put (ky 1) (.lit (.bool true))) L V)) := by
    show Calls _ _ _ _ _
    rw [← hL]
    exact mkgrow_any m w.heap.size w2.heap.size (w2.heap.size + 1) w1.heap.size hm2 40 1 1 2 1 V _ hT.out (by omega) (by decide) hG.out hOV.out
  have hLl : L.length ≤ 1099511627776 := by rw [← hL]; have := mkV_length 40 m 1 1 2; have e : (2 : Nat) ^ 40 = 1099511627776 := rfl; omega
  have hLH := Lib.hid hL
  have eg := eg_mk
  clear hV hbw2 hL c1 hI hT hO2 hg2 hmm hmf
  go_upto_region 7 with (first
    | (go_at_call 55; go_loud (refine hcall.out.mono ?_); rintro e w3 ⟨rfl, D3, hO3, hA3, hg3⟩; have hO3H := Lib.hid hO3; have hA3H := Lib.hid hA3; have hg3H := Lib.hid hg3; clear hO3 hA3 hg3))
  have k4 := (hG.out.grown hg3H.out).c4
  have hm3 : Hid (∀ x, Maps.has D3 (ky x) = true ↔ x ∈ nzT (mkL m)) := fun x => by
    rw [hA3H.out x, has_put _ isMap_empty]
    have e1 : Maps.has (H := Unit) (.map []) (ky x) = false := rfl
    rw [e1, Bool.or_false, Bool.or_eq_true, decide_eq_true_eq, decide_eq_true_eq]
    unfold nzT
    rw [List.mem_map, List.mem_map]
    constructor
    · rintro (rfl | ⟨v, hv, rfl⟩)
      · exact ⟨1, mkL_mem.2 (.inl rfl), rfl⟩
      · exact ⟨v, mkL_mem.2 (.inr (by rw [hLH.out]; exact hv)), rfl⟩
    · rintro ⟨v, hv, rfl⟩
      rcases mkL_mem.1 hv with rfl | h
      · exact .inl rfl
      · exact .inr ⟨v, by rw [← hLH.out]; exact h, rfl⟩
  have hrise : Hid ((nzT (mkL m)).Pairwise (· < ·)) := by
    show List.Pairwise _ _
    unfold nzT
    exact List.pairwise_map.2 (mkL_rise.imp (fun h => by omega))
  have hb3 : Hid (Below w.heap.size w w3) := hbV.out.grown hg3H.out (by omega) (fun k hk => by injection hk with hk; omega)
  have hs3 := hb3.out.size
  have hne : Hid (nzT (mkL m) ≠ []) := by
    show _ ≠ _
    intro e
    have h1 : (1 : Int) ∈ nzT (mkL m) := (hm3.out 1).1 (by rw [hA3H.out, has_put _ isMap_empty]; rfl)
    rw [e] at h1; cases h1
  rw [hMH.out] at hm3 hrise hne
  clear k5 hcall
  go_wp2_with (first
    | (go_at_call 57; go_loud (refine (keys_call _ _).mono ?_); rintro e w' ⟨rfl, rfl⟩)
    | (go_at_call 56; go_loud (refine (sorted_call w1.heap.size _ w3.heap.size D3 M _ (hO3H.out.alloc _) (by omega) (by rw [al_newT rfl]; rfl) hm3.out hrise.out).mono ?_); rintro e w4 ⟨v, rfl, hZ, hb4⟩; obtain ⟨g, c, hv⟩ := hZ.some hne.out; subst hv; have hZH := Lib.hid hZ; have hb4H := Lib.hid hb4; clear hZ hb4))
  go_ret2
  exact ⟨g, c, rfl, hZH.out.iz.2, hZH.out.iz.1, bseqT (below_al hb3.out _) hb4H.out⟩
end Go.Proofs.YtbehfhmdilifkaaGreat
