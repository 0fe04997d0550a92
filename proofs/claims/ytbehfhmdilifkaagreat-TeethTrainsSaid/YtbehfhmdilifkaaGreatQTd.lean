/- Td Te Tf -/
import Derived.Test.YtbehfhmdilifkaaGreatQTb
import Derived.Test.YtbehfhmdilifkaaGreatQJs
import Derived.Shelf.RegionOpen
import Derived.RangeFuncCalls
import Derived.RangeFuncLeaves
set_option linter.unusedVariables false
/- Walk of in: all numbers of a list are 1 to some number. -/
namespace Go.Proofs.YtbehfhmdilifkaaGreat
open Go Go.RowKit Go.Proofs

theorem al_oldT {w : World} {o : Obj} {b i : Nat} (h : b < w.heap.size) : (w.alloc o).cell? ⟨b, i, none⟩ = w.cell? ⟨b, i, none⟩ := World.cell?_alloc_lt w (a := ⟨b, i, none⟩) (o := o) h
theorem al_newT {w : World} {c : Array Value} {t : TypeId} {b i : Nat} (h : b = w.heap.size) : (w.alloc (.cells c t)).cell? ⟨b, i, none⟩ = c[i]? := World.cell?_alloc_at c t b i h
theorem bseqT {w w1 w2 : World} (h : Below w.heap.size w w1) (hb : Below w1.heap.size w1 w2) : Below w.heap.size w w2 := h.trans (hb.mono h.size)
def ptrT (b : Nat) : Value := .pointer (some ⟨b, 0, none⟩)
def outB (most x : Int) : Bool := decide (x < 1) || decide (most < x)
theorem eg_in1 : ∀ args w, (callFunc 75 args).run Tryz.prog w = .ok (.enter 75 args) w := enters_of Tryz.func75 (by kernel_rfl) rfl
theorem in1_any (b : Nat) (most x : Int) (r : Bool) (w : World) (c : w.cell? ⟨b, 0, none⟩ = some (.int .i64 most)) (hr : outB most x = r) :
    Calls Tryz.prog 75 #[.int .i64 x, .pointer (some ⟨b, 0, none⟩)] w (fun e w' => e = .returned (.bool r) ∧ w = w') := by
  have hrH := Lib.hid hr
  clear hr
  by_cases h1 : x < 1
  · have d1 : decide (x < 1) = true := decide_eq_true h1
    have hr : Hid (true = r) := by show _ = _; rw [← hrH.out]; unfold outB; simp [h1]
    go_enter Tryz.func75, Tryz.ntmps75
    go_wp2_with (fail)
    go_ret
    exact ⟨retBo hr.out, rfl⟩
  · have d1 : decide (x < 1) = false := decide_eq_false h1
    by_cases h2 : most < x
    · have d2 : decide (most < x) = true := decide_eq_true h2
      have hr : Hid (true = r) := by show _ = _; rw [← hrH.out]; unfold outB; simp [h2]
      go_enter Tryz.func75, Tryz.ntmps75
      go_wp2_with (fail)
      go_ret
      exact ⟨retBo hr.out, rfl⟩
    · have d2 : decide (most < x) = false := decide_eq_false h2
      have hr : Hid (false = r) := by show _ = _; rw [← hrH.out]; unfold outB; simp [h1, h2]
      go_enter Tryz.func75, Tryz.ntmps75
      go_wp2_with (fail)
      go_ret
      exact ⟨retBo hr.out, rfl⟩
def inL (most : Int) (xs : List Int) : Bool := !(xs.any (outB most))
theorem inL_iff {most : Int} {xs : List Int} : inL most xs = true ↔ ∀ x ∈ xs, 1 ≤ x ∧ x ≤ most := by
  unfold inL outB
  simp only [Bool.not_eq_true', List.any_eq_false, Bool.or_eq_true, decide_eq_true_eq, not_or]
  exact ⟨fun h x hx => by have := h x hx; omega, fun h x hx => by have := h x hx; omega⟩
set_option maxHeartbeats 800000 in
theorem inP_any (ao : Option Addr) (n c : Nat) (most : Int) (xs : List Int) (b : Bool) (w : World) (h : IZ w ao xs) (hn : xs.length = n) (hs : n ≤ 1000000) (hb : inL most xs = b) :
    Calls Tryz.prog 39 #[.int .i64 most, .slice ao n c] w (fun e w' => e = .returned (.bool b) ∧ Below w.heap.size w w') := by
  have hmf : ∀ (fn : Fn) (first cap : Array Value) (w : World), (Instr.makeFunc fn first cap).run Tryz.prog w = .ok (.func fn first cap) w := fun _ _ _ _ => rfl
  have hcf : Hid (∀ W, Below w.heap.size w W → W.cell? ⟨w.heap.size, 0, none⟩ = some (.int .i64 most) → Calls Tryz.prog 74 #[.slice ao n c, .func (.func 75) #[] #[.pointer (some ⟨w.heap.size, 0, none⟩)]] W (fun e w' => e = .returned (.bool (!b)) ∧ Below W.heap.size W w')) := by
    intro W hW hc
    have hp : PredAt Tryz.prog 75 #[.pointer (some ⟨w.heap.size, 0, none⟩)] (Value.int .i64) (outB most) W := fun W2 x hW2 =>
      (in1_any w.heap.size most x _ W2 (Below.cellAt hW2 (Nat.le_refl _) hc) rfl).mono fun e w' ⟨h1, h2⟩ => ⟨h1, 0, h2.symm⟩
    have hbb : xs.any (outB most) = !b := by rw [← hb]; unfold inL; simp
    rcases Nat.eq_zero_or_pos n with h0 | h0
    · subst h0
      have he := List.length_eq_zero_iff.1 hn
      subst he
      refine (Tryz.slices_ContainsFunc_empty (α := Int) ao c _ W).mono fun e w' ⟨h1, h2⟩ => ?_
      subst h2
      exact ⟨by rw [h1, ← hbb]; rfl, Below.refl _ _⟩
    · have hI := h.below hW
      obtain ⟨g, o, rfl, _⟩ := hI.at (i := 0) (by omega)
      refine (Tryz.slices_ContainsFunc (Value.int .i64) (outB most) 75 #[.pointer (some ⟨w.heap.size, 0, none⟩)] eg_in1 g o n c xs W hp (by omega) (by omega) (fun j hj => ?_)).mono fun e w' ⟨h1, q, h2⟩ => ?_
      · obtain ⟨b2, o2, e, hc2⟩ := hI.at hj
        injection e with e
        injection e with e1 e2
        subst e1 e2
        rw [hc2]
        unfold at0
        rw [getElem!_def]
        rfl
      · subst h2
        refine ⟨?_, bdn (Below.refl _ _)⟩
        rw [h1, List.take_of_length_le (by omega), hbb]
  clear h hn hs hb
  go_enter Tryz.func39, Tryz.ntmps39
  go_wp2_with (go_at_call 74; go_loud (with_reducible refine (hcf.out _ (below_al (Below.refl _ _) _) (al_newT rfl)).mono ?_); rintro e w1 ⟨rfl, hb1⟩; have hb1H := Lib.hid hb1; clear hb1)
  go_ret
  refine ⟨retBo ?_, bseqT (below_al (Below.refl _ _) _) hb1H.out⟩
  simp
end Go.Proofs.YtbehfhmdilifkaaGreat

/- Walks of terms and Terms: the iterator's numbers collected. -/
namespace Go.Proofs.YtbehfhmdilifkaaGreat
open Go Go.RowKit Go.Proofs Go.Maps Go.Sort Go.Shelf

/-- Between two rounds: what has come so far; the two boxes of the iterator. -/
structure TA (w0 : World) (B1 : Nat) (fn : FuncId) (sv : Value) (Bs l D bo bu : Nat) (a b : Nat) (ss : List Int) (W : World) : Prop where
  box : ∃ v, W.heap[Bs]? = some (.cells #[v] ((Tryz.collectA_ren).t 24) (0, 0)) ∧ W.ownsRow B1 ((Tryz.collectA_ren).t 26) 1 v ss.length (ss.map encZ) ∧ (v = .slice none 0 0 ↔ ss = [])
  L : W.heap[l]? = some (.loop (AnyZI.apRec Tryz.collectA_ren fn sv Bs D .ready none))
  K : W.heap[D]? = some (.deferred (some []))
  below : Below w0.heap.size w0 W
  ho : W.heap[bo]? = some (.cells #[.int .i64 (a : Nat)] 3 (0, 0))
  hu : W.heap[bu]? = some (.cells #[.int .i64 (b : Nat)] 3 (0, 0))
/-- Where the blocks lie. -/
structure TN (w0 : World) (B1 Bs l D bo bu : Nat) : Prop where
  o0 : w0.heap.size ≤ bo
  u0 : w0.heap.size ≤ bu
  o1 : bo < B1
  u1 : bu < B1
  ne : bo ≠ bu
  s1 : B1 ≤ Bs
  l1 : B1 ≤ l
  d1 : B1 ≤ D
  sl : Bs ≠ l
  dl : D ≠ l
  ds : D ≠ Bs
/-- The world up to a block. -/
def cutW (W : World) (B : Nat) : World := { W with heap := W.heap.extract 0 B }
theorem cutW_size {W : World} {B : Nat} (h : B ≤ W.heap.size) : (cutW W B).heap.size = B := by simp [cutW]; omega
theorem cutW_heap {W : World} {B k : Nat} (h : B ≤ W.heap.size) (hk : k < B) : (cutW W B).heap[k]? = W.heap[k]? := by
  simp only [cutW]
  rw [Array.getElem?_extract]
  simp; omega
theorem TA.size {w0 : World} {B1 : Nat} {fn : FuncId} {sv : Value} {Bs l D bo bu a b : Nat} {ss : List Int} {W : World} (h : TA w0 B1 fn sv Bs l D bo bu a b ss W) (hN : TN w0 B1 Bs l D bo bu) : B1 ≤ W.heap.size := by
  have := (Array.getElem?_eq_some_iff.1 h.L).1
  have := hN.l1
  omega
theorem ta_yield {w0 : World} {B1 : Nat} {fn : FuncId} {sv : Value} {Bs l D bo bu a b : Nat} {ss : List Int} {W : World} (m : Nat) (x : Int) (h : TA w0 B1 fn sv Bs l D bo bu a b ss W) (hN : TN w0 B1 Bs l D bo bu) (hlen : ss.length < 2000000) :
    YieldAt Fence.wide m Tryz.prog l #[.int .i64 x] W (fun e W' => e = .returned (.bool true) ∧ TA w0 B1 fn sv Bs l D bo bu a b (ss ++ [x]) W') := by
  have hB := h.size hN
  have hs := cutW_size hB
  have hb : Below (cutW W B1).heap.size (cutW W B1) W := ⟨rfl, rfl, rfl, by rw [hs]; exact hB, fun k hk => by rw [hs] at hk; exact (cutW_heap hB hk).symm⟩
  have hA : AnyZI.ApAt Tryz.collectA_ren (cutW W B1) fn sv Bs l D ss W := ⟨by rw [hs]; exact h.box, h.L, h.K, hb⟩
  refine (AnyZI.apYield (ρ := Tryz.collectA_ren) { Tryz.collectA with } Fence.wide m (cutW W B1) fn trivial sv Bs l D hN.sl hN.dl hN.ds (by rw [hs]; exact hN.s1) (by rw [hs]; exact hN.l1) 2000000 (by unfold maxLen; omega) (by omega) ss x W hA hlen).mono fun e W' ⟨he, hA', _⟩ => ⟨he, ?_⟩
  have hbl := hA'.below
  rw [hs] at hbl
  have hold : ∀ k, k < B1 → W'.heap[k]? = W.heap[k]? := fun k hk => (hbl.block k hk).trans (cutW_heap hB hk)
  have hbx := hA'.box
  rw [hs] at hbx
  have h0 : w0.heap.size ≤ B1 := Nat.le_trans hN.o0 (Nat.le_of_lt hN.o1)
  refine ⟨hbx, hA'.L, hA'.K, ⟨hbl.os.trans h.below.os, hbl.tape.trans h.below.tape, hbl.output.trans h.below.output, ?_, fun k hk => (hold k (by omega)).trans (h.below.block k hk)⟩, (hold bo hN.o1).trans h.ho, (hold bu hN.u1).trans h.hu⟩
  have := hbl.size
  rw [hs] at this
  omega
/-- Both boxes are written. -/
theorem TA.step {w0 : World} {B1 : Nat} {fn : FuncId} {sv : Value} {Bs l D bo bu a b c d : Nat} {ss : List Int} {W : World} (h : TA w0 B1 fn sv Bs l D bo bu a b ss W) (hN : TN w0 B1 Bs l D bo bu) : TA w0 B1 fn sv Bs l D bo bu c d ss ((W.setCell ⟨bo, 0, none⟩ (.int .i64 (c : Nat))).setCell ⟨bu, 0, none⟩ (.int .i64 (d : Nat))).drew := by
  have hold : ∀ k, k ≠ bo → k ≠ bu → ((W.setCell ⟨bo, 0, none⟩ (.int .i64 (c : Nat))).setCell ⟨bu, 0, none⟩ (.int .i64 (d : Nat))).heap[k]? = W.heap[k]? := fun k h1 h2 =>
    (Below.heap_setCell _ _ _ _ h2).trans (Below.heap_setCell _ _ _ _ h1)
  have o1 := hN.o1
  have u1 := hN.u1
  have s1 := hN.s1
  have l1 := hN.l1
  have d1 := hN.d1
  obtain ⟨v, hv, hr, hnil⟩ := h.box
  refine ⟨⟨v, (hold Bs (by omega) (by omega)).trans hv, ?_, hnil⟩, (hold l (by omega) (by omega)).trans h.L, (hold D (by omega) (by omega)).trans h.K, Below.drew ((h.below.setCell (by exact hN.o0) _).setCell (by exact hN.u0) _), ?_, ?_⟩
  · exact ownsRow_setCell_below (ownsRow_setCell_below hr (by exact o1) _) (by exact u1) _
  · exact (Below.heap_setCell _ _ _ _ (by exact hN.ne)).trans (by
      have : Blk (W.setCell ⟨bo, 0, none⟩ (.int .i64 (c : Nat))) bo 3 ([.int .i64 (a : Nat)].set 0 (.int .i64 (c : Nat))) := Blk.set h.ho 0 _
      exact this)
  · have h1 : Blk (W.setCell ⟨bo, 0, none⟩ (.int .i64 (c : Nat))) bu 3 [.int .i64 (b : Nat)] := (Below.heap_setCell _ _ _ _ (by exact fun e => hN.ne e.symm)).trans h.hu
    exact Blk.set h1 0 _
def muT (bu : Nat) (w : World) : Nat := match w.cell? ⟨bu, 0, none⟩ with | some (.int _ z) => z.toNat | _ => 0
theorem TA.cu {w0 : World} {B1 : Nat} {fn : FuncId} {sv : Value} {Bs l D bo bu a b : Nat} {ss : List Int} {W : World} (h : TA w0 B1 fn sv Bs l D bo bu a b ss W) : W.cell? ⟨bu, 0, none⟩ = some (.int .i64 (b : Nat)) ∧ W.frozen? ⟨bu, 0, none⟩ = false := by
  have hB : Blk W bu 3 [.int .i64 (b : Nat)] := h.hu
  exact ⟨by rw [hB.cell]; rfl, hB.frozen 0⟩
theorem TA.co {w0 : World} {B1 : Nat} {fn : FuncId} {sv : Value} {Bs l D bo bu a b : Nat} {ss : List Int} {W : World} (h : TA w0 B1 fn sv Bs l D bo bu a b ss W) : W.cell? ⟨bo, 0, none⟩ = some (.int .i64 (a : Nat)) ∧ W.frozen? ⟨bo, 0, none⟩ = false := by
  have hB : Blk W bo 3 [.int .i64 (a : Nat)] := h.ho
  exact ⟨by rw [hB.cell]; rfl, hB.frozen 0⟩
theorem TA.mu {w0 : World} {B1 : Nat} {fn : FuncId} {sv : Value} {Bs l D bo bu a b : Nat} {ss : List Int} {W : World} (h : TA w0 B1 fn sv Bs l D bo bu a b ss W) : muT bu W = b := by
  unfold muT
  rw [h.cu.1]
  simp
def TermsPost (w0 : World) (B1 : Nat) (fn : FuncId) (sv : Value) (Bs l D bo bu : Nat) (ss : List Int) (e : Ending) (w' : World) : Prop := (∃ v, e = .returned v) ∧ ∃ a, TA w0 B1 fn sv Bs l D bo bu a 0 ss w'
set_option maxRecDepth 100000 in
set_option maxHeartbeats 3200000 in
theorem terms1_in (n : Nat) (hn : 1 ≤ n) {w0 : World} {B1 : Nat} {fn : FuncId} {sv : Value} {Bs l D bo bu a b : Nat} {W : World} (h : TA w0 B1 fn sv Bs l D bo bu a b [] W) (hN : TN w0 B1 Bs l D bo bu) (ha : a ≤ 1000000) (hb : b ≤ 1000000) :
    CallsIn Fence.wide n Tryz.prog 84 #[.func (.yield l) #[] #[], .pointer (some ⟨bu, 0, none⟩), .pointer (some ⟨bo, 0, none⟩)] W (TermsPost w0 B1 fn sv Bs l D bo bu ((trm a b).map fun x => ((x : Nat) : Int))) := by
  obtain ⟨T, hT⟩ : ∃ T, trm a b = T := ⟨_, rfl⟩
  rw [hT]
  have hTH := Lib.hid hT
  have hhH := Lib.hid h
  have hNH := Lib.hid hN
  have hTl : Hid (T.length ≤ 1000000) := by show _ ≤ _; rw [← hT]; exact Nat.le_trans (trm_length a b) hb
  clear hT h hN
  refine callsIn_of_wp Tryz.func84 rfl trivial ?_ rfl
  simp only [Tryz.ntmps84, List.size_toArray, List.length_cons, List.length_nil, Nat.reduceAdd, Nat.reduceSub, Array.replicate_succ, Array.replicate_zero, List.push_toArray, List.append_toArray, List.nil_append, List.cons_append]
  gi_wp2_with (fail)
  gi_loopw [] (fun wr => ∃ (x y : Nat) (ss : List Nat), ss ++ trm x y = T ∧ x ≤ 1000000 ∧ y ≤ 1000000 ∧ TA w0 B1 fn sv Bs l D bo bu x y (ss.map fun x => ((x : Nat) : Int)) wr) (fun wr => muT bu wr)
  case atStart => exact ⟨a, b, [], hTH.out, ha, hb, hhH.out⟩
  case round =>
    obtain ⟨x, y, ss, hss, hx, hy, hTA⟩ := hrel
    obtain ⟨c1, f1⟩ := hTA.cu
    obtain ⟨c2, f2⟩ := hTA.co
    by_cases h0 : 0 < y
    · have hy1 : ((y : Int) != 0) = true := by simp; omega
      have hy2 : ¬ (y : Int) = 0 := by omega
      have hy3 : ((y : Int) == 0) = false := by simp; omega
      obtain ⟨q, hq⟩ : ∃ q, x / y = q := ⟨_, rfl⟩
      obtain ⟨z, hz⟩ : ∃ z, x % y = z := ⟨_, rfl⟩
      have hzy : z < y := by rw [← hz]; exact Nat.mod_lt _ h0
      have hqx : q ≤ 1000000 := by rw [← hq]; exact Nat.le_trans (Nat.div_le_self x y) hx
      have t1 : (x : Int).tmod (y : Int) = (z : Int) := by rw [← hz]; exact (Int.ofNat_tmod x y).symm
      have t2 : (x : Int) % (y : Int) = (z : Int) := by rw [← hz]; exact (Int.natCast_emod x y).symm
      have t3 : (x : Int).tdiv (y : Int) = (q : Int) := by rw [← hq]; exact (Int.ofNat_tdiv x y).symm
      have t4 : (x : Int) / (y : Int) = (q : Int) := by rw [← hq]; exact (Int.natCast_ediv x y).symm
      have hss2 : Hid (ss ++ [q] ++ trm y z = T) := by
        show _ = _
        rw [← hss, trm_pos h0, hq, hz, List.append_assoc]; rfl
      have hl : ss.length < 2000000 := by
        have h1 := congrArg List.length hss
        rw [List.length_append] at h1
        have := hTl.out
        omega
      obtain ⟨fn1, tmps, assign, body, hyd, hR⟩ := ta_yield (n - 1) (q : Int) hTA hNH.out (by rw [List.length_map]; exact hl)
      have hTAH := Lib.hid hTA
      have hmu := Lib.hid hTA.mu
      clear hTA hss hq hz
      gi_wp2_with (fail)
      refine hR.mono ?_
      rintro e W3 ⟨rfl, hT3⟩
      obtain ⟨c3, f3⟩ := hT3.cu
      obtain ⟨c4, f4⟩ := hT3.co
      have hT3H := Lib.hid hT3
      clear hT3 hR hyd c1 f1 c2 f2
      gi_wp2_with (fail)
      have hst := Lib.hid (hT3H.out.step (c := y) (d := z) hNH.out)
      have hB1 : Blk (W3.setCell ⟨bo, 0, none⟩ (.int .i64 (y : Nat))) bu 3 [.int .i64 (y : Nat)] := (Below.heap_setCell _ _ _ _ (by exact fun e => hNH.out.ne e.symm)).trans hT3H.out.hu
      have c5 : (W3.setCell ⟨bo, 0, none⟩ (.int .i64 (y : Nat))).cell? ⟨bu, 0, none⟩ = some (.int .i64 (y : Nat)) := by rw [hB1.cell]; rfl
      have f5 := hB1.frozen 0
      have c6 : (W3.drew.setCell ⟨bo, 0, none⟩ (.int .i64 (y : Nat))).cell? ⟨bu, 0, none⟩ = some (.int .i64 (y : Nat)) := c5
      have f6 : (W3.drew.setCell ⟨bo, 0, none⟩ (.int .i64 (y : Nat))).frozen? ⟨bu, 0, none⟩ = false := f5
      have c7 : W3.drew.cell? ⟨bu, 0, none⟩ = some (.int .i64 (y : Nat)) := c3
      have f7 : W3.drew.frozen? ⟨bu, 0, none⟩ = false := f3
      have c8 : W3.drew.cell? ⟨bo, 0, none⟩ = some (.int .i64 (x : Nat)) := c4
      have f8 : W3.drew.frozen? ⟨bo, 0, none⟩ = false := f4
      clear hB1
      gi_region
      all_goals (
        gi_wp2_with (fail)
        go_roundw
        case rel => exact ⟨y, z, ss ++ [q], hss2.out, hy, by omega, by rw [List.map_append]; exact hst.out⟩
        case measure => exact (show muT bu _ < muT bu wr by rw [hmu.out]; exact (by rw [hst.out.mu]; exact hzy : muT bu _ < y)))
    · have hye : 0 = y := by omega
      subst hye
      have hTAH := Lib.hid hTA
      have hssH := Lib.hid hss
      clear hTA hss
      gi_wp2_with (fail)
      go_end0
      have h1 := hssH.out
      rw [trm_zero, List.append_nil] at h1
      rw [← h1]
      exact ⟨⟨_, rfl⟩, x, hTAH.out⟩
end Go.Proofs.YtbehfhmdilifkaaGreat

/- Walks of slices.AppendSeq and slices.Collect over terms; of terms and Terms. -/
namespace Go.Proofs.YtbehfhmdilifkaaGreat
open Go Go.RowKit Go.Proofs Go.Maps Go.Sort Go.Shelf

/-- A list of naturals as ints. -/
def nzT (l : List Nat) : List Int := l.map fun x => ((x : Nat) : Int)
def SeqPost (w0 w : World) (ss : List Int) (e : Ending) (w' : World) : Prop :=
  ∃ v, e = .returned v ∧ w'.ownsRow w.heap.size ((Tryz.collectA_ren).t 26) 1 v ss.length (ss.map encZ) ∧ (v = .slice none 0 0 ↔ ss = []) ∧ Below w0.heap.size w0 w'
/-- Where terms' variables lie. -/
structure TB (w0 w : World) (bo bu a b : Nat) : Prop where
  bl : Below w0.heap.size w0 w
  o0 : w0.heap.size ≤ bo
  u0 : w0.heap.size ≤ bu
  o1 : bo < w.heap.size
  u1 : bu < w.heap.size
  ne : bo ≠ bu
  ho : w.heap[bo]? = some (.cells #[.int .i64 (a : Nat)] 3 (0, 0))
  hu : w.heap[bu]? = some (.cells #[.int .i64 (b : Nat)] 3 (0, 0))
theorem eg_terms1 : ∀ args w, (callFunc 84 args).run Tryz.prog w = .ok (.enter 84 args) w := enters_of Tryz.func84 (by kernel_rfl) rfl
set_option maxRecDepth 100000 in
set_option maxHeartbeats 2000000 in
theorem terms_append (n : Nat) (hn : 2 ≤ n) {w0 w : World} {bo bu a b : Nat} (h : TB w0 w bo bu a b) (ha : a ≤ 1000000) (hb : b ≤ 1000000) :
    CallsIn Fence.wide n Tryz.prog 83 #[.slice none 0 0, .func (.func 84) #[] #[.pointer (some ⟨bu, 0, none⟩), .pointer (some ⟨bo, 0, none⟩)]] w (SeqPost w0 w (nzT (trm a b))) := by
  have hH := Lib.hid h
  clear h
  obtain ⟨sv, hsv⟩ : ∃ sv : Value, sv = .func (.func 84) #[] #[.pointer (some ⟨bu, 0, none⟩), .pointer (some ⟨bo, 0, none⟩)] := ⟨_, rfl⟩
  refine callsIn_of_wp_marks Tryz.func83 rfl trivial ?_ rfl
  simp only [Tryz.ntmps83, List.size_toArray, List.length_cons, List.length_nil, Nat.reduceAdd, Nat.reduceSub, Array.replicate_succ, Array.replicate_zero, List.push_toArray, List.append_toArray, List.nil_append, List.cons_append]
  gi_wp2_with (fail)
  refine wpIn_rangeFunc ?_
  intro fn hfn
  obtain ⟨W0, hW0⟩ : ∃ W0, w.alloc (.cells #[.slice none 0 0] 23) = W0 := ⟨_, rfl⟩
  have hs0 : W0.heap.size = w.heap.size + 1 := by rw [← hW0]; simp
  have hv0 : W0.heap[w.heap.size]? = some (.cells #[.slice none 0 0] 23 (0, 0)) := by rw [← hW0]; exact World.alloc_heap_new w _
  have hbW : Below w.heap.size w W0 := by rw [← hW0]; exact (Below.refl _ w).alloc (Nat.le_refl _) _
  rw [hW0]
  obtain ⟨W1, hW1⟩ : ∃ W1, (W0.alloc (.deferred (some []))).alloc (.loop (AnyZI.apRec Tryz.collectA_ren fn sv w.heap.size W0.heap.size .ready none)) = W1 := ⟨_, rfl⟩
  have hold : ∀ k, k < W0.heap.size → W1.heap[k]? = W0.heap[k]? := fun k hk => by
    rw [← hW1]; exact (Below.heap_alloc _ _ k (by simp; omega)).trans (Below.heap_alloc _ _ k hk)
  have hs1 : W1.heap.size = W0.heap.size + 2 := by rw [← hW1]; simp
  have hold2 : ∀ k, k < w.heap.size → W1.heap[k]? = w.heap[k]? := fun k hk => (hold k (by omega)).trans (hbW.block k hk)
  have o1 := hH.out.o1
  have u1 := hH.out.u1
  have o0 := hH.out.o0
  have hb1 : Below w0.heap.size w0 W1 := by
    rw [← hW1]
    have h1 := hH.out.bl.trans (hbW.mono hH.out.bl.size)
    exact (h1.alloc h1.size _).alloc (by have := h1.size; simp; omega) _
  have hTA : TA w0 w.heap.size fn sv w.heap.size (W0.heap.size + 1) W0.heap.size bo bu a b [] W1 :=
    ⟨⟨_, (hold w.heap.size (by omega)).trans hv0, ⟨rfl, .inl ⟨rfl, rfl⟩⟩, by simp⟩,
     by rw [← hW1]; have := World.alloc_heap_new (W0.alloc (.deferred (some []))) (.loop (AnyZI.apRec Tryz.collectA_ren fn sv w.heap.size W0.heap.size .ready none)); rwa [World.size_alloc] at this,
     by rw [← hW1]; exact (Below.heap_alloc _ _ _ (by simp)).trans (World.alloc_heap_new W0 _), hb1, (hold2 bo o1).trans hH.out.ho, (hold2 bu u1).trans hH.out.hu⟩
  have hTN : TN w0 w.heap.size w.heap.size (W0.heap.size + 1) W0.heap.size bo bu := ⟨o0, hH.out.u0, o1, u1, hH.out.ne, by omega, by omega, by omega, by omega, by omega, by omega⟩
  have hTAH := Lib.hid hTA
  have hTNH := Lib.hid hTN
  clear hTA hTN hb1
  refine ⟨W0.heap.size + 1, [{ target := .collected W0.heap.size, args := #[] }], W1, { target := .fn (.func 84) #[.pointer (some ⟨bu, 0, none⟩), .pointer (some ⟨bo, 0, none⟩)], args := #[.func (.yield (W0.heap.size + 1)) #[] #[]] }, W1, 84,
    #[.func (.yield (W0.heap.size + 1)) #[] #[]] ++ #[.pointer (some ⟨bu, 0, none⟩), .pointer (some ⟨bo, 0, none⟩)], W1, ?_, ?_, ?_, ?_, fun _ => by omega, ?_⟩
  · rw [← hW1, hsv]; exact run_enterLoop_outer _ _ _ _ _
  · simp [resolve, go_sem]
  · intro f' hf'; trivial
  · simp [invoke, go_sem]
  · refine (terms1_in (n - 1) (by omega) hTAH.out hTNH.out ha hb).mono ?_
    rintro e W2 ⟨⟨v0, rfl⟩, a', h2⟩
    obtain ⟨v, hv, hrow, hnil⟩ := h2.box
    have hne : (Tryz.collectA_ren).t 24 ≠ (Tryz.collectA_ren).t 26 := by decide
    have hend := run_endLoop (P := Tryz.prog) h2.L (by simp [AnyZI.apRec])
    obtain ⟨W3, hW3⟩ : ∃ W3, W2.putObj (W0.heap.size + 1) (.loop { AnyZI.apRec Tryz.collectA_ren fn sv w.heap.size W0.heap.size .ready none with state := .exhausted }) = W3 := ⟨_, rfl⟩
    rw [hW3] at hend
    have hg3 : W2.grownBy W3 (some (W0.heap.size + 1)) := by rw [← hW3]; exact grownBy_putObj_a _ _ _
    have hv3 : W3.heap[w.heap.size]? = some (.cells #[v] ((Tryz.collectA_ren).t 24) (0, 0)) := by rw [← hW3]; exact (World.putObj_heap_other (by omega)).trans hv
    have hK3 : W3.heap[W0.heap.size]? = some (.deferred (some [])) := by rw [← hW3]; exact (World.putObj_heap_other (by omega)).trans h2.K
    have hrow3 := hrow.kept hg3 (ownsRow_ne_a hrow h2.L (fun cur e => by cases e))
    have hb3 : Below w0.heap.size w0 W3 := h2.below.grown hg3 h2.below.size (fun k e => by cases e; omega)
    obtain ⟨hc3, hf3⟩ := cell_of_box_a hv3
    clear hW3
    have hfin := Lib.hid (show (∀ u, u = v → ∃ v', Ending.returned u = Ending.returned v' ∧ (W3.putObj W0.heap.size (.deferred none)).ownsRow w.heap.size ((Tryz.collectA_ren).t 26) 1 v' (nzT (trm a b)).length ((nzT (trm a b)).map encZ) ∧ (v' = .slice none 0 0 ↔ nzT (trm a b) = []) ∧ Below w0.heap.size w0 (W3.putObj W0.heap.size (.deferred none))) from fun u hu => by
      subst hu
      exact ⟨u, rfl, hrow3.kept (grownBy_putObj_a _ _ _) (ownsRow_ne_a hrow3 hK3 (fun cur e => by cases e)), hnil, hb3.grown (grownBy_putObj_a _ _ _) hb3.size (fun k e => by cases e; omega)⟩)
    clear hrow hrow3 hnil hb3 hv hv3
    refine ⟨none, W3, hend, ?_⟩
    gi_wp2_with (fail)
    rw [← hs0]
    refine ⟨by simp, .inl ⟨_, _, rfl, run_takeDeferred hK3, ?_⟩⟩
    exact ⟨_, results_tmp rfl _ _ _, hfin.out _ rfl⟩
set_option maxHeartbeats 800000 in
theorem terms_collect {w0 w : World} {bo bu a b : Nat} (h : TB w0 w bo bu a b) (ha : a ≤ 1000000) (hb : b ≤ 1000000) :
    Calls Tryz.prog 51 #[.func (.func 84) #[] #[.pointer (some ⟨bu, 0, none⟩), .pointer (some ⟨bo, 0, none⟩)]] w (SeqPost w0 w (nzT (trm a b))) := by
  have hH := Lib.hid h
  clear h
  refine (callsIn_wide (n := 4)).1 ?_
  refine callsIn_of_wp Tryz.func51 rfl trivial ?_ rfl
  simp only [Tryz.ntmps51, List.size_toArray, List.length_cons, List.length_nil, Nat.reduceAdd, Nat.reduceSub, Array.replicate_succ, Array.replicate_zero, List.push_toArray, List.append_toArray, List.nil_append, List.cons_append]
  have hfA : Fence.wide.fn 83 := trivial
  gi_wp2_with (first
    | (gi_at_call 83; refine (terms_append _ (by omega) hH.out ha hb).mono ?_; rintro e w' ⟨v, rfl, hrow, hnil, hbl⟩; have hrowH := Lib.hid hrow; have hnilH := Lib.hid hnil; have hblH := Lib.hid hbl; clear hrow hnil hbl))
  go_ret
  exact ⟨v, rfl, hrowH.out, hnilH.out, hblH.out⟩
theorem terms_any (a b : Nat) (w : World) :
    Calls Tryz.prog 52 #[.int .i64 (a : Nat), .int .i64 (b : Nat)] w (fun e w' => e = .returned (.func (.func 84) #[] #[.pointer (some ⟨w.heap.size + 1, 0, none⟩), .pointer (some ⟨w.heap.size, 0, none⟩)]) ∧ TB w w' w.heap.size (w.heap.size + 1) a b ∧ Below w.heap.size w w') := by
  have hmf : ∀ (fn : Fn) (first cap : Array Value) (w : World), (Instr.makeFunc fn first cap).run Tryz.prog w = .ok (.func fn first cap) w := fun _ _ _ _ => rfl
  go_enter Tryz.func52, Tryz.ntmps52
  go_wp2_with (fail)
  go_ret
  have hb : Below w.heap.size w ((w.alloc (Obj.cells #[.int .i64 (a : Nat)] 3)).alloc (Obj.cells #[.int .i64 (b : Nat)] 3)) := below_al (below_al (Below.refl _ _) _) _
  have e1 : (w.alloc (Obj.cells #[.int .i64 (a : Nat)] 3)).heap.size = w.heap.size + 1 := by simp
  refine ⟨rfl, ⟨hb, Nat.le_refl _, by omega, by simp; omega, by simp, by omega, ?_, ?_⟩, hb⟩
  · exact (Below.heap_alloc _ _ _ (by simp)).trans (World.alloc_heap_new w _)
  · have := World.alloc_heap_new (w.alloc (Obj.cells #[.int .i64 (a : Nat)] 3)) (Obj.cells #[.int .i64 (b : Nat)] 3)
    rw [e1] at this
    exact this
theorem izT {w : World} {base : Nat} {v : Value} {ss : List Int} (h : w.ownsRow base ((Tryz.collectA_ren).t 26) 1 v ss.length (ss.map encZ)) (h0 : 0 < ss.length) : ∃ g c, v = .slice (some ⟨g, 0, none⟩) ss.length c ∧ ss.length ≤ c ∧ IZ w (some ⟨g, 0, none⟩) ss := by
  have hz : ZI w base v ss := h
  obtain ⟨g, c, hv⟩ : ∃ g c, v = .slice (some ⟨g, 0, none⟩) ss.length c := by
    rcases hz.2 with ⟨_, h2⟩ | ⟨g', cap', cur, hv, _⟩
    · have : ss.length = 0 := h2
      omega
    · exact ⟨g', cap', hv⟩
  subst hv
  exact ⟨g, c, rfl, hz.iz.2, hz.iz.1⟩
def TermsP (a b : Nat) (w : World) (e : Ending) (w' : World) : Prop := ∃ g c, e = .returned (.tuple #[.slice (some ⟨g, 0, none⟩) (trm a b).length c, .int .i64 0]) ∧ (trm a b).length ≤ c ∧ IZ w' (some ⟨g, 0, none⟩) (nzT (trm a b)) ∧ Below w.heap.size w w'
theorem lit2T (w : World) (x y : Int) : IZ (w.alloc (Obj.cells #[.int .i64 x, .int .i64 y] 3)) (some ⟨w.heap.size, 0, none⟩) [x, y] := fun i z hz => by
  rcases i with _ | _ | i
  · simp at hz; subst hz; exact ⟨_, 0, rfl, by rw [al_newT rfl]; rfl⟩
  · simp at hz; subst hz; exact ⟨_, 0, rfl, by rw [al_newT rfl]; rfl⟩
  · simp at hz
theorem termsP_bad (a b : Int) (w : World) (h : inL 1000000 [a, b] = false) :
    Calls Tryz.prog 23 #[.int .i64 a, .int .i64 b] w (fun e w' => e = .returned (.tuple #[.slice none 0 0, .int .i64 1]) ∧ Below w.heap.size w w') := by
  have hH := Lib.hid h
  clear h
  go_enter Tryz.func23, Tryz.ntmps23
  go_wp2_with (go_at_call 39; go_loud (with_reducible refine (inP_any _ 2 2 1000000 [a, b] false _ (lit2T w a b) rfl (by omega) hH.out).mono ?_); rintro e w1 ⟨rfl, hb1⟩; have hb1H := Lib.hid hb1; clear hb1)
  go_ret2
  exact ⟨rfl, bseqT (below_al (Below.refl _ _) _) hb1H.out⟩
set_option maxHeartbeats 800000 in
theorem termsP_good (a b : Nat) (w : World) (ha : 1 ≤ a) (ha2 : a ≤ 1000000) (hb : 1 ≤ b) (hb2 : b ≤ 1000000) :
    Calls Tryz.prog 23 #[.int .i64 (a : Nat), .int .i64 (b : Nat)] w (TermsP a b w) := by
  have hI : Hid (inL 1000000 [(a : Int), (b : Int)] = true) := inL_iff.2 (fun x hx => by simp at hx; rcases hx with rfl | rfl <;> omega)
  obtain ⟨T, hT⟩ : ∃ T, trm a b = T := ⟨_, rfl⟩
  have hTl : Hid (0 < (nzT (trm a b)).length) := by show 0 < _; unfold nzT; rw [List.length_map, List.length_pos_iff]; exact trm_ne (by omega)
  clear hT
  go_enter Tryz.func23, Tryz.ntmps23
  go_wp2_with (first
    | (go_at_call 39; go_loud (with_reducible refine (inP_any _ 2 2 1000000 [(a : Int), (b : Int)] true _ (lit2T w a b) rfl (by omega) hI.out).mono ?_); rintro e w1 ⟨rfl, hb1⟩; have hb1H := Lib.hid (bseqT (below_al (Below.refl _ _) _) hb1); clear hb1)
    | (go_at_call 52; go_loud (with_reducible refine (terms_any a b _).mono ?_); rintro e w2 ⟨rfl, hT2, hb2⟩; have hT2H := Lib.hid hT2; have hb2H := Lib.hid hb2; clear hT2 hb2)
    | (go_at_call 51; go_loud (with_reducible refine (terms_collect hT2H.out ha2 hb2).mono ?_); rintro e w3 ⟨v, rfl, hrow, hnil, hb3⟩; have hrowH := Lib.hid hrow; have hb3H := Lib.hid hb3; clear hrow hnil hb3))
  go_ret2
  obtain ⟨g, c, hv, hc, hIz⟩ := izT hrowH.out hTl.out
  subst hv
  rw [show (nzT (trm a b)).length = (trm a b).length by unfold nzT; rw [List.length_map]] at hc ⊢
  exact ⟨g, c, rfl, hc, hIz, bseqT hb1H.out hb3H.out⟩
end Go.Proofs.YtbehfhmdilifkaaGreat
