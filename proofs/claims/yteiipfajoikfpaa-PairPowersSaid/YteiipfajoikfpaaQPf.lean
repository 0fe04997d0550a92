/- Gb Ga Gc Gd -/
import Derived.Test.YteiipfajoikfpaaQPe
import Derived.Lib.AppendZeros
import Derived.Lib.RowBridge
import Derived.Test.YteiipfajoikfpaaQPd
set_option linter.unusedVariables false
/- Walks of slices.Grow (of nil), slices.Concat, sorted. -/
namespace Go.Proofs.Yteiipfajoikfpaa
open Go Go.RowKit Go.Proofs Go.Sort

theorem compact_rise {zs : List Int} (hs : zs.Pairwise (· ≤ ·)) : ∀ m, m ≤ zs.length → (Lib.compactUpTo zs.toArray m).Pairwise (· < ·) ∧ (∀ x, x ∈ Lib.compactUpTo zs.toArray m ↔ x ∈ zs.take m) := by
  have hat : ∀ j, j < zs.length → zs.toArray[j]! = at0 zs j := fun j hj => by
    unfold at0
    rw [getElem!_pos zs.toArray j (by simpa using hj), List.getElem?_eq_getElem hj]
    rfl
  have hle : ∀ i j, i < j → j < zs.length → at0 zs i ≤ at0 zs j := fun i j hij hj => by
    have := List.pairwise_iff_getElem.1 hs i j (by omega) hj hij
    rw [at0_of (List.getElem?_eq_getElem (by omega : i < zs.length)), at0_of (List.getElem?_eq_getElem hj)]
    exact this
  have htake : ∀ m, m < zs.length → zs.take (m + 1) = zs.take m ++ [at0 zs m] := fun m hm => by
    rw [List.take_succ_eq_append_getElem hm, at0_of (List.getElem?_eq_getElem hm)]
  have hmt : ∀ m, m ≤ zs.length → ∀ x ∈ zs.take m, ∃ i, i < m ∧ at0 zs i = x := fun m hm x hx => by
    obtain ⟨i, hi⟩ := List.mem_iff_getElem?.1 hx
    rw [List.getElem?_take] at hi
    split at hi
    · exact ⟨i, by assumption, at0_of hi⟩
    · cases hi
  intro m
  induction m with
  | zero => intro _; simp [Lib.compactUpTo]
  | succ m ih =>
    intro hm
    obtain ⟨h1, h2⟩ := ih (by omega)
    rw [Lib.compactUpTo_succ]
    by_cases hk : Lib.keeps zs.toArray m = true
    · rw [if_pos hk, hat m (by omega), htake m (by omega)]
      refine ⟨?_, fun x => by rw [List.mem_append, List.mem_append, h2]⟩
      rw [List.pairwise_append]
      refine ⟨h1, by simp, fun a ha b hb => ?_⟩
      rw [List.mem_singleton] at hb
      subst hb
      obtain ⟨i, hi, rfl⟩ := hmt m (by omega) a ((h2 a).1 ha)
      have hne : at0 zs (m - 1) ≠ at0 zs m := fun e => by
        have : Lib.keeps zs.toArray m = false := Lib.keeps_neg (by omega) (by rw [hat m (by omega), hat (m - 1) (by omega)]; exact e.symm)
        rw [this] at hk; cases hk
      have h3 := hle (m - 1) m (by omega) (by omega)
      rcases Nat.lt_or_eq_of_le (show i ≤ m - 1 by omega) with h | h
      · have := hle i (m - 1) h (by omega); omega
      · subst h; omega
    · rw [if_neg hk, List.append_nil, htake m (by omega)]
      have hm0 : m ≠ 0 := fun e => hk (by subst e; exact Lib.keeps_lt_one _ 0 (by omega))
      have he : at0 zs m = at0 zs (m - 1) := Classical.byContradiction fun hne => hk (Lib.keeps_pos (by rw [hat m (by omega), hat (m - 1) (by omega)]; exact hne))
      refine ⟨h1, fun x => ?_⟩
      rw [h2, List.mem_append, List.mem_singleton]
      refine ⟨.inl, fun h => h.elim id fun e => ?_⟩
      subst e
      rw [he]
      refine List.mem_of_getElem? (i := m - 1) ?_
      rw [List.getElem?_take, if_pos (by omega)]
      exact at0_get (by omega)
/-- All costs, in order, each once. -/
def valsL (C : List (List Int)) : List Int := Lib.compact (C.flatten.mergeSort fun x y => decide (x ≤ y))
theorem flat_mem {C : List (List Int)} (hg : goodC C) {n : Nat} (hn : C.length = n) (v : Int) : v ∈ C.flatten ↔ ∃ i j, i < n ∧ j < n ∧ cst C i j = v := by
  rw [List.mem_flatten]
  constructor
  · rintro ⟨xs, hxs, hv⟩
    obtain ⟨i, hi⟩ := List.mem_iff_getElem?.1 hxs
    obtain ⟨j, hj⟩ := List.mem_iff_getElem?.1 hv
    refine ⟨i, j, by rw [← hn]; exact (List.getElem?_eq_some_iff.1 hi).1, by rw [← hn, ← (hg.2.2 xs hxs).1]; exact (List.getElem?_eq_some_iff.1 hj).1, ?_⟩
    unfold cst
    rw [hi]
    exact at0_of hj
  · rintro ⟨i, j, hi, hj, rfl⟩
    obtain ⟨xs, hxs⟩ : ∃ xs, C[i]? = some xs := ⟨_, List.getElem?_eq_getElem (by omega)⟩
    have hm := List.mem_of_getElem? hxs
    refine ⟨xs, hm, ?_⟩
    unfold cst
    rw [hxs]
    exact mem_at0 (n := n) (by rw [(hg.2.2 xs hm).1, hn]) hj
theorem vals_L {C : List (List Int)} (hg : goodC C) {n : Nat} (hn : C.length = n) : Vals C n (valsL C) := by
  have hs : (C.flatten.mergeSort fun x y => decide (x ≤ y)).Pairwise (· ≤ ·) := by
    have := List.pairwise_mergeSort (le := fun x y : Int => decide (x ≤ y)) (fun a b c h1 h2 => by simp at *; omega) (fun a b => by simp; omega) C.flatten
    exact this.imp fun h => by simpa using h
  obtain ⟨h1, h2⟩ := compact_rise hs _ (Nat.le_refl _)
  refine ⟨h1, fun v => ?_⟩
  rw [← flat_mem hg hn v]
  refine (h2 v).trans ?_
  rw [List.take_length, List.mem_mergeSort]
theorem flat_len {C : List (List Int)} {n : Nat} (h : ∀ xs ∈ C, xs.length = n) : C.flatten.length = C.length * n := by
  induction C with
  | nil => simp
  | cons a C ih =>
    rw [List.flatten_cons, List.length_append, ih (fun xs hx => h xs (by simp [hx])), h a (by simp), List.length_cons, Nat.succ_mul]
    omega

/-- A row of the call's own is put anew. -/
theorem ZI.put {w : World} {base n c g : Nat} {zs : List Int} (h : ZI w base (.slice (some ⟨g, 0, none⟩) n c) zs) (ys : List Int) (hy : ys.length = zs.length) (q : Nat) (os : Array Obj) (B : Nat) (hB : B ≤ base) (hBw : B ≤ w.heap.size) :
    ZI (grow (putRow (Value.int .i64) (Sort.ahead w q) g 0 ys.toArray) os) base (.slice (some ⟨g, 0, none⟩) n c) ys ∧ Below B w (grow (putRow (Value.int .i64) (Sort.ahead w q) g 0 ys.toArray) os) := by
  have hn : n = zs.length := by obtain ⟨a, c', e⟩ := h.shape; injection e
  rcases h.2 with ⟨h1, _⟩ | ⟨g', cap', cur, hv, h1, hg, h3, h4, h5, h6⟩
  · injection h1 with e1; cases e1
  · injection hv with e1 e2 e3
    injection e1 with e1
    injection e1 with e1
    subst e1 e3
    have hglt := (Array.getElem?_eq_some_iff.1 hg).1
    have hheap : (grow (putRow (Value.int .i64) (Sort.ahead w q) g 0 ys.toArray) os).heap[g]? = some (.cells (putCells (Value.int .i64) 0 ys.toArray cur) 3 (0, 0)) := by
      rw [heap_grow_old _ _ (by simp [putRow, mapBlock, Sort.ahead]; exact hglt)]
      simp only [putRow, mapBlock, Array.getElem?_modify, if_true]
      have : (Sort.ahead w q).heap[g]? = some (.cells cur 3 (0, 0)) := hg
      rw [this]
      rfl
    refine ⟨⟨by simp, .inr ⟨g, c, _, by rw [hy, ← hn], h1, hheap, by rw [hy]; omega, h4, by rw [← h5]; simp [putCells], ?_⟩⟩, ⟨rfl, rfl, rfl, by simp [putRow, mapBlock, Sort.ahead], fun k hk => ?_⟩⟩
    · refine List.ext_getElem? fun i => ?_
      rw [List.getElem?_take, List.getElem?_map]
      by_cases hi : i < ys.length
      · have hic : i < cur.size := by rw [h5]; omega
        rw [if_pos (by omega), List.getElem?_eq_getElem hi]
        simp only [putCells, Array.getElem?_toList, Array.getElem?_mapIdx, Array.getElem?_eq_getElem hic, Option.map_some]
        rw [if_pos ⟨by omega, by simpa using hi⟩]
        simp [hi]
      · rw [if_neg (by omega), List.getElem?_eq_none (by omega)]; rfl
    · rw [heap_grow_old _ _ (by simp [putRow, mapBlock, Sort.ahead]; omega)]
      simp only [putRow, mapBlock, Array.getElem?_modify]
      rw [if_neg (by omega)]
      rfl
theorem ZI.holds {w : World} {base n c g : Nat} {zs : List Int} (h : ZI w base (.slice (some ⟨g, 0, none⟩) n c) zs) : Holds (Value.int .i64) w g 0 zs.toArray ∧ g < w.heap.size := by
  refine ⟨fun j hj => ?_, (h.lt g rfl).2⟩
  have hj' : j < zs.length := by simpa using hj
  obtain ⟨b, o, e, hc⟩ := h.iz.1.at hj'
  injection e with e
  injection e with e1 e2
  subst e1 e2
  refine ⟨?_, ?_⟩
  · rw [hc, getElem!_pos zs.toArray j hj]
    rw [at0_of (List.getElem?_eq_getElem hj')]
    rfl
  · rcases h.2 with ⟨h1, _⟩ | ⟨g', cap', cur, hv, h1, hg, _⟩
    · injection h1 with e1; cases e1
    · injection hv with e1 e2 e3
      injection e1 with e1
      injection e1 with e1
      subst e1
      simp [World.frozen?, hg]
def OwnPost (w : World) (zs : List Int) (e : Ending) (w' : World) : Prop := ∃ g c, e = .returned (.slice (some ⟨g, 0, none⟩) zs.length c) ∧ ZI w' w.heap.size (.slice (some ⟨g, 0, none⟩) zs.length c) zs ∧ Below w.heap.size w w'
set_option maxRecDepth 100000 in
set_option maxHeartbeats 3200000 in
theorem grow_nil (m : Nat) (w : World) (hm : 1 ≤ m) (hm2 : m ≤ 1000) : Calls Try.prog 93 #[.slice none 0 0, .int .i64 (m : Nat)] w (OwnPost w []) := by
  obtain ⟨i, h2, h3, h4, h5⟩ := info_parts info_intJ
  have hr := Lib.run_append_nil_zeros (P := Try.prog) w 24 3 24 3 i (.int .i64 0) .i64 .i64 Try.underlying24 Try.underlying3 h2 h3 m (by omega) (by omega) (by omega) (by rw [h5]; omega)
  have hge := grownCap_ge w m 0 3
  have hcm := grownCap_le_maxLen w m 0 3 (by unfold maxLen; omega)
  obtain ⟨cc, hcc⟩ : ∃ cc, grownCap w m 0 3 = cc := ⟨_, rfl⟩
  rw [hcc] at hr hge hcm
  have hrH := Lib.hid hr
  have d1 : decide ((m : Int) < 0) = false := by simp
  have d2 : decide (0 < (m : Int)) = true := by simp; omega
  have hccI : (0 : Int) ≤ (cc : Int) := by omega
  have hceH := Lib.hid hcc
  clear hr hcc
  go_enter Try.func93, Try.ntmps93
  go_wp2_with (first
    | (at_builtin; go_loud (refine Lib.wpList_append_run _ rfl (.tmp 20) (.tmp 21) _ _ rfl _ _ (by rfl) (by rfl) _ _ hrH.out ?_)))
  go_ret
  refine ⟨w.heap.size, cc, rfl, ⟨rfl, .inr ⟨w.heap.size, cc, _, rfl, Nat.le_refl _, heap_alloc_new w.drew _, Nat.zero_le _, hcm, ?_, by simp⟩⟩, ?_⟩
  · rw [Array.size_append, size_zeroCells, size_zeroCells]
    show m * 1 + (cc - m) * 1 = cc * 1
    omega
  · exact (Below.refl _ _).drew.alloc (Nat.le_refl _) _

set_option maxRecDepth 100000 in
set_option maxHeartbeats 6400000 in
theorem concat_any (ao : Option Addr) (c n : Nat) (C : List (List Int)) (w : World) (h : IMx w ao C) (hg : goodC C) (hn : C.length = n) :
    Calls Try.prog 84 #[.slice ao n c] w (OwnPost w C.flatten) := by
  have hn8 : n ≤ 8 := by rw [← hn]; exact hg.2.1
  have hn1 : 1 ≤ n := by rw [← hn]; exact hg.1
  have hH := Lib.hid h
  have hgH := Lib.hid hg
  have hnH := Lib.hid hn
  obtain ⟨N, hN⟩ : ∃ N, n * n = N := ⟨_, rfl⟩
  have hN1 : 1 ≤ N := by rw [← hN]; exact Nat.mul_pos hn1 hn1
  have hN64 : N ≤ 64 := by rw [← hN]; exact Nat.mul_le_mul hn8 hn8
  have hNH := Lib.hid hN
  have hNl : Hid (C.flatten.length = N) := by show _ = _; rw [flat_len (n := n) (fun xs hx => by rw [(hg.2.2 xs hx).1, hn]), hn, hN]
  clear h hg hn hN
  go_enter Try.func84, Try.ntmps84
  go_wp2_with (fail)
  go_loop [3, 11] (fun sv i => ∃ k : Nat, i = .int .i64 (k : Nat) ∧ sv = .int .i64 ((k * n : Nat) : Int) ∧ k ≤ n) (fun _ i => n - (intOf i).toNat)
  case atStart => exact ⟨0, rfl, by simp, by omega⟩
  case round =>
    obtain ⟨k, rfl, hsv, hk⟩ := hrel
    obtain ⟨s, hs⟩ : ∃ s, k * n = s := ⟨_, rfl⟩
    rw [hs] at hsv
    subst hsv
    have hs64 : s ≤ 64 := by rw [← hs]; exact Nat.le_trans (Nat.mul_le_mul (show k ≤ 8 by omega) hn8) (by omega)
    by_cases hkn : k < n
    · obtain ⟨xs, hxs⟩ : ∃ xs, C[k]? = some xs := ⟨_, List.getElem?_eq_getElem (by rw [hnH.out]; exact hkn)⟩
      obtain ⟨b1, o1, a1, c1, rfl, hc, hlc, hz⟩ := hH.out.row hxs
      rw [(hgH.out.2.2 xs (List.mem_of_getElem? hxs)).1, hnH.out] at hc
      have hkI : (k : Int) < (n : Int) := by omega
      have hd : decide (((s : Int) + (n : Int)) < 0) = false := by simp; omega
      have hsH := Lib.hid hs
      clear hxs hlc hz hs
      go_wp2_with (fail)
      go_round
      case rel => exact ⟨k + 1, by go_num, by rw [Nat.succ_mul, hsH.out]; go_num, by omega⟩
      case measure => simp [intOf]; omega
    · have hke : k = n := by omega
      subst hke
      rw [hNH.out] at hs
      subst hs
      go_wp2_with (first
        | (go_at_call 93; go_loud (refine (grow_nil N _ hN1 (by omega)).mono ?_); rintro e w1 ⟨g, d, rfl, hZ, hb1⟩; have hZH := Lib.hid hZ; have hb1H := Lib.hid hb1; clear hZ hb1))
      go_loopw [6, 27] (fun b i wr => ∃ (j : Nat) (xs : List Int), i = .int .i64 (j : Nat) ∧ j ≤ k ∧ (C.take j).flatten = xs ∧ ZI wr w.heap.size b xs ∧ (0 < j → xs ≠ []) ∧ Below w.heap.size w wr) (fun _ i _ => k - (intOf i).toNat)
      case atStart => exact ⟨0, [], rfl, by omega, by simp, hZH.out, fun h => by omega, hb1H.out⟩
      case round =>
        clear hZH hb1H
        obtain ⟨j, xs, rfl, hj, hxs, hZ, hne, hbl⟩ := hrel
        obtain ⟨av, cv, hv⟩ := hZ.shape
        subst hv
        obtain ⟨u, hu⟩ : ∃ u, xs.length = u := ⟨_, rfl⟩
        have hu64 : u ≤ 64 := by
          rw [← hu, ← hxs, flat_len (n := k) (fun ys hy => by rw [(hgH.out.2.2 ys (List.mem_of_mem_take hy)).1, hnH.out]), List.length_take]
          exact Nat.le_trans (Nat.mul_le_mul (show min j C.length ≤ 8 by omega) hn8) (by omega)
        rw [hu] at hZ ⊢
        have hZH := Lib.hid hZ
        have hblH := Lib.hid hbl
        have hxsH := Lib.hid hxs
        have huH := Lib.hid hu
        have hneH := Lib.hid hne
        clear hxs hu hZ hne
        by_cases hjn : j < k
        · obtain ⟨ys, hys⟩ : ∃ ys, C[j]? = some ys := ⟨_, List.getElem?_eq_getElem (by rw [hnH.out]; exact hjn)⟩
          obtain ⟨b1, o1, a1, c1, rfl, hc, hlc, hz⟩ := (hH.out.below hbl).row hys
          have hyl := (hgH.out.2.2 ys (List.mem_of_getElem? hys)).1
          rw [hnH.out] at hyl
          rw [hyl] at hc
          have hylH := Lib.hid hyl
          have hzH := Lib.hid hz
          have hstep : Hid ((C.take (j + 1)).flatten = xs ++ ys) := by
            show _ = _
            have hjl : j < C.length := by rw [hnH.out]; exact hjn
            rw [List.take_succ_eq_append_getElem hjl, List.flatten_append, hxsH.out]
            rw [List.getElem?_eq_getElem hjl] at hys
            injection hys with hys
            rw [hys]; simp
          have hsz := hblH.out.size
          clear hys hlc hyl hz hbl
          go_wp2_with (first
            | (at_builtin; go_loud (refine wpList_append_zs _ rfl (.tmp 31) (.tmp 32) _ rfl Try.underlying24 w.heap.size u (.slice av u cv) xs (by rfl) hZH.out huH.out a1 k c1 ys (by rfl) hzH.out hylH.out (by omega) (by omega) hsz ?_); intro v2 w2 hZ2 hg2 _; have hb2 := Lib.hid (hblH.out.grown hg2 hsz (fun g hg => (hZH.out.lt g hg).1)); clear hg2))
          go_roundw
          case rel => exact ⟨j + 1, xs ++ ys, by go_num, by omega, hstep.out, hZ2, fun _ e => by have := congrArg List.length e; rw [List.length_append, hylH.out] at this; simp at this; omega, hb2.out⟩
          case measure => simp [intOf]; omega
        · have hje : j = k := by omega
          subst hje
          have hfl : C.flatten = xs := by have := hxsH.out; rwa [List.take_of_length_le (by rw [hnH.out]; exact Nat.le_refl _)] at this
          have hflH := Lib.hid hfl
          clear hfl hbl
          go_wp2_with (fail)
          go_ret
          obtain ⟨g3, c3, hv3⟩ := ZE.some (.inl hZH.out) (hneH.out (by omega))
          rw [huH.out] at hv3
          rw [hflH.out]
          refine ⟨g3, c3, ?_, ?_, hblH.out⟩
          · rw [huH.out, ← hv3]; rfl
          · rw [huH.out, ← hv3]; exact hZH.out
end Go.Proofs.Yteiipfajoikfpaa

/- Walk of valid. -/
namespace Go.Proofs.Yteiipfajoikfpaa
open Go Go.RowKit Go.Proofs

theorem foldl_min (l : List Int) : ∀ a : Int, l.foldl min a ≤ a ∧ (∀ x ∈ l, l.foldl min a ≤ x) ∧ (l.foldl min a = a ∨ l.foldl min a ∈ l) := by
  induction l with
  | nil => intro a; simp
  | cons b l ih =>
    intro a
    obtain ⟨h1, h2, h3⟩ := ih (min a b)
    rw [List.foldl_cons]
    refine ⟨by omega, fun x hx => ?_, ?_⟩
    · rcases List.mem_cons.1 hx with rfl | hx
      · omega
      · exact h2 x hx
    · rcases h3 with h3 | h3
      · rw [h3]
        rcases Int.le_total a b with h | h
        · left; omega
        · right; rw [show min a b = b by omega]; simp
      · right; simp [h3]
theorem foldl_max (l : List Int) : ∀ a : Int, a ≤ l.foldl max a ∧ (∀ x ∈ l, x ≤ l.foldl max a) ∧ (l.foldl max a = a ∨ l.foldl max a ∈ l) := by
  induction l with
  | nil => intro a; simp
  | cons b l ih =>
    intro a
    obtain ⟨h1, h2, h3⟩ := ih (max a b)
    rw [List.foldl_cons]
    refine ⟨by omega, fun x hx => ?_, ?_⟩
    · rcases List.mem_cons.1 hx with rfl | hx
      · omega
      · exact h2 x hx
    · rcases h3 with h3 | h3
      · rw [h3]
        rcases Int.le_total a b with h | h
        · right; rw [show max a b = b by omega]; simp
        · left; omega
      · right; simp [h3]
theorem minOf_spec {l : List Int} (h : l ≠ []) : (∀ x ∈ l, Lib.minOf l ≤ x) ∧ Lib.minOf l ∈ l := by
  obtain ⟨a, t, rfl⟩ := List.exists_cons_of_ne_nil h
  obtain ⟨h1, h2, h3⟩ := foldl_min (a :: t) a
  refine ⟨h2, ?_⟩
  rcases h3 with h3 | h3
  · show List.foldl min a (a :: t) ∈ _
    rw [h3]; simp
  · exact h3
theorem maxOf_spec {l : List Int} (h : l ≠ []) : (∀ x ∈ l, x ≤ Lib.maxOf l) ∧ Lib.maxOf l ∈ l := by
  obtain ⟨a, t, rfl⟩ := List.exists_cons_of_ne_nil h
  obtain ⟨h1, h2, h3⟩ := foldl_max (a :: t) a
  refine ⟨h2, ?_⟩
  rcases h3 with h3 | h3
  · show List.foldl max a (a :: t) ∈ _
    rw [h3]; simp
  · exact h3
theorem iz_cells {w : World} {b o : Nat} {xs : List Int} (h : IZ w (some ⟨b, o, none⟩) xs) : ∀ j, j < xs.length → w.cell? ⟨b, o + j, none⟩ = some (.int .i64 (xs.getD j 0)) := fun j hj => by
  obtain ⟨b', o', e, hc⟩ := h.at hj
  injection e with e
  injection e with e1 e2
  subst e1 e2
  rw [hc]
  unfold at0
  rw [List.getD_eq_getElem?_getD]
theorem take_lastC {α : Type} {L : List α} {k : Nat} {q : α} (h : L[k]? = some q) : L.take (k + 1) = L.take k ++ [q] := by
  have hk : k < L.length := (List.getElem?_eq_some_iff.1 h).1
  rw [List.take_succ_eq_append_getElem hk]
  rw [List.getElem?_eq_getElem hk] at h
  injection h with h
  rw [h]
theorem min_any (b o n c : Nat) (xs : List Int) (m : Int) (w : World) (h : IZ w (some ⟨b, o, none⟩) xs) (hn : xs.length = n) (h0 : 0 < n) (hm : n ≤ 9223372036854775807) (hb : Lib.minOf xs = m) :
    Calls Try.prog 76 #[.slice (some ⟨b, o, none⟩) n c] w (fun e w' => e = .returned (.int .i64 m) ∧ w = w') := by
  refine (Try.slices_Min_int b o n c xs w h0 (by omega) hm (iz_cells h)).mono fun e w' ⟨h1, h2⟩ => ⟨?_, h2.symm⟩
  rw [h1, List.take_of_length_le (by omega), hb]
theorem max_any (b o n c : Nat) (xs : List Int) (m : Int) (w : World) (h : IZ w (some ⟨b, o, none⟩) xs) (hn : xs.length = n) (h0 : 0 < n) (hm : n ≤ 9223372036854775807) (hb : Lib.maxOf xs = m) :
    Calls Try.prog 77 #[.slice (some ⟨b, o, none⟩) n c] w (fun e w' => e = .returned (.int .i64 m) ∧ w = w') := by
  refine (Try.slices_Max_int b o n c xs w h0 (by omega) hm (iz_cells h)).mono fun e w' ⟨h1, h2⟩ => ⟨?_, h2.symm⟩
  rw [h1, List.take_of_length_le (by omega), hb]
set_option maxRecDepth 100000 in
set_option maxHeartbeats 3200000 in
theorem valid_any (ao : Option Addr) (c n : Nat) (C : List (List Int)) (b : Bool) (w : World) (h : IMx w ao C) (hn : C.length = n) (hm : n ≤ 9223372036854775807) (hb : costsB C = b) :
    Calls Try.prog 48 #[.slice ao n c] w (fun e w' => e = .returned (.bool b) ∧ w = w') := by
  have hbH := Lib.hid hb
  have hnH := Lib.hid hn
  have hH := Lib.hid h
  clear hb hn h
  by_cases h1 : n < 1
  · have g1 : decide ((n : Int) < 1) = true := by simp; omega
    go_enter Try.func48, Try.ntmps48
    go_wp2
    go_ret
    exact ⟨ret_boolJ (by rw [← hbH.out]; exact (decide_eq_false fun hg => by have := hg.1; rw [hnH.out] at this; omega).symm), rfl⟩
  have g1 : decide ((n : Int) < 1) = false := by simp; omega
  by_cases h2 : 8 < n
  · have g2 : decide ((8 : Int) < (n : Int)) = true := by simp; omega
    go_enter Try.func48, Try.ntmps48
    go_wp2
    go_ret
    exact ⟨ret_boolJ (by rw [← hbH.out]; exact (decide_eq_false fun hg => by have := hg.2.1; rw [hnH.out] at this; omega).symm), rfl⟩
  have g2 : decide ((8 : Int) < (n : Int)) = false := by simp; omega
  go_enter Try.func48, Try.ntmps48
  go_wp2
  go_loop [15] (fun i => ∃ k : Nat, i = .int .i64 (k : Nat) ∧ k ≤ n ∧ ∀ xs ∈ C.take k, xs.length = n ∧ ∀ x ∈ xs, 0 ≤ x ∧ x ≤ 1000) (fun i => n - (intOf i).toNat)
  case atStart => exact ⟨0, rfl, by omega, by simp⟩
  case round =>
    obtain ⟨k, rfl, hk, hok⟩ := hrel
    have hokH := Lib.hid hok
    clear hok
    by_cases hkn : k < n
    · obtain ⟨xs, hxs⟩ : ∃ xs, C[k]? = some xs := ⟨_, List.getElem?_eq_getElem (by rw [hnH.out]; exact hkn)⟩
      obtain ⟨b1, o1, a1, c1, rfl, hc, hlc, hz⟩ := hH.out.row hxs
      have ht := Lib.hid (take_lastC hxs)
      have hmem := Lib.hid (List.mem_of_getElem? hxs)
      obtain ⟨l, hl⟩ : ∃ l, xs.length = l := ⟨_, rfl⟩
      rw [hl] at hc hlc
      have hlH := Lib.hid hl
      by_cases hln : l = n
      · subst hln
        obtain ⟨g, o2, rfl, _⟩ := hz.at (i := 0) (by omega)
        have hzH := Lib.hid hz
        have hne : xs ≠ [] := fun e => by rw [e] at hl; simp at hl; omega
        obtain ⟨m, hm1⟩ : ∃ m, Lib.minOf xs = m := ⟨_, rfl⟩
        obtain ⟨M, hM1⟩ : ∃ m, Lib.maxOf xs = m := ⟨_, rfl⟩
        have hms := Lib.hid (minOf_spec hne)
        have hMs := Lib.hid (maxOf_spec hne)
        rw [hm1] at hms
        rw [hM1] at hMs
        have hmH := Lib.hid hm1
        have hMH := Lib.hid hM1
        have e1 : ((l : Int) != (l : Int)) = false := by simp
        have hl0 : 0 < l := by omega
        clear hxs hz hl hne hm1 hM1
        by_cases hm0 : m < 0
        · have e2 : decide (m < 0) = true := by simpa using hm0
          go_wp2_with (go_at_call 76; (with_reducible refine (min_any g o2 l c1 xs m _ hzH.out hlH.out hl0 hm hmH.out).mono ?_); rintro e w1 ⟨rfl, rfl⟩)
          go_ret
          exact ⟨ret_boolJ (by rw [← hbH.out]; exact (decide_eq_false fun hg => by have := ((hg.2.2 xs hmem.out).2 m hms.out.2).1; omega).symm), rfl⟩
        · have e2 : decide (m < 0) = false := by simpa using hm0
          by_cases hM0 : 1000 < M
          · have e3 : decide (1000 < M) = true := by simpa using hM0
            go_wp2_with (first
              | (go_at_call 76; (with_reducible refine (min_any g o2 l c1 xs m _ hzH.out hlH.out hl0 hm hmH.out).mono ?_); rintro e w1 ⟨rfl, rfl⟩)
              | (go_at_call 77; (with_reducible refine (max_any g o2 l c1 xs M _ hzH.out hlH.out hl0 hm hMH.out).mono ?_); rintro e w1 ⟨rfl, rfl⟩))
            go_ret
            exact ⟨ret_boolJ (by rw [← hbH.out]; exact (decide_eq_false fun hg => by have := ((hg.2.2 xs hmem.out).2 M hMs.out.2).2; omega).symm), rfl⟩
          · have e3 : decide (1000 < M) = false := by simpa using hM0
            go_wp2_with (first
              | (go_at_call 76; (with_reducible refine (min_any g o2 l c1 xs m _ hzH.out hlH.out hl0 hm hmH.out).mono ?_); rintro e w1 ⟨rfl, rfl⟩)
              | (go_at_call 77; (with_reducible refine (max_any g o2 l c1 xs M _ hzH.out hlH.out hl0 hm hMH.out).mono ?_); rintro e w1 ⟨rfl, rfl⟩))
            go_round
            case rel => exact ⟨k + 1, by go_num, by omega, by
              rw [ht.out]
              intro y hy
              rcases List.mem_append.1 hy with h | h
              · exact hokH.out y h
              · rw [List.mem_singleton.1 h]
                exact ⟨hlH.out, fun x hx => ⟨by have := hms.out.1 x hx; omega, by have := hMs.out.1 x hx; omega⟩⟩⟩
            case measure => simp [intOf]; omega
      · have e1 : ((l : Int) != (n : Int)) = true := by simp; omega
        clear hxs hz hl
        go_wp2
        go_ret
        exact ⟨ret_boolJ (by rw [← hbH.out]; exact (decide_eq_false fun hg => hln (by have := (hg.2.2 xs hmem.out).1; rw [hlH.out, hnH.out] at this; exact this)).symm), rfl⟩
    · have hke : k = n := by omega
      subst hke
      go_wp2
      go_ret
      refine ⟨ret_boolJ ?_, rfl⟩
      rw [← hbH.out]
      have h3 := hokH.out
      rw [List.take_of_length_le (by rw [hnH.out]; exact Nat.le_refl _)] at h3
      exact (decide_eq_true (show goodC C from ⟨by rw [hnH.out]; omega, by rw [hnH.out]; omega, by rw [hnH.out]; exact h3⟩)).symm
end Go.Proofs.Yteiipfajoikfpaa

/- Walks of sorted, Worst. -/
namespace Go.Proofs.Yteiipfajoikfpaa
open Go Go.RowKit Go.Proofs Go.Sort

theorem sort_own (g N c base : Nat) (zs : List Int) (w : World) (h : ZI w base (.slice (some ⟨g, 0, none⟩) N c) zs) (hN : zs.length = N) (hs : N ≤ 1000) (hb : base ≤ w.heap.size) :
    Calls Try.prog 66 #[.slice (some ⟨g, 0, none⟩) N c] w (fun e w' => e = .returned (.tuple #[]) ∧ ZI w' base (.slice (some ⟨g, 0, none⟩) N c) (zs.mergeSort fun x y => decide (x ≤ y)) ∧ Below base w w') := by
  subst hN
  obtain ⟨h1, h2⟩ := h.holds
  refine (Try.slices_Sort_int g 0 c zs w h1 h2 (by omega)).mono fun e w' ⟨he, n, os, hw⟩ => ?_
  subst hw
  obtain ⟨h3, h4⟩ := h.put (zs.mergeSort fun x y => decide (x ≤ y)) (List.length_mergeSort ..) n os base (Nat.le_refl _) hb
  exact ⟨he, h3, h4⟩
theorem compact_own (g N c base : Nat) (zs : List Int) (w : World) (h : ZI w base (.slice (some ⟨g, 0, none⟩) N c) zs) (hN : zs.length = N) (hs : N ≤ 1000) (hb : base ≤ w.heap.size) :
    Calls Try.prog 85 #[.slice (some ⟨g, 0, none⟩) N c] w (fun e w' => e = .returned (.slice (some ⟨g, 0, none⟩) (Lib.compact zs).length c) ∧ ZI w' base (.slice (some ⟨g, 0, none⟩) (Lib.compact zs).length c) (Lib.compact zs) ∧ Below base w w') := by
  subst hN
  obtain ⟨h1, h2⟩ := h.holds
  have hle := Lib.compact_length_le zs
  refine (Try.slices_Compact_int g 0 c zs w h1 (by omega) h.iz.2).mono fun e w' ⟨he, q, hw⟩ => ?_
  subst hw
  obtain ⟨h3, h4⟩ := h.put (Lib.compact zs ++ List.replicate (zs.length - (Lib.compact zs).length) 0) (by simp; omega) q #[] base (Nat.le_refl _) hb
  rw [grow_empty] at h3 h4
  refine ⟨he, ?_, h4⟩
  have := h3.trunc hle
  rwa [List.take_left] at this
def RetIZ (w : World) (xs : List Int) (e : Ending) (w' : World) : Prop := ∃ g c, e = .returned (.slice (some ⟨g, 0, none⟩) xs.length c) ∧ IZ w' (some ⟨g, 0, none⟩) xs ∧ xs.length ≤ c ∧ Below w.heap.size w w'
set_option maxRecDepth 100000 in
set_option maxHeartbeats 3200000 in
theorem sorted_any (ao : Option Addr) (c n : Nat) (C : List (List Int)) (vs : List Int) (w : World) (h : IMx w ao C) (hg : goodC C) (hn : C.length = n) (hv : valsL C = vs) :
    Calls Try.prog 61 #[.slice ao n c] w (RetIZ w vs) := by
  have hn8 : n ≤ 8 := by rw [← hn]; exact hg.2.1
  have hH := Lib.hid h
  have hgH := Lib.hid hg
  have hnH := Lib.hid hn
  obtain ⟨zs, hz⟩ : ∃ zs, C.flatten = zs := ⟨_, rfl⟩
  obtain ⟨ss, hs⟩ : ∃ ss, (zs.mergeSort fun x y => decide (x ≤ y)) = ss := ⟨_, rfl⟩
  obtain ⟨N, hN⟩ : ∃ N, zs.length = N := ⟨_, rfl⟩
  have hN64 : N ≤ 64 := by
    rw [← hN, ← hz, flat_len (n := n) (fun xs hx => by rw [(hg.2.2 xs hx).1, hn]), hn]
    exact Nat.le_trans (Nat.mul_le_mul hn8 hn8) (by omega)
  have hzH := Lib.hid hz
  have hsH := Lib.hid hs
  have hNH := Lib.hid hN
  have hsN : Hid (ss.length = N) := by show _ = _; rw [← hs, List.length_mergeSort]; exact hN
  have hvH : Hid (Lib.compact ss = vs) := by show _ = _; rw [← hv, ← hs, ← hz]; rfl
  clear h hg hn hz hs hN hv
  go_enter Try.func61, Try.ntmps61
  go_wp2_with (first
    | (go_at_call 84; go_loud (refine (concat_any ao c n C _ hH.out hgH.out hnH.out).mono ?_); rintro e w1 ⟨g, d, rfl, hZ, hb1⟩; rw [hzH.out] at hZ ⊢; rw [hNH.out] at hZ ⊢; have hZH := Lib.hid hZ; have hb1H := Lib.hid hb1; clear hZ hb1)
    | (go_at_call 66; go_loud (refine (sort_own g N d w.heap.size zs _ hZH.out hNH.out (by omega) hb1H.out.size).mono ?_); rintro e w2 ⟨rfl, hZ2, hb2⟩; rw [hsH.out] at hZ2; have hZ2H := Lib.hid hZ2; have hb2H := Lib.hid (hb1H.out.trans hb2); clear hZ2 hb2)
    | (go_at_call 85; go_loud (refine (compact_own g N d w.heap.size ss _ hZ2H.out hsN.out (by omega) hb2H.out.size).mono ?_); rintro e w3 ⟨rfl, hZ3, hb3⟩; rw [hvH.out] at hZ3 ⊢; have hZ3H := Lib.hid hZ3; have hb3H := Lib.hid (hb2H.out.trans hb3); clear hZ3 hb3))
  go_ret
  exact ⟨g, d, rfl, hZ3H.out.iz.1, hZ3H.out.iz.2, hb3H.out⟩
end Go.Proofs.Yteiipfajoikfpaa

/- Walk of Worst. -/
namespace Go.Proofs.Yteiipfajoikfpaa
open Go Go.RowKit Go.Proofs

def FirstS (A : Nat → Nat → Bool) (n : Nat) (w : World) (e : Ending) (w' : World) : Prop :=
  ∃ (l : List Nat) (g o c : Nat), First A n l ∧ e = .returned (.slice (some ⟨g, o, none⟩) n c) ∧ n ≤ c ∧ IZ w' (some ⟨g, o, none⟩) (nz l) ∧ Below w.heap.size w w'
theorem first_some (A : Nat → Nat → Bool) (n g : Nat) (lb : Array Value) (w : World) (hn : n ≤ 1000) (hn1 : 1 ≤ n) (hA : AllowAt g lb A n w) (eg : ∀ args w, (callFunc g args).run Try.prog w = .ok (.enter g args) w) (h : ∃ p, Pr n p ∧ Ok A p) :
    Calls Try.prog 50 #[.int .i64 (n : Nat), .func (.func g) #[] lb] w (FirstS A n w) :=
  (first_anyJ A n g lb w hn hn1 hA eg).mono fun e w' h' => h'.resolve_left fun h2 => h2.1 h
theorem first_none (A : Nat → Nat → Bool) (n g : Nat) (lb : Array Value) (w : World) (hn : n ≤ 1000) (hn1 : 1 ≤ n) (hA : AllowAt g lb A n w) (eg : ∀ args w, (callFunc g args).run Try.prog w = .ok (.enter g args) w) (h : ¬ ∃ p, Pr n p ∧ Ok A p) :
    Calls Try.prog 50 #[.int .i64 (n : Nat), .func (.func g) #[] lb] w (fun e w' => e = .returned (.slice none 0 0) ∧ Below w.heap.size w w') :=
  (first_anyJ A n g lb w hn hn1 hA eg).mono fun e w' h' => h'.elim (fun h2 => h2.2) fun ⟨l, _, _, _, h3, _⟩ => absurd ⟨l, h3.pr, h3.ok⟩ h
theorem eg_upTo : ∀ args w, (callFunc 83 args).run Try.prog w = .ok (.enter 83 args) w := enters_of Try.func83 (by kernel_rfl) rfl
/-- What Worst returns of valid costs. -/
def WorstPost (C : List (List Int)) (n : Nat) (w : World) (e : Ending) (w' : World) : Prop :=
  ∃ (l : List Nat) (g o c : Nat) (v : Int), Best (byI (mxP C)) (allN n) l ∧ mxP C l = v ∧ e = .returned (.tuple #[.slice (some ⟨g, o, none⟩) n c, .int .i64 v, .int .i64 0]) ∧ n ≤ c ∧ IZ w' (some ⟨g, o, none⟩) (nz l) ∧ Below w.heap.size w w'
theorem worst_bad (ao : Option Addr) (c n : Nat) (C : List (List Int)) (w : World) (h : IMx w ao C) (hn : C.length = n) (hm : n ≤ 9223372036854775807) (hb : costsB C = false) :
    Calls Try.prog 30 #[.slice ao n c] w (fun e w' => e = .returned (.tuple #[.slice none 0 0, .int .i64 0, .int .i64 1]) ∧ Below w.heap.size w w') := by
  have hH := Lib.hid h
  have hnH := Lib.hid hn
  have hbH := Lib.hid hb
  clear h hn hb
  go_enter Try.func30, Try.ntmps30
  go_wp2_with (go_at_call 48; (with_reducible refine (valid_any ao c n C false _ hH.out hnH.out hm hbH.out).mono ?_); rintro e w1 ⟨rfl, rfl⟩)
  go_ret3
  exact ⟨rfl, Below.refl _ _⟩
set_option maxRecDepth 100000 in
set_option maxHeartbeats 6400000 in
theorem worst_good (ao : Option Addr) (c n : Nat) (C : List (List Int)) (w : World) (h : IMx w ao C) (hg : goodC C) (hn : C.length = n) :
    Calls Try.prog 30 #[.slice ao n c] w (WorstPost C n w) := by
  have hn8 : n ≤ 8 := by rw [← hn]; exact hg.2.1
  have hn1 : 1 ≤ n := by rw [← hn]; exact hg.1
  obtain ⟨vs, hvs⟩ : ∃ vs, valsL C = vs := ⟨_, rfl⟩
  obtain ⟨m, hm⟩ : ∃ m, vs.length = m := ⟨_, rfl⟩
  have hv := Lib.hid (hvs ▸ vals_L hg hn : Vals C n vs)
  have hb := Lib.hid (show costsB C = true from decide_eq_true hg)
  have hmb : m ≤ 64 := by
    rw [← hm, ← hvs]
    refine Nat.le_trans (Lib.compact_length_le _) ?_
    rw [List.length_mergeSort, flat_len (n := n) (fun xs hx => by rw [(hg.2.2 xs hx).1, hn]), hn]
    exact Nat.le_trans (Nat.mul_le_mul hn8 hn8) (by omega)
  have hH := Lib.hid h
  have hgH := Lib.hid hg
  have hnH := Lib.hid hn
  have hvsH := Lib.hid hvs
  have hmH := Lib.hid hm
  have egH := Lib.hid eg_upTo
  have q0 := neq_nil0
  have q1 := neq_nil1
  clear h hg hn hvs hm
  go_enter Try.func30, Try.ntmps30
  go_wp2_with (first
    | (go_at_call 48; (with_reducible refine (valid_any ao c n C true _ hH.out hnH.out (by omega) hb.out).mono ?_); rintro e w1 ⟨rfl, rfl⟩)
    | (go_at_call 61; go_loud (refine (sorted_any ao c n C vs _ hH.out hgH.out hnH.out hvsH.out).mono ?_); rintro e w1 ⟨gv, dv, rfl, hI1, hd1, hb1⟩; rw [hmH.out]; have hI1H := Lib.hid hI1; have hb1H := Lib.hid hb1; clear hI1 hd1 hb1))
  go_loopw [14] (fun iv wr => ∃ k : Nat, iv = .int .i64 (k : Nat) ∧ k ≤ m ∧ (∀ u ∈ vs.take k, ¬ ∃ p, Pr n p ∧ Ok (upA C u) p) ∧ Below w1.heap.size w1 wr) (fun iv _ => m - (intOf iv).toNat)
  case atStart => exact ⟨0, rfl, by omega, by simp, Below.refl _ _⟩
  case round =>
    obtain ⟨k, rfl, hk, hno, hbl⟩ := hrel
    have hnoH := Lib.hid hno
    clear hno
    by_cases hkm : k < m
    · obtain ⟨b1, o1, hae, e1⟩ := (hI1H.out.below hbl).at (i := k) (by rw [hmH.out]; exact hkm)
      injection hae with hae
      injection hae with h1 h2
      subst h1 h2
      rw [Nat.zero_add] at e1
      obtain ⟨u, hu⟩ : ∃ u, at0 vs k = u := ⟨_, rfl⟩
      rw [hu] at e1
      have ht := Lib.hid (take_at0 vs (k := k) (by rw [hmH.out]; exact hkm))
      have huH := Lib.hid hu
      have hMr := Lib.hid (hH.out.below (bseqJ hb1H.out hbl))
      have hblH := Lib.hid hbl
      have hkI : (k : Int) < (m : Int) := by omega
      have hk0 : (0 : Int) ≤ (k : Int) := by omega
      clear hu hbl
      by_cases hex : ∃ p, Pr n p ∧ Ok (upA C u) p
      · have hexH := Lib.hid hex
        clear hex
        go_wp2_with (first
          | (go_at_call 60; go_loud (refine (upTo_any ao c n u _).mono ?_); rintro e w2 ⟨rfl, hb2, c1, c2⟩; have hAl := Lib.hid (upTo_at ao c n wr.heap.size (wr.heap.size + 1) C u w2 (hMr.out.below hb2) hgH.out hnH.out c1 c2); have hb2H := Lib.hid hb2; clear hb2 c1 c2)
          | (go_at_call 50; go_loud (refine (first_some (upA C u) n 83 #[ptr wr.heap.size, ptr (wr.heap.size + 1)] _ (by omega) hn1 hAl.out egH.out hexH.out).mono ?_); rintro e w3 ⟨l, g3, o3, c3, hl, rfl, hc3, hI3, hb3⟩; have hlH := Lib.hid hl; have hI3H := Lib.hid hI3; have hb3H := Lib.hid hb3; clear hl hI3 hb3))
        go_ret3
        obtain ⟨hB, hmx⟩ := worst_best hv.out hn1 hlH.out (fun x hx hlt => by
          refine hnoH.out x ?_
          obtain ⟨i, hi⟩ := List.mem_iff_getElem?.1 hx
          have hi' := (List.getElem?_eq_some_iff.1 hi).1
          have hki : i < k := by
            refine Nat.lt_of_not_le fun hle => ?_
            have h1 : at0 vs i = x := at0_of hi
            rcases Nat.lt_or_eq_of_le hle with h2 | h2
            · have h3 := List.pairwise_iff_getElem.1 hv.out.rise k i (by omega) hi' h2
              have h4 := huH.out
              rw [at0_of (List.getElem?_eq_getElem (by omega : k < vs.length))] at h4
              rw [at0_of (List.getElem?_eq_getElem hi')] at h1
              omega
            · subst h2
              have h4 := huH.out
              omega
          refine List.mem_of_getElem? (i := i) ?_
          rw [List.getElem?_take, if_pos hki]; exact hi)
        exact ⟨l, g3, o3, c3, u, hB, hmx, rfl, hc3, hI3H.out, bseqJ hb1H.out (bseqJ hblH.out (bseqJ hb2H.out hb3H.out))⟩
      · have hexH := Lib.hid hex
        clear hex
        go_wp2_with (first
          | (go_at_call 60; go_loud (refine (upTo_any ao c n u _).mono ?_); rintro e w2 ⟨rfl, hb2, c1, c2⟩; have hAl := Lib.hid (upTo_at ao c n wr.heap.size (wr.heap.size + 1) C u w2 (hMr.out.below hb2) hgH.out hnH.out c1 c2); have hb2H := Lib.hid hb2; clear hb2 c1 c2)
          | (go_at_call 50; go_loud (refine (first_none (upA C u) n 83 #[ptr wr.heap.size, ptr (wr.heap.size + 1)] _ (by omega) hn1 hAl.out egH.out hexH.out).mono ?_); rintro e w3 ⟨rfl, hb3⟩; have hb3H := Lib.hid hb3; clear hb3))
        go_roundw
        case rel => exact ⟨k + 1, by go_num, by omega, by rw [ht.out, huH.out]; intro x hx; rcases List.mem_append.1 hx with h | h; exact hnoH.out x h; rw [List.mem_singleton.1 h]; exact hexH.out, bseqJ hblH.out (bseqJ hb2H.out hb3H.out)⟩
        case measure => simp [intOf]; omega
    · have hke : k = m := by omega
      subst hke
      obtain ⟨v, hvm, hex⟩ := worst_some hv.out hn1
      have h1 := hnoH.out v (by rw [List.take_of_length_le (by rw [hmH.out]; exact Nat.le_refl _)]; exact hvm)
      exact absurd hex h1
end Go.Proofs.Yteiipfajoikfpaa
