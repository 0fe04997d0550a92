/- Gb Ga Gc Gd -/
import Derived.Test.YtkecdjdggkpdpaaQPe
import Derived.Lib.AppendZeros
import Derived.Lib.RowBridge
import Derived.Test.YtkecdjdggkpdpaaQPd
set_option linter.unusedVariables false
/- Walks of slices.Grow (of nil), slices.Concat, sorted. -/
namespace Go.Proofs.Ytkecdjdggkpdpaa
open Go Go.RowKit Go.Proofs Go.Sort

theorem compact_rise {zs : List Int} (hs : zs.Pairwise (· ≤ ·)) : ∀ m, m ≤ zs.length → (Lib.compactUpTo zs.toArray m).Pairwise (· < ·) ∧ (∀ x, x ∈ Lib.compactUpTo zs.toArray m ↔ x ∈ zs.take m) := by
  have hat : ∀ j, j < zs.length → zs.toArray[j]! = at0 zs j := fun j hj => by
    unfold at0
    rw [getElem!_pos zs.toArray j (by simpa using hj), List.getElem?_eq_getElem hj]
    rfl
  have hle : ∀ i j, i < j → j < zs.length → at0 zs i ≤ at0 zs j := fun i j hij hj => by
    have := List.pairwise_iff_getElem.1 hs i j (by omega) hj hij
    rw [at0_of (List.getElem?_eq_getElem (by omega : i < zs.length)), at0_of (List.getElem?_eq_getElem hj)]
    exact this
  have htake : ∀ m, m < zs.length → zs.take (m + 1) = zs.take m ++ [at0 zs m] := fun m hm => by
    rw [List.take_succ_eq_append_getElem hm, at0_of (List.getElem?_eq_getElem hm)]
  have hmt : ∀ m, m ≤ zs.length → ∀ x ∈ zs.take m, ∃ i, i < m ∧ at0 zs i = x := fun m hm x hx => by
    obtain ⟨i, hi⟩ := List.mem_iff_getElem?.1 hx
    rw [List.getElem?_take] at hi
    split at hi
    · exact ⟨i, by assumption, at0_of hi⟩
    · cases hi
  intro m
  induction m with
  | zero => intro _; simp [Lib.compactUpTo]
  | succ m ih =>
    intro hm
    obtain ⟨h1, h2⟩ := ih (by omega)
    rw [Lib.compactUpTo_succ]
    by_cases hk : Lib.keeps zs.toArray m = true
    · rw [if_pos hk, hat m (by omega), htake m (by omega)]
      refine ⟨?_, fun x => by rw [List.mem_append, List.mem_append, h2]⟩
      rw [List.pairwise_append]
      refine ⟨h1, by simp, fun a ha b hb => ?_⟩
      rw [List.mem_singleton] at hb
      subst hb
      obtain ⟨i, hi, rfl⟩ := hmt m (by omega) a ((h2 a).1 ha)
      have hne : at0 zs (m - 1) ≠ at0 zs m := fun e => by
        have : Lib.keeps zs.toArray m = false := Lib.keeps_neg (by omega) (by rw [hat m (by omega), hat (m - 1) (by omega)]; exact e.symm)
        rw [this] at hk; cases hk
      have h3 := hle (m - 1) m (by omega) (by omega)
      rcases Nat.lt_or_eq_of_le (show i ≤ m - 1 by omega) with h | h
      · have := hle i (m - 1) h (by omega); omega
      · subst h; omega
    · rw [if_neg hk, List.append_nil, htake m (by omega)]
      have hm0 : m ≠ 0 := fun e => hk (by subst e; exact Lib.keeps_lt_one _ 0 (by omega))
      have he : at0 zs m = at0 zs (m - 1) := Classical.byContradiction fun hne => hk (Lib.keeps_pos (by rw [hat m (by omega), hat (m - 1) (by omega)]; exact hne))
      refine ⟨h1, fun x => ?_⟩
      rw [h2, List.mem_append, List.mem_singleton]
      refine ⟨.inl, fun h => h.elim id fun e => ?_⟩
      subst e
      rw [he]
      refine List.mem_of_getElem? (i := m - 1) ?_
      rw [List.getElem?_take, if_pos (by omega)]
      exact at0_get (by omega)
/-- All costs, in order, each once. -/
def valsL (C : List (List Int)) : List Int := Lib.compact (C.flatten.mergeSort fun x y => decide (x ≤ y))
theorem flat_mem {C : List (List Int)} (hg : goodC C) {n : Nat} (hn : C.length = n) (v : Int) : v ∈ C.flatten ↔ ∃ i j, i < n ∧ j < n ∧ cst C i j = v := by
  rw [List.mem_flatten]
  constructor
  · rintro ⟨xs, hxs, hv⟩
    obtain ⟨i, hi⟩ := List.mem_iff_getElem?.1 hxs
    obtain ⟨j, hj⟩ := List.mem_iff_getElem?.1 hv
    refine ⟨i, j, by rw [← hn]; exact (List.getElem?_eq_some_iff.1 hi).1, by rw [← hn, ← (hg.2.2 xs hxs).1]; exact (List.getElem?_eq_some_iff.1 hj).1, ?_⟩
    unfold cst
    rw [hi]
    exact at0_of hj
  · rintro ⟨i, j, hi, hj, rfl⟩
    obtain ⟨xs, hxs⟩ : ∃ xs, C[i]? = some xs := ⟨_, List.getElem?_eq_getElem (by omega)⟩
    have hm := List.mem_of_getElem? hxs
    refine ⟨xs, hm, ?_⟩
    unfold cst
    rw [hxs]
    exact mem_at0 (n := n) (by rw [(hg.2.2 xs hm).1, hn]) hj
theorem vals_L {C : List (List Int)} (hg : goodC C) {n : Nat} (hn : C.length = n) : Vals C n (valsL C) := by
  have hs : (C.flatten.mergeSort fun x y => decide (x ≤ y)).Pairwise (· ≤ ·) := by
    have := List.pairwise_mergeSort (le := fun x y : Int => decide (x ≤ y)) (fun a b c h1 h2 => by simp at *; omega) (fun a b => by simp; omega) C.flatten
    exact this.imp fun h => by simpa using h
  obtain ⟨h1, h2⟩ := compact_rise hs _ (Nat.le_refl _)
  refine ⟨h1, fun v => ?_⟩
  rw [← flat_mem hg hn v]
  refine (h2 v).trans ?_
  rw [List.take_length, List.mem_mergeSort]
theorem flat_len {C : List (List Int)} {n : Nat} (h : ∀ xs ∈ C, xs.length = n) : C.flatten.length = C.length * n := by
  induction C with
  | nil => simp
  | cons a C ih =>
    rw [List.flatten_cons, List.length_append, ih (fun xs hx => h xs (by simp [hx])), h a (by simp), List.length_cons, Nat.succ_mul]
    omega

/-- A row of the call's own is put anew. -/
theorem ZI.put {w : World} {base n c g : Nat} {zs : List Int} (h : ZI w base (.slice (some ⟨g, 0, none⟩) n c) zs) (ys : List Int) (hy : ys.length = zs.length) (q : Nat) (os : Array Obj) (B : Nat) (hB : B ≤ base) (hBw : B ≤ w.heap.size) :
    ZI (grow (putRow (Value.int .i64) (Sort.ahead w q) g 0 ys.toArray) os) base (.slice (some ⟨g, 0, none⟩) n c) ys ∧ Below B w (grow (putRow (Value.int .i64) (Sort.ahead w q) g 0 ys.toArray) os) := by
  have hn : n = zs.length := by obtain ⟨a, c', e⟩ := h.shape; injection e
  rcases h.2 with ⟨h1, _⟩ | ⟨g', cap', cur, hv, h1, hg, h3, h4, h5, h6⟩
  · injection h1 with e1; cases e1
  · injection hv with e1 e2 e3
    injection e1 with e1
    injection e1 with e1
    subst e1 e3
    have hglt := (Array.getElem?_eq_some_iff.1 hg).1
    have hheap : (grow (putRow (Value.int .i64) (Sort.ahead w q) g 0 ys.toArray) os).heap[g]? = some (.cells (putCells (Value.int .i64) 0 ys.toArray cur) 3 (0, 0)) := by
      rw [heap_grow_old _ _ (by simp [putRow, mapBlock, Sort.ahead]; exact hglt)]
      simp only [putRow, mapBlock, Array.getElem?_modify, if_true]
      have : (Sort.ahead w q).heap[g]? = some (.cells cur 3 (0, 0)) := hg
      rw [this]
      rfl
    refine ⟨⟨by simp, .inr ⟨g, c, _, by rw [hy, ← hn], h1, hheap, by rw [hy]; omega, h4, by rw [← h5]; simp [putCells], ?_⟩⟩, ⟨rfl, rfl, rfl, by simp [putRow, mapBlock, Sort.ahead], fun k hk => ?_⟩⟩
    · refine List.ext_getElem? fun i => ?_
      rw [List.getElem?_take, List.getElem?_map]
      by_cases hi : i < ys.length
      · have hic : i < cur.size := by rw [h5]; omega
        rw [if_pos (by omega), List.getElem?_eq_getElem hi]
        simp only [putCells, Array.getElem?_toList, Array.getElem?_mapIdx, Array.getElem?_eq_getElem hic, Option.map_some]
        rw [if_pos ⟨by omega, by simpa using hi⟩]
        simp [hi]
      · rw [if_neg (by omega), List.getElem?_eq_none (by omega)]; rfl
    · rw [heap_grow_old _ _ (by simp [putRow, mapBlock, Sort.ahead]; omega)]
      simp only [putRow, mapBlock, Array.getElem?_modify]
      rw [if_neg (by omega)]
      rfl
theorem ZI.holds {w : World} {base n c g : Nat} {zs : List Int} (h : ZI w base (.slice (some ⟨g, 0, none⟩) n c) zs) : Holds (Value.int .i64) w g 0 zs.toArray ∧ g < w.heap.size := by
  refine ⟨fun j hj => ?_, (h.lt g rfl).2⟩
  have hj' : j < zs.length := by simpa using hj
  obtain ⟨b, o, e, hc⟩ := h.iz.1.at hj'
  injection e with e
  injection e with e1 e2
  subst e1 e2
  refine ⟨?_, ?_⟩
  · rw [hc, getElem!_pos zs.toArray j hj]
    rw [at0_of (List.getElem?_eq_getElem hj')]
    rfl
  · rcases h.2 with ⟨h1, _⟩ | ⟨g', cap', cur, hv, h1, hg, _⟩
    · injection h1 with e1; cases e1
    · injection hv with e1 e2 e3
      injection e1 with e1
      injection e1 with e1
      subst e1
      simp [World.frozen?, hg]
def OwnPost (w : World) (zs : List Int) (e : Ending) (w' : World) : Prop := ∃ g c, e = .returned (.slice (some ⟨g, 0, none⟩) zs.length c) ∧ ZI w' w.heap.size (.slice (some ⟨g, 0, none⟩) zs.length c) zs ∧ Below w.heap.size w w'
end Go.Proofs.Ytkecdjdggkpdpaa

/- Walk of valid. -/
namespace Go.Proofs.Ytkecdjdggkpdpaa
open Go Go.RowKit Go.Proofs

theorem foldl_min (l : List Int) : ∀ a : Int, l.foldl min a ≤ a ∧ (∀ x ∈ l, l.foldl min a ≤ x) ∧ (l.foldl min a = a ∨ l.foldl min a ∈ l) := by
  induction l with
  | nil => intro a; simp
  | cons b l ih =>
    intro a
    obtain ⟨h1, h2, h3⟩ := ih (min a b)
    rw [List.foldl_cons]
    refine ⟨by omega, fun x hx => ?_, ?_⟩
    · rcases List.mem_cons.1 hx with rfl | hx
      · omega
      · exact h2 x hx
    · rcases h3 with h3 | h3
      · rw [h3]
        rcases Int.le_total a b with h | h
        · left; omega
        · right; rw [show min a b = b by omega]; simp
      · right; simp [h3]
theorem foldl_max (l : List Int) : ∀ a : Int, a ≤ l.foldl max a ∧ (∀ x ∈ l, x ≤ l.foldl max a) ∧ (l.foldl max a = a ∨ l.foldl max a ∈ l) := by
  induction l with
  | nil => intro a; simp
  | cons b l ih =>
    intro a
    obtain ⟨h1, h2, h3⟩ := ih (max a b)
    rw [List.foldl_cons]
    refine ⟨by omega, fun x hx => ?_, ?_⟩
    · rcases List.mem_cons.1 hx with rfl | hx
      · omega
      · exact h2 x hx
    · rcases h3 with h3 | h3
      · rw [h3]
        rcases Int.le_total a b with h | h
        · right; rw [show max a b = b by omega]; simp
        · left; omega
      · right; simp [h3]
theorem minOf_spec {l : List Int} (h : l ≠ []) : (∀ x ∈ l, Lib.minOf l ≤ x) ∧ Lib.minOf l ∈ l := by
  obtain ⟨a, t, rfl⟩ := List.exists_cons_of_ne_nil h
  obtain ⟨h1, h2, h3⟩ := foldl_min (a :: t) a
  refine ⟨h2, ?_⟩
  rcases h3 with h3 | h3
  · show List.foldl min a (a :: t) ∈ _
    rw [h3]; simp
  · exact h3
theorem maxOf_spec {l : List Int} (h : l ≠ []) : (∀ x ∈ l, x ≤ Lib.maxOf l) ∧ Lib.maxOf l ∈ l := by
  obtain ⟨a, t, rfl⟩ := List.exists_cons_of_ne_nil h
  obtain ⟨h1, h2, h3⟩ := foldl_max (a :: t) a
  refine ⟨h2, ?_⟩
  rcases h3 with h3 | h3
  · show List.foldl max a (a :: t) ∈ _
    rw [h3]; simp
  · exact h3
theorem iz_cells {w : World} {b o : Nat} {xs : List Int} (h : IZ w (some ⟨b, o, none⟩) xs) : ∀ j, j < xs.length → w.cell? ⟨b, o + j, none⟩ = some (.int .i64 (xs.getD j 0)) := fun j hj => by
  obtain ⟨b', o', e, hc⟩ := h.at hj
  injection e with e
  injection e with e1 e2
  subst e1 e2
  rw [hc]
  unfold at0
  rw [List.getD_eq_getElem?_getD]
theorem take_lastC {α : Type} {L : List α} {k : Nat} {q : α} (h : L[k]? = some q) : L.take (k + 1) = L.take k ++ [q] := by
  have hk : k < L.length := (List.getElem?_eq_some_iff.1 h).1
  rw [List.take_succ_eq_append_getElem hk]
  rw [List.getElem?_eq_getElem hk] at h
  injection h with h
  rw [h]
theorem min_any (b o n c : Nat) (xs : List Int) (m : Int) (w : World) (h : IZ w (some ⟨b, o, none⟩) xs) (hn : xs.length = n) (h0 : 0 < n) (hm : n ≤ 9223372036854775807) (hb : Lib.minOf xs = m) :
    Calls Try.prog 23 #[.slice (some ⟨b, o, none⟩) n c] w (fun e w' => e = .returned (.int .i64 m) ∧ w = w') := by
  refine (Try.slices_Min_int b o n c xs w h0 (by omega) hm (iz_cells h)).mono fun e w' ⟨h1, h2⟩ => ⟨?_, h2.symm⟩
  rw [h1, List.take_of_length_le (by omega), hb]
theorem max_any (b o n c : Nat) (xs : List Int) (m : Int) (w : World) (h : IZ w (some ⟨b, o, none⟩) xs) (hn : xs.length = n) (h0 : 0 < n) (hm : n ≤ 9223372036854775807) (hb : Lib.maxOf xs = m) :
    Calls Try.prog 24 #[.slice (some ⟨b, o, none⟩) n c] w (fun e w' => e = .returned (.int .i64 m) ∧ w = w') := by
  refine (Try.slices_Max_int b o n c xs w h0 (by omega) hm (iz_cells h)).mono fun e w' ⟨h1, h2⟩ => ⟨?_, h2.symm⟩
  rw [h1, List.take_of_length_le (by omega), hb]
set_option maxRecDepth 100000 in
set_option maxHeartbeats 3200000 in
theorem valid_any (ao : Option Addr) (c n : Nat) (C : List (List Int)) (b : Bool) (w : World) (h : IMx w ao C) (hn : C.length = n) (hm : n ≤ 9223372036854775807) (hb : costsB C = b) :
    Calls Try.prog 14 #[.slice ao n c] w (fun e w' => e = .returned (.bool b) ∧ w = w') := by
  have hbH := Lib.hid hb
  have hnH := Lib.hid hn
  have hH := Lib.hid h
  clear hb hn h
  by_cases h1 : n < 1
  · have g1 : decide ((n : Int) < 1) = true := by simp; omega
    go_enter Try.func14, Try.ntmps14
    go_wp2
    go_ret
    exact ⟨ret_boolJ (by rw [← hbH.out]; exact (decide_eq_false fun hg => by have := hg.1; rw [hnH.out] at this; omega).symm), rfl⟩
  have g1 : decide ((n : Int) < 1) = false := by simp; omega
  by_cases h2 : 8 < n
  · have g2 : decide ((8 : Int) < (n : Int)) = true := by simp; omega
    go_enter Try.func14, Try.ntmps14
    go_wp2
    go_ret
    exact ⟨ret_boolJ (by rw [← hbH.out]; exact (decide_eq_false fun hg => by have := hg.2.1; rw [hnH.out] at this; omega).symm), rfl⟩
  have g2 : decide ((8 : Int) < (n : Int)) = false := by simp; omega
  go_enter Try.func14, Try.ntmps14
  go_wp2
  go_loop [15] (fun i => ∃ k : Nat, i = .int .i64 (k : Nat) ∧ k ≤ n ∧ ∀ xs ∈ C.take k, xs.length = n ∧ ∀ x ∈ xs, 0 ≤ x ∧ x ≤ 1000) (fun i => n - (intOf i).toNat)
  case atStart => exact ⟨0, rfl, by omega, by simp⟩
  case round =>
    obtain ⟨k, rfl, hk, hok⟩ := hrel
    have hokH := Lib.hid hok
    clear hok
    by_cases hkn : k < n
    · obtain ⟨xs, hxs⟩ : ∃ xs, C[k]? = some xs := ⟨_, List.getElem?_eq_getElem (by rw [hnH.out]; exact hkn)⟩
      obtain ⟨b1, o1, a1, c1, rfl, hc, hlc, hz⟩ := hH.out.row hxs
      have ht := Lib.hid (take_lastC hxs)
      have hmem := Lib.hid (List.mem_of_getElem? hxs)
      obtain ⟨l, hl⟩ : ∃ l, xs.length = l := ⟨_, rfl⟩
      rw [hl] at hc hlc
      have hlH := Lib.hid hl
      by_cases hln : l = n
      · subst hln
        obtain ⟨g, o2, rfl, _⟩ := hz.at (i := 0) (by omega)
        have hzH := Lib.hid hz
        have hne : xs ≠ [] := fun e => by rw [e] at hl; simp at hl; omega
        obtain ⟨m, hm1⟩ : ∃ m, Lib.minOf xs = m := ⟨_, rfl⟩
        obtain ⟨M, hM1⟩ : ∃ m, Lib.maxOf xs = m := ⟨_, rfl⟩
        have hms := Lib.hid (minOf_spec hne)
        have hMs := Lib.hid (maxOf_spec hne)
        rw [hm1] at hms
        rw [hM1] at hMs
        have hmH := Lib.hid hm1
        have hMH := Lib.hid hM1
        have e1 : ((l : Int) != (l : Int)) = false := by simp
        have hl0 : 0 < l := by omega
        clear hxs hz hl hne hm1 hM1
        by_cases hm0 : m < 0
        · have e2 : decide (m < 0) = true := by simpa using hm0
          go_wp2_with (go_at_call 23; (with_reducible refine (min_any g o2 l c1 xs m _ hzH.out hlH.out hl0 hm hmH.out).mono ?_); rintro e w1 ⟨rfl, rfl⟩)
          go_ret
          exact ⟨ret_boolJ (by rw [← hbH.out]; exact (decide_eq_false fun hg => by have := ((hg.2.2 xs hmem.out).2 m hms.out.2).1; omega).symm), rfl⟩
        · have e2 : decide (m < 0) = false := by simpa using hm0
          by_cases hM0 : 1000 < M
          · have e3 : decide (1000 < M) = true := by simpa using hM0
            go_wp2_with (first
              | (go_at_call 23; (with_reducible refine (min_any g o2 l c1 xs m _ hzH.out hlH.out hl0 hm hmH.out).mono ?_); rintro e w1 ⟨rfl, rfl⟩)
              | (go_at_call 24; (with_reducible refine (max_any g o2 l c1 xs M _ hzH.out hlH.out hl0 hm hMH.out).mono ?_); rintro e w1 ⟨rfl, rfl⟩))
            go_ret
            exact ⟨ret_boolJ (by rw [← hbH.out]; exact (decide_eq_false fun hg => by have := ((hg.2.2 xs hmem.out).2 M hMs.out.2).2; omega).symm), rfl⟩
          · have e3 : decide (1000 < M) = false := by simpa using hM0
            go_wp2_with (first
              | (go_at_call 23; (with_reducible refine (min_any g o2 l c1 xs m _ hzH.out hlH.out hl0 hm hmH.out).mono ?_); rintro e w1 ⟨rfl, rfl⟩)
              | (go_at_call 24; (with_reducible refine (max_any g o2 l c1 xs M _ hzH.out hlH.out hl0 hm hMH.out).mono ?_); rintro e w1 ⟨rfl, rfl⟩))
            go_round
            case rel => exact ⟨k + 1, by go_num, by omega, by
              rw [ht.out]
              intro y hy
              rcases List.mem_append.1 hy with h | h
              · exact hokH.out y h
              · rw [List.mem_singleton.1 h]
                exact ⟨hlH.out, fun x hx => ⟨by have := hms.out.1 x hx; omega, by have := hMs.out.1 x hx; omega⟩⟩⟩
            case measure => simp [intOf]; omega
      · have e1 : ((l : Int) != (n : Int)) = true := by simp; omega
        clear hxs hz hl
        go_wp2
        go_ret
        exact ⟨ret_boolJ (by rw [← hbH.out]; exact (decide_eq_false fun hg => hln (by have := (hg.2.2 xs hmem.out).1; rw [hlH.out, hnH.out] at this; exact this)).symm), rfl⟩
    · have hke : k = n := by omega
      subst hke
      go_wp2
      go_ret
      refine ⟨ret_boolJ ?_, rfl⟩
      rw [← hbH.out]
      have h3 := hokH.out
      rw [List.take_of_length_le (by rw [hnH.out]; exact Nat.le_refl _)] at h3
      exact (decide_eq_true (show goodC C from ⟨by rw [hnH.out]; omega, by rw [hnH.out]; omega, by rw [hnH.out]; exact h3⟩)).symm
end Go.Proofs.Ytkecdjdggkpdpaa

/- Walks of sorted, Worst. -/
namespace Go.Proofs.Ytkecdjdggkpdpaa
open Go Go.RowKit Go.Proofs Go.Sort

def RetIZ (w : World) (xs : List Int) (e : Ending) (w' : World) : Prop := ∃ g c, e = .returned (.slice (some ⟨g, 0, none⟩) xs.length c) ∧ IZ w' (some ⟨g, 0, none⟩) xs ∧ xs.length ≤ c ∧ Below w.heap.size w w'
end Go.Proofs.Ytkecdjdggkpdpaa

/- Walk of Worst. -/
namespace Go.Proofs.Ytkecdjdggkpdpaa
open Go Go.RowKit Go.Proofs

def FirstS (A : Nat → Nat → Bool) (n : Nat) (w : World) (e : Ending) (w' : World) : Prop :=
  ∃ (l : List Nat) (g o c : Nat), First A n l ∧ e = .returned (.slice (some ⟨g, o, none⟩) n c) ∧ n ≤ c ∧ IZ w' (some ⟨g, o, none⟩) (nz l) ∧ Below w.heap.size w w'
theorem first_some (A : Nat → Nat → Bool) (n g : Nat) (lb : Array Value) (w : World) (hn : n ≤ 1000) (hn1 : 1 ≤ n) (hA : AllowAt g lb A n w) (eg : ∀ args w, (callFunc g args).run Try.prog w = .ok (.enter g args) w) (h : ∃ p, Pr n p ∧ Ok A p) :
    Calls Try.prog 16 #[.int .i64 (n : Nat), .func (.func g) #[] lb] w (FirstS A n w) :=
  (first_anyJ A n g lb w hn hn1 hA eg).mono fun e w' h' => h'.resolve_left fun h2 => h2.1 h
theorem first_none (A : Nat → Nat → Bool) (n g : Nat) (lb : Array Value) (w : World) (hn : n ≤ 1000) (hn1 : 1 ≤ n) (hA : AllowAt g lb A n w) (eg : ∀ args w, (callFunc g args).run Try.prog w = .ok (.enter g args) w) (h : ¬ ∃ p, Pr n p ∧ Ok A p) :
    Calls Try.prog 16 #[.int .i64 (n : Nat), .func (.func g) #[] lb] w (fun e w' => e = .returned (.slice none 0 0) ∧ Below w.heap.size w w') :=
  (first_anyJ A n g lb w hn hn1 hA eg).mono fun e w' h' => h'.elim (fun h2 => h2.2) fun ⟨l, _, _, _, h3, _⟩ => absurd ⟨l, h3.pr, h3.ok⟩ h
/-- What Worst returns of valid costs. -/
def WorstPost (C : List (List Int)) (n : Nat) (w : World) (e : Ending) (w' : World) : Prop :=
  ∃ (l : List Nat) (g o c : Nat) (v : Int), Best (byI (mxP C)) (allN n) l ∧ mxP C l = v ∧ e = .returned (.tuple #[.slice (some ⟨g, o, none⟩) n c, .int .i64 v, .int .i64 0]) ∧ n ≤ c ∧ IZ w' (some ⟨g, o, none⟩) (nz l) ∧ Below w.heap.size w w'
end Go.Proofs.Ytkecdjdggkpdpaa
