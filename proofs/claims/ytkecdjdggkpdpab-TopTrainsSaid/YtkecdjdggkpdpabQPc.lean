/- Ju Jv -/
import Derived.Test.YtkecdjdggkpdpabQJm
import Derived.Test.YtkecdjdggkpdpabQJs
import Derived.Test.YtkecdjdggkpdpabQShelf
import Derived.Laws.CopyOwn
import Derived.StillTailTactics
set_option linter.unusedVariables false
/- Functions that say which pairs are allowed; the search from a row (match's closure). -/
namespace Go.Proofs.Ytkecdjdggkpdpab
open Go Go.RowKit Go.Proofs

/-- The function value says which pairs are allowed, in every world behind this one. -/
def AllowAt (g : Nat) (lb : Array Value) (A : Nat → Nat → Bool) (n : Nat) (w : World) : Prop :=
  ∀ (W : World) (i j : Nat) (b : Bool), A i j = b → Below w.heap.size w W → i < n → j < n → Calls Try.prog g (#[.int .i64 (i : Nat), .int .i64 (j : Nat)] ++ lb) W (fun e w' => e = .returned (.bool b) ∧ ∃ q, w' = W.drewN q)
theorem AllowAt.later {g : Nat} {lb : Array Value} {A : Nat → Nat → Bool} {n : Nat} {w W : World} (h : AllowAt g lb A n w) (hb : Below w.heap.size w W) : AllowAt g lb A n W :=
  fun W' i j b hA hb' hi hj => h W' i j b hA (hb.trans (hb'.mono hb.size)) hi hj

abbrev ptr (b : Nat) : Value := .pointer (some ⟨b, 0, none⟩)
theorem cell_far {w : World} {g j b o : Nat} {v : Value} (h : g ≠ b) : (w.setCell ⟨g, j, none⟩ v).cell? ⟨b, o, none⟩ = w.cell? ⟨b, o, none⟩ :=
  World.cell?_setCell_other _ _ _ _ (fun e => h (by injection e))
theorem Try.cntF {A : Nat → Nat → Bool} {n j i : Nat} {r : List Int} {s : List Bool} {b : Bool} {r' : List Int} {s' : List Bool} (h : Try A n j i r s b r' s') : s'.count false ≤ s.count false := by
  have hset : ∀ {s : List Bool} {j : Nat}, s[j]? = some false → (s.set j true).count false ≤ s.count false := fun {s j} hj => by
    have hjl := (List.getElem?_eq_some_iff.1 hj).1
    rw [List.count_set hjl]
    simp
  induction h with
  | stop => exact Nat.le_refl _
  | skip _ _ _ ih => exact ih
  | free _ _ hs _ => exact hset hs
  | yes _ _ hs _ _ ih => exact Nat.le_trans ih (hset hs)
  | no _ _ hs _ _ _ ih ih2 => exact Nat.le_trans ih2 (Nat.le_trans ih (hset hs))
/-- The rows of the columns are rows. -/
def RowsOk (n : Nat) (r : List Int) : Prop := ∀ v ∈ r, v < 0 ∨ ∃ k : Nat, v = (k : Int) ∧ k < n
/-- What is left to be searched. -/
def TryI (A : Nat → Nat → Bool) (n i j : Nat) (r : List Int) (s : List Bool) (rj : List Int) (sj : List Bool) : Prop := ∀ b r' s', Try A n j i rj sj b r' s' → Try A n 0 i r s b r' s'
end Go.Proofs.Ytkecdjdggkpdpab

/- Walks of slices.Repeat, match, whole. -/
namespace Go.Proofs.Ytkecdjdggkpdpab
open Go Go.RowKit Go.Proofs

theorem mul_one (n : Nat) (w : World) (hn : n ≤ 1000) : Calls Try.prog 62 #[.int .u64 1, .int .u64 (n : Nat)] w (fun e w' => e = .returned (.tuple #[.int .u64 0, .int .u64 (n : Nat)]) ∧ w = w') := by
  have h := Try.bits_Mul 1 n (by omega) (by omega) w
  have e1 : 1 * n / 18446744073709551616 = 0 := by omega
  have e2 : 1 * n % 18446744073709551616 = n := by omega
  rw [e1, e2] at h
  exact h.mono fun e w' ⟨h1, h2⟩ => ⟨h1, h2.symm⟩
def RetRep (w : World) (v : Int) (n : Nat) (e : Ending) (w' : World) : Prop := ∃ g, e = .returned (.slice (some ⟨g, 0, none⟩) n n) ∧ ZBlk w' g (List.replicate n v) ∧ Below w.heap.size w w' ∧ w.heap.size ≤ g ∧ g < w'.heap.size
theorem rep_splice (v : Int) {n m d : Nat} (h : m + d ≤ n) : splice ((List.replicate m v ++ List.replicate (n - m) 0).map fun x : Int => Value.int .i64 x) m ((List.replicate d v).map fun x : Int => Value.int .i64 x) = (List.replicate (m + d) v ++ List.replicate (n - (m + d)) 0).map fun x : Int => Value.int .i64 x := by
  unfold splice
  simp only [List.map_append, List.map_replicate, List.length_replicate]
  rw [List.take_append_of_le_length (by simp), List.take_of_length_le (by simp), List.drop_append, List.drop_of_length_le (by simp), List.nil_append, List.length_replicate, List.drop_replicate, ← List.append_assoc, List.replicate_append_replicate]
  congr 2
  omega
/-- The block while it is filled. -/
def RepB (w : World) (g : Nat) (v : Int) (n m : Nat) : Prop := w.heap[g]? = some (.cells ((List.replicate m v ++ List.replicate (n - m) 0).map fun x : Int => Value.int .i64 x).toArray 3 (0, 0))
theorem rep_len (v : Int) {n m : Nat} (h : m ≤ n) : ((List.replicate m v ++ List.replicate (n - m) 0).map fun x : Int => Value.int .i64 x).length = n := by simp; omega
theorem repb_zero (v : Int) {w : World} {g n : Nat} (h : Nblk .i64 w g 3 (List.replicate n 0)) : RepB w g v n 0 := by
  unfold RepB
  unfold Nblk Blk at h
  rw [h]
  simp
theorem rep_splice1 (v : Int) {n : Nat} (h : 1 ≤ n) : splice ((List.replicate 0 v ++ List.replicate (n - 0) 0).map fun x : Int => Value.int .i64 x) 0 [Value.int .i64 v] = (List.replicate 1 v ++ List.replicate (n - 1) 0).map fun x : Int => Value.int .i64 x := by
  have := rep_splice v (n := n) (m := 0) (d := 1) (by omega)
  rw [Nat.zero_add] at this
  exact this
theorem one_min {n : Nat} (h : 1 ≤ n) {v : Value} : [v].length = Nat.min 1 n := by
  show 1 = min 1 n; omega
theorem one_cell {v : Int} : ∀ u ∈ [Value.int .i64 v], u.oneCell' = true := fun u hu => by
  rw [List.mem_singleton] at hu; subst hu; rfl
theorem rep_one {v : Int} {d : Nat} : ∀ u ∈ ((List.replicate d v).map fun x : Int => Value.int .i64 x), u.oneCell' = true := fun u hu => by
  obtain ⟨y, _, rfl⟩ := List.mem_map.1 hu
  rfl
theorem info_size : (Try.prog.info? 3).map (·.size) = some 1 := by kernel_rfl
theorem repb_cell {w : World} {g : Nat} {v : Int} {n m : Nat} (h : RepB w g v n m) {j : Nat} (hj : j < m) : w.cell? ⟨g, j, none⟩ = some (.int .i64 v) := by
  rw [cell_of_row w g j _ 3 (0, 0) h]
  simp
  rw [List.getElem?_append_left (by simpa using hj), List.getElem?_replicate, if_pos hj]
set_option maxRecDepth 100000 in
set_option maxHeartbeats 3200000 in
theorem repeat_any (v : Int) (n g0 : Nat) (w : World) (hn : n ≤ 1000) (hn1 : 1 ≤ n) (hc : w.cell? ⟨g0, 0, none⟩ = some (.int .i64 v)) :
    Calls Try.prog 42 #[.slice (some ⟨g0, 0, none⟩) 1 1, .int .i64 (n : Nat)] w (RetRep w v n) := by
  have hcH := Lib.hid hc
  have h0 : decide ((n : Int) < 0) = false := by simp
  clear hc
  go_enter Try.func42, Try.ntmps42
  have hsrc : Hid (∀ w2, Below w.heap.size w w2 → ∀ (j : Nat) (u : Value), [Value.int .i64 v][j]? = some u → w2.cell? ((⟨g0, 0, none⟩ : Addr).add j) = some u) := fun w2 hb j u hj => by
    rcases j with _ | j
    · simp at hj; subst hj
      rw [Addr.add_lit]
      exact Below.cellAt hb (Nat.le_refl _) hcH.out
    · simp at hj
  go_wp2_with (first
    | (go_at_call 62; (with_reducible refine (mul_one n _ hn).mono ?_); rintro e w1 ⟨rfl, rfl⟩)
    | (at_make; go_loud (refine wpList_make_zero _ rfl (.tmp 29) _ rfl 3 .i64 8 Try.underlying25 info_intJ (by omega) .i64 (n : Nat) n (by rfl) rfl (by omega) ?_); intro w2 hN2 hb2; have hR2 := Lib.hid (repb_zero v hN2); have hb2H := Lib.hid hb2; clear hN2 hb2)
    | ((refine wpList_copy_splice rfl (.tmp 31) (.tmp 32) 25 25 rfl 3 Try.underlying25 info_size (some ⟨w.heap.size, 0, none⟩) (some ⟨g0, 0, none⟩) n n 1 1 (by rfl) (by rfl) w.heap.size 0 _ 3 hR2.out [.int .i64 v] (one_min hn1) (fun _ => ⟨rfl, _, rfl, hsrc.out _ hb2H.out⟩) (by rw [rep_len _ (by omega)]; simp; omega) one_cell w.heap.size w hb2H.out (Nat.le_refl _) ?_); intro w3 hR3 hb3; have hR3' := Lib.hid (show RepB w3 w.heap.size v n 1 by have := hR3.out; rwa [rep_splice1 v hn1] at this); have hb3H := Lib.hid hb3; clear hR3 hb3 hR2 hb2H))
  go_loopw [8] (fun m wr => ∃ k : Nat, m = .int .i64 (k : Nat) ∧ 1 ≤ k ∧ k ≤ n ∧ RepB wr w.heap.size v n k ∧ Below w.heap.size w wr) (fun m _ => n - (intOf m).toNat)
  case atStart => exact ⟨1, rfl, by omega, hn1, hR3'.out, hb3H.out⟩
  case round =>
    obtain ⟨k, rfl, hk1, hk, hR, hbl⟩ := hrel
    have hRH := Lib.hid hR
    have hblH := Lib.hid hbl
    clear hR3' hb3H
    by_cases hkn : k < n
    · obtain ⟨d, hd⟩ : ∃ d, min k (n - k) = d := ⟨_, rfl⟩
      have hd1 : k + d ≤ n := by omega
      have hd2 : 1 ≤ d := by omega
      have hdk : d ≤ k := by omega
      have hkI : (k : Int) < (n : Int) := by omega
      have hk0 : (0 : Int) ≤ (k : Int) := by omega
      have hkle : (k : Int) ≤ (n : Int) := by omega
      have hnk : ¬ n = k := by omega
      have hdH := Lib.hid hd
      have hw : IntKind.i64.wrap ((k : Int) + (d : Int)) = (k : Int) + (d : Int) := by rw [IntKind.wrap_i64]; omega
      have hsrc2 : Hid (∀ w2 : World, RepB w2 w.heap.size v n k → ∀ (j : Nat) (u : Value), ((List.replicate d v).map fun x : Int => Value.int .i64 x)[j]? = some u → w2.cell? ((⟨w.heap.size, 0, none⟩ : Addr).add j) = some u) := fun w2 hb j u hj => by
        rw [List.map_replicate, List.getElem?_replicate] at hj
        split at hj
        · injection hj with hj
          subst hj
          rw [Addr.add_lit, Nat.zero_add]
          exact repb_cell hb (by omega)
        · cases hj
      have hlenH : Hid (((List.replicate d v).map fun x : Int => Value.int .i64 x).length = d) := by show _ = _; simp
      clear hR hbl hd
      go_wp2_with (fail)
      go_region_held3 (fun w' => Below w.heap.size w w')
        (first | exact hblH.out.drew | exact hb4H.out)
        (((refine step_copy_splice rfl (.tmp 41) (.tmp 44) 25 25 rfl 3 Try.underlying25 info_size (some ⟨w.heap.size, k, none⟩) (some ⟨w.heap.size, 0, none⟩) (n - k) (n - k) k n (by rfl) (by rfl) w.heap.size k _ 3 hRH.out ((List.replicate d v).map fun x : Int => Value.int .i64 x) (by rw [hlenH.out, ← hdH.out]) (fun _ => ⟨rfl, _, rfl, hsrc2.out _ hRH.out⟩) (by rw [rep_len _ hk, hlenH.out]; omega) rep_one w.heap.size w hblH.out.drew (Nat.le_refl _) ?_); intro w4 hR4 hb4; have hR4' := Lib.hid (show RepB w4 w.heap.size v n (k + d) by have := hR4.out; rwa [rep_splice v hd1] at this); have hb4H := Lib.hid hb4; rw [hlenH.out]; clear hR4 hb4))
      clear hw
      go_wp2_with (fail)
      go_roundw
      case rel => exact ⟨k + d, by go_num, by omega, by omega, hR4'.out, hb4H.out⟩
      case measure => simp [intOf]; omega
    · have hke : k = n := by omega
      subst hke
      go_wp2_with (fail)
      go_ret
      refine ⟨w.heap.size, rfl, ?_, hblH.out, Nat.le_refl _, ?_⟩
      · have := hRH.out
        unfold RepB at this
        rw [Nat.sub_self, List.replicate_zero, List.append_nil] at this
        exact this
      · exact World.block_lt_of_cell? _ _ (repb_cell hRH.out (j := 0) (by omega))
end Go.Proofs.Ytkecdjdggkpdpab
