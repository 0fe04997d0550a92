/- Ha -/
import Derived.Test.YtbehfhmdilifkaaGreatQTa
import Derived.Test.YtbehfhmdilifkaaGreatQTd
import Derived.Test.YtbehfhmdilifkaaGreatQWe
import Derived.Test.YtbehfhmdilifkaaGreatQTj
import Derived.Shelf.Strings.Repeat
set_option linter.unusedVariables false
/- Walk of Beats. -/
namespace Go.Proofs.YtbehfhmdilifkaaGreat
open Go Go.RowKit Go.Proofs

/-- A row of bytes that may be written. -/
structure BB (W : World) (g : Nat) (xs : List Nat) : Prop where
  c : ∀ i x, xs[i]? = some x → W.cell? ⟨g, i, none⟩ = some (.int .u8 (x : Nat))
  f : ∀ i, i < xs.length → W.frozen? ⟨g, i, none⟩ = false
theorem BB.set {W : World} {g i x : Nat} {xs : List Nat} (h : BB W g xs) (hi : i < xs.length) : BB (W.setCell ⟨g, i, none⟩ (.int .u8 (x : Nat))) g (xs.set i x) := by
  refine ⟨fun k y hy => ?_, fun k hk => by rw [World.frozen?_setCell]; exact h.f k (by simpa using hk)⟩
  by_cases hki : i = k
  · subst hki
    rw [List.getElem?_set_self hi] at hy
    injection hy with hy
    subst hy
    exact World.cell?_setCell_same _ _ _ (h.c i _ (List.getElem?_eq_getElem hi))
  · rw [List.getElem?_set_ne hki] at hy
    rw [World.cell?_setCell_other _ _ _ _ (show (⟨g, i, none⟩ : Addr) ≠ ⟨g, k, none⟩ from fun e => hki (by injection e))]
    exact h.c k y hy
theorem BB.drew {W : World} {g : Nat} {xs : List Nat} (h : BB W g xs) : BB W.drew g xs := ⟨h.c, h.f⟩
theorem BB.below {W W' : World} {g : Nat} {xs : List Nat} (h : BB W g xs) (hg : g < W.heap.size) (hb : Below W.heap.size W W') : BB W' g xs := by
  have e : W'.heap[g]? = W.heap[g]? := hb.block g hg
  exact ⟨fun i x hx => by rw [World.cell?_of_block (w := W) (a := ⟨g, i, none⟩) e]; exact h.c i x hx, fun i hi => by rw [World.frozen?_of_block (w := W) (a := ⟨g, i, none⟩) e]; exact h.f i hi⟩
theorem BB.text {w : World} {g cap n : Nat} {xs : List Nat} (h : BB w g xs) (hl : xs.length = n) (hx : ∀ x ∈ xs, x < 256) :
    (convert 95 9 (.slice (some ⟨g, 0, none⟩) n cap)).run Tryz.prog w = .ok (.string ⟨(xs.map UInt8.ofNat).toArray⟩) w := by
  have := run_convert_bytes_back (P := Tryz.prog) w 95 9 5 ⟨g, 0, none⟩ cap (xs.map UInt8.ofNat) Tryz.underlying95 Tryz.underlying5 Tryz.underlying9 (fun j hj => by
    simp at hj
    rw [Addr.add_lit, Nat.zero_add, h.c j _ (List.getElem?_eq_getElem hj)]
    have := hx _ (List.getElem_mem hj)
    simp
    omega)
  rw [List.length_map, hl] at this
  exact this
/-- The world behind the bytes of a string. -/
def rowW (w : World) (s : ByteArray) : World := w.drew.alloc (.cells (bytesRow s (grownCap w s.size 0 5)) 5 ((bytesRow s (grownCap w s.size 0 5)).size, (bytesRow s (grownCap w s.size 0 5)).size + 1))
theorem rowW_run (w : World) (s : ByteArray) : (convert 9 95 (.string s)).run Tryz.prog w = .ok (.slice (some ⟨w.heap.size, 0, none⟩) s.size (grownCap w s.size 0 5)) (rowW w s) :=
  run_bytes_of_string w 9 95 5 s Tryz.underlying9 Tryz.underlying95 Tryz.underlying5
theorem rowW_below (w : World) (s : ByteArray) : Below w.heap.size w (rowW w s) := below_al (Below.drew (Below.refl _ _)) _
theorem rowW_bb (w : World) (s : ByteArray) : BB (rowW w s) w.heap.size (s.data.toList.map (·.toNat)) := by
  obtain ⟨R, hR⟩ : ∃ R, bytesRow s (grownCap w s.size 0 5) = R := ⟨_, rfl⟩
  have hRs : s.data.size ≤ R.size := by rw [← hR]; simp [bytesRow]
  have hRc : ∀ i (hi : i < s.data.size), R[i]? = some (.int .u8 (s.data[i].toNat : Nat)) := fun i hi => by
    rw [← hR]
    have hi2 : i < s.size := hi
    simp [bytesRow, Array.getElem?_append, hi2]
  have hb : (rowW w s).heap[w.heap.size]? = some (.cells R 5 (R.size, R.size + 1)) := by
    rw [← hR]
    exact World.alloc_heap_new w.drew _
  refine ⟨fun i x hx => ?_, fun i hi => ?_⟩
  · have hi : i < s.data.size := by
      have := (List.getElem?_eq_some_iff.1 hx).1
      simpa using this
    have hx2 : s.data[i].toNat = x := by
      rw [List.getElem?_map] at hx
      simp at hx
      obtain ⟨a, ha, he⟩ := hx
      rw [Array.getElem?_eq_getElem hi] at ha
      injection ha with ha
      rw [ha]; exact he
    rw [World.cell?]
    simp only [hb]
    rw [hRc i hi, hx2]
    simp
  · have hi' : i < s.data.size := by simpa using hi
    rw [World.frozen?]
    simp only [hb]
    simp
    omega
/-- n bytes 'a'. -/
theorem rep_bytes (n : Nat) : (ByteArray.mk (Lib.repeatL [97] n).toArray).data.toList.map (·.toNat) = List.replicate n 97 ∧ (ByteArray.mk (Lib.repeatL [97] n).toArray).size = n := by
  have h : Lib.repeatL [97] n = List.replicate n 97 := by
    have := Lib.repeatL_replicate 97 1 n
    rw [Nat.mul_one] at this
    exact this
  refine ⟨?_, ?_⟩
  · rw [h]; simp
  · show (Lib.repeatL [97] n).toArray.size = n
    rw [h]; simp
theorem pbL_lt (d n K : Nat) : ∀ x ∈ pbL d n K, x < 256 := fun x hx => by
  unfold pbL at hx
  obtain ⟨p, _, rfl⟩ := List.mem_map.1 hx
  split <;> omega
def btS (d n : Nat) : ByteArray := ⟨((btL d n).map UInt8.ofNat).toArray⟩
def BeatsPost (s : ByteArray) (er : Int) (w : World) (e : Ending) (w' : World) : Prop := e = .returned (.tuple #[.string s, .int .i64 er]) ∧ Below w.heap.size w w'
section
attribute [local go_sem] undef
theorem beatsP_bad (d n : Int) (w : World) (h : d < 2 ∨ 1000 < d ∨ n < 0 ∨ 1000 < n) :
    Calls Tryz.prog 25 #[.int .i64 d, .int .i64 n] w (BeatsPost ⟨#[]⟩ 1 w) := by
  by_cases h1 : d < 2
  · have d1 : decide (d < 2) = true := decide_eq_true h1
    clear h
    go_enter Tryz.func25, Tryz.ntmps25
    go_wp2_with (fail)
    go_ret2
    exact ⟨rfl, Below.refl _ _⟩
  have d1 : decide (d < 2) = false := decide_eq_false h1
  by_cases h2 : 1000 < d
  · have d2 : decide (1000 < d) = true := decide_eq_true h2
    clear h
    go_enter Tryz.func25, Tryz.ntmps25
    go_wp2_with (fail)
    go_ret2
    exact ⟨rfl, Below.refl _ _⟩
  have d2 : decide (1000 < d) = false := decide_eq_false h2
  by_cases h3 : n < 0
  · have d3 : decide (n < 0) = true := decide_eq_true h3
    clear h
    go_enter Tryz.func25, Tryz.ntmps25
    go_wp2_with (fail)
    go_ret2
    exact ⟨rfl, Below.refl _ _⟩
  have d3 : decide (n < 0) = false := decide_eq_false h3
  have h4 : 1000 < n := by omega
  have d4 : decide (1000 < n) = true := decide_eq_true h4
  clear h
  go_enter Tryz.func25, Tryz.ntmps25
  go_wp2_with (fail)
  go_ret2
  exact ⟨rfl, Below.refl _ _⟩
end
theorem beatsP_sq (d n : Nat) (w : World) (h2 : 2 ≤ d) (h3 : d ≤ 1000) (hn : n ≤ 1000) (h : sqB d = true) :
    Calls Tryz.prog 25 #[.int .i64 (d : Nat), .int .i64 (n : Nat)] w (BeatsPost ⟨#[]⟩ 5 w) := by
  obtain ⟨r, hr⟩ : ∃ r, fl d = r := ⟨_, rfl⟩
  have hs := Lib.hid (hr ▸ fl_sq d : Sq r d)
  have hnn : r * r = d := by have := of_decide_eq_true h; rw [hr] at this; exact this
  have hnI := mulN hnn
  have hrl : r ≤ 31 := by rw [← hr, fl_small h2 h3]; exact sq32_le d
  have d1 : decide ((d : Int) < 2) = false := decide_eq_false (by omega)
  have d2 : decide ((1000 : Int) < (d : Int)) = false := decide_eq_false (by omega)
  have d3 : decide (d < 2) = false := decide_eq_false (by omega)
  have d4 : decide (1000 < d) = false := decide_eq_false (by omega)
  have d5 : decide ((n : Int) < 0) = false := decide_eq_false (by omega)
  have d6 : decide ((1000 : Int) < (n : Int)) = false := decide_eq_false (by omega)
  have d8 : decide (1000 < n) = false := decide_eq_false (by omega)
  have d9 : ((d : Int) == (d : Int)) = true := by simp
  clear h hr hnn
  go_enter Tryz.func25, Tryz.ntmps25
  go_wp2_with (go_at_call 21; go_loud (with_reducible refine (below_at d r _ (by omega) hs.out).mono ?_); rintro e w1 ⟨rfl, rfl⟩)
  go_ret2
  exact ⟨rfl, Below.refl _ _⟩
set_option maxRecDepth 100000 in
set_option maxHeartbeats 3200000 in
theorem beatsP_good (d n : Nat) (w : World) (h2 : 2 ≤ d) (h3 : d ≤ 1000) (hn : n ≤ 1000) (h : sqB d = false) :
    Calls Tryz.prog 25 #[.int .i64 (d : Nat), .int .i64 (n : Nat)] w (BeatsPost (btS d n) 0 w) := by
  obtain ⟨r, hr⟩ : ∃ r, fl d = r := ⟨_, rfl⟩
  have hs := Lib.hid (hr ▸ fl_sq d : Sq r d)
  have hnq : ¬ fl d * fl d = d := of_decide_eq_false h
  obtain ⟨S, hS⟩ : ∃ S, r * r = S := ⟨_, rfl⟩
  have hSI := mulN hS
  have hSd : S ≠ d := by rw [← hS, ← hr]; exact hnq
  have hrl : r ≤ 31 := by rw [← hr, fl_small h2 h3]; exact sq32_le d
  have hSl : S ≤ 961 := by rw [← hS]; exact Nat.le_trans (Nat.mul_le_mul hrl hrl) (by decide)
  have d1 : decide ((d : Int) < 2) = false := decide_eq_false (by omega)
  have d2 : decide ((1000 : Int) < (d : Int)) = false := decide_eq_false (by omega)
  have d3 : decide (d < 2) = false := decide_eq_false (by omega)
  have d4 : decide (1000 < d) = false := decide_eq_false (by omega)
  have d5 : decide ((n : Int) < 0) = false := decide_eq_false (by omega)
  have d6 : decide ((1000 : Int) < (n : Int)) = false := decide_eq_false (by omega)
  have d8 : decide (1000 < n) = false := decide_eq_false (by omega)
  have d9 : ((S : Int) == (d : Int)) = false := by simp; omega
  have hq := Lib.hid hnq
  obtain ⟨hr1, hr2⟩ := rep_bytes n
  obtain ⟨s, hsd⟩ : ∃ s : ByteArray, ByteArray.mk (Lib.repeatL [97] n).toArray = s := ⟨_, rfl⟩
  rw [hsd] at hr1 hr2
  have hr1H := Lib.hid hr1
  have hrep : Hid (∀ W, Calls Tryz.prog 54 #[.string ⟨#[97]⟩, .int .i64 (n : Nat)] W (fun e w' => e = .returned (.string s) ∧ Below W.heap.size W w')) := fun W => by
    rw [← hsd]
    exact Tryz.strings_Repeat ⟨#[97]⟩ n W (by omega) (by show 1 * n ≤ _; omega)
  have hcv := fun W => rowW_run W s
  rw [hr2] at hcv
  clear h hr hnq hS hsd hr1
  go_enter Tryz.func25, Tryz.ntmps25
  go_upto_region 7 with (first
    | (go_at_call 21; go_loud (with_reducible refine (below_at d r _ (by omega) hs.out).mono ?_); rintro e w1 ⟨rfl, rfl⟩)
    | (go_at_call 54; go_loud (with_reducible refine (hrep.out _).mono ?_); rintro e w1 ⟨rfl, hb1⟩; have hb1H := Lib.hid hb1; clear hb1))
  obtain ⟨W0, hW0⟩ : ∃ W0, W0 = rowW w1 s := ⟨_, rfl⟩
  rw [← hW0]
  obtain ⟨cap, hcap⟩ : ∃ cap, grownCap w1 n 0 5 = cap := ⟨_, rfl⟩
  rw [hcap]
  have hB0 : Hid (BB W0 w1.heap.size (pbL d n 0)) := by
    show BB _ _ _
    rw [pbL_zero, hW0, ← hr1H.out]; exact rowW_bb w1 s
  have hb0 : Hid (Below w.heap.size w W0) := by show Below _ _ _; rw [hW0]; exact bseqT hb1H.out (rowW_below w1 s)
  obtain ⟨g, hg⟩ : ∃ g, w1.heap.size = g := ⟨_, rfl⟩
  rw [hg] at hB0 ⊢
  have hgs : w.heap.size ≤ g := by rw [← hg]; exact hb1H.out.size
  clear hW0 hcap hg hcv
  go_wp2_with (fail)
  go_loopg [8, 9] (n + 1) (fun gk kv bv wr => ∃ K : Nat, kv = .int .i64 ((K + 1 : Nat) : Int) ∧ K + gk = n + 1 ∧ K ≤ n ∧ BB wr g (pbL d n K) ∧ Below w.heap.size w wr)
  case atStart => exact ⟨0, rfl, by omega, by omega, hB0.out, hb0.out⟩
  case round =>
    clear hB0 hb0
    obtain ⟨K, rfl, hKg, hKn, hB, hbl⟩ := hrel
    have hBH := Lib.hid hB
    have hblH := Lib.hid hbl
    clear hB hbl
    obtain ⟨k, hk⟩ : ∃ k, K + 1 = k := ⟨_, rfl⟩
    rw [hk]
    obtain ⟨P, hP⟩ : ∃ P, k * k = P := ⟨_, rfl⟩
    have hPI := mulN hP
    have hPl : P ≤ 1002001 := by rw [← hP]; exact Nat.le_trans (Nat.mul_le_mul (show k ≤ 1001 by omega) (show k ≤ 1001 by omega)) (by decide)
    obtain ⟨Q, hQ⟩ : ∃ Q, P / d = Q := ⟨_, rfl⟩
    have hQl : Q ≤ 1002001 := by rw [← hQ]; exact Nat.le_trans (Nat.div_le_self _ _) hPl
    have e1 : ¬ (d : Int) = 0 := by omega
    have e2 : ((d : Int) == 0) = false := by simp; omega
    have t3 : (P : Int).tdiv (d : Int) = (Q : Int) := by rw [← hQ]; exact (Int.ofNat_tdiv P d).symm
    have t4 : (P : Int) / (d : Int) = (Q : Int) := by rw [← hQ]; exact (Int.natCast_ediv P d).symm
    obtain ⟨f, hf⟩ : ∃ f, fl Q = f := ⟨_, rfl⟩
    have hfs := Lib.hid (hf ▸ fl_sq Q : Sq f Q)
    have hfl : f ≤ 1002001 := by rw [← hf]; exact Nat.le_trans (fl_le Q) hQl
    obtain ⟨b, hb⟩ : ∃ b, k + f = b := ⟨_, rfl⟩
    have hbI : (k : Int) + (f : Int) = (b : Int) := by omega
    have hkl : k ≤ 1001 := by omega
    have hbl2 : b ≤ 2100000 := by omega
    have hbv : bv d (K + 1) = b := by unfold bv; rw [hk, hP, hQ, hf, hb]
    by_cases hbn : n < b
    · have hbnI : (n : Int) < (b : Int) := by omega
      have hdone := pbL_done (d := d) (n := n) (K := K) (by omega) hq.out (by rw [hbv]; exact hbn)
      have hcv := BB.text (cap := cap) hBH.out (pbL_length d n K) (pbL_lt d n K)
      rw [hdone] at hcv
      change (convert 95 9 (.slice (some ⟨g, 0, none⟩) n cap)).run Tryz.prog wr = .ok (.string (btS d n)) wr at hcv
      clear hk hP hQ hf hb hbv hdone
      go_wp2_with (go_at_call 21; go_loud (with_reducible refine (below_at Q f _ (by omega) hfs.out).mono ?_); rintro e w1 ⟨rfl, rfl⟩)
      go_ret2
      exact ⟨rfl, hblH.out⟩
    · have hbnI : ¬ (n : Int) < (b : Int) := by omega
      obtain ⟨j, hj⟩ : ∃ j, b - 1 = j := ⟨_, rfl⟩
      have hb1 : 1 ≤ b := by omega
      have hjI : (b : Int) - 1 = (j : Int) := by omega
      have hjn : j < n := by omega
      have hjnI : (j : Int) < (n : Int) := by omega
      have hj0 : (0 : Int) ≤ (j : Int) := by omega
      have hkn : K + 1 ≤ n := by omega
      have c1 := hBH.out.c j _ (List.getElem?_eq_getElem (by rw [pbL_length]; exact hjn))
      have f1 := hBH.out.f j (by rw [pbL_length]; exact hjn)
      have hset := hBH.out.set (i := j) (x := 98) (by rw [pbL_length]; exact hjn)
      rw [← hj, pbL_succ hbv (by omega), hj] at hset
      have hsetH := Lib.hid hset
      have hkH := Lib.hid hk
      clear hk hP hQ hf hb hbv hset hj
      go_wp2_with (go_at_call 21; go_loud (with_reducible refine (below_at Q f _ (by omega) hfs.out).mono ?_); rintro e w1 ⟨rfl, rfl⟩)
      go_roundg (n - K)
      case measure => omega
      case rel => exact ⟨K + 1, by have := hkH.out; go_num, by omega, hkn, hsetH.out, hblH.out.setCell (by exact hgs) _⟩
end Go.Proofs.YtbehfhmdilifkaaGreat
