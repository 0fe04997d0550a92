/- Few Light -/
import Derived.Test.YtcaeonpjokkjnaaGreatQWn
import Derived.Test.YtcaeonpjokkjnaaGreatQWl
set_option linter.unusedVariables false
/- Walks of the laws' own helpers: num, few. -/
namespace Go.Proofs.YtcaeonpjokkjnaaGreat
open Go Go.RowKit Go.Proofs

/-- A text cut to 40 bytes; the first texts, each cut. -/
def cut40 (s : ByteArray) : ByteArray := if s.size ≤ 40 then s else s.extract 0 40
def fewL (xs : List ByteArray) (n : Nat) : List ByteArray := (xs.take n).map cut40
theorem cut40_size (s : ByteArray) : (cut40 s).size ≤ 40 := by
  unfold cut40
  split
  · assumption
  · rw [ByteArray.size_extract]; omega

def RetTxt (w : World) (s : ByteArray) (e : Ending) (w' : World) : Prop := e = .returned (.string s) ∧ w' = w

set_option maxHeartbeats 800000 in
theorem num_any (s : ByteArray) (w : World) (hs : s.size ≤ 9223372036854775807) : Calls Tryz.prog 18 #[.string s] w (RetTxt w (cut40 s)) := by
  by_cases h : s.size ≤ 40
  · have hm : min (s.size : Int) 40 = s.size := by omega
    have hc : Hid (cut40 s = s) := by show _ = _; unfold cut40; rw [if_pos h]
    have he : s.extract 0 s.size = s := ByteArray.extract_zero_size
    go_enter Tryz.func18, Tryz.ntmps18
    go_wp2_with (fail)
    go_ret
    exact ⟨by rw [hc.out]; first | rfl | (rw [he]; rfl), rfl⟩
  · have hm : min (s.size : Int) 40 = 40 := by omega
    have hc : Hid (cut40 s = s.extract 0 40) := by show _ = _; unfold cut40; rw [if_neg h]
    have h40 : (40 : Int) ≤ s.size := by omega
    have h40' : 40 ≤ s.size := by omega
    go_enter Tryz.func18, Tryz.ntmps18
    go_wp2_with (fail)
    go_ret
    exact ⟨by rw [hc.out]; rfl, rfl⟩

theorem SV.lit0 (w : World) (base : Nat) (hb : base ≤ w.heap.size) : SV (w.alloc (.cells #[] 34)) base (.slice (some ⟨w.heap.size, 0, none⟩) 0 0) [] := by
  refine ⟨World.ownsRow_lit (base := base) (size := 1) (e := 34) w #[] 0 hb (by unfold maxLen; omega) rfl, fun g hg => ?_⟩
  simp [Value.ownBlock] at hg
  subst hg
  exact noInt_cells (heap_alloc_new w _) (fun u hu => by simp at hu)

theorem fewL_next (xs : List ByteArray) (n k : Nat) (s : ByteArray) (hk : k < n) (h : xs[k]? = some s) : (fewL xs n).take k ++ [cut40 s] = (fewL xs n).take (k + 1) := by
  rw [List.take_add_one]
  unfold fewL
  rw [List.getElem?_map, List.getElem?_take, if_pos hk, h]; rfl

def RetTxts (w : World) (ss : List ByteArray) (e : Ending) (w' : World) : Prop := ∃ ao c, e = .returned (.slice ao ss.length c) ∧ SV w' w.heap.size (.slice ao ss.length c) ss ∧ Below w.heap.size w w'

set_option maxRecDepth 100000 in
set_option maxHeartbeats 1600000 in
theorem few_any (ao : Option Addr) (c l n : Nat) (xs : List ByteArray) (w : World) (hl : xs.length = l) (h : SL w ao xs) (hl1 : l ≤ 9223372036854775807) (hn : n ≤ 1000000) (hs : ∀ s ∈ xs, s.size ≤ 9223372036854775807) :
    Calls Tryz.prog 10 #[.slice ao l c, .int .i64 (n : Nat)] w (RetTxts w (fewL xs n)) := by
  have hH := Lib.hid h
  have hlH := Lib.hid hl
  have hsH := Lib.hid hs
  have hfl : Hid ((fewL xs n).length = min n l) := by show _ = _; unfold fewL; rw [List.length_map, List.length_take, hl]
  clear h hl hs
  go_enter Tryz.func10, Tryz.ntmps10
  go_wp2_with (fail)
  go_loopw [5, 6] (fun b i wr => ∃ k, i = .int .i64 (k : Nat) ∧ k ≤ min n l ∧ SV wr w.heap.size b ((fewL xs n).take k) ∧ Below w.heap.size w wr) (fun _ i _ => min n l - (intOf i).toNat)
  case atStart => exact ⟨0, rfl, by omega, SV.lit0 _ _ (Nat.le_refl _), (Below.refl _ _).alloc (Nat.le_refl _) _⟩
  case round =>
    obtain ⟨k, rfl, hk, hV, hbl⟩ := hrel
    obtain ⟨ab, cb, hbv⟩ := hV.shape
    subst hbv
    have htl : ((fewL xs n).take k).length = k := by rw [List.length_take, hfl.out]; omega
    have htlH := Lib.hid htl
    rw [htl] at hV ⊢
    have hVH := Lib.hid hV
    have hblH := Lib.hid hbl
    have hbs := hbl.size
    clear hV htl
    by_cases hkn : k < min n l
    · obtain ⟨s, hs⟩ : ∃ s, xs[k]? = some s := ⟨_, List.getElem?_eq_getElem (by rw [hlH.out]; omega)⟩
      obtain ⟨b, o, rfl, e0⟩ := (hH.out.below hbl) k s hs
      have hnx := Lib.hid (fewL_next xs n k s (by omega) hs)
      have hss := Lib.hid (hsH.out s (List.mem_of_getElem? hs))
      have hk1 : (k : Int) < l := by omega
      have hk2 : (k : Int) < n := by omega
      clear hs hbl
      go_wp2_with (first
        | (go_at_call 18; go_loud (with_reducible refine (num_any s _ hss.out).mono ?_); rintro e w3 ⟨rfl, rfl⟩)
        | (at_builtin; go_loud (refine wpList_append_num _ rfl (.tmp 19) (.tmp 25) _ rfl Tryz.underlying22 w.heap.size k (.slice ab k cb) ((fewL xs n).take k) (cut40 s) rfl (hVH.out.below ((Below.refl _ _).alloc (Nat.le_refl _) _)) htlH.out _ rfl (by omega) (by simp; omega) (by simp [go_sem]) ?_); intro v' w4 hv4 hg4; rw [hnx.out] at hv4; have hb5 := Lib.hid ((hblH.out.alloc hbs _).grown hg4 (by simp; omega) (fun g hg => (hVH.out.lt g hg).1)); clear hg4))
      go_roundw
      case rel => exact ⟨k + 1, by go_num, by omega, hv4, hb5.out⟩
      case measure => simp [intOf]; omega
    · have hke : k = min n l := by omega
      have hfull : (fewL xs n).take k = fewL xs n := List.take_of_length_le (by rw [hfl.out]; omega)
      have hfH := Lib.hid hfull
      have hkl : Hid ((fewL xs n).length = k) := by show _ = _; rw [hfl.out]; exact hke.symm
      clear hfull
      by_cases h1 : k < l
      · have h2 : ¬ (k : Int) < n := by omega
        have h1' : (k : Int) < l := by omega
        clear hke
        go_wp2
        go_ret
        refine ⟨ab, cb, by rw [hkl.out]; rfl, ?_, hblH.out⟩
        rw [hkl.out, ← hfH.out]
        exact hVH.out
      · have h1' : ¬ (k : Int) < l := by omega
        clear hke
        go_wp2
        go_ret
        refine ⟨ab, cb, by rw [hkl.out]; rfl, ?_, hblH.out⟩
        rw [hkl.out, ← hfH.out]
        exact hVH.out

end Go.Proofs.YtcaeonpjokkjnaaGreat

/- Walks of the laws' own helpers: light. -/
namespace Go.Proofs.YtcaeonpjokkjnaaGreat
open Go Go.RowKit Go.Proofs

/-- Can the reference compute so many periods quickly? -/
def lightOne (s : ByteArray) (n : Int) : Prop := (8 < n → shortOK s 2 = true) ∧ (24 < n → shortOK s 1 = true)
instance (s : ByteArray) (n : Int) : Decidable (lightOne s n) := by unfold lightOne; exact inferInstance
def lightB (ss : List ByteArray) (n : Int) : Bool := decide (∀ s ∈ ss, lightOne s n)

theorem short_2 (s : ByteArray) (b : Bool) (w : World) (hs : s.size ≤ 4611686018427387904) (hb : shortOK s 2 = b) : Calls Tryz.prog 47 #[.string s, .int .i64 2] w (RetBool w b) := by subst hb; exact short_any s 2 w hs (by omega)
theorem short_1 (s : ByteArray) (b : Bool) (w : World) (hs : s.size ≤ 4611686018427387904) (hb : shortOK s 1 = b) : Calls Tryz.prog 47 #[.string s, .int .i64 1] w (RetBool w b) := by subst hb; exact short_any s 1 w hs (by omega)

set_option maxRecDepth 100000 in
set_option maxHeartbeats 1600000 in
theorem light_any (ao : Option Addr) (c l : Nat) (n : Int) (xs : List ByteArray) (w : World) (hl : xs.length = l) (h : SL w ao xs) (hl1 : l ≤ 1000000000) (hs : ∀ s ∈ xs, s.size ≤ 4611686018427387904) :
    Calls Tryz.prog 12 #[.slice ao l c, .int .i64 n] w (RetBool w (lightB xs n)) := by
  have hH := Lib.hid h
  have hlH := Lib.hid hl
  have hsH := Lib.hid hs
  clear h hl hs
  go_enter Tryz.func12, Tryz.ntmps12
  go_wp2_with (fail)
  go_loopw [5] (fun i wr => ∃ k, i = .int .i64 (k : Nat) ∧ k ≤ l ∧ (∀ (j : Nat) (s : ByteArray), j < k → xs[j]? = some s → lightOne s n) ∧ Below w.heap.size w wr) (fun i _ => l - (intOf i).toNat)
  case atStart => exact ⟨0, rfl, by omega, fun j _ hj => absurd hj (by omega), Below.refl _ _⟩
  case round =>
    obtain ⟨k, rfl, hk, hall, hbl⟩ := hrel
    have hallH := Lib.hid hall
    have hblH := Lib.hid hbl
    clear hall
    by_cases hkn : k < l
    · obtain ⟨s, hs⟩ : ∃ s, xs[k]? = some s := ⟨_, List.getElem?_eq_getElem (by rw [hlH.out]; omega)⟩
      obtain ⟨b, o, rfl, e0⟩ := (hH.out.below hbl) k s hs
      have hss := Lib.hid (hsH.out s (List.mem_of_getElem? hs))
      have hsH2 := Lib.hid hs
      have hk1 : (k : Int) < l := by omega
      have hno : Hid (¬ lightOne s n → lightB xs n = false) := fun h => decide_eq_false fun h' => h (h' s (List.mem_of_getElem? hs))
      have hyes : Hid (lightOne s n → ∀ (j : Nat) (t : ByteArray), j < k + 1 → xs[j]? = some t → lightOne t n) := fun h j t hj ht => by
        by_cases e : j = k
        · subst e; have h9 := hsH2.out; rw [ht] at h9; injection h9 with h9; subst h9; exact h
        · exact hallH.out j t (by omega) ht
      clear hs hbl
      by_cases g8 : 8 < n
      · cases h2 : shortOK s 2
        · have h2H := Lib.hid h2
          clear h2
          go_wp2_with (first | (go_at_call 47; (with_reducible refine (short_2 s _ _ hss.out h2H.out).mono ?_); rintro e w6 ⟨rfl, hb6⟩; have e6 := Below.cellAt hb6 (Nat.le_refl _) e0))
          go_ret
          exact ⟨by rw [hno.out (fun h => by have := h.1 g8; rw [h2H.out] at this; cases this)]; rfl, bseqZ hblH.out hb6⟩
        · have h2H := Lib.hid h2
          clear h2
          by_cases g24 : 24 < n
          · cases h1 : shortOK s 1
            · have h1H := Lib.hid h1
              clear h1
              go_wp2_with (first | (go_at_call 47; (with_reducible refine (short_2 s _ _ hss.out h2H.out).mono ?_); rintro e w6 ⟨rfl, hb6⟩; have e6 := Below.cellAt hb6 (Nat.le_refl _) e0) | (go_at_call 47; (with_reducible refine (short_1 s _ _ hss.out h1H.out).mono ?_); rintro e w7 ⟨rfl, hb7⟩))
              go_ret
              exact ⟨by rw [hno.out (fun h => by have := h.2 g24; rw [h1H.out] at this; cases this)]; rfl, bseqZ (bseqZ hblH.out hb6) hb7⟩
            · have h1H := Lib.hid h1
              clear h1
              go_wp2_with (first | (go_at_call 47; (with_reducible refine (short_2 s _ _ hss.out h2H.out).mono ?_); rintro e w6 ⟨rfl, hb6⟩; have e6 := Below.cellAt hb6 (Nat.le_refl _) e0) | (go_at_call 47; (with_reducible refine (short_1 s _ _ hss.out h1H.out).mono ?_); rintro e w7 ⟨rfl, hb7⟩))
              go_roundw
              case rel => exact ⟨k + 1, by go_num, by omega, hyes.out (⟨fun _ => h2H.out, fun _ => h1H.out⟩), bseqZ (bseqZ hblH.out hb6) hb7⟩
              case measure => simp [intOf]; omega
          · have g24b : ¬ (24 : Int) < n := g24
            go_wp2_with (first | (go_at_call 47; (with_reducible refine (short_2 s _ _ hss.out h2H.out).mono ?_); rintro e w6 ⟨rfl, hb6⟩; have e6 := Below.cellAt hb6 (Nat.le_refl _) e0))
            go_roundw
            case rel => exact ⟨k + 1, by go_num, by omega, hyes.out (⟨fun _ => h2H.out, fun h => absurd h (by omega)⟩), bseqZ hblH.out hb6⟩
            case measure => simp [intOf]; omega
      · have g24 : ¬ 24 < n := by omega
        go_wp2
        go_roundw
        case rel => exact ⟨k + 1, by go_num, by omega, hyes.out (⟨fun h => absurd h (by omega), fun h => absurd h (by omega)⟩), hblH.out⟩
        case measure => simp [intOf]; omega
    · have hk1 : ¬ (k : Int) < l := by omega
      have hres : Hid (lightB xs n = true) := decide_eq_true fun s hs => by
        obtain ⟨i, hi, he⟩ := List.getElem_of_mem hs
        exact hallH.out i s (by rw [hlH.out] at hi; omega) (by rw [List.getElem?_eq_getElem hi, he])
      go_wp2
      go_ret
      exact ⟨by rw [hres.out]; rfl, hblH.out⟩

end Go.Proofs.YtcaeonpjokkjnaaGreat
