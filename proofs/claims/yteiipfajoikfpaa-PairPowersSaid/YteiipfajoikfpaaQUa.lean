/- Ua -/
import Derived.Test.YteiipfajoikfpaaQPd
set_option linter.unusedVariables false
/- Walks of the laws' own helpers: cut, few. -/
namespace Go.Proofs.Yteiipfajoikfpaa
open Go Go.RowKit Go.Proofs

/-- The first rows, each cut: at most 6, or 9 of more than 8. -/
def fewK (n : Nat) : Nat := if 8 < n then 9 else 6
def fewM (C : List (List Int)) : List (List Int) := (C.take (fewK C.length)).map fun r => r.take 9
theorem fewM_len (C : List (List Int)) : (fewM C).length = min (fewK C.length) C.length := by simp [fewM]
theorem fewM_small (C : List (List Int)) : (fewM C).length ≤ 9 := by
  rw [fewM_len]; unfold fewK; split <;> omega
theorem fewM_row {C : List (List Int)} {r : List Int} (h : r ∈ fewM C) : r.length ≤ 9 := by
  unfold fewM at h
  obtain ⟨x, _, rfl⟩ := List.mem_map.1 h
  rw [List.length_take]; omega
theorem fewM_next {C : List (List Int)} {k : Nat} {r : List Int} (hk : k < fewK C.length) (h : C[k]? = some r) : (fewM C).take k ++ [r.take 9] = (fewM C).take (k + 1) := by
  exact (take_last (by unfold fewM; rw [List.getElem?_map, List.getElem?_take, if_pos hk, h]; rfl)).symm

set_option maxRecDepth 100000 in
set_option maxHeartbeats 1600000 in
theorem cut_any (ao : Option Addr) (c n m : Nat) (xs : List Int) (w : World) (h : IZ w ao xs) (hn : xs.length = n) (hc : n ≤ c) (hm : n ≤ 9223372036854775807) (hm9 : m ≤ 9) :
    Calls Try.prog 36 #[.slice ao n c, .int .i64 (m : Nat)] w (RetZ w (xs.take m)) := by
  have hH := Lib.hid h
  have hI := Lib.hid (h.take m)
  by_cases hmn : m < n
  · have hl : Hid ((xs.take m).length = m) := by show _ = _; rw [List.length_take, hn]; omega
    have hmI : (m : Int) < (n : Int) := by omega
    have hmc : (m : Int) ≤ (c : Int) := by omega
    have hmc2 : m ≤ c := by omega
    rcases ao with _ | ⟨b, o, s⟩
    · exfalso
      obtain ⟨x, hx⟩ : ∃ x, xs[0]? = some x := ⟨_, List.getElem?_eq_getElem (by omega)⟩
      obtain ⟨b, o, hb, _⟩ := h 0 x hx
      cases hb
    · clear h hn
      go_enter Try.func36, Try.ntmps36
      go_wp2_with (first
        | (at_builtin; go_loud (refine wpList_append_ze _ rfl (.tmp 5) (.tmp 11) _ rfl Try.underlying24 w.heap.size 0 _ [] (by rfl) (ZE.lit _ _ _) rfl (some ⟨b, o, s⟩) m _ (xs.take m) (by rfl) (hI.out.below ((Below.refl _ _).alloc (Nat.le_refl _) _)) hl.out (by omega) (by omega) (by simp) ?_); intro v1 x1 hA1; rw [List.nil_append] at hA1; obtain ⟨a1, d1, hv1⟩ := hA1.1.shape; rw [hl.out] at hv1; subst hv1; have hZ1 := Lib.hid hA1.1.iz; have hb1 := Lib.hid (((Below.refl w.heap.size w).alloc (Nat.le_refl _) _).trans hA1.2.1); clear hA1))
      go_ret
      exact ⟨a1, d1, by rw [hl.out]; rfl, hZ1.out.1, by rw [hl.out]; exact hZ1.out.2, hb1.out⟩
  · have hl : Hid ((xs.take m).length = n) := by show _ = _; rw [List.length_take, hn]; omega
    have hmI : ¬ (m : Int) < (n : Int) := by omega
    have hmc : (n : Int) ≤ (c : Int) := by omega
    rcases ao with _ | ⟨b, o, s⟩
    · clear h hn
      go_enter Try.func36, Try.ntmps36
      go_wp2_with (first
        | (at_builtin; go_loud (refine wpList_append_ze _ rfl (.tmp 5) (.tmp 11) _ rfl Try.underlying24 w.heap.size 0 _ [] (by rfl) (ZE.lit _ _ _) rfl none n _ (xs.take m) (by rfl) (hI.out.below ((Below.refl _ _).alloc (Nat.le_refl _) _)) hl.out (by omega) (by omega) (by simp) ?_); intro v1 x1 hA1; rw [List.nil_append] at hA1; obtain ⟨a1, d1, hv1⟩ := hA1.1.shape; rw [hl.out] at hv1; subst hv1; have hZ1 := Lib.hid hA1.1.iz; have hb1 := Lib.hid (((Below.refl w.heap.size w).alloc (Nat.le_refl _) _).trans hA1.2.1); clear hA1))
      go_ret
      exact ⟨a1, d1, by rw [hl.out]; rfl, hZ1.out.1, by rw [hl.out]; exact hZ1.out.2, hb1.out⟩
    · clear h hn
      go_enter Try.func36, Try.ntmps36
      go_wp2_with (first
        | (at_builtin; go_loud (refine wpList_append_ze _ rfl (.tmp 5) (.tmp 11) _ rfl Try.underlying24 w.heap.size 0 _ [] (by rfl) (ZE.lit _ _ _) rfl (some ⟨b, o, s⟩) n _ (xs.take m) (by rfl) (hI.out.below ((Below.refl _ _).alloc (Nat.le_refl _) _)) hl.out (by omega) (by omega) (by simp) ?_); intro v1 x1 hA1; rw [List.nil_append] at hA1; obtain ⟨a1, d1, hv1⟩ := hA1.1.shape; rw [hl.out] at hv1; subst hv1; have hZ1 := Lib.hid hA1.1.iz; have hb1 := Lib.hid (((Below.refl w.heap.size w).alloc (Nat.le_refl _) _).trans hA1.2.1); clear hA1))
      go_ret
      exact ⟨a1, d1, by rw [hl.out]; rfl, hZ1.out.1, by rw [hl.out]; exact hZ1.out.2, hb1.out⟩

theorem cut9_any (ao : Option Addr) (c n : Nat) (xs : List Int) (w : World) (h : IZ w ao xs) (hn : xs.length = n) (hc : n ≤ c) (hm : n ≤ 9223372036854775807) :
    Calls Try.prog 36 #[.slice ao n c, .int .i64 9] w (RetZ w (xs.take 9)) := cut_any ao c n 9 xs w h hn hc hm (by omega)
set_option maxRecDepth 100000 in
set_option maxHeartbeats 3200000 in
theorem few_anyJ (ao : Option Addr) (c n : Nat) (C : List (List Int)) (w : World) (h : IMx w ao C) (hn : C.length = n) (hm : n ≤ 9223372036854775807) (hr : ∀ r ∈ C, r.length ≤ 9223372036854775807) :
    Calls Try.prog 18 #[.slice ao n c] w (RetM w (fewM C)) := by
  have hH := Lib.hid h
  have hrH := Lib.hid hr
  have hnH := Lib.hid hn
  clear h hn hr
  by_cases h8 : 8 < n
  · have h8I : (8 : Int) < (n : Int) := by omega
    have hqH : Hid (fewK C.length = 9) := by show _ = _; rw [hnH.out]; unfold fewK; rw [if_pos h8]
    have hfl : Hid ((fewM C).length = min 9 n) := by show _ = _; rw [fewM_len, hqH.out, hnH.out]
    go_enter Try.func18, Try.ntmps18
    go_wp2_with (fail)
    go_loopw [3, 5] (fun b i wr => ∃ k : Nat, i = .int .i64 (k : Nat) ∧ k ≤ min 9 n ∧ MI wr w.heap.size b ((fewM C).take k) ∧ Below w.heap.size w wr) (fun _ i _ => min 9 n - (intOf i).toNat)
    case atStart => exact ⟨0, rfl, by omega, MI.lit0 _ _ (Nat.le_refl _), (Below.refl _ _).alloc (Nat.le_refl _) _⟩
    case round =>
      obtain ⟨k, rfl, hk, hM, hbl⟩ := hrel
      obtain ⟨ab, cb, hbv⟩ := hM.shape
      subst hbv
      have htl : ((fewM C).take k).length = k := by rw [List.length_take, hfl.out]; omega
      have htlH := Lib.hid htl
      rw [htl] at hM ⊢
      have hMH := Lib.hid hM
      have hblH := Lib.hid hbl
      clear hM htl
      by_cases hkn : k < min 9 n
      · obtain ⟨r, hrk⟩ : ∃ r, C[k]? = some r := ⟨_, List.getElem?_eq_getElem (by rw [hnH.out]; omega)⟩
        obtain ⟨b1, o1, a1, c1, rfl, e1, hc1, hI1⟩ := (hH.out.below hbl).row hrk
        obtain ⟨m, hm2⟩ : ∃ m, r.length = m := ⟨_, rfl⟩
        rw [hm2] at e1 hc1
        have hnx := Lib.hid (fewM_next (by rw [hqH.out]; omega) hrk)
        have hrl : m ≤ 9223372036854775807 := by rw [← hm2]; exact hrH.out r (List.mem_of_getElem? hrk)
        have hmH := Lib.hid hm2
        have hI1H := Lib.hid hI1
        obtain ⟨t, ht⟩ : ∃ t, (r.take 9).length = t := ⟨_, rfl⟩
        have htH := Lib.hid ht
        have hk1 : (k : Int) < (n : Int) := by omega
        have hk2 : (k : Int) < 9 := by omega
        clear hrk hbl hm2 hI1 ht
        go_wp2_with (first
          | (go_at_call 36; go_loud (with_reducible refine (cut9_any a1 c1 m r _ hI1H.out hmH.out hc1 hrl).mono ?_); rintro e w3 ⟨a3, c3, rfl, hI3, hc3, hb3⟩; rw [htH.out] at hc3; rw [htH.out]; have hI3H := Lib.hid hI3; have hb3H := Lib.hid hb3; clear hI3 hb3)
          | (at_builtin; go_loud (refine wpList_append_row _ rfl (.tmp 21) (.tmp 27) _ rfl Try.underlying22 w.heap.size k (.slice ab k cb) ((fewM C).take k) (r.take 9) (by rfl) (hMH.out.below (hb3H.out.alloc hb3H.out.size _)) htlH.out w3.heap.size (by rfl) a3 t c3 (by omega) (by have := hblH.out.size; have := hb3H.out.size; simp; omega) (by simp) htH.out hc3 (hI3H.out.below ((Below.refl _ _).alloc (Nat.le_refl _) _)) ?_); intro v' w4 hv4 hg4; rw [hnx.out] at hv4; have hb5 := Lib.hid ((bseqJ hblH.out (hb3H.out.alloc hb3H.out.size _)).grown hg4 (by have := hblH.out.size; have := hb3H.out.size; simp; omega) (fun g hg => (hMH.out.lt g hg).1)); clear hg4))
        go_roundw
        case rel => exact ⟨k + 1, by go_num, by omega, hv4, hb5.out⟩
        case measure => simp [intOf]; omega
      · have hke : k = min 9 n := by omega
        have hfull : (fewM C).take k = fewM C := List.take_of_length_le (by rw [hfl.out]; omega)
        have hfH := Lib.hid hfull
        have hkl : Hid ((fewM C).length = k) := by show _ = _; rw [hfl.out]; exact hke.symm
        clear hfull
        by_cases h1 : k < n
        · have h2 : ¬ (k : Int) < 9 := by omega
          have h1' : (k : Int) < (n : Int) := by omega
          clear hke
          go_wp2_with (fail)
          go_ret
          exact ⟨ab, cb, by rw [hkl.out]; rfl, by rw [← hfH.out]; exact hMH.out.imx.1, by rw [hkl.out]; have := hMH.out.imx.2; exact this, hblH.out⟩
        · have h1' : ¬ (k : Int) < (n : Int) := by omega
          clear hke
          go_wp2_with (fail)
          go_ret
          exact ⟨ab, cb, by rw [hkl.out]; rfl, by rw [← hfH.out]; exact hMH.out.imx.1, by rw [hkl.out]; have := hMH.out.imx.2; exact this, hblH.out⟩
  · have h8I : ¬ (8 : Int) < (n : Int) := by omega
    have hqH : Hid (fewK C.length = 6) := by show _ = _; rw [hnH.out]; unfold fewK; rw [if_neg h8]
    have hfl : Hid ((fewM C).length = min 6 n) := by show _ = _; rw [fewM_len, hqH.out, hnH.out]
    go_enter Try.func18, Try.ntmps18
    go_wp2_with (fail)
    go_loopw [3, 5] (fun b i wr => ∃ k : Nat, i = .int .i64 (k : Nat) ∧ k ≤ min 6 n ∧ MI wr w.heap.size b ((fewM C).take k) ∧ Below w.heap.size w wr) (fun _ i _ => min 6 n - (intOf i).toNat)
    case atStart => exact ⟨0, rfl, by omega, MI.lit0 _ _ (Nat.le_refl _), (Below.refl _ _).alloc (Nat.le_refl _) _⟩
    case round =>
      obtain ⟨k, rfl, hk, hM, hbl⟩ := hrel
      obtain ⟨ab, cb, hbv⟩ := hM.shape
      subst hbv
      have htl : ((fewM C).take k).length = k := by rw [List.length_take, hfl.out]; omega
      have htlH := Lib.hid htl
      rw [htl] at hM ⊢
      have hMH := Lib.hid hM
      have hblH := Lib.hid hbl
      clear hM htl
      by_cases hkn : k < min 6 n
      · obtain ⟨r, hrk⟩ : ∃ r, C[k]? = some r := ⟨_, List.getElem?_eq_getElem (by rw [hnH.out]; omega)⟩
        obtain ⟨b1, o1, a1, c1, rfl, e1, hc1, hI1⟩ := (hH.out.below hbl).row hrk
        obtain ⟨m, hm2⟩ : ∃ m, r.length = m := ⟨_, rfl⟩
        rw [hm2] at e1 hc1
        have hnx := Lib.hid (fewM_next (by rw [hqH.out]; omega) hrk)
        have hrl : m ≤ 9223372036854775807 := by rw [← hm2]; exact hrH.out r (List.mem_of_getElem? hrk)
        have hmH := Lib.hid hm2
        have hI1H := Lib.hid hI1
        obtain ⟨t, ht⟩ : ∃ t, (r.take 9).length = t := ⟨_, rfl⟩
        have htH := Lib.hid ht
        have hk1 : (k : Int) < (n : Int) := by omega
        have hk2 : (k : Int) < 6 := by omega
        clear hrk hbl hm2 hI1 ht
        go_wp2_with (first
          | (go_at_call 36; go_loud (with_reducible refine (cut9_any a1 c1 m r _ hI1H.out hmH.out hc1 hrl).mono ?_); rintro e w3 ⟨a3, c3, rfl, hI3, hc3, hb3⟩; rw [htH.out] at hc3; rw [htH.out]; have hI3H := Lib.hid hI3; have hb3H := Lib.hid hb3; clear hI3 hb3)
          | (at_builtin; go_loud (refine wpList_append_row _ rfl (.tmp 21) (.tmp 27) _ rfl Try.underlying22 w.heap.size k (.slice ab k cb) ((fewM C).take k) (r.take 9) (by rfl) (hMH.out.below (hb3H.out.alloc hb3H.out.size _)) htlH.out w3.heap.size (by rfl) a3 t c3 (by omega) (by have := hblH.out.size; have := hb3H.out.size; simp; omega) (by simp) htH.out hc3 (hI3H.out.below ((Below.refl _ _).alloc (Nat.le_refl _) _)) ?_); intro v' w4 hv4 hg4; rw [hnx.out] at hv4; have hb5 := Lib.hid ((bseqJ hblH.out (hb3H.out.alloc hb3H.out.size _)).grown hg4 (by have := hblH.out.size; have := hb3H.out.size; simp; omega) (fun g hg => (hMH.out.lt g hg).1)); clear hg4))
        go_roundw
        case rel => exact ⟨k + 1, by go_num, by omega, hv4, hb5.out⟩
        case measure => simp [intOf]; omega
      · have hke : k = min 6 n := by omega
        have hfull : (fewM C).take k = fewM C := List.take_of_length_le (by rw [hfl.out]; omega)
        have hfH := Lib.hid hfull
        have hkl : Hid ((fewM C).length = k) := by show _ = _; rw [hfl.out]; exact hke.symm
        clear hfull
        by_cases h1 : k < n
        · have h2 : ¬ (k : Int) < 6 := by omega
          have h1' : (k : Int) < (n : Int) := by omega
          clear hke
          go_wp2_with (fail)
          go_ret
          exact ⟨ab, cb, by rw [hkl.out]; rfl, by rw [← hfH.out]; exact hMH.out.imx.1, by rw [hkl.out]; have := hMH.out.imx.2; exact this, hblH.out⟩
        · have h1' : ¬ (k : Int) < (n : Int) := by omega
          clear hke
          go_wp2_with (fail)
          go_ret
          exact ⟨ab, cb, by rw [hkl.out]; rfl, by rw [← hfH.out]; exact hMH.out.imx.1, by rw [hkl.out]; have := hMH.out.imx.2; exact this, hblH.out⟩
end Go.Proofs.Yteiipfajoikfpaa
