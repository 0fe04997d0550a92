/- Xe -/
import Derived.Test.YteiipfajoikfpaaQXd
import Derived.Test.YteiipfajoikfpaaQPd
import Derived.Test.YteiipfajoikfpaaQVc
import Derived.Test.YteiipfajoikfpaaQVd
import Derived.Laws.EntriesVeiled
set_option linter.unusedVariables false
/- Walks of search, Smooth, the reference's Smooth; the law PairSmooths. -/
namespace Go.Proofs.Yteiipfajoikfpaa
open Go Go.RowKit Go.Proofs

theorem blk_new {w : World} {v : Value} {t : TypeId} {g : Nat} (h : g = w.heap.size) : Blk (w.alloc (.cells #[v] t)) g t [v] := by
  unfold Blk
  subst h
  show (w.heap.push _)[w.heap.size]? = _
  rw [Array.getElem?_push_size]
def RetG (w : World) (n : Nat) (xs : List Int) (e : Ending) (w' : World) : Prop := ∃ g o c, e = .returned (.slice (some ⟨g, o, none⟩) n c) ∧ n ≤ c ∧ IZ w' (some ⟨g, o, none⟩) xs ∧ Below w.heap.size w w'
set_option maxRecDepth 100000 in
set_option maxHeartbeats 6400000 in
theorem search_any (ao : Option Addr) (c n bf : Nat) (C : List (List Int)) (p : List Nat) (w : World) (hM : IMx w ao C) (hg : goodC C) (hn : C.length = n) (cf : w.cell? ⟨bf, 0, none⟩ = some (.func (.func 71) #[] #[])) (hp : Best (byL (fallP C)) (allN n) p) :
    Calls Try.prog 74 #[.slice ao n c, .func (.func 75) #[] #[ptr bf]] w (RetG w n (nz p)) := by
  have hmf : ∀ (fn : Fn) (first cap : Array Value) (w : World), (Instr.makeFunc fn first cap).run Try.prog w = .ok (.func fn first cap) w := fun _ _ _ _ => rfl
  have hn1 : 0 < n := by rw [← hn]; exact hg.1
  have hMH := Lib.hid hM
  have hgH := Lib.hid hg
  have hnH := Lib.hid hn
  have cfH := Lib.hid cf
  have hpH := Lib.hid hp
  have e3 := eg_search1
  clear hM hg hn cf hp
  go_enter Try.func74, Try.ntmps74
  go_upto_region 5 with (fail)
  obtain ⟨V, hV⟩ : ∃ V, V = ((((((w.alloc (Obj.cells #[.slice ao n c] 22)).alloc (Obj.cells #[.func (.func 75) #[] #[ptr bf]] 85)).alloc (Obj.cells #[.int .i64 (n : Nat)] 3)).alloc (Obj.cells #[.slice none 0 0] 24)).alloc (Obj.cells #[.slice none 0 0] 24)).alloc (Obj.cells #[.func (.func 91) #[] #[ptr (w.heap.size + 1 + 1), ptr w.heap.size, ptr (w.heap.size + 1 + 1 + 1), ptr (w.heap.size + 1), ptr (w.heap.size + 1 + 1 + 1 + 1), ptr (w.heap.size + 1 + 1 + 1 + 1 + 1)]] 99)) := ⟨_, rfl⟩
  rw [← hV]
  have hb0 : Below w.heap.size w V := by rw [hV]; exact below_al (below_al (below_al (below_al (below_al (below_al (Below.refl _ _) _) _) _) _) _) _
  obtain ⟨N, hNe⟩ : ∃ N, w.heap.size = N := ⟨_, rfl⟩
  have hlt := World.block_lt_of_cell? w ⟨bf, 0, none⟩ cfH.out
  rw [hNe] at hV ⊢
  have k1 : V.cell? ⟨N, 0, none⟩ = some (.slice ao n c) := by rw [hV, al_old (by simp; omega), al_old (by simp; omega), al_old (by simp; omega), al_old (by simp; omega), al_old (by simp; omega), al_new hNe.symm]; rfl
  have k2 : V.cell? ⟨N + 1, 0, none⟩ = some (.func (.func 75) #[] #[ptr bf]) := by rw [hV, al_old (by simp; omega), al_old (by simp; omega), al_old (by simp; omega), al_old (by simp; omega), al_new (by simp; omega)]; rfl
  have k3 : V.cell? ⟨N + 1 + 1, 0, none⟩ = some (.int .i64 (n : Nat)) := by rw [hV, al_old (by simp; omega), al_old (by simp; omega), al_old (by simp; omega), al_new (by simp; omega)]; rfl
  have k6 : V.cell? ⟨N + 1 + 1 + 1 + 1 + 1, 0, none⟩ = some (.func (.func 91) #[] #[ptr (N + 1 + 1), ptr N, ptr (N + 1 + 1 + 1), ptr (N + 1), ptr (N + 1 + 1 + 1 + 1), ptr (N + 1 + 1 + 1 + 1 + 1)]) := by rw [hV, al_new (by simp; omega)]; rfl
  have k4 : Blk V (N + 1 + 1 + 1) 24 [.slice none 0 0] := by
    unfold Blk
    rw [hV, Below.heap_alloc _ _ _ (by simp; omega), Below.heap_alloc _ _ _ (by simp; omega)]
    exact blk_new (by simp; omega)
  have k5 : Blk V (N + 1 + 1 + 1 + 1) 24 [.slice none 0 0] := by
    unfold Blk
    rw [hV, Below.heap_alloc _ _ _ (by simp; omega)]
    exact blk_new (by simp; omega)
  have kf : V.cell? ⟨bf, 0, none⟩ = some (.func (.func 71) #[] #[]) := Below.cellAt hb0 (Nat.le_refl _) cfH.out
  have hSN : Hid (SN (N + 1 + 1) N (N + 1 + 1 + 1) (N + 1) (N + 1 + 1 + 1 + 1) (N + 1 + 1 + 1 + 1 + 1) bf) := by
    show SN _ _ _ _ _ _ _
    have hlt : bf < N := by rw [← hNe]; exact hlt
    constructor <;> omega
  have hSR : Hid (SR V ao n c (N + 1 + 1) N (N + 1 + 1 + 1) (N + 1) (N + 1 + 1 + 1 + 1) (N + 1 + 1 + 1 + 1 + 1) bf) := ⟨k3, k1, k2, k6, kf⟩
  have hBS : Hid (BS C n [] V (N + 1 + 1 + 1) (N + 1 + 1 + 1 + 1)) := .inl ⟨rfl, k4, k5⟩
  have hb0H := Lib.hid hb0
  have hNeH := Lib.hid hNe
  have hso : Hid (([] ++ allP n n []).Pairwise (· < ·)) := by show List.Pairwise _ _; rw [List.nil_append]; exact allN_sorted n
  clear hV hb0 hNe hlt k1 k2 k3 k4 k5 kf cfH
  have hcG' := growS_any ao c n (N + 1 + 1) N (N + 1 + 1 + 1) (N + 1) (N + 1 + 1 + 1 + 1) (N + 1 + 1 + 1 + 1 + 1) bf C w hMH.out hgH.out hnH.out hSN.out (by rw [hNeH.out]; omega) (by rw [hNeH.out]; omega) n 0 0 [] none 0 [] V rfl hb0H.out hSR.out (IZ.nil _ _) (Nat.le_refl _) (Nat.zero_add _) (Bits.zero n) List.nodup_nil (by simp) hBS.out hso.out
  rw [show (((0 : Nat)) : Int) = 0 from rfl] at hcG'
  have hcG := Lib.hid hcG'
  clear hcG'
  go_upto_region 6 with (first
    | (go_at_call 91; go_loud (with_reducible refine hcG.out.mono ?_); rintro e w3 ⟨rfl, hs3, hB3⟩; have hs3H := Lib.hid hs3; have hB3H := Lib.hid hB3; clear hs3 hB3))
  rcases hB3H.out with ⟨h0, _⟩ | ⟨q, g, o, cp, g2, o2, c2, hbb, hbc, hcp, hc2, hI, hI2, hB, hq⟩
  · exact absurd h0 (allN_ne n)
  · have hqp := hB.unique hpH.out
    subst hqp
    have kb := Blk.cell hbb 0
    simp only [List.getElem?_cons_zero] at kb
    have hIH := Lib.hid hI
    clear hbb hbc hI hI2 hB hq
    go_wp2_with (fail)
    go_ret
    exact ⟨g, o, cp, rfl, hcp, hIH.out, hb0H.out.trans (hs3H.out.below (by rw [hNeH.out]; omega) (by rw [hNeH.out]; omega) hb0H.out.size)⟩
def SmoothPost (n : Nat) (p : List Nat) (w : World) (e : Ending) (w' : World) : Prop := ∃ g o c, e = .returned (.tuple #[.slice (some ⟨g, o, none⟩) n c, .int .i64 0]) ∧ n ≤ c ∧ IZ w' (some ⟨g, o, none⟩) (nz p) ∧ Below w.heap.size w w'
theorem smooth_bad (ao : Option Addr) (c n : Nat) (C : List (List Int)) (w : World) (h : IMx w ao C) (hn : C.length = n) (hm : n ≤ 9223372036854775807) (hb : costsB C = false) :
    Calls Try.prog 46 #[.slice ao n c] w (fun e w' => e = .returned (.tuple #[.slice none 0 0, .int .i64 1]) ∧ Below w.heap.size w w') := by
  have hH := Lib.hid h
  have hnH := Lib.hid hn
  have hbH := Lib.hid hb
  clear h hn hb
  go_enter Try.func46, Try.ntmps46
  go_wp2_with (go_at_call 48; (with_reducible refine (valid_any ao c n C false _ hH.out hnH.out hm hbH.out).mono ?_); rintro e w1 ⟨rfl, rfl⟩)
  go_ret2
  exact ⟨rfl, Below.refl _ _⟩
set_option maxRecDepth 100000 in
set_option maxHeartbeats 6400000 in
theorem smooth_at (ao : Option Addr) (c n : Nat) (C : List (List Int)) (p : List Nat) (w : World) (h : IMx w ao C) (hg : goodC C) (hn : C.length = n) (hp : Best (byL (fallP C)) (allN n) p) :
    Calls Try.prog 46 #[.slice ao n c] w (SmoothPost n p w) := by
  have hmf : ∀ (fn : Fn) (first cap : Array Value) (w : World), (Instr.makeFunc fn first cap).run Try.prog w = .ok (.func fn first cap) w := fun _ _ _ _ => rfl
  have hn8 : n ≤ 8 := by rw [← hn]; exact hg.2.1
  have hb := Lib.hid (show costsB C = true from decide_eq_true hg)
  have hH := Lib.hid h
  have hgH := Lib.hid hg
  have hnH := Lib.hid hn
  have hpH := Lib.hid hp
  clear h hg hn hp
  go_enter Try.func46, Try.ntmps46
  go_upto_region 4 with (first
    | (go_at_call 48; (with_reducible refine (valid_any ao c n C true _ hH.out hnH.out (by omega) hb.out).mono ?_); rintro e w1 ⟨rfl, rfl⟩))
  obtain ⟨V, hV⟩ : ∃ V, V = w.alloc (Obj.cells #[.func (.func 71) #[] #[]] 86) := ⟨_, rfl⟩
  rw [← hV]
  have hbV : Hid (Below w.heap.size w V) := by show Below _ _ _; rw [hV]; exact below_al (Below.refl _ _) _
  have cf : Hid (V.cell? ⟨w.heap.size, 0, none⟩ = some (.func (.func 71) #[] #[])) := by show _ = _; rw [hV, al_new rfl]; rfl
  clear hV
  go_wp2_with (first
    | (go_at_call 74; go_loud (with_reducible refine (search_any ao c n w.heap.size C p _ (hH.out.below hbV.out) hgH.out hnH.out cf.out hpH.out).mono ?_); rintro e w2 ⟨g, o, d, rfl, hd, hI, hb2⟩; have hIH := Lib.hid hI; have hb2H := Lib.hid hb2; clear hI hb2))
  go_ret2
  exact ⟨g, o, d, rfl, hd, hIH.out, bseqJ hbV.out hb2H.out⟩
/-- The best one so far, and its costs in falling order. -/
def BestS (C : List (List Int)) (n : Nat) (L : List (List Nat)) (wr : World) (bv mv : Value) : Prop :=
  (L = [] ∧ bv = .slice none 0 0 ∧ mv = .slice none 0 0) ∨ ∃ (p : List Nat) (g o c g2 o2 c2 : Nat), bv = .slice (some ⟨g, o, none⟩) n c ∧ mv = .slice (some ⟨g2, o2, none⟩) n c2 ∧ n ≤ c ∧ IZ wr (some ⟨g, o, none⟩) (nz p) ∧ IZ wr (some ⟨g2, o2, none⟩) (fallP C p) ∧ Best (byL (fallP C)) L p ∧ Pr n p
def RetZ1 (w : World) (xs : List Int) (e : Ending) (w' : World) : Prop := ∃ a c, e = .returned (.slice a xs.length c) ∧ IZ w' a xs ∧ xs.length ≤ c ∧ Below w.heap.size w w'
set_option maxRecDepth 100000 in
set_option maxHeartbeats 6400000 in
theorem smoothR_any (ao : Option Addr) (c n : Nat) (C : List (List Int)) (p : List Nat) (w : World) (h : IMx w ao C) (hg : goodC C) (hn : C.length = n) (hp : Best (byL (fallP C)) (allN n) p) :
    Calls Try.prog 47 #[.slice ao n c] w (RetZ1 w (nz p)) := by
  have hn8 : n ≤ 8 := by rw [← hn]; exact hg.2.1
  have hn1 : 0 < n := by rw [← hn]; exact hg.1
  obtain ⟨L, hL⟩ : ∃ L, allN n = L := ⟨_, rfl⟩
  obtain ⟨N, hN⟩ : ∃ N, (rowsP L).length = N := ⟨_, rfl⟩
  have hNs : N ≤ 16777216 := by rw [← hN, rowsP_length, ← hL]; exact Nat.le_trans (allP_le n n []) (pow_small hn8 hn8)
  have hNL : Hid (L.length = N) := by show _ = _; rw [← hN, rowsP_length]
  have hsrt := Lib.hid (show L.Pairwise (· < ·) by rw [← hL]; exact allN_sorted n)
  have hmem : Hid (∀ q ∈ L, Pr n q) := fun q hq => mem_allN.1 (by rw [hL]; exact hq)
  have hal : Hid (∀ v, Calls Try.prog 53 #[.slice none 0 0, .int .i64 (n : Nat)] v (RetM v (rowsP L))) := fun v => by
    rw [← hL]; exact all_any n hn8 n 0 [] none 0 v rfl (by omega) (by simp) (by simp) (IZ.nil _ _)
  rw [hL] at hp
  have hHH := Lib.hid h
  have hgH := Lib.hid hg
  have hnH := Lib.hid hn
  have hpH := Lib.hid hp
  have hNH := Lib.hid hN
  clear h hg hn hp hL hN
  have nl0 := eql_nil0
  have nl1 := eql_nil1
  go_enter Try.func47, Try.ntmps47
  go_wp2_with (first
    | (go_at_call 53; go_loud (with_reducible refine (hal.out _).mono ?_); rintro e w1 hR; obtain ⟨a1, d1, rfl, hM1, hd1, hb1⟩ := hR.out hNH.out; have hM1H := Lib.hid hM1; have hb1H := Lib.hid hb1; clear hR hM1 hb1))
  go_loopw [3, 4, 12] (fun bv lv i wr => ∃ (k : Nat) (b0 l0 : Value), i = .int .i64 (k : Nat) ∧ bv = b0 ∧ lv = l0 ∧ k ≤ N ∧ BestS C n (L.take k) wr b0 l0 ∧ Below w1.heap.size w1 wr) (fun _ _ i _ => N - (intOf i).toNat)
  case atStart => exact ⟨0, _, _, rfl, rfl, rfl, by omega, .inl ⟨by simp, rfl, rfl⟩, Below.refl _ _⟩
  case round =>
    obtain ⟨k, b0, l0, rfl, rfl, rfl, hk, hB, hbl⟩ := hrel
    have hblH := Lib.hid hbl
    by_cases hkN : k < N
    · obtain ⟨q, hq⟩ : ∃ q, L[k]? = some q := ⟨_, List.getElem?_eq_getElem (by rw [hNL.out]; exact hkN)⟩
      have hpq := Lib.hid (hmem.out q (List.mem_of_getElem? hq))
      obtain ⟨b2, o2, g2, o3, c3, rfl, e1, hc3, hI⟩ := row_nz (hM1H.out.below hbl) hq hpq.out.len hn1
      have hIH := Lib.hid hI
      have hCr := Lib.hid (hHH.out.below (bseqJ hb1H.out hbl))
      have htk := Lib.hid (take_last hq)
      have hst := Lib.hid (sorted_take hsrt.out hq)
      have hq0 := (List.getElem?_eq_some_iff.1 hq).1
      obtain ⟨fs, hfs'⟩ : ∃ fs, fall (pcs C q) = fs := ⟨_, rfl⟩
      have hfl : Hid (fs.length = n) := by show _ = _; rw [← hfs', fall_length, pcs_length]; exact hpq.out.len
      have hfs := Lib.hid hfs'
      have hnI : (0 : Int) < (n : Int) := by omega
      clear hfs'
      clear hI hq hbl
      rcases hB with ⟨hL0, hbv, hmv⟩ | ⟨r, g4, o4, c4, g5, o5, c5, hbv, hmv, hc4, hI4, hI5, hB4, hr4⟩
      · subst hbv hmv
        have hL0H := Lib.hid hL0
        clear hL0
        go_wp2_with (first | (go_at_call 32; go_loud (with_reducible refine (falling_any ao (some ⟨g2, o3, none⟩) c c3 n C q fs _ hCr.out hIH.out hgH.out hnH.out hpq.out hfs.out).mono ?_); rintro e w9 hR; go_loud (obtain ⟨a9, d9, rfl, hI9, hd9, hb9'⟩ := hR); go_loud (rw [hfl.out]); have hb9 := Lib.hid hb9'; go_loud (obtain ⟨g9, o9, rfl, e9⟩ := hI9.at (i := 0) (by rw [hfl.out]; exact hn1)); have hI9H := Lib.hid hI9; clear e9; go_loud (clear hI9 hb9')))
        go_roundw
        case rel => exact ⟨k + 1, _, _, by go_num, rfl, rfl, by omega, by rw [htk.out, hL0H.out]; exact .inr ⟨q, g2, o3, c3, g9, o9, d9, rfl, rfl, hc3, hIH.out.below hb9.out, by unfold fallP; rw [hfs.out]; exact hI9H.out, Best.one _ _ (byL_ir _), hpq.out⟩, bseqJ hblH.out hb9.out⟩
        case measure => simp [intOf]; omega
      · subst hbv hmv
        obtain ⟨ls, hls'⟩ : ∃ ls, fall (pcs C r) = ls := ⟨_, rfl⟩
        have hls := Lib.hid hls'
        have hll : Hid (ls.length = n) := by show _ = _; rw [← hls', fall_length, pcs_length]; exact hr4.len
        unfold fallP at hI5
        rw [hls'] at hI5
        have hI4H := Lib.hid hI4
        have hI5H := Lib.hid hI5
        have hB4H := Lib.hid hB4
        have hr4H := Lib.hid hr4
        clear hI4 hI5 hB4 hr4 hls'
        rcases hlb' : lessB fs ls
        · have hlb := Lib.hid hlb'
          clear hlb'
          go_wp2_with (first | (go_at_call 32; go_loud (with_reducible refine (falling_any ao (some ⟨g2, o3, none⟩) c c3 n C q fs _ hCr.out hIH.out hgH.out hnH.out hpq.out hfs.out).mono ?_); rintro e w9 hR; go_loud (obtain ⟨a9, d9, rfl, hI9, hd9, hb9'⟩ := hR); go_loud (rw [hfl.out]); have hb9 := Lib.hid hb9'; go_loud (obtain ⟨g9, o9, rfl, e9⟩ := hI9.at (i := 0) (by rw [hfl.out]; exact hn1)); have hI9H := Lib.hid hI9; clear e9; go_loud (clear hI9 hb9')) | (go_at_call 58; go_loud (with_reducible refine (less_any (some ⟨g9, o9, none⟩) (some ⟨g5, o5, none⟩) d9 c5 n fs ls false _ hI9H.out (hI5H.out.below hb9.out) hfl.out hll.out (by omega) hlb.out).mono ?_); rintro e w7 ⟨rfl, hb7'⟩; have hb7 := Lib.hid hb7'; clear hb7'))
          go_roundw
          case rel => exact ⟨k + 1, _, _, by go_num, rfl, rfl, by omega, by rw [htk.out]; exact .inr ⟨r, g4, o4, c4, g5, o5, c5, rfl, rfl, hc4, hI4H.out.below (bseqJ hb9.out hb7.out), by unfold fallP; rw [hls.out]; exact hI5H.out.below (bseqJ hb9.out hb7.out), hB4H.out.keep (by show ¬ fall (pcs C q) < fall (pcs C r); rw [hfs.out, hls.out]; exact of_decide_eq_false hlb.out) hst.out, hr4H.out⟩, bseqJ hblH.out (bseqJ hb9.out hb7.out)⟩
          case measure => simp [intOf]; omega
        · have hlb := Lib.hid hlb'
          clear hlb'
          go_wp2_with (first | (go_at_call 32; go_loud (with_reducible refine (falling_any ao (some ⟨g2, o3, none⟩) c c3 n C q fs _ hCr.out hIH.out hgH.out hnH.out hpq.out hfs.out).mono ?_); rintro e w9 hR; go_loud (obtain ⟨a9, d9, rfl, hI9, hd9, hb9'⟩ := hR); go_loud (rw [hfl.out]); have hb9 := Lib.hid hb9'; go_loud (obtain ⟨g9, o9, rfl, e9⟩ := hI9.at (i := 0) (by rw [hfl.out]; exact hn1)); have hI9H := Lib.hid hI9; clear e9; go_loud (clear hI9 hb9')) | (go_at_call 58; go_loud (with_reducible refine (less_any (some ⟨g9, o9, none⟩) (some ⟨g5, o5, none⟩) d9 c5 n fs ls true _ hI9H.out (hI5H.out.below hb9.out) hfl.out hll.out (by omega) hlb.out).mono ?_); rintro e w7 ⟨rfl, hb7'⟩; have hb7 := Lib.hid hb7'; clear hb7'))
          go_roundw
          case rel => exact ⟨k + 1, _, _, by go_num, rfl, rfl, by omega, by rw [htk.out]; exact .inr ⟨q, g2, o3, c3, g9, o9, d9, rfl, rfl, hc3, hIH.out.below (bseqJ hb9.out hb7.out), by unfold fallP; rw [hfs.out]; exact hI9H.out.below hb7.out, hB4H.out.better (by show fall (pcs C q) < fall (pcs C r); rw [hfs.out, hls.out]; exact of_decide_eq_true hlb.out) byL_tr byL_ir byL_ne, hpq.out⟩, bseqJ hblH.out (bseqJ hb9.out hb7.out)⟩
          case measure => simp [intOf]; omega
    · have hke : N = k := by omega
      subst hke
      have hfull : L.take N = L := List.take_of_length_le (by rw [hNL.out]; exact Nat.le_refl _)
      rcases hB with ⟨hL0, hbv, hmv⟩ | ⟨r, g4, o4, c4, g5, o5, c5, hbv, hmv, hc4, hI4, hI5, hB4, hr4⟩
      · rw [hfull] at hL0
        exact absurd (hL0 ▸ hpH.out.mem) (by simp)
      · rw [hfull] at hB4
        have hrp := hB4.unique hpH.out
        subst hrp hbv hmv
        have hI4H := Lib.hid hI4
        have hlen : Hid ((nz r).length = n) := by show _ = _; rw [nz_length]; exact hr4.len
        clear hI4 hI5 hB4 hr4 hfull
        go_wp2
        go_ret
        exact ⟨_, _, by rw [hlen.out]; rfl, hI4H.out, by rw [hlen.out]; exact hc4, bseqJ hb1H.out hblH.out⟩
set_option maxRecDepth 100000 in
set_option maxHeartbeats 12800000 in
theorem smoothsLaw_any (ao : Option Addr) (c n : Nat) (C : List (List Int)) (w : World) (h : IMx w ao C) (hn : C.length = n) (hm : n ≤ 9223372036854775807) (hr : ∀ r ∈ C, r.length ≤ 9223372036854775807) :
    Calls Try.prog 16 #[.slice ao n c] w (RetB w true) := by
  obtain ⟨D, hD⟩ : ∃ D, fewM C = D := ⟨_, rfl⟩
  obtain ⟨m, hmD⟩ : ∃ m, D.length = m := ⟨_, rfl⟩
  have hm9 : m ≤ 9 := by rw [← hmD, ← hD]; exact fewM_small C
  have hfew := Lib.hid (few_anyJ ao c n C w h hn hm hr)
  have hDH := Lib.hid hD
  have hmH := Lib.hid hmD
  clear h hn hm hr hD hmD
  rcases hb : costsB D
  · have hbH := Lib.hid hb
    clear hb
    go_enter Try.func16, Try.ntmps16
    go_wp2_with (first
      | (go_at_call 18; go_loud (with_reducible refine hfew.out.mono ?_); rintro e w1 hR; rw [hDH.out] at hR; obtain ⟨a1, d1, rfl, hM, hd1, hb1⟩ := hR.out hmH.out; have hMH := Lib.hid hM; have hb1H := Lib.hid hb1; clear hR hM hb1)
      | (go_at_call 46; go_loud (with_reducible refine (smooth_bad a1 d1 m D _ hMH.out hmH.out (by omega) hbH.out).mono ?_); rintro e w2 ⟨rfl, hb2⟩; have hM2 := Lib.hid (hMH.out.below hb2); have hb2H := Lib.hid hb2; clear hb2)
      | (go_at_call 20; go_loud (with_reducible refine (costs_any a1 d1 m D false _ hM2.out hmH.out (by omega) hbH.out).mono ?_); rintro e w4 ⟨rfl, rfl⟩)
      | (go_at_call 21; go_loud (with_reducible refine (lives_any _).mono ?_); rintro e w5 ⟨rfl, hb5⟩; have hb5H := Lib.hid hb5; clear hb5))
    go_ret
    exact ⟨rfl, bseqJ hb1H.out (bseqJ hb2H.out hb5H.out)⟩
  · have hbH := Lib.hid hb
    have hgH := Lib.hid (goodC_of hb)
    obtain ⟨p, hp⟩ := smooth_ex D m
    have hpH := Lib.hid hp
    have hlp := Lib.hid (mem_allN.1 hp.mem).len
    have hzp : Hid ((nz p).length = m) := by show _ = _; rw [nz_length]; exact hlp.out
    clear hb hp
    go_enter Try.func16, Try.ntmps16
    go_wp2_with (first
      | (go_at_call 18; go_loud (with_reducible refine hfew.out.mono ?_); rintro e w1 hR; rw [hDH.out] at hR; obtain ⟨a1, d1, rfl, hM, hd1, hb1⟩ := hR.out hmH.out; have hMH := Lib.hid hM; have hb1H := Lib.hid hb1; clear hR hM hb1)
      | (go_at_call 46; go_loud (with_reducible refine (smooth_at a1 d1 m D p _ hMH.out hgH.out hmH.out hpH.out).mono ?_); rintro e w2 ⟨g2, o2, c2, rfl, hc2, hI2, hb2⟩; have hM2 := Lib.hid (hMH.out.below hb2); have hI2H := Lib.hid hI2; have hb2H := Lib.hid hb2; clear hb2 hI2)
      | (go_at_call 20; go_loud (with_reducible refine (costs_any a1 d1 m D true _ hM2.out hmH.out (by omega) hbH.out).mono ?_); rintro e w4 ⟨rfl, rfl⟩)
      | (go_at_call 47; go_loud (with_reducible refine (smoothR_any a1 d1 m D p _ hM2.out hgH.out hmH.out hpH.out).mono ?_); rintro e w5 hR; obtain ⟨a5, c5, rfl, hI5, hc5, hb5⟩ := hR; rw [hzp.out]; have hI5H := Lib.hid hI5; have hb5H := Lib.hid hb5; clear hI5 hb5 hc5)
      | (go_at_call 23; go_loud (with_reducible refine (same_nz (some ⟨g2, o2, none⟩) a5 c2 c5 m p _ (hI2H.out.below hb5H.out) hI5H.out hlp.out (by omega)).mono ?_); rintro e w7 ⟨rfl, hb7⟩; have hb7H := Lib.hid hb7; clear hb7)
      | (go_at_call 21; go_loud (with_reducible refine (lives_any _).mono ?_); rintro e w9 ⟨rfl, hb9⟩; have hb9H := Lib.hid hb9; clear hb9))
    go_ret
    exact ⟨rfl, bseqJ hb1H.out (bseqJ hb2H.out (bseqJ hb5H.out (bseqJ hb7H.out hb9H.out)))⟩
end Go.Proofs.Yteiipfajoikfpaa
