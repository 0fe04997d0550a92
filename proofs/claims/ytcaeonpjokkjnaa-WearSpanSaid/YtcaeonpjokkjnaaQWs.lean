/- RatesB Replace Szd -/
import Derived.Test.YtcaeonpjokkjnaaQRates
import Derived.Test.YtcaeonpjokkjnaaQWr
set_option linter.unusedVariables false
/- Walks of package wear: rates, where it errs. -/
namespace Go.Proofs.Ytcaeonpjokkjnaa
open Go Go.RowKit Go.Proofs

/-- What read answers, but for its list. -/
def RE (w : World) (k : Int) (e : Ending) (w' : World) : Prop := ∃ a n c, e = .returned (.tuple #[.slice a n c, .int .i64 k]) ∧ Below w.heap.size w w'
theorem RE.err {w w' : World} {k : Int} {e : Ending} (h : RetErr w k e w') : RE w k e w' := ⟨none, 0, 0, h.1, h.2⟩
theorem RE.lives {w w' : World} {qs : List Rat} {e : Ending} (h : RetLives w qs e w') : RE w 0 e w' := by
  obtain ⟨a, c, h1, _, h2⟩ := h
  exact ⟨a, _, c, h1, h2⟩

theorem numbers_2 (g : Nat) (pl fl : ByteArray) (w : World) (h : SL w (some ⟨g, 0, none⟩) [pl, fl]) (hs : ∀ s ∈ [pl, fl], s.size ≤ 4611686018427387904) (hok : ¬ allOK [pl, fl]) :
    Calls Try.prog 50 #[.slice (some ⟨g, 0, none⟩) 2 2] w (NumsPost0 w) := numbers_bad (some ⟨g, 0, none⟩) 2 [pl, fl] w h (by simp) hs hok

set_option maxRecDepth 100000 in
set_option maxHeartbeats 1600000 in
theorem rates_form (k : Int) (ao : Option Addr) (c n : Nat) (pl fl : ByteArray) (w : World) (h : Calls Try.prog 28 #[.slice ao n c] w (RE w k))
    (hs : ∀ s ∈ [pl, fl], s.size ≤ 4611686018427387904) (hbad : k = 2 ∨ ¬ allOK [pl, fl]) :
    Calls Try.prog 46 #[.slice ao n c, .string pl, .string fl] w (RetErr w 2) := by
  have hH := Lib.hid h
  have hsH := Lib.hid hs
  clear h hs
  by_cases hk : k = 2
  · subst hk
    by_cases hok : allOK [pl, fl]
    · have hokH := Lib.hid hok
      clear hok hbad
      go_enter Try.func46, Try.ntmps46
      go_wp2_with (first
        | (go_at_call 28; (with_reducible refine hH.out.mono ?_); rintro e w1 ⟨a1, n1, d1, rfl, hb1⟩)
        | (go_at_call 50; go_loud (with_reducible refine (numbers_at (some ⟨w1.heap.size, 0, none⟩) 2 2 [pl, fl] _ rfl (sl_two w1 pl fl _) (by omega) hsH.out hokH.out).mono ?_); rintro e w2 ⟨a2, d2, rfl, hV2, hb2⟩))
      go_ret2
      exact ⟨rfl, bvia hb1 hb2⟩
    · have hokH := Lib.hid hok
      clear hok hbad
      go_enter Try.func46, Try.ntmps46
      go_wp2_with (first
        | (go_at_call 28; (with_reducible refine hH.out.mono ?_); rintro e w1 ⟨a1, n1, d1, rfl, hb1⟩)
        | (go_at_call 50; go_loud (with_reducible refine (numbers_2 w1.heap.size pl fl _ (sl_two w1 pl fl _) hsH.out hokH.out).mono ?_); rintro e w2 ⟨rfl, hb2⟩))
      go_ret2
      exact ⟨rfl, bvia hb1 hb2⟩
  · have hok : ¬ allOK [pl, fl] := by rcases hbad with h | h; exact absurd h hk; exact h
    have hokH := Lib.hid hok
    have hk2 : (k == 2) = false := by simpa using hk
    clear hok hbad
    go_enter Try.func46, Try.ntmps46
    go_wp2_with (first
      | (go_at_call 28; (with_reducible refine hH.out.mono ?_); rintro e w1 ⟨a1, n1, d1, rfl, hb1⟩)
      | (go_at_call 50; go_loud (with_reducible refine (numbers_2 w1.heap.size pl fl _ (sl_two w1 pl fl _) hsH.out hokH.out).mono ?_); rintro e w2 ⟨rfl, hb2⟩))
    go_ret2
    exact ⟨rfl, bvia hb1 hb2⟩

set_option maxRecDepth 100000 in
set_option maxHeartbeats 1600000 in
theorem rates_arg (ao : Option Addr) (c n : Nat) (pl fl : ByteArray) (w : World) (h : Calls Try.prog 28 #[.slice ao n c] w (RE w 1))
    (hs : ∀ s ∈ [pl, fl], s.size ≤ 4611686018427387904) (hok : allOK [pl, fl]) :
    Calls Try.prog 46 #[.slice ao n c, .string pl, .string fl] w (RetErr w 1) := by
  have hH := Lib.hid h
  have hsH := Lib.hid hs
  have hokH := Lib.hid hok
  clear h hs hok
  go_enter Try.func46, Try.ntmps46
  go_wp2_with (first
    | (go_at_call 28; (with_reducible refine hH.out.mono ?_); rintro e w1 ⟨a1, n1, d1, rfl, hb1⟩)
    | (go_at_call 50; go_loud (with_reducible refine (numbers_at (some ⟨w1.heap.size, 0, none⟩) 2 2 [pl, fl] _ rfl (sl_two w1 pl fl _) (by omega) hsH.out hokH.out).mono ?_); rintro e w2 ⟨a2, d2, rfl, hV2, hb2⟩))
  go_ret2
  exact ⟨rfl, bvia hb1 hb2⟩

/-- Are the costs well? -/
def costOK (q : Rat) : Prop := 0 < sg (rn q) ∧ fits q 6 = true

set_option maxRecDepth 100000 in
set_option maxHeartbeats 3200000 in
theorem rates_cost (ao : Option Addr) (c n : Nat) (pl fl : ByteArray) (w : World) (h : Calls Try.prog 28 #[.slice ao n c] w (RE w 0))
    (hs : ∀ s ∈ [pl, fl], s.size ≤ 4611686018427387904) (hok : allOK [pl, fl]) (hz : Sz (parseQ pl) ∧ Sz (parseQ fl)) (hbad : ¬ (costOK (parseQ pl) ∧ costOK (parseQ fl))) :
    Calls Try.prog 46 #[.slice ao n c, .string pl, .string fl] w (RetErr w 1) := by
  have hH := Lib.hid h
  have hsH := Lib.hid hs
  have hokH := Lib.hid hok
  obtain ⟨c0, hc0⟩ : ∃ c0, c0 = parseQ pl := ⟨_, rfl⟩
  obtain ⟨c1, hc1⟩ : ∃ c1, c1 = parseQ fl := ⟨_, rfl⟩
  have hcs : Hid ([pl, fl].map parseQ = [c0, c1]) := by show _ = _; rw [hc0, hc1]; rfl
  rw [← hc0, ← hc1] at hbad
  have hzz : Hid (∀ (k : Nat) (r : Rat), [c0, c1][k]? = some r → Sz r) := by
    intro k r hr
    rcases k with _ | _ | k
    · simp at hr; subst hr; rw [hc0]; exact hz.1
    · simp at hr; subst hr; rw [hc1]; exact hz.2
    · simp at hr
  have hbadH : Hid (¬ ∀ (k : Nat) (r : Rat), k < 2 → [c0, c1][k]? = some r → costOK r) := fun hh => hbad ⟨hh 0 c0 (by omega) rfl, hh 1 c1 (by omega) rfl⟩
  clear h hs hok hz hbad hc0 hc1
  go_enter Try.func46, Try.ntmps46
  go_wp2_with (first
    | (go_at_call 28; (with_reducible refine hH.out.mono ?_); rintro e w1 ⟨a1, n1, d1, rfl, hb1⟩; have hb1H := Lib.hid hb1; clear hb1)
    | (go_at_call 50; go_loud (with_reducible refine (numbers_at (some ⟨w1.heap.size, 0, none⟩) 2 2 [pl, fl] _ rfl (sl_two w1 pl fl _) (by omega) hsH.out hokH.out).mono ?_); rintro e w2 ⟨a2, d2, rfl, hV2, hb2⟩; rw [hcs.out] at hV2; have hQ2 := Lib.hid (QV.ql hV2); have hb2H := Lib.hid (bvia hb1H.out hb2); clear hV2 hb2))
  go_loopw [44] (fun i wr => ∃ k, i = .int .i64 (k : Nat) ∧ k ≤ 2 ∧ (∀ (j : Nat) (r : Rat), j < k → [c0, c1][j]? = some r → costOK r) ∧ Below w2.heap.size w2 wr) (fun i _ => 2 - (intOf i).toNat)
  case atStart => exact ⟨0, rfl, by omega, fun j r hj => absurd hj (by omega), Below.refl _ _⟩
  case round =>
    obtain ⟨k, rfl, hk, hall, hbl⟩ := hrel
    have hblH := Lib.hid hbl
    have hallH := Lib.hid hall
    clear hall
    by_cases hk2 : k < 2
    · obtain ⟨r, hr⟩ : ∃ r, [c0, c1][k]? = some r := ⟨_, List.getElem?_eq_getElem (by simp; omega)⟩
      obtain ⟨b2, o2, p2, rfl, hm2, e0, e1, e2, e3⟩ := (hQ2.out.below hbl) k r hr
      have hmr := Lib.hid (show RM wr p2.a p2.c p2.a' p2.c' r from hm2)
      have hs2 := Lib.hid (hzz.out k r hr)
      have hrH := Lib.hid hr
      have hkk : (k : Int) < 2 := by omega
      clear hr hm2 hbl
      by_cases h1 : 0 < sg (rn r)
      · have hs3 : ¬ sg (rn r) ≤ 0 := by omega
        by_cases h2 : fits r 6 = true
        · have hnx : Hid (∀ (j : Nat) (r : Rat), j < k + 1 → [c0, c1][j]? = some r → costOK r) := fun j r' hj hr' => by
            by_cases e : j = k
            · subst e; rw [hrH.out] at hr'; injection hr' with hr'; subst hr'; exact ⟨h1, h2⟩
            · exact hallH.out j r' (by omega) hr'
          clear h1
          go_wp2_with (first
            | (go_at_call 29; go_loud (with_reducible refine (rsign_any p2.a p2.c p2.a' p2.c' r _).mono ?_); rintro e w6 ⟨rfl, hb6⟩; have d0 := Below.cellAt (b := wr.heap.size) (o := 0) (v := .bool (ng (rn r))) hb6 (Nat.le_refl _) (by simp [go_sem]); have d1 := Below.cellAt (b := wr.heap.size) (o := 1) (v := .slice p2.a (LI (rn r)) p2.c) hb6 (Nat.le_refl _) (by simp [go_sem]); have d2 := Below.cellAt (b := wr.heap.size) (o := 2) (v := .bool (ng (rd r))) hb6 (Nat.le_refl _) (by simp [go_sem]); have d3 := Below.cellAt (b := wr.heap.size) (o := 3) (v := .slice p2.a' (LI (rd r)) p2.c') hb6 (Nat.le_refl _) (by simp [go_sem]); have hb6H := Lib.hid (bvia hblH.out hb6); have hm6 := Lib.hid (show RM w6 p2.a p2.c p2.a' p2.c' r from RM.up (RM.up hmr.out ((Below.refl _ _).alloc (Nat.le_refl _) _)) hb6); clear hb6)
            | (go_at_call 51; go_loud (with_reducible refine (fits6 p2.a p2.c p2.a' p2.c' r _ hm6.out hs2.out).mono ?_); rintro e w7 ⟨rfl, hb7⟩; have hb7H := Lib.hid (bseq hb6H.out hb7); clear hb7))
          go_roundw
          case rel => exact ⟨k + 1, by go_num, by omega, hnx.out, hb7H.out⟩
          case measure => simp [intOf]; omega
        · have h2' : fits r 6 = false := by simpa using h2
          clear h1 h2
          go_wp2_with (first
            | (go_at_call 29; go_loud (with_reducible refine (rsign_any p2.a p2.c p2.a' p2.c' r _).mono ?_); rintro e w6 ⟨rfl, hb6⟩; have d0 := Below.cellAt (b := wr.heap.size) (o := 0) (v := .bool (ng (rn r))) hb6 (Nat.le_refl _) (by simp [go_sem]); have d1 := Below.cellAt (b := wr.heap.size) (o := 1) (v := .slice p2.a (LI (rn r)) p2.c) hb6 (Nat.le_refl _) (by simp [go_sem]); have d2 := Below.cellAt (b := wr.heap.size) (o := 2) (v := .bool (ng (rd r))) hb6 (Nat.le_refl _) (by simp [go_sem]); have d3 := Below.cellAt (b := wr.heap.size) (o := 3) (v := .slice p2.a' (LI (rd r)) p2.c') hb6 (Nat.le_refl _) (by simp [go_sem]); have hb6H := Lib.hid (bvia hblH.out hb6); have hm6 := Lib.hid (show RM w6 p2.a p2.c p2.a' p2.c' r from RM.up (RM.up hmr.out ((Below.refl _ _).alloc (Nat.le_refl _) _)) hb6); clear hb6)
            | (go_at_call 51; go_loud (with_reducible refine (fits6 p2.a p2.c p2.a' p2.c' r _ hm6.out hs2.out).mono ?_); rintro e w7 ⟨rfl, hb7⟩; have hb7H := Lib.hid (bseq hb6H.out hb7); clear hb7))
          go_ret2
          exact ⟨rfl, bseq hb2H.out hb7H.out⟩
      · have hs3 : sg (rn r) ≤ 0 := by omega
        clear h1
        go_wp2_with (first
          | (go_at_call 29; go_loud (with_reducible refine (rsign_any p2.a p2.c p2.a' p2.c' r _).mono ?_); rintro e w6 ⟨rfl, hb6⟩; have hb6H := Lib.hid (bvia hblH.out hb6); clear hb6))
        go_ret2
        exact ⟨rfl, bseq hb2H.out hb6H.out⟩
    · exact absurd (fun j r hj hr => hallH.out j r (by omega) hr) hbadH.out

end Go.Proofs.Ytcaeonpjokkjnaa

/- Walks of package wear: Replace, Rates. -/
namespace Go.Proofs.Ytcaeonpjokkjnaa
open Go Go.RowKit Go.Proofs

/-- The first of the least ones among the first k. -/
def nth (qs : List Rat) (i : Nat) : Rat := qs[i]?.getD 0
def bestK (qs : List Rat) : Nat → Nat
  | 0 => 0
  | k + 1 => if rsg (nth qs k) (nth qs (bestK qs k)) < 0 then k else bestK qs k
theorem bestK_le (qs : List Rat) : ∀ k, bestK qs k ≤ k
  | 0 => Nat.le_refl _
  | k + 1 => by
    have := bestK_le qs k
    rw [bestK]
    split <;> omega
theorem bestK_lt (qs : List Rat) (k : Nat) (h : 0 < k) : bestK qs k < k := by
  rcases k with _ | k
  · omega
  · have := bestK_le qs k
    rw [bestK]
    split <;> omega

/-- What Replace answers. -/
def RetBest (w : World) (n : Nat) (s : ByteArray) (e : Ending) (w' : World) : Prop := e = .returned (.tuple #[.int .i64 (n : Nat), .string s, .int .i64 0]) ∧ Below w.heap.size w w'
def RetBestErr (w : World) (k : Int) (e : Ending) (w' : World) : Prop := e = .returned (.tuple #[.int .i64 0, .string ⟨#[]⟩, .int .i64 k]) ∧ Below w.heap.size w w'

set_option maxRecDepth 100000 in
set_option maxHeartbeats 800000 in
theorem replace_bad (k : Int) (hk : (k != 0) = true) (ao : Option Addr) (c n : Nat) (pl fl : ByteArray) (w : World) (h : Calls Try.prog 46 #[.slice ao n c, .string pl, .string fl] w (RetErr w k)) :
    Calls Try.prog 21 #[.slice ao n c, .string pl, .string fl] w (RetBestErr w k) := by
  have hH := Lib.hid h
  clear h
  go_enter Try.func21, Try.ntmps21
  go_wp2_with (first | (go_at_call 46; (with_reducible refine hH.out.mono ?_); rintro e w1 ⟨rfl, hb1⟩))
  refine bodyPost_ret (v := .tuple #[.int .i64 0, .string ⟨#[]⟩, .int .i64 k]) (by simp [results, Try.results21, go_sem]) rfl ?_
  exact ⟨rfl, hb1⟩

set_option maxRecDepth 100000 in
set_option maxHeartbeats 800000 in
theorem ratesT_bad (k : Int) (hk : (k != 0) = true) (ao : Option Addr) (c n : Nat) (pl fl : ByteArray) (w : World) (h : Calls Try.prog 46 #[.slice ao n c, .string pl, .string fl] w (RetErr w k)) :
    Calls Try.prog 20 #[.slice ao n c, .string pl, .string fl] w (RetErr w k) := by
  have hH := Lib.hid h
  clear h
  go_enter Try.func20, Try.ntmps20
  go_wp2_with (first | (go_at_call 46; (with_reducible refine hH.out.mono ?_); rintro e w1 ⟨rfl, hb1⟩))
  go_ret2
  exact ⟨rfl, hb1⟩

set_option maxRecDepth 100000 in
set_option maxHeartbeats 800000 in
theorem ratesT_good (rs : List Rat) (ao : Option Addr) (c n : Nat) (pl fl : ByteArray) (w : World) (h : Calls Try.prog 46 #[.slice ao n c, .string pl, .string fl] w (RetLives w rs)) (hl : rs.length ≤ 12)
    (hz : ∀ r ∈ rs, Sz r ∧ numRes r = (nt r, 0)) :
    Calls Try.prog 20 #[.slice ao n c, .string pl, .string fl] w (RetNums w (rs.map nt)) := by
  have hH := Lib.hid h
  have hzH := Lib.hid hz
  clear h hz
  go_enter Try.func20, Try.ntmps20
  go_wp2_with (first
    | (go_at_call 46; (with_reducible refine hH.out.mono ?_); rintro e w1 ⟨a1, c1, rfl, hV, hb1⟩; have hP := Lib.hid (show QL w1 a1 rs from QV.ql hV); have hb1H := Lib.hid hb1; clear hV hb1)
    | (go_at_call 35; go_loud (with_reducible refine (told_any a1 c1 rs _ hP.out (by omega) (fun q hq => (hzH.out q hq).1) (fun q hq => (hzH.out q hq).2)).mono ?_); rintro e w2 ⟨a2, c2, rfl, hV2, hb2⟩))
  go_ret2
  exact ⟨a2, c2, by rw [List.length_map]; rfl, hV2.base hb1H.out.size, bseq hb1H.out hb2⟩

set_option maxRecDepth 100000 in
set_option maxHeartbeats 1600000 in
theorem replace_good (rs : List Rat) (ao : Option Addr) (c n : Nat) (pl fl : ByteArray) (w : World) (h : Calls Try.prog 46 #[.slice ao n c, .string pl, .string fl] w (RetLives w rs)) (h1 : 1 ≤ rs.length) (hl : rs.length ≤ 12)
    (hz : ∀ r ∈ rs, Sz r ∧ numRes r = (nt r, 0)) :
    Calls Try.prog 21 #[.slice ao n c, .string pl, .string fl] w (RetBest w (bestK rs rs.length + 1) (nt (nth rs (bestK rs rs.length)))) := by
  have hH := Lib.hid h
  have hzH := Lib.hid hz
  obtain ⟨m, hm⟩ : ∃ m, rs.length = m := ⟨_, rfl⟩
  have hmH := Lib.hid hm
  rw [hm] at h1 hl ⊢
  clear h hz hm
  go_enter Try.func21, Try.ntmps21
  go_wp2_with (first
    | (go_at_call 46; (with_reducible refine hH.out.mono ?_); rintro e w1 ⟨a1, c1, rfl, hV, hb1⟩; have hcap := QV.cap hV rfl; have hP := Lib.hid (show QL w1 a1 rs from QV.ql hV); have hb1H := Lib.hid hb1; rw [hmH.out] at hcap ⊢; clear hV hb1))
  go_loopw [11, 27] (fun b i wr => ∃ k, i = .int .i64 (k : Nat) ∧ k ≤ m ∧ b = .int .i64 (bestK rs k : Nat) ∧ Below w1.heap.size w1 wr) (fun _ i _ => m - (intOf i).toNat)
  case atStart => exact ⟨0, rfl, by omega, rfl, Below.refl _ _⟩
  case round =>
    obtain ⟨k, rfl, hk, rfl, hbl⟩ := hrel
    have hblH := Lib.hid hbl
    by_cases hkm : k < m
    · obtain ⟨q, hq⟩ : ∃ q, rs[k]? = some q := ⟨_, List.getElem?_eq_getElem (by rw [hmH.out]; exact hkm)⟩
      obtain ⟨t, ht⟩ : ∃ t, t = bestK rs k := ⟨_, rfl⟩
      have htk : t ≤ k := by rw [ht]; exact bestK_le rs k
      obtain ⟨r, hr⟩ : ∃ r, rs[t]? = some r := ⟨_, List.getElem?_eq_getElem (by rw [hmH.out]; omega)⟩
      obtain ⟨b1, o1, p1, ha1, hm1, e0, e1, e2, e3⟩ := (hP.out.below hbl) k q hq
      obtain ⟨b2, o2, p2, ha2, hm2, f0, f1, f2, f3⟩ := (hP.out.below hbl) t r hr
      rw [ha1] at ha2
      injection ha2 with ha2
      injection ha2 with g1 g2 g3
      subst g1 g2 ha1
      have hzq := Lib.hid (hzH.out q (List.mem_of_getElem? hq))
      have hzr := Lib.hid (hzH.out r (List.mem_of_getElem? hr))
      have hnx : Hid (bestK rs (k + 1) = if rsg q r < 0 then k else t) := by
        show _ = _
        rw [bestK, ← ht]
        unfold nth
        rw [hq, hr]
        rfl
      have htH := Lib.hid ht
      rw [← ht]
      obtain ⟨W, hW⟩ : ∃ W, W = wr.alloc (Obj.cells #[.bool (ng (rn q)), .slice p1.a (LI (rn q)) p1.c, .bool (ng (rd q)), .slice p1.a' (LI (rd q)) p1.c'] 70) := ⟨_, rfl⟩
      have hbW : Below wr.heap.size wr W := by rw [hW]; exact (Below.refl _ _).alloc (Nat.le_refl _) _
      have x0 : W.cell? ⟨wr.heap.size, 0, none⟩ = some (.bool (ng (rn q))) := by rw [hW]; simp [go_sem]
      have x1 : W.cell? ⟨wr.heap.size, 1, none⟩ = some (.slice p1.a (LI (rn q)) p1.c) := by rw [hW]; simp [go_sem]
      have x2 : W.cell? ⟨wr.heap.size, 2, none⟩ = some (.bool (ng (rd q))) := by rw [hW]; simp [go_sem]
      have x3 : W.cell? ⟨wr.heap.size, 3, none⟩ = some (.slice p1.a' (LI (rd q)) p1.c') := by rw [hW]; simp [go_sem]
      have y0 := Below.cellAt hbW (Nat.le_refl _) f0
      have y1 := Below.cellAt hbW (Nat.le_refl _) f1
      have y2 := Below.cellAt hbW (Nat.le_refl _) f2
      have y3 := Below.cellAt hbW (Nat.le_refl _) f3
      have hzW : wr.heap.size < W.heap.size := by rw [hW]; simp
      have hzb : b1 < W.heap.size := World.block_lt_of_cell? W _ y0
      have hM1 := Lib.hid (show RM W p1.a p1.c p1.a' p1.c' q from RM.up hm1 hbW)
      have hM2 := Lib.hid (show RM W p2.a p2.c p2.a' p2.c' r from RM.up hm2 hbW)
      have hbWH := Lib.hid (bseq hblH.out hbW)
      have hkk : (k : Int) < m := by omega
      have htc : (t : Int) < m := by omega
      have hWH := Lib.hid hW
      clear hW hbW hm1 hm2 f0 f1 f2 f3 hq hr hbl ht
      go_upto_region 8 with (fail)
      rw [← hWH.out]
      clear e0 e1 e2 e3
      by_cases hlt : rsg q r < 0
      · have hnx2 : Hid (bestK rs (k + 1) = k) := by show _ = _; rw [hnx.out, if_pos hlt]
        go_region_held3 (fun w' => Kq W w')
          (first | (with_reducible exact Kq.drew _) | (with_reducible exact k5.out) | (with_reducible exact Kq.step (by assumption) (by assumption)))
          (first
            | (go_at_call 47; (with_reducible refine (rcmp_any p1.a p1.c p1.a' p1.c' p2.a p2.c p2.a' p2.c' q r _ (hM1.out.kq (by assumption)) (hM2.out.kq (by assumption)) hzq.out.1 hzr.out.1).mono ?_); rintro e w5 ⟨rfl, hb5⟩; have k5 : Hid (Kq W w5) := Kq.step (by assumption) hb5))
        go_wp2_with (fail)
        go_roundw
        case rel => exact ⟨k + 1, by go_num, by omega, by rw [hnx2.out], bseq hbWH.out k5.out.2⟩
        case measure => simp [intOf]; omega
      · have hnx2 : Hid (bestK rs (k + 1) = t) := by show _ = _; rw [hnx.out, if_neg hlt]
        go_region_held3 (fun w' => Kq W w')
          (first | (with_reducible exact Kq.drew _) | (with_reducible exact k5.out) | (with_reducible exact Kq.step (by assumption) (by assumption)))
          (first
            | (go_at_call 47; (with_reducible refine (rcmp_any p1.a p1.c p1.a' p1.c' p2.a p2.c p2.a' p2.c' q r _ (hM1.out.kq (by assumption)) (hM2.out.kq (by assumption)) hzq.out.1 hzr.out.1).mono ?_); rintro e w5 ⟨rfl, hb5⟩; have k5 : Hid (Kq W w5) := Kq.step (by assumption) hb5))
        go_wp2_with (fail)
        go_roundw
        case rel => exact ⟨k + 1, by go_num, by omega, by rw [hnx2.out], bseq hbWH.out k5.out.2⟩
        case measure => simp [intOf]; omega
    · have hke : k = m := by omega
      subst hke
      have hlt := bestK_lt rs k h1
      obtain ⟨t, ht⟩ : ∃ t, t = bestK rs k := ⟨_, rfl⟩
      rw [← ht] at hlt
      have htH := Lib.hid ht
      obtain ⟨r, hr⟩ : ∃ r, rs[t]? = some r := ⟨_, List.getElem?_eq_getElem (by rw [hmH.out]; exact hlt)⟩
      have hgr : Hid (nth rs t = r) := by show _ = _; unfold nth; rw [hr]; rfl
      rw [← htH.out]
      obtain ⟨b2, o2, p2, rfl, hm2, f0, f1, f2, f3⟩ := (hP.out.below hbl) t r hr
      have hM2 := Lib.hid (show RM wr p2.a p2.c p2.a' p2.c' r from hm2)
      have hzr := Lib.hid (hzH.out r (List.mem_of_getElem? hr))
      have htc : (t : Int) < k := by omega
      clear hm2 hr hbl ht hkm
      go_wp2_with (first
        | (go_at_call 31; go_loud (with_reducible refine (rnum_ok p2.a p2.c p2.a' p2.c' r _ hM2.out hzr.out.1 hzr.out.2).mono ?_); rintro e w8 ⟨rfl, hb8⟩))
      refine bodyPost_ret (v := .tuple #[.int .i64 ((t + 1 : Nat) : Int), .string (nt r), .int .i64 0]) (by simp [results, Try.results21, go_sem]) rfl ?_
      exact ⟨by rw [← htH.out, hgr.out], bseq (bseq hb1H.out hblH.out) hb8⟩

end Go.Proofs.Ytcaeonpjokkjnaa

/- Sizes that the walk of rates asks for. Plain. -/
namespace Go.Proofs.Ytcaeonpjokkjnaa

theorem rnum_pos {q : Rat} : 0 < q.num ↔ 0 < q := by
  rw [Rat.lt_iff]
  show 0 < q.num ↔ (0 : Int) * (q.den : Int) < q.num * ((1 : Nat) : Int)
  simp

/-- A cost, in plain words. -/
structure Cs (c : Rat) : Prop where
  pos : 0 < c
  le : c ≤ 1000000
  den : c.den ≤ 1000000
theorem Cs.of {c : Rat} (h : costOK c) : Cs c := by
  obtain ⟨h1, h2⟩ := h
  obtain ⟨h3, h4⟩ := fits_den h2
  have e : p10 6 = 1000000 := by decide
  have hn : 0 < c.num := by
    have : 0 < sg c.num := h1
    unfold sg at this
    split at this
    · omega
    · split at this <;> omega
  refine ⟨rnum_pos.1 hn, ?_, by omega⟩
  rw [Rat.le_iff]
  have h5 : c.num.natAbs < p10 6 := h4
  have h6 := c.den_pos
  show c.num * ((1 : Nat) : Int) ≤ (1000000 : Int) * (c.den : Int)
  omega

theorem Iz.fin9 {d j : Nat} {q : Rat} (h : Iz d q) (hd : 0 < d) (hj : d ≤ p10 j) (hj2 : j ≤ 3990) (h0 : 0 ≤ q) (hk : q ≤ 2000000) : Sz q ∧ numRes q = (nt q, 0) :=
  h.sz (k := 2000000) hd h0 (by exact hk) (small hj hj2 (by omega)) (by have := small (k := 1) hj hj2 (by omega); omega)
theorem mul_p10 {a b i j : Nat} (h1 : a ≤ p10 i) (h2 : b ≤ p10 j) : a * b ≤ p10 (i + j) := by
  rw [p10_add]; exact Nat.mul_le_mul h1 h2
theorem mil_p10 {a : Nat} (h : a ≤ 1000000) : a ≤ p10 6 := by
  have e : p10 6 = 1000000 := by decide
  omega

theorem Lv.time1 {ps : List Rat} (h : Lv ps) (k : Nat) : 1 ≤ Go.Proofs.Ytcaeonpjokkjnaa.psum (aboveL ps) (k + 1) := by
  have hp := h.pos
  obtain ⟨n, hn⟩ : ∃ n, ps.length = n + 1 := ⟨ps.length - 1, by omega⟩
  have e : aboveL ps = 1 :: ((List.range n).map fun i => Go.Proofs.Ytcaeonpjokkjnaa.left ps (i + 1)) := by
    unfold aboveL
    rw [hn, List.range_succ_eq_map, List.map_cons, List.map_map]
    congr 1
    unfold Go.Proofs.Ytcaeonpjokkjnaa.left Go.Proofs.Ytcaeonpjokkjnaa.psum
    simp
    grind
  unfold Go.Proofs.Ytcaeonpjokkjnaa.psum
  rw [e, List.take_succ_cons, List.sum_cons]
  have : 0 ≤ (List.take k ((List.range n).map fun i => Go.Proofs.Ytcaeonpjokkjnaa.left ps (i + 1))).sum := sum_nonneg _ fun q hq => by
    have h1 := List.mem_of_mem_take hq
    obtain ⟨i, _, rfl⟩ := List.mem_map.1 h1
    exact (h.left _).1
  grind

/-- The costs of an age. -/
theorem Lv.cost {ps : List Rat} (h : Lv ps) {c0 c1 : Rat} (h0 : Cs c0) (h1 : Cs c1) (k : Nat) :
    0 ≤ costQ ps c0 c1 k ∧ costQ ps c0 c1 k ≤ 2000000 ∧ Iz (c0.den * c1.den * Go.Proofs.Ytcaeonpjokkjnaa.dens ps) (costQ ps c0 c1 k) := by
  obtain ⟨a, b, c⟩ := h.psum (k + 1)
  obtain ⟨a2, b2, c2⟩ := h.left (k + 1)
  unfold Go.Proofs.Ytcaeonpjokkjnaa.left at a2 b2 c2
  have p0 := Rat.le_of_lt h0.pos
  have p1 := Rat.le_of_lt h1.pos
  have m0 := Rat.mul_nonneg p1 a
  have m1 := Rat.mul_nonneg p0 a2
  have l0 : c1 * Go.Proofs.Ytcaeonpjokkjnaa.psum ps (k + 1) ≤ c1 * 1 := Rat.mul_le_mul_of_nonneg_left b p1
  have l1 : c0 * (1 - Go.Proofs.Ytcaeonpjokkjnaa.psum ps (k + 1)) ≤ c0 * 1 := Rat.mul_le_mul_of_nonneg_left b2 p0
  have q0 := h0.le
  have q1 := h1.le
  unfold costQ
  refine ⟨by grind, by grind, Iz.add ?_ ?_⟩
  · have := ((Iz.self c1).mul c).up c0.den
    rw [show c1.den * Go.Proofs.Ytcaeonpjokkjnaa.dens ps * c0.den = c0.den * c1.den * Go.Proofs.Ytcaeonpjokkjnaa.dens ps by rw [Nat.mul_comm c0.den c1.den, Nat.mul_right_comm]] at this
    exact this
  · have := ((Iz.self c0).mul c2).up c1.den
    rw [Nat.mul_right_comm] at this
    exact this
theorem Cs.dens {ps : List Rat} (h : Lv ps) {c0 c1 : Rat} (h0 : Cs c0) (h1 : Cs c1) : c0.den * c1.den * Go.Proofs.Ytcaeonpjokkjnaa.dens ps ≤ p10 84 ∧ 0 < c0.den * c1.den * Go.Proofs.Ytcaeonpjokkjnaa.dens ps :=
  ⟨mul_p10 (i := 12) (mul_p10 (i := 6) (j := 6) (mil_p10 h0.den) (mil_p10 h1.den)) h.dens, Nat.mul_pos (Nat.mul_pos c0.den_pos c1.den_pos) (dens_pos ps)⟩

theorem Lv.rates {ps : List Rat} (h : Lv ps) {c0 c1 : Rat} (h0 : Cs c0) (h1 : Cs c1) : RatesSz ps c0 c1 where
  left := h.mean.left
  own := h.mean.own
  gone k := by
    obtain ⟨a, b, c⟩ := h.psum k
    exact (h.fin1 c a (le_12 b)).1
  planned := ((Iz.self c0).fin9 c0.den_pos (mil_p10 h0.den) (by omega) (Rat.le_of_lt h0.pos) (by have := h0.le; grind)).1
  failed := ((Iz.self c1).fin9 c1.den_pos (mil_p10 h1.den) (by omega) (Rat.le_of_lt h1.pos) (by have := h1.le; grind)).1
  m1 k := by
    obtain ⟨a, b, c⟩ := h.psum k
    have l0 : c1 * Go.Proofs.Ytcaeonpjokkjnaa.psum ps k ≤ c1 * 1 := Rat.mul_le_mul_of_nonneg_left b (Rat.le_of_lt h1.pos)
    exact (((Iz.self c1).mul c).fin9 (Nat.mul_pos c1.den_pos (dens_pos ps)) (mul_p10 (mil_p10 h1.den) h.dens) (by omega) (Rat.mul_nonneg (Rat.le_of_lt h1.pos) a) (by have := h1.le; grind)).1
  m2 k := h.mean.left k
  m3 k := by
    obtain ⟨a, b, c⟩ := h.left k
    have l0 : c0 * Go.Proofs.Ytcaeonpjokkjnaa.left ps k ≤ c0 * 1 := Rat.mul_le_mul_of_nonneg_left b (Rat.le_of_lt h0.pos)
    exact (((Iz.self c0).mul c).fin9 (Nat.mul_pos c0.den_pos (dens_pos ps)) (mul_p10 (mil_p10 h0.den) h.dens) (by omega) (Rat.mul_nonneg (Rat.le_of_lt h0.pos) a) (by have := h0.le; grind)).1
  cost k := by
    obtain ⟨a, b, c⟩ := h.cost h0 h1 k
    obtain ⟨d, e⟩ := Cs.dens h h0 h1
    exact (c.fin9 e d (by omega) a b).1
  time k := h.mean.sums k
  pos k _ := by
    have := h.time1 k
    exact rnum_pos.2 (by grind)

theorem Lv.rate {ps : List Rat} (h : Lv ps) {c0 c1 : Rat} (h0 : Cs c0) (h1 : Cs c1) (k : Nat) : Sz (rateQ ps c0 c1 k) ∧ numRes (rateQ ps c0 c1 k) = (nt (rateQ ps c0 c1 k), 0) := by
  obtain ⟨a, b, c⟩ := h.cost h0 h1 k
  obtain ⟨d, e⟩ := Cs.dens h h0 h1
  obtain ⟨a2, b2, c2⟩ := h.time (k + 1)
  have t1 := h.time1 k
  obtain ⟨z, hz⟩ := c
  obtain ⟨y, hy⟩ := c2
  have hD : (0 : Rat) < ((Go.Proofs.Ytcaeonpjokkjnaa.dens ps : Int) : Rat) := by exact_mod_cast dens_pos ps
  have hy0 : (0 : Rat) < (y : Rat) := by rw [← hy]; exact Rat.mul_pos (by grind) hD
  have hy1 : 0 < y := by exact_mod_cast hy0
  have hyb : y ≤ 12 * (Go.Proofs.Ytcaeonpjokkjnaa.dens ps : Int) := by
    have : (y : Rat) ≤ ((12 * (Go.Proofs.Ytcaeonpjokkjnaa.dens ps : Int) : Int) : Rat) := by
      rw [← hy, Rat.intCast_mul]
      exact Rat.mul_le_mul_of_nonneg_right b2 (Rat.le_of_lt hD)
    exact Rat.intCast_le_intCast.1 this
  obtain ⟨n, rfl⟩ : ∃ n : Nat, y = n := ⟨y.toNat, by omega⟩
  have ht0 : Go.Proofs.Ytcaeonpjokkjnaa.psum (aboveL ps) (k + 1) ≠ 0 := by intro e; rw [e] at t1; exact absurd t1 (by decide)
  have hr : rateQ ps c0 c1 k * Go.Proofs.Ytcaeonpjokkjnaa.psum (aboveL ps) (k + 1) = costQ ps c0 c1 k := by unfold rateQ; exact Rat.div_mul_cancel ht0
  have hI : Iz (c0.den * c1.den * n) (rateQ ps c0 c1 k) := by
    refine ⟨z, ?_⟩
    rw [← hz, ← hr]
    rw [Int.natCast_mul, Rat.intCast_mul, ← hy]
    rw [show ((c0.den * c1.den * Go.Proofs.Ytcaeonpjokkjnaa.dens ps : Nat) : Int) = ((c0.den * c1.den : Nat) : Int) * (Go.Proofs.Ytcaeonpjokkjnaa.dens ps : Int) from Int.natCast_mul _ _, Rat.intCast_mul]
    grind
  have hr0 : 0 ≤ rateQ ps c0 c1 k := by
    unfold rateQ
    rw [Rat.div_def]
    exact Rat.mul_nonneg a (Rat.le_of_lt (Rat.inv_pos.2 (by grind)))
  have hr1 : rateQ ps c0 c1 k ≤ 2000000 := by
    have : rateQ ps c0 c1 k * 1 ≤ rateQ ps c0 c1 k * Go.Proofs.Ytcaeonpjokkjnaa.psum (aboveL ps) (k + 1) := Rat.mul_le_mul_of_nonneg_left t1 hr0
    rw [hr] at this
    grind
  have hn : n ≤ p10 74 := by
    have h2 : (12 : Nat) * Go.Proofs.Ytcaeonpjokkjnaa.dens ps ≤ p10 2 * p10 72 := Nat.mul_le_mul (by decide) h.dens
    rw [← p10_add] at h2
    have h3 : p10 (2 + 72) = p10 74 := rfl
    omega
  exact hI.fin9 (Nat.mul_pos (Nat.mul_pos c0.den_pos c1.den_pos) (by omega)) (mul_p10 (i := 12) (mul_p10 (i := 6) (j := 6) (mil_p10 h0.den) (mil_p10 h1.den)) hn) (by omega) hr0 hr1
theorem Lv.rateL {ps : List Rat} (h : Lv ps) {c0 c1 : Rat} (h0 : Cs c0) (h1 : Cs c1) : ∀ r ∈ Go.Proofs.Ytcaeonpjokkjnaa.rateL ps c0 c1, Sz r ∧ numRes r = (nt r, 0) := fun r hr => by
  obtain ⟨k, _, rfl⟩ := List.mem_map.1 hr
  exact h.rate h0 h1 k

end Go.Proofs.Ytcaeonpjokkjnaa
