/- Ye -/
import Derived.Test.YtbehfhmdilifkaaGreatQYa
import Derived.Test.YtbehfhmdilifkaaGreatQWn
import Derived.Test.YtbehfhmdilifkaaGreatQWo
import Derived.Deep.CutRange
set_option linter.unusedVariables false
/- Walk of the reference's Parse. -/
namespace Go.Proofs.YtbehfhmdilifkaaGreat
open Go Go.RowKit Go.Proofs

/-- What digits answers, in one form. -/
noncomputable def dok (s : ByteArray) : Bool := @decide (readOK s) (Classical.propDecidable _)
noncomputable def dv (s : ByteArray) : Nat := if dok s then rv s s.size else 0
theorem dok_true {s : ByteArray} (h : readOK s) : dok s = true := by unfold dok; simp [h]
theorem dok_false {s : ByteArray} (h : ¬ readOK s) : dok s = false := by unfold dok; simp [h]
theorem dok_iff {s : ByteArray} : dok s = true ↔ readOK s := by unfold dok; simp
def DigU (w : World) (s : ByteArray) (e : Ending) (w' : World) : Prop :=
  ∃ a c, e = .returned (.tuple #[.agg #[.bool false, .slice a (L B4 (dv s)) c], .bool (dok s)]) ∧ MagZ w' a c (dv s) ∧ Below w.heap.size w w'
theorem digits_u (s : ByteArray) (w : World) (hs : s.size ≤ 4611686018427387904) :
    Calls Tryz.prog 67 #[.string s] w (DigU w s) := by
  refine (digits_any s w hs).mono fun e w' h => ?_
  rcases h with ⟨h, a, c, h1, h2, h3⟩ | ⟨h, h1, h2⟩
  · have e1 : dv s = rv s s.size := by unfold dv; rw [dok_true h]; rfl
    exact ⟨a, c, by rw [e1, dok_true h]; exact h1, by rw [e1]; exact h2, h3⟩
  · have e1 : dv s = 0 := by unfold dv; rw [dok_false h]; rfl
    exact ⟨none, 0, by rw [e1, dok_false h, L_zero]; exact h1, by rw [e1]; exact MagZ.zero _ _ _, h2⟩
theorem p10_pos (k : Nat) : 0 < p10 k := Nat.pow_pos (by omega)
theorem dv_lt (s : ByteArray) : dv s < p10 4000 := by
  unfold dv
  by_cases h : dok s = true
  · rw [if_pos h]
    have h1 := dok_iff.1 h
    exact Nat.lt_of_lt_of_le (rv_L h1.1 _) (p10_mono h1.2.2.2)
  · rw [if_neg h]; exact p10_pos 4000
theorem dv_L (s : ByteArray) : L B4 (dv s) ≤ 1000 := by
  exact L_p10 1000 (dv s) (dv_lt s)

/-- A text of more than 8002 bytes is no number. -/
theorem parse_len {s : ByteArray} (h : parseOK s) : s.size ≤ 8002 := by
  have h1 := h.1.2.2.2
  have hb : (over s).size ≤ (bare s).size + 1 := by
    unfold bare
    show _ ≤ (Lib.trimPrefix (over s).data.toList [45]).toArray.size + 1
    rw [List.size_toArray]
    have hl : (over s).data.toList.length = (over s).size := by rw [Array.length_toList]; rfl
    unfold Lib.trimPrefix
    split
    · rw [List.length_drop, hl]; simp; omega
    · rw [hl]; omega
  by_cases hs : stroke s = true
  · have h2 := (h.2.1 hs).1.2.2.2
    have h3 : s.size ≤ (over s).size + (under s).size + 1 := by
      have hc : 0 ≤ cutAt s := of_decide_eq_true hs
      have hlt := cutAt_lt s
      unfold over under
      rw [if_pos hc, if_pos hc, ByteArray.size_extract, ByteArray.size_extract]
      omega
    omega
  · have h3 : over s = s := by
      unfold over
      rw [if_neg (fun hc => hs (decide_eq_true hc))]
    rw [h3] at hb
    omega

theorem int_1 (w : World) : Calls Tryz.prog 34 #[.int .i64 1] w (RetN w 1) := int_nat 1 w (by omega)
theorem int_2 (w : World) : Calls Tryz.prog 34 #[.int .i64 2] w (RetN w 2) := int_nat 2 w (by omega)

/-- What Parse answers. -/
def PPost (w : World) (s : ByteArray) (e : Ending) (w' : World) : Prop :=
  (parseOK s ∧ (∃ a c a' c', e = .returned (.tuple #[.agg #[.bool (ng (rn (parseQ s))), .slice a (LZ (rn (parseQ s))) c, .bool (ng (rd (parseQ s))), .slice a' (LZ (rd (parseQ s))) c'], .bool true]) ∧ QM w' a c a' c' (rn (parseQ s)) (rd (parseQ s))) ∧ Below w.heap.size w w') ∨
  (¬ parseOK s ∧ e = .returned (.tuple #[.agg #[.bool false, .slice none 0 0, .bool false, .slice none 0 0], .bool false]) ∧ Below w.heap.size w w')

def DigB (w : World) (s : ByteArray) (b : Bool) (e : Ending) (w' : World) : Prop :=
  ∃ a c, e = .returned (.tuple #[.agg #[.bool false, .slice a (L B4 (dv s)) c], .bool b]) ∧ MagZ w' a c (dv s) ∧ Below w.heap.size w w'
theorem digits_b (s : ByteArray) (b : Bool) (w : World) (hs : s.size ≤ 4611686018427387904) (hb : dok s = b) :
    Calls Tryz.prog 67 #[.string s] w (DigB w s b) := by
  subst hb; exact digits_u s w hs

theorem Rg.fill2 (w : World) (b0 : Bool) (x0 : Option Addr) (n0 k0 : Nat) (T : TypeId) :
    Rg w.heap.size 2 (w.alloc (Obj.cells #[.bool b0, .slice x0 n0 k0] T)) (w.alloc (Obj.cells #[.bool b0, .slice x0 n0 k0] T)) := by
  refine Rg.mk (Below.refl _ _) (fun o ho => ?_) (fun o => ?_) (noInt_cells (heap_alloc_new w _) fun u hu k z => ?_)
  · rcases o with _ | _ | o
    · simp [go_sem]
    · simp [go_sem]
    · omega
  · simp [go_sem]
  · simp at hu
    rcases hu with rfl | rfl <;> simp

/-- The parts as they lie in memory, and the result's block. -/
def PSt (w wx : World) (N8 N10 : Nat) (a1 : Option Addr) (c1 nv : Nat) (a2 : Option Addr) (c2 dd : Nat) : Prop :=
  wx.cell? ⟨N8, 0, none⟩ = some (.bool false) ∧ wx.cell? ⟨N8, 1, none⟩ = some (.slice a1 (L B4 nv) c1) ∧ wx.cell? ⟨N10, 0, none⟩ = some (.bool false) ∧ wx.cell? ⟨N10, 1, none⟩ = some (.slice a2 (L B4 dd) c2) ∧
  MagZ wx a1 c1 nv ∧ MagZ wx a2 c2 dd ∧ Rg w.heap.size 4 wx wx ∧ Rg N8 2 wx wx ∧ Rg N10 2 wx wx ∧ Below w.heap.size w wx ∧ w.heap.size < N8 ∧ N8 < N10 ∧ N10 < wx.heap.size
theorem PSt.step {w wx w' : World} {N8 N10 : Nat} {a1 : Option Addr} {c1 nv : Nat} {a2 : Option Addr} {c2 dd : Nat} (h : PSt w wx N8 N10 a1 c1 nv a2 c2 dd) (hb : Below wx.heap.size wx w') : PSt w w' N8 N10 a1 c1 nv a2 c2 dd := by
  obtain ⟨h1, h2, h3, h4, h5, h6, h7, h8, h9, h10, h11, h12, h13⟩ := h
  have := hb.size
  exact ⟨Below.cellAt hb (Nat.le_refl _) h1, Below.cellAt hb (Nat.le_refl _) h2, Below.cellAt hb (Nat.le_refl _) h3, Below.cellAt hb (Nat.le_refl _) h4, h5.up hb, h6.up hb, Rg.slf (Rg.step h7 (by omega) hb), Rg.slf (Rg.step h8 (by omega) hb), Rg.slf (Rg.step h9 (by omega) hb), bseqZ h10 hb, h11, h12, by omega⟩
theorem PSt.start {w W w1 w2 : World} {a1 : Option Addr} {c1 nv : Nat} {a2 : Option Addr} {c2 dd : Nat} (hW : Rg w.heap.size 4 W W) (hbW : Below w.heap.size w W) (hm1 : MagZ w1 a1 c1 nv) (hb1 : Below W.heap.size W w1) (hm2 : MagZ w2 a2 c2 dd)
    (hb2 : Below (w1.alloc (Obj.cells #[.bool false, .slice a1 (L B4 nv) c1] 34)).heap.size (w1.alloc (Obj.cells #[.bool false, .slice a1 (L B4 nv) c1] 34)) w2) :
    PSt w (w2.alloc (Obj.cells #[.bool false, .slice a2 (L B4 dd) c2] 34)) w1.heap.size w2.heap.size a1 c1 nv a2 c2 dd := by
  have q1 : Below w1.heap.size w1 (w1.alloc (Obj.cells #[.bool false, .slice a1 (L B4 nv) c1] 34)) := (Below.refl _ _).alloc (Nat.le_refl _) _
  have q2 : Below w2.heap.size w2 (w2.alloc (Obj.cells #[.bool false, .slice a2 (L B4 dd) c2] 34)) := (Below.refl _ _).alloc (Nat.le_refl _) _
  have q3 := bseqZ hb2 q2
  have z1 := hb2.size
  have z0 := hb1.size
  have zW := hW.lt (by omega)
  simp at z1
  refine ⟨?_, ?_, ?_, ?_, (hm1.up q1).up q3, hm2.up q2, ?_, ?_, ?_, ?_, by omega, by omega, by simp⟩
  · exact Below.cellAt q3 (Nat.le_refl _) (by simp [go_sem])
  · exact Below.cellAt q3 (Nat.le_refl _) (by simp [go_sem])
  · simp [go_sem]
  · simp [go_sem]
  · exact Rg.slf (Rg.step (Rg.step (Rg.step hW (by omega) hb1) (by omega) q1) (by omega) q3)
  · exact Rg.slf (Rg.step (Rg.fill2 w1 _ _ _ _ _) (by omega) q3)
  · exact Rg.fill2 w2 _ _ _ _ _
  · exact bseqZ (bseqZ (bseqZ hbW hb1) q1) q3

theorem cmp_nat (n m : Nat) (z : Int) (hz : sg ((n : Int) - (m : Int)) = z) (a1 a2 : Option Addr) (c1 c2 : Nat) (w : World) (h1 : MagZ w a1 c1 n) (h2 : MagZ w a2 c2 m) (hb1 : L B4 n ≤ 100000000) (hb2 : L B4 m ≤ 100000000) :
    Calls Tryz.prog 35 #[.agg #[.bool false, .slice a1 (L B4 n) c1], .agg #[.bool false, .slice a2 (L B4 m) c2]] w (RetNum w z) := by
  subst hz
  have := zcmp_any a1 a2 c1 c2 (n : Int) (m : Int) w h1 h2 hb1 hb2
  rw [ng_nat, ng_nat] at this
  exact this
theorem gcd_nat (n m : Nat) (a1 a2 : Option Addr) (c1 c2 : Nat) (w : World) (h1 : MagZ w a1 c1 n) (h2 : MagZ w a2 c2 m) (hb1 : L B4 n ≤ 1000000) (hb2 : L B4 m ≤ 1000000) :
    Calls Tryz.prog 68 #[.agg #[.bool false, .slice a1 (L B4 n) c1], .agg #[.bool false, .slice a2 (L B4 m) c2]] w (RetN w (Nat.gcd n m)) := by
  have := zgcd_any a1 a2 c1 c2 (n : Int) (m : Int) w h1 h2 hb1 hb2
  rw [ng_nat, ng_nat] at this
  exact this
theorem neg_nat (n : Nat) (a1 : Option Addr) (c1 : Nat) (w : World) (h1 : MagZ w a1 c1 n) :
    Calls Tryz.prog 69 #[.agg #[.bool false, .slice a1 (L B4 n) c1]] w (RetZ w (-(n : Int))) := by
  have := zneg_any a1 c1 (n : Int) w h1
  rw [ng_nat] at this
  exact this
theorem L_12 : L B4 1 ≤ 1 ∧ L B4 2 ≤ 1 := ⟨L_le_of_lt two_le_B4 1 1 (by unfold B4; omega), L_le_of_lt two_le_B4 1 2 (by unfold B4; omega)⟩
theorem MagZ.kqN {W w' : World} {a : Option Addr} {c n : Nat} (h : MagZ W a c n) (hk : Kq W w') : MagZ w' a c n := h.up hk.2

/-- The stored denominator. -/
theorem PSt.den {w wx : World} {N8 N10 : Nat} {a1 : Option Addr} {c1 nv : Nat} {a2 : Option Addr} {c2 dd : Nat} (h : PSt w wx N8 N10 a1 c1 nv a2 c2 dd) {a3 : Option Addr} {c3 d3 : Nat} (hm : MagZ wx a3 c3 d3) :
    PSt w ((wx.setCell ⟨N10, 0, none⟩ (.bool false)).setCell ⟨N10, 1, none⟩ (.slice a3 (L B4 d3) c3)) N8 N10 a1 c1 nv a3 c3 d3 := by
  obtain ⟨h1, h2, h3, h4, h5, h6, h7, h8, h9, h10, h11, h12, h13⟩ := h
  have n0 := h9.noInt
  have n1 := n0.set ⟨N10, 0, none⟩ (.bool false) (by intro _ _ h; cases h)
  have t2 := h9.2.1
  refine ⟨?_, ?_, ?_, ?_, (h5.setN n0 _ _).setN n1 _ _, (hm.setN n0 _ _).setN n1 _ _, (h7.farS (by omega) _).farS (by omega) _, (h8.farS (by omega) _).farS (by omega) _, Rg.slf (Rg.set (Rg.set h9 _) _), (h10.setCell (by show w.heap.size ≤ N10; omega) _).setCell (by show w.heap.size ≤ N10; omega) _, h11, h12, by simpa using h13⟩
  · rw [World.cell?_setCell_far _ _ _ _ (by show N10 ≠ N8; omega), World.cell?_setCell_far _ _ _ _ (by show N10 ≠ N8; omega)]; exact h1
  · rw [World.cell?_setCell_far _ _ _ _ (by show N10 ≠ N8; omega), World.cell?_setCell_far _ _ _ _ (by show N10 ≠ N8; omega)]; exact h2
  · simp [go_sem, t2]
  · simp [go_sem, t2]

/-- The denominator's size. -/
def pdn (s : ByteArray) : Nat := if stroke s then pd s else 1
/-- Is what stands behind the stroke well? -/
def denOK (s : ByteArray) : Prop := stroke s = true → readOK (under s) ∧ 1 < pd s ∧ Nat.gcd (dv (bare s)) (pd s) = 1

theorem MagZ.set4 {w : World} {a : Option Addr} {c N n : Nat} (h : MagZ w a c n) (hN : NoInt w N) (b0 b1 : Bool) (x0 x1 : Option Addr) (n0 n1 k0 k1 : Nat) :
    MagZ ((((w.setCell ⟨N, 0, none⟩ (.bool b0)).setCell ⟨N, 1, none⟩ (.slice x0 n0 k0)).setCell ⟨N, 2, none⟩ (.bool b1)).setCell ⟨N, 3, none⟩ (.slice x1 n1 k1)) a c n := by
  have t1 := hN.set ⟨N, 0, none⟩ (.bool b0) (by intro _ _ h; cases h)
  have t2 := t1.set ⟨N, 1, none⟩ (.slice x0 n0 k0) (by intro _ _ h; cases h)
  have t3 := t2.set ⟨N, 2, none⟩ (.bool b1) (by intro _ _ h; cases h)
  exact (((h.setN hN _ _).setN t1 _ _).setN t2 _ _).setN t3 _ _
theorem PPost.good {w w' : World} {s : ByteArray} {z : Int} {dd : Nat} {a a' : Option Addr} {c c' : Nat} (h : parseOK s) (hz : pz s = z) (hd : dd = pdn s) (hM1 : ZM w' a c z) (hM2 : MagZ w' a' c' dd) (hb : Below w.heap.size w w') :
    PPost w s (.returned (.tuple #[.agg #[.bool (ng z), .slice a (LZ z) c, .bool false, .slice a' (L B4 dd) c'], .bool true])) w' := by
  have hp : pden s = (dd : Int) := by
    rw [hd]
    unfold pden pdn
    split <;> rfl
  refine Or.inl ⟨h, ⟨a, c, a', c', ?_, ?_⟩, hb⟩
  · rw [parse_rn h, parse_rd h, hz, hp, ng_nat]; rfl
  · rw [parse_rn h, parse_rd h, hz, hp]; exact ⟨hM1, hM2⟩

set_option maxRecDepth 100000 in
set_option maxHeartbeats 3200000 in
theorem parser_any (s : ByteArray) (w : World) (hs : s.size ≤ 4611686018427387904) :
    Calls Tryz.prog 33 #[.string s] w (PPost w s) := by
  obtain ⟨W, hW⟩ : ∃ W, W = w.alloc (Obj.cells #[.bool false, .slice none 0 0, .bool false, .slice none 0 0] 36) := ⟨_, rfl⟩
  have HR : Hid (Rg w.heap.size 4 W W) := by rw [hW]; exact Rg.new4 _ _ _ rfl
  have hbW' : Below w.heap.size w W := by rw [hW]; go_grown
  have hbW := Lib.hid hbW'
  have hWH := Lib.hid hW
  clear hW hbW'
  go_enter Tryz.func33, Tryz.ntmps33
  by_cases h8 : 8002 < s.size
  · have h8i : (8002 : Int) < s.size := by omega
    have hbad := Lib.hid (show ¬ parseOK s from fun h => by have := parse_len h; omega)
    clear h8
    go_wp2_with (fail)
    refine bodyPost_ret (v := .tuple #[.agg #[.bool false, .slice none 0 0, .bool false, .slice none 0 0], .bool false]) (by simp [results, Tryz.results33, go_sem]) rfl ?_
    exact Or.inr ⟨hbad.out, rfl, by go_grown⟩
  · have h8i : ¬ (8002 : Int) < s.size := by omega
    have hs8 : s.size ≤ 8002 := by omega
    clear h8
    go_upto_region 4 with (fail)
    rw [← hWH.out]
    go_cut [25] from 18 to 24 (fun c wx => c = .bool (mns s) ∧ wx = W)
    case first =>
      by_cases hm : s.data.toList[0]? = some 45
      · have hmn := Lib.hid (show mns s = true from decide_eq_true hm)
        have hp : 0 < s.size := Nat.pos_of_ne_zero fun e => by
          rw [List.getElem?_eq_none (by rw [Array.length_toList]; show s.size ≤ 0; omega)] at hm
          cases hm
        have hp1 : (0 : Int) < s.size := by omega
        have h45 : (s[0]'hp).toNat = 45 := by
          rw [bget s hp] at hm
          injection hm with hm
          rw [hm]; rfl
        clear hm
        go_wp2_with (fail)
        go_meet
        exact ⟨by rw [hmn.out], rfl⟩
      · have hmn := Lib.hid (show mns s = false from decide_eq_false hm)
        by_cases hp : 0 < s.size
        · have hp1 : (0 : Int) < s.size := by omega
          have h45 : (((s[0]'hp).toNat : Int) == 45) = false := by
            simp
            intro h
            apply hm
            rw [bget s hp]
            congr 1
            exact UInt8.toNat_inj.1 (by show _ = 45; omega)
          clear hm
          go_wp2_with (fail)
          go_meet
          exact ⟨by rw [hmn.out], rfl⟩
        · have hp1 : ¬ (0 : Int) < s.size := by omega
          clear hm
          go_wp2_with (fail)
          go_meet
          exact ⟨by rw [hmn.out], rfl⟩
    case rest =>
      obtain ⟨rfl, hwc⟩ := hcut
      rw [hwc]
      clear hwc
      go_upto_if 25 with (fail)
      go_cut [4, 5] from 25 to 27 (fun s4 s5 wx => s4 = .string (tail s) ∧ s5 = .bool (mns s) ∧ wx = W)
      case first =>
        by_cases hm : mns s = true
        · have hp : 0 < s.size := Nat.pos_of_ne_zero fun e => by
            have hm := of_decide_eq_true hm
            rw [List.getElem?_eq_none (by rw [Array.length_toList]; show s.size ≤ 0; omega)] at hm
            cases hm
          have hp1 : (1 : Int) ≤ s.size := by omega
          have hp2 : 1 ≤ s.size := by omega
          have ht := Lib.hid (show tail s = s.extract 1 s.size by unfold tail sub; rw [if_pos hm])
          rw [hm]
          go_wp2_with (fail)
          go_meet
          exact ⟨by rw [ht.out], by first | rfl | rw [hm], rfl⟩
        · have hm2 : mns s = false := by simpa using hm
          have ht := Lib.hid (show tail s = s by unfold tail; rw [if_neg hm])
          clear hm
          rw [hm2]
          go_wp2_with (fail)
          go_meet
          exact ⟨by rw [ht.out], by first | rfl | rw [hm2], rfl⟩
      case rest =>
        obtain ⟨rfl, rfl, hwc⟩ := hcut
        rw [hwc]
        clear hwc
        obtain ⟨t, ht⟩ : ∃ t, t = tail s := ⟨_, rfl⟩
        have htH := Lib.hid ht
        rw [← ht]
        have hts : t.size ≤ 8002 := by rw [ht]; have := tail_size s; omega
        clear ht
        go_wp2_with (fail)
        go_loopw [6, 7] (fun sl i wi => ∃ k p : Nat, sl = .int .i64 (p : Nat) ∧ i = .int .i64 ((k : Int) - 1) ∧ IsFs t k p ∧ k ≤ t.size ∧ wi = W) (fun _ i _ => (intOf i + 1).toNat)
        case atStart => exact ⟨t.size, t.size, rfl, rfl, IsFs.start t, by omega, rfl⟩
        case round =>
          obtain ⟨k, p, rfl, rfl, hF, hk, hwr⟩ := hrel
          rw [hwr]
          clear hwr
          have hFH := Lib.hid hF
          have hpt : p ≤ t.size := hF.2.1
          clear hF
          rcases k with _ | j
          · have hz1 : ¬ (0 : Int) ≤ -1 := by omega
            have hpar := parts (s := s) (p := p) (by rw [← htH.out]; exact hFH.out)
            rw [← htH.out] at hpar
            obtain ⟨hmin, hbare, hstr, hund⟩ := hpar
            have hminH := Lib.hid hmin
            have hstrH := Lib.hid hstr
            have hundH := Lib.hid hund
            have hbare' : t.extract 0 p = bare s := hbare.symm
            have hbs : (bare s).size ≤ 8002 := by have := bare_size s; omega
            have hpt1 : (p : Int) ≤ t.size := by omega
            clear hmin hstr hund hbare
            go_upto_if 53 with (first
              | (go_at_call 67; go_loud (with_reducible refine (digits_u (bare s) _ (by omega)).mono ?_); rintro e w1 ⟨a1, c1, rfl, hm1, hb1⟩; have r1 := Lib.hid (Rg.step HR.out (by omega) hb1).self)
              | (go_at_call 34; go_loud (with_reducible refine (int_1 _).mono ?_); rintro e w2 ⟨a2, c2, rfl, hm2, hb2⟩))
            have hP := Lib.hid (PSt.start HR.out hbW.out hm1 hb1 hm2 hb2)
            obtain ⟨wA, hwA⟩ : ∃ wA, wA = w2.alloc (Obj.cells #[.bool false, .slice a2 (L B4 1) c2] 34) := ⟨_, rfl⟩
            rw [← hwA] at hP ⊢
            clear hwA hm1 hb1 r1 hm2 hb2
            obtain ⟨nv, hnv⟩ : ∃ nv, nv = dv (bare s) := ⟨_, rfl⟩
            have hnvL : L B4 nv ≤ 1000 := by rw [hnv]; exact dv_L _
            have hnvH := Lib.hid hnv
            rw [← hnv] at hP ⊢
            clear hnv
            go_cut [11, 12] from 53 to 79 (fun _ _ wx => denOK s ∧ ∃ a3 c3, PSt w wx w1.heap.size w2.heap.size a1 c1 nv a3 c3 (pdn s))
            case first =>
              by_cases hst : p < t.size
              · have hstr : stroke s = true := by rw [hstrH.out]; exact decide_eq_true hst
                have hsH := Lib.hid hstr
                have hund' : t.extract (p + 1) t.size = under s := (hundH.out hst).symm
                have hus : (under s).size ≤ 8002 := by have := under_size s; omega
                have hp1 : ((p : Int) + 1) ≤ t.size := by omega
                have hp2 : p + 1 ≤ t.size := by omega
                have hdec : decide (p < t.size) = true := decide_eq_true hst
                rw [hdec]
                by_cases hd : dok (under s) = true
                · have hdH := Lib.hid hd
                  have hrd := Lib.hid (dok_iff.1 hd)
                  obtain ⟨dd, hdd⟩ : ∃ dd, dd = dv (under s) := ⟨_, rfl⟩
                  have hpd := Lib.hid (show pd s = dd by rw [hdd]; unfold dv pd; rw [hd]; rfl)
                  have hpdn := Lib.hid (show pdn s = dd by unfold pdn; rw [hstr]; exact hpd.out)
                  have hddL : L B4 dd ≤ 1000 := by rw [hdd]; exact dv_L _
                  have hddH := Lib.hid hdd
                  clear hdd hd
                  go_upto_region 16 with (first
                    | (go_at_call 67; go_loud (with_reducible refine (digits_b (under s) true _ (by omega) hdH.out).mono ?_); rintro e w3 ⟨a3, c3, rfl, hm3, hb3⟩; rw [← hddH.out] at hm3; rw [← hddH.out]))
                  obtain ⟨W3, hW3⟩ : ∃ W3, W3 = w3.alloc (Obj.cells #[.bool false, .slice a3 (L B4 dd) c3] 34) := ⟨_, rfl⟩
                  have hb33 : Below w3.heap.size w3 W3 := by rw [hW3]; exact (Below.refl _ _).alloc (Nat.le_refl _) _
                  have y0 : W3.cell? ⟨w3.heap.size, 0, none⟩ = some (.bool false) := by rw [hW3]; simp [go_sem]
                  have y1 : W3.cell? ⟨w3.heap.size, 1, none⟩ = some (.slice a3 (L B4 dd) c3) := by rw [hW3]; simp [go_sem]
                  have hz3 : w3.heap.size < W3.heap.size := by rw [hW3]; simp
                  have hP3 := Lib.hid ((hP.out.step hb3).step hb33)
                  have hM3 := Lib.hid (hm3.up hb33)
                  have hM1 := Lib.hid (show MagZ W3 a1 c1 nv from hP3.out.2.2.2.2.1)
                  obtain ⟨p0, p1, _⟩ := hP3.out
                  have hz8 : w1.heap.size < W3.heap.size := World.block_lt_of_cell? W3 _ p0
                  rw [← hW3]
                  clear hW3 hb33 hm3 hb3
                  have hL12 := Lib.hid L_12
                  by_cases hd2 : dd < 2
                  · have hzH := Lib.hid (show sg ((dd : Int) - ((2 : Nat) : Int)) = -1 by unfold sg; rw [if_pos (by omega)])
                    have hbad := Lib.hid (show ¬ parseOK s from fun h => by have := (h.2.1 hsH.out).2.1; have := hpd.out; omega)
                    have hdq := Lib.hid ((Below.refl W3.heap.size W3).drew)
                    go_region_with (first
                      | (go_at_call 34; go_loud (with_reducible refine (int_2 _).mono ?_); rintro e w4 ⟨a4, c4, rfl, hm4, hb4⟩; have hb4H := Lib.hid (hdq.out.trans (hb4.mono hdq.out.size)); have q0 := Below.cellAt hb4H.out (Nat.le_refl _) y0; have q1 := Below.cellAt hb4H.out (Nat.le_refl _) y1)
                      | (go_at_call 35; go_loud (with_reducible refine (cmp_nat dd 2 _ hzH.out a3 a4 c3 c4 _ (hM3.out.up hb4H.out) hm4 (by omega) (by have := hL12.out; omega)).mono ?_); rintro e w5 ⟨rfl, hb5⟩; have hP5 := Lib.hid ((hP3.out.step hb4H.out).step hb5); obtain ⟨_, t2, t3, t5, _⟩ := hP5.out.2.2.2.2.2.2.1))
                    all_goals go_wp2_with (fail)
                    all_goals (
                      refine bodyPost_ret (v := .tuple #[.agg #[.bool false, .slice none 0 0, .bool false, .slice none 0 0], .bool false]) (by simp [results, Tryz.results33, go_sem, t2]) rfl ?_
                      exact Or.inr ⟨hbad.out, rfl, below_set4 hP5.out.2.2.2.2.2.2.2.2.2.1 (Nat.le_refl _) _ _ _ _⟩)
                  · have hzc : sg ((dd : Int) - ((2 : Nat) : Int)) = 0 ∨ sg ((dd : Int) - ((2 : Nat) : Int)) = 1 := by unfold sg; split <;> (try split) <;> omega
                    have hgL : Hid (L B4 (Nat.gcd nv dd) ≤ 100000000) := by
                      have := L_mono two_le_B4 (Nat.gcd_le_right nv (show 0 < dd by omega))
                      show _ ≤ _
                      omega
                    by_cases hg : Nat.gcd nv dd = 1
                    · have hyH := Lib.hid (show sg (((Nat.gcd nv dd : Nat) : Int) - ((1 : Nat) : Int)) = 0 by rw [hg]; rfl)
                      have hden := Lib.hid (show denOK s from fun _ => ⟨hrd.out, by have := hpd.out; omega, by rw [hpd.out, ← hnvH.out]; exact hg⟩)
                      clear hg
                      rcases hzc with hzc | hzc
                      all_goals have hzH := Lib.hid hzc
                      all_goals clear hzc
                      all_goals go_region_held3 (fun w' => Kq W3 w')
                        (first | (with_reducible exact Kq.drew _) | (with_reducible exact k8.out) | (with_reducible exact Kq.step (by assumption) (by assumption)))
                        (first
                          | (go_at_call 34; (with_reducible refine (int_2 _).mono ?_); rintro e w4 ⟨a4, c4, rfl, hm4, hb4⟩)
                          | (go_at_call 35; (with_reducible refine (cmp_nat dd 2 _ hzH.out a3 a4 c3 c4 _ (hM3.out.kqN (by assumption)) hm4 (by omega) (by have := hL12.out; omega)).mono ?_); rintro e w5 ⟨rfl, hb5⟩; have k5 : Hid (Kq W3 w5) := Kq.step (by assumption) hb5)
                          | (go_at_call 68; (with_reducible refine (gcd_nat nv dd a1 a3 c1 c3 _ (hM1.out.kqN (by assumption)) (hM3.out.kqN (by assumption)) (by omega) (by omega)).mono ?_); rintro e w6 ⟨a6, c6, rfl, hm6, hb6⟩)
                          | (go_at_call 34; (with_reducible refine (int_1 _).mono ?_); rintro e w7 ⟨a7, c7, rfl, hm7, hb7⟩)
                          | (go_at_call 35; (with_reducible refine (cmp_nat (Nat.gcd nv dd) 1 _ hyH.out a6 a7 c6 c7 _ (hm6.up hb7) hm7 hgL.out (by have := hL12.out; omega)).mono ?_); rintro e w8 ⟨rfl, hb8⟩; have k8 : Hid (Kq W3 w8) := Kq.step (by assumption) hb8))
                      all_goals (
                        have hP8 := Lib.hid (hP3.out.step k8.out.2)
                        have v0 := Below.cellAt k8.out.2 (Nat.le_refl _) y0
                        have v1 := Below.cellAt k8.out.2 (Nat.le_refl _) y1
                        have hM8 := Lib.hid (hM3.out.up k8.out.2)
                        obtain ⟨_, t2, t3, t5, _⟩ := hP8.out.2.2.2.2.2.2.2.2.1
                        go_wp2_with (fail)
                        go_meet
                        exact ⟨hden.out, a3, c3, by rw [hpdn.out]; exact hP8.out.den hM8.out⟩)
                    · have hyH := Lib.hid (show sg (((Nat.gcd nv dd : Nat) : Int) - ((1 : Nat) : Int)) = 1 by
                        have := Nat.gcd_pos_of_pos_right nv (show 0 < dd by omega)
                        unfold sg; rw [if_neg (by omega), if_neg (by omega)])
                      have hbad := Lib.hid (show ¬ parseOK s from fun h => by
                        have h1 := (h.2.1 hsH.out).2.2
                        rw [hpd.out] at h1
                        apply hg
                        rw [hnvH.out]
                        unfold dv
                        rw [dok_true h.1]
                        exact h1)
                      clear hg
                      rcases hzc with hzc | hzc
                      all_goals have hzH := Lib.hid hzc
                      all_goals clear hzc
                      all_goals go_region_held3 (fun w' => Kq W3 w')
                        (first | (with_reducible exact Kq.drew _) | (with_reducible exact k8.out) | (with_reducible exact Kq.step (by assumption) (by assumption)))
                        (first
                          | (go_at_call 34; (with_reducible refine (int_2 _).mono ?_); rintro e w4 ⟨a4, c4, rfl, hm4, hb4⟩)
                          | (go_at_call 35; (with_reducible refine (cmp_nat dd 2 _ hzH.out a3 a4 c3 c4 _ (hM3.out.kqN (by assumption)) hm4 (by omega) (by have := hL12.out; omega)).mono ?_); rintro e w5 ⟨rfl, hb5⟩; have k5 : Hid (Kq W3 w5) := Kq.step (by assumption) hb5)
                          | (go_at_call 68; (with_reducible refine (gcd_nat nv dd a1 a3 c1 c3 _ (hM1.out.kqN (by assumption)) (hM3.out.kqN (by assumption)) (by omega) (by omega)).mono ?_); rintro e w6 ⟨a6, c6, rfl, hm6, hb6⟩)
                          | (go_at_call 34; (with_reducible refine (int_1 _).mono ?_); rintro e w7 ⟨a7, c7, rfl, hm7, hb7⟩)
                          | (go_at_call 35; (with_reducible refine (cmp_nat (Nat.gcd nv dd) 1 _ hyH.out a6 a7 c6 c7 _ (hm6.up hb7) hm7 hgL.out (by have := hL12.out; omega)).mono ?_); rintro e w8 ⟨rfl, hb8⟩; have k8 : Hid (Kq W3 w8) := Kq.step (by assumption) hb8))
                      all_goals (
                        have hP8 := Lib.hid (hP3.out.step k8.out.2)
                        obtain ⟨_, t2, t3, t5, _⟩ := hP8.out.2.2.2.2.2.2.1
                        go_wp2_with (fail)
                        refine bodyPost_ret (v := .tuple #[.agg #[.bool false, .slice none 0 0, .bool false, .slice none 0 0], .bool false]) (by simp [results, Tryz.results33, go_sem, t2]) rfl ?_
                        exact Or.inr ⟨hbad.out, rfl, below_set4 hP8.out.2.2.2.2.2.2.2.2.2.1 (Nat.le_refl _) _ _ _ _⟩)
                · have hd2 : dok (under s) = false := by simpa using hd
                  have hdH := Lib.hid hd2
                  have hbad := Lib.hid (show ¬ parseOK s from fun h => hd (dok_iff.2 (h.2.1 hsH.out).1))
                  clear hd hd2
                  go_upto_region 16 with (first
                    | (go_at_call 67; go_loud (with_reducible refine (digits_b (under s) false _ (by omega) hdH.out).mono ?_); rintro e w3 ⟨a3, c3, rfl, hm3, hb3⟩))
                  obtain ⟨W3, hW3⟩ : ∃ W3, W3 = w3.alloc (Obj.cells #[.bool false, .slice a3 (L B4 (dv (under s))) c3] 34) := ⟨_, rfl⟩
                  have hb33 : Below w3.heap.size w3 W3 := by rw [hW3]; exact (Below.refl _ _).alloc (Nat.le_refl _) _
                  have hP3 := Lib.hid ((hP.out.step hb3).step hb33)
                  obtain ⟨_, t2, t3, t5, _⟩ := hP3.out.2.2.2.2.2.2.1
                  rw [← hW3]
                  clear hW3 hb33 hm3 hb3
                  go_region
                  go_wp2_with (fail)
                  refine bodyPost_ret (v := .tuple #[.agg #[.bool false, .slice none 0 0, .bool false, .slice none 0 0], .bool false]) (by simp [results, Tryz.results33, go_sem, t2]) rfl ?_
                  exact Or.inr ⟨hbad.out, rfl, (below_set4 hP3.out.2.2.2.2.2.2.2.2.2.1 (Nat.le_refl _) _ _ _ _).drew⟩
              · have hdec : decide (p < t.size) = false := decide_eq_false hst
                have hstr := Lib.hid (show stroke s = false by rw [hstrH.out]; exact hdec)
                have hpdn := Lib.hid (show pdn s = 1 by unfold pdn; rw [hstr.out]; rfl)
                rw [hdec]
                clear hst hdec
                go_wp2_with (fail)
                go_meet
                exact ⟨fun h => absurd h (by rw [hstr.out]; decide), a2, c2, by rw [hpdn.out]; exact hP.out⟩
            case rest =>
              obtain ⟨hden, a3, c3, hP2⟩ := hcut
              have hdH := Lib.hid hden
              have hPH := Lib.hid hP2
              obtain ⟨dd, hdd⟩ : ∃ dd, dd = pdn s := ⟨_, rfl⟩
              have hddH := Lib.hid hdd
              rw [← hdd] at hPH
              obtain ⟨p0, p1, p2, p3, _⟩ := hPH.out
              have hM1 := Lib.hid (show MagZ wc a1 c1 nv from hPH.out.2.2.2.2.1)
              have hM3 := Lib.hid (show MagZ wc a3 c3 dd from hPH.out.2.2.2.2.2.1)
              clear hden hP2 hdd hP
              have z8 : w.heap.size ≠ w1.heap.size := by have := hPH.out.2.2.2.2.2.2.2.2.2.2.1; omega
              by_cases hok : dok (bare s) = true
              · have hrd := Lib.hid (dok_iff.1 hok)
                have hnp := Lib.hid (show pn s = nv by rw [hnvH.out]; unfold dv pn; rw [hok]; rfl)
                rw [hok]
                clear hok
                obtain ⟨_, t2, t3, t5, _⟩ := hPH.out.2.2.2.2.2.2.1
                by_cases hm : mns s = true
                · rw [hm]
                  by_cases hz : nv = 0
                  · have hbad := Lib.hid (show ¬ parseOK s from fun h => h.2.2 ⟨by rw [hminH.out]; exact hm, by rw [hnp.out]; exact hz⟩)
                    have hl0 : ((L B4 nv : Nat) : Int) = 0 := by rw [hz, L_zero]; rfl
                    have hl00 : L B4 nv = 0 := by rw [hz, L_zero]
                    clear hm
                    go_wp2_with (fail)
                    refine bodyPost_ret (v := .tuple #[.agg #[.bool false, .slice none 0 0, .bool false, .slice none 0 0], .bool false]) (by simp [results, Tryz.results33, go_sem, t2]) rfl ?_
                    exact Or.inr ⟨hbad.out, rfl, below_set4 hPH.out.2.2.2.2.2.2.2.2.2.1 (Nat.le_refl _) _ _ _ _⟩
                  · have hgood := Lib.hid (show parseOK s from ⟨hrd.out, fun h => ⟨(hdH.out h).1, (hdH.out h).2.1, by rw [hnp.out, hnvH.out]; exact (hdH.out h).2.2⟩, fun h => hz (by rw [← hnp.out]; exact h.2)⟩)
                    have hl0 : ((L B4 nv : Int) == 0) = false := by have := L_pos two_le_B4 hz; simp; omega
                    have hpz := Lib.hid (show pz s = -(nv : Int) by unfold pz; rw [hminH.out, hm, hnp.out]; rfl)
                    obtain ⟨_, s2, s3, s5, _⟩ := hPH.out.2.2.2.2.2.2.2.1
                    clear hm hz
                    go_wp2_with (first
                      | (go_at_call 69; go_loud (with_reducible refine (neg_nat nv a1 c1 _ hM1.out).mono ?_); rintro e w5 ⟨a5, c5, rfl, hm5, hb5⟩; have hP5 := Lib.hid (hPH.out.step hb5); obtain ⟨_, t2', t3', t5', _⟩ := hP5.out.2.2.2.2.2.2.1; obtain ⟨_, s2', s3', s5', _⟩ := hP5.out.2.2.2.2.2.2.2.1; obtain ⟨p0', p1', p2', p3', _⟩ := hP5.out))
                    have m1 := (hm5.setN s5' 0 (.bool (ng (-(nv : Int))))).setN (s5'.set ⟨w1.heap.size, 0, none⟩ (.bool (ng (-(nv : Int)))) (by intro _ _ h; cases h)) 1 (.slice a5 (LZ (-(nv : Int))) c5)
                    have m3 := ((hM3.out.up hb5).setN s5' 0 (.bool (ng (-(nv : Int))))).setN (s5'.set ⟨w1.heap.size, 0, none⟩ (.bool (ng (-(nv : Int)))) (by intro _ _ h; cases h)) 1 (.slice a5 (LZ (-(nv : Int))) c5)
                    have n0 := (t5'.set ⟨w1.heap.size, 0, none⟩ (.bool (ng (-(nv : Int)))) (by intro _ _ h; cases h)).set ⟨w1.heap.size, 1, none⟩ (.slice a5 (LZ (-(nv : Int))) c5) (by intro _ _ h; cases h)
                    refine bodyPost_ret (v := .tuple #[.agg #[.bool (ng (-(nv : Int))), .slice a5 (LZ (-(nv : Int))) c5, .bool false, .slice a3 (L B4 dd) c3], .bool true]) (by simp [results, Tryz.results33, go_sem, t2']) rfl ?_
                    refine PPost.good hgood.out hpz.out hddH.out (ZM.set4 m1 n0 _ _ _ _ _ _ _ _) (MagZ.set4 m3 n0 _ _ _ _ _ _ _ _) (below_set4 ((hP5.out.2.2.2.2.2.2.2.2.2.1.setCell ?_ _).setCell ?_ _) (Nat.le_refl _) _ _ _ _)
                    · have := hPH.out.2.2.2.2.2.2.2.2.2.2.1; show w.heap.size ≤ w1.heap.size; omega
                    · have := hPH.out.2.2.2.2.2.2.2.2.2.2.1; show w.heap.size ≤ w1.heap.size; omega
                · have hm2 : mns s = false := by simpa using hm
                  rw [hm2]
                  have hgood := Lib.hid (show parseOK s from ⟨hrd.out, fun h => ⟨(hdH.out h).1, (hdH.out h).2.1, by rw [hnp.out, hnvH.out]; exact (hdH.out h).2.2⟩, fun h => hm (by rw [← hminH.out]; exact h.1)⟩)
                  have hpz := Lib.hid (show pz s = (nv : Int) by unfold pz; rw [hminH.out, hm2, hnp.out]; rfl)
                  clear hm hm2
                  go_wp2_with (fail)
                  refine bodyPost_ret (v := .tuple #[.agg #[.bool false, .slice a1 (L B4 nv) c1, .bool false, .slice a3 (L B4 dd) c3], .bool true]) (by simp [results, Tryz.results33, go_sem, t2]) rfl ?_
                  have hfin := fun W' => PPost.good (w := w) (w' := W') (z := (nv : Int)) (a := a1) (c := c1) (a' := a3) (c' := c3) hgood.out hpz.out hddH.out
                  rw [ng_nat] at hfin
                  exact hfin _ (MagZ.set4 hM1.out t5 _ _ _ _ _ _ _ _) (MagZ.set4 hM3.out t5 _ _ _ _ _ _ _ _) (below_set4 hPH.out.2.2.2.2.2.2.2.2.2.1 (Nat.le_refl _) _ _ _ _)
              · have hok2 : dok (bare s) = false := by simpa using hok
                have hbad := Lib.hid (show ¬ parseOK s from fun h => hok (dok_iff.2 h.1))
                rw [hok2]
                clear hok hok2
                obtain ⟨_, t2, t3, t5, _⟩ := hPH.out.2.2.2.2.2.2.1
                go_wp2_with (fail)
                refine bodyPost_ret (v := .tuple #[.agg #[.bool false, .slice none 0 0, .bool false, .slice none 0 0], .bool false]) (by simp [results, Tryz.results33, go_sem, t2]) rfl ?_
                exact Or.inr ⟨hbad.out, rfl, below_set4 hPH.out.2.2.2.2.2.2.2.2.2.1 (Nat.le_refl _) _ _ _ _⟩
          · have ej : (((j + 1 : Nat) : Int) - 1) = (j : Int) := by omega
            rw [ej]
            have hj0 : (0 : Int) ≤ (j : Int) := by omega
            have hj1 : j < t.size := by omega
            have hj2 : (j : Int) < t.size := by omega
            clear ej
            by_cases hc : (t[j]'hj1).toNat = 47
            · have hnx := Lib.hid (hFH.out.hit hj1 hc)
              go_wp2_with (fail)
              go_roundw
              case rel => exact ⟨j, j, rfl, by go_num, hnx.out, by omega, by first | rfl | trivial⟩
              case measure => simp [intOf]
            · have hc' : (((t[j]'hj1).toNat : Int) == 47) = false := by simp; omega
              have hnx := Lib.hid (hFH.out.miss hj1 hc)
              go_wp2_with (fail)
              go_roundw
              case rel => exact ⟨j, p, rfl, by go_num, hnx.out, by omega, by first | rfl | trivial⟩
              case measure => simp [intOf]

end Go.Proofs.YtbehfhmdilifkaaGreat
