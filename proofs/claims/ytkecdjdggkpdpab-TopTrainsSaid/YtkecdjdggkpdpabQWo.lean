/- Yb Yc -/
import Derived.Test.YtkecdjdggkpdpabQWn
import Derived.Test.YtkecdjdggkpdpabQWm
set_option linter.unusedVariables false
/- Walk of the reference's figures. -/
namespace Go.Proofs.Ytkecdjdggkpdpab
open Go Go.RowKit Go.Proofs

theorem four_conv (w : World) (x : Nat) (hx : x < 10000) (v0 v1 v2 v3 : Int) (h0 : v0 = 48 + x / 1000) (h1 : v1 = 48 + x / 100 % 10) (h2 : v2 = 48 + x / 10 % 10) (h3 : v3 = 48 + x % 10) :
    (convert 24 9 (.slice (some ⟨w.heap.size, 0, none⟩) 4 4)).run Try.prog (w.alloc (Obj.cells #[.int .u8 v0, .int .u8 v1, .int .u8 v2, .int .u8 v3] 5)) =
      .ok (.string (four x)) (w.alloc (Obj.cells #[.int .u8 v0, .int .u8 v1, .int .u8 v2, .int .u8 v3] 5)) := by
  subst h0 h1 h2 h3
  have := run_convert_bytes_back (P := Try.prog) (w.alloc (Obj.cells #[.int .u8 (48 + x / 1000), .int .u8 (48 + x / 100 % 10), .int .u8 (48 + x / 10 % 10), .int .u8 (48 + x % 10)] 5)) 24 9 5 ⟨w.heap.size, 0, none⟩ 4 [UInt8.ofNat (48 + x / 1000), UInt8.ofNat (48 + x / 100 % 10), UInt8.ofNat (48 + x / 10 % 10), UInt8.ofNat (48 + x % 10)] Try.underlying24 Try.underlying5 Try.underlying9 (fun j hj => by
    rcases j with _ | _ | _ | _ | j
    · simp only [List.getElem_cons_zero]; rw [ofNat_dg (by omega)]; simp [go_sem, Addr.add]
    · simp only [List.getElem_cons_succ, List.getElem_cons_zero]; rw [ofNat_dg (by omega)]; simp [go_sem, Addr.add]
    · simp only [List.getElem_cons_succ, List.getElem_cons_zero]; rw [ofNat_dg (by omega)]; simp [go_sem, Addr.add]
    · simp only [List.getElem_cons_succ, List.getElem_cons_zero]; rw [ofNat_dg (by omega)]; simp [go_sem, Addr.add]
    · exact absurd hj (by simp only [List.length_cons, List.length_nil]; omega))
  exact this

set_option maxRecDepth 100000 in
set_option maxHeartbeats 1600000 in
theorem figures_pos (sb : Bool) (a : Option Addr) (c N : Nat) (w : World) (h1 : MagZ w a c N) (hL : L B4 N ≤ 1000) (hN : 0 < N) :
    Calls Try.prog 47 #[.agg #[.bool sb, .slice a (L B4 N) c]] w (RetStr w (dec N)) := by
  have hlp := L_pos two_le_B4 (show N ≠ 0 by omega)
  have hl0 : ((L B4 N : Int) == 0) = false := by simp; omega
  have hlH := Lib.hid hL
  obtain ⟨V, hV⟩ : ∃ V, V = w.alloc (Obj.cells #[.bool sb, .slice a (L B4 N) c] 40) := ⟨_, rfl⟩
  have e1 : Hid (V.cell? ⟨w.heap.size, 1, none⟩ = some (.slice a (L B4 N) c)) := by show _ = _; rw [hV]; simp [go_sem]
  have hbV' : Below w.heap.size w V := by rw [hV]; go_grown
  have hbV := Lib.hid hbV'
  have hM := Lib.hid (h1.up hbV.out)
  have hVH := Lib.hid hV
  have hNH := Lib.hid hN
  have hL1 : ((L B4 N : Nat) : Int) - 1 = wrap64 (((L B4 N : Nat) : Int) - 1) := by rw [wrap64_small] <;> omega
  have hL1H := Lib.hid hL1
  clear hV h1 hL hbV' hN hL1
  go_enter Try.func47, Try.ntmps47
  go_wp2_with (fail)
  rw [← hVH.out]
  clear hl0 hlp
  go_loopw [3, 4] (fun s i wr => ∃ (k : Nat) (t : ByteArray), s = .string t ∧ i = .int .i64 ((k : Int) - 1) ∧ FInv N k t ∧ Below V.heap.size V wr) (fun _ i _ => (intOf i + 1).toNat)
  case atStart => exact ⟨L B4 N, ⟨#[]⟩, rfl, by rw [← hL1H.out], FInv.start N, Below.refl _ _⟩
  case round =>
    obtain ⟨k, t, rfl, rfl, hF, hbl⟩ := hrel
    have hblH := Lib.hid hbl
    have hFH := Lib.hid hF
    have hk := hF.1
    have f1 := Below.cellAt hbl (Nat.le_refl _) e1.out
    clear hF
    rcases k with _ | j
    · have hz1 : ¬ (0 : Int) ≤ -1 := by omega
      have hT := Lib.hid (hFH.out.done hlH.out)
      clear hbl hk
      go_wp2_with (fail)
      go_loopw [3] (fun s wr' => ∃ t', s = .string t' ∧ FTxt N t' ∧ wr' = wr) (fun s _ => strLen s)
      case atStart => exact ⟨t, rfl, hT.out, rfl⟩
      case round =>
        obtain ⟨t', rfl, hT', rfl⟩ := hrel
        have hp := hT'.pos hNH.out
        have hTH := Lib.hid hT'
        clear hT'
        have hp1 : (0 : Int) < t'.size := by omega
        have hp2 : 1 ≤ t'.size := hp
        have hp3 : (1 : Int) ≤ t'.size := by omega
        by_cases h0 : (t'[0]'hp).toNat = 48
        · go_wp2_with (fail)
          go_roundw
          case rel => exact ⟨sub t' 1, rfl, hTH.out.strip hp h0, by first | rfl | trivial⟩
          case measure => simp [strLen]; omega
        · have he := Lib.hid (hTH.out.end hp h0)
          have h0' : (((t'[0]'hp).toNat : Int) == 48) = false := by simp; omega
          go_wp2_with (fail)
          go_ret
          exact ⟨(congrArg (fun x => Ending.returned (.string x)) he.out), hbV.out.trans (hblH.out.mono hbV.out.size)⟩
    · obtain ⟨x, hx⟩ : ∃ x, (digs B4 N)[j]? = some x := ⟨_, List.getElem?_eq_getElem (by show j < L B4 N; omega)⟩
      obtain ⟨b, o, rfl, f2⟩ := (hM.out.up hbl).2 j x hx
      have ej : (((j + 1 : Nat) : Int) - 1) = (j : Int) := by omega
      rw [ej]
      have hj0 : (0 : Int) ≤ (j : Int) := by omega
      have hj1 : (j : Int) < (L B4 N : Nat) := by omega
      have hxe : x = N / B4 ^ j % 10000 := by
        have := digs_get two_le_B4 j N (by omega)
        rw [hx] at this
        injection this
      have hx0 : x < 10000 := by rw [hxe]; exact Nat.mod_lt _ (by omega)
      have hcv := four_conv wr x hx0 _ _ _ _ rfl rfl rfl rfl
      have hS := Lib.hid (show FInv N j (t ++ four x) by rw [hxe]; exact hFH.out.step)
      have hts : ¬ 9223372036854775807 < t.size + (four x).size := by have h1 := hFH.out.2.1; have h2 := hlH.out; rw [four_size]; omega
      have hwj : wrap64 ((j : Int) - 1) = (j : Int) - 1 := by have h2 := hlH.out; exact wrap64_small (by omega) (by omega)
      clear hx hxe hbl ej
      go_wp2_with (fail)
      go_roundw
      case rel => exact ⟨j, t ++ four x, rfl, by go_num, hS.out, hblH.out.alloc (by exact hblH.out.size) _⟩
      case measure => simp [intOf]; omega

theorem figures_any (sb : Bool) (a : Option Addr) (c N : Nat) (w : World) (h1 : MagZ w a c N) (hL : L B4 N ≤ 1000) :
    Calls Try.prog 47 #[.agg #[.bool sb, .slice a (L B4 N) c]] w (RetStr w (dec N)) := by
  by_cases hN : N = 0
  · subst hN
    rw [L_zero]
    go_enter Try.func47, Try.ntmps47
    go_wp2_with (fail)
    go_ret
    exact ⟨rfl, by go_grown⟩
  · exact figures_pos sb a c N w h1 hL (by omega)

theorem figures_z (a : Option Addr) (c : Nat) (z : Int) (w : World) (h1 : ZM w a c z) (hL : LZ z ≤ 1000) :
    Calls Try.prog 47 #[.agg #[.bool (ng z), .slice a (LZ z) c]] w (RetStr w (dec z.natAbs)) := figures_any (ng z) a c z.natAbs w h1 hL

end Go.Proofs.Ytkecdjdggkpdpab

/- Walks of the reference's words: Num, Is. -/
namespace Go.Proofs.Ytkecdjdggkpdpab
open Go Go.RowKit Go.Proofs

theorem L_p10 (k n : Nat) (h : n < p10 (4 * k)) : L B4 n ≤ k := L_le_of_lt two_le_B4 k n (by rw [← p10_four]; exact h)
theorem LZ_small {z : Int} (h : z.natAbs < p10 4000) : LZ z ≤ 1000 := by
  exact L_p10 1000 z.natAbs h
theorem dec_one : dec 1 = ⟨#[49]⟩ := by
  unfold dec bl
  rw [digs_pos two_le_10 (by omega), Nat.div_eq_of_lt (by omega), digs_zero]
  rfl
theorem dec_ne_one {n : Nat} (h : n ≠ 1) (h0 : n ≠ 0) : dec n ≠ ⟨#[49]⟩ := by
  intro e
  have h1 : (dec n).size = 1 := by rw [e]; rfl
  rw [dec_size, if_neg h0] at h1
  have h2 := lt_pow_L two_le_10 n
  rw [h1, Nat.pow_one] at h2
  unfold dec bl at e
  rw [if_neg h0, digs_pos two_le_10 h0, Nat.div_eq_of_lt h2, digs_zero, Nat.mod_eq_of_lt h2] at e
  injection e with e
  have e2 : [UInt8.ofNat (48 + n)] = [49] := by
    have := congrArg Array.toList e
    simpa using this
  injection e2 with e3
  have e4 := congrArg UInt8.toNat e3
  rw [UInt8.toNat_ofNat'] at e4
  have : (49 : UInt8).toNat = 49 := rfl
  omega

theorem nt_eq (q : Rat) (b c : Bool) (hb : ng (rn q) = b) (hc : (!(dec (rd q).natAbs).toList == [49]) = c) :
    nt q = (if c then (if b then ⟨#[45]⟩ ++ dec (rn q).natAbs else dec (rn q).natAbs) ++ (⟨#[47]⟩ ++ dec (rd q).natAbs) else (if b then ⟨#[45]⟩ ++ dec (rn q).natAbs else dec (rn q).natAbs)) := by
  subst hb hc
  unfold nt sdec
  by_cases hi : isInt q = true
  · have h1 : rd q = 1 := of_decide_eq_true hi
    have h2 : (dec (rd q).natAbs).toList = [49] := by rw [h1]; show (dec 1).toList = _; rw [dec_one, ByteArray.toList_eq]
    rw [if_pos hi, h2]
    simp
  · have h1 : rd q ≠ 1 := fun h => hi (decide_eq_true h)
    have h0 := rd_pos q
    have h2 : ((dec (rd q).natAbs).toList == [49]) = false := by
      rw [beq_eq_false_iff_ne]
      intro e
      refine dec_ne_one (n := (rd q).natAbs) (by omega) (by omega) ?_
      rw [ByteArray.toList_eq] at e
      apply ByteArray.ext
      exact Array.toList_inj.1 e
    rw [if_neg hi, h2]
    simp [ByteArray.append_assoc]

/-- A box of four cells, filled. -/
theorem Rg.fill4 (w : World) (b0 b1 : Bool) (x0 x1 : Option Addr) (n0 n1 k0 k1 : Nat) (T : TypeId) :
    Rg w.heap.size 4 (w.alloc (Obj.cells #[.bool b0, .slice x0 n0 k0, .bool b1, .slice x1 n1 k1] T)) (w.alloc (Obj.cells #[.bool b0, .slice x0 n0 k0, .bool b1, .slice x1 n1 k1] T)) := by
  refine Rg.mk (Below.refl _ _) (fun o ho => ?_) (fun o => ?_) (noInt_cells (heap_alloc_new w _) fun u hu k z => ?_)
  · rcases o with _ | _ | _ | _ | o
    · simp [go_sem]
    · simp [go_sem]
    · simp [go_sem]
    · simp [go_sem]
    · omega
  · simp [go_sem]
  · simp at hu
    rcases hu with rfl | rfl | rfl | rfl <;> simp

/-- A text, and that it is one. -/
def RetNumQ (w : World) (s : ByteArray) (e : Ending) (w' : World) : Prop := e = .returned (.tuple #[.string s, .bool true]) ∧ Below w.heap.size w w'

theorem lowest_q (a : Option Addr) (c : Nat) (a' : Option Addr) (c' : Nat) (n d : Int) (q : Rat) (w : World) (h : QM w a c a' c' n d) (hs1 : LZ n ≤ 1000000) (hs2 : LZ d ≤ 1000000) (hd : 0 < d) (hq : Rat.divInt n d = q) :
    Calls Try.prog 27 #[.agg #[.bool (ng n), .slice a (LZ n) c, .bool (ng d), .slice a' (LZ d) c']] w (RetQ w (rn q) (rd q)) := by
  subst hq; exact lowest_any a c a' c' n d w h hs1 hs2 hd

set_option maxRecDepth 100000 in
set_option maxHeartbeats 1600000 in
theorem num_q (a : Option Addr) (c : Nat) (a' : Option Addr) (c' : Nat) (n d : Int) (q : Rat) (w : World) (h : QM w a c a' c' n d) (hs1 : LZ n ≤ 1000000) (hs2 : LZ d ≤ 1000000) (hd : 0 < d) (hq : Rat.divInt n d = q)
    (hn1 : (rn q).natAbs < p10 4000) (hn2 : (rd q).natAbs < p10 4000) :
    Calls Try.prog 26 #[.agg #[.bool (ng n), .slice a (LZ n) c, .bool (ng d), .slice a' (LZ d) c']] w (RetNumQ w (nt q)) := by
  have hH := Lib.hid (h.up ((Below.refl w.heap.size w).alloc (Nat.le_refl _) (Obj.cells #[.bool (ng n), .slice a (LZ n) c, .bool (ng d), .slice a' (LZ d) c'] 42)))
  have R0 : Hid (Rg w.heap.size 4 (w.alloc (Obj.cells #[.bool (ng n), .slice a (LZ n) c, .bool (ng d), .slice a' (LZ d) c'] 42)) (w.alloc (Obj.cells #[.bool (ng n), .slice a (LZ n) c, .bool (ng d), .slice a' (LZ d) c'] 42))) := Rg.fill4 _ _ _ _ _ _ _ _ _ _
  have hqH := Lib.hid hq
  have e1 : (sdec (rn q)).size ≤ 4000 := dec_le hn1 (by omega)
  have e2 : (sdec (rd q)).size ≤ 4000 := dec_le hn2 (by omega)
  have l1 := Lib.hid (show L B4 (rn q).natAbs ≤ 1000 from LZ_small hn1)
  have l2 := Lib.hid (LZ_small hn2)
  have g1 : ¬ (4000 : Int) < (dec (rn q).natAbs).size := by have : (dec (rn q).natAbs).size ≤ 4000 := e1; omega
  have g2 : ¬ (4000 : Int) < (dec (rd q).natAbs).size := by have : (dec (rd q).natAbs).size ≤ 4000 := e2; omega
  clear h hq hn1 hn2 e1 e2
  go_enter Try.func26, Try.ntmps26
  go_wp2_with (first
    | (go_at_call 27; go_loud (with_reducible refine (lowest_q a c a' c' n d q _ hH.out hs1 hs2 hd hqH.out).mono ?_); rintro e w1 ⟨a1, c1, a1', c1', rfl, hm1, hb1⟩; have r0 := Lib.hid (Rg.step R0.out (by omega) hb1).self; obtain ⟨_, t2, t3, t5, _⟩ := r0.out))
  obtain ⟨W, hW⟩ : ∃ W, W = ((((w1.setCell ⟨w.heap.size, 0, none⟩ (.bool (ng (rn q)))).setCell ⟨w.heap.size, 1, none⟩ (.slice a1 (LZ (rn q)) c1)).setCell ⟨w.heap.size, 2, none⟩ (.bool (ng (rd q)))).setCell ⟨w.heap.size, 3, none⟩ (.slice a1' (LZ (rd q)) c1')) := ⟨_, rfl⟩
  have x0 : W.cell? ⟨w.heap.size, 0, none⟩ = some (.bool (ng (rn q))) := by rw [hW]; simp [go_sem, t2]
  have x1 : W.cell? ⟨w.heap.size, 1, none⟩ = some (.slice a1 (LZ (rn q)) c1) := by rw [hW]; simp [go_sem, t2]
  have x2 : W.cell? ⟨w.heap.size, 2, none⟩ = some (.bool (ng (rd q))) := by rw [hW]; simp [go_sem, t2]
  have x3 : W.cell? ⟨w.heap.size, 3, none⟩ = some (.slice a1' (LZ (rd q)) c1') := by rw [hW]; simp [go_sem, t2]
  have hzW : w.heap.size < W.heap.size := World.block_lt_of_cell? W ⟨w.heap.size, 0, none⟩ x0
  have hMn := Lib.hid (show ZM W a1 c1 (rn q) by rw [hW]; exact hm1.1.set4 t5 _ _ _ _ _ _ _ _)
  have hMd := Lib.hid (show ZM W a1' c1' (rd q) by rw [hW]; exact hm1.2.set4 t5 _ _ _ _ _ _ _ _)
  have hbW := Lib.hid (show Below w.heap.size w W by rw [hW]; exact below_set4 ((((Below.refl w.heap.size w).alloc (Nat.le_refl _) _)).trans (hb1.mono (by simp))) (Nat.le_refl _) _ _ _ _)
  rw [← hW]
  clear hW t2 t3 t5 r0 R0 hm1 hb1 hH
  have hdq : ng (rd q) = false := by have := rd_pos q; simp [ng]; omega
  have hdqH := Lib.hid hdq
  clear hdq
  go_region_held3 (fun w' => Kq W w')
    (first | (with_reducible exact Kq.drew _) | (with_reducible exact Kq.step (by assumption) (by assumption)))
    (first
      | (go_at_call 48; (with_reducible refine (abs_nat a1 c1 (rn q) _ (hMn.out.kqZ (by assumption))).mono ?_); rintro e w3 ⟨a3, c3, rfl, hm3, hb3⟩)
      | (go_at_call 47; (with_reducible refine (figures_any false a3 c3 (rn q).natAbs _ hm3 l1.out).mono ?_); rintro e w4 ⟨rfl, hb4⟩)
      | (go_at_call 47; (with_reducible refine (figures_z a1' c1' (rd q) _ (hMd.out.kqZ (by assumption)) l2.out).mono ?_); rintro e w5 ⟨rfl, hb5⟩))
  go_wp2_with (fail)
  all_goals (
    go_ret2
    refine ⟨?_, bseqZ (bseqZ (bseqZ hbW.out (((Below.refl W.heap.size W).drew).trans (hb3.mono (by simp)))) hb4) hb5⟩
    rw [nt_eq q _ _ (by assumption) (by assumption)]
    rfl)

end Go.Proofs.Ytkecdjdggkpdpab
