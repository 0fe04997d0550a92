/- Zi -/
import Derived.Test.YtkecdjdggkpdpabQWl
set_option linter.unusedVariables false
/- Walks of the reference's integers: DivMod. -/
namespace Go.Proofs.Ytkecdjdggkpdpab
open Go Go.RowKit Go.Proofs

theorem div_more (X x b : Nat) (hb : 0 < b) : (x + B4 * X) / b = B4 * (X / b) + (x + B4 * (X % b)) / b ∧ (x + B4 * X) % b = (x + B4 * (X % b)) % b := by
  have h : x + B4 * X = (x + B4 * (X % b)) + b * (B4 * (X / b)) := by
    have h1 := Nat.mod_add_div X b
    have h2 : B4 * X = B4 * (X % b) + B4 * (b * (X / b)) := by rw [← Nat.mul_add, h1]
    rw [h2, Nat.mul_left_comm B4 b]; omega
  constructor
  · rw [h, Nat.add_mul_div_left _ _ hb, Nat.add_comm]
  · rw [h, Nat.add_mul_mod_self_left]

/-- What has been divided down to digit k. -/
def DInv (xs qs : List Nat) (b k r : Nat) : Prop :=
  qs.length = xs.length ∧ Lt B4 qs ∧ val B4 (qs.drop k) = val B4 (xs.drop k) / b ∧ r = val B4 (xs.drop k) % b

theorem DInv.step {xs qs : List Nat} {b k r x : Nat} (h : DInv xs qs b (k + 1) r) (hx : xs[k]? = some x) (hb : 0 < b) (hlt : (x + B4 * r) / b < 10000) : DInv xs (qs.set k ((x + B4 * r) / b)) b k ((x + B4 * r) % b) := by
  obtain ⟨h1, h2, h3, h4⟩ := h
  have hk : k < xs.length := (List.getElem?_eq_some_iff.1 hx).1
  have hd := val_drop B4 xs k x hx
  obtain ⟨e1, e2⟩ := div_more (val B4 (xs.drop (k + 1))) x b hb
  rw [← h4] at e1 e2
  refine ⟨by simpa using h1, h2.set _ _ hlt, ?_, ?_⟩
  · have hq : (qs.set k ((x + B4 * r) / b))[k]? = some ((x + B4 * r) / b) := by rw [List.getElem?_set_self (by omega)]
    rw [val_drop B4 _ k _ hq, val_set_drop _ _ _ _ _ (by omega), h3, hd, e1]; omega
  · rw [hd, e2]

theorem low_lt {x r b : Nat} (hx : x < 10000) (hr : r < b) : x + B4 * r < b * 10000 := by
  have : B4 * (r + 1) ≤ B4 * b := Nat.mul_le_mul (Nat.le_refl _) hr
  rw [Nat.mul_succ] at this
  unfold B4 at *
  omega
theorem low_eq {R b lo : Nat} (h1 : b * lo ≤ R) (h2 : R < b * (lo + 1)) : R / b = lo ∧ R - b * lo = R % b := by
  have hb : 0 < b := by rcases Nat.eq_zero_or_pos b with h | h
                        · subst h; omega
                        · exact h
  have e : R / b = lo := by
    refine Nat.div_eq_of_lt_le ?_ ?_
    · rw [Nat.mul_comm]; exact h1
    · rw [Nat.mul_comm]; exact h2
  refine ⟨e, ?_⟩
  have := Nat.mod_add_div R b
  rw [e] at this
  omega

theorem lt_cons {x : Nat} (hx : x < 10000) (r : Nat) : Lt B4 (x :: digs B4 r) := fun z hz => by
  rcases List.mem_cons.1 hz with h | h
  · rw [h]; exact hx
  · exact digs_lt two_le_B4 r z h

theorem ztimes_at (a1 : Option Addr) (c1 n m d : Nat) (z : Int) (w : World) (hm : m = L B4 n) (h1 : MagZ w a1 c1 n) (hb1 : m ≤ 10000000) (hd : d < 10000) (hz : z = (d : Nat)) :
    Calls Try.prog 67 #[.slice a1 m c1, .int .i64 z] w (RetLn w (n * d)) := by subst hz hm; exact ztimes_any a1 c1 n d w h1 hb1 hd
theorem cmp_le {x y : Nat} (h : x ≤ y) : cmpN x y ≤ 0 := by unfold cmpN; split <;> (try split) <;> omega
theorem cmp_gt {x y : Nat} (h : ¬ x ≤ y) : ¬ cmpN x y ≤ 0 := by unfold cmpN; split <;> (try split) <;> omega

theorem Dg.far {K : IntKind} {w : World} {a : Option Addr} {xs : List Nat} {N : Nat} (h : Dg K w a xs) (hN : ∀ ad, a = some ad → N ≠ ad.block) (k : Nat) (v : Value) : Dg K (w.setCell ⟨N, k, none⟩ v) a xs := fun i x hx => by
  obtain ⟨b, o, ha, hc⟩ := h i x hx
  refine ⟨b, o, ha, ?_⟩
  rw [World.cell?_setCell_far _ _ _ _ (hN _ ha)]
  exact hc

/-- The rest, kept from the walk. -/
def rZ (x b : Nat) : Int := ((x % b : Nat) : Int)
theorem ng_rZ (x b : Nat) : ng (rZ x b) = false := ng_nat _

def RetTwoZ (w : World) (z1 z2 : Int) (e : Ending) (w' : World) : Prop :=
  ∃ a c a' c', e = .returned (.tuple #[.agg #[.bool (ng z1), .slice a (LZ z1) c], .agg #[.bool (ng z2), .slice a' (LZ z2) c']]) ∧ ZM w' a c z1 ∧ ZM w' a' c' z2 ∧ Below w.heap.size w w'

set_option maxRecDepth 100000 in
set_option maxHeartbeats 6400000 in
theorem divmod_s (s : Bool) (a1 a2 : Option Addr) (c1 c2 x b : Nat) (w : World) (h1 : MagZ w a1 c1 x) (h2 : MagZ w a2 c2 b) (hb1 : L B4 x ≤ 1000000) (hb2 : L B4 b ≤ 1000000) (hb0 : 0 < b) (hex : s = true → x % b = 0) :
    Calls Try.prog 50 #[.agg #[.bool s, .slice a1 (L B4 x) c1], .agg #[.bool false, .slice a2 (L B4 b) c2]] w (RetTwoZ w (sgn s (x / b)) (rZ x b)) := by
  have hA := Lib.hid h1.2
  have hC := Lib.hid h2
  have hLm := Lib.hid (L_mono two_le_B4 (Nat.le_of_lt (Nat.mod_lt x hb0)))
  have hexH := Lib.hid hex
  have vA := Lib.hid (val_digs two_le_B4 x)
  have lA : Hid ((digs B4 x).length = L B4 x) := rfl
  have dA := Lib.hid (show Lt B4 (digs B4 x) from digs_lt two_le_B4 x)
  obtain ⟨m, hm⟩ : ∃ m, m = L B4 b := ⟨_, rfl⟩
  have hmH := Lib.hid hm
  rw [← hm] at hb2 ⊢
  generalize digs B4 x = xs at *
  generalize L B4 x = n at *
  clear h1 h2 hex hm
  obtain ⟨W, hW⟩ : ∃ W, W = (((w.alloc (Obj.cells #[.bool s, .slice a1 n c1] 40)).alloc (Obj.cells #[.bool false, .slice a2 m c2] 40)).alloc (Obj.cells #[.bool false, .slice none 0 0] 40)).alloc (Obj.cells #[.bool false, .slice none 0 0] 40) := ⟨_, rfl⟩
  have e0 : W.cell? ⟨w.heap.size, 0, none⟩ = some (.bool s) := by rw [hW]; simp [go_sem]
  have e1 : W.cell? ⟨w.heap.size, 1, none⟩ = some (.slice a1 n c1) := by rw [hW]; simp [go_sem]
  have e2 : W.cell? ⟨w.heap.size + 1, 0, none⟩ = some (.bool false) := by rw [hW]; simp [go_sem]
  have e3 : W.cell? ⟨w.heap.size + 1, 1, none⟩ = some (.slice a2 m c2) := by rw [hW]; simp [go_sem]
  have hbl : Below w.heap.size w W := by rw [hW]; go_grown
  have R3 : Hid (Rg (w.heap.size + 1 + 1 + 1) 2 W W) := by rw [hW]; exact Rg.new2 _ _ _ (by simp)
  have R2 : Hid (Rg (w.heap.size + 1 + 1) 2 W W) := by
    have h := Rg.old2 ((w.alloc (Obj.cells #[.bool s, .slice a1 n c1] 40)).alloc (Obj.cells #[.bool false, .slice a2 m c2] 40)) (.bool false) (.slice none 0 0) 40 (Obj.cells #[.bool false, .slice none 0 0] 40) (by intro _ _ h; cases h) (by intro _ _ h; cases h)
    rw [← hW, show ((w.alloc (Obj.cells #[.bool s, .slice a1 n c1] 40)).alloc (Obj.cells #[.bool false, .slice a2 m c2] 40)).heap.size = w.heap.size + 1 + 1 by simp] at h
    exact h
  have hsz : Hid (W.heap.size = w.heap.size + 4) := by show _ = _; rw [hW]; simp
  have hWH := Lib.hid hW
  have hblH := Lib.hid hbl
  clear hW hbl
  go_enter Try.func50, Try.ntmps50
  go_wp2_with (first | (at_make; rw [← hWH.out]; go_loud (refine wpList_make_zero _ rfl (.tmp 16) _ rfl 3 .i64 8 Try.underlying25 info_int (by omega) .i64 _ n rfl (by omega) (by omega) ?_); intro w1 hB1 hb1'; have e1' := Below.cellAt ((Below.refl w1.heap.size w1).alloc (Nat.le_refl _) (Obj.cells #[] 3)) (Nat.le_refl _) (Below.cellAt hb1' (Nat.le_refl _) e1)))
  obtain ⟨Bq, hBs⟩ : ∃ Bq, Bq = W.heap.size := ⟨_, rfl⟩
  rw [← hBs] at hB1
  rw [← hBs]
  have hgB : w.heap.size + 1 + 1 + 1 < Bq := by rw [hBs, hsz.out]; omega
  have hbq : Bq < w1.heap.size := hB1.lt
  have hRg1 := Lib.hid (Rg.alloc (Rg.step R3.out (by omega) hb1') (by omega) (Obj.cells #[] 3))
  have hN1 := Lib.hid (hB1.below ((Below.refl w1.heap.size w1).alloc (Nat.le_refl _) (Obj.cells #[] 3)) hbq)
  clear hb1' hBs hB1
  clear e1'
  go_loopw [7, 8] (fun rs i wr => ∃ (k r : Nat) (ar : Option Addr) (cr : Nat) (qs : List Nat), i = .int .i64 ((k : Int) - 1) ∧ k ≤ n ∧ rs = .slice ar (L B4 r) cr ∧ MagZ wr ar cr r ∧ DInv xs qs b k r ∧ Nblk .i64 wr Bq 3 qs ∧ Rg (w.heap.size + 1 + 1 + 1) 2 W wr) (fun _ i _ => (intOf i + 1).toNat)
  case atStart =>
    refine ⟨n, 0, _, _, _, by go_num, by omega, rfl, MagZ.zero _ _ _, ⟨by simp; have := lA.out; omega, Lt.replicate (by unfold B4; omega), ?_, ?_⟩, hN1.out, hRg1.out⟩
    · rw [List.drop_of_length_le (by simp), List.drop_of_length_le (by rw [lA.out]; exact Nat.le_refl _)]; simp [val]
    · rw [List.drop_of_length_le (by rw [lA.out]; exact Nat.le_refl _)]; simp [val]
  case round =>
    obtain ⟨k, r, ar, cr, qs, rfl, hk, rfl, hM, hD, hN, hRw⟩ := hrel
    have hMH := Lib.hid hM
    have hDH := Lib.hid hD
    have hNH := Lib.hid hN
    have hRH := Lib.hid hRw
    have hql := Lib.hid hD.1
    obtain ⟨k1, k2, k3, k5, k4⟩ := hRw
    have hgl : Bq < wr.heap.size := hN.lt
    have hbw := Lib.hid (hblH.out.trans (hRH.out.kept.mono (by omega)))
    clear hM hD hN k2 k3 k5 k4
    by_cases hk0 : 0 < k
    · obtain ⟨j, rfl⟩ : ∃ j, k = j + 1 := ⟨k - 1, by omega⟩
      have hji : ((j + 1 : Nat) : Int) - 1 = (j : Nat) := by omega
      rw [hji]
      have hj0 : (0 : Int) ≤ (j : Nat) := by omega
      have hjn : (j : Int) < n := by omega
      obtain ⟨b1, o1, p, hp, hae, hc1⟩ := (hA.out.below hbw.out).at (i := j) (by rw [lA.out]; omega)
      subst hae
      have hp1 : p < 10000 := dA.out.at hp
      have hpH := Lib.hid hp
      have hrb : Hid (r < b) := by have := hDH.out.2.2.2; rw [this]; exact Nat.mod_lt _ hb0
      obtain ⟨R, hR⟩ : ∃ R, R = p + B4 * r := ⟨_, rfl⟩
      have hRlt : Hid (R < b * 10000) := by rw [hR]; exact low_lt hp1 hrb.out
      have hLr : L B4 r ≤ m := by rw [hmH.out]; exact L_mono two_le_B4 (Nat.le_of_lt hrb.out)
      have hLR : L B4 R ≤ m + 1 := by
        refine L_le_of_lt two_le_B4 _ _ (Nat.lt_of_lt_of_le hRlt.out ?_)
        rw [Nat.pow_succ, hmH.out]
        exact Nat.mul_le_mul (Nat.le_of_lt (lt_pow_L two_le_B4 b)) (by unfold B4; exact Nat.le_refl _)
      have hRv : Hid (val B4 (p :: digs B4 r) = R) := by show _ = _; rw [hR, val, val_digs two_le_B4]
      have hRH2 := Lib.hid hR
      have hlc := Lib.hid (lt_cons hp1 r)
      have hfd := field_M
      clear hp hR hji hk
      go_wp2_with (first
        | (at_builtin; go_loud (refine wpList_append_cons _ rfl (.tmp 32) (.tmp 33) _ rfl 3 .i64 8 Try.underlying25 info_int (by omega) wr p rfl rfl ar (L B4 r) cr (digs B4 r) rfl ((hMH.out.up ((Below.refl _ _).alloc (Nat.le_refl _) _)).2) rfl (by omega) ?_); intro a3 c3 w3 hc3 hd3 hb3; have hb3H := Lib.hid (((Below.refl wr.heap.size wr).alloc (Nat.le_refl _) (Obj.cells #[Value.int .i64 (p : Nat)] 3)).trans hb3); have hd3H := Lib.hid hd3; clear hb3 hd3)
        | (go_at_call 65; go_loud (with_reducible refine (lean_nat a3 c3 (L B4 r + 1) R (p :: digs B4 r) _ rfl hd3H.out hlc.out hc3 (by omega) hRv.out).mono ?_); rintro e w5 ⟨a5, c5, rfl, hm5, hb5, hat5⟩; have hat5H := Lib.hid hat5; have hm5H := Lib.hid hm5; have hb5H := Lib.hid (bseqZ hb3H.out hb5); clear hat5 hm5 hb5))
      have hR5 := Lib.hid (Rg.step hRH.out (by omega) hb5H.out)
      have hN5 := Lib.hid (hNH.out.below hb5H.out hgl)
      have hg5 : Bq < w5.heap.size := Nat.lt_of_lt_of_le hgl hb5H.out.size
      have hB3 : Hid (Bq < w3.heap.size) := Nat.lt_of_lt_of_le hgl hb3H.out.size
      clear k1 hc1
      go_loopw [9, 10] (fun l h wi => ∃ (lo hi : Nat), l = .int .i64 (lo : Nat) ∧ h = .int .i64 (hi : Nat) ∧ lo < hi ∧ hi ≤ 10000 ∧ b * lo ≤ R ∧ R < b * hi ∧ Below w5.heap.size w5 wi) (fun l h _ => (intOf h - intOf l).toNat)
      case atStart => exact ⟨0, 10000, rfl, rfl, by omega, by omega, by omega, hRlt.out, Below.refl _ _⟩
      case round =>
        obtain ⟨lo, hi, rfl, rfl, hlh, hh, hlo, hhi, hbi⟩ := hrel
        have hbiH := Lib.hid hbi
        have hloH := Lib.hid hlo
        have hhiH := Lib.hid hhi
        have hRI := Lib.hid (Rg.step hR5.out (by omega) hbi)
        obtain ⟨k1, _, _, _, _⟩ := hRI.out
        have hbwi := Lib.hid (hblH.out.trans (hRI.out.kept.mono (by omega)))
        have hgi : Bq < wr.heap.size := Nat.lt_of_lt_of_le hg5 hbi.size
        have hLb : L B4 b ≤ 1000000 := by rw [← hmH.out]; exact hb2
        have hmm : Hid (m = L B4 b) := hmH.out
        clear hlo hhi hbi
        by_cases hgo : (1 : Int) < (hi : Int) - lo
        · obtain ⟨mi, hmi⟩ : ∃ mi, mi = (lo + hi) / 2 := ⟨_, rfl⟩
          have hm1 : lo < mi := by omega
          have hm2 : mi < hi := by omega
          have hLm2 := L_mul two_le_B4 b mi
          have hLmi : L B4 mi ≤ 1 := L_le_of_lt two_le_B4 1 mi (by unfold B4; omega)
          have hmiH := Lib.hid hmi
          clear hmi
          by_cases hcm : b * mi ≤ R
          · have hc := cmp_le hcm
            have hcmH := Lib.hid hcm
            clear hcm
            go_wp2_with (first
              | (go_at_call 67; go_loud (with_reducible refine (ztimes_at a2 c2 b m mi _ _ hmH.out (hC.out.below hbwi.out) (by omega) (by omega) (by have := hmiH.out; omega)).mono ?_); rintro e w6 ⟨a6, c6, rfl, hm6, hb6⟩)
              | (go_at_call 66; go_loud (with_reducible refine (sizes_any a6 a5 c6 c5 (b * mi) R _ hm6 ((hm5H.out.up hbiH.out).up hb6) (by omega) (by omega)).mono ?_); rintro e w7 ⟨rfl, hb7⟩; have hb7H := Lib.hid ((hbiH.out.trans (hb6.mono hbiH.out.size)).trans (hb7.mono (Nat.le_trans hbiH.out.size hb6.size)))))
            go_roundw
            case rel => exact ⟨mi, hi, by have := hmiH.out; go_num, rfl, by omega, by omega, hcmH.out, hhiH.out, hb7H.out⟩
            case measure => have := hmiH.out; simp [intOf]; omega
          · have hc := cmp_gt hcm
            have hcmH := Lib.hid hcm
            clear hcm
            go_wp2_with (first
              | (go_at_call 67; go_loud (with_reducible refine (ztimes_at a2 c2 b m mi _ _ hmH.out (hC.out.below hbwi.out) (by omega) (by omega) (by have := hmiH.out; omega)).mono ?_); rintro e w6 ⟨a6, c6, rfl, hm6, hb6⟩)
              | (go_at_call 66; go_loud (with_reducible refine (sizes_any a6 a5 c6 c5 (b * mi) R _ hm6 ((hm5H.out.up hbiH.out).up hb6) (by omega) (by omega)).mono ?_); rintro e w7 ⟨rfl, hb7⟩; have hb7H := Lib.hid ((hbiH.out.trans (hb6.mono hbiH.out.size)).trans (hb7.mono (Nat.le_trans hbiH.out.size hb6.size)))))
            go_roundw
            case rel => exact ⟨lo, mi, rfl, by have := hmiH.out; go_num, by omega, by omega, hloH.out, Nat.lt_of_not_le hcmH.out, hb7H.out⟩
            case measure => have := hmiH.out; simp [intOf]; omega
        · have hhl : hi = lo + 1 := by omega
          subst hhl
          obtain ⟨d1, d2⟩ := low_eq hloH.out hhiH.out
          have d1H := Lib.hid d1
          have d2H := Lib.hid d2
          have hNi := Lib.hid (hN5.out.below hbiH.out hg5)
          obtain ⟨z, hz⟩ : ∃ z, qs[j]? = some z := ⟨_, List.getElem?_eq_getElem (by rw [hql.out, lA.out]; omega)⟩
          have hoc := hNi.out.at hz
          have hof := Blk.frozen hNi.out j
          have hM5s : Hid (MagZ (wr.setCell ⟨Bq, j, none⟩ (.int .i64 (lo : Nat))) a5 c5 R) := by
            have h5 := hm5H.out.up hbiH.out
            refine ⟨h5.1, h5.2.far (fun ad h => ?_) _ _⟩
            have h6 := hat5H.out ad h
            have h7 := hB3.out
            omega
          have hCs := Lib.hid (hC.out.below (hbwi.out.setCell (p := ⟨Bq, j, none⟩) (by show w.heap.size ≤ Bq; omega) (.int .i64 (lo : Nat))))
          have hRs := Lib.hid (hRI.out.high (k := j) hgB (.int .i64 (lo : Nat)))
          have hNs := Lib.hid (hNi.out.set j lo)
          obtain ⟨l1, _, _, _, _⟩ := hRs.out
          clear d1 d2 hz
          go_wp2_with (first
            | (go_at_call 67; go_loud (with_reducible refine (ztimes_at a2 c2 b m lo _ _ hmH.out hCs.out (by omega) (by omega) (by omega)).mono ?_); rintro e w6 ⟨a6, c6, rfl, hm6, hb6⟩)
            | (go_at_call 68; go_loud (with_reducible refine (zless_any a5 a6 c5 c6 R (b * lo) _ (hM5s.out.up hb6) hm6 (by omega) hloH.out).mono ?_); rintro e w8 ⟨a8, c8, k8, zs, rfl, hzl, hd8, hkc, hlt, hval, hkm, hb8⟩; have hk8 : k8 ≤ 4000000000 := by omega)
            | (go_at_call 65; go_loud (with_reducible refine (lean_nat a8 c8 k8 (R - b * lo) zs _ hzl hd8 hlt hkc hk8 hval).mono ?_); rintro e w9 ⟨a9, c9, rfl, hm9, hb9, _⟩; have hb9H := Lib.hid (bseqZ (bseqZ hb6 hb8) hb9)))
          go_roundw
          case rel =>
            have hs9 := hb9H.out
            refine ⟨j, R % b, a9, c9, qs.set j lo, by go_num, by omega, by rw [d2H.out], ?_, ?_, hNs.out.below hs9 (by simpa using hgi), Rg.step hRs.out (by omega) hs9⟩
            · rw [← d2H.out]; exact hm9
            · have := hDH.out.step hpH.out hb0 (by rw [← hRH2.out, d1H.out]; first | done | omega)
              rw [← hRH2.out, d1H.out] at this
              exact this
          case measure => simp [intOf] <;> omega
    · have hke : k = 0 := by omega
      subst hke
      obtain ⟨z1, z2, z3, z4⟩ := hDH.out
      rw [List.drop_zero, List.drop_zero, vA.out] at z3
      rw [List.drop_zero, vA.out] at z4
      have hqv := Lib.hid z3
      have hrv := Lib.hid z4
      have hql2 : Hid (qs.length = n) := by show _ = _; rw [z1]; exact lA.out
      have hLt := Lib.hid z2
      have hLr : L B4 r ≤ m := by rw [hmH.out, z4]; exact hLm.out
      clear z1 z2 z3 z4
      cases s
      · have hex2 := hexH.out
        clear hex2
        go_wp2_with (first
          | (go_at_call 65; go_loud (with_reducible refine (lean_n false (some ⟨Bq, 0, none⟩) n n (x / b) qs _ hql2.out hNH.out.dg hLt.out (Nat.le_refl _) (by omega) hqv.out).mono ?_); rintro e w3 ⟨a3, c3, rfl, hm3, hb3⟩; have hm3H := Lib.hid hm3; have hM3 := Lib.hid (hMH.out.up hb3); have hR3 := Lib.hid (Rg.step hRH.out (by omega) hb3); clear hm3 hb3)
          | (go_at_call 65; go_loud (with_reducible refine (lean_mag ar cr r _ hM3.out (by omega)).mono ?_); rintro e w4 ⟨a4, c4, rfl, hm4, hb4, _⟩; have hm4H := Lib.hid hm4; have hm34 := Lib.hid (hm3H.out.up hb4); have hR4 := Lib.hid (Rg.step hR3.out (by omega) hb4); obtain ⟨l1, _, _, _, _⟩ := hR4.out; have hs4 : w.heap.size + 1 + 1 + 1 < w4.heap.size := World.block_lt_of_cell? w4 ⟨w.heap.size + 1 + 1 + 1, 0, none⟩ (hR4.out.2.1 0 (by omega)); have hs5 : w.heap.size < w4.heap.size := (by omega); clear hm4 hb4))
        obtain ⟨V2, hV2⟩ : ∃ V2, V2 = (w4.alloc (Obj.cells #[.bool (ng (sgn false (x / b))), .slice a3 (LZ (sgn false (x / b))) c3] 40)).alloc (Obj.cells #[.bool false, .slice a4 (L B4 r) c4] 40) := ⟨_, rfl⟩
        rw [← hV2]
        have f0 : V2.cell? ⟨w4.heap.size, 0, none⟩ = some (.bool (ng (sgn false (x / b)))) := by rw [hV2]; simp [go_sem]
        have f1 : V2.cell? ⟨w4.heap.size, 1, none⟩ = some (.slice a3 (LZ (sgn false (x / b))) c3) := by rw [hV2]; simp [go_sem]
        have f2 : V2.cell? ⟨w4.heap.size + 1, 0, none⟩ = some (.bool false) := by rw [hV2]; simp [go_sem]
        have f3 : V2.cell? ⟨w4.heap.size + 1, 1, none⟩ = some (.slice a4 (L B4 r) c4) := by rw [hV2]; simp [go_sem]
        have hb2V : Below w4.heap.size w4 V2 := by rw [hV2]; go_grown
        have hR5 := (Rg.step hR4.out (by omega) hb2V)
        have hR6 := Rg.slf (Rg.over R2.out hR5.kept (by omega))
        obtain ⟨_, p2, p3, n2, _⟩ := hR6
        obtain ⟨_, q2, q3, n3, hk5⟩ := hR5
        have hmq := Lib.hid (hm34.out.up hb2V)
        have hmr := Lib.hid (hm4H.out.up hb2V)
        have hbV := Lib.hid (hblH.out.trans (hk5.mono (by omega)))
        clear hV2 l1 hb2V hk5 k1
        go_region
        all_goals go_wp2_with (fail)
        all_goals refine bodyPost_ret (v := .tuple #[.agg #[.bool (ng (sgn false (x / b))), .slice a3 (LZ (sgn false (x / b))) c3], .agg #[.bool false, .slice a4 (L B4 r) c4]]) (by simp [results, Try.results50, go_sem, p2, q2]) rfl ?_
        all_goals (
          refine ⟨a3, c3, a4, c4, ?_, ?_, ?_, ?_⟩
          · rw [ng_rZ, show LZ (rZ x b) = L B4 r by rw [hrv.out]; rfl]
          · (repeat (first | (with_reducible exact hmq.out) | (with_reducible refine ZM.up ?_ (Below.refl _ _).drew) | (with_reducible refine ZM.setN ?_ ?_ _ _) | (with_reducible exact n2) | (with_reducible exact n3) | (refine NoInt.set ?_ _ _ (by intro _ _ h; cases h))))
          · show MagZ _ a4 c4 (x % b)
            rw [← hrv.out]
            (have hmr2 : MagZ V2 a4 c4 r := hmr.out); (repeat (first | (with_reducible exact hmr2) | (with_reducible refine MagZ.up ?_ (Below.refl _ _).drew) | (with_reducible refine MagZ.setN ?_ ?_ _ _) | (with_reducible exact n2) | (with_reducible exact n3) | (refine NoInt.set ?_ _ _ (by intro _ _ h; cases h))))
          · (repeat (first | (with_reducible exact hbV.out) | (with_reducible refine Below.drew ?_) | refine Below.setCell ?_ (show w.heap.size ≤ w.heap.size + 1 + 1 by omega) _ | refine Below.setCell ?_ (show w.heap.size ≤ w.heap.size + 1 + 1 + 1 by omega) _)))
      · have hex2 := hexH.out
        have hr0 : r = 0 := by rw [hrv.out]; exact hex2 rfl
        have hgt : ¬ (0 : Int) < (L B4 r : Nat) := by rw [hr0, L_zero]; omega
        clear hex2 hr0
        go_wp2_with (first
          | (go_at_call 65; go_loud (with_reducible refine (lean_n true (some ⟨Bq, 0, none⟩) n n (x / b) qs _ hql2.out hNH.out.dg hLt.out (Nat.le_refl _) (by omega) hqv.out).mono ?_); rintro e w3 ⟨a3, c3, rfl, hm3, hb3⟩; have hm3H := Lib.hid hm3; have hM3 := Lib.hid (hMH.out.up hb3); have hR3 := Lib.hid (Rg.step hRH.out (by omega) hb3); clear hm3 hb3)
          | (go_at_call 65; go_loud (with_reducible refine (lean_mag ar cr r _ hM3.out (by omega)).mono ?_); rintro e w4 ⟨a4, c4, rfl, hm4, hb4, _⟩; have hm4H := Lib.hid hm4; have hm34 := Lib.hid (hm3H.out.up hb4); have hR4 := Lib.hid (Rg.step hR3.out (by omega) hb4); obtain ⟨l1, _, _, _, _⟩ := hR4.out; have hs4 : w.heap.size + 1 + 1 + 1 < w4.heap.size := World.block_lt_of_cell? w4 ⟨w.heap.size + 1 + 1 + 1, 0, none⟩ (hR4.out.2.1 0 (by omega)); have hs5 : w.heap.size < w4.heap.size := (by omega); clear hm4 hb4))
        obtain ⟨V2, hV2⟩ : ∃ V2, V2 = (w4.alloc (Obj.cells #[.bool (ng (sgn true (x / b))), .slice a3 (LZ (sgn true (x / b))) c3] 40)).alloc (Obj.cells #[.bool false, .slice a4 (L B4 r) c4] 40) := ⟨_, rfl⟩
        rw [← hV2]
        have f0 : V2.cell? ⟨w4.heap.size, 0, none⟩ = some (.bool (ng (sgn true (x / b)))) := by rw [hV2]; simp [go_sem]
        have f1 : V2.cell? ⟨w4.heap.size, 1, none⟩ = some (.slice a3 (LZ (sgn true (x / b))) c3) := by rw [hV2]; simp [go_sem]
        have f2 : V2.cell? ⟨w4.heap.size + 1, 0, none⟩ = some (.bool false) := by rw [hV2]; simp [go_sem]
        have f3 : V2.cell? ⟨w4.heap.size + 1, 1, none⟩ = some (.slice a4 (L B4 r) c4) := by rw [hV2]; simp [go_sem]
        have hb2V : Below w4.heap.size w4 V2 := by rw [hV2]; go_grown
        have hR5 := (Rg.step hR4.out (by omega) hb2V)
        have hR6 := Rg.slf (Rg.over R2.out hR5.kept (by omega))
        obtain ⟨_, p2, p3, n2, _⟩ := hR6
        obtain ⟨_, q2, q3, n3, hk5⟩ := hR5
        have hmq := Lib.hid (hm34.out.up hb2V)
        have hmr := Lib.hid (hm4H.out.up hb2V)
        have hbV := Lib.hid (hblH.out.trans (hk5.mono (by omega)))
        clear hV2 l1 hb2V hk5 k1
        go_region
        all_goals go_wp2_with (fail)
        all_goals refine bodyPost_ret (v := .tuple #[.agg #[.bool (ng (sgn true (x / b))), .slice a3 (LZ (sgn true (x / b))) c3], .agg #[.bool false, .slice a4 (L B4 r) c4]]) (by simp [results, Try.results50, go_sem, p2, q2]) rfl ?_
        all_goals (
          refine ⟨a3, c3, a4, c4, ?_, ?_, ?_, ?_⟩
          · rw [ng_rZ, show LZ (rZ x b) = L B4 r by rw [hrv.out]; rfl]
          · (repeat (first | (with_reducible exact hmq.out) | (with_reducible refine ZM.up ?_ (Below.refl _ _).drew) | (with_reducible refine ZM.setN ?_ ?_ _ _) | (with_reducible exact n2) | (with_reducible exact n3) | (refine NoInt.set ?_ _ _ (by intro _ _ h; cases h))))
          · show MagZ _ a4 c4 (x % b)
            rw [← hrv.out]
            (have hmr2 : MagZ V2 a4 c4 r := hmr.out); (repeat (first | (with_reducible exact hmr2) | (with_reducible refine MagZ.up ?_ (Below.refl _ _).drew) | (with_reducible refine MagZ.setN ?_ ?_ _ _) | (with_reducible exact n2) | (with_reducible exact n3) | (refine NoInt.set ?_ _ _ (by intro _ _ h; cases h))))
          · (repeat (first | (with_reducible exact hbV.out) | (with_reducible refine Below.drew ?_) | refine Below.setCell ?_ (show w.heap.size ≤ w.heap.size + 1 + 1 by omega) _ | refine Below.setCell ?_ (show w.heap.size ≤ w.heap.size + 1 + 1 + 1 by omega) _)))

end Go.Proofs.Ytkecdjdggkpdpab
