/- Zf Zg Zh -/
import Derived.Test.YtkecdjdggkpdpabQZe
import Derived.Test.YtkecdjdggkpdpabQWa
set_option linter.unusedVariables false
/- Walks of the reference's integers: Mul. -/
namespace Go.Proofs.Ytkecdjdggkpdpab
open Go Go.RowKit Go.Proofs

/-- The product of the first k digits and all of ys; zeros behind it. -/
def TZ (xs ys os : List Nat) (k : Nat) : Prop :=
  os.length = xs.length + ys.length + 1 ∧ Lt B4 os ∧ val B4 (os.take (k + ys.length)) = val B4 (xs.take k) * val B4 ys ∧ os.drop (k + ys.length) = List.replicate (xs.length + 1 - k) 0
/-- The row of digit k, up to the digit j of ys. -/
def RZ (xs ys os : List Nat) (k x j c : Nat) : Prop :=
  os.length = xs.length + ys.length + 1 ∧ Lt B4 os ∧ c < B4 ∧ val B4 (os.take (k + ys.length)) + B4 ^ (k + j) * c = val B4 (xs.take k) * val B4 ys + B4 ^ k * (x * val B4 (ys.take j)) ∧ os.drop (k + ys.length) = List.replicate (xs.length + 1 - k) 0

theorem TZ.row {xs ys os : List Nat} {k : Nat} (h : TZ xs ys os k) (x : Nat) : RZ xs ys os k x 0 0 :=
  ⟨h.1, h.2.1, by unfold B4; omega, by rw [h.2.2.1]; simp [val], h.2.2.2⟩

theorem mul_lt_B4 (x y z c : Nat) (hx : x < 10000) (hy : y < 10000) (hz : z < 10000) (hc : c < 10000) : (x * y + z + c) / 10000 < 10000 := by
  rw [Nat.div_lt_iff_lt_mul (by omega)]
  have : x * y ≤ 9999 * 9999 := Nat.mul_le_mul (by omega) (by omega)
  omega

theorem RZ.step {xs ys os : List Nat} {k x j c y z : Nat} (h : RZ xs ys os k x j c) (hy : ys[j]? = some y) (hz : os[k + j]? = some z) (hx1 : x < B4) (hy1 : y < B4) :
    RZ xs ys (os.set (k + j) ((x * y + z + c) % B4)) k x (j + 1) ((x * y + z + c) / B4) := by
  obtain ⟨h1, h2, h3, h4, h5⟩ := h
  have hj : j < ys.length := (List.getElem?_eq_some_iff.1 hy).1
  have hB : 0 < B4 := by unfold B4; omega
  refine ⟨by simpa using h1, h2.set _ _ (Nat.mod_lt _ hB), mul_lt_B4 x y z c hx1 hy1 (h2.at hz) h3, ?_, ?_⟩
  · have e1 := val_set_any B4 os (k + j) (k + ys.length) ((x * y + z + c) % B4) z hz (by omega)
    have e2 := times_step B4 (B4 ^ (k + j)) _ _ z x y c ((x * y + z + c) % B4) ((x * y + z + c) / B4) _ h4 e1 (Nat.mod_add_div _ _)
    rw [← Nat.add_assoc, Nat.pow_succ, e2, val_take_succ B4 ys j y hy, Nat.mul_add x, Nat.mul_add (B4 ^ k), Nat.pow_add]
    rw [Nat.add_assoc]
    congr 1
    congr 1
    rw [Nat.mul_assoc, Nat.mul_left_comm x]
  · rw [List.drop_set_of_lt (by omega)]; exact h5

theorem RZ.zero {xs ys os : List Nat} {k x j c : Nat} (h : RZ xs ys os k x j c) (hk : k < xs.length) : os[k + ys.length]? = some 0 := by
  have e : (os.drop (k + ys.length))[0]? = some 0 := by
    rw [h.2.2.2.2, List.getElem?_replicate]
    rw [if_pos (by omega)]
  rw [List.getElem?_drop] at e
  exact e

theorem RZ.done {xs ys os : List Nat} {k x c : Nat} (h : RZ xs ys os k x ys.length c) (hx : xs[k]? = some x) : TZ xs ys (os.set (k + ys.length) c) (k + 1) := by
  obtain ⟨h1, h2, h3, h4, h5⟩ := h
  have hk : k < xs.length := (List.getElem?_eq_some_iff.1 hx).1
  refine ⟨by simpa using h1, h2.set _ _ h3, ?_, ?_⟩
  · rw [show k + 1 + ys.length = k + ys.length + 1 by omega, val_set_take _ _ _ _ (by omega), h4, val_take_succ _ _ _ _ hx, List.take_of_length_le (Nat.le_refl ys.length), Nat.add_mul, Nat.mul_assoc]
  · rw [List.drop_set_of_lt (by omega), show k + 1 + ys.length = k + ys.length + 1 by omega, ← List.drop_drop, h5, List.drop_replicate]
    congr 1
theorem RZ.done0 {xs ys os : List Nat} {k x : Nat} (h : RZ xs ys os k x ys.length 0) (hx : xs[k]? = some x) : TZ xs ys os (k + 1) := by
  have := h.done hx
  have e : os.set (k + ys.length) 0 = os := by
    have hz := h.zero (List.getElem?_eq_some_iff.1 hx).1
    obtain ⟨hi, hv⟩ := List.getElem?_eq_some_iff.1 hz
    rw [← hv]; exact List.set_getElem_self hi
  rwa [e] at this

theorem TZ.all {xs ys os : List Nat} {x y : Nat} (h : TZ xs ys os xs.length) (hx : val B4 xs = x) (hy : val B4 ys = y) : val B4 os = x * y := by
  obtain ⟨h1, h2, h3, h4⟩ := h
  rw [val_split B4 os (xs.length + ys.length) (by omega), h3, h4, val_replicate, List.take_of_length_le (Nat.le_refl _), hx, hy]
  simp

theorem Rg.high {N n B k : Nat} {W w1 : World} (h : Rg N n W w1) (hB : N < B) (v : Value) : Rg N n W (w1.setCell ⟨B, k, none⟩ v) :=
  Rg.over h (((Below.refl (N + 1) w1).setCell (show N + 1 ≤ B by omega) v)) (by omega)

theorem mul_bound4 (x y : Nat) (hx : x < 10000) (hy : y < 10000) : (0 : Int) ≤ (x : Int) * y ∧ (x : Int) * y ≤ 99980001 := by
  have h1 : x * y ≤ 9999 * 9999 := Nat.mul_le_mul (by omega) (by omega)
  have h2 : ((x * y : Nat) : Int) = (x : Int) * y := by simp
  omega

/-- What the inner loop keeps. -/
def RowZ (xs ys os : List Nat) (k x j c : Nat) : Prop := (j ≤ ys.length ∧ RZ xs ys os k x j c) ∨ (j = ys.length + 1 ∧ c = 0 ∧ TZ xs ys os (k + 1))

set_option maxRecDepth 100000 in
set_option maxHeartbeats 3200000 in
theorem zmul_any (a1 a2 : Option Addr) (c1 c2 : Nat) (x y : Int) (w : World) (h1 : ZM w a1 c1 x) (h2 : ZM w a2 c2 y) (hb1 : LZ x ≤ 100000000) (hb2 : LZ y ≤ 100000000) :
    Calls Try.prog 75 #[.agg #[.bool (ng x), .slice a1 (LZ x) c1], .agg #[.bool (ng y), .slice a2 (LZ y) c2]] w (RetZ w (x * y)) := by
  have hz := Lib.hid (sgn_mul x y)
  have hLz := Lib.hid (LZ_mul x y)
  have hA := Lib.hid h1.2
  have hC := Lib.hid h2.2
  have vA := Lib.hid (val_digs two_le_B4 x.natAbs)
  have vC := Lib.hid (val_digs two_le_B4 y.natAbs)
  have lA : Hid ((digs B4 x.natAbs).length = LZ x) := rfl
  have lC : Hid ((digs B4 y.natAbs).length = LZ y) := rfl
  have dA := Lib.hid (show Lt B4 (digs B4 x.natAbs) from digs_lt two_le_B4 x.natAbs)
  have dC := Lib.hid (show Lt B4 (digs B4 y.natAbs) from digs_lt two_le_B4 y.natAbs)
  obtain ⟨W, hW, hbl, e0, e1, e2, e3, hR⟩ := boxed3 w (Value.bool (ng x)) (Value.slice a1 (LZ x) c1) (Value.bool (ng y)) (Value.slice a2 (LZ y) c2) 40 40 40
  have hszW : W.heap.size = w.heap.size + 3 := by rw [hW]; simp
  have hWH := Lib.hid hW
  have HR := Lib.hid hR
  have hblH := Lib.hid hbl
  have hszH := Lib.hid hszW
  generalize digs B4 x.natAbs = xs at *
  generalize digs B4 y.natAbs = ys at *
  generalize LZ x = n at *
  generalize LZ y = m at *
  clear hW hR h1 h2 hbl hszW
  go_enter Try.func75, Try.ntmps75
  go_wp2_with (first | (at_make; rw [← hWH.out]; go_loud (refine wpList_make_zero _ rfl (.tmp 17) _ rfl 3 .i64 8 Try.underlying25 info_int (by omega) .i64 _ (n + m + 1) rfl (by omega) (by omega) ?_); intro w1 hB1 hb1'))
  have hRg1 := Lib.hid (Rg.step HR.out (by omega) hb1')
  obtain ⟨B, hBs⟩ : ∃ B, B = W.heap.size := ⟨_, rfl⟩
  rw [← hBs] at hB1
  rw [← hBs]
  have hgB : w.heap.size + 1 + 1 < B := by rw [hBs, hszH.out]; omega
  clear hb1' hBs
  go_loopw [6] (fun i wr => ∃ k os, k ≤ n ∧ i = .int .i64 (k : Nat) ∧ TZ xs ys os k ∧ Nblk .i64 wr B 3 os ∧ Rg (w.heap.size + 1 + 1) 2 W wr) (fun i _ => n - (intOf i).toNat)
  case atStart =>
    refine ⟨0, _, by omega, rfl, ⟨by simp; have := lA.out; have := lC.out; omega, Lt.replicate (by unfold B4; omega), ?_, ?_⟩, hB1, hRg1.out⟩
    · rw [List.take_replicate, val_replicate]; simp [val]
    · rw [List.drop_replicate]; congr 1; have := lA.out; have := lC.out; omega
  case round =>
    obtain ⟨k, os, hk, rfl, hP, hN, hRw⟩ := hrel
    have hPH := Lib.hid hP
    have hNH := Lib.hid hN
    have holH := Lib.hid hP.1
    have hRH := Lib.hid hRw
    obtain ⟨k1, k2, k3, k5, k4⟩ := hRw
    have hgl : B < wr.heap.size := hN.lt
    clear hP hN hB1
    by_cases hk0 : k < n
    · obtain ⟨b1, o1, p, hp, hae, hc1⟩ := (hA.out.below (hblH.out.trans (hRH.out.kept.mono (by omega)))).at (i := k) (by rw [lA.out]; exact hk0)
      subst hae
      have hp1 : p < 10000 := dA.out.at hp
      have hpH := Lib.hid hp
      clear hp
      go_wp2_with (fail)
      clear hc1 k1 k2 k3 k5 k4
      go_loopw [7, 8] (fun c i wr => ∃ j cr os, i = .int .i64 (j : Nat) ∧ c = .int .i64 (cr : Nat) ∧ RowZ xs ys os k p j cr ∧ Nblk .i64 wr B 3 os ∧ Rg (w.heap.size + 1 + 1) 2 W wr) (fun _ i _ => m + 1 - (intOf i).toNat)
      case atStart => exact ⟨0, 0, os, rfl, rfl, Or.inl ⟨by omega, hPH.out.row p⟩, hNH.out, hRH.out⟩
      case round =>
        clear hgl
        obtain ⟨j, cr, os2, rfl, rfl, hP2, hN2, hRw2⟩ := hrel
        have hN2H := Lib.hid hN2
        have hR2H := Lib.hid hRw2
        obtain ⟨k1, k2, k3, k5, k4⟩ := hRw2
        obtain ⟨wo, rfl⟩ : ∃ wo : World, wo = wr := ⟨_, rfl⟩
        have hgl : B < wo.heap.size := hN2.lt
        clear hN2 k2 k3 k5 k4
        rcases hP2 with ⟨hj, hP2⟩ | ⟨hj, hc, hT⟩
        · have hol2H := Lib.hid hP2.1
          have hcr : cr < 10000 := hP2.2.2.1
          have hP2H := Lib.hid hP2
          clear hP2
          by_cases hj0 : j < m
          · obtain ⟨b1', o1', p', hp', hae1, hc1⟩ := (hA.out.below (hblH.out.trans (hR2H.out.kept.mono (by omega)))).at (i := k) (by rw [lA.out]; exact hk0)
            injection hae1 with hae1
            injection hae1 with hae2 hae3 hae4
            subst hae2 hae3
            have hpp : p = p' := by have := hpH.out; rw [hp'] at this; injection this with this; exact this.symm
            subst hpp
            clear hp' hae4
            obtain ⟨b2, o2, q, hq, hae, hc2⟩ := (hC.out.below (hblH.out.trans (hR2H.out.kept.mono (by omega)))).at (i := j) (by have := lC.out; omega)
            subst hae
            have hq1 : q < 10000 := dC.out.at hq
            have hqH := Lib.hid hq
            clear hq
            obtain ⟨z, hz⟩ : ∃ z, os2[k + j]? = some z := ⟨_, List.getElem?_eq_getElem (by have := lA.out; have := lC.out; have := hol2H.out; omega)⟩
            have hoc := hN2H.out.at hz
            have hof := Blk.frozen hN2H.out (k + j)
            have hz1 : z < 10000 := hP2H.out.2.1.at hz
            have hzH := Lib.hid hz
            clear hz
            obtain ⟨m0, m1⟩ := mul_bound4 p q hp1 hq1
            have hkm : (k : Int) < n := by omega
            have hjm : (j : Int) < m := by omega
            go_wp2
            go_quiet (fail)
            go_wp2
            all_goals
              go_roundw
              case rel =>
                refine ⟨j + 1, _, _, by go_num, int_eq ?_, Or.inl ⟨by have := lC.out; omega, hP2H.out.step hqH.out hzH.out hp1 hq1⟩, hN2H.out.set' ?_, ?_⟩
                · unfold B4; go_num
                · unfold B4; go_num
                · exact (Rg.step hR2H.out (by omega) (bdn (Below.refl _ _))).high hgB _
              case measure => simp [intOf]; omega
          · have hjm : j = m := by have := lC.out; omega
            have hjl : j = ys.length := by have := lC.out; omega
            have hkx : k < xs.length := by have := lA.out; omega
            have hkm : (k : Int) < n := by omega
            by_cases hcr0 : 0 < cr
            · have hz0 := hP2H.out.zero hkx
              rw [← hjl] at hz0
              have hoc : wo.cell? ⟨B, k + j, none⟩ = some (.int .i64 0) := hN2H.out.at hz0
              have hof := Blk.frozen hN2H.out (k + j)
              have hPj := hP2H.out
              rw [hjl] at hPj
              have hD := Lib.hid (hPj.done hpH.out)
              rw [← hjl] at hD
              have hjlH := Lib.hid hjl
              have hjmH := Lib.hid hjm
              have hkj : (k : Int) + j < n + m + 1 := by omega
              have hnj : ¬ (j : Int) < m := by omega
              clear hz0 hPj hjl hjm hj hj0
              go_wp2
              all_goals
                go_roundw
                case rel =>
                  refine ⟨j + 1, 0, _, by go_num, int_eq ?_, Or.inr ⟨by rw [hjlH.out], rfl, hD.out⟩, hN2H.out.set' ?_, ?_⟩
                  · omega
                  · omega
                  · exact hR2H.out.high hgB _
                case measure => have := hjmH.out; simp [intOf]; omega
            · have hc0 : cr = 0 := by omega
              have hPj := hP2H.out
              rw [hjl, hc0] at hPj
              have hD := Lib.hid (hPj.done0 hpH.out)
              have hnj : ¬ (j : Int) < m := by omega
              have hnc : ¬ (0 : Int) < cr := by omega
              clear hPj hjl hjm hj hj0 hc0
              go_wp2
              all_goals
                go_roundw
                case rel => exact ⟨k + 1, _, by omega, by go_num, hD.out, hN2H.out, hR2H.out⟩
                case measure => simp [intOf]; omega
        · have hnj : ¬ (j : Int) < m := by have := lC.out; omega
          have hnc : ¬ (0 : Int) < cr := by omega
          have hD := Lib.hid hT
          clear hT hj hc
          go_wp2
          all_goals
            go_roundw
            case rel => exact ⟨k + 1, _, by omega, by go_num, hD.out, hN2H.out, hR2H.out⟩
            case measure => simp [intOf]; omega
    · have hke : k = xs.length := by have := lA.out; omega
      have hPk := hPH.out
      rw [hke] at hPk
      have hval := Lib.hid (hPk.all vA.out vC.out)
      have hlen : Hid (os.length = n + m + 1) := by show _ = _; rw [holH.out, lA.out, lC.out]
      have hnk : ¬ (k : Int) < n := by have := lA.out; omega
      have hln := Lib.hid (lean_n (!(ng x == ng y)) (some ⟨B, 0, none⟩) (n + m + 1) (n + m + 1) (x.natAbs * y.natAbs) os wr hlen.out hNH.out.dg hPH.out.2.1 (Nat.le_refl _) (by omega) hval.out)
      clear hPk hke hk0 hk
      go_wp2_with (first | (go_at_call 65; (with_reducible refine hln.out.mono ?_); rintro e w5 ⟨ao5, cap5, rfl, hm5, hb5⟩; obtain ⟨g1, g2, g3, g5, g4⟩ := Rg.step hRH.out (by omega) hb5))
      have hz' := hz.out
      rw [hz']
      rw [hz'] at hm5
      refine bodyPost_ret (v := .agg #[.bool (ng (x * y)), .slice ao5 (LZ (x * y)) cap5]) (by simp [results, Try.results75, go_sem, g2]) rfl ?_
      refine RetZ.fin3 (N := w.heap.size + 1 + 1) rfl ((hm5.setN g5 _ _).setN (g5.set _ _ (by intro _ _ h; cases h)) _ _) hblH.out ?_ (by omega)
      exact (g4.setCell (Nat.le_refl _) _).setCell (Nat.le_refl _) _

end Go.Proofs.Ytkecdjdggkpdpab

/- Walks of the reference's integers: Int, times. -/
namespace Go.Proofs.Ytkecdjdggkpdpab
open Go Go.RowKit Go.Proofs

theorem IV.set {w : World} {base : Nat} {v : Value} {xs : List Nat} (h : IV w base v xs) {g k : Nat} (hg : g < base) (u : Value) : IV (w.setCell ⟨g, k, none⟩ u) base v xs := ownsRow_setCell_below h hg u
theorem Rg.farS {N n g k : Nat} {w : World} (h : Rg N n w w) (hN : g ≠ N) (v : Value) : Rg N n (w.setCell ⟨g, k, none⟩ v) (w.setCell ⟨g, k, none⟩ v) := by
  refine Rg.mk (Below.refl _ _) (fun o ho => ?_) (fun o => ?_) (fun o k' z hc => ?_)
  · rw [World.cell?_setCell_far _ _ _ _ hN, h.2.1 o ho]; rfl
  · have := h.2.2.1 o; simp; simpa using this
  · rw [World.cell?_setCell_far _ _ _ _ hN] at hc; exact h.noInt o k' z hc

/-- What is kept while an int is parted into digits. -/
def IntInv (w wr : World) (N cur k : Nat) (ab : Option Addr) (cb : Nat) : Prop :=
  ∃ os, os.length = k ∧ digs B4 N = os ++ digs B4 cur ∧ IV wr (w.heap.size + 1 + 1) (.slice ab k cb) os ∧ Rg (w.heap.size + 1) 2 wr wr ∧ Rg w.heap.size 2 wr wr ∧ Below w.heap.size w wr

set_option maxRecDepth 100000 in
set_option maxHeartbeats 1600000 in
theorem zint_any (N : Nat) (w : World) (hN : N ≤ 4611686018427387904) :
    Calls Try.prog 29 #[.int .i64 (N : Nat)] w (RetZ w ((N : Nat) : Int)) := by
  obtain ⟨V, hV⟩ : ∃ V, V = (w.alloc (Obj.cells #[.bool false, .slice none 0 0] 40)).alloc (Obj.cells #[.bool false, .slice none 0 0] 40) := ⟨_, rfl⟩
  have e0 : Hid (V.cell? ⟨w.heap.size + 1, 0, none⟩ = some (.bool false)) := by show _ = _; rw [hV]; simp [go_sem]
  have e1 : Hid (V.cell? ⟨w.heap.size + 1, 1, none⟩ = some (.slice none 0 0)) := by show _ = _; rw [hV]; simp [go_sem]
  have hbl' : Below w.heap.size w V := by rw [hV]; go_grown
  have hbl := Lib.hid hbl'
  clear hbl'
  have R1 : Hid (Rg (w.heap.size + 1) 2 V V) := by rw [hV]; exact Rg.new2 _ _ _ (by simp)
  have R0 : Hid (Rg w.heap.size 2 V V) := by rw [hV]; exact Rg.old2 _ _ _ _ _ (by intro _ _ h; cases h) (by intro _ _ h; cases h)
  have hV2 : Hid (V.heap.size = w.heap.size + 2) := by show _ = _; rw [hV]; simp
  have hVH := Lib.hid hV
  have hng0 : ¬ (N : Int) < 0 := by omega
  clear hV
  go_enter Try.func29, Try.ntmps29
  go_wp2_with (fail)
  rw [← hVH.out]
  clear hng0
  go_loopw [0] (fun v wr => ∃ cur k ab cb, v = .int .i64 (cur : Nat) ∧ cur ≤ 4611686018427387904 ∧ wr.cell? ⟨w.heap.size + 1, 0, none⟩ = some (.bool false) ∧ wr.cell? ⟨w.heap.size + 1, 1, none⟩ = some (.slice ab k cb) ∧ IntInv w wr N cur k ab cb) (fun v _ => (intOf v).toNat)
  case atStart => exact ⟨N, 0, none, 0, rfl, hN, e0.out, e1.out, [], rfl, rfl, World.ownsRow_nil _ _ _ _, R1.out, R0.out, hbl.out⟩
  case round =>
    obtain ⟨cur, k, ab, cb, rfl, hcur, f0, f1, os, hol, hdg, hV, hR1, hR0, hbl2⟩ := hrel
    have hVH2 := Lib.hid hV
    have holH := Lib.hid hol
    have hdgH := Lib.hid hdg
    have hR1H := Lib.hid hR1
    have hR0H := Lib.hid hR0
    have hblH := Lib.hid hbl2
    have hz1 : w.heap.size + 1 < wr.heap.size := World.block_lt_of_cell? wr ⟨w.heap.size + 1, 0, none⟩ f0
    have hk : k ≤ 16 := by
      have h1 : (digs B4 N).length ≤ 16 := L_le_of_lt two_le_B4 16 N (by unfold B4; omega)
      rw [hdg, List.length_append] at h1
      omega
    clear hV hol hdg hR1 hR0 hbl2
    by_cases hc0 : cur = 0
    · have hdN : Hid (digs B4 N = os) := by have := hdgH.out; rw [hc0, digs_zero, List.append_nil] at this; exact this
      have hLk : Hid (L B4 N = k) := by show (digs B4 N).length = k; rw [hdN.out]; exact holH.out
      have hM : Hid (MagZ wr ab cb N) := by
        obtain ⟨h1, h2⟩ := hVH2.out.dg holH.out
        exact ⟨by rw [hLk.out]; exact h2, by rw [hdN.out]; exact h1⟩
      subst hc0
      obtain ⟨g1, g2, g3, g5, g4⟩ := hR0H.out
      clear g1
      go_wp2_with (fail)
      have m1 := hM.out.setN g5 0 (.bool false)
      have n1 := g5.set ⟨w.heap.size, 0, none⟩ (.bool false) (by intro _ _ h; cases h)
      have m2 := m1.setN n1 1 (.slice ab k cb)
      refine bodyPost_ret (v := .agg #[.bool false, .slice ab k cb]) (by simp [results, Try.results29, go_sem, g2]) rfl ?_
      refine ⟨ab, cb, ?_, m2, (hblH.out.setCell (Nat.le_refl _) _).setCell (Nat.le_refl _) _⟩
      rw [show LZ ((N : Nat) : Int) = k from hLk.out, show ng ((N : Nat) : Int) = false by simp [ng]]
    · have hne : ((cur : Int) != 0) = true := by simp; exact hc0
      have hd0 : ¬ ((cur : Int) % 10000 < 0) := by omega
      have hc0H := Lib.hid hc0
      clear hc0
      go_wp2_with (first
        | (at_builtin; go_loud (refine wpList_append_int _ rfl (.tmp 17) (.tmp 19) _ rfl Try.underlying25 (w.heap.size + 1 + 1) k (.slice ab k cb) os (cur % 10000) ((cur : Int) % 10000) rfl (hVH2.out.below ((Below.refl _ _).alloc (Nat.le_refl _) _)) holH.out wr.heap.size rfl (by omega) (by simp; omega) (by simp [go_sem]) (by omega) ?_); intro v' w2 hv2 hg2; have hbG := Lib.hid (((Below.refl (w.heap.size + 1 + 1) wr).alloc (by omega) _).grown hg2 (by simp; omega) (fun g hg => (hVH2.out.lt g hg).1)); have hl : (os ++ [cur % 10000]).length = k + 1 := (by rw [List.length_append, holH.out]; rfl); obtain ⟨ab2, cb2, hvv⟩ := hv2.shape; rw [hl] at hvv; subst hvv; have f0' := cell_b hbG.out (by omega) f0; have f1' := cell_b hbG.out (by omega) f1; have r1 := Lib.hid (Rg.over hR1H.out hbG.out (by omega)).slf; have r0 := Lib.hid (Rg.over hR0H.out hbG.out (by omega)).slf; obtain ⟨_, _, t1, _, _⟩ := r1.out; have hv2H := Lib.hid hv2; have hlH := Lib.hid hl; clear hg2 hl hv2))
      go_roundw
      case rel =>
        refine ⟨cur / 10000, k + 1, ab2, cb2, by go_num, by omega, by simp [f0', go_sem], by simp [f1', go_sem], os ++ [cur % 10000], hlH.out, ?_, hv2H.out.set (by omega) _, Rg.slf (Rg.set r1.out _), r0.out.farS (by omega) _, (hblH.out.trans (hbG.out.mono (by omega))).setCell (by show w.heap.size ≤ w.heap.size + 1; omega) _⟩
        have hd : digs B4 cur = (cur % 10000) :: digs B4 (cur / 10000) := digs_pos two_le_B4 hc0H.out
        rw [hdgH.out, hd]; simp
      case measure => have := hc0H.out; simp [intOf]; omega

end Go.Proofs.Ytkecdjdggkpdpab

/- Walks of the reference's integers as sizes: times, and what DivMod asks. -/
namespace Go.Proofs.Ytkecdjdggkpdpab
open Go Go.RowKit Go.Proofs

theorem bseqZ {w w1 w2 : World} (h : Below w.heap.size w w1) (hb : Below w1.heap.size w1 w2) : Below w.heap.size w w2 := h.trans (hb.mono h.size)

/-- A size, as an integer that is not below 0. -/
def RetN (w : World) (n : Nat) (e : Ending) (w' : World) : Prop := ∃ a c, e = .returned (.agg #[.bool false, .slice a (L B4 n) c]) ∧ MagZ w' a c n ∧ Below w.heap.size w w'
def RetNA (w : World) (n : Nat) (e : Ending) (w' : World) : Prop := ∃ a c, e = .returned (.agg #[.bool false, .slice a (L B4 n) c]) ∧ MagZ w' a c n ∧ Below w.heap.size w w' ∧ ∀ ad, a = some ad → w.heap.size ≤ ad.block
def RetLn (w : World) (n : Nat) (e : Ending) (w' : World) : Prop := ∃ a c, e = .returned (.slice a (L B4 n) c) ∧ MagZ w' a c n ∧ Below w.heap.size w w'
theorem ng_nat (n : Nat) : ng ((n : Nat) : Int) = false := by simp [ng]
theorem RetN.of {w w' : World} {n : Nat} {e : Ending} (h : RetZ w ((n : Nat) : Int) e w') : RetN w n e w' := by
  obtain ⟨a, c, h1, h2, h3⟩ := h
  rw [ng_nat] at h1
  exact ⟨a, c, h1, h2, h3⟩
theorem int_nat (n : Nat) (w : World) (hn : n ≤ 4611686018427387904) : Calls Try.prog 29 #[.int .i64 (n : Nat)] w (RetN w n) := (zint_any n w hn).mono fun _ _ h => RetN.of h
theorem mul_nat (a1 a2 : Option Addr) (c1 c2 n m : Nat) (w : World) (h1 : MagZ w a1 c1 n) (h2 : MagZ w a2 c2 m) (hb1 : L B4 n ≤ 100000000) (hb2 : L B4 m ≤ 100000000) :
    Calls Try.prog 75 #[.agg #[.bool false, .slice a1 (L B4 n) c1], .agg #[.bool false, .slice a2 (L B4 m) c2]] w (RetN w (n * m)) := by
  have := zmul_any a1 a2 c1 c2 ((n : Nat) : Int) ((m : Nat) : Int) w h1 h2 hb1 hb2
  rw [ng_nat, ng_nat] at this
  exact this.mono fun _ _ h => RetN.of h
theorem lean_nat (a : Option Addr) (c k n : Nat) (xs : List Nat) (w : World) (hk : xs.length = k) (h : Dg .i64 w a xs) (hx : Lt B4 xs) (hc : k ≤ c) (hb : k ≤ 4000000000) (hv : val B4 xs = n) :
    Calls Try.prog 65 #[.agg #[.bool false, .slice a k c]] w (RetNA w n) := by
  subst hk hv
  refine (lean_at false a c xs w h hx hc hb).mono fun e w' h => ?_
  obtain ⟨a, c, h1, h2, h3, h4⟩ := h
  rw [show sgn false (val B4 xs) = ((val B4 xs : Nat) : Int) from rfl, ng_nat] at h1
  exact ⟨a, c, h1, h2, h3, h4⟩
theorem lean_mag (a : Option Addr) (c n : Nat) (w : World) (h : MagZ w a c n) (hb : L B4 n ≤ 4000000000) :
    Calls Try.prog 65 #[.agg #[.bool false, .slice a (L B4 n) c]] w (RetNA w n) :=
  lean_nat a c (L B4 n) n (digs B4 n) w rfl h.2 (digs_lt two_le_B4 n) h.1 hb (val_digs two_le_B4 n)

theorem field_M (x : Bool) (a : Option Addr) (n c : Nat) (w : World) : (Instr.field 40 (.agg #[.bool x, .slice a n c]) 1).run Try.prog w = .ok (.slice a n c) w := by kernel_rfl

set_option maxRecDepth 100000 in
set_option maxHeartbeats 800000 in
theorem ztimes_any (a1 : Option Addr) (c1 n d : Nat) (w : World) (h1 : MagZ w a1 c1 n) (hb1 : L B4 n ≤ 10000000) (hd : d < 10000) :
    Calls Try.prog 67 #[.slice a1 (L B4 n) c1, .int .i64 (d : Nat)] w (RetLn w (n * d)) := by
  have hL : L B4 d ≤ 1 := L_le_of_lt two_le_B4 1 d (by unfold B4; omega)
  have hL2 := L_mul two_le_B4 n d
  have hfd := field_M
  go_enter Try.func67, Try.ntmps67
  go_wp2_with (first
    | (go_at_call 29; go_loud (with_reducible refine (int_nat d _ (by omega)).mono ?_); rintro e w1 ⟨a2, c2, rfl, hm2, hb2⟩)
    | (go_at_call 75; go_loud (with_reducible refine (mul_nat a1 a2 c1 c2 n d _ (h1.up hb2) hm2 (by omega) (by omega)).mono ?_); rintro e w3 ⟨a3, c3, rfl, hm3, hb3⟩)
    | (go_at_call 65; go_loud (with_reducible refine (lean_mag a3 c3 (n * d) _ hm3 (by omega)).mono ?_); rintro e w4 ⟨a4, c4, rfl, hm4, hb4, hat4⟩))
  go_ret
  exact ⟨a4, c4, rfl, hm4, bseqZ (bseqZ hb2 hb3) hb4⟩

end Go.Proofs.Ytkecdjdggkpdpab
