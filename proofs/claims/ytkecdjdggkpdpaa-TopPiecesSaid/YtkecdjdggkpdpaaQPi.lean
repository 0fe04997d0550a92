/- Gq Gu Gv Gy -/
import Derived.Test.YtkecdjdggkpdpaaQPg
import Derived.Test.YtkecdjdggkpdpaaQPa
import Derived.Test.YtkecdjdggkpdpaaQPj
set_option linter.unusedVariables false
/- Cheapest's closure: is a pair tight? -/
namespace Go.Proofs.Ytkecdjdggkpdpaa
open Go Go.RowKit Go.Proofs

theorem eg_cheap : ∀ args w, (callFunc 17 args).run Try.prog w = .ok (.enter 17 args) w := enters_of Try.func17 (by kernel_rfl) rfl
set_option maxRecDepth 100000 in
set_option maxHeartbeats 3200000 in
theorem tight_at (ao ar ak : Option Addr) (c cr ck n b1 b2 b3 : Nat) (C : List (List Int)) (R K : List Int) (w : World) (hM : IMx w ao C) (hg : goodC C) (hn : C.length = n) (hR : IZ w ar R) (hK : IZ w ak K) (lR : R.length = n) (lK : K.length = n)
    (bR : ∀ i, i < n → 0 ≤ at0 R i ∧ at0 R i ≤ 1000) (bK : ∀ j, j < n → -1000 ≤ at0 K j ∧ at0 K j ≤ 0)
    (c1 : w.cell? ⟨b1, 0, none⟩ = some (.slice ar n cr)) (c2 : w.cell? ⟨b2, 0, none⟩ = some (.slice ak n ck)) (c3 : w.cell? ⟨b3, 0, none⟩ = some (.slice ao n c)) :
    AllowAt 17 #[ptr b1, ptr b2, ptr b3] (tightA C R K) n w := by
  intro W i j b hA hb hi hj
  have hn8 : n ≤ 8 := by rw [← hn]; exact hg.2.1
  obtain ⟨b5, o3, b4, o4, c4, rfl, e1, hc4, e2, q0, q1⟩ := (hM.below hb).cost hg hn hi hj
  obtain ⟨b6, o6, rfl, e3⟩ := (hR.below hb).at (i := i) (by rw [lR]; exact hi)
  obtain ⟨b7, o7, rfl, e4⟩ := (hK.below hb).at (i := j) (by rw [lK]; exact hj)
  have d1 : W.cell? ⟨b1, 0, none⟩ = _ := Below.cellAt hb (Nat.le_refl _) c1
  have d2 : W.cell? ⟨b2, 0, none⟩ = _ := Below.cellAt hb (Nat.le_refl _) c2
  have d3 : W.cell? ⟨b3, 0, none⟩ = _ := Below.cellAt hb (Nat.le_refl _) c3
  obtain ⟨r1, r2⟩ := bR i hi
  obtain ⟨r3, r4⟩ := bK j hj
  obtain ⟨x, hx⟩ : ∃ x, cst C i j = x := ⟨_, rfl⟩
  obtain ⟨y, hy⟩ : ∃ y, at0 R i = y := ⟨_, rfl⟩
  obtain ⟨v, hv⟩ : ∃ v, at0 K j = v := ⟨_, rfl⟩
  rw [hx] at e2
  rw [hy] at e3 r1 r2
  rw [hv] at e4 r3 r4
  have hAH : Hid (decide (y + v = x) = b) := by show _ = _; rw [← hA, ← hx, ← hy, ← hv]; rfl
  have hi0 : (0 : Int) ≤ (i : Int) := by omega
  have hiI : (i : Int) < (n : Int) := by omega
  have hj0 : (0 : Int) ≤ (j : Int) := by omega
  have hjI : (j : Int) < (n : Int) := by omega
  have hs : IntKind.i64.wrap (y + v) = y + v := by rw [IntKind.wrap_i64]; omega
  clear hM hg hn c1 c2 c3 hb hA hx hy hv q0 q1 hR hK lR lK bR bK
  show Calls Try.prog _ #[.int .i64 (i : Nat), .int .i64 (j : Nat), ptr b1, ptr b2, ptr b3] W _
  go_enter Try.func17, Try.ntmps17
  go_wp2
  go_quiet (fail)
  go_wp2
  go_ret
  exact ⟨ret_boolJ (by rw [← hAH.out]; first | rfl | (simp; done)), _, rfl⟩
end Go.Proofs.Ytkecdjdggkpdpaa

/- Walk of Cheapest, over the contract of prices (a premise here: prices itself is not walked yet). -/
namespace Go.Proofs.Ytkecdjdggkpdpaa
open Go Go.RowKit Go.Proofs

/-- What prices returns of valid costs. -/
def PricesS (C : List (List Int)) (n : Nat) (w : World) (e : Ending) (w' : World) : Prop :=
  ∃ (R K O : List Int) (z gR cR gK cK : Nat), Hun C n n z R K O ∧ (∀ i, i < n → at0 R i ≤ 1000) ∧ (∀ j, j < n → -1000 ≤ at0 K j) ∧ e = .returned (.tuple #[.slice (some ⟨gR, 0, none⟩) n cR, .slice (some ⟨gK, 0, none⟩) n cK]) ∧ IZ w' (some ⟨gR, 0, none⟩) R ∧ IZ w' (some ⟨gK, 0, none⟩) K ∧ n ≤ cR ∧ n ≤ cK ∧ Below w.heap.size w w'
def CheapPost (C : List (List Int)) (n : Nat) (w : World) (e : Ending) (w' : World) : Prop :=
  ∃ (l : List Nat) (g o c : Nat) (v : Int), Best (byI (sumC C)) (allN n) l ∧ sumC C l = v ∧ e = .returned (.tuple #[.slice (some ⟨g, o, none⟩) n c, .int .i64 v, .int .i64 0]) ∧ n ≤ c ∧ IZ w' (some ⟨g, o, none⟩) (nz l) ∧ Below w.heap.size w w'
theorem pcs_take {C : List (List Int)} {l : List Nat} {k j : Nat} (h : l[k]? = some j) : (pcs C (l.take (k + 1))).sum = (pcs C (l.take k)).sum + cst C k j := by
  have hk := (List.getElem?_eq_some_iff.1 h).1
  rw [take_lastX h, pcs_snoc, List.sum_append, List.length_take, Nat.min_eq_left (by omega)]
  simp
theorem cheap_bad (ao : Option Addr) (c n : Nat) (C : List (List Int)) (w : World) (h : IMx w ao C) (hn : C.length = n) (hm : n ≤ 9223372036854775807) (hb : costsB C = false) :
    Calls Try.prog 6 #[.slice ao n c] w (fun e w' => e = .returned (.tuple #[.slice none 0 0, .int .i64 0, .int .i64 1]) ∧ Below w.heap.size w w') := by
  have hH := Lib.hid h
  have hnH := Lib.hid hn
  have hbH := Lib.hid hb
  clear h hn hb
  go_enter Try.func6, Try.ntmps6
  go_upto_region 1 with (fail)
  obtain ⟨V, hV⟩ : ∃ V, V = w.alloc (Obj.cells #[.slice ao n c] 25) := ⟨_, rfl⟩
  rw [← hV]
  have hbV : Below w.heap.size w V := by rw [hV]; go_grown
  have k1 : V.cell? ⟨w.heap.size, 0, none⟩ = some (.slice ao n c) := by rw [hV, al_new rfl]; rfl
  have hbVH := Lib.hid hbV
  clear hV hbV
  go_wp2_with (go_at_call 14; (with_reducible refine (valid_any ao c n C false _ (hH.out.below hbVH.out) hnH.out hm hbH.out).mono ?_); rintro e w1 ⟨rfl, rfl⟩)
  go_ret3
  exact ⟨rfl, hbVH.out⟩
set_option maxRecDepth 100000 in
set_option maxHeartbeats 12800000 in
theorem cheap_good (ao : Option Addr) (c n : Nat) (C : List (List Int)) (w : World) (h : IMx w ao C) (hg : goodC C) (hn : C.length = n) (HP : ∀ W, IMx W ao C → Calls Try.prog 15 #[.slice ao n c] W (PricesS C n W)) :
    Calls Try.prog 6 #[.slice ao n c] w (CheapPost C n w) := by
  have hn8 : n ≤ 8 := by rw [← hn]; exact hg.2.1
  have hn1 : 1 ≤ n := by rw [← hn]; exact hg.1
  have hb := Lib.hid (show costsB C = true from decide_eq_true hg)
  have hH := Lib.hid h
  have hgH := Lib.hid hg
  have hnH := Lib.hid hn
  have HPH := Lib.hid HP
  have egH := Lib.hid eg_cheap
  have hmf : ∀ (fn : Fn) (first cap : Array Value) (w : World), (Instr.makeFunc fn first cap).run Try.prog w = .ok (.func fn first cap) w := fun _ _ _ _ => rfl
  clear h hg hn HP
  go_enter Try.func6, Try.ntmps6
  go_upto_region 1 with (fail)
  obtain ⟨V, hV⟩ : ∃ V, V = w.alloc (Obj.cells #[.slice ao n c] 25) := ⟨_, rfl⟩
  rw [← hV]
  have hbV : Below w.heap.size w V := by rw [hV]; go_grown
  have k1 : V.cell? ⟨w.heap.size, 0, none⟩ = some (.slice ao n c) := by rw [hV, al_new rfl]; rfl
  have k1H := Lib.hid k1
  have hbVH := Lib.hid hbV
  have hMV := Lib.hid (hH.out.below hbV)
  clear hV hbV
  go_upto_region 4 with (first
    | (go_at_call 14; (with_reducible refine (valid_any ao c n C true _ hMV.out hnH.out (by omega) hb.out).mono ?_); rintro e w1 ⟨rfl, rfl⟩)
    | (go_at_call 15; go_loud (refine (HPH.out _ hMV.out).mono ?_); rintro e w2 ⟨R, K, O, zz, gR, cR, gK, cK, hHun, hr, hk, rfl, hR, hK, hcR, hcK, hb2⟩; have hHunH := Lib.hid hHun; have hrH := Lib.hid hr; have hkH := Lib.hid hk; have hRH := Lib.hid hR; have hKH := Lib.hid hK; have hb2H := Lib.hid hb2; clear hHun hr hk hR hK hb2))
  obtain ⟨W, hW⟩ : ∃ W, W = ((w2.alloc (Obj.cells #[.slice (some ⟨gR, 0, none⟩) n cR] 24)).alloc (Obj.cells #[.slice (some ⟨gK, 0, none⟩) n cK] 24)) := ⟨_, rfl⟩
  rw [← hW]
  have hbW : Below w2.heap.size w2 W := by rw [hW]; go_grown
  have e1 : W.cell? ⟨w2.heap.size, 0, none⟩ = some (.slice (some ⟨gR, 0, none⟩) n cR) := by rw [hW, al_old (by simp), al_new rfl]; rfl
  have e2 : W.cell? ⟨w2.heap.size + 1, 0, none⟩ = some (.slice (some ⟨gK, 0, none⟩) n cK) := by rw [hW, al_new (by simp)]; rfl
  have e3 : W.cell? ⟨w.heap.size, 0, none⟩ = some (.slice ao n c) := Below.cellAt (bseqJ hb2H.out hbW) (Nat.le_refl _) k1H.out
  have hbVW := Lib.hid (bseqJ hb2H.out hbW)
  have hMW := Lib.hid (hMV.out.below (bseqJ hb2H.out hbW))
  have hAl := Lib.hid (tight_at ao (some ⟨gR, 0, none⟩) (some ⟨gK, 0, none⟩) c cR cK n w2.heap.size (w2.heap.size + 1) w.heap.size C R K W hMW.out hgH.out hnH.out (hRH.out.below hbW) (hKH.out.below hbW) hHunH.out.lR hHunH.out.lK (fun i hi => ⟨hHunH.out.r0 i hi, hrH.out i hi⟩) (fun j hj => ⟨hkH.out j hj, hHunH.out.k0 j hj⟩) e1 e2 e3)
  have e3H := Lib.hid e3
  have hex := Lib.hid hHunH.out.pair
  clear hW hbW e1 e2 k1
  go_upto_region 6 with (first
    | (go_at_call 16; go_loud (refine (first_some (tightA C R K) n 17 #[ptr w2.heap.size, ptr (w2.heap.size + 1), ptr w.heap.size] _ (by omega) hn1 hAl.out egH.out hex.out).mono ?_); rintro e w4 ⟨l, g3, o3, c3, hl, rfl, hc3, hI3, hb3⟩; have hlH := Lib.hid hl; have hI3H := Lib.hid hI3; have hb3H := Lib.hid hb3; clear hl hI3 hb3))
  have e4 : w4.cell? ⟨w.heap.size, 0, none⟩ = some (.slice ao n c) := Below.cellAt hb3H.out (Nat.le_refl _) e3H.out
  have hM4 := Lib.hid (hMW.out.below hb3H.out)
  clear e3
  go_wp2_with (fail)
  go_loopw [8, 25] (fun sv iv wr => ∃ (k : Nat) (y : Int), sv = .int .i64 y ∧ iv = .int .i64 (k : Nat) ∧ k ≤ n ∧ (pcs C (l.take k)).sum = y ∧ 0 ≤ y ∧ y ≤ (k : Int) * 1000 ∧ wr = w4) (fun _ iv _ => n - (intOf iv).toNat)
  case atStart => exact ⟨0, 0, rfl, rfl, by omega, by simp [pcs], by omega, by omega, by trivial⟩
  case round =>
    obtain ⟨k, y, rfl, rfl, hk, hy, hy0, hy1, rfl⟩ := hrel
    have hyH := Lib.hid hy
    clear hy
    by_cases hkn : k < n
    · obtain ⟨j, hj⟩ : ∃ j, l[k]? = some j := ⟨_, List.getElem?_eq_getElem (by rw [hlH.out.pr.len]; exact hkn)⟩
      have hjn : j < n := hlH.out.pr.lt j (List.mem_of_getElem? hj)
      obtain ⟨b1, o1, hao, e0⟩ := hI3H.out k _ (nz_get hj)
      injection hao with hao
      injection hao with h1 h2
      subst h1 h2
      obtain ⟨b5, o5, b6, o6, c6, rfl, f1, hc6, f2, q0, q1⟩ := (hM4.out).cost hgH.out hnH.out hkn hjn
      have hps := Lib.hid (pcs_take (C := C) hj)
      obtain ⟨x, hx⟩ : ∃ x, cst C k j = x := ⟨_, rfl⟩
      rw [hx] at f2 q0 q1
      have hxH := Lib.hid hx
      have hkI : (k : Int) < (n : Int) := by omega
      have hk0 : (0 : Int) ≤ (k : Int) := by omega
      have hjI : (j : Int) < (n : Int) := by omega
      have hj0 : (0 : Int) ≤ (j : Int) := by omega
      clear hj hx
      go_wp2_with (fail)
      go_roundw
      case rel => exact ⟨k + 1, y + x, by go_num, by go_num, by omega, by rw [hps.out, hyH.out, hxH.out], by omega, by omega, by trivial⟩
      case measure => simp [intOf]; omega
    · have hke : k = n := by omega
      subst hke
      have hkI : ¬ (k : Int) < (k : Int) := by omega
      go_wp2_with (fail)
      go_ret3
      obtain ⟨hB, _⟩ := hHunH.out.cheapest hlH.out
      refine ⟨l, g3, o3, c3, y, hB, ?_, rfl, hc3, hI3H.out, bseqJ hbVH.out (bseqJ hbVW.out hb3H.out)⟩
      have := hyH.out
      rwa [List.take_of_length_le (by rw [hlH.out.pr.len]; exact Nat.le_refl _)] at this
end Go.Proofs.Ytkecdjdggkpdpaa

/- Walk of Prices, over the contract of prices (a premise here). -/
namespace Go.Proofs.Ytkecdjdggkpdpaa
open Go Go.RowKit Go.Proofs

theorem prices_bad (ao : Option Addr) (c n : Nat) (C : List (List Int)) (w : World) (h : IMx w ao C) (hn : C.length = n) (hm : n ≤ 9223372036854775807) (hb : costsB C = false) :
    Calls Try.prog 7 #[.slice ao n c] w (fun e w' => e = .returned (.tuple #[.slice none 0 0, .slice none 0 0, .int .i64 1]) ∧ Below w.heap.size w w') := by
  have hH := Lib.hid h
  have hnH := Lib.hid hn
  have hbH := Lib.hid hb
  clear h hn hb
  go_enter Try.func7, Try.ntmps7
  go_wp2_with (go_at_call 14; (with_reducible refine (valid_any ao c n C false _ hH.out hnH.out hm hbH.out).mono ?_); rintro e w1 ⟨rfl, rfl⟩)
  go_ret3
  exact ⟨rfl, Below.refl _ _⟩
def PricesP (C : List (List Int)) (n : Nat) (w : World) (e : Ending) (w' : World) : Prop :=
  ∃ (R K O : List Int) (z gR cR gK cK : Nat), Hun C n n z R K O ∧ (∀ i, i < n → at0 R i ≤ 1000) ∧ (∀ j, j < n → -1000 ≤ at0 K j) ∧ e = .returned (.tuple #[.slice (some ⟨gR, 0, none⟩) n cR, .slice (some ⟨gK, 0, none⟩) n cK, .int .i64 0]) ∧ IZ w' (some ⟨gR, 0, none⟩) R ∧ IZ w' (some ⟨gK, 0, none⟩) K ∧ n ≤ cR ∧ n ≤ cK ∧ Below w.heap.size w w'
theorem prices_good (ao : Option Addr) (c n : Nat) (C : List (List Int)) (w : World) (h : IMx w ao C) (hg : goodC C) (hn : C.length = n) (HP : ∀ W, IMx W ao C → Calls Try.prog 15 #[.slice ao n c] W (PricesS C n W)) :
    Calls Try.prog 7 #[.slice ao n c] w (PricesP C n w) := by
  have hn8 : n ≤ 8 := by rw [← hn]; exact hg.2.1
  have hb := Lib.hid (show costsB C = true from decide_eq_true hg)
  have hH := Lib.hid h
  have hnH := Lib.hid hn
  have HPH := Lib.hid HP
  clear h hg hn HP
  go_enter Try.func7, Try.ntmps7
  go_wp2_with (first
    | (go_at_call 14; (with_reducible refine (valid_any ao c n C true _ hH.out hnH.out (by omega) hb.out).mono ?_); rintro e w1 ⟨rfl, rfl⟩)
    | (go_at_call 15; go_loud (refine (HPH.out _ hH.out).mono ?_); rintro e w2 ⟨R, K, O, zz, gR, cR, gK, cK, hHun, hr, hk, rfl, hR, hK, hcR, hcK, hb2⟩; have hHunH := Lib.hid hHun; have hrH := Lib.hid hr; have hkH := Lib.hid hk; have hRH := Lib.hid hR; have hKH := Lib.hid hK; have hb2H := Lib.hid hb2; clear hHun hr hk hR hK hb2))
  go_ret3
  exact ⟨R, K, O, zz, gR, cR, gK, cK, hHunH.out, hrH.out, hkH.out, rfl, hRH.out, hKH.out, hcR, hcK, hb2H.out⟩
end Go.Proofs.Ytkecdjdggkpdpaa

/- What prices has in memory: six blocks. -/
namespace Go.Proofs.Ytkecdjdggkpdpaa
open Go Go.RowKit Go.Proofs

/-- What prices has in memory. -/
structure PS (w wr : World) (gR gK gO : Nat) (R K O : List Int) : Prop where
  below : Below w.heap.size w wr
  zR : ZBlk wr gR R
  zK : ZBlk wr gK K
  zO : ZBlk wr gO O
  rk : gR ≠ gK
  ro : gR ≠ gO
  ko : gK ≠ gO
  lR : w.heap.size ≤ gR
  lK : w.heap.size ≤ gK
  lO : w.heap.size ≤ gO
/-- With the three blocks of a search. -/
structure PB (w wr : World) (gR gK gO gD gF gB : Nat) (R K O D F : List Int) (B : List Bool) : Prop where
  ps : PS w wr gR gK gO R K O
  zD : ZBlk wr gD D
  zF : ZBlk wr gF F
  zB : BBlk wr gB B
  nd : gR ≠ gD ∧ gK ≠ gD ∧ gO ≠ gD
  nf : gR ≠ gF ∧ gK ≠ gF ∧ gO ≠ gF
  nb : gR ≠ gB ∧ gK ≠ gB ∧ gO ≠ gB
  df : gD ≠ gF
  db : gD ≠ gB
  fb : gF ≠ gB
  lD : w.heap.size ≤ gD
  lF : w.heap.size ≤ gF
  lB : w.heap.size ≤ gB
theorem PS.dn {w wr : World} {gR gK gO : Nat} {R K O : List Int} (h : PS w wr gR gK gO R K O) (q : Nat) : PS w (wr.drewN q) gR gK gO R K O := ⟨bdn h.below, h.zR, h.zK, h.zO, h.rk, h.ro, h.ko, h.lR, h.lK, h.lO⟩
theorem PB.dn {w wr : World} {gR gK gO gD gF gB : Nat} {R K O D F : List Int} {B : List Bool} (h : PB w wr gR gK gO gD gF gB R K O D F B) (q : Nat) : PB w (wr.drewN q) gR gK gO gD gF gB R K O D F B :=
  ⟨h.ps.dn q, h.zD, h.zF, h.zB, h.nd, h.nf, h.nb, h.df, h.db, h.fb, h.lD, h.lF, h.lB⟩
theorem PB.dr {w wr : World} {gR gK gO gD gF gB : Nat} {R K O D F : List Int} {B : List Bool} (h : PB w wr gR gK gO gD gF gB R K O D F B) : PB w wr.drew gR gK gO gD gF gB R K O D F B :=
  ⟨⟨Below.drew h.ps.below, h.ps.zR, h.ps.zK, h.ps.zO, h.ps.rk, h.ps.ro, h.ps.ko, h.ps.lR, h.ps.lK, h.ps.lO⟩, h.zD, h.zF, h.zB, h.nd, h.nf, h.nb, h.df, h.db, h.fb, h.lD, h.lF, h.lB⟩
theorem PB.setR {w wr : World} {gR gK gO gD gF gB : Nat} {R K O D F : List Int} {B : List Bool} (h : PB w wr gR gK gO gD gF gB R K O D F B) (i : Nat) (x : Int) : PB w (wr.setCell ⟨gR, i, none⟩ (.int .i64 x)) gR gK gO gD gF gB (R.set i x) K O D F B :=
  ⟨⟨h.ps.below.setCell h.ps.lR _, h.ps.zR.set i x, Blk.far h.ps.zK (Ne.symm h.ps.rk) _, Blk.far h.ps.zO (Ne.symm h.ps.ro) _, h.ps.rk, h.ps.ro, h.ps.ko, h.ps.lR, h.ps.lK, h.ps.lO⟩, Blk.far h.zD (Ne.symm h.nd.1) _, Blk.far h.zF (Ne.symm h.nf.1) _, Blk.far h.zB (Ne.symm h.nb.1) _, h.nd, h.nf, h.nb, h.df, h.db, h.fb, h.lD, h.lF, h.lB⟩
theorem PB.setK {w wr : World} {gR gK gO gD gF gB : Nat} {R K O D F : List Int} {B : List Bool} (h : PB w wr gR gK gO gD gF gB R K O D F B) (i : Nat) (x : Int) : PB w (wr.setCell ⟨gK, i, none⟩ (.int .i64 x)) gR gK gO gD gF gB R (K.set i x) O D F B :=
  ⟨⟨h.ps.below.setCell h.ps.lK _, Blk.far h.ps.zR h.ps.rk _, h.ps.zK.set i x, Blk.far h.ps.zO (Ne.symm h.ps.ko) _, h.ps.rk, h.ps.ro, h.ps.ko, h.ps.lR, h.ps.lK, h.ps.lO⟩, Blk.far h.zD (Ne.symm h.nd.2.1) _, Blk.far h.zF (Ne.symm h.nf.2.1) _, Blk.far h.zB (Ne.symm h.nb.2.1) _, h.nd, h.nf, h.nb, h.df, h.db, h.fb, h.lD, h.lF, h.lB⟩
theorem PB.setO {w wr : World} {gR gK gO gD gF gB : Nat} {R K O D F : List Int} {B : List Bool} (h : PB w wr gR gK gO gD gF gB R K O D F B) (i : Nat) (x : Int) : PB w (wr.setCell ⟨gO, i, none⟩ (.int .i64 x)) gR gK gO gD gF gB R K (O.set i x) D F B :=
  ⟨⟨h.ps.below.setCell h.ps.lO _, Blk.far h.ps.zR h.ps.ro _, Blk.far h.ps.zK h.ps.ko _, h.ps.zO.set i x, h.ps.rk, h.ps.ro, h.ps.ko, h.ps.lR, h.ps.lK, h.ps.lO⟩, Blk.far h.zD (Ne.symm h.nd.2.2) _, Blk.far h.zF (Ne.symm h.nf.2.2) _, Blk.far h.zB (Ne.symm h.nb.2.2) _, h.nd, h.nf, h.nb, h.df, h.db, h.fb, h.lD, h.lF, h.lB⟩
theorem PS.far {w wr : World} {gR gK gO : Nat} {R K O : List Int} (h : PS w wr gR gK gO R K O) {p : Addr} (n : gR ≠ p.block ∧ gK ≠ p.block ∧ gO ≠ p.block) (hl : w.heap.size ≤ p.block) (u : Value) : PS w (wr.setCell p u) gR gK gO R K O :=
  ⟨h.below.setCell hl _, Blk.far h.zR n.1 _, Blk.far h.zK n.2.1 _, Blk.far h.zO n.2.2 _, h.rk, h.ro, h.ko, h.lR, h.lK, h.lO⟩
theorem PB.setD {w wr : World} {gR gK gO gD gF gB : Nat} {R K O D F : List Int} {B : List Bool} (h : PB w wr gR gK gO gD gF gB R K O D F B) (i : Nat) (x : Int) : PB w (wr.setCell ⟨gD, i, none⟩ (.int .i64 x)) gR gK gO gD gF gB R K O (D.set i x) F B :=
  ⟨h.ps.far h.nd h.lD _, h.zD.set i x, Blk.far h.zF (Ne.symm h.df) _, Blk.far h.zB (Ne.symm h.db) _, h.nd, h.nf, h.nb, h.df, h.db, h.fb, h.lD, h.lF, h.lB⟩
theorem PB.setF {w wr : World} {gR gK gO gD gF gB : Nat} {R K O D F : List Int} {B : List Bool} (h : PB w wr gR gK gO gD gF gB R K O D F B) (i : Nat) (x : Int) : PB w (wr.setCell ⟨gF, i, none⟩ (.int .i64 x)) gR gK gO gD gF gB R K O D (F.set i x) B :=
  ⟨h.ps.far h.nf h.lF _, Blk.far h.zD h.df _, h.zF.set i x, Blk.far h.zB (Ne.symm h.fb) _, h.nd, h.nf, h.nb, h.df, h.db, h.fb, h.lD, h.lF, h.lB⟩
theorem PB.setB {w wr : World} {gR gK gO gD gF gB : Nat} {R K O D F : List Int} {B : List Bool} (h : PB w wr gR gK gO gD gF gB R K O D F B) (i : Nat) (x : Bool) : PB w (wr.setCell ⟨gB, i, none⟩ (.bool x)) gR gK gO gD gF gB R K O D F (B.set i x) :=
  ⟨h.ps.far h.nb h.lB _, Blk.far h.zD h.db _, Blk.far h.zF h.fb _, h.zB.set i x, h.nd, h.nf, h.nb, h.df, h.db, h.fb, h.lD, h.lF, h.lB⟩
/-- The blocks of a search are new: they are told apart by what they hold. -/
theorem PS.pb {w wr V : World} {gR gK gO gD gF gB n : Nat} {R K O : List Int} (h : PS w wr gR gK gO R K O) (hb : Below wr.heap.size wr V) (hn : 1 ≤ n) (hD : ZBlk V gD (List.replicate n 1099511627776)) (hF : ZBlk V gF (List.replicate n (-1))) (hB : BBlk V gB (List.replicate n false))
    (lD : wr.heap.size ≤ gD) (lF : wr.heap.size ≤ gF) (lB : wr.heap.size ≤ gB) : PB w V gR gK gO gD gF gB R K O (List.replicate n 1099511627776) (List.replicate n (-1)) (List.replicate n false) := by
  have h1 := Blk.lt h.zR
  have h2 := Blk.lt h.zK
  have h3 := Blk.lt h.zO
  have hs := h.below.size
  have cD := hD.at (i := 0) (by simp; omega)
  have cF := hF.at (i := 0) (by simp; omega)
  have cB := hB.at (i := 0) (b := false) (by rw [List.getElem?_replicate, if_pos (by omega)])
  rw [at0_replicate n _ 0 (by omega)] at cD cF
  refine ⟨⟨bseqJ h.below hb, Blk.later h.zR hb, Blk.later h.zK hb, Blk.later h.zO hb, h.rk, h.ro, h.ko, h.lR, h.lK, h.lO⟩, hD, hF, hB, by omega, by omega, by omega, fun e => ?_, fun e => ?_, fun e => ?_, by omega, by omega, by omega⟩
  · subst e; rw [cD] at cF; simp at cF
  · subst e; rw [cD] at cB; simp at cB
  · subst e; rw [cF] at cB; simp at cB
theorem goodC.lo {C : List (List Int)} {n : Nat} (hg : goodC C) (hn : C.length = n) (i j : Nat) (hi : i < n) (hj : j < n) : 0 ≤ cst C i j := by
  have hxs : C[i]? = some C[i] := List.getElem?_eq_getElem (by omega)
  have h := hg.2.2 C[i] (List.getElem_mem _)
  unfold cst
  rw [hxs]
  exact (h.2 _ (mem_at0 h.1 (by omega))).1
theorem goodC.hi {C : List (List Int)} {n : Nat} (hg : goodC C) (hn : C.length = n) (i j : Nat) (hi : i < n) (hj : j < n) : cst C i j ≤ 1000 := by
  have hxs : C[i]? = some C[i] := List.getElem?_eq_getElem (by omega)
  have h := hg.2.2 C[i] (List.getElem_mem _)
  unfold cst
  rw [hxs]
  exact (h.2 _ (mem_at0 h.1 (by omega))).2
/-- 'make' of n numbers, as a fact for regions that draw their order. -/
theorem make_fun (n : Nat) (hn : n ≤ 1000) : ∃ mk : World → World, ∀ W, (Instr.makeSlice 24 (.int .i64 (n : Nat)) (.int .i64 (n : Nat))).run Try.prog W = .ok (.slice (some ⟨W.heap.size, 0, none⟩) n n) (mk W) ∧ ZBlk (mk W) W.heap.size (List.replicate n 0) ∧ Below W.heap.size W (mk W) := by
  suffices h : ∀ W, ∃ w' : World, (Instr.makeSlice 24 (.int .i64 (n : Nat)) (.int .i64 (n : Nat))).run Try.prog W = .ok (.slice (some ⟨W.heap.size, 0, none⟩) n n) w' ∧ ZBlk w' W.heap.size (List.replicate n 0) ∧ Below W.heap.size W w' from ⟨fun W => Classical.choose (h W), fun W => Classical.choose_spec (h W)⟩
  intro W
  obtain ⟨i, h2, h3, h4, h5⟩ := info_parts info_intJ
  obtain ⟨w', hrun, hown, hgr⟩ := run_make_full (P := Try.prog) W W.heap.size 24 3 i (.int .i64 0) 1 Try.underlying24 h2 h3 h4 .i64 .i64 n (by rw [h5]; omega) (by unfold maxLen; omega) (Nat.le_refl _)
  refine ⟨w', hrun, ?_, (Below.refl _ _).grown hgr (Nat.le_refl _) (fun k hk => by cases hk)⟩
  have := blk_of_own hown
  have e : (madeCells (Value.int IntKind.i64 0).cells (n * 1)).toList = (List.replicate n (0 : Int)).map (fun x : Int => Value.int .i64 x) := by
    rw [Nat.mul_one]
    show (madeCells #[Value.int IntKind.i64 0] n).toList = _
    rw [toList_madeCells_one]
    simp
  rw [e] at this
  exact this
theorem make_funb (n : Nat) (hn : n ≤ 1000) : ∃ mk : World → World, ∀ W, (Instr.makeSlice 59 (.int .i64 (n : Nat)) (.int .i64 (n : Nat))).run Try.prog W = .ok (.slice (some ⟨W.heap.size, 0, none⟩) n n) (mk W) ∧ BBlk (mk W) W.heap.size (List.replicate n false) ∧ Below W.heap.size W (mk W) := by
  suffices h : ∀ W, ∃ w' : World, (Instr.makeSlice 59 (.int .i64 (n : Nat)) (.int .i64 (n : Nat))).run Try.prog W = .ok (.slice (some ⟨W.heap.size, 0, none⟩) n n) w' ∧ BBlk w' W.heap.size (List.replicate n false) ∧ Below W.heap.size W w' from ⟨fun W => Classical.choose (h W), fun W => Classical.choose_spec (h W)⟩
  intro W
  obtain ⟨i, h2, h3, h4, h5⟩ := info_parts info_boolJ
  obtain ⟨w', hrun, hown, hgr⟩ := run_make_full (P := Try.prog) W W.heap.size 59 4 i (.bool false) 1 Try.underlying59 h2 h3 h4 .i64 .i64 n (by rw [h5]; omega) (by unfold maxLen; omega) (Nat.le_refl _)
  refine ⟨w', hrun, ?_, (Below.refl _ _).grown hgr (Nat.le_refl _) (fun k hk => by cases hk)⟩
  have := blk_of_own hown
  have e : (madeCells (Value.bool false).cells (n * 1)).toList = (List.replicate n false).map (fun b : Bool => Value.bool b) := by
    rw [Nat.mul_one]
    show (madeCells #[Value.bool false] n).toList = _
    rw [toList_madeCells_one]
    simp
  rw [e] at this
  exact this
end Go.Proofs.Ytkecdjdggkpdpaa
